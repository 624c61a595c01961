/- A filter never misses a key that was put into it, however many bits more are set. No condition. -/
import Derived.Test.YtkinddhbdjbdgaaLives
import Derived.Test.YtkinddhbdjbdgaaBits
import Derived.Test.YtkinddhbdjbdgaaOpen
import Derived.Test.YtkinddhbdjbdgaaRows
import Derived.ProofKit
import Derived.OpenShut
import Derived.ShutString
import Derived.ChangeOld
import Derived.Below
import Derived.SliceStrings
import Derived.SizedLaws
import Derived.BigRegion
namespace Go.Proofs.Ytkinddhbdjbdgaa
open Go.ChangeShapes Go.WideShapes Go.ChangeAt Go.RowKit
open Go.ChangeMaps (open_string shut_string)

theorem Build_long (A : Option Addr) (len cap : Nat) (bits : Int) (w : World) (h1 : 1 ≤ bits) (h2 : bits ≤ 64) (hl : 1048576 < len) :
    Calls Try.prog 6 #[.slice A len cap, .int .i64 bits] w fun e w' => e = .returned (.tuple #[.slice none 0 0, .int .i64 2]) ∧ w = w' := by
  have hc0 : (countI bits == 0) = false := by unfold countI; rw [beq_eq_false_iff_ne]; omega
  have hd : decide ((1048576 : Int) < (len : Int)) = true := by simp; omega
  go_enter Try.func6, Try.ntmps6
  go_wp2_with (go_at_call 9; refine (count_any _ _ h1 h2).mono ?_; rintro e w' ⟨rfl, rfl⟩)
  go_ret2
  exact ⟨rfl, rfl⟩

theorem info9 : (Try.prog.info? 9).map (fun i => (i.zero, i.size, i.bytes)) = some (some (.string ByteArray.empty), 1, 16) := by kernel_rfl

/-- a slice that owns its row has a shape -/
theorem own_shape {W : World} {base e size n : Nat} {v : Value} {xs : List Value} (h : W.ownsRow base e size v n xs) :
    ∃ A cap g, v = .slice A n cap ∧ (0 < n → A = some ⟨g, 0, none⟩ ∧ g < W.heap.size ∧ base ≤ g) := by
  rcases h.2 with ⟨rfl, rfl⟩ | ⟨g, cap, cur, rfl, hb, hh, _⟩
  · exact ⟨none, 0, 0, rfl, fun h => by omega⟩
  · exact ⟨_, cap, g, rfl, fun _ => ⟨rfl, (Array.getElem?_eq_some_iff.1 hh).1, hb⟩⟩

set_option maxRecDepth 100000 in
set_option maxHeartbeats 1000000 in
theorem none_any (A C : Option Addr) (ss : List ByteArray) (ms : List Int) (cap cap2 : Nat) (bits : Int) (w : World) (hss : ∀ s ∈ ss, s.size ≤ maxLen)
    (hA : Reads w w.heap.size 1 A ss.length (ss.map Value.string)) (hC : Reads w w.heap.size 1 C ms.length (ms.map (Value.int .u16))) (hms : ∀ m ∈ ms, 0 ≤ m ∧ m ≤ 65535)
    (hl1 : ss.length * 16 ≤ 140737488351232) (hl2 : ms.length ≤ maxLen)
    (h0 : 0 ≤ bits) (h1 : bits ≤ 255) :
    Calls Try.prog 3 #[.slice A ss.length cap, .int .u8 bits, .slice C ms.length cap2] w fun e w' => e = .returned (.bool true) ∧ Below w.heap.size w w' := by
  obtain ⟨i0, hi0, hz0, hz1, hz2⟩ := info_parts info9
  unfold maxLen at hl2
  have hb64 := Int.emod_lt_of_pos bits (b := 64) (by omega)
  have hb63 := Int.emod_nonneg bits (b := 64) (by omega)
  have hcs : ∀ u ∈ ss.map Value.string, u.oneCell' = true := fun u hu => by
    obtain ⟨s, _, rfl⟩ := List.mem_map.1 hu; rfl
  have HR := Lib.hid hA
  have HC := Lib.hid hC
  clear hA hC
  go_enter Try.func3, Try.ntmps3
  go_wp2_with (first | (go_at_call 5; refine (lives_any _).mono ?_; rintro e w1 ⟨rfl, hb1⟩) | (at_builtin; refine wpList_append_any _ rfl (.tmp 14) (.tmp 15) _ rfl w1.heap.size 9 i0 _ 1 16 Try.underlying22 hi0 hz0 hz1 hz2 rfl (by omega) (.slice (some ⟨w1.heap.size, 0, none⟩) 0 0) 0 [] rfl ⟨rfl, .inr ⟨_, _, _, rfl, Nat.le_refl _, World.alloc_heap_new _ _, Nat.le_refl _, Nat.zero_le _, rfl, rfl⟩⟩ w.heap.size A ss.length cap (ss.map Value.string) rfl ((HR.out.below hb1).alloc hb1.size _) hcs (by unfold maxLen; omega) (by omega) (by simp) ?_; intro v1 w2 hown1 hg1 hat1))
  simp only [Nat.zero_add, List.nil_append] at hown1
  have hb2 : Below w.heap.size w w2 := (hb1.alloc hb1.size _).grown hg1 (by simp; have := hb1.size; omega) (fun k hk => by simp [Value.ownBlock] at hk; have := hb1.size; omega)
  obtain ⟨A2, c2, g2, rfl, hA2⟩ := own_shape hown1
  have hcell2 : ∀ i s, ss[i]? = some s → w2.cell? ⟨g2, 0 + i, none⟩ = some (.string s) := fun i s hs => by
    have hi : i < ss.length := (List.getElem?_eq_some_iff.1 hs).1
    obtain ⟨rfl, _, _⟩ := hA2 (by omega)
    rw [Nat.zero_add, World.ownsRow.cellAt hown1 i (by omega), List.getElem?_map, hs]; rfl
  have HCELL := Lib.hid hcell2
  have HA2 := Lib.hid hA2
  have HB2 := Lib.hid hb2
  clear hcell2 hA2 hb2 hown1 hg1 hat1 hb1
  obtain ⟨many, hmany⟩ : ∃ many : Nat, countI (1 + bits % 64) = many := ⟨(countI (1 + bits % 64)).toNat, by unfold countI; omega⟩
  have hm : 1 ≤ many ∧ many ≤ 30 := by unfold countI at hmany; omega
  by_cases hlong : 1048576 < ss.length
  · refine (Build_long _ _ _ _ _ (by omega) (by omega) hlong).mono ?_
    rintro e w3 ⟨rfl, rfl⟩
    go_wp2
    go_ret
    exact ⟨rfl, HB2.out⟩
  · obtain ⟨sz, hsz⟩ : ∃ sz : Nat, (if ((1 + bits % 64) * ss.length + 7) / 8 < 8 then 8 else ((1 + bits % 64) * ss.length + 7) / 8) = (sz : Int) := ⟨(max (((1 + bits % 64) * ss.length + 7) / 8) 8).toNat, by split <;> omega⟩
    have hnl : (1 + bits % 64) * ss.length ≤ 64 * 1048576 := Int.mul_le_mul (by omega) (by omega) (by omega) (by omega)
    have hszb : 8 ≤ sz ∧ (sz : Int) ≤ 8388609 := by split at hsz <;> omega
    refine (callsIn_wide.1 (Build_ok 0 A2 g2 0 c2 ss (1 + bits % 64) w2 (by omega) (by omega) (by omega) HCELL.out hss (fun h => ⟨(HA2.out h).2.1, (HA2.out h).1⟩) sz hsz)).mono ?_
    rintro e w3 ⟨rfl, hb3, hblk⟩
    rw [hmany, Int.toNat_natCast] at hblk
    have hgood := good_first ss sz many (by omega) (by omega)
    have hbel : Below w.heap.size w w3 := HB2.out.trans (hb3.mono HB2.out.size)
    obtain ⟨xs0, hxs⟩ : ∃ xs0, (keysTo ss sz many ss.length).set sz (many : Int) = xs0 := ⟨_, rfl⟩
    rw [hxs] at hblk hgood
    have hg3 : w.heap.size ≤ w2.heap.size := HB2.out.size
    have HBL := Lib.hid hblk
    have HBEL := Lib.hid hbel
    clear hblk hbel hxs hnl hsz hb3 hmany
    go_wp2
    go_loopw [9] (fun i wr => ∃ (k : Nat) (xs : List Int), k ≤ ms.length ∧ i = .int .i64 k ∧ Good ss sz many xs ∧ wr.heap[w2.heap.size]? = some (.cells (cellsOf xs) 5 (0, 0)) ∧ Below w.heap.size w wr) (fun i _ => ms.length - (intOf i).toNat)
    case atStart => exact ⟨0, xs0, Nat.zero_le _, rfl, hgood, HBL.out, HBEL.out⟩
    case round =>
      obtain ⟨k, xs, hk, rfl, hgd, hbl, hbe⟩ := hrel
      clear HBL HBEL hgood
      have hone : decide ((1 : Int) < (sz : Int) + 1) = true := by simp; omega
      by_cases hlt : k < ms.length
      · obtain ⟨ad, u, rfl, had, hu, hcu⟩ := HC.out.at_ hlt
        obtain ⟨m, hm0, rfl⟩ : ∃ m, ms[k]? = some m ∧ u = .int .u16 m := by
          rw [List.getElem?_map] at hu
          cases h : ms[k]? with
          | none => rw [h] at hu; cases hu
          | some m => rw [h] at hu; exact ⟨m, rfl, by simpa using hu.symm⟩
        have hmr := hms m (List.mem_of_getElem? hm0)
        obtain ⟨mn, rfl⟩ : ∃ mn : Nat, m = (mn : Int) := ⟨m.toNat, by omega⟩
        have hcm : wr.cell? (ad.add k) = some (.int .u16 (mn : Int)) := (hbe.cell (by rw [block_of_add]; exact had)).trans hcu
        obtain ⟨j, hj⟩ : ∃ j : Nat, (mn : Int) % (sz : Int) = (j : Int) := ⟨mn % sz, by simp⟩
        have hjl : j < sz := by have := Int.emod_lt_of_pos (mn : Int) (b := (sz : Int)) (by omega); omega
        obtain ⟨b, hb⟩ : ∃ b : Nat, (mn : Int) % 8 = (b : Int) := ⟨mn % 8, by simp⟩
        have hbl8 : b < 8 := by omega
        have hcv := row_cell hbl (j := j) (by rw [hgd.len]; omega)
        obtain ⟨x, hx⟩ : ∃ x, xs.getD j 0 = x := ⟨_, rfl⟩
        rw [hx] at hcv
        have hfz := row_frozen (j := j) hbl
        have hset := row_set (j := j) hbl (Go.bits .or .u8 (xs.getD j 0) (2 ^ b % 256))
        have hgd2 := good_or hgd j b hjl hbl8
        rw [orAt] at hgd2
        rw [hx] at hset hgd2
        have HGD := Lib.hid hgd2
        have HSET := Lib.hid hset
        have hne : ((sz : Int) == 0) = false := by rw [beq_eq_false_iff_ne]; omega
        clear hgd hgd2 hset hx hbl
        clear hcu hu hm0 hms hss HR HC HA2 HCELL hcs hlong hi0 hz0 hz1 hz2
        go_wp2
        go_region
        go_wp2
        go_roundw
        case rel => exact ⟨k + 1, _, by omega, by go_num, HGD.out, HSET.out, (hbe.setCell (p := ⟨w2.heap.size, j, none⟩) hg3 _).drew⟩
        case measure => simp [intOf]; omega
      · have hlast := row_cell hbl (j := sz) (by rw [hgd.len]; omega)
        rw [hgd.last] at hlast
        have chk : Calls Try.prog 7 #[.slice (some ⟨w2.heap.size, 0, none⟩) (sz + 1) (sz + 1)] wr fun e w' => e = .returned (.int .i64 0) ∧ wr = w' :=
          Check_any w2.heap.size 0 (sz + 1) (sz + 1) many wr (by omega) (by omega) (by rw [show 0 + (sz + 1 - 1) = sz from by omega]; exact hlast) (by omega) (by omega)
        have CHK := Lib.hid chk
        have HGD := Lib.hid hgd
        have HBL := Lib.hid hbl
        have HBE := Lib.hid hbe
        have hgr : w2.heap.size < wr.heap.size := (Array.getElem?_eq_some_iff.1 hbl).1
        clear chk hlast hgd hbl hbe HC hms HA2 HCELL hcs hlong hi0 hz0 hz1 hz2 hone
        go_wp2_with fail
        refine CHK.out.mono ?_
        rintro e w' ⟨rfl, rfl⟩
        go_wp2
        go_loopw [10] (fun i wr => ∃ k : Nat, k ≤ ss.length ∧ i = .int .i64 k ∧ wr.heap[w2.heap.size]? = some (.cells (cellsOf xs) 5 (0, 0)) ∧ Below w.heap.size w wr) (fun i _ => ss.length - (intOf i).toNat)
        case atStart => exact ⟨0, Nat.zero_le _, rfl, HBL.out, HBE.out⟩
        case round =>
          obtain ⟨q, hq, rfl, hbq, hbeq⟩ := hrel
          clear HBL HBE CHK
          have hsl : ss.length ≤ 9223372036854775807 := by omega
          by_cases hlt2 : q < ss.length
          · obtain ⟨ad, u, rfl, had, hu, hcu⟩ := HR.out.at_ hlt2
            obtain ⟨s, hs0, rfl⟩ : ∃ s, ss[q]? = some s ∧ u = .string s := by
              rw [List.getElem?_map] at hu
              cases h : ss[q]? with
              | none => rw [h] at hu; cases hu
              | some s => rw [h] at hu; exact ⟨s, rfl, by simpa using hu.symm⟩
            have hsm := hss s (List.mem_of_getElem? hs0)
            have hck : wr.cell? (ad.add q) = some (.string s) := (hbeq.cell (by rw [block_of_add]; exact had)).trans hcu
            have may := callsIn_wide.1 (May_any 0 w2.heap.size sz (sz + 1) many xs s wr hsm (by omega) (by omega) HGD.out.len HGD.out.last hm.1 hm.2 hbq)
            have hyes := good_may HGD.out q hlt2
            have e1 : ss.getD q ByteArray.empty = s := by rw [List.getD_eq_getElem?_getD, hs0]; rfl
            rw [e1] at hyes
            rw [hyes] at may
            have MAY := Lib.hid may
            have HBQ := Lib.hid hbq
            have HBEQ := Lib.hid hbeq
            clear may hyes e1 hu hcu hss hs0 hbq hbeq
            go_wp2_with fail
            refine MAY.out.mono ?_
            rintro e w5 ⟨rfl, hb5⟩
            have hgq : w2.heap.size < wr.heap.size := (Array.getElem?_eq_some_iff.1 HBQ.out).1
            have H5 : Hid (w5.heap[w2.heap.size]? = some (.cells (cellsOf xs) 5 (0, 0))) := Lib.hid ((hb5.block _ hgq).trans HBQ.out)
            have B5 : Hid (Below w.heap.size w w5) := Lib.hid (HBEQ.out.trans (hb5.mono HBEQ.out.size))
            clear hb5 hck
            go_wp2
            go_roundw
            case rel => exact ⟨q + 1, by omega, by go_num, H5.out, B5.out⟩
            case measure => simp [intOf]; omega
          · go_wp2
            go_ret
            exact ⟨rfl, hbeq⟩

namespace bloomNone
theorem own : ownKnob Try.prog.godebug = none := by kernel_rfl
theorem laidOut : laidOutB Try.prog = true := by kernel_rfl
set_option maxRecDepth 100000 in
theorem lifted (os : Os) (started : os.Started) (H : Type) (enc : TypeId × Value → H) :
    ReturnsInHanded {} Try.checked os 3 .any (Rows.bloomNoneSpec.pre6 enc Try.prog Try.f3 Rows.bloomNoneRow.domain false) (Rows.bloomNoneSpec.post enc Try.prog Try.f3 false true false false) := by
  refine returnsInHanded_of_change_sized (C := Try.checked) own started (by kernel_rfl) Try.func3
    (ChangeSpec.witness6 (enc := enc) (C := Try.checked) false ⟨#[], #[.slice none 0 0, .int .u8 0, .slice none 0 0], []⟩ 8 (by kernel_rfl) (by kernel_rfl) (by kernel_rfl) (by kernel_rfl)) ?_
  intro W base args ds gs before hval0 hW _ hsz _
  have hval : ∀ (j : Nat) t v, Try.f3.params[j]? = some t → args[j]? = some v → Value.okWide Try.prog W .any base t v := hval0
  have hW' := hW
  obtain ⟨p, q, hA0, hV, rfl, hfz, hnd⟩ := hW
  have hA : DataW.TrodAll enc Try.prog W 0 (fun _ => true) true Try.f3.params.toList args.toList ds p := hA0
  have hsz' : (DataW.weightsEach Try.prog (Try.f3.params.toList ++ DataSpec.varTypes Try.prog Rows.bloomNoneSpec.plain) (ds ++ gs)).all (· ≤ reachBytes) = true := hsz
  rw [Try.params3] at hA hval hsz'
  obtain ⟨v0, vs0, d0, ds0, p0, q0, hargs, rfl, rfl, h0, r0⟩ := trodAll_cons hA
  obtain ⟨v1, vs1, d1, ds1, p1, q1, rfl, rfl, rfl, h1, r1⟩ := trodAll_cons r0
  obtain ⟨v2, vs2, d2, ds2, p2, q2, rfl, rfl, rfl, h2, r2⟩ := trodAll_cons r1
  obtain ⟨rfl, rfl, rfl⟩ := trodAll_nil r2
  obtain rfl : args = #[v0, v1, v2] := by cases args; simp_all
  obtain ⟨rfl, rfl⟩ := trodVars_none hV
  have k0 := h0
  have k1 := h1
  have k2 := h2
  have lt0 : ∀ x ∈ p0, x.block < W.heap.size := by obtain ⟨m, hm⟩ := k0; exact DataW.trod_lt m _ _ _ hm
  have lt1 : ∀ x ∈ p1, x.block < W.heap.size := by obtain ⟨m, hm⟩ := k1; exact DataW.trod_lt m _ _ _ hm
  have lt2 : ∀ x ∈ p2, x.block < W.heap.size := by obtain ⟨m, hm⟩ := k2; exact DataW.trod_lt m _ _ _ hm
  obtain ⟨A, n0, c0, rfl⟩ := okWide_slice Try.underlying22 (hval 0 22 v0 rfl rfl)
  obtain ⟨a1, rfl, -, -, w1⟩ := open_int Try.underlying5 (hval 1 5 v1 rfl rfl) h1
  obtain ⟨C, n2, c2, rfl⟩ := okWide_slice Try.underlying23 (hval 2 23 v2 rfl rfl)
  have hx : 0 ≤ a1 ∧ a1 ≤ 255 := by simpa [Lit.wf, IntKind.min, IntKind.max, IntKind.signed, IntKind.bits] using w1
  obtain ⟨ss, rfl, hs2, hs3, hs4⟩ := open_reads_strings (j := 0) Try.underlying22 Try.underlying9 (by kernel_rfl) (by kernel_rfl) h0 hsz' rfl rfl
  obtain ⟨ms, rfl, hm2, hm3, hm4⟩ := open_reads_ints Try.underlying23 Try.underlying29 (by kernel_rfl) h2
  clear hA0 hval0 hsz hsz'
  refine (none_any A C ss ms c0 c2 a1 W hs2 hs3 hm3 (fun m hm => by simpa [Lit.wf, IntKind.min, IntKind.max, IntKind.signed, IntKind.bits] using hm2 m hm) hs4 hm4 hx.1 hx.2).mono fun e W' ⟨he, bel⟩ => ?_
  subst he
  exact ⟨_, rfl, _, _, _, [], _, [], hW', trodAll_mk1 (shut_bool Try.underlying4 _), (trodAll_cons_mk (Below.trod laidOut (by kernel_rfl) (of_decide_eq_true (by kernel_rfl)) k0 bel lt0) (trodAll_cons_mk (Below.trod laidOut (by kernel_rfl) (of_decide_eq_true (by kernel_rfl)) k1 bel lt1) (trodAll_cons_mk (Below.trod laidOut (by kernel_rfl) (of_decide_eq_true (by kernel_rfl)) k2 bel lt2) trodAll_mk0))), rfl, bel.frame _, fun h => by cases h⟩

theorem proved : Rows.BloomNoneSaid :=
  OpenClaim.holds_of_wide 3 Try.f3 rfl rfl rfl rfl rfl rfl rfl ⟨rfl, rfl, rfl, rfl, rfl⟩ rfl rfl rfl rfl rfl (by kernel_rfl) Try.func3 (by kernel_rfl)
    (of_decide_eq_true (by kernel_rfl)) (by unfold Func.isWrapper; first | (rw [if_pos (by decide +kernel)]; kernel_rfl) | (rw [if_neg (by decide +kernel)]; exact ⟨rfl, rfl⟩))
    (fun os started H enc _ => lifted os started H enc)
end bloomNone
end Go.Proofs.Ytkinddhbdjbdgaa
