/- A filter of no keys says of every key that it is not there. No condition. -/
import Derived.Test.YtkinddhbdjbdgaaLives
import Derived.Test.YtkinddhbdjbdgaaRows
import Derived.ProofKit
import Derived.OpenShut
import Derived.ShutString
import Derived.ChangeOld
import Derived.Below
namespace Go.Proofs.Ytkinddhbdjbdgaa
open Go.ChangeShapes Go.WideShapes Go.ChangeAt Go.RowKit
open Go.ChangeMaps (open_string shut_string)

/-- the bytes of a filter of no keys -/
def noXs (many : Nat) : List Int := (List.replicate 9 (0 : Int)).set 8 many
theorem noXs_length (many : Nat) : (noXs many).length = 8 + 1 := by simp [noXs]
theorem noXs_last (many : Nat) : (noXs many).getD 8 0 = (many : Int) := by simp [noXs, List.getD]
theorem noXs_zero (many j : Nat) (hj : j < 8) : (noXs many).getD j 0 = 0 := by
  unfold noXs
  rw [List.getD_eq_getElem?_getD, List.getElem?_set_ne (by omega), List.getElem?_replicate, if_pos (by omega)]
  rfl
theorem bitAt_lt (h : Int) (sz i : Nat) (hs : 0 < sz) : bitAt h sz i < 8 * sz := by
  unfold bitAt
  have h1 := Int.emod_lt_of_pos (aAt h i) (b := 8 * (sz : Int)) (by omega)
  have h2 := Int.emod_nonneg (aAt h i) (b := 8 * (sz : Int)) (by omega)
  omega
theorem no_bit (many bit : Nat) (hb : bit < 64) : bitSet (noXs many) bit = false := by
  unfold bitSet
  rw [noXs_zero _ _ (by omega), Int.zero_ediv]
  decide
theorem may_no (h : Int) (many : Nat) (hm : 1 ≤ many) : mayI (noXs many) h 8 many = false := by
  unfold mayI
  rw [Bool.eq_false_iff]
  intro hh
  rw [List.all_eq_true] at hh
  have := hh 0 (List.mem_range.2 (by omega))
  rw [no_bit _ _ (bitAt_lt h 8 0 (by omega))] at this
  cases this

set_option maxRecDepth 100000 in
set_option maxHeartbeats 1000000 in
theorem empty_any (bits : Int) (s : ByteArray) (w : World) (h0 : 0 ≤ bits) (h1 : bits ≤ 255) (hs : s.size ≤ maxLen) :
    Calls Try.prog 4 #[.int .u8 bits, .string s] w fun e w' => e = .returned (.bool true) ∧ Below w.heap.size w w' := by
  go_enter Try.func4, Try.ntmps4
  go_wp2_with (go_at_call 5; refine (lives_any _).mono ?_; rintro e w1 ⟨rfl, hb1⟩)
  have hb64 := Int.emod_lt_of_pos bits (b := 64) (by omega)
  have hb63 := Int.emod_nonneg bits (b := 64) (by omega)
  obtain ⟨many, hmany⟩ : ∃ many : Nat, countI (1 + bits % 64) = many := ⟨(countI (1 + bits % 64)).toNat, by unfold countI; omega⟩
  have hm : 1 ≤ many ∧ many ≤ 30 := by unfold countI at hmany; omega
  refine (callsIn_wide.1 (Build_ok 0 none 0 0 0 [] (1 + bits % 64) w1 (by omega) (by omega) (by simp) (fun i s hs => by simp at hs) (fun s hs => by simp at hs) (fun h => by simp at h) 8 (by simp))).mono ?_
  rintro e w2 ⟨rfl, hb2, hblk⟩
  have hblk2 : w2.heap[w1.heap.size]? = some (.cells (cellsOf (noXs many)) 5 (0, 0)) := by
    rw [hmany] at hblk
    exact hblk
  have hbel : Below w.heap.size w w2 := hb1.trans (hb2.mono hb1.size)
  have hbl1 := row_cell (j := 8) hblk2 (by simp [noXs])
  rw [noXs_last] at hbl1
  have chk : Calls Try.prog 7 #[.slice (some ⟨w1.heap.size, 0, none⟩) 9 9] w2 fun e w' => e = .returned (.int .i64 0) ∧ w2 = w' :=
    Check_any w1.heap.size 0 9 9 many w2 (by omega) (by omega) hbl1 (by omega) (by omega)
  have may := callsIn_wide.1 (May_any 0 w1.heap.size 8 9 many (noXs many) s w2 hs (by omega) (by omega) (noXs_length many) (noXs_last many) hm.1 hm.2 hblk2)
  rw [may_no _ _ hm.1] at may
  have CHK := Lib.hid chk
  have MAY := Lib.hid may
  clear chk may hblk2 hblk hbl1 hmany hb2
  go_wp2_with fail
  refine CHK.out.mono ?_
  rintro e w' ⟨rfl, rfl⟩
  go_wp2_with fail
  refine MAY.out.mono ?_
  rintro e w3 ⟨rfl, hb3⟩
  go_wp2_with fail
  go_ret
  exact ⟨rfl, hbel.trans (hb3.mono hbel.size)⟩
namespace bloomEmpty
theorem own : ownKnob Try.prog.godebug = none := by kernel_rfl
theorem laidOut : laidOutB Try.prog = true := by kernel_rfl
set_option maxRecDepth 100000 in
theorem lifted (os : Os) (started : os.Started) (H : Type) (enc : TypeId × Value → H) :
    ReturnsInHanded {} Try.checked os 4 .any (Rows.bloomEmptySpec.pre6 enc Try.prog Try.f4 Rows.bloomEmptyRow.domain false) (Rows.bloomEmptySpec.post enc Try.prog Try.f4 false true false false) := by
  refine returnsInHanded_of_change (C := Try.checked) own started (by kernel_rfl) Try.func4
    (ChangeSpec.witness6 (enc := enc) (C := Try.checked) false ⟨#[], #[.int .u8 0, .string ByteArray.empty], []⟩ 8 (by kernel_rfl) (by kernel_rfl) (by kernel_rfl) (by kernel_rfl)) ?_
  intro W base args ds gs before hval0 hW _ _
  have hval : ∀ (j : Nat) t v, Try.f4.params[j]? = some t → args[j]? = some v → Value.okWide Try.prog W .any base t v := hval0
  have hW' := hW
  obtain ⟨p, q, hA0, hV, rfl, hfz, hnd⟩ := hW
  have hA : DataW.TrodAll enc Try.prog W 0 (fun _ => true) true Try.f4.params.toList args.toList ds p := hA0
  rw [Try.params4] at hA hval
  obtain ⟨v0, vs0, d0, ds0, p0, q0, hargs, rfl, rfl, h0, r0⟩ := trodAll_cons hA
  obtain ⟨v1, vs1, d1, ds1, p1, q1, rfl, rfl, rfl, h1, r1⟩ := trodAll_cons r0
  obtain ⟨rfl, rfl, rfl⟩ := trodAll_nil r1
  obtain rfl : args = #[v0, v1] := by cases args; simp_all
  obtain ⟨rfl, rfl⟩ := trodVars_none hV
  have k0 := h0
  have k1 := h1
  have lt0 : ∀ x ∈ p0, x.block < W.heap.size := by obtain ⟨m, hm⟩ := k0; exact DataW.trod_lt m _ _ _ hm
  have lt1 : ∀ x ∈ p1, x.block < W.heap.size := by obtain ⟨m, hm⟩ := k1; exact DataW.trod_lt m _ _ _ hm
  obtain ⟨a0, rfl, -, -, w0⟩ := open_int Try.underlying5 (hval 0 5 v0 rfl rfl) h0
  obtain ⟨a1, rfl, -, -, w1⟩ := open_string Try.underlying9 (hval 1 9 v1 rfl rfl) h1
  clear hA0 hval0
  have hx : 0 ≤ a0 ∧ a0 ≤ 255 := by simpa [Lit.wf, IntKind.min, IntKind.max, IntKind.signed, IntKind.bits] using w0
  refine (empty_any a0 a1 W hx.1 hx.2 w1).mono fun e W' ⟨he, bel⟩ => ?_
  subst he
  exact ⟨_, rfl, _, _, _, [], _, [], hW', trodAll_mk1 (shut_bool Try.underlying4 _), (trodAll_cons_mk (Below.trod laidOut (by kernel_rfl) (of_decide_eq_true (by kernel_rfl)) k0 bel lt0) (trodAll_cons_mk (Below.trod laidOut (by kernel_rfl) (of_decide_eq_true (by kernel_rfl)) k1 bel lt1) trodAll_mk0)), rfl, bel.frame _, fun h => by cases h⟩

theorem proved : Rows.BloomEmptySaid :=
  OpenClaim.holds_of_wide 4 Try.f4 rfl rfl rfl rfl rfl rfl rfl ⟨rfl, rfl, rfl, rfl, rfl⟩ rfl rfl rfl rfl rfl (by kernel_rfl) Try.func4 (by kernel_rfl)
    (of_decide_eq_true (by kernel_rfl)) (by unfold Func.isWrapper; first | (rw [if_pos (by decide +kernel)]; kernel_rfl) | (rw [if_neg (by decide +kernel)]; exact ⟨rfl, rfl⟩))
    (fun os started H enc _ => lifted os started H enc)
end bloomEmpty
end Go.Proofs.Ytkinddhbdjbdgaa
