/- SchedAgain's walk. -/
import Derived.Test.YtekgdakkkbnpiaaTwo
import Derived.Deep.RegionHeld3
import Derived.Deep.CutRange
namespace Go.Proofs.Ytekgdakkkbnpiaa
set_option linter.unusedVariables false
set_option linter.unusedSimpArgs false
open Go Go.RowKit

theorem adp (g o j : Nat) : (⟨g, o, none⟩ : Addr).add j = ⟨g, o + j, none⟩ := by
  unfold Addr.add
  by_cases h : j = 0 <;> simp [h]
theorem size26 (W : World) : (sizeOf (Try.prog.elem 26)).run Try.prog W = .ok 1 W := by kernel_rfl
theorem elem26 : Try.prog.underlying 26 = some (.slice (Try.prog.elem 26)) := by kernel_rfl
theorem run_from (g n cap m : Nat) (hm : m ≤ n) (hn : n ≤ cap) : ∃ A, (∀ W, (Instr.slice 26 (.slice (some ⟨g, 0, none⟩) n cap) (some (.int .i64 (m : Int))) none none).run Try.prog W = .ok (.slice A (n - m) (cap - m)) W) ∧
    ∀ (w : World) (xs : List Value), Reads w w.heap.size 1 (some ⟨g, 0, none⟩) n xs → Reads w w.heap.size 1 A (n - m) (xs.drop m) := by
  refine ⟨if cap = m then some ⟨g, 0, none⟩ else some ⟨g, m, none⟩, fun W => ?_, fun w xs hr => ?_⟩
  · rw [run_slice_l W 26 (some ⟨g, 0, none⟩) n cap elem26 .i64 (m : Int) (by omega) (by omega), size26]
    simp only [Result.andThen, sliced, Int.toNat_natCast, Option.map_some, Nat.mul_one, adp, Nat.zero_add]
  · refine ⟨by have := hr.1; simp; omega, fun h0 => ?_⟩
    obtain ⟨ad, e, hb, hc⟩ := hr.2 (by omega)
    injection e with e; subst e
    refine ⟨⟨g, m, none⟩, by rw [if_neg (by omega)], hb, fun j u hu => ?_⟩
    rw [List.getElem?_drop] at hu
    have := hc _ u hu
    rw [adp] at this ⊢
    rw [← this, Nat.zero_add]
theorem run_upto (g n cap m : Nat) (hm : m ≤ n) (hn : n ≤ cap) : (∀ W, (Instr.slice 26 (.slice (some ⟨g, 0, none⟩) n cap) none (some (.int .i64 (m : Int))) none).run Try.prog W = .ok (.slice (some ⟨g, 0, none⟩) m cap) W) ∧
    ∀ (w : World) (xs : List Value), Reads w w.heap.size 1 (some ⟨g, 0, none⟩) n xs → Reads w w.heap.size 1 (some ⟨g, 0, none⟩) m (xs.take m) := by
  refine ⟨fun W => ?_, fun w xs hr => ?_⟩
  · rw [run_slice_h W 26 (some ⟨g, 0, none⟩) n cap elem26 .i64 (m : Int) (by omega) (by omega), size26]
    simp only [Result.andThen, sliced, Int.toNat_natCast, Option.map_some, Nat.zero_mul, adp, Nat.zero_add, Nat.sub_zero, ite_self]
  · refine ⟨by have := hr.1; simp; omega, fun h0 => ?_⟩
    obtain ⟨ad, e, hb, hc⟩ := hr.2 (by omega)
    refine ⟨ad, e, hb, fun j u hu => ?_⟩
    rw [List.getElem?_take] at hu
    split at hu
    · exact hc j u hu
    · cases hu
theorem reads_ownv {w : World} {base e n cap : Nat} {A : Option Addr} {xs : List Value} (h : w.ownsRow base e 1 (.slice A n cap) n xs) : Reads w w.heap.size 1 A n xs := by
  rcases h.2 with ⟨e, h0⟩ | ⟨g', cap', cur, e, -, -, -, -⟩
  · obtain ⟨rfl, rfl, rfl⟩ : A = none ∧ n = 0 ∧ cap = 0 := by simpa using e
    obtain rfl : xs = [] := List.eq_nil_of_length_eq_zero (by have := h.1; simpa using this)
    exact Reads.none_
  · obtain ⟨rfl, -⟩ : A = some ⟨g', 0, none⟩ ∧ cap = cap' := by simpa using e
    refine ⟨by have := h.1; omega, fun hn => ⟨_, rfl, (h.lt g' rfl).2, fun j u hu => ?_⟩⟩
    have hj : j < n := by have := h.1; have := (List.getElem?_eq_some_iff.1 hu).1; omega
    rw [adp, Nat.zero_add, World.ownsRow.cellAt h j (by omega), hu]
/-- what is in a pair's memory -/
theorem Going.cells {a : Adr} {w0 : World} {B : Nat} {L : Nat → List (Int × Int)} {k n : Nat} {s : AS} {F : Nat → Prop} {Ts : List Nat} {w : World} (h : Going a w0 B L k n s F Ts w) (ha : a.w0 = w0) :
    w.cell? ⟨a.P, 0, none⟩ = some (.pointer (some ⟨a.S, 0, none⟩)) ∧ ∃ v, w.cell? ⟨a.P, 2, none⟩ = some v ∧ w.ownsRow 0 3 1 v s.told.length (s.told.map (Value.int .i64)) ∧ ∀ j, v.ownBlock = some j → F j ∧ w0.heap.size ≤ j ∧ j ≠ a.P := by
  obtain ⟨C1, D1, hrep1, ⟨m, hm, hpm⟩, hdd, hf⟩ := h.ful
  obtain ⟨tv, hP, hrow, hb⟩ := hpm.own hm
  refine ⟨Blk.cell (t := 41) hP 0, tv, Blk.cell (t := 41) hP 2, hrow, fun j hj => ?_⟩
  obtain ⟨q1, q2, q3⟩ := hb j hj
  exact ⟨(hf j).2 (.inr q1), by rw [← ha]; exact q3, fun e => by rw [e, hpm.tgP] at q2; omega⟩
theorem Going.inF {a : Adr} {w0 : World} {B : Nat} {L : Nat → List (Int × Int)} {k n : Nat} {s : AS} {F : Nat → Prop} {Ts : List Nat} {w : World} (h : Going a w0 B L k n s F Ts w) (ha : a.w0 = w0) : F a.P ∧ w0.heap.size ≤ a.P := by
  obtain ⟨C1, D1, hrep1, ⟨m, hm, hpm⟩, hdd, hf⟩ := h.ful
  obtain ⟨tv, hP, -⟩ := hpm.pair
  exact ⟨(hf _).2 (.inr ((hm.1 _).2 (by rw [hP]; rfl))), by rw [← ha]; exact (hpm.tgIn a.P (by rw [hpm.tgP]; omega)).1⟩
theorem enabledA_le (s : AS) : (enabledA s).length ≤ s.ts.length := fl_le _ _
theorem own_nums {w : World} {base n : Nat} {v : Value} {l : List Nat} (h : w.ownsRow base 3 1 v n (nums l)) : w.ownsRow base 3 1 v n ((l.map fun i : Nat => (i : Int)).map (Value.int .i64)) := by
  rw [List.map_map]; exact h
theorem own_empty (w : World) : (w.alloc (.cells #[] 3)).ownsRow w.heap.size 3 1 (.slice (some ⟨w.heap.size, 0, none⟩) 0 0) 0 [] := ⟨rfl, .inr ⟨_, 0, #[], rfl, Nat.le_refl _, World.alloc_heap_new w _, Nat.le_refl _, Nat.zero_le _, rfl, rfl⟩⟩
theorem cell_chg {C : Nat → Prop} {w w' : World} (h : Chg C w w') {p : Addr} {v : Value} (hp : ¬ C p.block) (hc : w.cell? p = some v) : w'.cell? p = some v := (h.cell (World.block_lt_of_cell? w _ hc) hp).trans hc
theorem Going.enabled_ {a : Adr} {w0 : World} {B : Nat} {L : Nat → List (Int × Int)} {k n : Nat} {s : AS} {F : Nat → Prop} {Ts : List Nat} {w : World} (h : Going a w0 B L k n s F Ts w) (hk : k < 3000000000000000000) :
    Calls Try.prog 12 #[ptr a.S] w fun e w' => ∃ v, e = .returned v ∧ w'.ownsRow w.heap.size 3 1 v (enabledA s).length (nums (enabledA s)) ∧ Below w.heap.size w w' := by
  obtain ⟨C, hrep⟩ := h.ful.rep_
  have := Enabled_any hrep (by show s.steps < _; have := h.steps; omega)
  rw [sc_enabled] at this; exact this
theorem Going.steps_ {a : Adr} {w0 : World} {B : Nat} {L : Nat → List (Int × Int)} {k n : Nat} {s : AS} {F : Nat → Prop} {Ts : List Nat} {w : World} (h : Going a w0 B L k n s F Ts w) :
    Calls Try.prog 18 #[ptr a.S] w fun e w' => e = .returned (.int .i64 (s.steps : Int)) ∧ w = w' := by
  obtain ⟨C, hrep⟩ := h.ful.rep_
  obtain ⟨⟨tv, M, g1, -⟩, -⟩ := hrep
  refine (steps_any g1).mono ?_
  rintro e w' ⟨rfl, rfl⟩
  exact ⟨rfl, rfl⟩
theorem reads_owns {w : World} {base e g n cap : Nat} {xs : List Value} (h : w.ownsRow base e 1 (.slice (some ⟨g, 0, none⟩) n cap) n xs) : Reads w w.heap.size 1 (some ⟨g, 0, none⟩) n xs := by
  refine ⟨by have := h.1; omega, fun hn => ⟨_, rfl, (h.lt g rfl).2, fun j u hu => ?_⟩⟩
  have hj : j < n := by have := h.1; have := (List.getElem?_eq_some_iff.1 hu).1; omega
  rw [adp, Nat.zero_add, World.ownsRow.cellAt h j (by omega), hu]
theorem again_b1 {w5 w6 : World} (hg : (w5.alloc (.cells #[] 3)).drew.grownBy w6 (Value.slice (some ⟨w5.heap.size, 0, none⟩) 0 0).ownBlock) : Below w5.heap.size w5 w6 :=
  (((Below.refl _ w5).alloc (Nat.le_refl _) _).trans ((below_drew _).mono (by simp))).grown hg (by simp [World.drew]) (fun j hj => by simp [Value.ownBlock] at hj; omega)
theorem again_b3 {n : Nat} {x3 x5 : World} (hg : (x3.alloc (.cells #[] 3)).grownBy x5 (Value.slice (some ⟨x3.heap.size, 0, none⟩) 0 0).ownBlock) (hn : n ≤ x3.heap.size) : Below n x3 x5 :=
  (((Below.refl _ x3).alloc (Nat.le_refl _) _).grown hg (by simp) (fun j hj => by simp [Value.ownBlock] at hj; omega)).mono hn
theorem again_b2 {w5 w6 w7 : World} {v : Value} {n e size : Nat} {xs : List Value} (hb : Below w5.heap.size w5 w6) (ho : w6.ownsRow w5.heap.size e size v n xs) (hg : w6.grownBy w7 v.ownBlock) : Below w5.heap.size w5 w7 :=
  hb.grown hg hb.size (fun j hj => (ho.lt j hj).1)

set_option maxRecDepth 100000 in
set_option maxHeartbeats 8000000 in
theorem again_any {w : World} {A0 : Option Addr} {n c : Nat} {ls : List TL} (hT : Reads w w.heap.size 1 A0 n (ls.map tlv)) (hL : ∀ x ∈ ls, TLok w x) (hn : n ≤ maxLen) {A1 : Option Addr} {len cp : Nat} {zs : List Int} (hz : Reads w w.heap.size 1 A1 len (zs.map (Value.int .u8))) (hzr : ∀ z ∈ zs, 0 ≤ z ∧ z ≤ 255)
    (hlen : len ≤ 1000000000) (hsum : sumTo (fun i => (Lof ls i).length) (min n 64) < 400000000) (ct : Int) (hc0 : 0 ≤ ct) (hc1 : ct ≤ 255) :
    Calls Try.prog 4 #[.slice A0 n c, .slice A1 len cp, .int .u8 ct] w fun e w' => e = .returned (.bool true) ∧ Below w.heap.size w w' := by
  have hnl : n = ls.length := by have := hT.1; simp at this; omega
  have HS := Lib.hid hsum
  have HT := Lib.hid hT
  have HL := Lib.hid hL
  have HN := Lib.hid hn
  have HZ := Lib.hid hz
  have HZR := Lib.hid hzr
  have HNL := Lib.hid hnl
  have HC := Lib.hid (And.intro hc0 hc1)
  clear hsum hT hL hn hz hzr hnl hc0 hc1
  go_enter Try.func4, Try.ntmps4
  go_wp2_with (go_at_call 8; refine (lives_any _).mono ?_; rintro e w1 ⟨rfl, hb1⟩)
  refine (begins_any hb1 HT.out HL.out HN.out).mono ?_
  rintro e w2 ⟨a, F1, Ts1, rfl, ha, hful1, hlr1, hF1, hb2⟩
  have hB2 : Below w.heap.size w w2 := hb1.trans (hb2.mono hb1.size)
  have hLR1 : ∀ i, i < min n 64 → LRead a i (Lof ls i) := fun i hi => by
    obtain ⟨x, hx⟩ : ∃ x, ls[i]? = some x := ⟨_, List.getElem?_eq_getElem (by have := HNL.out; omega)⟩
    unfold Lof; rw [hx]; exact hlr1 i x hi hx
  have hgo1 : Going a w w1.heap.size (Lof ls) 0 (min n 64) (as0 (min n 64)) F1 Ts1 w2 := ⟨hful1, as0_inv _ _, as0_len _, Nat.le_refl _, hF1, hB2⟩
  have HB2 := Lib.hid hB2
  have HGO1 := Lib.hid hgo1
  have HLR1 := Lib.hid hLR1
  have HA := Lib.hid ha
  have HS12 := Lib.hid hb2.size
  have HS01 := Lib.hid hb1.size
  clear hb1 hful1 hlr1 hF1 hb2 hB2 hLR1 hgo1 ha
  unfold ptr
  go_wp2_with fail
  refine (begins_any HB2.out HT.out HL.out HN.out).mono ?_
  rintro e w3 ⟨b, F2, Ts2, rfl, hbw, hful2, hlr2, hF2, hb3⟩
  have hB3 : Below w.heap.size w w3 := HB2.out.trans (hb3.mono HB2.out.size)
  have hLR2 : ∀ i, i < min n 64 → LRead b i (Lof ls i) := fun i hi => by
    obtain ⟨x, hx⟩ : ∃ x, ls[i]? = some x := ⟨_, List.getElem?_eq_getElem (by have := HNL.out; omega)⟩
    unfold Lof; rw [hx]; exact hlr2 i x hi hx
  have hgo2 : Going b w w2.heap.size (Lof ls) 0 (min n 64) (as0 (min n 64)) F2 Ts2 w3 := ⟨hful2, as0_inv _ _, as0_len _, Nat.le_refl _, hF2, hB3⟩
  have hdis : ∀ j, F1 j → F2 j → j < w.heap.size := fun j h1 h2 => by
    have := Full.size (RP.local_ a _) HGO1.out.ful j h1
    rcases hF2 j h2 with h | h
    · exact h
    · omega
  have HGO1' := Lib.hid (HGO1.out.more hb3)
  have HGO2 := Lib.hid hgo2
  have HLR2 := Lib.hid hLR2
  have HBW := Lib.hid hbw
  have HDIS := Lib.hid hdis
  have HS23 := Lib.hid hb3.size
  have hzl : zs.length = len := by have := HZ.out.1; simpa using this
  have hek : ∀ k, k < len → ∃ (z : Int) (ad : Addr), zs[k]? = some z ∧ A1 = some ad ∧ ad.block < w.heap.size ∧ w.cell? (ad.add k) = some (.int .u8 z) ∧ 0 ≤ z ∧ z ≤ 255 := fun k hk => by
    obtain ⟨ad, u, e1, e2, e3, e4⟩ := HZ.out.at_ (k := k) hk
    rw [List.getElem?_map] at e3
    obtain ⟨z, hz1, rfl⟩ := Option.map_eq_some_iff.1 e3
    exact ⟨z, ad, hz1, e1, e2, e4, HZR.out z (List.mem_of_getElem? hz1)⟩
  have HEK := Lib.hid hek
  have HZL := Lib.hid hzl
  obtain ⟨k64, hk64⟩ : ∃ k64, min n 64 = k64 := ⟨_, rfl⟩
  have HK64 := Lib.hid hk64
  have H64 : Hid (k64 ≤ 64) := Lib.hid (by omega)
  rw [hk64] at HLR1 HLR2 HGO1' HGO2 HS
  clear hzl hek hful2 hlr2 hF2 hb3 hB3 hLR2 hgo2 hbw hdis HGO1 hk64
  unfold ptr
  go_wp2_with fail
  go_loopw [9] (fun i wr => ∃ (k : Nat) (F1 F2 : Nat → Prop), i = .int .i64 k ∧ k ≤ len ∧ Hid (Going a w w1.heap.size (Lof ls) k k64 (picksA (Lof ls) (zs.take k) (as0 k64)) F1 Ts1 wr) ∧ Hid (Going b w w2.heap.size (Lof ls) k k64 (picksA (Lof ls) (zs.take k) (as0 k64)) F2 Ts2 wr) ∧
    Hid (∀ j, F1 j → F2 j → j < w.heap.size) ∧ Hid (w3.heap.size ≤ wr.heap.size)) (fun i _ => len - (intOf i).toNat)
  case atStart => exact ⟨0, F1, F2, rfl, Nat.zero_le _, HGO1', HGO2, HDIS, Lib.hid (Nat.le_refl _)⟩
  case round =>
    clear HGO1' HGO2 HDIS
    obtain ⟨k, F1, F2, rfl, hk, E1, E2, E3, E4⟩ := hrel
    by_cases hlt : k < len
    · obtain ⟨z, ad, hzk, rfl, hadb, hzc, hz0, hz1⟩ := HEK.out k hlt
      have hct : decide ((k : Int) < (len : Int)) = true := by rw [decide_eq_true_iff]; omega
      have hcz : wr.cell? (ad.add k) = some (.int .u8 z) := (E1.out.below.cell (p := ad.add k) (by rw [block_of_add]; exact hadb)).trans hzc
      have hcP := (E1.out.cells HA.out).1
      have hwz : IntKind.i64.wrap z = z := by rw [IntKind.wrap_i64]; omega
      have HLEN := Lib.hid hlen
      have HZC := Lib.hid hzc
      have HADB := Lib.hid hadb
      obtain ⟨s, hs⟩ : ∃ s, picksA (Lof ls) (zs.take k) (as0 k64) = s := ⟨_, rfl⟩
      have hs1 : picksA (Lof ls) (zs.take (k + 1)) (as0 k64) = (pickA (Lof ls) z s).1 := by
        have : zs.take (k + 1) = zs.take k ++ [z] := by
          rw [List.take_add_one, hzk]; rfl
        rw [this, picksA_snoc, hs]
      have HS1 := Lib.hid hs1
      rw [hs] at E1 E2
      have hpk := Lib.hid ((E1.out.more (below_drew _)).pick HA.out (by have := E4.out; have := HS12.out; have := HS23.out; show _ ≤ wr.heap.size; omega) HLR1.out HS.out (by omega) z (by omega) (by omega))
      unfold ptr at hpk
      clear hzk hs hs1 hzc hadb hlen
      go_wp2_with fail
      refine wp_region_mid 9 (by kernel_rfl) (by kernel_rfl) rfl ?_
      simp only [List.take_succ_cons, List.take_zero]
      repeat still_step
      refine wpStill_nil ?_
      intro K hK
      go_simp
      refine hpk.out.mono ?_
      rintro e w4 ⟨rfl, G1, hgo1, hown1⟩
      refine hK _ _ ?_
      clear hK K
      repeat still_step
      refine wpStill_nil ?_
      obtain ⟨hg2, hd2⟩ := (E2.out.more (below_drew _)).beside E3.out hown1 hgo1.below
      have hcz4 : w4.cell? (ad.add k) = some (.int .u8 z) := (hgo1.below.cell (p := ad.add k) (by rw [block_of_add]; exact HADB.out)).trans HZC.out
      have hcP4 := (hg2.cells HBW.out).1
      have hsz4 : wr.heap.size ≤ w4.heap.size := hown1.1.size
      have hpk2 := Lib.hid ((hg2.more (below_drew _)).pick HBW.out (by have := E4.out; have := HS23.out; show _ ≤ w4.heap.size; omega) HLR2.out HS.out (by have := HLEN.out; omega) z (by omega) (by omega))
      have I1 := Lib.hid hgo1
      have I2 := Lib.hid hg2
      have I3 := Lib.hid hd2
      have I4 := Lib.hid hsz4
      unfold ptr at hpk2
      clear hcz hcP hpk hgo1 hg2 hd2 hsz4 hown1 E1 E2 E3
      go_wp2_with fail
      refine wp_region_mid 9 (by kernel_rfl) (by kernel_rfl) rfl ?_
      simp only [List.take_succ_cons, List.take_zero]
      repeat still_step
      refine wpStill_nil ?_
      intro K hK
      go_simp
      refine hpk2.out.mono ?_
      rintro e w5 ⟨rfl, G2, hgo2, hown2⟩
      refine hK _ _ ?_
      clear hK K
      repeat still_step
      refine wpStill_nil ?_
      obtain ⟨hg1, hd1⟩ := (I1.out.more (below_drew _)).beside (fun j h1 h2 => I3.out j h2 h1) hown2 hgo2.below
      have J1 := Lib.hid hg1
      have J2 := Lib.hid hgo2
      have J3 : Hid (∀ j, G1 j → G2 j → j < w.heap.size) := Lib.hid (fun j h1 h2 => hd1 j h2 h1)
      have J4 : Hid (w3.heap.size ≤ w5.heap.size) := Lib.hid (by have h1 := E4.out; have h2 := I4.out; have h3 : w4.heap.size ≤ w5.heap.size := hown2.1.size; omega)
      clear hcz4 hcP4 hpk2 hgo2 hg1 hd1 hown2 I1 I2 I3 I4 E4
      have hlen := HLEN.out
      go_wp2
      go_roundw
      case rel =>
        refine ⟨k + 1, G1, G2, by go_num, by omega, Lib.hid ?_, Lib.hid ?_, J3, J4⟩
        · rw [HS1.out]; exact J1.out
        · rw [HS1.out]; exact J2.out
      case measure => simp [intOf]; omega
    · have hct : decide ((k : Int) < (len : Int)) = false := by rw [decide_eq_false_iff_not]; omega
      obtain rfl : k = len := by omega
      rw [show zs.take k = zs by rw [List.take_of_length_le (by have := HZL.out; omega)]] at E1 E2
      have HWR : Hid (Below w.heap.size w wr) := Lib.hid E1.out.below
      have HSR : Hid (w3.heap.size ≤ wr.heap.size) := E4
      clear E2 E3 E4 HLR2 HBW
      go_wp2_with fail
      refine (begins_any HWR.out HT.out HL.out HN.out).mono ?_
      rintro e w4 ⟨d, F3, Ts3, rfl, hdw, hful3, hlr3, hF3, hb4⟩
      have hB4 : Below w.heap.size w w4 := HWR.out.trans (hb4.mono HWR.out.size)
      rw [HK64.out] at hful3 hlr3
      have hLR3 : ∀ i, i < k64 → LRead d i (Lof ls i) := fun i hi => by
        obtain ⟨x, hx⟩ : ∃ x, ls[i]? = some x := ⟨_, List.getElem?_eq_getElem (by have := HNL.out; have := HK64.out; omega)⟩
        unfold Lof; rw [hx]; exact hlr3 i x hi hx
      have hgo3 : Going d w wr.heap.size (Lof ls) 0 k64 (as0 k64) F3 Ts3 w4 := ⟨hful3, as0_inv _ _, as0_len _, Nat.le_refl _, hF3, hB4⟩
      have hdis : ∀ j, F1 j → F3 j → j < w.heap.size := fun j h1 h2 => by
        have := Full.size (RP.local_ a _) E1.out.ful j h1
        rcases hF3 j h2 with h | h
        · exact h
        · omega
      have HX := Lib.hid (E1.out.more hb4)
      have HY := Lib.hid hgo3
      have HLR3 := Lib.hid hLR3
      have HDW := Lib.hid hdw
      have HDIS := Lib.hid hdis
      have HS4 : Hid (w.heap.size ≤ w1.heap.size ∧ w1.heap.size ≤ w4.heap.size ∧ wr.heap.size ≤ w4.heap.size) := Lib.hid (by have h1 := HS01.out; have h2 := HS12.out; have h3 := HS23.out; have h4 := HSR.out; have h5 := hb4.size; omega)
      clear hful3 hlr3 hF3 hb4 hB4 hLR3 hgo3 hdis hdw E1 HB2 HS12 HS01 HS23 HSR HWR HT HL HN HNL HK64
      unfold ptr
      obtain ⟨i0, hi0, hz0, hz1, hz2⟩ := info_parts info3
      obtain ⟨wo, rfl⟩ : ∃ wo : World, wo = wr := ⟨_, rfl⟩
      go_wp2_with fail
      go_loopw [15, 16] (fun v i wr => ∃ q : Nat, i = .int .i64 q ∧ q ≤ k ∧ Hid (wr.ownsRow w4.heap.size 3 1 v q ((zs.take q).map (Value.int .i64))) ∧ Hid (Below w4.heap.size w4 wr)) (fun _ i _ => k - (intOf i).toNat)
      case atStart => exact ⟨0, rfl, Nat.zero_le _, Lib.hid ⟨rfl, .inl ⟨rfl, rfl⟩⟩, Lib.hid (Below.refl _ _)⟩
      case round =>
        obtain ⟨q, rfl, hq, E1, E2⟩ := hrel
        by_cases hlq : q < k
        · obtain ⟨z, ad, hzk, rfl, hadb, hzc, hz0', hz1'⟩ := HEK.out q hlq
          have hct : decide ((q : Int) < (k : Int)) = true := by rw [decide_eq_true_iff]; omega
          have hcz : wr.cell? (ad.add q) = some (.int .u8 z) := (E2.out.cell (p := ad.add q) (by rw [block_of_add]; have := HS4.out; omega)).trans ((HY.out.below.cell (p := ad.add q) (by rw [block_of_add]; exact hadb)).trans hzc)
          have hwz : IntKind.i64.wrap z = z := by rw [IntKind.wrap_i64]; omega
          have HTK : Hid (zs.take (q + 1) = zs.take q ++ [z]) := Lib.hid (by rw [List.take_add_one, hzk]; rfl)
          clear hzk hadb hzc
          go_wp2_with (at_builtin; refine wpList_append_own_at _ rfl (.tmp 80) (.tmp 86) 26 rfl w4.heap.size 3 i0 (.int .i64 0) 1 8 Try.underlying26 hi0 hz0 hz1 hz2 rfl (by decide) u15 _ _ rfl (E1.out.alloc _) ⟨_, 0, none⟩ 1 1 [.int .i64 z] rfl rfl (cell_one_new _ _ _) (by simp [Value.oneCell']) (by unfold maxLen; omega) (by omega) (by have := E2.out.size; simp at this ⊢; omega) ?_; intro v1 wr1 hown1 hg1 hnil1 hat1)
          go_roundw
          case rel =>
            refine ⟨q + 1, by go_num, by omega, Lib.hid ?_, Lib.hid ?_⟩
            · rw [HTK.out, List.map_append]; exact hown1
            · exact (E2.out.alloc E2.out.size _).grown hg1 (by have := E2.out.size; rw [World.size_alloc]; omega) (fun j hj => (E1.out.lt j hj).1)
          case measure => simp [intOf]; omega
        · have hct : decide ((q : Int) < (k : Int)) = false := by rw [decide_eq_false_iff_not]; omega
          obtain rfl : q = k := by omega
          rw [show zs.take q = zs by rw [List.take_of_length_le (by have := HZL.out; omega)]] at E1
          obtain ⟨m, hm⟩ : ∃ m : Nat, ct % ((q : Int) + 1) = m := ⟨(ct % ((q : Int) + 1)).toNat, by have := Int.emod_nonneg ct (b := (q : Int) + 1) (by omega); omega⟩
          have hmq : m ≤ q := by have := Int.emod_lt_of_pos ct (b := (q : Int) + 1) (by omega); omega
          have HX2 := Lib.hid (HX.out.more E2.out)
          have HY2 := Lib.hid (HY.out.more E2.out)
          have HS5 : Hid (w1.heap.size ≤ wr.heap.size ∧ wo.heap.size ≤ wr.heap.size ∧ w.heap.size ≤ wr.heap.size) := Lib.hid (by have := HS4.out; have := E2.out.size; omega)
          obtain ⟨Al, cl, gl, rfl, hAl⟩ := own_shape E1.out
          have hfr : ∀ j, (Value.slice Al q cl).ownBlock = some j → ¬ F1 j ∧ ¬ F3 j := fun j hj => by
            have h1 := (E1.out.lt j hj).1
            refine ⟨fun h => ?_, fun h => ?_⟩
            · have := Full.size (RP.local_ a _) HX.out.ful j h; omega
            · have := Full.size (RP.local_ d _) HY.out.ful j h; omega
          have HFR := Lib.hid hfr
          have HAL := Lib.hid hAl
          have hc0 := HC.out.1
          have hc1 := HC.out.2
          have hwc : wrap64 ct = ct := by unfold wrap64; omega
          have htm : ct.tmod ((q : Int) + 1) = (m : Int) := by rw [Int.tmod_eq_emod_of_nonneg hc0, hm]
          have hne : ((q : Int) + 1 == 0) = false := by rw [beq_eq_false_iff_ne]; omega
          clear HX HY HS4 hfr hAl E2 HC
          go_upto_if 96 with (fail)
          go_cut [] from 93 (fun wx => ∃ G, Hid (Going a w w1.heap.size (Lof ls) q k64 (picksA (Lof ls) zs (as0 k64)) F1 Ts1 wx) ∧ Hid (Going d w wo.heap.size (Lof ls) (q + q) k64 (picksA (Lof ls) zs (as0 k64)) G Ts3 wx) ∧ Hid (∀ j, F1 j → G j → j < w.heap.size) ∧ Hid (wo.heap.size ≤ wx.heap.size))
          case first =>
            by_cases hq0 : q = 0
            · have hct : decide (0 < (q : Int)) = false := by rw [decide_eq_false_iff_not]; omega
              have hz0 : zs = [] := List.eq_nil_of_length_eq_zero (by have := HZL.out; omega)
              go_wp2_with fail
              go_meet
              case rel =>
                refine ⟨F3, HX2, Lib.hid ?_, HDIS, Lib.hid HS5.out.2.1⟩
                rw [hz0]; exact HY2.out.bound (Nat.zero_le _)
            · have hct : decide (0 < (q : Int)) = true := by rw [decide_eq_true_iff]; omega
              obtain ⟨rfl, hgl1, hgl2⟩ := HAL.out (by omega)
              have hcl : q ≤ cl := by
                rcases E1.out.2 with ⟨e, -⟩ | ⟨g', cap', cur, e, -, -, h1, -⟩
                · cases e
                · obtain ⟨-, -, rfl⟩ : gl = g' ∧ q = q ∧ cl = cap' := by simpa using e
                  exact h1
              obtain ⟨Af, hsl1, hsl2⟩ := run_from gl q cl m hmq hcl
              obtain ⟨hsu1, hsu2⟩ := run_upto gl q cl m hmq hcl
              have hzr' : ∀ z ∈ zs, -9223372036854775808 ≤ z ∧ z ≤ 9223372036854775807 := fun z hz => by have := HZR.out z hz; omega
              have hrun1 := Lib.hid (HY2.out.run (cp := cl) HDW.out HS5.out.2.1 HLR3.out HS.out (reads_owns E1.out) hzr' hlen hmq (by omega))
              have hcd := (HY2.out.cells HDW.out).1
              have HSL2 := Lib.hid hsl2
              have HSU2 := Lib.hid hsu2
              have HZR' := Lib.hid hzr'
              unfold ptr at hrun1
              clear hsl2 hsu2 hzr' hcl hgl1 hgl2
              go_wp2_with fail
              refine hrun1.out.mono ?_
              rintro e w5 ⟨⟨v5, rfl⟩, G, hgo5, hown5⟩
              obtain ⟨hx5, hd5⟩ := HX2.out.beside (fun j h1 h2 => HDIS.out j h2 h1) hown5 hgo5.below
              have hrow5 := own_held E1.out (fun j hj => hown5.1.block j (E1.out.lt j hj).2 (HFR.out j hj).2)
              have hcd5 := (hgo5.cells HDW.out).1
              have HG5 := Lib.hid hgo5
              have HX5 := Lib.hid hx5
              have HD5 := Lib.hid hd5
              have HR5 := Lib.hid (reads_owns hrow5)
              have HSZ5 := Lib.hid hown5.1.size
              clear hgo5 hown5 hx5 hd5 hrow5 hrun1 hcd
              go_wp2_with fail
              obtain ⟨wa, hwa⟩ : ∃ wa, wa = w5.alloc (.cells #[] 3) := ⟨_, rfl⟩
              have hba : Below w5.heap.size w5 wa.drew := by rw [hwa]; exact (below_new w5 _).trans (((below_drew _)).mono (by simp))
              have hoa : Hid ((w5.alloc (.cells #[] 3)).drew.ownsRow w5.heap.size 3 1 (.slice (some ⟨w5.heap.size, 0, none⟩) 0 0) 0 []) := Lib.hid ⟨rfl, .inr ⟨_, 0, #[], rfl, Nat.le_refl _, World.alloc_heap_new w5 _, Nat.le_refl _, Nat.zero_le _, rfl, rfl⟩⟩
              have hra : Hid (Reads (w5.alloc (.cells #[] 3)).drew w5.heap.size 1 Af (q - m) ((zs.drop m).map (Value.int .i64))) := Lib.hid (by
                have := HSL2.out w5 _ HR5.out
                rw [List.map_drop]
                exact (this.alloc (Nat.le_refl _) _).drew)
              have hsub : IntKind.i64.wrap ((q : Int) - (m : Int)) = ((q - m : Nat) : Int) := by rw [IntKind.wrap_i64]; omega
              clear hwa hba wa
              have hrb : Hid (Reads w5 w5.heap.size 1 (some ⟨gl, 0, none⟩) m ((zs.take m).map (Value.int .i64))) := Lib.hid (by
                have := HSU2.out w5 _ HR5.out
                rw [List.map_take]
                exact this)
              have HQM : Hid (q - m + m = q) := Lib.hid (by omega)
              have HPA : Hid (picksA (Lof ls) ((zs.drop m ++ zs.take m).take (q - m)) (picksA (Lof ls) (zs.take m) (as0 k64)) = picksA (Lof ls) zs (as0 k64)) := Lib.hid (by
                rw [← picksA_append, List.take_left' (by rw [List.length_drop]; have := HZL.out; omega), List.take_append_drop])
              have HQ0 : Hid (0 < q) := Lib.hid (by omega)
              have HMQ := Lib.hid hmq
              have HLEN := Lib.hid hlen
              have HWO : Hid (wo.heap.size ≤ w5.heap.size) := Lib.hid (by have := HS5.out; have := HSZ5.out; omega)
              have hzz : Hid (∀ z ∈ zs.drop m ++ zs.take m, -9223372036854775808 ≤ z ∧ z ≤ 9223372036854775807) := Lib.hid (fun z hz => by
                rcases List.mem_append.1 hz with h | h
                · exact HZR'.out z (List.mem_of_mem_drop h)
                · exact HZR'.out z (List.mem_of_mem_take h))
              have one : ∀ (l : List Int) (u : Value), u ∈ l.map (Value.int .i64) → u.oneCell' = true := fun l u hu => by obtain ⟨z, _, rfl⟩ := List.mem_map.1 hu; rfl
              have ONE := Lib.hid one
              clear one
              go_region_held3 (fun x => x.cell? ⟨d.P, 0, none⟩ = some (.pointer (some ⟨d.S, 0, none⟩))) (first | assumption | go_keep) (first
                | (refine step_append_any _ rfl (.tmp 108) (.tmp 111) 26 rfl w5.heap.size 3 i0 (.int .i64 0) 1 8 Try.underlying26 hi0 hz0 hz1 hz2 rfl (by decide) (.slice (some ⟨w5.heap.size, 0, none⟩) 0 0) 0 [] (by simp [Act.eval, Act.put]) hoa.out w5.heap.size Af (q - m) (cl - m) ((zs.drop m).map (Value.int .i64)) (by simp [Act.eval, Act.put]) hra.out (ONE.out _) (by unfold maxLen; omega) (by omega) (by simp [World.drew]) ?_; intro v6 w6 hown6 hg6 hat6; have B6 : Hid (Below w5.heap.size w5 w6) := Lib.hid (again_b1 hg6); have c6 := cell_more B6.out hcd5; have O6 : Hid (w6.ownsRow w5.heap.size 3 1 v6 (q - m) ((zs.drop m).map (Value.int .i64))) := Lib.hid (by simpa using hown6); clear hown6 hg6 hat6)
                | (refine step_append_any _ rfl (.tmp 112) (.tmp 115) 26 rfl w5.heap.size 3 i0 (.int .i64 0) 1 8 Try.underlying26 hi0 hz0 hz1 hz2 rfl (by decide) v6 (q - m) ((zs.drop m).map (Value.int .i64)) (by simp [Act.eval, Act.put]) O6.out w5.heap.size (some ⟨gl, 0, none⟩) m cl ((zs.take m).map (Value.int .i64)) (by simp [Act.eval, Act.put]) (hrb.out.below B6.out) (ONE.out _) (by unfold maxLen; omega) (by omega) B6.out.size ?_; intro v7 w7 hown7 hg7 hat7; have B7 : Hid (Below w5.heap.size w5 w7) := Lib.hid (again_b2 B6.out O6.out hg7); have c7 := cell_more B7.out hcd5; rw [HQM.out, ← List.map_append] at hown7; obtain ⟨A7, cp7, g7, rfl, hA7⟩ := own_shape hown7; obtain ⟨rfl, -, -⟩ := hA7 HQ0.out; have R7 := Lib.hid ((HG5.out.more B7.out).run (cp := cp7) HDW.out (Nat.le_trans HWO.out B7.out.size) HLR3.out HS.out (reads_owns hown7) hzz.out hlen (m := q - m) (Nat.sub_le _ _) (by have := HMQ.out; have := HLEN.out; omega)); unfold ptr at R7; clear hown7 hg7 hat7 hA7)
                | (go_simp; go_at_call 16; refine R7.out.mono ?_; rintro e w8 ⟨⟨v8, rfl⟩, G8, hgo8, hown8⟩; have c8 := (hgo8.cells HDW.out).1; have G9 := Lib.hid hgo8; have O9 := Lib.hid hown8; clear hgo8 hown8))
              have hx9 := (HX5.out.more B7.out).beside (fun j h1 h2 => HD5.out j h1 h2) O9.out G9.out.below
              have X9 := Lib.hid hx9.1
              have D9 := Lib.hid hx9.2
              have Z9 := Lib.hid (HPA.out ▸ G9.out)
              have S9 : Hid (wo.heap.size ≤ w8.heap.size) := Lib.hid (by have := HWO.out; have h1 := B7.out.size; have h2 : w7.heap.size ≤ w8.heap.size := O9.out.1.size; omega)
              clear hx9 R7
              go_wp2_with fail
              go_meet
              case rel => exact ⟨G8, X9, Lib.hid (Z9.out.bound (by have := HMQ.out; omega)), Lib.hid (fun j h1 h2 => D9.out j h2 h1), S9⟩
          case rest =>
            obtain ⟨G, hx, hd, hdj, hsz⟩ := hcut
            obtain ⟨s, hs⟩ : ∃ s, picksA (Lof ls) zs (as0 k64) = s := ⟨_, rfl⟩
            rw [hs] at hx hd
            obtain ⟨ca0, ta, ca2, hta, hba⟩ := hx.out.cells HA.out
            obtain ⟨cd0, td, cd2, htd, hbd⟩ := hd.out.cells HDW.out
            obtain ⟨Aa, ka, ga, rfl, hAa⟩ := own_shape hta
            obtain ⟨Ad, kd, gd, rfl, hAd⟩ := own_shape htd
            have htl := hx.out.inv.bound
            rw [hx.out.len] at htl
            have htl2 : s.told.length ≤ 1000000000 := by have := HS.out; omega
            have HEA : ∀ W, Below wc.heap.size wc W → Calls Try.prog 12 #[ptr a.S] W fun e w' => ∃ v, e = .returned v ∧ w'.ownsRow W.heap.size 3 1 v (enabledA s).length (nums (enabledA s)) ∧ Below W.heap.size W w' := fun W hb => (hx.out.more hb).enabled_ (by omega)
            have HED : ∀ W, Below wc.heap.size wc W → Calls Try.prog 12 #[ptr d.S] W fun e w' => ∃ v, e = .returned v ∧ w'.ownsRow W.heap.size 3 1 v (enabledA s).length (nums (enabledA s)) ∧ Below W.heap.size W w' := fun W hb => (hd.out.more hb).enabled_ (by omega)
            have HSA : ∀ W, Below wc.heap.size wc W → Calls Try.prog 18 #[ptr a.S] W fun e w' => e = .returned (.int .i64 (s.steps : Int)) ∧ W = w' := fun W hb => (hx.out.more hb).steps_
            have HSD : ∀ W, Below wc.heap.size wc W → Calls Try.prog 18 #[ptr d.S] W fun e w' => e = .returned (.int .i64 (s.steps : Int)) ∧ W = w' := fun W hb => (hd.out.more hb).steps_
            have HEA := Lib.hid HEA
            have HED := Lib.hid HED
            have HSA := Lib.hid HSA
            have HSD := Lib.hid HSD
            have HTA := Lib.hid hta
            have HTD := Lib.hid htd
            have HBA := Lib.hid hba
            have HBD := Lib.hid hbd
            have HTL := Lib.hid htl2
            have HX := Lib.hid hx.out.below
            have HDJ := hdj
            have hen64 : Hid ((enabledA s).length ≤ 1000000000) := Lib.hid (by have h1 := enabledA_le s; have h2 := hx.out.len; have h3 := H64.out; omega)
            have hdP : Hid (∀ j, (Value.slice Aa s.told.length ka).ownBlock = some j → j ≠ d.P) := Lib.hid (fun j hj e => by
              obtain ⟨h1, h2⟩ := hd.out.inF HDW.out
              have := hdj.out j (hba j hj).1 (by rw [e]; exact h1)
              rw [e] at this; omega)
            clear hs hAa hAd htl htl2 hta htd hba hbd hdj hx hd hsz
            unfold ptr at HEA HED HSA HSD
            go_wp2_with fail
            go_region_held3 (fun x => x.cell? ⟨a.P, 0, none⟩ = some (.pointer (some ⟨a.S, 0, none⟩)) ∧ x.cell? ⟨d.P, 0, none⟩ = some (.pointer (some ⟨d.S, 0, none⟩)) ∧ x.cell? ⟨a.P, 2, none⟩ = some (.slice Aa s.told.length ka) ∧ x.cell? ⟨d.P, 2, none⟩ = some (.slice Ad s.told.length kd)) (first | (refine ⟨?_, ?_, ?_, ?_⟩ <;> assumption) | go_keep) (first
              | (go_simp; go_at_call 12; (with_reducible refine (HEA.out wc.drew (below_drew _)).mono ?_); rintro e x1 ⟨v1, rfl, hown1, hb1⟩; have B1 := Lib.hid ((below_drew wc).trans (hb1.mono (Nat.le_refl _))); have q1 := cell_more B1.out ca0; have q2 := cell_more B1.out cd0; have q3 := cell_more B1.out ca2; have q4 := cell_more B1.out cd2; have O1 := Lib.hid (own_nums hown1); clear hown1 hb1)
              | (go_simp; go_at_call 12; (with_reducible refine (HED.out x1 B1.out).mono ?_); rintro e x2 ⟨v2, rfl, hown2, hb2⟩; have B2 := Lib.hid (B1.out.trans (hb2.mono B1.out.size)); have r1 := cell_more B2.out ca0; have r2 := cell_more B2.out cd0; have r3 := cell_more B2.out ca2; have r4 := cell_more B2.out cd2; have O2 := Lib.hid (own_nums hown2); have O1' := Lib.hid (own_below O1.out hb2); have N12 : Hid (∀ j, v1.ownBlock = some j → v2.ownBlock ≠ some j) := Lib.hid (fun j h1 h2 => by have := (O1.out.lt j h1).2; have := (hown2.lt j h2).1; omega); clear hown2 hb2)
              | (go_simp; go_at_call 17; (with_reducible refine (ints_own O1'.out O2.out N12.out hen64.out).mono ?_); rintro e x3 ⟨rfl, hc3⟩; have B3 : Hid (Below wc.heap.size wc x3) := Lib.hid (B2.out.trans (hc3.below B2.out.size (fun j hj => (O1'.out.lt j hj).1))); have p1 := cell_more B3.out ca0; have p2 := cell_more B3.out cd0; have p3 := cell_more B3.out ca2; have p4 := cell_more B3.out cd2; clear hc3)
              | (go_simp; go_at_call 18; (with_reducible refine (HSA.out x3 B3.out).mono ?_); rintro e x4 ⟨rfl, rfl⟩)
              | (go_simp; go_at_call 18; (with_reducible refine (HSD.out x3 B3.out).mono ?_); rintro e x4 ⟨rfl, rfl⟩)
              | (rw [if_pos (by rfl)]; refine wp_append_any _ (.tmp 151) (.tmp 155) 26 rfl x3.heap.size 3 i0 (.int .i64 0) 1 8 Try.underlying26 hi0 hz0 hz1 hz2 rfl (by decide) (.slice (some ⟨x3.heap.size, 0, none⟩) 0 0) 0 [] (by simp [Act.eval, Act.put]) (own_empty x3) x3.heap.size Ad s.told.length kd (s.told.map (Value.int .i64)) (by simp [Act.eval, Act.put]) ((((reads_ownv HTD.out).below B3.out).more B3.out.size).alloc (Nat.le_refl _) _) (by intro u hu; obtain ⟨z, _, rfl⟩ := List.mem_map.1 hu; rfl) (by have := HTL.out; unfold maxLen; omega) (by have := HTL.out; omega) (by simp) ?_; intro v5 x5 hown5 hg5 hat5; have B5 : Hid (Below wc.heap.size wc x5) := Lib.hid (B3.out.trans (again_b3 hg5 B3.out.size)); have s1 := cell_more B5.out ca0; have s2 := cell_more B5.out cd0; have s3 := cell_more B5.out ca2; have s4 := cell_more B5.out cd2; have O5 : Hid (x5.ownsRow x3.heap.size 3 1 v5 s.told.length (s.told.map (Value.int .i64))) := Lib.hid (by simpa using hown5); have N5 : Hid (∀ j, (Value.slice Aa s.told.length ka).ownBlock = some j → v5.ownBlock ≠ some j) := Lib.hid (fun j h1 h2 => by have := (HTA.out.lt j h1).2; have := (O5.out.lt j h2).1; have := B3.out.size; omega); clear hown5 hg5 hat5)
              | (go_simp; go_at_call 17; (with_reducible refine (ints_own (own_below HTA.out B5.out) O5.out N5.out HTL.out).mono ?_); rintro e x6 ⟨rfl, hc6⟩; have t1 := cell_chg hc6 (fun h => (HBA.out _ h).2.2 rfl) s1; have t2 := cell_chg hc6 (fun h => hdP.out _ h rfl) s2; have t3 := cell_chg hc6 (fun h => (HBA.out _ h).2.2 rfl) s3; have t4 := cell_chg hc6 (fun h => hdP.out _ h rfl) s4; have C6 := Lib.hid hc6; clear hc6))
            have FIN : Hid (Below w.heap.size w x6) := Lib.hid (HX.out.trans ((B5.out.mono HX.out.size).trans (C6.out.below (Nat.le_trans HX.out.size B5.out.size) (fun j hj => (HBA.out j hj).2.1))))
            go_wp2
            go_ret
            exact ⟨by first | rfl | simp, FIN.out⟩
end Go.Proofs.Ytekgdakkkbnpiaa
