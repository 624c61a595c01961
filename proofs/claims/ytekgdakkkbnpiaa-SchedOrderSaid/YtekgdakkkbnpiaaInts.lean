/- ints, where the numbers are those that they must be: it says so, and writes into the first row alone. No condition. -/
import Derived.Test.YtekgdakkkbnpiaaMem
import Derived.Deep.QuietTactic
import Derived.BigQuiet
namespace Go.Proofs.Ytekgdakkkbnpiaa
set_option linter.unusedVariables false
set_option linter.unusedSimpArgs false
open Go Go.RowKit

/-- cells from k on still hold these numbers -/
def FromK (w : World) (g k : Nat) (zs : List Int) : Prop := ∃ cur : Array Value, w.heap[g]? = some (.cells cur 3 (0, 0)) ∧ ∀ j z, k ≤ j → zs[j]? = some z → cur[j]? = some (.int .i64 z)
theorem FromK.put {w : World} {g k : Nat} {zs : List Int} (h : FromK w g k zs) (u : Value) : FromK (w.setCell ⟨g, k, none⟩ u) g (k + 1) zs := by
  obtain ⟨cur, hb, hc⟩ := h
  refine ⟨cur.setIfInBounds k u, Blk.set_ (t := 3) hb k u, fun j z hj hz => ?_⟩
  rw [Array.getElem?_setIfInBounds_ne (by omega)]
  exact hc j z (by omega) hz
theorem FromK.keep {w w' : World} {g k : Nat} {zs : List Int} (h : FromK w g k zs) (hk : w'.heap[g]? = w.heap[g]?) : FromK w' g k zs := by
  obtain ⟨cur, hb, hc⟩ := h
  exact ⟨cur, hk.trans hb, hc⟩
theorem FromK.cell {w : World} {g k : Nat} {zs : List Int} (h : FromK w g k zs) {j : Nat} {z : Int} (hj : k ≤ j) (hz : zs[j]? = some z) : w.cell? ⟨g, j, none⟩ = some (.int .i64 z) := by
  obtain ⟨cur, hb, hc⟩ := h
  exact (Blk.cell (t := 3) hb j).trans (hc j z hj hz)
theorem FromK.frozen {w : World} {g k : Nat} {zs : List Int} (h : FromK w g k zs) (j : Nat) : w.frozen? ⟨g, j, none⟩ = false := by
  obtain ⟨cur, hb, hc⟩ := h
  exact Blk.frozen (t := 3) hb j
theorem from_owns {w : World} {base g n cap : Nat} {zs : List Int} (h : w.ownsRow base 3 1 (.slice (some ⟨g, 0, none⟩) n cap) n (zs.map (Value.int .i64))) : FromK w g 0 zs := by
  rcases h.2 with ⟨e, -⟩ | ⟨g', cap', cur, e, -, hb, -, -, -, ht⟩
  · cases e
  · obtain ⟨rfl, -, -⟩ : g = g' ∧ n = n ∧ cap = cap' := by simpa using e
    refine ⟨cur, hb, fun j z _ hz => ?_⟩
    have h1 : (cur.toList.take (n * 1))[j]? = some (.int .i64 z) := by rw [ht, List.getElem?_map, hz]; rfl
    rw [List.getElem?_take] at h1
    split at h1
    · simpa using h1
    · cases h1

theorem FromK.drewN {w : World} {g k : Nat} {zs : List Int} (h : FromK w g k zs) (q : Nat) : FromK (w.drewN q) g k zs := h
theorem FromK.up {w : World} {g k : Nat} {zs : List Int} (h : FromK w g k zs) : FromK w g (k + 1) zs := by
  obtain ⟨cur, hb, hc⟩ := h
  exact ⟨cur, hb, fun j z hj hz => hc j z (by omega) hz⟩
theorem Chg.drewN {C : Nat → Prop} {X Y : World} (h : Chg C X Y) (q : Nat) : Chg C X (Y.drewN q) := ⟨h.os, h.tape, h.output, h.size, h.block⟩

set_option maxRecDepth 100000 in
set_option maxHeartbeats 2000000 in
theorem ints_row {w : World} {base base' ga gb n ca cb : Nat} {zs : List Int} (ha : w.ownsRow base 3 1 (.slice (some ⟨ga, 0, none⟩) n ca) n (zs.map (Value.int .i64))) (hb : w.ownsRow base' 3 1 (.slice (some ⟨gb, 0, none⟩) n cb) n (zs.map (Value.int .i64))) (hne : ga ≠ gb) (hn : n ≤ 1000000000) :
    Calls Try.prog 17 #[.slice (some ⟨ga, 0, none⟩) n ca, .slice (some ⟨gb, 0, none⟩) n cb] w fun e w' => e = .returned (.bool true) ∧ Chg (fun k => k = ga) w w' := by
  have hzl : zs.length = n := by have := ha.1; simpa using this
  have EA := Lib.hid (from_owns ha)
  have EB := Lib.hid (from_owns hb)
  have HNE := Lib.hid hne
  clear ha hb hne
  go_enter Try.func17, Try.ntmps17
  go_wp2_with fail
  go_loopw [5] (fun i wr => ∃ k : Nat, i = .int .i64 k ∧ k ≤ n ∧ Hid (FromK wr ga k zs) ∧ Hid (FromK wr gb k zs) ∧ Hid (Chg (fun k => k = ga) w wr)) (fun i _ => n - (intOf i).toNat)
  case atStart => exact ⟨0, rfl, Nat.zero_le _, EA, EB, Lib.hid (Chg.refl _ _)⟩
  case round =>
    clear EA EB
    obtain ⟨k, rfl, hk, E1, E2, E3⟩ := hrel
    by_cases hlt : k < n
    · obtain ⟨z, hz⟩ : ∃ z, zs[k]? = some z := ⟨_, List.getElem?_eq_getElem (by omega)⟩
      have hca := E1.out.cell (Nat.le_refl k) hz
      have hcb := E2.out.cell (Nat.le_refl k) hz
      have hfa := E1.out.frozen k
      have hc1 : decide ((k : Int) < (n : Int)) = true := by rw [decide_eq_true_iff]; omega
      clear hz
      go_wp2_with fail
      go_quiet (fail)
      go_wp2
      go_roundw
      case rel => exact ⟨k + 1, by go_num, by omega, Lib.hid ((E1.out.drewN _).put _), Lib.hid (((E2.out.drewN _).keep (Below.heap_setCell _ _ _ _ (fun e => HNE.out e.symm))).up), Lib.hid ((E3.out.drewN _).setCell (p := ⟨ga, k, none⟩) (.inl rfl) _)⟩
      case measure => simp [intOf]; omega
    · have hc1 : decide ((k : Int) < (n : Int)) = false := by rw [decide_eq_false_iff_not]; omega
      go_wp2
      go_ret
      exact ⟨rfl, E3.out⟩

theorem ints_nil (w : World) (A B : Option Addr) (ca cb : Nat) : Calls Try.prog 17 #[.slice A 0 ca, .slice B 0 cb] w fun e w' => e = .returned (.bool true) ∧ w' = w := by
  go_enter Try.func17, Try.ntmps17
  go_wp2_with fail
  refine wp_loop_rounds 1 ?_
  rw [rounds_succ]
  go_wp2
  go_ret
  exact ⟨rfl, rfl⟩

/-- Two rows of the same numbers. -/
theorem ints_own {w : World} {base base' n : Nat} {v v' : Value} {zs : List Int} (ha : w.ownsRow base 3 1 v n (zs.map (Value.int .i64))) (hb : w.ownsRow base' 3 1 v' n (zs.map (Value.int .i64))) (hne : ∀ k, v.ownBlock = some k → v'.ownBlock ≠ some k) (hn : n ≤ 1000000000) :
    Calls Try.prog 17 #[v, v'] w fun e w' => e = .returned (.bool true) ∧ Chg (fun k => v.ownBlock = some k) w w' := by
  obtain ⟨A, ca, ga, rfl, hA⟩ := own_shape ha
  obtain ⟨B, cb, gb, rfl, hB⟩ := own_shape hb
  by_cases h0 : n = 0
  · subst h0
    refine (ints_nil w A B ca cb).mono ?_
    rintro e w' ⟨rfl, rfl⟩
    exact ⟨rfl, Chg.refl _ _⟩
  · obtain ⟨rfl, -, -⟩ := hA (by omega)
    obtain ⟨rfl, -, -⟩ := hB (by omega)
    refine (ints_row ha hb (fun e => hne ga rfl (by rw [e]; rfl)) hn).mono ?_
    rintro e w' ⟨rfl, hc⟩
    exact ⟨rfl, hc.mono (fun k e => by rw [e]; rfl)⟩
end Go.Proofs.Ytekgdakkkbnpiaa
