/- The scheduler's small calls: is, Unlock, Wish, Holder, Name, Failed; a pick and a run within a step. No condition. -/
import Derived.Test.YtekgdakkkbnpiaaPanic
import Derived.Test.YtekgdakkkbnpiaaMem
namespace Go.Proofs.Ytekgdakkkbnpiaa
set_option linter.unusedVariables false
set_option linter.unusedSimpArgs false
open Go Go.RowKit

def isP (σ : Sc) (n : Int) : Bool := decide (0 ≤ n ∧ n < (σ.tks.length : Int))

set_option maxHeartbeats 1000000 in
theorem is_any {C : Nat → Prop} {S : Nat} {Ts : List Nat} {σ : Sc} {w : World} (h : Rep C S Ts σ w) (n : Int) :
    Calls Try.prog 35 #[ptr S, .int .i64 n] w fun e w' => e = .returned (.bool (isP σ n)) ∧ w = w' := by
  obtain ⟨⟨tv, M, g1, g2, -, -, -⟩, g4, -, -, -, -, -, -⟩ := h
  obtain ⟨s0, -, -, -, -, -⟩ := sc_cell g1
  obtain ⟨A, cp, g, rfl, -⟩ := own_shape g2
  have hP : isP σ n = (decide (0 ≤ n) && decide (n < (Ts.length : Int))) := by unfold isP; rw [g4]; simp
  rw [hP]
  clear hP g1 g2 g4
  unfold ptr
  by_cases h0 : 0 ≤ n
  · have c0 : decide (0 ≤ n) = true := by rw [decide_eq_true_iff]; exact h0
    by_cases h1 : n < (Ts.length : Int)
    · have c1 : decide (n < (Ts.length : Int)) = true := by rw [decide_eq_true_iff]; exact h1
      rw [c0, c1]
      go_enter Try.func35, Try.ntmps35
      go_wp2
      go_ret
      exact ⟨rfl, rfl⟩
    · have c1 : decide (n < (Ts.length : Int)) = false := by rw [decide_eq_false_iff_not]; exact h1
      rw [c0, c1]
      go_enter Try.func35, Try.ntmps35
      go_wp2
      go_ret
      exact ⟨rfl, rfl⟩
  · have c0 : decide (0 ≤ n) = false := by rw [decide_eq_false_iff_not]; exact h0
    rw [c0]
    go_enter Try.func35, Try.ntmps35
    go_wp2
    go_ret
    exact ⟨rfl, rfl⟩

/-- The lock is let go of; or why not. -/
def unlockE (σ : Sc) (n k : Int) : Int := if isP σ n = false then 40 else if σ.locks k = some n then 0 else 41
def unlockP (σ : Sc) (n k : Int) : Sc := if isP σ n = true ∧ σ.locks k = some n then { σ with locks := upd σ.locks k none } else σ

theorem Full.inS {F : Nat → Prop} {S : Nat} {Ts : List Nat} {σ : Sc} {R : (Nat → Prop) → World → Prop} {w : World} (h : Full F S Ts σ R w) : S < w.heap.size := by
  obtain ⟨C, D, hrep, -, -, -⟩ := h
  exact hrep.size S hrep.inS

set_option maxRecDepth 100000 in
set_option maxHeartbeats 2000000 in
theorem unlock_any {F : Nat → Prop} {S : Nat} {Ts : List Nat} {σ : Sc} {R : (Nat → Prop) → World → Prop} {w : World} (hR : Local R) (h : Full F S Ts σ R w) (n k : Int) (hk : wfi k) :
    Calls Try.prog 40 #[ptr S, .int .i64 n, .int .i64 k] w fun e w' => e = .returned (.int .i64 (unlockE σ n k)) ∧ Full F S Ts (unlockP σ n k) R w' ∧ Owned F w F w' := by
  obtain ⟨C, D, hrep, hr, hd, hf⟩ := id h
  obtain ⟨⟨tv, M, g1, g2, g3, g8, g9⟩, g4, -, -, -, -, -, -⟩ := id hrep
  obtain ⟨s0, s1, -, -, -, -⟩ := sc_cell g1
  have hlook := g3.look hk
  have HIS := Lib.hid (is_any hrep n)
  have HH := Lib.hid h
  have HREP := Lib.hid hrep
  have HR := Lib.hid hr
  have HD := Lib.hid hd
  have HF := Lib.hid hf
  have G1 := Lib.hid g1
  have G3 := Lib.hid g3
  have G8 := Lib.hid g8
  clear h hrep hr hd hf g1 g2 g3 g4 g8 g9
  unfold ptr at *
  cases hi : isP σ n with
  | false =>
    have e1 : unlockE σ n k = 40 := by unfold unlockE; rw [if_pos hi]
    have e2 : unlockP σ n k = σ := by unfold unlockP; rw [if_neg (by rw [hi]; simp)]
    rw [e1, e2]
    rw [hi] at HIS
    clear hlook
    go_enter Try.func40, Try.ntmps40
    go_wp2_with fail
    refine HIS.out.mono ?_
    rintro e w1 ⟨rfl, rfl⟩
    go_wp2
    go_ret
    exact ⟨rfl, HH.out, Owned.refl F _⟩
  | true =>
    rw [hi] at HIS
    by_cases hl : σ.locks k = some n
    · have e1 : unlockE σ n k = 0 := by unfold unlockE; rw [if_neg (by rw [hi]; simp), if_pos hl]
      have e2 : unlockP σ n k = { σ with locks := upd σ.locks k none } := by unfold unlockP; rw [if_pos ⟨hi, hl⟩]
      rw [e1, e2]
      rw [hl] at hlook
      obtain ⟨w', hrun, hM', htn⟩ := G3.out.drop hk 0
      have HRUN := hrun
      have hnn : (n != n) = false := by simp
      clear hrun
      go_enter Try.func40, Try.ntmps40
      go_wp2_with fail
      refine HIS.out.mono ?_
      rintro e w1 ⟨rfl, rfl⟩
      clear HIS
      go_wp2_with fail
      go_ret
      have hc : Chg (fun j => j = M) w w' := ⟨htn.grown.os, htn.grown.tape, htn.grown.output, htn.grown.size, fun q hq hne => htn.grown.block q hq (fun e => hne (by injection e))⟩
      refine ⟨rfl, ⟨C, D, HREP.out.setM _ σ.cap (fun M' ⟨tv', hM2⟩ => ?_), hR.chg D _ w _ HR.out hc (fun q hq e => by subst e; exact HD.out _ G8.out hq), HD.out, HF.out⟩, hc.mono (fun q e => by subst e; exact (HF.out _).2 (.inl G8.out)), fun _ h => .inl h⟩
      have : M' = M := by
        have := Option.some.inj (hM2.symm.trans G1.out)
        simp [scCells] at this
        exact this.2
      subst this
      exact ⟨hM', htn⟩
    · have e1 : unlockE σ n k = 41 := by unfold unlockE; rw [if_neg (by rw [hi]; simp), if_neg hl]
      have e2 : unlockP σ n k = σ := by unfold unlockP; rw [if_neg (fun h => hl h.2)]
      rw [e1, e2]
      cases hlk : σ.locks k with
      | none =>
        rw [hlk] at hlook
        go_enter Try.func40, Try.ntmps40
        go_wp2_with fail
        refine HIS.out.mono ?_
        rintro e w1 ⟨rfl, rfl⟩
        clear HIS
        go_wp2_with fail
        go_ret
        exact ⟨rfl, HH.out, Owned.refl F _⟩
      | some v =>
        rw [hlk] at hlook
        have hvn : (v != n) = true := by
          rw [hlk] at hl
          simpa using fun e => hl (by rw [e])
        go_enter Try.func40, Try.ntmps40
        go_wp2_with fail
        refine HIS.out.mono ?_
        rintro e w1 ⟨rfl, rfl⟩
        clear HIS
        go_wp2_with fail
        go_ret
        exact ⟨rfl, HH.out, Owned.refl F _⟩

theorem task_facts {C : Nat → Prop} {S : Nat} {Ts : List Nat} {σ : Sc} {w : World} (h : Rep C S Ts σ w) {n : Nat} {t : Tk} (ht : σ.tks[n]? = some t) :
    ∃ cp g T M, w.heap[S]? = some (.cells (scCells (.slice (some ⟨g, 0, none⟩) Ts.length cp) M σ) 71 (0, 0)) ∧ n < Ts.length ∧ w.cell? ⟨g, n, none⟩ = some (.pointer (some ⟨T, 0, none⟩)) ∧ w.heap[T]? = some (.cells (tkCells t) 74 (0, 0)) := by
  obtain ⟨⟨tv, M, g1, g2, -, -, -⟩, g4, -, g6, -, -, -, -⟩ := h
  have hn : n < Ts.length := by rw [g4]; exact (List.getElem?_eq_some_iff.1 ht).1
  obtain ⟨A, cp, g, rfl, hA⟩ := own_shape g2
  obtain ⟨rfl, -, -⟩ := hA (by omega)
  obtain ⟨T, hT⟩ : ∃ T, Ts[n]? = some T := ⟨_, List.getElem?_eq_getElem hn⟩
  refine ⟨cp, g, T, M, g1, hn, ?_, g6 n t T ht hT⟩
  rw [World.ownsRow.cellAt g2 n (by omega), List.getElem?_map, hT]; rfl

theorem isP_nat {σ : Sc} {n : Nat} {t : Tk} (ht : σ.tks[n]? = some t) : isP σ (n : Int) = true := by
  have := (List.getElem?_eq_some_iff.1 ht).1
  unfold isP; simp; exact this

set_option maxRecDepth 100000 in
set_option maxHeartbeats 2000000 in
theorem wish_any {C : Nat → Prop} {S : Nat} {Ts : List Nat} {σ : Sc} {w : World} (h : Rep C S Ts σ w) {n : Nat} {t : Tk} (ht : σ.tks[n]? = some t) :
    Calls Try.prog 21 #[ptr S, .int .i64 (n : Int)] w fun e w' => e = .returned (.tuple #[.agg #[.int .i64 t.kind, .int .i64 t.on], .int .i64 0]) ∧ Below w.heap.size w w' := by
  obtain ⟨cp, g, T, M, hS, hn, hc, hT⟩ := task_facts h ht
  have HIS : ∀ o : Obj, Calls Try.prog 35 #[ptr S, .int .i64 (n : Int)] (w.alloc o) fun e w' => e = .returned (.bool true) ∧ w.alloc o = w' := fun o => by
    have := is_any (h.below ((Below.refl _ w).alloc (Nat.le_refl _) o)) (n : Int)
    rw [isP_nat ht] at this; exact this
  have HI := Lib.hid HIS
  have hSl := h.size S h.inS
  have hTl : T < w.heap.size := (Array.getElem?_eq_some_iff.1 hT).1
  have hgl : g < w.heap.size := World.block_lt_of_cell? w _ hc
  have hb : ∀ o, Below w.heap.size w (w.alloc o) := fun o => (Below.refl _ w).alloc (Nat.le_refl _) o
  have s0 : ∀ o, (w.alloc o).cell? ⟨S, 0, none⟩ = some (.slice (some ⟨g, 0, none⟩) Ts.length cp) := fun o => ((hb o).cell (p := ⟨S, 0, none⟩) hSl).trans (sc_cell hS).1
  have hc' : ∀ o, (w.alloc o).cell? ⟨g, n, none⟩ = some (.pointer (some ⟨T, 0, none⟩)) := fun o => ((hb o).cell (p := ⟨g, n, none⟩) hgl).trans hc
  have t2 : ∀ o, (w.alloc o).cell? ⟨T, 2, none⟩ = some (.int .i64 t.kind) := fun o => ((hb o).cell (p := ⟨T, 2, none⟩) hTl).trans (tk_cell hT).2.2.1
  have t3 : ∀ o, (w.alloc o).cell? ⟨T, 3, none⟩ = some (.int .i64 t.on) := fun o => ((hb o).cell (p := ⟨T, 3, none⟩) hTl).trans (tk_cell hT).2.2.2.1
  clear HIS h hc hT hb hS
  unfold ptr at *
  go_enter Try.func21, Try.ntmps21
  go_wp2_with fail
  refine (HI.out _).mono ?_
  rintro e w1 ⟨rfl, rfl⟩
  go_wp2_with fail
  have hb := World.alloc_heap_new w (.cells #[.int .i64 t.kind, .int .i64 t.on] 31)
  have q0 := Blk.cell (t := 31) hb 0
  have q1 := Blk.cell (t := 31) hb 1
  simp only [List.getElem?_toArray, List.getElem?_cons_zero, List.getElem?_cons_succ] at q0 q1
  clear hb s0 hc' t2 t3 HI
  simp [bodyPost, settle, results, Try.results21, go_sem, q0, q1]
  exact (Below.refl _ w).alloc (Nat.le_refl _) _

set_option maxRecDepth 100000 in
set_option maxHeartbeats 2000000 in
theorem holder_any {C : Nat → Prop} {S : Nat} {Ts : List Nat} {σ : Sc} {w : World} (h : Rep C S Ts σ w) (k : Int) (hk : wfi k) :
    Calls Try.prog 22 #[ptr S, .int .i64 k] w fun e w' => e = .returned (.tuple #[.int .i64 ((σ.locks k).getD 0), .bool (σ.locks k).isSome]) ∧ w = w' := by
  obtain ⟨⟨tv, M, g1, -, g3, -, -⟩, -, -, -, -, -, -, -⟩ := h
  obtain ⟨-, s1, -, -, -, -⟩ := sc_cell g1
  have hlook := g3.look hk
  clear g1 g3
  unfold ptr
  go_enter Try.func22, Try.ntmps22
  go_wp2_with fail
  go_ret2
  exact ⟨rfl, rfl⟩

set_option maxRecDepth 100000 in
set_option maxHeartbeats 2000000 in
/-- A pick within a step. -/
theorem pick_within {C : Nat → Prop} {S : Nat} {Ts : List Nat} {σ : Sc} {w : World} (h : Rep C S Ts σ w) (hw : σ.within = true) (hst : σ.steps < 4611686018427387904) (i : Int) :
    Calls Try.prog 13 #[ptr S, .int .i64 i] w fun e w' => e = .returned (.tuple #[.int .i64 0, .int .i64 8]) ∧ Below w.heap.size w w' := by
  refine pick_out (Q := fun _ _ => True) ?_
  have hen := Lib.hid (enabled_any h hst)
  have HH := Lib.hid h
  clear h
  unfold ptr at *
  go_enter Try.func29, Try.ntmps29
  go_wp2_with fail
  refine hen.out.mono ?_
  rintro e w1 ⟨v, rfl, hown, hb⟩
  have hr1 := HH.out.below hb
  obtain ⟨⟨tv, M, g1, -⟩, -⟩ := id hr1
  obtain ⟨-, -, -, -, s4, -⟩ := sc_cell g1
  rw [hw] at s4
  obtain ⟨A2, cp2, g2, rfl, -⟩ := own_shape hown
  clear hr1 g1 hown
  go_wp2_with fail
  go_ret2
  exact ⟨rfl, hb⟩

set_option maxRecDepth 100000 in
set_option maxHeartbeats 2000000 in
/-- A run within a step. -/
theorem run_within {C : Nat → Prop} {S : Nat} {Ts : List Nat} {σ : Sc} {w : World} (h : Rep C S Ts σ w) (hw : σ.within = true) (v : Value) (m : Int) :
    Calls Try.prog 16 #[ptr S, v, .int .i64 m] w fun e w' => e = .returned (.tuple #[.int .i64 0, .int .i64 8]) ∧ w = w' := by
  obtain ⟨⟨tv, M, g1, -⟩, -⟩ := id h
  obtain ⟨-, -, -, -, s4, -⟩ := sc_cell g1
  rw [hw] at s4
  clear h g1
  unfold ptr
  go_enter Try.func16, Try.ntmps16
  go_wp2_with fail
  go_ret2
  exact ⟨rfl, rfl⟩
end Go.Proofs.Ytekgdakkkbnpiaa
