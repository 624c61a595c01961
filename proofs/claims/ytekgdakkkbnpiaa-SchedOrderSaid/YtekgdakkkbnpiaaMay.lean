/- Who may go: the scheduler's own question of a task. No condition. -/
import Derived.Test.YtekgdakkkbnpiaaRep
import Derived.Deep.QuietTactic
import Derived.BigQuiet
namespace Go.Proofs.Ytekgdakkkbnpiaa
set_option linter.unusedVariables false
set_option linter.unusedSimpArgs false
open Go Go.RowKit

def mayP (σ : Sc) (t : Tk) : Bool :=
  if t.kind = 0 then true else if t.kind = 1 then (σ.locks t.on).isNone else if t.kind = 3 then decide (t.on ≤ (σ.steps : Int) - t.since) else false

theorem sc_cell {w : World} {S : Nat} {tv : Value} {M : Nat} {σ : Sc} (h : w.heap[S]? = some (.cells (scCells tv M σ) 71 (0, 0))) :
    w.cell? ⟨S, 0, none⟩ = some tv ∧ w.cell? ⟨S, 1, none⟩ = some (.map (some M)) ∧ w.cell? ⟨S, 2, none⟩ = some (.int .i64 σ.steps) ∧ w.cell? ⟨S, 3, none⟩ = some (.int .i64 σ.wishes) ∧ w.cell? ⟨S, 4, none⟩ = some (.bool σ.within) ∧ ∀ j, w.frozen? ⟨S, j, none⟩ = false :=
  ⟨Blk.cell (t := 71) h 0, Blk.cell (t := 71) h 1, Blk.cell (t := 71) h 2, Blk.cell (t := 71) h 3, Blk.cell (t := 71) h 4, fun j => Blk.frozen (t := 71) h j⟩
theorem tk_cell {w : World} {T : Nat} {t : Tk} (h : w.heap[T]? = some (.cells (tkCells t) 74 (0, 0))) :
    w.cell? ⟨T, 0, none⟩ = some (.string t.name) ∧ w.cell? ⟨T, 1, none⟩ = some (.func (.func t.f) #[] t.caps) ∧ w.cell? ⟨T, 2, none⟩ = some (.int .i64 t.kind) ∧ w.cell? ⟨T, 3, none⟩ = some (.int .i64 t.on) ∧ w.cell? ⟨T, 4, none⟩ = some (.int .i64 t.since) ∧ w.cell? ⟨T, 5, none⟩ = some (.int .i64 t.order) ∧ w.cell? ⟨T, 6, none⟩ = some (.bool t.failed) ∧ ∀ j, w.frozen? ⟨T, j, none⟩ = false :=
  ⟨Blk.cell (t := 74) h 0, Blk.cell (t := 74) h 1, Blk.cell (t := 74) h 2, Blk.cell (t := 74) h 3, Blk.cell (t := 74) h 4, Blk.cell (t := 74) h 5, Blk.cell (t := 74) h 6, fun j => Blk.frozen (t := 74) h j⟩

theorem wfi_range {k : Int} (h : wfi k) : -9223372036854775808 ≤ k ∧ k ≤ 9223372036854775807 := by
  unfold wfi at h; simpa [Lit.wf, IntKind.min, IntKind.max, IntKind.signed, IntKind.bits] using h

set_option maxRecDepth 100000 in
set_option maxHeartbeats 1000000 in
theorem may_any {S T M : Nat} {tv : Value} {σ : Sc} {t : Tk} {w : World} (hS : w.heap[S]? = some (.cells (scCells tv M σ) 71 (0, 0))) (hT : w.heap[T]? = some (.cells (tkCells t) 74 (0, 0)))
    (hM : MapIs w M σ.cap σ.locks) (hon : wfi t.on) (hsi : t.since ≤ σ.steps) (hn : σ.steps < 4611686018427387904) :
    Calls Try.prog 53 #[ptr S, ptr T] w fun e w' => e = .returned (.bool (mayP σ t)) ∧ ∃ k, w' = w.drewN k := by
  obtain ⟨s0, s1, s2, s3, s4, -⟩ := sc_cell hS
  obtain ⟨t0, t1, t2, t3, t4, t5, t6, -⟩ := tk_cell hT
  have hlk := fun k => MapIs.look (w := w.drewN k) (hM.same rfl) hon
  have hor := wfi_range hon
  unfold ptr
  clear hS hT hM
  by_cases h0 : t.kind = 0
  · have hm : mayP σ t = true := by simp [mayP, h0]
    rw [hm]
    have e0 : (t.kind == 0) = true := by simp [h0]
    have H := Lib.hid h0
    clear h0 hlk hor hm
    go_enter Try.func53, Try.ntmps53
    go_wp2
    go_ret
    exact ⟨rfl, 0, rfl⟩
  · by_cases h1 : t.kind = 1
    · have hm : mayP σ t = (σ.locks t.on).isNone := by simp [mayP, h1]
      rw [hm]
      have e0 : (t.kind == 0) = false := by simp [h1]
      have e1 : (t.kind == 1) = true := by simp [h1]
      clear h0 h1 hor hm
      go_enter Try.func53, Try.ntmps53
      go_wp2_with fail
      go_quiet (fail)
      go_wp2
      go_ret
      exact ⟨rfl, nq, rfl⟩
    · by_cases h3 : t.kind = 3
      · have hm : mayP σ t = decide (t.on ≤ (σ.steps : Int) - t.since) := by simp [mayP, h3]
        rw [hm]
        have e0 : (t.kind == 0) = false := by simp [h3]
        have e1 : (t.kind == 1) = false := by simp [h3]
        have e3 : (t.kind == 3) = true := by simp [h3]
        have hsub : IntKind.i64.wrap ((σ.steps : Int) - (t.since : Int)) = (σ.steps : Int) - (t.since : Int) := by rw [IntKind.wrap_i64]; omega
        clear h0 h1 h3 hor hm hlk hsi hn
        go_enter Try.func53, Try.ntmps53
        go_wp2_with fail
        go_quiet (fail)
        go_wp2
        go_ret
        exact ⟨by first | rfl | simp, nq, rfl⟩
      · have hm : mayP σ t = false := by simp [mayP, h0, h1, h3]
        rw [hm]
        have e0 : (t.kind == 0) = false := by simp [h0]
        have e1 : (t.kind == 1) = false := by simp [h1]
        have e3 : (t.kind == 3) = false := by simp [h3]
        clear h0 h1 h3 hor hm hlk hsi hn
        go_enter Try.func53, Try.ntmps53
        go_wp2
        go_ret
        exact ⟨rfl, 0, rfl⟩
end Go.Proofs.Ytekgdakkkbnpiaa
