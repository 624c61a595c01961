/- Who waits for something: the list of them. No condition. -/
import Derived.Test.YtekgdakkkbnpiaaCalls
import Derived.Laws.StructEq
namespace Go.Proofs.Ytekgdakkkbnpiaa
set_option linter.unusedVariables false
set_option linter.unusedSimpArgs false
open Go Go.RowKit

theorem eqWish (a b c d : Int) (w : World) : (binOp .eql 31 (.agg #[.int .i64 a, .int .i64 b]) (.agg #[.int .i64 c, .int .i64 d])).run Try.prog w = .ok (.bool (a == c && b == d)) w := by
  have u3 := Try.underlying3
  have a3 := Try.isAgg3
  have z3 := Try.sizeOf3
  have hS : Try.prog.underlying 31 = some (.struct (Try.prog.fieldsOf 31)) := by kernel_rfl
  have hp : Try.prog.stoodInHeld 31 = false := by kernel_rfl
  rw [run_eql_struct, show (10000 : Nat) = 9999 + 1 from rfl, run_equalIn_agg w 9999 31 _ _ hS hp]
  simp only [Program.fieldsOf, Try.underlying31]
  go_simp
  by_cases h1 : a = c <;> by_cases h2 : b = d <;> simp [h1, h2]

theorem enters65 : ∀ args w, (callFunc 65 args).run Try.prog w = .ok (.enter 65 args) w := Go.Proofs.enters_of Try.func65 (by kernel_rfl) rfl
theorem enters67 : ∀ args w, (callFunc 67 args).run Try.prog w = .ok (.enter 67 args) w := Go.Proofs.enters_of Try.func67 (by kernel_rfl) rfl
def waitsB (on : Int) (t : Tk) : Bool := t.kind == 2 && t.on == on

set_option maxRecDepth 100000 in
set_option maxHeartbeats 1000000 in
theorem waits_any {T B : Nat} {t : Tk} {on : Int} {w : World} (hT : w.heap[T]? = some (.cells (tkCells t) 74 (0, 0))) (hB : w.cell? ⟨B, 0, none⟩ = some (.int .i64 on)) :
    Calls Try.prog 65 #[ptr T, ptr B] w fun e w' => e = .returned (.bool (waitsB on t)) ∧ ∃ k, w' = w.drewN k := by
  obtain ⟨-, -, t2, t3, -, -, -, -⟩ := tk_cell hT
  have heq := eqWish t.kind t.on 2 on
  have hg : ∀ w a b, (eqGuard .eql 31 a b (.agg #[.int .i64 t.kind, .int .i64 t.on]) (.agg #[.int .i64 2, .int .i64 on])).run Try.prog w = .ok () w := fun w a b => by kernel_rfl
  have hP : waitsB on t = (t.kind == 2 && t.on == on) := rfl
  rw [hP]
  clear hT hP
  generalize (t.kind == 2 && t.on == on) = r at heq ⊢
  unfold ptr
  go_enter Try.func65, Try.ntmps65
  go_wp2_with fail
  go_quiet (fail)
  go_wp2
  go_ret
  exact ⟨rfl, nq, rfl⟩

set_option maxRecDepth 100000 in
set_option maxHeartbeats 1000000 in
theorem cmp_any {B S g n cp x y Tx Ty a b : Nat} {W : World} (hB : W.cell? ⟨B, 0, none⟩ = some (.pointer (some ⟨S, 0, none⟩))) (hS : W.cell? ⟨S, 0, none⟩ = some (.slice (some ⟨g, 0, none⟩) n cp)) (hn : n ≤ 64) (hx : x < n) (hy : y < n)
    (hTx : W.cell? ⟨g, x, none⟩ = some (.pointer (some ⟨Tx, 0, none⟩))) (hTy : W.cell? ⟨g, y, none⟩ = some (.pointer (some ⟨Ty, 0, none⟩))) (ha : W.cell? ⟨Tx, 5, none⟩ = some (.int .i64 (a : Int))) (hb : W.cell? ⟨Ty, 5, none⟩ = some (.int .i64 (b : Int)))
    (ha2 : a < 4611686018427387904) (hb2 : b < 4611686018427387904) :
    Calls Try.prog 67 #[.int .i64 (x : Int), .int .i64 (y : Int), ptr B] W fun e w' => e = .returned (.int .i64 ((a : Int) - (b : Int))) ∧ ∃ q, w' = W.drewN q := by
  have hsub : IntKind.i64.wrap ((a : Int) - (b : Int)) = (a : Int) - (b : Int) := by rw [IntKind.wrap_i64]; omega
  clear ha2 hb2
  unfold ptr
  go_enter Try.func67, Try.ntmps67
  go_wp2_with fail
  go_quiet (fail)
  go_wp2
  go_ret
  exact ⟨by first | rfl | simp, nq, rfl⟩
end Go.Proofs.Ytekgdakkkbnpiaa
