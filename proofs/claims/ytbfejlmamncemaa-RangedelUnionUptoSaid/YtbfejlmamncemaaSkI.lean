/- Comparisons with nil and of truth values. No condition. -/
import Derived.Test.YtbfejlmamncemaaSkH
namespace Go.Proofs.Ytbfejlmamncemaa.Sk
open Go Go.RowKit Go.Proofs
set_option linter.unusedVariables false
section
variable {P : Program} {a : Fr} {σ : List Res} {o : Oper}
theorem eqIn_ptr (w : World) (d : Nat) (t e : TypeId) (b : Option Addr) (h : P.underlying t = some (.pointer e)) : (Op.equalIn (d + 1) t (.pointer b) (.pointer none)).run P w = .ok b.isNone w := by
  cases b <;> simp [Op.equalIn, run_underlying h]
theorem eqIn_bool (w : World) (d : Nat) (t : TypeId) (p q : Bool) (h : P.underlying t = some .bool) : (Op.equalIn (d + 1) t (.bool p) (.bool q)).run P w = .ok (p == q) w := by
  simp [Op.equalIn, run_underlying h]
theorem run_neq_ptr (w : World) (t e : TypeId) (b : Addr) (x y : Operand) (h : P.underlying t = some (.pointer e)) : (do eqGuard .neq t x y (.pointer (some b)) (.pointer none); binOp .neq t (.pointer (some b)) (.pointer none) : Sem Value).run P w = .ok (.bool true) w := by
  have h1 := eqIn_ptr w 9999 t e (some b) h
  have h2 : (binOp .neq t (.pointer (some b)) (.pointer none)).run P w = .ok (.bool true) w := by
    simp only [binOp]
    simp [Op.equal, Op.maxDepth, h1]
  simp [eqGuard, h2]
theorem run_eql_ptr (w : World) (t e : TypeId) (b : Addr) (x y : Operand) (h : P.underlying t = some (.pointer e)) : (do eqGuard .eql t x y (.pointer (some b)) (.pointer none); binOp .eql t (.pointer (some b)) (.pointer none) : Sem Value).run P w = .ok (.bool false) w := by
  have h1 := eqIn_ptr w 9999 t e (some b) h
  have h2 : (binOp .eql t (.pointer (some b)) (.pointer none)).run P w = .ok (.bool false) w := by
    simp only [binOp]
    simp [Op.equal, Op.maxDepth, h1]
  simp [eqGuard, h2]
theorem run_neq_nil (w : World) (t e : TypeId) (x y : Operand) (h : P.underlying t = some (.pointer e)) : (do eqGuard .neq t x y (.pointer none) (.pointer none); binOp .neq t (.pointer none) (.pointer none) : Sem Value).run P w = .ok (.bool false) w := by
  have h1 := eqIn_ptr w 9999 t e none h
  have h2 : (binOp .neq t (.pointer none) (.pointer none)).run P w = .ok (.bool false) w := by
    simp only [binOp]
    simp [Op.equal, Op.maxDepth, h1]
  simp [eqGuard, h2]
theorem run_eql_nil (w : World) (t e : TypeId) (x y : Operand) (h : P.underlying t = some (.pointer e)) : (do eqGuard .eql t x y (.pointer none) (.pointer none); binOp .eql t (.pointer none) (.pointer none) : Sem Value).run P w = .ok (.bool true) w := by
  have h1 := eqIn_ptr w 9999 t e none h
  have h2 : (binOp .eql t (.pointer none) (.pointer none)).run P w = .ok (.bool true) w := by
    simp only [binOp]
    simp [Op.equal, Op.maxDepth, h1]
  simp [eqGuard, h2]
theorem run_neq_bool (w : World) (t : TypeId) (p q : Bool) (x y : Operand) (h : P.underlying t = some .bool) : (do eqGuard .neq t x y (.bool p) (.bool q); binOp .neq t (.bool p) (.bool q) : Sem Value).run P w = .ok (.bool (!(p == q))) w := by
  have h1 := eqIn_bool w 9999 t p q h
  have h2 : (binOp .neq t (.bool p) (.bool q)).run P w = .ok (.bool (!(p == q))) w := by
    simp only [binOp]
    simp [Op.equal, Op.maxDepth, h1]
  simp [eqGuard, h2]
theorem run_eql_bool (w : World) (t : TypeId) (p q : Bool) (x y : Operand) (h : P.underlying t = some .bool) : (do eqGuard .eql t x y (.bool p) (.bool q); binOp .eql t (.bool p) (.bool q) : Sem Value).run P w = .ok (.bool (p == q)) w := by
  have h1 := eqIn_bool w 9999 t p q h
  have h2 : (binOp .eql t (.bool p) (.bool q)).run P w = .ok (.bool (p == q)) w := by
    simp only [binOp]
    simp [Op.equal, Op.maxDepth, h1]
  simp [eqGuard, h2]
theorem q_neq_ptr {t t' e : TypeId} {x y : Operand} {l : List Dat} {off : Nat} (ho : o.op = .binOp .neq t x y t') (hu : P.underlying t = some (.pointer e)) (hx : ev a x = .el l off) (hy : ev a y = .raw (.pointer none)) : QOp P o a σ (.raw (.bool true)) := by
  intro F w ca hi hv
  have h := ev_V hv x
  rw [hx] at h
  generalize he : ca.eval x = ex at h
  cases h with
  | el _ _ b o' g hF hV =>
    refine ⟨.bool true, .raw _, fun w1 _ => ?_⟩
    have h1 := run_neq_ptr w1 t e ⟨b, o' + off, none⟩ x y hu
    simp only [execOp, ho, Sem.run_bind, he, ev_raw hv hy, h1] at h1 ⊢
    simp [h1]
theorem q_eql_ptr {t t' e : TypeId} {x y : Operand} {l : List Dat} {off : Nat} (ho : o.op = .binOp .eql t x y t') (hu : P.underlying t = some (.pointer e)) (hx : ev a x = .el l off) (hy : ev a y = .raw (.pointer none)) : QOp P o a σ (.raw (.bool false)) := by
  intro F w ca hi hv
  have h := ev_V hv x
  rw [hx] at h
  generalize he : ca.eval x = ex at h
  cases h with
  | el _ _ b o' g hF hV =>
    refine ⟨.bool false, .raw _, fun w1 _ => ?_⟩
    have h1 := run_eql_ptr w1 t e ⟨b, o' + off, none⟩ x y hu
    simp only [execOp, ho, Sem.run_bind, he, ev_raw hv hy, h1] at h1 ⊢
    simp [h1]
theorem q_neq_nil {t t' e : TypeId} {x y : Operand} (ho : o.op = .binOp .neq t x y t') (hu : P.underlying t = some (.pointer e)) (hx : ev a x = .raw (.pointer none)) (hy : ev a y = .raw (.pointer none)) : QOp P o a σ (.raw (.bool false)) := by
  intro F w ca hi hv
  refine ⟨.bool false, .raw _, fun w1 _ => ?_⟩
  have h1 := run_neq_nil w1 t e x y hu
  simp only [execOp, ho, Sem.run_bind, ev_raw hv hx, ev_raw hv hy, h1] at h1 ⊢
  simp [h1]
theorem q_eql_nil {t t' e : TypeId} {x y : Operand} (ho : o.op = .binOp .eql t x y t') (hu : P.underlying t = some (.pointer e)) (hx : ev a x = .raw (.pointer none)) (hy : ev a y = .raw (.pointer none)) : QOp P o a σ (.raw (.bool true)) := by
  intro F w ca hi hv
  refine ⟨.bool true, .raw _, fun w1 _ => ?_⟩
  have h1 := run_eql_nil w1 t e x y hu
  simp only [execOp, ho, Sem.run_bind, ev_raw hv hx, ev_raw hv hy, h1] at h1 ⊢
  simp [h1]
theorem q_neq_bool {t t' : TypeId} {x y : Operand} {p q : Bool} (ho : o.op = .binOp .neq t x y t') (hu : P.underlying t = some .bool) (hx : ev a x = .raw (.bool p)) (hy : ev a y = .raw (.bool q)) : QOp P o a σ (.raw (.bool (!decide (p = q)))) := by
  intro F w ca hi hv
  refine ⟨.bool (!(p == q)), ?_, fun w1 _ => ?_⟩
  · have : (!(p == q)) = !decide (p = q) := by cases p <;> cases q <;> rfl
    rw [this]; exact .raw _
  · have h1 := run_neq_bool w1 t p q x y hu
    simp only [execOp, ho, Sem.run_bind, ev_raw hv hx, ev_raw hv hy, h1] at h1 ⊢
    simp [h1]
theorem q_eql_bool {t t' : TypeId} {x y : Operand} {p q : Bool} (ho : o.op = .binOp .eql t x y t') (hu : P.underlying t = some .bool) (hx : ev a x = .raw (.bool p)) (hy : ev a y = .raw (.bool q)) : QOp P o a σ (.raw (.bool (decide (p = q)))) := by
  intro F w ca hi hv
  refine ⟨.bool (p == q), ?_, fun w1 _ => ?_⟩
  · have : (p == q) = decide (p = q) := by cases p <;> cases q <;> rfl
    rw [this]; exact .raw _
  · have h1 := run_eql_bool w1 t p q x y hu
    simp only [execOp, ho, Sem.run_bind, ev_raw hv hx, ev_raw hv hy, h1] at h1 ⊢
    simp [h1]
end
end Go.Proofs.Ytbfejlmamncemaa.Sk
