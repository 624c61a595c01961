/- What of a law's arguments is the same in its rows. No condition. -/
import Derived.Test.YtbfejlmamncemaaAh
import Derived.Test.YtbfejlmamncemaaRk
import Derived.JoinedCond
import Derived.OpenShut
import Derived.ProofKit
namespace Go.Proofs.Ytbfejlmamncemaa.Sk
open Go Go.RowKit Go.Proofs Go.Proofs.Ytbfejlmamncemaa Go.ChangeShapes Go.WideShapes Go.ChangeAt
set_option linter.unusedVariables false
section
variable {H : Type} {enc : TypeId × Value → H} {W : World}
theorem opD_tomb : OpD enc Try.prog W 38 (fun x : ByteArray × ByteArray × Int => encT ⟨x.1, x.2.1, x.2.2⟩) (fun _ => 1) := fun fuel cs d ps h => by
  obtain ⟨x, h1, _⟩ := opens_struct (B := fun _ => 1 + (1 + 1)) Try.underlying38 (m := 1 + (1 + 1)) (by kernel_rfl)
    (opD_cons (B := fun _ => 1) (C := fun _ => 1 + 1) rfl (by kernel_rfl) (fun g hg => by simp at hg; rcases hg with rfl | rfl <;> decide) (opD_string Try.underlying9)
      (opD_cons (B := fun _ => 1) (C := fun _ => 1) rfl (by kernel_rfl) (fun g hg => by simp at hg; subst hg; decide) (opD_string Try.underlying9)
        (fields_one rfl (by kernel_rfl) (opD_int Try.underlying36)))) fuel cs d ps h
  exact ⟨x, h1, bulk_one d⟩
theorem sum_ones {α : Type} (l : List α) : (l.map fun _ => 1).sum = l.length := by
  induction l with
  | nil => rfl
  | cons x r ih => simp only [List.map_cons, List.sum_cons, ih, List.length_cons]; omega
theorem open_tombs {v : Value} {d : DataW H} {ps : List MemPlace} {A : Option Addr} {n c : Nat} (hv : v = .slice A n c) (h : DataW.Trod enc Try.prog W 0 (fun _ => true) true 22 v d ps) :
    ∃ l : List Tomb, V (F0 W) W (.sl 3 (l.map encT)) v ∧ l.length < Rows.uptoBulk d := by
  subst hv
  obtain ⟨l, h1, h2⟩ := (opD_slice (sz := 3) Try.underlying22 (by kernel_rfl) (by decide) opD_tomb).arg rfl h
  refine ⟨l.map fun x => ⟨x.1, x.2.1, x.2.2⟩, ?_, ?_⟩
  · rw [List.map_map]; exact h1
  · rw [sum_ones] at h2; rw [List.length_map]; omega
theorem open_keys {v : Value} {d : DataW H} {ps : List MemPlace} {A : Option Addr} {n c : Nat} (hv : v = .slice A n c) (h : DataW.Trod enc Try.prog W 0 (fun _ => true) true 23 v d ps) :
    ∃ l : List ByteArray, V (F0 W) W (.sl 1 (l.map encS)) v ∧ l.length < Rows.uptoBulk d := by
  subst hv
  obtain ⟨l, h1, h2⟩ := (opD_slice (sz := 1) Try.underlying23 (by kernel_rfl) (by decide) (opD_string Try.underlying9)).arg rfl h
  refine ⟨l, h1, ?_⟩
  rw [sum_ones] at h2; omega
end
theorem vargs_nil (F : Nat → Nat → Prop) (W : World) : VArgs F W [] [] := ⟨rfl, fun i d v h => by simp at h⟩
theorem vargs_cons {F : Nat → Nat → Prop} {W : World} {d : Dat} {v : Value} {ds : List Dat} {vs : List Value} (h : V F W d v) (t : VArgs F W ds vs) : VArgs F W (d :: ds) (v :: vs) := by
  refine ⟨by simp [t.1], fun i d' v' hd hv => ?_⟩
  cases i with
  | zero => simp at hd hv; subst hd; subst hv; exact h
  | succ i => exact t.2 i d' v' (by simpa using hd) (by simpa using hv)
/-- a law that answers with a truth value, run on what came in -/
theorem law_run {f : FuncId} {args : List Dat} {b : Bool} {W : World} {cargs : List Value} (h : ACalls Try.prog f args [] (RV (.raw (.bool b)) [])) (hv : VArgs (F0 W) W args cargs) : Calls Try.prog f cargs.toArray W fun e W' => e = .returned (.bool b) ∧ Below W.heap.size W W' := by
  refine (h.2 (F0 W) W cargs (inv0 W) hv).mono ?_
  rintro e W' ⟨F', σ', o, ext, inv, ho, hR⟩
  obtain ⟨rfl, rfl⟩ := hR
  refine ⟨?_, ext.below⟩
  cases e with
  | returned u => exact congrArg Ending.returned (raw_of ho)
  | panicked c => exact ho.elim
  | outgrown => exact ho.elim
end Go.Proofs.Ytbfejlmamncemaa.Sk
