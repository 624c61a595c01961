/- Words for what a step may turn. No condition. -/
import Derived.RangeFuncBox
import Derived.Below
namespace Go.Proofs.Ytekgdakkkbnpiaa
set_option linter.unusedVariables false
set_option linter.unusedSimpArgs false
open Go Go.RowKit

/-- What was turned lies among the blocks C, or is new. -/
structure Chg (C : Nat → Prop) (A B : World) : Prop where
  os : B.os = A.os
  tape : B.tape = A.tape
  output : B.output = A.output
  size : A.heap.size ≤ B.heap.size
  block : ∀ k, k < A.heap.size → ¬ C k → B.heap[k]? = A.heap[k]?

theorem Chg.refl (C : Nat → Prop) (A : World) : Chg C A A := ⟨rfl, rfl, rfl, Nat.le_refl _, fun _ _ _ => rfl⟩
theorem Chg.trans {C : Nat → Prop} {X Y Z : World} (h : Chg C X Y) (k : Chg C Y Z) : Chg C X Z :=
  ⟨k.os.trans h.os, k.tape.trans h.tape, k.output.trans h.output, Nat.le_trans h.size k.size, fun i hi hc => (k.block i (Nat.lt_of_lt_of_le hi h.size) hc).trans (h.block i hi hc)⟩
theorem Chg.mono {C D : Nat → Prop} {X Y : World} (h : Chg C X Y) (hcd : ∀ k, C k → D k) : Chg D X Y :=
  ⟨h.os, h.tape, h.output, h.size, fun i hi hd => h.block i hi (fun hc => hd (hcd i hc))⟩
theorem Chg.drew {C : Nat → Prop} {X Y : World} (h : Chg C X Y) : Chg C X Y.drew := ⟨h.os, h.tape, h.output, h.size, h.block⟩
theorem Chg.alloc {C : Nat → Prop} {X Y : World} (h : Chg C X Y) (o : Obj) : Chg C X (Y.alloc o) :=
  ⟨h.os, h.tape, h.output, by rw [World.size_alloc]; have := h.size; omega, fun i hi hc => (Below.heap_alloc Y o i (Nat.lt_of_lt_of_le hi h.size)).trans (h.block i hi hc)⟩
theorem Chg.setCell {C : Nat → Prop} {X Y : World} (h : Chg C X Y) {p : Addr} (hp : C p.block ∨ X.heap.size ≤ p.block) (u : Value) : Chg C X (Y.setCell p u) :=
  ⟨h.os, h.tape, h.output, Nat.le_trans h.size (KeepsWalks.setCell Y p u).size, fun i hi hc => (Below.heap_setCell Y p u i (fun e => by
    subst e; rcases hp with hp | hp
    · exact hc hp
    · omega)).trans (h.block i hi hc)⟩
theorem Chg.putObj {C : Nat → Prop} {X Y : World} (h : Chg C X Y) {r : Nat} (hp : C r ∨ X.heap.size ≤ r) (o : Obj) : Chg C X (Y.putObj r o) :=
  ⟨h.os, h.tape, h.output, by simpa using h.size, fun i hi hc => (World.putObj_heap_other (fun e => by
    subst e; rcases hp with hp | hp
    · exact hc hp
    · omega)).trans (h.block i hi hc)⟩
theorem Chg.below {C : Nat → Prop} {X Y : World} (h : Chg C X Y) {n : Nat} (hn : n ≤ X.heap.size) (hc : ∀ k, C k → n ≤ k) : Below n X Y :=
  ⟨h.os, h.tape, h.output, h.size, fun k hk => h.block k (by omega) (fun c => by have := hc k c; omega)⟩
theorem Chg.of_below {C : Nat → Prop} {X Y : World} (h : Below X.heap.size X Y) : Chg C X Y :=
  ⟨h.os, h.tape, h.output, h.size, fun k hk _ => h.block k hk⟩
theorem Chg.cell {C : Nat → Prop} {X Y : World} (h : Chg C X Y) {p : Addr} (hp : p.block < X.heap.size) (hc : ¬ C p.block) : Y.cell? p = X.cell? p := World.cell?_of_block (w := X) (h.block p.block hp hc)
theorem Chg.frozen {C : Nat → Prop} {X Y : World} (h : Chg C X Y) {p : Addr} (hp : p.block < X.heap.size) (hc : ¬ C p.block) : Y.frozen? p = X.frozen? p := World.frozen?_of_block (w := X) (h.block p.block hp hc)

end Go.Proofs.Ytekgdakkkbnpiaa
