/- A range over a function whose iterator keeps state of its own in cells: one law for the caller; a word for what a step may turn. No condition. -/
import Derived.RangeFuncNested
import Derived.RangeFuncBound
import Derived.RangeFuncCalls
import Derived.RangeFuncBox
import Derived.Below
namespace Go.Proofs.Ytkinddhbdjbdgaa
open Go Go.RowKit

/-- What was turned lies among the blocks C, or is new. -/
structure Chg (C : Nat → Prop) (A B : World) : Prop where
  os : B.os = A.os
  tape : B.tape = A.tape
  output : B.output = A.output
  size : A.heap.size ≤ B.heap.size
  block : ∀ k, k < A.heap.size → ¬ C k → B.heap[k]? = A.heap[k]?

theorem Chg.refl (C : Nat → Prop) (A : World) : Chg C A A := ⟨rfl, rfl, rfl, Nat.le_refl _, fun _ _ _ => rfl⟩
theorem Chg.trans {C : Nat → Prop} {X Y Z : World} (h : Chg C X Y) (k : Chg C Y Z) : Chg C X Z :=
  ⟨k.os.trans h.os, k.tape.trans h.tape, k.output.trans h.output, Nat.le_trans h.size k.size, fun i hi hc => (k.block i (Nat.lt_of_lt_of_le hi h.size) hc).trans (h.block i hi hc)⟩
theorem Chg.mono {C D : Nat → Prop} {X Y : World} (h : Chg C X Y) (hcd : ∀ k, C k → D k) : Chg D X Y :=
  ⟨h.os, h.tape, h.output, h.size, fun i hi hd => h.block i hi (fun hc => hd (hcd i hc))⟩
theorem Chg.drew {C : Nat → Prop} {X Y : World} (h : Chg C X Y) : Chg C X Y.drew := ⟨h.os, h.tape, h.output, h.size, h.block⟩
theorem Chg.alloc {C : Nat → Prop} {X Y : World} (h : Chg C X Y) (o : Obj) : Chg C X (Y.alloc o) :=
  ⟨h.os, h.tape, h.output, by rw [World.size_alloc]; have := h.size; omega, fun i hi hc => (Below.heap_alloc Y o i (Nat.lt_of_lt_of_le hi h.size)).trans (h.block i hi hc)⟩
theorem Chg.setCell {C : Nat → Prop} {X Y : World} (h : Chg C X Y) {p : Addr} (hp : C p.block ∨ X.heap.size ≤ p.block) (u : Value) : Chg C X (Y.setCell p u) :=
  ⟨h.os, h.tape, h.output, Nat.le_trans h.size (KeepsWalks.setCell Y p u).size, fun i hi hc => (Below.heap_setCell Y p u i (fun e => by
    subst e; rcases hp with hp | hp
    · exact hc hp
    · omega)).trans (h.block i hi hc)⟩
theorem Chg.putObj {C : Nat → Prop} {X Y : World} (h : Chg C X Y) {r : Nat} (hp : C r ∨ X.heap.size ≤ r) (o : Obj) : Chg C X (Y.putObj r o) :=
  ⟨h.os, h.tape, h.output, by simpa using h.size, fun i hi hc => (World.putObj_heap_other (fun e => by
    subst e; rcases hp with hp | hp
    · exact hc hp
    · omega)).trans (h.block i hi hc)⟩
theorem Chg.below {C : Nat → Prop} {X Y : World} (h : Chg C X Y) {n : Nat} (hn : n ≤ X.heap.size) (hc : ∀ k, C k → n ≤ k) : Below n X Y :=
  ⟨h.os, h.tape, h.output, h.size, fun k hk => h.block k (by omega) (fun c => by have := hc k c; omega)⟩
theorem Chg.of_below {C : Nat → Prop} {X Y : World} (h : Below X.heap.size X Y) : Chg C X Y :=
  ⟨h.os, h.tape, h.output, h.size, fun k hk _ => h.block k hk⟩
theorem Chg.cell {C : Nat → Prop} {X Y : World} (h : Chg C X Y) {p : Addr} (hp : p.block < X.heap.size) (hc : ¬ C p.block) : Y.cell? p = X.cell? p := World.cell?_of_block (w := X) (h.block p.block hp hc)
theorem Chg.frozen {C : Nat → Prop} {X Y : World} (h : Chg C X Y) {p : Addr} (hp : p.block < X.heap.size) (hc : ¬ C p.block) : Y.frozen? p = X.frozen? p := World.frozen?_of_block (w := X) (h.block p.block hp hc)

variable {n m : Nat} {P : Program}

/-- What an iterator does with a body: N rounds at most, the i-th with the values 'encs i'; 'C': the blocks that are its own; 'St i': its own state ahead of round i. -/
def Iter (n : Nat) (P : Program) (g : Nat) (lb : Array Value) (encs : Nat → Array Value) (C : Nat → Prop) (N : Nat) (W0 : World) (St : Nat → World → Prop) : Prop :=
  ∀ (l : Nat) (J Jx : Nat → World → Prop) (W : World), Chg (fun k => W0.heap.size ≤ k) W0 W →
    (∀ i X Y, J i X → Chg C X Y → J i Y) →
    (∀ i X, i < N → J i X → St i X → YieldAt Fence.wide (n - 1) P l (encs i) X fun e Y =>
      (e = .returned (.bool true) ∧ J (i + 1) Y ∧ (∀ k, C k → Y.heap[k]? = X.heap[k]?)) ∨ (e = .returned (.bool false) ∧ Jx i Y)) →
    J 0 W → St 0 W →
    CallsIn Fence.wide n P g (#[.func (.yield l) #[] #[]] ++ lb) W fun e Y => (∃ v, e = .returned v) ∧ (J N Y ∨ ∃ i, i < N ∧ Jx i Y)

/-- How the body of a round may be left. -/
def roundEnds (C : Nat → Prop) (D : Nat) (I : Nat → World → Prop) (Ix : Code → Nat → World → Prop) (i : Nat) (W : World) : Exit → Act → World → Prop
  | .normal, _, W' => (∀ k, C k ∨ k = D ∨ k = D + 1 → W'.heap[k]? = W.heap[k]?) ∧ I (i + 1) W'
  | .ret, _, W' => (∀ k, k = D ∨ k = D + 1 → W'.heap[k]? = W.heap[k]?) ∧ Ix .ret i W'
  | .exit id, _, W' => (∀ k, k = D ∨ k = D + 1 → W'.heap[k]? = W.heap[k]?) ∧ Ix (.exit id) i W'
  | .goto t, _, W' => (∀ k, k = D ∨ k = D + 1 → W'.heap[k]? = W.heap[k]?) ∧ Ix (.goto t) i W'
  | .panic _, _, _ => False
  | .outgrown, _, _ => False

/-- The statement 'for .. := range g { .. }' in a function of its own (in no round of another such loop). -/
theorem wpIn_rangeFunc_iter {g : Operand} {ps : Array Tmp} {assign body : Code} {Q : Exit → Act → World → Prop} {a : Act} {w : World}
    {gf : Nat} {lb : Array Value} (hg : a.eval g = .func (.func gf) #[] lb) (eg : ∀ args w, (callFunc gf args).run P w = .ok (.enter gf args) w)
    {encs : Nat → Array Value} {C : Nat → Prop} {N : Nat} {St : Nat → World → Prop} (hit : Iter (n - 1) P gf lb encs C N w St)
    (hC : ∀ k, C k → k < w.heap.size) (hSt : ∀ i X Y, St i X → (∀ k, C k → Y.heap[k]? = X.heap[k]?) → St i Y) (hps : ∀ i, (encs i).size = ps.size)
    (I : Nat → World → Prop) (Ix : Code → Nat → World → Prop)
    (hI : ∀ i X Y, I i X → Chg (fun k => C k ∨ k = w.heap.size ∨ k = w.heap.size + 1) X Y → I i Y)
    (hIx : ∀ c i X Y, Ix c i X → Chg (fun k => C k ∨ k = w.heap.size ∨ k = w.heap.size + 1) X Y → Ix c i Y)
    (h0 : I 0 w) (hs0 : St 0 w) (a₁ : Nat → Act)
    (hassign : ∀ (l i : Nat) (W : World) (K : Act → World → Prop), i < N → I i W → K (a₁ i) W →
      assign.wpIn (Fence.wide.inRound l) (n - 1 - 1) P (Exit.then K (fun _ _ _ => False)) { tmps := (ps.zip (encs i)).foldl (fun t (p, v) => t.setIfInBounds p v) a.tmps, defers := [] } W)
    (hbody : ∀ (l i : Nat) (W : World), i < N → w.heap.size + 1 < W.heap.size → I i W → St i W → body.wpIn (Fence.wide.inRound l) (n - 1 - 1) P (roundEnds C w.heap.size I Ix i W) (a₁ i) W)
    (hdone : ∀ (W : World), I N W → W.heap[w.heap.size]? = some (.deferred (some [])) → Q .normal { a with defers := { target := .collected w.heap.size, args := #[] } :: a.defers } W)
    (hstop : ∀ (c : Code) (i : Nat) (W : World), i < N → Ix c i W → W.heap[w.heap.size]? = some (.deferred (some [])) → c.wpIn Fence.wide n P Q { a with defers := { target := .collected w.heap.size, args := #[] } :: a.defers } W) :
    (Code.rangeFunc g ps assign body).wpIn Fence.wide n P Q a w := by
  refine wpIn_rangeFunc ?_
  intro fn hfn
  obtain ⟨rec, hrec⟩ : ∃ rec : LoopState → Option Code → Loop, rec = fun st pe => { state := st, pending := pe, fn, tmps := a.tmps, params := ps, assign, body, defers := w.heap.size } := ⟨_, rfl⟩
  obtain ⟨W1, hW1⟩ : ∃ W1, (w.alloc (.deferred (some []))).alloc (.loop (rec .ready none)) = W1 := ⟨_, rfl⟩
  have hL1 : W1.heap[w.heap.size + 1]? = some (.loop (rec .ready none)) := by
    rw [← hW1]; have := World.alloc_heap_new (w.alloc (.deferred (some []))) (.loop (rec .ready none)); rwa [World.size_alloc] at this
  have hK1 : W1.heap[w.heap.size]? = some (.deferred (some [])) := by
    rw [← hW1]; exact (Below.heap_alloc _ _ _ (by simp)).trans (World.alloc_heap_new w _)
  have hc1 : ∀ D : Nat → Prop, Chg D w W1 := fun D => by rw [← hW1]; exact ((Chg.refl _ w).alloc _).alloc _
  have hI1 : I 0 W1 := hI _ _ _ h0 (hc1 _)
  have hs1 : St 0 W1 := hSt _ _ _ hs0 (fun k hk => (hc1 (fun _ => False)).block k (hC k hk) (fun h => h))
  refine ⟨w.heap.size + 1, [{ target := .collected w.heap.size, args := #[] }], W1, { target := .fn (.func gf) lb, args := #[.func (.yield (w.heap.size + 1)) #[] #[]] }, W1, gf,
    #[.func (.yield (w.heap.size + 1)) #[] #[]] ++ lb, W1, ?_, ?_, ?_, ?_, fun h => by simp [Fence.wide] at h, ?_⟩
  · rw [← hW1, hrec]; exact run_enterLoop_outer _ _ _ _ _
  · simp only [resolve, hg]
    simp [go_sem]
  · intro f' _; trivial
  · simp [invoke, go_sem, eg]
  · refine (hit (w.heap.size + 1)
      (fun i W => I i W ∧ W.heap[w.heap.size + 1]? = some (.loop (rec .ready none)) ∧ W.heap[w.heap.size]? = some (.deferred (some [])))
      (fun i W => ∃ c, Ix c i W ∧ W.heap[w.heap.size + 1]? = some (.loop (rec .done (some c))) ∧ W.heap[w.heap.size]? = some (.deferred (some [])))
      W1 (hc1 _) ?_ ?_ ⟨hI1, hL1, hK1⟩ hs1).mono ?_
    · rintro i X Y ⟨hi, hl, hk⟩ hch
      have hlt : w.heap.size + 1 < X.heap.size := (Array.getElem?_eq_some_iff.1 hl).1
      exact ⟨hI _ _ _ hi (hch.mono fun k h => .inl h), (hch.block _ hlt (fun c => by have := hC _ c; omega)).trans hl, (hch.block _ (by omega) (fun c => by have := hC _ c; omega)).trans hk⟩
    · rintro i W hlen ⟨hi, hl, hk⟩ hst
      have hlt : w.heap.size + 1 < W.heap.size := (Array.getElem?_eq_some_iff.1 hl).1
      have hy := run_yield (P := P) (args := encs i) hl (by rw [hrec]; exact hps i)
      rw [hrec] at hy
      refine ⟨fn, _, assign, body, hy, roundIn_of_wpIn hfn (hassign _ i W _ hlen hi ⟨_, run_beginRound hl (by rw [hrec]), ?_⟩)⟩
      have hl2 : (W.putObj (w.heap.size + 1) (.loop { rec .ready none with state := .busy })).heap[w.heap.size + 1]? = some (.loop { rec .ready none with state := .busy }) := World.putObj_heap_same hlt
      have hk2 : (W.putObj (w.heap.size + 1) (.loop { rec .ready none with state := .busy })).heap[w.heap.size]? = some (.deferred (some [])) := (World.putObj_heap_other (by omega)).trans hk
      have hi2 : I i (W.putObj (w.heap.size + 1) (.loop { rec .ready none with state := .busy })) := hI _ _ _ hi ((Chg.refl _ W).putObj (.inl (.inr (.inr rfl))) _)
      have hs2 : St i (W.putObj (w.heap.size + 1) (.loop { rec .ready none with state := .busy })) := hSt _ _ _ hst (fun k hk => World.putObj_heap_other (by have := hC k hk; omega))
      refine wpIn_mono (hbody _ i _ hlen (by rw [World.putObj_size]; exact hlt) hi2 hs2) ?_
      have fin : ∀ (jump : Option Code) (W3 : World), (∀ k, k = w.heap.size ∨ k = w.heap.size + 1 → W3.heap[k]? = (W.putObj (w.heap.size + 1) (.loop { rec .ready none with state := .busy })).heap[k]?) →
          (Instr.endRound (w.heap.size + 1) jump).run P W3 = .ok (.bool jump.isNone) (W3.putObj (w.heap.size + 1) (.loop (rec (if jump.isNone then .ready else .done) jump))) ∧
          (W3.putObj (w.heap.size + 1) (.loop (rec (if jump.isNone then .ready else .done) jump))).heap[w.heap.size + 1]? = some (.loop (rec (if jump.isNone then .ready else .done) jump)) ∧
          (W3.putObj (w.heap.size + 1) (.loop (rec (if jump.isNone then .ready else .done) jump))).heap[w.heap.size]? = some (.deferred (some [])) := fun jump W3 hk3 => by
        have hl3 := (hk3 _ (.inr rfl)).trans hl2
        have := run_endRound (P := P) jump hl3
        rw [hrec] at this ⊢
        exact ⟨this, World.putObj_heap_same (Array.getElem?_eq_some_iff.1 hl3).1, (World.putObj_heap_other (by omega)).trans ((hk3 _ (.inl rfl)).trans hk2)⟩
      have out : ∀ (X : World) (o : Obj), Chg (fun k => C k ∨ k = w.heap.size ∨ k = w.heap.size + 1) X (X.putObj (w.heap.size + 1) o) := fun X o => (Chg.refl _ X).putObj (.inl (.inr (.inr rfl))) o
      rintro e a3 W3 hp
      cases e with
      | normal =>
        obtain ⟨hk3, hi3⟩ := hp
        obtain ⟨hr, hl4, hk4⟩ := fin none W3 (fun k hk => hk3 k (.inr hk))
        exact ⟨_, _, hr, .inl ⟨rfl, ⟨hI _ _ _ hi3 (out _ _), hl4, hk4⟩, fun k hk => (World.putObj_heap_other (by have := hC k hk; omega)).trans ((hk3 k (.inl hk)).trans (World.putObj_heap_other (by have := hC k hk; omega)))⟩⟩
      | ret =>
        obtain ⟨hk3, hi3⟩ := hp
        obtain ⟨hr, hl4, hk4⟩ := fin (some .ret) W3 hk3
        exact ⟨_, _, hr, .inr ⟨rfl, .ret, hIx _ _ _ _ hi3 (out _ _), hl4, hk4⟩⟩
      | exit id =>
        obtain ⟨hk3, hi3⟩ := hp
        obtain ⟨hr, hl4, hk4⟩ := fin (some (.exit id)) W3 hk3
        exact ⟨_, _, hr, .inr ⟨rfl, .exit id, hIx _ _ _ _ hi3 (out _ _), hl4, hk4⟩⟩
      | goto t =>
        obtain ⟨hk3, hi3⟩ := hp
        obtain ⟨hr, hl4, hk4⟩ := fin (some (.goto t)) W3 hk3
        exact ⟨_, _, hr, .inr ⟨rfl, .goto t, hIx _ _ _ _ hi3 (out _ _), hl4, hk4⟩⟩
      | panic ch => exact hp.elim
      | outgrown => exact hp.elim
    · rintro e W2 ⟨⟨v, rfl⟩, (⟨hi, hl, hk⟩ | ⟨i, hin, c, hi, hl, hk⟩)⟩
      · exact ⟨none, _, by have := run_endLoop (P := P) hl (by rw [hrec]; simp); rw [hrec] at this; exact this, hdone _ (hI _ _ _ hi ((Chg.refl _ W2).putObj (.inl (.inr (.inr rfl))) _)) ((World.putObj_heap_other (by omega)).trans hk)⟩
      · exact ⟨some c, _, by have := run_endLoop (P := P) hl (by rw [hrec]; simp); rw [hrec] at this; exact this, hstop c i _ hin (hIx _ _ _ _ hi ((Chg.refl _ W2).putObj (.inl (.inr (.inr rfl))) _)) ((World.putObj_heap_other (by omega)).trans hk)⟩

def loopMark (D : Nat) : Deferred := { target := .collected D, args := #[] }
/-- A function's end, where only marks of loops over functions were laid: each is struck; nothing else turns. -/
theorem leaves_marks {fn : Func} {tmps : Array Value} {R : Ending → World → Prop} : ∀ (Ds : List Nat) (w : World), Ds.Nodup → (∀ D ∈ Ds, w.heap[D]? = some (.deferred (some []))) →
    (∀ w', Chg (· ∈ Ds) w w' → ∃ v, (results fn tmps).run P w' = .ok v w' ∧ R (.returned v) w') → LeavesInM Fence.wide n P fn tmps R (Ds.map loopMark) .returning w
  | [], w, _, _, h => h w (Chg.refl _ _)
  | D :: Ds, w, hnd, hd, h => by
    refine ⟨by simp, .inl ⟨D, _, rfl, run_takeDeferred (hd D (by simp)), ?_⟩⟩
    refine leaves_marks Ds _ (List.nodup_cons.1 hnd).2 (fun D' hD' => ?_) (fun w' hc => ?_)
    · exact (World.putObj_heap_other (fun e => (List.nodup_cons.1 hnd).1 (by rw [← e]; exact hD'))).trans (hd D' (by simp [hD']))
    · exact h w' (((Chg.refl (· ∈ D :: Ds) w).putObj (.inl (by simp)) _).trans (hc.mono (fun k hk => by simp [hk])))

end Go.Proofs.Ytkinddhbdjbdgaa
