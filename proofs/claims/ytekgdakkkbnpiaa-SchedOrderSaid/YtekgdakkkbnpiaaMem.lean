/- Memory that is known block by block; a pick from outside. No condition. -/
import Derived.Test.YtekgdakkkbnpiaaRun
namespace Go.Proofs.Ytekgdakkkbnpiaa
set_option linter.unusedVariables false
set_option linter.unusedSimpArgs false
open Go Go.RowKit

/-- These blocks lie so. -/
def Has (m : Nat → Option Obj) (D : Nat → Prop) (w : World) : Prop := (∀ k, D k ↔ (m k).isSome = true) ∧ ∀ k o, m k = some o → w.heap[k]? = some o
theorem Has.local_ (m : Nat → Option Obj) : Local (Has m) :=
  ⟨fun D E w w' h hc hd => ⟨h.1, fun k o hk => by
    have hD : D k := (h.1 k).2 (by rw [hk]; rfl)
    have hb := h.2 k o hk
    exact (hc.block k (Array.getElem?_eq_some_iff.1 hb).1 (hd k hD)).trans hb⟩,
   fun D w h k hk => by
    obtain ⟨o, ho⟩ := Option.isSome_iff_exists.1 ((h.1 k).1 hk)
    exact (Array.getElem?_eq_some_iff.1 (h.2 k o ho)).1⟩
def mset (m : Nat → Option Obj) (k : Nat) (o : Obj) : Nat → Option Obj := fun j => if j = k then some o else m j
theorem mset_same (m : Nat → Option Obj) (k : Nat) (o : Obj) : mset m k o k = some o := if_pos rfl
theorem mset_other (m : Nat → Option Obj) {k j : Nat} (o : Obj) (h : j ≠ k) : mset m k o j = m j := if_neg h
/-- A known block is written. -/
theorem Has.put {m : Nat → Option Obj} {D : Nat → Prop} {w : World} {k : Nat} {cs : Array Value} {t : TypeId} (h : Has m D w) (hk : m k = some (.cells cs t (0, 0))) (j : Nat) (u : Value) :
    Has (mset m k (.cells (cs.setIfInBounds j u) t (0, 0))) D (w.setCell ⟨k, j, none⟩ u) := by
  refine ⟨fun i => ?_, fun i o hi => ?_⟩
  · unfold mset
    by_cases e : i = k
    · subst e; rw [if_pos rfl]; simp [h.1 i, hk]
    · rw [if_neg e]; exact h.1 i
  · unfold mset at hi
    by_cases e : i = k
    · subst e; rw [if_pos rfl] at hi
      injection hi with hi; subst hi
      exact Blk.set_ (t := t) (h.2 i _ hk) j u
    · rw [if_neg e] at hi
      exact (Below.heap_setCell w _ u i e).trans (h.2 i o hi)
theorem Has.more {m : Nat → Option Obj} {D : Nat → Prop} {w : World} (h : Has m D w) {k : Nat} {o : Obj} (hb : w.heap[k]? = some o) : Has (mset m k o) (fun j => D j ∨ j = k) w := by
  refine ⟨fun i => ?_, fun i u hi => ?_⟩
  · unfold mset
    by_cases e : i = k
    · subst e; rw [if_pos rfl]; simp
    · rw [if_neg e]; simp [e, h.1 i]
  · unfold mset at hi
    by_cases e : i = k
    · subst e; rw [if_pos rfl] at hi
      injection hi with hi; subst hi; exact hb
    · rw [if_neg e] at hi; exact h.2 i u hi
theorem Has.none_ (w : World) : Has (fun _ => none) (fun _ => False) w := ⟨fun _ => by simp, fun _ _ h => by cases h⟩

/-- What is known is written within all. -/
theorem full_put {F : Nat → Prop} {S : Nat} {Ts : List Nat} {σ : Sc} {m : Nat → Option Obj} {w : World} (h : Full F S Ts σ (Has m) w) {k : Nat} {cs : Array Value} {t : TypeId} (hk : m k = some (.cells cs t (0, 0))) (j : Nat) (u : Value) :
    Full F S Ts σ (Has (mset m k (.cells (cs.setIfInBounds j u) t (0, 0)))) (w.setCell ⟨k, j, none⟩ u) ∧ Chg F w (w.setCell ⟨k, j, none⟩ u) := by
  obtain ⟨C, D, hrep, hr, hd, hf⟩ := h
  have hD : D k := (hr.1 k).2 (by rw [hk]; rfl)
  have hc : Chg (fun q => q = k) w (w.setCell ⟨k, j, none⟩ u) := Chg.setCell (C := fun q => q = k) (Chg.refl _ w) (p := ⟨k, j, none⟩) (.inl rfl) u
  exact ⟨⟨C, D, hrep.chg hc (fun q hq e => by subst e; exact hd _ hq hD), hr.put hk j u, hd, hf⟩, hc.mono (fun q e => by subst e; exact (hf _).2 (.inr hD))⟩
/-- More becomes known. -/
theorem full_more {F : Nat → Prop} {S : Nat} {Ts : List Nat} {σ : Sc} {m : Nat → Option Obj} {w : World} (h : Full F S Ts σ (Has m) w) {k : Nat} {o : Obj} (hb : w.heap[k]? = some o) (hF : ¬ F k) :
    Full (fun j => F j ∨ j = k) S Ts σ (Has (mset m k o)) w := by
  obtain ⟨C, D, hrep, hr, hd, hf⟩ := h
  exact ⟨C, fun j => D j ∨ j = k, hrep, hr.more hb, fun q hq hD => by
    rcases hD with h | h
    · exact hd q hq h
    · subst h; exact hF ((hf _).2 (.inl hq)), fun q => by show F q ∨ q = k ↔ C q ∨ (D q ∨ q = k); rw [hf q, or_assoc]⟩
theorem full_known {F : Nat → Prop} {S : Nat} {Ts : List Nat} {σ : Sc} {m : Nat → Option Obj} {w : World} (h : Full F S Ts σ (Has m) w) {k : Nat} {o : Obj} (hk : m k = some o) : w.heap[k]? = some o := by
  obtain ⟨C, D, hrep, hr, hd, hf⟩ := h
  exact hr.2 k o hk

theorem pick_out {S : Nat} {i : Int} {w : World} {Q : Ending → World → Prop} {n e : Int} {Z : World → Prop} (h : Calls Try.prog 29 #[ptr S, .int .i64 i] w fun en w' => en = .returned (.tuple #[.int .i64 n, .int .i64 e]) ∧ Z w') :
    Calls Try.prog 13 #[ptr S, .int .i64 i] w fun en w' => en = .returned (.tuple #[.int .i64 n, .int .i64 e]) ∧ Z w' := by
  have HH := Lib.hid h
  clear h
  unfold ptr at *
  go_enter Try.func13, Try.ntmps13
  go_wp2_with fail
  refine HH.out.mono ?_
  rintro e w1 ⟨rfl, hz⟩
  go_wp2
  go_ret2
  exact ⟨rfl, hz⟩
end Go.Proofs.Ytekgdakkkbnpiaa
