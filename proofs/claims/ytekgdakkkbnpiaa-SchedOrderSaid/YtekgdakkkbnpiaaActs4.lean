/- What a step does: it panics. No condition. -/
import Derived.Test.YtekgdakkkbnpiaaActs3
import Derived.Laws.Panics
namespace Go.Proofs.Ytekgdakkkbnpiaa
set_option linter.unusedVariables false
set_option linter.unusedSimpArgs false
open Go Go.RowKit

theorem idx_out (L : Nat) (w : World) : ∃ (u : TypeId) (pv : Value) (k : Nat), (Instr.indexAt 26 (.slice none 0 0) (.int .i64 (L : Int))).run Try.prog w = .halt (.panic (.iface u pv)) (w.drewN k) := by
  have h := Try.underlying26
  have e : (Instr.indexAt 26 (.slice none 0 0) (.int .i64 (L : Int))).run Try.prog w = (boundsPanic (α := Value) .i64 (L : Int) 0 .index).run Try.prog w := by
    simp [Instr.indexAt, run_underlying h, asIntOf]
  rw [e]
  unfold boundsPanic
  split
  · have e2 : ∀ q, q = w.drewN 1 → ∃ (u : TypeId) (pv : Value), (do let signed ← (fun x => x == 1) <$> choose (Question.extern "runtime.boundsError.signed" 2); (runtimePanic (RuntimeError.bounds (IntKind.i64.wrap (L : Int)) 0 signed BoundsCode.index) : Sem Value)).run Try.prog w = .halt (.panic (.iface u pv)) q := by
      intro q hq
      simp [runtimePanic, goPanic, go_sem]
      exact hq.symm
    obtain ⟨u, pv, h⟩ := e2 _ rfl
    exact ⟨u, pv, 1, h⟩
  · have e2 : ∀ q, q = w.drewN 0 → ∃ (u : TypeId) (pv : Value), (runtimePanic (RuntimeError.bounds (IntKind.i64.wrap (L : Int)) 0 (IntKind.i64 != .u64) BoundsCode.index) : Sem Value).run Try.prog w = .halt (.panic (.iface u pv)) q := by
      intro q hq
      simp [runtimePanic, goPanic, go_sem]
      exact hq.symm
    obtain ⟨u, pv, h⟩ := e2 _ rfl
    exact ⟨u, pv, 0, h⟩

set_option maxRecDepth 100000 in
set_option maxHeartbeats 4000000 in
theorem acts_panic {a : Adr} {s : AS} {b : Bool} {F : Nat → Prop} {Ts : List Nat} {w : World} (h : Full F a.S Ts (sc a b s) (RP a s) w) (n : Nat) (o : Int) (htl : s.told.length < 1000000000) :
    Calls Try.prog 57 #[ptr a.P, .int .i64 (n : Int), .agg #[.int .i64 3, .int .i64 o]] w fun e w' => (∃ u pv, e = .panicked [{ v := .iface u pv, recovered := false }]) ∧
      ∃ F', Full F' a.S Ts (sc a b s) (RP a s) w' ∧ Owned F w F' w' := by
  obtain ⟨C, D, hrep, ⟨m, hm, hpm⟩, hdd, hf⟩ := id h
  obtain ⟨A, cp, hmP, hP⟩ := pm_cells hpm hm
  have hPl : a.P < w.heap.size := (Array.getElem?_eq_some_iff.1 hP).1
  have cP2 : ∀ ob, (w.alloc ob).cell? ⟨a.P, 2, none⟩ = some (.slice A s.told.length cp) := fun ob => (World.cell?_alloc_lt w ob ⟨a.P, 2, none⟩ hPl).trans (Blk.cell (t := 41) hP 2)
  have HH := Lib.hid h
  obtain ⟨u, pv, k, hidx⟩ := idx_out s.told.length (w.alloc (.cells #[.int .i64 3, .int .i64 o] 50))
  clear h hrep hm hpm hdd hf hmP hP
  unfold ptr
  go_enter Try.func57, Try.ntmps57
  go_wp2_with fail
  have hb : Below w.heap.size w ((w.alloc (.cells #[.int .i64 3, .int .i64 o] 50)).drewN k) := ((Below.refl _ w).alloc (Nat.le_refl _) _).trans ⟨rfl, rfl, rfl, Nat.le_refl _, fun _ _ => rfl⟩
  have hfin := Lib.hid (And.intro (HH.out.below (RP.local_ a s) hb) (Owned.below (F := F) hb))
  clear hb hidx cP2
  simp only [bodyPost]
  exact ⟨trivial, ⟨u, pv, rfl⟩, F, hfin.out.1, hfin.out.2⟩
end Go.Proofs.Ytekgdakkkbnpiaa
