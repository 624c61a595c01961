/- What a step does: broadcasts, panics, nothing. No condition. -/
import Derived.Test.YtekgdakkkbnpiaaActs2
namespace Go.Proofs.Ytekgdakkkbnpiaa
set_option linter.unusedVariables false
set_option linter.unusedSimpArgs false
open Go Go.RowKit

set_option maxRecDepth 100000 in
set_option maxHeartbeats 4000000 in
theorem acts_broad {a : Adr} {s : AS} {b : Bool} {F : Nat → Prop} {Ts : List Nat} {w : World} (h : Full F a.S Ts (sc a b s) (RP a s) w) (n : Nat) (o : Int) (hst : s.steps < 4611686018427387904) (hd : DistA s) (hw0 : a.w0.heap.size ≤ w.heap.size) (htl : s.told.length < 1000000000) :
    Calls Try.prog 57 #[ptr a.P, .int .i64 (n : Int), .agg #[.int .i64 2, .int .i64 o]] w fun e w' => e = .returned (.tuple #[]) ∧
      ∃ F', Full F' a.S Ts (sc a b (broadA s o)) (RP a (broadA s o)) w' ∧ Owned F w F' w' := by
  obtain ⟨i0, hi0, hz0, hz1, hz2⟩ := info_parts info3
  obtain ⟨C, D, hrep, ⟨m, hm, hpm⟩, hdd, hf⟩ := h
  have hF : Full F a.S Ts (sc a b s) (Has m) w := ⟨C, D, hrep, hm, hdd, hf⟩
  have hsz := Full.size (Has.local_ m) hF
  obtain ⟨A, cp, hmP, hP⟩ := pm_cells hpm hm
  have hPl : a.P < w.heap.size := (Array.getElem?_eq_some_iff.1 hP).1
  obtain ⟨s2, hs2⟩ : ∃ s2, (waitA s o).foldl wakeA s = s2 := ⟨_, rfl⟩
  obtain ⟨bn, hbn⟩ : ∃ bn : Int, ((waitA s o).length : Int) = bn := ⟨_, rfl⟩
  have ebr : broadA s o = tellA s2 bn := by unfold broadA; rw [hs2, hbn]
  rw [ebr]
  have hun : ∀ W, Below w.heap.size w W → Calls Try.prog 44 #[ptr a.S, .int .i64 o] W fun e w' => e = .returned (.int .i64 bn) ∧ Full F a.S Ts (sc a b s2) (Has m) w' ∧ Owned F W F w' := fun W hb => by
    have := broad_any (Has.local_ m) (hF.below (Has.local_ m) hb) hst (sc_dist hd) o
    rw [sc_wait, sc_wakes, hs2, hbn] at this; exact this
  have hst1 : s2.told = s.told := by rw [← hs2, wakes_told]
  have hst2 : ∀ i : Nat, (s2.ts[i]?).map AT.at_ = (s.ts[i]?).map AT.at_ := fun i => by rw [← hs2, wakes_at]
  clear ebr hs2 hbn
  have HUN := Lib.hid hun
  have HM := Lib.hid hmP
  have HF := Lib.hid hF
  have HPM := Lib.hid hpm
  have cP0 : ∀ ob, (w.alloc ob).cell? ⟨a.P, 0, none⟩ = some (ptr a.S) := fun ob => (World.cell?_alloc_lt w ob ⟨a.P, 0, none⟩ hPl).trans (Blk.cell (t := 41) hP 0)
  have cP2 : ∀ ob, (w.alloc ob).cell? ⟨a.P, 2, none⟩ = some (.slice A s.told.length cp) := fun ob => (World.cell?_alloc_lt w ob ⟨a.P, 2, none⟩ hPl).trans (Blk.cell (t := 41) hP 2)
  clear hrep hm hpm hdd hf hP hun hF hmP
  unfold ptr at *
  go_enter Try.func57, Try.ntmps57
  go_wp2_with fail
  obtain ⟨W, hW⟩ : ∃ W, w.alloc (.cells #[.int .i64 2, .int .i64 o] 50) = W := ⟨_, rfl⟩
  have hWb : W.heap[w.heap.size]? = some (.cells #[.int .i64 2, .int .i64 o] 50 (0, 0)) := by rw [← hW]; exact World.alloc_heap_new w _
  have hB : Below w.heap.size w W := by rw [← hW]; exact (Below.refl _ w).alloc (Nat.le_refl _) _
  have c0 : W.cell? ⟨a.P, 0, none⟩ = some (.pointer (some ⟨a.S, 0, none⟩)) := by rw [← hW]; exact cP0 _
  have c2 : W.cell? ⟨a.P, 2, none⟩ = some (.slice A s.told.length cp) := by rw [← hW]; exact cP2 _
  have cb := Blk.cell (t := 50) hWb 1
  simp only [List.getElem?_toArray, List.getElem?_cons_zero, List.getElem?_cons_succ] at cb
  have hWl : w.heap.size < W.heap.size := (Array.getElem?_eq_some_iff.1 hWb).1
  rw [hW]
  have HB := Lib.hid hB
  have HWB := Lib.hid hWb
  clear hW cP0 cP2 hB hWb
  have H63 := Lib.hid htl
  have HU2 := Lib.hid (HUN.out W.drew (HB.out.trans ⟨rfl, rfl, rfl, Nat.le_refl _, fun _ _ => rfl⟩))
  clear HUN
  go_region_law (first
    | (refine step_append_any _ rfl (.tmp 71) (.tmp 79) 26 rfl 0 3 i0 (.int .i64 0) 1 8 Try.underlying26 hi0 hz0 hz1 hz2 rfl (by decide) (.slice A s.told.length cp) s.told.length (s.told.map (Value.int .i64)) (by simp [Act.eval, Act.put]) (ROW2.out.alloc _) (w2.heap.size + 1) (some ⟨w2.heap.size, 0, none⟩) 1 1 [.int .i64 (bn)] (by simp [Act.eval, Act.put]) (reads_one _ _ _) (by simp [Value.oneCell']) (by unfold maxLen; omega) (by omega) (by simp) ?_; intro v3 w3 hown3 hg3 hat3; obtain ⟨A3, cp3, g3, rfl, -⟩ := own_shape hown3; have f2 : w3.cell? ⟨a.P, 2, none⟩ = some (.slice A s.told.length cp) := (OWN3.out.1 w3 hg3); have f3 := OWN3.out.2 w3 hg3; have OW3 := Lib.hid hown3; have G3 := Lib.hid hg3; have AT3 := Lib.hid hat3; clear hown3 hg3 hat3)
    | (go_simp; go_at_call 44; refine HU2.out.mono ?_; rintro e w2 ⟨rfl, hful2, hown2⟩; have d2 : w2.cell? ⟨a.P, 2, none⟩ = some (.slice A s.told.length cp) := Blk.cell (t := 41) (full_known hful2 HM.out) 2; have d3 : ∀ ob, (w2.alloc ob).cell? ⟨a.P, 2, none⟩ = some (.slice A s.told.length cp) := fun ob => (World.cell?_alloc_lt w2 ob ⟨a.P, 2, none⟩ ((Array.getElem?_eq_some_iff.1 (full_known hful2 HM.out)).1)).trans d2; have ROW2 := Lib.hid (full_row hful2 HPM.out HM.out); have OWN3 := Lib.hid (told_kept hful2 HPM.out HM.out (.cells #[.int .i64 (bn)] 3)); have FUL2 := Lib.hid hful2; have OWN2 := Lib.hid hown2; clear hful2 hown2))
  all_goals (go_wp2; go_end0; exact ⟨rfl, acts_end hsz HB.out HPM.out HM.out hst1 hst2 FUL2.out OWN2.out G3.out OW3.out AT3.out hw0⟩)

set_option maxRecDepth 100000 in
set_option maxHeartbeats 4000000 in
theorem acts_none {a : Adr} {s : AS} {b : Bool} {F : Nat → Prop} {Ts : List Nat} {w : World} (h : Full F a.S Ts (sc a b s) (RP a s) w) (n : Nat) (k o : Int) (h0 : k ≠ 0) (h1 : k ≠ 1) (h2 : k ≠ 2) (h3 : k ≠ 3) :
    Calls Try.prog 57 #[ptr a.P, .int .i64 (n : Int), .agg #[.int .i64 k, .int .i64 o]] w fun e w' => e = .returned (.tuple #[]) ∧
      ∃ F', Full F' a.S Ts (sc a b s) (RP a s) w' ∧ Owned F w F' w' := by
  have e0 : (k == 0) = false := by simp [h0]
  have e1 : (k == 1) = false := by simp [h1]
  have e2 : (k == 2) = false := by simp [h2]
  have e3 : (k == 3) = false := by simp [h3]
  have HH := Lib.hid h
  clear h h0 h1 h2 h3
  unfold ptr
  go_enter Try.func57, Try.ntmps57
  go_wp2_with fail
  go_end0
  have hb : Below w.heap.size w (w.alloc (.cells #[.int .i64 k, .int .i64 o] 50)) := (Below.refl _ w).alloc (Nat.le_refl _) _
  exact ⟨rfl, F, HH.out.below (RP.local_ a s) hb, Owned.below hb⟩
end Go.Proofs.Ytekgdakkkbnpiaa
