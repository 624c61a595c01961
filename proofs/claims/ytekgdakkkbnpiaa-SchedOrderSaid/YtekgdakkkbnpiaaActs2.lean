/- What a step does: signals, broadcasts, panics. No condition. -/
import Derived.Test.YtekgdakkkbnpiaaSignal
namespace Go.Proofs.Ytekgdakkkbnpiaa
set_option linter.unusedVariables false
set_option linter.unusedSimpArgs false
open Go Go.RowKit

section
variable {a : Adr} {b : Bool} {s : AS}
theorem sc_ord (i : Nat) : ordP (sc a b s) i = ordA s i := by
  unfold ordP ordA
  rw [sc_at]
  cases s.ts[i]? <;> rfl
theorem sc_waitL (on : Int) : waitL (sc a b s) on = thoseA s (fun t => t.kind == 2 && t.on == on) := scA_those (waitsB on) _ (fun _ _ => rfl)
theorem sc_wait (on : Int) : waitP (sc a b s) on = waitA s on := by
  unfold waitP waitA
  rw [sc_waitL]
  congr 1
  funext x y
  rw [sc_ord, sc_ord]
theorem sc_wake (n : Nat) : wakeP (sc a b s) n = sc a b (wakeA s n) := by
  unfold wakeP wakeA modT sc scA
  rw [mapIdx_modify n wakeT bare (fun _ => rfl)]
theorem sc_wakes (l : List Nat) : ∀ s : AS, l.foldl wakeP (sc a b s) = sc a b (l.foldl wakeA s) := by
  induction l with
  | nil => intro s; rfl
  | cons x r ih => intro s; rw [List.foldl_cons, sc_wake, ih]; rfl
def DistA (s : AS) : Prop := ∀ (i j : Nat) (t u : AT), s.ts[i]? = some t → s.ts[j]? = some u → t.kind = 2 → u.kind = 2 → t.order = u.order → i = j
theorem sc_dist (h : DistA s) : DistP (sc a b s) := by
  intro i j t u ht hu h1 h2 h3
  rw [sc_at] at ht hu
  obtain ⟨t', ht', rfl⟩ := Option.map_eq_some_iff.1 ht
  obtain ⟨u', hu', rfl⟩ := Option.map_eq_some_iff.1 hu
  exact h i j t' u' ht' hu' h1 h2 h3
def sigA (s : AS) (on : Int) : AS := match waitA s on with
  | [] => s
  | x :: _ => wakeA s x
def sigN (s : AS) (on : Int) : Int := match waitA s on with
  | [] => -1
  | x :: _ => (x : Int)
theorem signalA_eq (on : Int) : signalA s on = tellA (sigA s on) (sigN s on) := by
  unfold signalA sigA sigN
  cases waitA s on <;> rfl
theorem wakeA_told (s : AS) (n : Nat) : (wakeA s n).told = s.told := rfl
theorem wakeA_at (s : AS) (n i : Nat) : ((wakeA s n).ts[i]?).map AT.at_ = (s.ts[i]?).map AT.at_ := modT_at s n wakeT (fun _ => rfl) i
theorem sigA_told (on : Int) : (sigA s on).told = s.told := by unfold sigA; split <;> rfl
theorem sigA_at (on : Int) (i : Nat) : ((sigA s on).ts[i]?).map AT.at_ = (s.ts[i]?).map AT.at_ := by
  unfold sigA; split
  · rfl
  · exact wakeA_at s _ i
theorem wakes_told (l : List Nat) : ∀ s : AS, (l.foldl wakeA s).told = s.told := by
  induction l with
  | nil => intro s; rfl
  | cons x r ih => intro s; rw [List.foldl_cons, ih]; rfl
theorem wakes_at (l : List Nat) (i : Nat) : ∀ s : AS, ((l.foldl wakeA s).ts[i]?).map AT.at_ = (s.ts[i]?).map AT.at_ := by
  induction l with
  | nil => intro s; rfl
  | cons x r ih => intro s; rw [List.foldl_cons, ih, wakeA_at]
end

theorem pm_cells {a : Adr} {s : AS} {m : Nat → Option Obj} {D : Nat → Prop} {w : World} (hpm : PM a s m) (hm : Has m D w) : ∃ A cp, m a.P = some (.cells (pairCells a (.slice A s.told.length cp)) 41 (0, 0)) ∧ w.heap[a.P]? = some (.cells (pairCells a (.slice A s.told.length cp)) 41 (0, 0)) := by
  obtain ⟨tv, hP, hrow, hrb⟩ := hpm.own hm
  obtain ⟨A, cp, g, rfl, -⟩ := own_shape hrow
  refine ⟨A, cp, ?_, hP⟩
  obtain ⟨tv', h1, -⟩ := hpm.pair
  rw [h1]
  exact congrArg _ (Option.some.inj ((hm.2 _ _ h1).symm.trans hP))

theorem full_same {F : Nat → Prop} {S : Nat} {Ts : List Nat} {σ : Sc} {m : Nat → Option Obj} {w : World} (h : Full F S Ts σ (Has m) w) {k : Nat} {cs : Array Value} {t : TypeId} (hk : m k = some (.cells cs t (0, 0))) (j : Nat) (u : Value) (hu : cs.setIfInBounds j u = cs) :
    Full F S Ts σ (Has m) (w.setCell ⟨k, j, none⟩ u) ∧ Owned F w F (w.setCell ⟨k, j, none⟩ u) := by
  obtain ⟨h1, h2⟩ := full_put h hk j u
  have e : mset m k (.cells (cs.setIfInBounds j u) t (0, 0)) = m := by
    rw [hu]
    funext i
    unfold mset
    by_cases e : i = k
    · subst e; rw [if_pos rfl]; exact hk.symm
    · rw [if_neg e]
  rw [e] at h1
  exact ⟨h1, h2, fun _ h => .inl h⟩

set_option maxRecDepth 100000 in
set_option maxHeartbeats 4000000 in
theorem acts_signal {a : Adr} {s : AS} {b : Bool} {F : Nat → Prop} {Ts : List Nat} {w : World} (h : Full F a.S Ts (sc a b s) (RP a s) w) (n : Nat) (o : Int) (hst : s.steps < 4611686018427387904) (hd : DistA s) (hw0 : a.w0.heap.size ≤ w.heap.size) (htl : s.told.length < 1000000000) :
    Calls Try.prog 57 #[ptr a.P, .int .i64 (n : Int), .agg #[.int .i64 1, .int .i64 o]] w fun e w' => e = .returned (.tuple #[]) ∧
      ∃ F', Full F' a.S Ts (sc a b (signalA s o)) (RP a (signalA s o)) w' ∧ Owned F w F' w' := by
  obtain ⟨i0, hi0, hz0, hz1, hz2⟩ := info_parts info3
  obtain ⟨C, D, hrep, ⟨m, hm, hpm⟩, hdd, hf⟩ := h
  have hF : Full F a.S Ts (sc a b s) (Has m) w := ⟨C, D, hrep, hm, hdd, hf⟩
  have hsz := Full.size (Has.local_ m) hF
  obtain ⟨A, cp, hmP, hP⟩ := pm_cells hpm hm
  have hPl : a.P < w.heap.size := (Array.getElem?_eq_some_iff.1 hP).1
  have hsg : ∀ W, Below w.heap.size w W → Calls Try.prog 42 #[ptr a.S, .int .i64 o] W fun e w' => e = .returned (.tuple #[.int .i64 (signalN (sc a b s) o), .bool (signalB (sc a b s) o)]) ∧ Full F a.S Ts (sc a b (sigA s o)) (Has m) w' ∧ Owned F W F w' := fun W hb => by
    have := signal_any (Has.local_ m) (hF.below (Has.local_ m) hb) hst (sc_dist hd) o
    have e : signalP (sc a b s) o = sc a b (sigA s o) := by
      unfold signalP sigA
      rw [sc_wait]
      cases waitA s o with
      | nil => rfl
      | cons x r => exact sc_wake x
    rw [e] at this; exact this
  rw [signalA_eq]
  have hN : (signalB (sc a b s) o = true ∧ signalN (sc a b s) o = sigN s o) ∨ (signalB (sc a b s) o = false ∧ signalN (sc a b s) o = 0 ∧ sigN s o = -1) := by
    unfold signalB signalN sigN
    rw [sc_wait]
    cases waitA s o with
    | nil => right; exact ⟨rfl, rfl, rfl⟩
    | cons x r => left; exact ⟨rfl, rfl⟩
  have HSG := Lib.hid hsg
  have HM := Lib.hid hmP
  have HF := Lib.hid hF
  have HPM := Lib.hid hpm
  have cP0 : ∀ ob, (w.alloc ob).cell? ⟨a.P, 0, none⟩ = some (ptr a.S) := fun ob => (World.cell?_alloc_lt w ob ⟨a.P, 0, none⟩ hPl).trans (Blk.cell (t := 41) hP 0)
  generalize signalN (sc a b s) o = sn at *
  generalize signalB (sc a b s) o = sb at *
  clear hrep hm hpm hdd hf hP hsg hF hmP
  unfold ptr at *
  rcases hN with ⟨h1, h2⟩ | ⟨h1, h2, h3⟩
  · subst h1
    rw [← h2]
    clear h2
    go_enter Try.func57, Try.ntmps57
    go_wp2_with fail
    obtain ⟨W, hW⟩ : ∃ W, w.alloc (.cells #[.int .i64 1, .int .i64 o] 50) = W := ⟨_, rfl⟩
    have hWb : W.heap[w.heap.size]? = some (.cells #[.int .i64 1, .int .i64 o] 50 (0, 0)) := by rw [← hW]; exact World.alloc_heap_new w _
    have hB : Below w.heap.size w W := by rw [← hW]; exact (Below.refl _ w).alloc (Nat.le_refl _) _
    have c0 : W.cell? ⟨a.P, 0, none⟩ = some (.pointer (some ⟨a.S, 0, none⟩)) := by rw [← hW]; exact cP0 _
    have cb := Blk.cell (t := 50) hWb 1
    simp only [List.getElem?_toArray, List.getElem?_cons_zero, List.getElem?_cons_succ] at cb
    rw [hW]
    have HB := Lib.hid hB
    clear hW cP0 hB hWb
    have HU2 := Lib.hid (HSG.out W.drew (HB.out.trans ⟨rfl, rfl, rfl, Nat.le_refl _, fun _ _ => rfl⟩))
    clear HSG
    go_region_with (go_at_call 42; refine HU2.out.mono ?_; rintro e w2 ⟨rfl, hful2, hown2⟩; have d2 : w2.cell? ⟨a.P, 2, none⟩ = some (.slice A s.told.length cp) := Blk.cell (t := 41) (full_known hful2 HM.out) 2; have d3 : w2.cell? ⟨a.P, 3, none⟩ = some (.bool false) := Blk.cell (t := 41) (full_known hful2 HM.out) 3; have df : ∀ j, w2.frozen? ⟨a.P, j, none⟩ = false := fun j => Blk.frozen (t := 41) (full_known hful2 HM.out) j; have FUL2 := Lib.hid hful2; have OWN2 := Lib.hid hown2; clear hful2 hown2)
    all_goals
      have ROW2 := Lib.hid (full_row FUL2.out HPM.out HM.out)
      have OWN3 := Lib.hid (told_kept FUL2.out HPM.out HM.out (.cells #[.int .i64 sn] 3))
      go_wp2_with (at_builtin; refine wpList_append_own_at _ rfl (.tmp 59) (.tmp 61) 26 rfl 0 3 i0 (.int .i64 0) 1 8 Try.underlying26 hi0 hz0 hz1 hz2 rfl (by decide) (.slice A s.told.length cp) _ _ rfl (ROW2.out.alloc _) ⟨_, 0, none⟩ 1 1 [.int .i64 sn] rfl rfl (cell_one_new _ _ _) (by simp [Value.oneCell']) (by unfold maxLen; omega) (by omega) (by simp) ?_; intro v3 w3 hown3 hg3 hnil3 hat3; obtain ⟨A3, cp3, g3, rfl, -⟩ := own_shape hown3; have f2 : w3.cell? ⟨a.P, 2, none⟩ = some (.slice A s.told.length cp) := OWN3.out.1 w3 hg3; have f3 := OWN3.out.2 w3 hg3; have OW3 := Lib.hid hown3; have G3 := Lib.hid hg3; have AT3 := Lib.hid hat3; clear hown3 hg3 hat3 hnil3)
      go_end0
      exact ⟨rfl, acts_end hsz HB.out HPM.out HM.out (sigA_told o) (sigA_at o) FUL2.out OWN2.out G3.out OW3.out AT3.out hw0⟩
  · subst h1 h2
    rw [h3]
    clear h3
    go_enter Try.func57, Try.ntmps57
    go_wp2_with fail
    obtain ⟨W, hW⟩ : ∃ W, w.alloc (.cells #[.int .i64 1, .int .i64 o] 50) = W := ⟨_, rfl⟩
    have hWb : W.heap[w.heap.size]? = some (.cells #[.int .i64 1, .int .i64 o] 50 (0, 0)) := by rw [← hW]; exact World.alloc_heap_new w _
    have hB : Below w.heap.size w W := by rw [← hW]; exact (Below.refl _ w).alloc (Nat.le_refl _) _
    have c0 : W.cell? ⟨a.P, 0, none⟩ = some (.pointer (some ⟨a.S, 0, none⟩)) := by rw [← hW]; exact cP0 _
    have cb := Blk.cell (t := 50) hWb 1
    simp only [List.getElem?_toArray, List.getElem?_cons_zero, List.getElem?_cons_succ] at cb
    rw [hW]
    have HB := Lib.hid hB
    clear hW cP0 hB hWb
    have HU2 := Lib.hid (HSG.out W.drew (HB.out.trans ⟨rfl, rfl, rfl, Nat.le_refl _, fun _ _ => rfl⟩))
    clear HSG
    go_region_with (go_at_call 42; refine HU2.out.mono ?_; rintro e w2 ⟨rfl, hful2, hown2⟩; have d2 : w2.cell? ⟨a.P, 2, none⟩ = some (.slice A s.told.length cp) := Blk.cell (t := 41) (full_known hful2 HM.out) 2; have d3 : w2.cell? ⟨a.P, 3, none⟩ = some (.bool false) := Blk.cell (t := 41) (full_known hful2 HM.out) 3; have df : ∀ j, w2.frozen? ⟨a.P, j, none⟩ = false := fun j => Blk.frozen (t := 41) (full_known hful2 HM.out) j; have FUL2 := Lib.hid hful2; have OWN2 := Lib.hid hown2; clear hful2 hown2)
    all_goals
      have FULS := Lib.hid (full_same FUL2.out HM.out 3 (.bool false) rfl)
      have OWNS := Lib.hid (OWN2.out.trans FULS.out.2)
      have ROW2 := Lib.hid (full_row FULS.out.1 HPM.out HM.out)
      have e2 : (w2.setCell ⟨a.P, 3, none⟩ (.bool false)).cell? ⟨a.P, 2, none⟩ = some (.slice A s.told.length cp) := Blk.cell (t := 41) (full_known FULS.out.1 HM.out) 2
      have HCN : Hid (∀ j u, [Value.int .i64 (-1)][j]? = some u → ((w2.setCell ⟨a.P, 3, none⟩ (.bool false)).alloc (.cells #[.int .i64 (-1)] 3)).cell? ((⟨w2.heap.size, 0, none⟩ : Addr).add j) = some u) := Lib.hid (by have := cell_one_new (w2.setCell ⟨a.P, 3, none⟩ (.bool false)) (.int .i64 (-1)) 3; rwa [show (w2.setCell ⟨a.P, 3, none⟩ (.bool false)).heap.size = w2.heap.size from by simp [World.setCell]] at this)
      have OWN3 := Lib.hid (told_kept FULS.out.1 HPM.out HM.out (.cells #[.int .i64 (-1)] 3))
      go_wp2_with (at_builtin; refine wpList_append_own_at _ rfl (.tmp 59) (.tmp 61) 26 rfl 0 3 i0 (.int .i64 0) 1 8 Try.underlying26 hi0 hz0 hz1 hz2 rfl (by decide) (.slice A s.told.length cp) _ _ rfl (ROW2.out.alloc _) ⟨_, 0, none⟩ 1 1 [.int .i64 (-1)] rfl rfl HCN.out (by simp [Value.oneCell']) (by unfold maxLen; omega) (by omega) (by simp) ?_; intro v3 w3 hown3 hg3 hnil3 hat3; obtain ⟨A3, cp3, g3, rfl, -⟩ := own_shape hown3; have f2 : w3.cell? ⟨a.P, 2, none⟩ = some (.slice A s.told.length cp) := OWN3.out.1 w3 hg3; have f3 := OWN3.out.2 w3 hg3; have OW3 := Lib.hid hown3; have G3 := Lib.hid hg3; have AT3 := Lib.hid hat3; clear hown3 hg3 hat3 hnil3)
      go_end0
      exact ⟨rfl, acts_end hsz HB.out HPM.out HM.out (sigA_told o) (sigA_at o) FULS.out.1 OWNS.out G3.out OW3.out AT3.out hw0⟩
end Go.Proofs.Ytekgdakkkbnpiaa
