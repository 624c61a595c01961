/- The law's own step. No condition. -/
import Derived.Test.YtekgdakkkbnpiaaActs4
namespace Go.Proofs.Ytekgdakkkbnpiaa
set_option linter.unusedVariables false
set_option linter.unusedSimpArgs false
open Go Go.RowKit

def flat (l : List (Int × Int)) : List Value := l.flatMap fun d => [.int .i64 d.1, .int .i64 d.2]
/-- List i of the tasks lies in what was there at the start. -/
def LRead (a : Adr) (i : Nat) (l : List (Int × Int)) : Prop := ∃ A c, a.sl i = .slice A l.length c ∧ Reads a.w0 a.w0.heap.size 2 A l.length (flat l) ∧ (∀ d ∈ l, wfi d.1 ∧ wfi d.2) ∧ l.length ≤ 100000000

section
variable {a : Adr} {s : AS}
theorem sc_bump (b : Bool) (n : Nat) : sc a b (modT s n bumpT) = sc a b s := by
  unfold sc scA modT
  rw [mapIdx_modify n bumpT id (fun _ => rfl)]
  congr 1
  apply List.ext_getElem?
  intro i
  rw [List.getElem?_modify]
  by_cases e : n = i <;> simp [e]
theorem flat_get {l : List (Int × Int)} {i : Nat} {d : Int × Int} (h : l[i]? = some d) : (flat l)[i * 2]? = some (.int .i64 d.1) ∧ (flat l)[i * 2 + 1]? = some (.int .i64 d.2) := by
  induction l generalizing i with
  | nil => cases h
  | cons x r ih =>
    cases i with
    | zero => cases h; exact ⟨rfl, rfl⟩
    | succ i =>
      have h' : r[i]? = some d := h
      obtain ⟨h1, h2⟩ := ih h'
      have e : flat (x :: r) = .int .i64 x.1 :: .int .i64 x.2 :: flat r := rfl
      rw [e, show (i + 1) * 2 = i * 2 + 1 + 1 by omega]
      exact ⟨h1, h2⟩
theorem dist_wake (h : DistA s) (n : Nat) : DistA (wakeA s n) := by
  intro i j t u ht hu h1 h2 h3
  have key : ∀ (i : Nat) (t : AT), (wakeA s n).ts[i]? = some t → t.kind = 2 → s.ts[i]? = some t := by
    intro i t ht h1
    change (s.ts.modify n wakeT)[i]? = _ at ht
    rw [List.getElem?_modify] at ht
    cases hs : s.ts[i]? with
    | none => rw [hs] at ht; cases ht
    | some v =>
      rw [hs] at ht
      by_cases e : n = i
      · simp [e] at ht
        subst ht; simp [wakeT] at h1
      · simp [e] at ht; rw [ht]
  exact h i j t u (key i t ht h1) (key j u hu h2) h1 h2 h3
theorem dist_wakes (l : List Nat) : ∀ s : AS, DistA s → DistA (l.foldl wakeA s) := by
  induction l with
  | nil => intro s h; exact h
  | cons x r ih => intro s h; exact ih _ (dist_wake h x)
theorem dist_ts {s' : AS} (h : DistA s) (e : s'.ts = s.ts) : DistA s' := by
  intro i j t u ht hu; rw [e] at ht hu; exact h i j t u ht hu
theorem dist_bump (h : DistA s) (n : Nat) : DistA (modT s n bumpT) := by
  have key : ∀ (i : Nat) (t : AT), (modT s n bumpT).ts[i]? = some t → ∃ t', s.ts[i]? = some t' ∧ t'.kind = t.kind ∧ t'.order = t.order := by
    intro i t ht
    change (s.ts.modify n bumpT)[i]? = _ at ht
    rw [List.getElem?_modify] at ht
    cases hs : s.ts[i]? with
    | none => rw [hs] at ht; cases ht
    | some v =>
      rw [hs] at ht
      refine ⟨v, rfl, ?_⟩
      by_cases e : n = i
      · simp [e] at ht; subst ht; exact ⟨rfl, rfl⟩
      · simp [e] at ht; subst ht; exact ⟨rfl, rfl⟩
  intro i j t u ht hu h1 h2 h3
  obtain ⟨t', g1, g2, g3⟩ := key i t ht
  obtain ⟨u', k1, k2, k3⟩ := key j u hu
  exact h i j t' u' g1 k1 (by omega) (by omega) (by omega)

/-- What an act leaves of what is asked of a state. -/
structure Kept (s s' : AS) (n : Nat) : Prop where
  dist : DistA s → DistA s'
  steps : s'.steps = s.steps
  told : s'.told.length ≤ s.told.length + 1
  at_ : ∀ i : Nat, (s'.ts[i]?).map AT.at_ = (s.ts[i]?).map AT.at_
  cap : s'.cap = s.cap
theorem Kept.refl (n : Nat) : Kept s s n := ⟨fun h => h, rfl, by omega, fun _ => rfl, rfl⟩
theorem acts_kept {n : Nat} {d : Int × Int} {s' : AS} (h : actA n s d = some s') : Kept s s' n := by
  unfold actA at h
  split at h
  · injection h with h; subst h
    exact ⟨fun h => dist_ts h (unlockA_ts s n d.2), by show (unlockA s n d.2).steps = _; unfold unlockA; split <;> rfl, by simp [tellA, unlockA_told], fun i => by show ((unlockA s n d.2).ts[i]?).map _ = _; rw [unlockA_ts], by show (unlockA s n d.2).cap = _; unfold unlockA; split <;> rfl⟩
  · split at h
    · injection h with h; subst h
      rw [signalA_eq]
      refine ⟨fun h => ?_, ?_, by simp [tellA, sigA_told], fun i => sigA_at d.2 i, ?_⟩
      · show DistA (sigA s d.2)
        unfold sigA; split
        · exact h
        · exact dist_wake h _
      · show (sigA s d.2).steps = _; unfold sigA; split <;> rfl
      · show (sigA s d.2).cap = _; unfold sigA; split <;> rfl
    · split at h
      · injection h with h; subst h
        have st : ∀ (l : List Nat) (s : AS), (l.foldl wakeA s).steps = s.steps ∧ (l.foldl wakeA s).cap = s.cap := fun l => by
          induction l with
          | nil => intro s; exact ⟨rfl, rfl⟩
          | cons x r ih => intro s; exact ih (wakeA s x)
        refine ⟨fun h => ?_, (st _ _).1, by simp [broadA, tellA, wakes_told], fun i => wakes_at _ i s, (st _ _).2⟩
        exact dist_wakes _ s h
      · split at h
        · cases h
        · injection h with h; subst h; exact Kept.refl n
end

theorem acts_all {a : Adr} {s : AS} {b : Bool} {F : Nat → Prop} {Ts : List Nat} {w : World} (h : Full F a.S Ts (sc a b s) (RP a s) w) (n : Nat) (d : Int × Int) (ho : wfi d.2) (hst : s.steps < 4611686018427387904) (hd : DistA s) (hw0 : a.w0.heap.size ≤ w.heap.size) (htl : s.told.length < 1000000000) :
    (∀ s', actA n s d = some s' → Calls Try.prog 57 #[ptr a.P, .int .i64 (n : Int), .agg #[.int .i64 d.1, .int .i64 d.2]] w fun e w' => e = .returned (.tuple #[]) ∧ ∃ F', Full F' a.S Ts (sc a b s') (RP a s') w' ∧ Owned F w F' w') ∧
    (actA n s d = none → Calls Try.prog 57 #[ptr a.P, .int .i64 (n : Int), .agg #[.int .i64 d.1, .int .i64 d.2]] w fun e w' => (∃ u pv, e = .panicked [{ v := .iface u pv, recovered := false }]) ∧ ∃ F', Full F' a.S Ts (sc a b s) (RP a s) w' ∧ Owned F w F' w') := by
  obtain ⟨k, o⟩ := d
  unfold actA
  dsimp only at ho ⊢
  by_cases h0 : k = 0
  · subst h0
    refine ⟨fun s' hs => ?_, fun hs => by rw [if_pos rfl] at hs; cases hs⟩
    rw [if_pos rfl] at hs
    injection hs with hs; subst hs
    exact acts_unlock h n o ho hw0 htl
  · rw [if_neg h0]
    by_cases h1 : k = 1
    · subst h1
      refine ⟨fun s' hs => ?_, fun hs => by rw [if_pos rfl] at hs; cases hs⟩
      rw [if_pos rfl] at hs
      injection hs with hs; subst hs
      exact acts_signal h n o hst hd hw0 htl
    · rw [if_neg h1]
      by_cases h2 : k = 2
      · subst h2
        refine ⟨fun s' hs => ?_, fun hs => by rw [if_pos rfl] at hs; cases hs⟩
        rw [if_pos rfl] at hs
        injection hs with hs; subst hs
        exact acts_broad h n o hst hd hw0 htl
      · rw [if_neg h2]
        by_cases h3 : k = 3
        · subst h3
          exact ⟨fun s' hs => by (rw [if_pos rfl] at hs; cases hs), fun _ => acts_panic h n o htl⟩
        · rw [if_neg h3]
          refine ⟨fun s' hs => ?_, fun hs => by cases hs⟩
          injection hs with hs; subst hs
          exact acts_none h n k o h0 h1 h2 h3

theorem add_one_eq (a : Addr) : a.add 1 = ⟨a.block, a.off + 1, none⟩ := by simp [Addr.add]
def OutE (out : Option (Int × Int)) (e : Ending) : Prop := match out with
  | some ko => e = .returned (.agg #[.int .i64 ko.1, .int .i64 ko.2])
  | none => ∃ u pv, e = .panicked [{ v := .iface u pv, recovered := false }]
def atOf (p : Nat) (w : World) : Nat := match w.cell? ⟨p, 0, none⟩ with
  | some v => (intOf v).toNat
  | none => 0

/-- The result is laid. -/
theorem step_ret {a : Adr} {s : AS} {F F1 : Nat → Prop} {Ts : List Nat} {w W5 : World} {c0 c1 : Value} (h : Full F1 a.S Ts (sc a true s) (RP a s) W5) (ho : Owned F w F1 W5) (hB : W5.heap[w.heap.size]? = some (.cells #[c0, c1] 31 (0, 0))) (hF : ¬ F1 w.heap.size) (k o : Int) :
    Full F1 a.S Ts (sc a true s) (RP a s) ((W5.setCell ⟨w.heap.size, 0, none⟩ (.int .i64 k)).setCell ⟨w.heap.size, 1, none⟩ (.int .i64 o)) ∧ Owned F w F1 ((W5.setCell ⟨w.heap.size, 0, none⟩ (.int .i64 k)).setCell ⟨w.heap.size, 1, none⟩ (.int .i64 o)) ∧
      ((W5.setCell ⟨w.heap.size, 0, none⟩ (.int .i64 k)).setCell ⟨w.heap.size, 1, none⟩ (.int .i64 o)).heap[w.heap.size]? = some (.cells #[.int .i64 k, .int .i64 o] 31 (0, 0)) := by
  have hc : Chg (fun j => j = w.heap.size) W5 ((W5.setCell ⟨w.heap.size, 0, none⟩ (.int .i64 k)).setCell ⟨w.heap.size, 1, none⟩ (.int .i64 o)) :=
    Chg.setCell (C := fun j => j = w.heap.size) (Chg.setCell (C := fun j => j = w.heap.size) (Chg.refl _ _) (p := ⟨w.heap.size, 0, none⟩) (.inl rfl) _) (p := ⟨w.heap.size, 1, none⟩) (.inl rfl) _
  refine ⟨h.chg (RP.local_ a s) hc (fun j hj e => hF (by rw [← e]; exact hj)), ⟨(ho.1.setCell (p := ⟨w.heap.size, 0, none⟩) (.inr (Nat.le_refl _)) _).setCell (p := ⟨w.heap.size, 1, none⟩) (.inr (Nat.le_refl _)) _, ho.2⟩, ?_⟩
  exact Blk.set_ (t := 31) (Blk.set_ (t := 31) hB 0 (.int .i64 k)) 1 (.int .i64 o)
theorem atOf_full {a : Adr} {s : AS} {F : Nat → Prop} {Ts : List Nat} {σ : Sc} {w : World} {n : Nat} {t : AT} (h : Full F a.S Ts σ (RP a s) w) (ht : s.ts[n]? = some t) : atOf (a.A n) w = t.at_ := by
  obtain ⟨C, D, hrep, ⟨m, hm, hpm⟩, hdd, hf⟩ := h
  obtain ⟨kA, -, -, -⟩ := hpm.task n t ht
  have c := Blk.cell (t := 3) (hm.2 _ _ kA) 0
  unfold atOf
  rw [c]
  simp [intOf]

set_option maxRecDepth 100000 in
set_option maxHeartbeats 8000000 in
theorem step_any {a : Adr} {s : AS} {F : Nat → Prop} {Ts : List Nat} {w : World} {n : Nat} {t : AT} {l : List (Int × Int)} (h : Full F a.S Ts (sc a true s) (RP a s) w) (ht : s.ts[n]? = some t) (hl : LRead a n l) (hst : s.steps < 4611686018427387904) (hd : DistA s) (hw0 : a.w0.heap.size ≤ w.heap.size) (htl : s.told.length + l.length < 900000000)
    (hat : t.at_ ≤ l.length) {s' : AS} {out : Option (Int × Int)} (hs : stepA n (l.drop t.at_) s = (s', out)) :
    Calls Try.prog 56 (a.cp n) w fun e w' => OutE out e ∧ ∃ F', Full F' a.S Ts (sc a true s') (RP a s') w' ∧ Owned F w F' w' := by
  obtain ⟨A, c, hsl, hrd, hwf, hlen⟩ := hl
  obtain ⟨C, D, hrep, ⟨m, hm, hpm⟩, hdd, hf⟩ := id h
  have hn : n < s.ts.length := (List.getElem?_eq_some_iff.1 ht).1
  obtain ⟨kA, kX, kL, kK⟩ := hpm.task n t ht
  obtain ⟨A0, cp0, hmP, hP⟩ := pm_cells hpm hm
  have hFm : Full F a.S Ts (sc a true s) (Has m) w := ⟨C, D, hrep, hm, hdd, hf⟩
  have HH := Lib.hid h
  have HFM := Lib.hid hFm
  have HKX := Lib.hid kX
  have HMP := Lib.hid hmP
  have HPM := Lib.hid hpm
  have hsz := Full.size (Has.local_ m) hFm
  have cX := Blk.cell (t := 37) (full_known hFm kX) 0
  have cP0 : w.cell? ⟨a.P, 0, none⟩ = some (ptr a.S) := Blk.cell (t := 41) hP 0
  simp only [List.getElem?_toArray, List.getElem?_cons_zero] at cX
  have lX : a.X n < w.heap.size := (Array.getElem?_eq_some_iff.1 (full_known hFm kX)).1
  have lP : a.P < w.heap.size := (Array.getElem?_eq_some_iff.1 hP).1
  have aX : ∀ o, (w.alloc o).cell? ⟨a.X n, 0, none⟩ = some (ptr a.P) := fun o => (World.cell?_alloc_lt w o ⟨a.X n, 0, none⟩ lX).trans cX
  have aP : ∀ o, (w.alloc o).cell? ⟨a.P, 0, none⟩ = some (ptr a.S) := fun o => (World.cell?_alloc_lt w o ⟨a.P, 0, none⟩ lP).trans cP0
  have hpick : ∀ o : Obj, Calls Try.prog 13 #[ptr a.S, .int .i64 0] (w.alloc o) fun e w' => e = .returned (.tuple #[.int .i64 0, .int .i64 8]) ∧ Below (w.alloc o).heap.size (w.alloc o) w' := fun o =>
    pick_within (hrep.below ((Below.refl _ w).alloc (Nat.le_refl _) o)) rfl hst 0
  have HPK := Lib.hid hpick
  clear h hrep hm hpm hdd hf kA kX kL kK hmP hP hFm cX cP0 hpick
  unfold Adr.cp ptr at *
  go_enter Try.func56, Try.ntmps56
  go_wp2_with fail
  refine (HPK.out _).mono ?_
  rintro e w2 ⟨rfl, hb2⟩
  have hB2 : Below w.heap.size w w2 := ((Below.refl _ w).alloc (Nat.le_refl _) (.cells #[.int .i64 0, .int .i64 0] 31)).trans (hb2.mono (by simp))
  have hBl : w.heap.size < w2.heap.size := by have := hb2.size; simp at this; omega
  have hres2 : w2.heap[w.heap.size]? = some (.cells #[.int .i64 0, .int .i64 0] 31 (0, 0)) := (hb2.block w.heap.size (by simp)).trans (World.alloc_heap_new w _)
  have hb3 : ∀ o, Below w.heap.size w (w2.alloc o) := fun o => hB2.alloc hB2.size o
  have bX : w2.cell? ⟨a.X n, 0, none⟩ = some (.pointer (some ⟨a.P, 0, none⟩)) := by
    have := Blk.cell (t := 37) (full_known (HFM.out.below (Has.local_ m) hB2) HKX.out) 0
    simpa [ptr] using this
  have bP : w2.cell? ⟨a.P, 0, none⟩ = some (.pointer (some ⟨a.S, 0, none⟩)) := Blk.cell (t := 41) (full_known (HFM.out.below (Has.local_ m) hB2) HMP.out) 0
  have hrun : ∀ (o : Obj) (v : Value), Calls Try.prog 16 #[.pointer (some ⟨a.S, 0, none⟩), v, .int .i64 3] (w2.alloc o) fun e w' => e = .returned (.tuple #[.int .i64 0, .int .i64 8]) ∧ w2.alloc o = w' := fun o v => by
    obtain ⟨C', D', hrep', -⟩ := HH.out.below (RP.local_ a s) (hb3 o)
    exact run_within hrep' rfl v 3
  have HRUN := Lib.hid hrun
  clear aX aP hrun hb2
  go_wp2_with fail
  refine (HRUN.out _ _).mono ?_
  rintro e w' ⟨rfl, rfl⟩
  go_wp2_with fail
  obtain ⟨W3, hW3⟩ : ∃ W3, w2.alloc (.cells #[.int .i64 0] 3) = W3 := ⟨_, rfl⟩
  have hB3 : Below w.heap.size w W3 := by rw [← hW3]; exact hb3 _
  have hFm3 := HFM.out.below (Has.local_ m) hB3
  have hres3 : W3.heap[w.heap.size]? = some (.cells #[.int .i64 0, .int .i64 0] 31 (0, 0)) := by rw [← hW3]; exact (Below.heap_alloc _ _ _ hBl).trans hres2
  rw [hW3]
  have cX : W3.cell? ⟨a.X n, 0, none⟩ = some (.pointer (some ⟨a.P, 0, none⟩)) := by
    have := Blk.cell (t := 37) (full_known hFm3 HKX.out) 0
    simpa [ptr] using this
  have cP3 : W3.cell? ⟨a.P, 3, none⟩ = some (.bool false) := Blk.cell (t := 41) (full_known hFm3 HMP.out) 3
  have fP3 : W3.frozen? ⟨a.P, 3, none⟩ = false := Blk.frozen (t := 41) (full_known hFm3 HMP.out) 3
  have HB3 := Lib.hid hB3
  have HF3 := Lib.hid hFm3
  have HR3 := Lib.hid hres3
  clear hW3 hB3 hFm3 hres3 bX bP hb3 hB2 hBl hres2 HRUN HPK
  go_region
  obtain ⟨W4, hW4⟩ : ∃ W4, (W3.setCell ⟨a.P, 3, none⟩ (.bool false)).drew = W4 := ⟨_, rfl⟩
  have hsame := full_same HF3.out HMP.out 3 (.bool false) rfl
  have hF4 : Full F a.S Ts (sc a true s) (Has m) W4 := by rw [← hW4]; exact hsame.1.below (Has.local_ m) ⟨rfl, rfl, rfl, Nat.le_refl _, fun _ _ => rfl⟩
  have hO4 : Owned F w F W4 := by
    rw [← hW4]
    exact Owned.trans (Owned.below HB3.out) (Owned.trans hsame.2 ⟨⟨rfl, rfl, rfl, Nat.le_refl _, fun _ _ _ => rfl⟩, fun _ h => .inl h⟩)
  have hR4 : W4.heap[w.heap.size]? = some (.cells #[.int .i64 0, .int .i64 0] 31 (0, 0)) := by
    rw [← hW4]; exact (Below.heap_setCell _ _ _ _ (by show w.heap.size ≠ a.P; omega)).trans HR3.out
  rw [hW4]
  have L1 := Lib.hid (full_forget hF4 HPM.out)
  have L2 := Lib.hid hO4
  have L3 := Lib.hid ht
  have L4 := Lib.hid hat
  have L5 := Lib.hid hs
  have L6 := Lib.hid hd
  have L8 : Hid (s.told.length + (l.length - t.at_) ≤ s.told.length + l.length) := Lib.hid (by omega)
  have L9 := Lib.hid hR4
  have L10 : Hid (¬ F w.heap.size) := Lib.hid (fun hF => by have := hsz _ hF; omega)
  clear hW4 hsame hF4 hO4 hR4 HB3 HF3 HR3 cX cP3 fP3 ht hat hs hd HH HFM HKX HMP HPM
  have HSL := Lib.hid hsl
  have HRD := Lib.hid hrd
  have HWF := Lib.hid hwf
  clear hsl hrd hwf
  go_wp2_with fail
  go_loopw [9] (fun _ wr => ∃ (s1 : AS) (t1 : AT) (F1 : Nat → Prop), Hid (Full F1 a.S Ts (sc a true s1) (RP a s1) wr) ∧ Hid (Owned F w F1 wr) ∧ Hid (s1.ts[n]? = some t1) ∧ Hid (t1.at_ ≤ l.length) ∧ Hid (stepA n (l.drop t1.at_) s1 = (s', out)) ∧ Hid (DistA s1) ∧ Hid (s1.steps = s.steps) ∧
    Hid (s1.told.length + (l.length - t1.at_) ≤ s.told.length + l.length) ∧ Hid (wr.heap[w.heap.size]? = some (.cells #[.int .i64 0, .int .i64 0] 31 (0, 0))) ∧ Hid (¬ F1 w.heap.size)) (fun _ wr => l.length - atOf (a.A n) wr)
  case atStart => exact ⟨s, t, F, L1, L2, L3, L4, L5, L6, Lib.hid rfl, L8, L9, L10⟩
  case round =>
    clear L1 L2 L3 L4 L5 L6 L8 L9 L10
    obtain ⟨s1, t1, F1, E1, E2, E3, E4, E5, E6, E7, E8, E9, E10⟩ := hrel
    obtain ⟨C1, D1, hrep1, ⟨m1, hm1, hpm1⟩, hdd1, hf1⟩ := id E1.out
    obtain ⟨kA, kX, kL, kK⟩ := hpm1.task n t1 E3.out
    have hFm1 : Full F1 a.S Ts (sc a true s1) (Has m1) wr := ⟨C1, D1, hrep1, hm1, hdd1, hf1⟩
    have cA := Blk.cell (t := 3) (full_known hFm1 kA) 0
    have fA := Blk.frozen (t := 3) (full_known hFm1 kA) 0
    have cL := Blk.cell (t := 47) (full_known hFm1 kL) 0
    have cK := Blk.cell (t := 3) (full_known hFm1 kK) 0
    have cX := Blk.cell (t := 37) (full_known hFm1 kX) 0
    simp only [List.getElem?_toArray, List.getElem?_cons_zero] at cA cL cK cX
    rw [HSL.out] at cL
    have hbase : ∀ p : Addr, p.block < a.w0.heap.size → wr.cell? p = a.w0.cell? p := fun p hp => by
      obtain ⟨o, ho⟩ : ∃ o, a.w0.heap[p.block]? = some o := ⟨_, Array.getElem?_eq_getElem hp⟩
      exact World.cell?_of_block ((hm1.2 _ _ ((hpm1.base _ hp).trans ho)).trans ho.symm)
    have HFM1 := Lib.hid hFm1
    have HPM1 := Lib.hid hpm1
    have KA := Lib.hid kA
    have HBASE := Lib.hid hbase
    clear hrep1 hm1 hpm1 hdd1 hf1 kA kX kL kK hFm1 hbase
    unfold ptr at cX
    by_cases hlt : t1.at_ < l.length
    · obtain ⟨d, hd⟩ : ∃ d, l[t1.at_]? = some d := ⟨_, List.getElem?_eq_getElem hlt⟩
      obtain ⟨f1, f2⟩ := flat_get hd
      obtain ⟨ad, rfl, hadb, hadc⟩ := HRD.out.2 (by omega)
      have g1 : wr.cell? (ad.add (t1.at_ * 2)) = some (.int .i64 d.1) := (HBASE.out _ (by rw [block_of_add]; exact hadb)).trans (hadc _ _ f1)
      have g2 : wr.cell? ⟨(ad.add (t1.at_ * 2)).block, (ad.add (t1.at_ * 2)).off + 1, none⟩ = some (.int .i64 d.2) := by rw [← add_one_eq, add_of_add]; exact (HBASE.out _ (by rw [block_of_add]; exact hadb)).trans (hadc _ _ f2)
      have lA : a.A n < wr.heap.size := (Array.getElem?_eq_some_iff.1 (full_known HFM1.out KA.out)).1
      have lXr : a.X n < wr.heap.size := World.block_lt_of_cell? wr _ cX
      have lKr : a.K n < wr.heap.size := World.block_lt_of_cell? wr _ cK
      have hba : ∀ o, Below wr.heap.size wr (wr.alloc o) := fun o => (Below.refl _ wr).alloc (Nat.le_refl _) o
      have aA : ∀ o, (wr.alloc o).cell? ⟨a.A n, 0, none⟩ = some (.int .i64 (t1.at_ : Int)) := fun o => ((hba o).cell (p := ⟨a.A n, 0, none⟩) lA).trans cA
      have aF : ∀ o, (wr.alloc o).frozen? ⟨a.A n, 0, none⟩ = false := fun o => ((hba o).frozen (p := ⟨a.A n, 0, none⟩) lA).trans fA
      have aX : ∀ o, (wr.alloc o).cell? ⟨a.X n, 0, none⟩ = some (.pointer (some ⟨a.P, 0, none⟩)) := fun o => ((hba o).cell (p := ⟨a.X n, 0, none⟩) lXr).trans cX
      have aK : ∀ o, (wr.alloc o).cell? ⟨a.K n, 0, none⟩ = some (.int .i64 (n : Int)) := fun o => ((hba o).cell (p := ⟨a.K n, 0, none⟩) lKr).trans cK
      obtain ⟨q1, q2, q3, q4⟩ := HPM1.out.tgT n (List.getElem?_eq_some_iff.1 E3.out).1
      have nXA : a.X n ≠ a.A n := fun e => by rw [e] at q2; omega
      have nKA : a.K n ≠ a.A n := fun e => by rw [e] at q4; omega
      have hBw : w.heap.size < wr.heap.size := (Array.getElem?_eq_some_iff.1 E9.out).1
      have nBA : w.heap.size ≠ a.A n := fun e => E10.out (by
        obtain ⟨C1, D1, hrep1, hm1, hdd1, hf1⟩ := HFM1.out
        rw [e]; exact (hf1 _).2 (.inr ((hm1.1 _).2 (by rw [KA.out]; rfl))))
      have nB1 : ¬ w.heap.size = wr.heap.size := by omega
      have nB2 : ¬ wr.heap.size = w.heap.size := by omega
      have nB3 : ¬ a.A n = w.heap.size := fun e => nBA e.symm
      have rB := fun j => Blk.cell (t := 31) E9.out j
      have pB0 : wr.cell? ⟨w.heap.size, 0, none⟩ = some (.int .i64 0) := rB 0
      have pB1 : wr.cell? ⟨w.heap.size, 1, none⟩ = some (.int .i64 0) := rB 1
      have pBf : ∀ j, wr.frozen? ⟨w.heap.size, j, none⟩ = false := fun j => Blk.frozen (t := 31) E9.out j
      have aB0 : ∀ o, (wr.alloc o).cell? ⟨w.heap.size, 0, none⟩ = some (.int .i64 0) := fun o => ((hba o).cell (p := ⟨w.heap.size, 0, none⟩) hBw).trans (rB 0)
      have aB1 : ∀ o, (wr.alloc o).cell? ⟨w.heap.size, 1, none⟩ = some (.int .i64 0) := fun o => ((hba o).cell (p := ⟨w.heap.size, 1, none⟩) hBw).trans (rB 1)
      have aBf : ∀ o j, (wr.alloc o).frozen? ⟨w.heap.size, j, none⟩ = false := fun o j => ((hba o).frozen (p := ⟨w.heap.size, j, none⟩) hBw).trans (Blk.frozen (t := 31) E9.out j)
      have HD := Lib.hid hd
      -- behind the count
      have hput := full_put HFM1.out KA.out 0 (.int .i64 ((t1.at_ + 1 : Nat) : Int))
      have hpm5 := HPM1.out.bump E3.out
      obtain ⟨s2, hs2⟩ : ∃ s2, modT s1 n bumpT = s2 := ⟨_, rfl⟩
      rw [hs2] at hpm5
      have hful5 : Full F1 a.S Ts (sc a true s2) (RP a s2) (wr.setCell ⟨a.A n, 0, none⟩ (.int .i64 ((t1.at_ : Int) + 1))) := by
        rw [← hs2, sc_bump, hs2]; exact full_forget hput.1 hpm5
      have hown5 : Owned F1 wr F1 (wr.setCell ⟨a.A n, 0, none⟩ (.int .i64 ((t1.at_ : Int) + 1))) := ⟨hput.2, fun _ h => .inl h⟩
      have H5 := Lib.hid hful5
      have O5 := Lib.hid hown5
      have hz5 : (wr.setCell ⟨a.A n, 0, none⟩ (.int .i64 ((t1.at_ : Int) + 1))).heap.size = wr.heap.size := by simp [World.setCell]
      have HZ5 := Lib.hid hz5
      have hst2 : s2.ts[n]? = some (bumpT t1) := by
        rw [← hs2]
        show (s1.ts.modify n bumpT)[n]? = _
        rw [List.getElem?_modify, E3.out]; simp
      have HST2 := Lib.hid hst2
      have HD2 : Hid (DistA s2) := Lib.hid (by rw [← hs2]; exact dist_bump E6.out n)
      have HS2 : Hid (s2.steps = s1.steps ∧ s2.told = s1.told) := Lib.hid (by rw [← hs2]; exact ⟨rfl, rfl⟩)
      have hdrop : l.drop t1.at_ = d :: l.drop (t1.at_ + 1) := List.drop_eq_getElem?_toList_append.trans (by rw [hd]; rfl)
      have hstp := E5.out
      rw [hdrop, stepA, hs2] at hstp
      have hE9' : (wr.setCell ⟨a.A n, 0, none⟩ (.int .i64 ((t1.at_ : Int) + 1))).heap[w.heap.size]? = some (.cells #[.int .i64 0, .int .i64 0] 31 (0, 0)) := (Below.heap_setCell _ _ _ _ nBA).trans E9.out
      have HE9 := Lib.hid hE9'
      have hdw := wfi_range (HWF.out d (List.mem_of_getElem? hd)).1
      clear hd f1 f2 hadc hba hput hpm5 hful5 hown5 hz5 hst2 hdrop rB hE9'
      by_cases hneg : d.1 < 0
      · have hc : decide (d.1 < 0) = true := by rw [decide_eq_true_iff]; exact hneg
        rw [if_pos hneg] at hstp
        injection hstp with e1 e2
        subst e1 e2
        have hw1 : wrap64 (d.1 + 1) = d.1 + 1 := by unfold wrap64; omega
        have hw2 : wrap64 (-(d.1 + 1)) = -(d.1 + 1) := by unfold wrap64; omega
        go_wp2_with fail
        obtain ⟨W5, hW5⟩ : ∃ W5, wr.setCell ⟨a.A n, 0, none⟩ (.int .i64 ((t1.at_ : Int) + 1)) = W5 := ⟨_, rfl⟩
        rw [hW5] at H5 O5 HE9 ⊢
        obtain ⟨r1, r2, r3⟩ := step_ret H5.out (E2.out.trans O5.out) HE9.out E10.out (-(d.1 + 1)) d.2
        obtain ⟨W6, hW6⟩ : ∃ W6, (W5.setCell ⟨w.heap.size, 0, none⟩ (.int .i64 (-(d.1 + 1)))).setCell ⟨w.heap.size, 1, none⟩ (.int .i64 d.2) = W6 := ⟨_, rfl⟩
        rw [hW6] at r1 r2 r3 ⊢
        have hBl6 : w.heap.size < W6.heap.size := (Array.getElem?_eq_some_iff.1 r3).1
        have r4 := (Below.heap_alloc W6 (.cells #[.int .i64 d.1, .int .i64 d.2] 50) w.heap.size hBl6).trans r3
        have z0 := Blk.cell (t := 31) r4 0
        have z1 := Blk.cell (t := 31) r4 1
        simp only [List.getElem?_toArray, List.getElem?_cons_zero, List.getElem?_cons_succ] at z0 z1
        have hb6 : Below W6.heap.size W6 (W6.alloc (.cells #[.int .i64 d.1, .int .i64 d.2] 50)) := (Below.refl _ W6).alloc (Nat.le_refl _) _
        have FIN1 := Lib.hid (r1.below (RP.local_ a s2) hb6)
        have FIN2 := Lib.hid (r2.trans (Owned.below hb6))
        clear r1 r2 r3 r4 hW6 hW5 hb6 aA aF aX aK aB0 aB1 aBf pB0 pB1 pBf cA cL cK cX fA g1 g2
        simp [bodyPost, settle, results, Try.results56, go_sem, z0, z1, OutE]
        exact ⟨F1, FIN1.out, FIN2.out⟩
      · have hc : decide (d.1 < 0) = false := by rw [decide_eq_false_iff_not]; exact hneg
        rw [if_neg hneg] at hstp
        obtain ⟨W5, hW5⟩ : ∃ W5, wr.setCell ⟨a.A n, 0, none⟩ (.int .i64 ((t1.at_ : Int) + 1)) = W5 := ⟨_, rfl⟩
        rw [hW5] at H5 O5 HE9 HZ5
        have HW5 := Lib.hid hW5
        clear hW5
        have hb6 : Below W5.heap.size W5 (W5.alloc (.cells #[.int .i64 d.1, .int .i64 d.2] 50)) := (Below.refl _ W5).alloc (Nat.le_refl _) _
        have h6 := Lib.hid (H5.out.below (RP.local_ a s2) hb6)
        have O6 : Hid (Owned F w F1 (W5.alloc (.cells #[.int .i64 d.1, .int .i64 d.2] 50))) := Lib.hid ((E2.out.trans O5.out).trans (Owned.below hb6))
        have hacts := Lib.hid (acts_all h6.out n d (HWF.out d (List.mem_of_getElem? HD.out)).2 (by rw [HS2.out.1, E7.out]; exact hst) HD2.out (by have := E2.out.1.size; have := HZ5.out; simp; omega) (by rw [HS2.out.2]; have := E8.out; omega))
        have hBl5 : w.heap.size < (W5.alloc (.cells #[.int .i64 d.1, .int .i64 d.2] 50)).heap.size := by have := HZ5.out; simp; omega
        have hE6 : Hid ((W5.alloc (.cells #[.int .i64 d.1, .int .i64 d.2] 50)).heap[w.heap.size]? = some (.cells #[.int .i64 0, .int .i64 0] 31 (0, 0))) := Lib.hid ((Below.heap_alloc W5 _ _ (by have := HZ5.out; omega)).trans HE9.out)
        cases hact : actA n s2 d with
        | some s3 =>
          rw [hact] at hstp
          have HA := Lib.hid (hacts.out.1 s3 hact)
          have hk := acts_kept hact
          have HK := Lib.hid hk
          have HSTP := Lib.hid hstp
          have ht3 : ∃ t3, s3.ts[n]? = some t3 ∧ t3.at_ = t1.at_ + 1 := by
            have := hk.at_ n
            rw [HST2.out] at this
            cases h3 : s3.ts[n]? with
            | none => rw [h3] at this; cases this
            | some t3 => rw [h3] at this; exact ⟨t3, rfl, by simpa [bumpT] using this⟩
          obtain ⟨t3, ht3, hat3⟩ := ht3
          have HT3 := Lib.hid ht3
          have HAT3 := Lib.hid hat3
          clear hstp hk hacts hact ht3 hat3
          unfold ptr at HA
          go_wp2_with fail
          rw [HW5.out]
          refine HA.out.mono ?_
          rintro e w7 ⟨rfl, F3, hful3, hown3⟩
          have N1 := Lib.hid hful3
          have N2 := Lib.hid (O6.out.trans hown3)
          have N4 : Hid (t3.at_ ≤ l.length) := Lib.hid (by rw [HAT3.out]; omega)
          have N5 : Hid (stepA n (l.drop t3.at_) s3 = (s', out)) := Lib.hid (by rw [HAT3.out]; exact HSTP.out)
          have N6 : Hid (DistA s3) := Lib.hid (HK.out.dist HD2.out)
          have N7 : Hid (s3.steps = s.steps) := Lib.hid (by rw [HK.out.steps, HS2.out.1, E7.out])
          have N8 : Hid (s3.told.length + (l.length - t3.at_) ≤ s.told.length + l.length) := Lib.hid (by
            have h1 := HK.out.told; have h2 := E8.out; rw [HS2.out.2] at h1; rw [HAT3.out]; omega)
          have N9 := Lib.hid ((hown3.1.block _ hBl5 (fun hF => E10.out hF)).trans hE6.out)
          have N10 : Hid (¬ F3 w.heap.size) := Lib.hid (fun hF => by
            rcases hown3.2 _ hF with h | h
            · exact E10.out h
            · omega)
          have N11 : Hid (l.length - atOf (a.A n) w7 < l.length - atOf (a.A n) wr) := Lib.hid (by
            rw [atOf_full N1.out HT3.out, atOf_full E1.out E3.out, HAT3.out]; omega)
          clear hful3 hown3 aA aF aX aK aB0 aB1 aBf pB0 pB1 pBf cA cL cK cX fA g1 g2
          go_wp2
          go_roundw
          case rel => exact ⟨s3, t3, F3, N1, N2, HT3, N4, N5, N6, N7, N8, N9, N10⟩
          case measure => exact N11.out
        | none =>
          rw [hact] at hstp
          have HA := Lib.hid (hacts.out.2 hact)
          injection hstp with e1 e2
          subst e1 e2
          clear hacts hact
          unfold ptr at HA
          go_wp2_with fail
          rw [HW5.out]
          refine HA.out.mono ?_
          rintro e w7 ⟨⟨u, pv, rfl⟩, F3, hful3, hown3⟩
          have N1 := Lib.hid hful3
          have N2 := Lib.hid (O6.out.trans hown3)
          clear hful3 hown3 aA aF aX aK aB0 aB1 aBf pB0 pB1 pBf cA cL cK cX fA g1 g2
          go_wp2
          simp only [bodyPost]
          exact ⟨trivial, ⟨u, pv, rfl⟩, F3, N1.out, N2.out⟩
    · have hge : ¬ (t1.at_ : Int) < (l.length : Int) := by omega
      have hstp := E5.out
      have hdrop : l.drop t1.at_ = [] := List.drop_eq_nil_iff.2 (by omega)
      rw [hdrop, stepA] at hstp
      injection hstp with e1 e2
      subst e1 e2
      have pB0 : wr.cell? ⟨w.heap.size, 0, none⟩ = some (.int .i64 0) := Blk.cell (t := 31) E9.out 0
      have pB1 : wr.cell? ⟨w.heap.size, 1, none⟩ = some (.int .i64 0) := Blk.cell (t := 31) E9.out 1
      have pBf : ∀ j, wr.frozen? ⟨w.heap.size, j, none⟩ = false := fun j => Blk.frozen (t := 31) E9.out j
      obtain ⟨r1, r2, r3⟩ := step_ret E1.out E2.out E9.out E10.out 4 0
      have z0 := Blk.cell (t := 31) r3 0
      have z1 := Blk.cell (t := 31) r3 1
      simp only [List.getElem?_toArray, List.getElem?_cons_zero, List.getElem?_cons_succ] at z0 z1
      have FIN1 := Lib.hid r1
      have FIN2 := Lib.hid r2
      have Z0 := Lib.hid z0
      have Z1 := Lib.hid z1
      clear r1 r2 r3 z0 z1 hdrop
      go_wp2_with fail
      have z0 := Z0.out
      have z1 := Z1.out
      clear cA cL cK cX fA pB0 pB1 pBf
      simp [bodyPost, settle, results, Try.results56, go_sem, z0, z1, OutE]
      exact ⟨F1, FIN1.out, FIN2.out⟩
end Go.Proofs.Ytekgdakkkbnpiaa
