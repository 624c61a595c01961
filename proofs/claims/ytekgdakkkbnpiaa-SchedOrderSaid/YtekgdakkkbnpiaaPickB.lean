/- A pick, in plain terms: what it answers and leaves. No condition. -/
import Derived.Test.YtekgdakkkbnpiaaPickA
namespace Go.Proofs.Ytekgdakkkbnpiaa
set_option linter.unusedVariables false
set_option linter.unusedSimpArgs false
open Go Go.RowKit

/-- What a step leaves as it was. -/
structure Same (s s' : AS) (n : Nat) (k : Nat) : Prop where
  steps : s'.steps = s.steps
  cap : s'.cap = s.cap
  len : s'.ts.length = s.ts.length
  dist : DistA s → DistA s'
  ord : ∀ (i : Nat) (t' : AT), s'.ts[i]? = some t' → ∃ t, s.ts[i]? = some t ∧ t'.order = t.order ∧ (i ≠ n → t'.at_ = t.at_) ∧ (i = n → t.at_ ≤ t'.at_ ∧ t'.at_ ≤ t.at_ + k ∧ s'.told.length + t.at_ ≤ s.told.length + t'.at_)
theorem Same.refl (s : AS) (n k : Nat) : Same s s n k := ⟨rfl, rfl, rfl, fun h => h, fun i t' h => ⟨t', h, rfl, fun _ => rfl, fun _ => ⟨by omega, by omega, by omega⟩⟩⟩
theorem mod_at {s : AS} {n i : Nat} {f : AT → AT} {t' : AT} (h : (modT s n f).ts[i]? = some t') : ∃ t, s.ts[i]? = some t ∧ t' = if n = i then f t else t := by
  change (s.ts.modify n f)[i]? = _ at h
  rw [List.getElem?_modify] at h
  cases hs : s.ts[i]? with
  | none => rw [hs] at h; cases h
  | some t =>
    rw [hs] at h
    refine ⟨t, rfl, ?_⟩
    by_cases e : n = i
    · simp [e] at h ⊢; exact h.symm
    · simp [e] at h ⊢; exact h.symm
theorem mod_len (s : AS) (n : Nat) (f : AT → AT) : (modT s n f).ts.length = s.ts.length := by simp [modT]
theorem mod_get {s : AS} {n : Nat} {f : AT → AT} {t : AT} (h : s.ts[n]? = some t) : (modT s n f).ts[n]? = some (f t) := by
  show (s.ts.modify n f)[n]? = _
  rw [List.getElem?_modify, h]; simp
theorem Same.bump {s : AS} {n : Nat} (k : Nat) : Same s (modT s n bumpT) n (k + 1) := by
  refine ⟨rfl, rfl, mod_len s n _, fun h => dist_bump h n, fun i t' h => ?_⟩
  obtain ⟨t, ht, e⟩ := mod_at h
  refine ⟨t, ht, ?_, fun hi => ?_, fun hi => ?_⟩
  · subst e; split <;> rfl
  · rw [if_neg (Ne.symm hi)] at e; rw [e]
  · rw [if_pos hi.symm] at e; subst e
    show t.at_ ≤ t.at_ + 1 ∧ t.at_ + 1 ≤ t.at_ + (k + 1) ∧ s.told.length + t.at_ ≤ s.told.length + (t.at_ + 1)
    omega
/-- what an act leaves -/
structure ActSame (s s' : AS) : Prop where
  steps : s'.steps = s.steps
  cap : s'.cap = s.cap
  len : s'.ts.length = s.ts.length
  dist : DistA s → DistA s'
  told : s'.told.length ≤ s.told.length + 1
  ord : ∀ (i : Nat) (t' : AT), s'.ts[i]? = some t' → ∃ t, s.ts[i]? = some t ∧ t'.order = t.order ∧ t'.at_ = t.at_
theorem wakes_len (l : List Nat) : ∀ s : AS, (l.foldl wakeA s).ts.length = s.ts.length := by
  induction l with
  | nil => intro s; rfl
  | cons x r ih => intro s; rw [List.foldl_cons, ih]; exact mod_len s x wakeT
theorem wakes_ord (l : List Nat) : ∀ (s : AS) (i : Nat) (t' : AT), (l.foldl wakeA s).ts[i]? = some t' → ∃ t, s.ts[i]? = some t ∧ t'.order = t.order ∧ t'.at_ = t.at_ := by
  induction l with
  | nil => intro s i t' h; exact ⟨t', h, rfl, rfl⟩
  | cons x r ih =>
    intro s i t' h
    obtain ⟨t, ht, h1, h2⟩ := ih _ i t' h
    obtain ⟨u, hu, e⟩ := mod_at ht
    refine ⟨u, hu, ?_, ?_⟩
    · rw [h1, e]; split <;> rfl
    · rw [h2, e]; split <;> rfl
theorem act_same {s s' : AS} {n : Nat} {d : Int × Int} (h : actA n s d = some s') : ActSame s s' := by
  have hk := acts_kept h
  have : s'.ts.length = s.ts.length ∧ ∀ (i : Nat) (t' : AT), s'.ts[i]? = some t' → ∃ t, s.ts[i]? = some t ∧ t'.order = t.order ∧ t'.at_ = t.at_ := by
    unfold actA at h
    split at h
    · injection h with h; subst h
      have e : (tellA (unlockA s n d.2) (unlockEA s n d.2)).ts = s.ts := unlockA_ts s n d.2
      rw [e]
      exact ⟨rfl, fun i t' h => ⟨t', h, rfl, rfl⟩⟩
    · split at h
      · injection h with h; subst h
        rw [signalA_eq]
        show (sigA s d.2).ts.length = _ ∧ ∀ (i : Nat) (t' : AT), (sigA s d.2).ts[i]? = some t' → _
        unfold sigA
        split
        · exact ⟨rfl, fun i t' h => ⟨t', h, rfl, rfl⟩⟩
        · exact ⟨mod_len s _ wakeT, wakes_ord [_] s⟩
      · split at h
        · injection h with h; subst h
          exact ⟨wakes_len _ s, wakes_ord _ s⟩
        · split at h
          · cases h
          · injection h with h; subst h; exact ⟨rfl, fun i t' h => ⟨t', h, rfl, rfl⟩⟩
  exact ⟨hk.steps, hk.cap, this.1, hk.dist, hk.told, this.2⟩
theorem step_same {n : Nat} (l : List (Int × Int)) : ∀ {s s' : AS} {out : Option (Int × Int)}, stepA n l s = (s', out) → Same s s' n l.length := by
  induction l with
  | nil =>
    intro s s' out h
    rw [stepA] at h
    injection h with h; subst h
    exact Same.refl s n 0
  | cons d r ih =>
    intro s s' out h
    rw [stepA] at h
    have hb := Same.bump (s := s) (n := n) r.length
    split at h
    · injection h with h; subst h; exact hb
    · cases ha : actA n (modT s n bumpT) d with
      | none => rw [ha] at h; injection h with h; subst h; exact hb
      | some s1 =>
        rw [ha] at h
        have h1 := act_same ha
        have h2 := ih h
        refine ⟨by rw [h2.steps, h1.steps, hb.steps], by rw [h2.cap, h1.cap, hb.cap], by rw [h2.len, h1.len, hb.len], fun hd => h2.dist (h1.dist (hb.dist hd)), fun i t' ht' => ?_⟩
        obtain ⟨t2, g1, g2, g3, g4⟩ := h2.ord i t' ht'
        obtain ⟨t1, k1, k2, k3⟩ := h1.ord i t2 g1
        obtain ⟨t, m1, m2⟩ := mod_at k1
        refine ⟨t, m1, ?_, fun hi => ?_, fun hi => ?_⟩
        · rw [g2, k2, m2]; split <;> rfl
        · rw [if_neg (Ne.symm hi)] at m2
          rw [g3 hi, k3, m2]
        · rw [if_pos hi.symm] at m2
          obtain ⟨q1, q2, q3⟩ := g4 hi
          have e : t1.at_ = t.at_ + 1 := by rw [m2]; rfl
          have ht := h1.told
          have e0 : (modT s n bumpT).told = s.told := rfl
          rw [e0] at ht
          rw [List.length_cons]
          rw [k3, e] at q1 q2 q3
          omega
theorem step_wf {n : Nat} (l : List (Int × Int)) (hl : ∀ d ∈ l, wfi d.2) : ∀ {s s' : AS} {k o : Int}, stepA n l s = (s', some (k, o)) → wfi o := by
  induction l with
  | nil => intro s s' k o h; rw [stepA] at h; injection h with _ h; injection h with h; injection h with _ h; rw [← h]; exact wfi_nat 0 (by omega)
  | cons d r ih =>
    intro s s' k o h
    rw [stepA] at h
    split at h
    · injection h with _ h; injection h with h; injection h with _ h; rw [← h]; exact hl d List.mem_cons_self
    · cases ha : actA n (modT s n bumpT) d with
      | none => rw [ha] at h; injection h with _ h; cases h
      | some s1 => rw [ha] at h; exact ih (fun d hd => hl d (List.mem_cons_of_mem _ hd)) h

theorem finishA_at (s : AS) (n : Nat) (k o : Int) (i : Nat) : ((finishA s n k o).ts[i]?).map AT.at_ = (s.ts[i]?).map AT.at_ := modT_at s n (fun t => { t with kind := wishK k, on := wishO k o, since := s.steps + 1, order := s.steps + 1 }) (fun _ => rfl) i
theorem failA_at (s : AS) (n : Nat) (i : Nat) : ((failA s n).ts[i]?).map AT.at_ = (s.ts[i]?).map AT.at_ := modT_at s n (fun t => { t with kind := 4, on := 0, since := s.steps + 1, order := s.steps + 1, failed := true }) (fun _ => rfl) i
structure PInv (a : Adr) (L : Nat → List (Int × Int)) (s : AS) : Prop where
  lr : ∀ i, i < s.ts.length → LRead a i (L i)
  at_ : ∀ (i : Nat) (t : AT), s.ts[i]? = some t → t.at_ ≤ (L i).length
  dist : DistA s
  ord : ∀ t ∈ s.ts, t.order ≤ s.steps
  cap : s.cap ≤ s.steps

theorem pick_abs {a : Adr} {L : Nat → List (Int × Int)} {s : AS} {F : Nat → Prop} {Ts : List Nat} {w : World} (h : Full F a.S Ts (sc a false s) (RP a s) w) (hi : PInv a L s) (i : Int) (hi1 : -9223372036854775808 ≤ i) (hi2 : i ≤ 9223372036854775807)
    (hst : s.steps < 4000000000000000000) (htl : ∀ n, n < s.ts.length → s.told.length + (L n).length < 900000000) :
    Calls Try.prog 29 #[ptr a.S, .int .i64 i] w fun e w' => e = .returned (.tuple #[.int .i64 (pickA L i s).2.1, .int .i64 (pickA L i s).2.2]) ∧
      ∃ F', Full F' a.S Ts (sc a false (pickA L i s).1) (RP a (pickA L i s).1) w' ∧ Owned F w F' w' := by
  have hcap := hi.cap
  by_cases hl : (enabledA s).length = 0
  · have e : pickA L i s = (s, 0, 8) := by unfold pickA; rw [if_pos hl]
    rw [e]
    obtain ⟨C, hrep⟩ := h.rep_
    refine (pick_nobody hrep rfl (by show s.steps < _; omega) (by rw [sc_enabled]; exact hl) i).mono ?_
    rintro en w' ⟨rfl, hb⟩
    exact ⟨rfl, F, h.below (RP.local_ a s) hb, Owned.below hb⟩
  · obtain ⟨n, hn⟩ : ∃ n, chosenA s i = n := ⟨_, rfl⟩
    have hne : 0 < (enabledP (sc a false s)).length := by rw [sc_enabled]; omega
    have hnl : n < s.ts.length := by
      have := chosen_lt (σ := sc a false s) (i := i) hne
      rw [sc_chosen, hn] at this
      have e : (sc a false s).tks.length = s.ts.length := scA_length
      rw [e] at this; exact this
    obtain ⟨t, ht⟩ : ∃ t, s.ts[n]? = some t := ⟨_, List.getElem?_eq_getElem hnl⟩
    have htk : (sc a false s).tks[n]? = some (tkA a.nm a.cp n t) := by rw [sc_at, ht]; rfl
    obtain ⟨r, hr⟩ : ∃ r, stepA n ((L n).drop t.at_) (clearA s n) = r := ⟨_, rfl⟩
    obtain ⟨s', out⟩ := r
    have hlr := hi.lr n hnl
    -- the task behind clearing
    obtain ⟨t', ht', hat'⟩ : ∃ t', (clearA s n).ts[n]? = some t' ∧ t'.at_ = t.at_ := by
      have := clearA_at (s := s) n n
      rw [ht] at this
      cases h3 : (clearA s n).ts[n]? with
      | none => rw [h3] at this; cases this
      | some t' => rw [h3] at this; exact ⟨t', rfl, by simpa using this⟩
    have hdist : DistA (clearA s n) := by
      unfold clearA
      rw [ht]
      dsimp only
      split
      · exact dist_wake (s := { s with locks := _, cap := _ }) (dist_ts hi.dist rfl) n
      · exact dist_wake hi.dist n
    have hsame := step_same _ hr
    have hst' : s'.steps = s.steps := by rw [hsame.steps, clearA_steps]
    have hcl : cleared (sc a false s) n (tkA a.nm a.cp n t) = sc a false (clearA s n) := sc_clear n ht
    have hstep : ∀ (F : Nat → Prop) (W : World), Full F a.S Ts (open_ (cleared (sc a false s) n (tkA a.nm a.cp n t))) (RP a s) W → Calls Try.prog 56 (a.cp n) W fun e W' => OutE out e ∧ ∃ F', Full F' a.S Ts (sc a true s') (RP a s') W' ∧ Owned F W F' W' := by
      intro F W hF
      rw [hcl, sc_open] at hF
      have hF2 : Full F a.S Ts (sc a true (clearA s n)) (RP a (clearA s n)) W := hF.to (fun D hr => hr.same (clearA_told n) (clearA_at n))
      exact step_any hF2 ht' hlr (by rw [clearA_steps]; omega) hdist (full_base hF2) (by rw [clearA_told]; exact htl n hnl) (by rw [hat']; exact hi.at_ n t ht) (by rw [hat']; exact hr)
    have hn3 : ∃ t3, s'.ts[n]? = some t3 := ⟨_, List.getElem?_eq_getElem (by
      rw [hsame.len]
      exact (List.getElem?_eq_some_iff.1 ht').1)⟩
    obtain ⟨t3, ht3⟩ := hn3
    have htk3 : (sc a true s').tks[n]? = some (tkA a.nm a.cp n t3) := by rw [sc_at, ht3]; rfl
    have hch : n = chosen (sc a false s) i := by rw [sc_chosen, hn]
    cases out with
    | some ko =>
      obtain ⟨k, o⟩ := ko
      have e : pickA L i s = (finishA s' n k o, (n : Int), 0) := by
        unfold pickA
        rw [if_neg hl, hn]
        dsimp only
        rw [ht]
        dsimp only
        rw [hr]
      rw [e]
      have hp := pick_ok (σ := sc a false s) (σ' := sc a true s') i (RP.local_ a s) (RP.local_ a s') h rfl hne hch htk k o hi1 hi2 (by show s.steps < _; omega) (by show s.steps < _; omega) (by show s.cap < _; omega) hstep htk3 hst' hst' (step_wf _ (fun d hd => by
        obtain ⟨A, c, -, -, hwf, -⟩ := hlr
        exact (hwf d (List.mem_of_mem_drop hd)).2) hr)
      rw [sc_shut, sc_finish n ht3] at hp
      refine hp.mono ?_
      rintro en w' ⟨rfl, F', hful, hown⟩
      refine ⟨rfl, F', hful.to (fun D hr => hr.same rfl (finishA_at s' n k o)), hown⟩
    | none =>
      have e : pickA L i s = (failA s' n, (n : Int), 9) := by
        unfold pickA
        rw [if_neg hl, hn]
        dsimp only
        rw [ht]
        dsimp only
        rw [hr]
      rw [e]
      have hp := pick_panic (σ := sc a false s) (σ' := sc a true s') i (RP.local_ a s) (RP.local_ a s') h rfl hne hch htk hi1 hi2 (by show s.steps < _; omega) (by show s.steps < _; omega) (by show s.cap < _; omega) hstep htk3 hst' hst'
      rw [sc_shut, sc_fail n ht3] at hp
      refine hp.mono ?_
      rintro en w' ⟨rfl, F', hful, hown⟩
      refine ⟨rfl, F', hful.to (fun D hr => hr.same rfl (failA_at s' n)), hown⟩
end Go.Proofs.Ytekgdakkkbnpiaa
