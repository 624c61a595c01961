/- A pick, in plain terms. No condition. -/
import Derived.Test.YtekgdakkkbnpiaaStep
namespace Go.Proofs.Ytekgdakkkbnpiaa
set_option linter.unusedVariables false
set_option linter.unusedSimpArgs false
open Go Go.RowKit

theorem enters56 : ∀ args w, (callFunc 56 args).run Try.prog w = .ok (.enter 56 args) w := Go.Proofs.enters_of Try.func56 (by kernel_rfl) rfl

section
variable {a : Adr} {s s' : AS}
theorem sc_open : open_ (sc a false s) = sc a true s := rfl
theorem sc_shut : shut_ (sc a true s) = sc a false s := rfl
theorem sc_enabled (b : Bool) : enabledP (sc a b s) = enabledA s := scA_enabled
theorem sc_alive (b : Bool) : aliveP (sc a b s) = aliveA s := scA_alive
theorem sc_sleep (b : Bool) : sleepP (sc a b s) = sleepA s := scA_sleep
theorem sc_chosen (b : Bool) (i : Int) : chosen (sc a b s) i = chosenA s i := scA_chosen i
theorem sc_dead (b : Bool) : deadP (sc a b s) = deadA s := by unfold deadP deadA; rw [sc_enabled, sc_sleep, sc_alive]
theorem sc_mod (b : Bool) (n : Nat) {t : AT} (ht : s.ts[n]? = some t) (f : AT → AT) (u : Tk) (hu : tkA a.nm a.cp n (f t) = u) : sc a b (modT s n f) = { sc a b s with tks := (sc a b s).tks.set n u } := by
  have h1 : (sc a b s).tks[n]? = some (tkA a.nm a.cp n t) := by rw [sc_at, ht]; rfl
  have h2 : (s.ts.modify n f).mapIdx (tkA a.nm a.cp) = (sc a b s).tks.set n u := by
    apply List.ext_getElem?
    intro i
    rw [List.getElem?_mapIdx, List.getElem?_modify, List.getElem?_set, sc_at]
    by_cases e : n = i
    · subst e
      have hl := (List.getElem?_eq_some_iff.1 h1).1
      rw [if_pos rfl, if_pos hl, ht]; simp [hu]
    · rw [if_neg e]; simp [e]
  unfold sc scA modT
  rw [h2]; rfl
theorem sc_clear (n : Nat) {t : AT} (ht : s.ts[n]? = some t) : cleared (sc a false s) n (tkA a.nm a.cp n t) = sc a false (clearA s n) := by
  unfold clearA
  rw [ht]
  dsimp only
  by_cases hk : t.kind = 1
  · rw [if_pos hk, sc_mod (s := { s with locks := upd s.locks t.on (some (n : Int)), cap := s.cap + 1 }) false n ht wakeT (bare (tkA a.nm a.cp n t)) rfl]
    unfold cleared takeLock
    rw [if_pos (show (tkA a.nm a.cp n t).kind = 1 from hk)]; rfl
  · rw [if_neg hk, sc_mod false n ht wakeT (bare (tkA a.nm a.cp n t)) rfl]
    unfold cleared takeLock
    rw [if_neg (show ¬ (tkA a.nm a.cp n t).kind = 1 from hk)]
theorem sc_finish (n : Nat) {t : AT} (ht : s.ts[n]? = some t) (k o : Int) : finish (sc a false s) n (tkA a.nm a.cp n t) k o = sc a false (finishA s n k o) := by
  have h := sc_mod (a := a) false n ht (fun t => { t with kind := wishK k, on := wishO k o, since := s.steps + 1, order := s.steps + 1 }) { tkA a.nm a.cp n t with kind := wishK k, on := wishO k o, since := s.steps + 1, order := s.steps + 1 } rfl
  have h2 : (sc a false (finishA s n k o)).tks = (sc a false (modT s n (fun t => { t with kind := wishK k, on := wishO k o, since := s.steps + 1, order := s.steps + 1 }))).tks := rfl
  rw [h] at h2
  unfold finish
  show ({ tks := _, locks := s.locks, steps := s.steps + 1, wishes := s.steps + 1, within := false, cap := s.cap } : Sc) = { tks := (sc a false (finishA s n k o)).tks, locks := s.locks, steps := s.steps + 1, wishes := s.steps + 1, within := false, cap := s.cap }
  rw [h2]; rfl
theorem sc_fail (n : Nat) {t : AT} (ht : s.ts[n]? = some t) : failedP (sc a false s) n (tkA a.nm a.cp n t) = sc a false (failA s n) := by
  have h := sc_mod (a := a) false n ht (fun t => { t with kind := 4, on := 0, since := s.steps + 1, order := s.steps + 1, failed := true }) { tkA a.nm a.cp n t with kind := 4, on := 0, since := s.steps + 1, order := s.steps + 1, failed := true } rfl
  have h2 : (sc a false (failA s n)).tks = (sc a false (modT s n (fun t => { t with kind := 4, on := 0, since := s.steps + 1, order := s.steps + 1, failed := true }))).tks := rfl
  rw [h] at h2
  unfold failedP
  show ({ tks := _, locks := dropAll s.locks n, steps := s.steps + 1, wishes := s.steps + 1, within := false, cap := s.cap } : Sc) = { tks := (sc a false (failA s n)).tks, locks := dropAll s.locks n, steps := s.steps + 1, wishes := s.steps + 1, within := false, cap := s.cap }
  rw [h2]; rfl

theorem clearA_told (n : Nat) : (clearA s n).told = s.told := by
  unfold clearA
  cases s.ts[n]? with
  | none => rfl
  | some t => dsimp only; split <;> rfl
theorem clearA_at (n i : Nat) : ((clearA s n).ts[i]?).map AT.at_ = (s.ts[i]?).map AT.at_ := by
  unfold clearA
  cases s.ts[n]? with
  | none => rfl
  | some t => dsimp only; split <;> exact modT_at _ n wakeT (fun _ => rfl) i
theorem clearA_steps (n : Nat) : (clearA s n).steps = s.steps := by
  unfold clearA
  cases s.ts[n]? with
  | none => rfl
  | some t => dsimp only; split <;> rfl
theorem RP.same {D : Nat → Prop} {w : World} (h : RP a s D w) (e1 : s'.told = s.told) (e2 : ∀ i : Nat, (s'.ts[i]?).map AT.at_ = (s.ts[i]?).map AT.at_) : RP a s' D w := by
  obtain ⟨m, hm, hp⟩ := h
  exact ⟨m, hm, hp.same e1 e2⟩
theorem RP.base {D : Nat → Prop} {w : World} (h : RP a s D w) : a.w0.heap.size ≤ w.heap.size := by
  obtain ⟨m, hm, hp⟩ := h
  rcases Nat.eq_zero_or_pos a.w0.heap.size with h0 | h0
  · omega
  · have hlt : a.w0.heap.size - 1 < a.w0.heap.size := by omega
    have := hp.base _ hlt
    rw [Array.getElem?_eq_getElem hlt] at this
    have := (Array.getElem?_eq_some_iff.1 (hm.2 _ _ this)).1
    omega
theorem Full.to {F : Nat → Prop} {S : Nat} {Ts : List Nat} {σ : Sc} {R R' : (Nat → Prop) → World → Prop} {w : World} (h : Full F S Ts σ R w) (hr : ∀ D, R D w → R' D w) : Full F S Ts σ R' w := by
  obtain ⟨C, D, h1, h2, h3, h4⟩ := h
  exact ⟨C, D, h1, hr D h2, h3, h4⟩
theorem full_base {F : Nat → Prop} {S : Nat} {Ts : List Nat} {σ : Sc} {w : World} (h : Full F S Ts σ (RP a s) w) : a.w0.heap.size ≤ w.heap.size := by
  obtain ⟨C, D, h1, h2, h3, h4⟩ := h
  exact h2.base
end

set_option maxRecDepth 100000 in
set_option maxHeartbeats 2000000 in
/-- A pick where nobody may go. -/
theorem pick_nobody {C : Nat → Prop} {S : Nat} {Ts : List Nat} {σ : Sc} {w : World} (h : Rep C S Ts σ w) (hw : σ.within = false) (hst : σ.steps < 4611686018427387904) (hn : (enabledP σ).length = 0) (i : Int) :
    Calls Try.prog 29 #[ptr S, .int .i64 i] w fun e w' => e = .returned (.tuple #[.int .i64 0, .int .i64 8]) ∧ Below w.heap.size w w' := by
  have hen := Lib.hid (enabled_any h hst)
  have HH := Lib.hid h
  clear h
  unfold ptr at *
  go_enter Try.func29, Try.ntmps29
  go_wp2_with fail
  refine hen.out.mono ?_
  rintro e w1 ⟨v, rfl, hown, hb⟩
  have hr1 := HH.out.below hb
  obtain ⟨⟨tv, M, g1, -⟩, -⟩ := id hr1
  obtain ⟨-, -, -, -, s4, -⟩ := sc_cell g1
  rw [hw] at s4
  obtain ⟨A2, cp2, g2, rfl, -⟩ := own_shape hown
  rw [hn]
  clear hr1 g1 hown
  go_wp2_with fail
  go_ret2
  exact ⟨rfl, hb⟩
end Go.Proofs.Ytekgdakkkbnpiaa
