/- Tasks that take locks in rising order and let them go: what each pick does, none is dead, all come to their end: the plain law. No condition. -/
import Derived.Test.YtekgdakkkbnpiaaBegin
namespace Go.Proofs.Ytekgdakkkbnpiaa
set_option linter.unusedVariables false
set_option linter.unusedSimpArgs false

/-- what a task of these locks does -/
def goA (l : List Nat) : List (Int × Int) := l.flatMap fun x : Nat => [(0, (x : Int)), (-1, 0)]
def doA (h : List Nat) : List (Int × Int) := (h.map fun x : Nat => ((-2 : Int), (x : Int))) ++ goA h.reverse
theorem goA_len (l : List Nat) : (goA l).length = 2 * l.length := by
  induction l with
  | nil => rfl
  | cons x r ih =>
    have : goA (x :: r) = (0, (x : Int)) :: (-1, 0) :: goA r := rfl
    rw [this]; simp only [List.length_cons, ih]; omega
theorem doA_len (h : List Nat) : (doA h).length = 3 * h.length := by unfold doA; rw [List.length_append, goA_len]; simp; omega
theorem goA_drop (l : List Nat) : ∀ r, (goA l).drop (2 * r) = goA (l.drop r) := by
  induction l with
  | nil => intro r; simp [goA]
  | cons x t ih =>
    intro r
    cases r with
    | zero => rfl
    | succ r =>
      have : goA (x :: t) = (0, (x : Int)) :: (-1, 0) :: goA t := rfl
      rw [this, show 2 * (r + 1) = 2 * r + 1 + 1 by omega]
      simp only [List.drop_succ_cons]
      exact ih r
theorem doA_up {h : List Nat} {p : Nat} {x : Nat} (hx : h[p]? = some x) : ∃ r, (doA h).drop p = (-2, (x : Int)) :: r := by
  have hl := (List.getElem?_eq_some_iff.1 hx).1
  have h1 : (doA h)[p]? = some (-2, (x : Int)) := by
    unfold doA
    rw [List.getElem?_append_left (by simpa using hl), List.getElem?_map, hx]; rfl
  obtain ⟨h2, h3⟩ := List.getElem?_eq_some_iff.1 h1
  exact ⟨_, by rw [List.drop_eq_getElem_cons h2, h3]⟩
theorem doA_down {h : List Nat} {r x : Nat} (hr : r < h.length) (hx : h[h.length - 1 - r]? = some x) : ∃ t, (doA h).drop (h.length + 2 * r) = (0, (x : Int)) :: (-1, 0) :: t := by
  have h1 : (doA h).drop (h.length + 2 * r) = goA (h.reverse.drop r) := by
    unfold doA
    rw [List.drop_append, List.length_map]
    rw [List.drop_eq_nil_of_le (by simp), List.nil_append, show h.length + 2 * r - h.length = 2 * r by omega, goA_drop]
  have h2 : h.reverse[r]? = some x := by rw [List.getElem?_reverse hr]; exact hx
  obtain ⟨h3, h4⟩ := List.getElem?_eq_some_iff.1 h2
  rw [h1, List.drop_eq_getElem_cons h3, h4]
  exact ⟨_, rfl⟩
theorem doA_end (h : List Nat) : (doA h).drop (3 * h.length) = [] := List.drop_eq_nil_of_le (by rw [doA_len]; exact Nat.le_refl _)

/-- how a task stands that has come so far -/
def atA (h : List Nat) (p : Nat) (t : AT) : Prop :=
  if p = 2 * h.length + 1 then t.kind = 4
  else if p ≤ h.length then t.at_ = p ∧ (if p = 0 then t.kind = 0 else t.kind = 1 ∧ ∃ x, h[p - 1]? = some x ∧ t.on = (x : Int))
  else t.kind = 0 ∧ t.at_ = h.length + 2 * (p - h.length)
/-- the locks that it holds -/
def heldA (h : List Nat) (p : Nat) : List Nat := if p ≤ h.length then h.take (p - 1) else h.take (2 * h.length - p)

structure Ord (hs : Nat → List Nat) (n : Nat) (p : Nat → Nat) (s : AS) : Prop where
  len : s.ts.length = n
  most : ∀ i, i < n → p i ≤ 2 * (hs i).length + 1
  at_ : ∀ i t, s.ts[i]? = some t → atA (hs i) (p i) t
  has : ∀ i, i < n → ∀ x ∈ heldA (hs i) (p i), s.locks (x : Int) = some (i : Int)
  own : ∀ k v, s.locks k = some v → ∃ i, i < n ∧ v = (i : Int) ∧ ∃ x ∈ heldA (hs i) (p i), k = (x : Int)
  told : ∀ v ∈ s.told, v = 0

def stepP (p : Nat → Nat) (m : Nat) : Nat → Nat := fun i => if i = m then p i + 1 else p i

theorem modT_get (s : AS) (n : Nat) (f : AT → AT) (i : Nat) : (modT s n f).ts[i]? = if n = i then (s.ts[i]?).map f else s.ts[i]? := by
  show (s.ts.modify n f)[i]? = _
  rw [List.getElem?_modify]
  by_cases e : n = i
  · simp [e]
  · simp [e]

/-- what a whole pick leaves of the tasks -/
theorem ts_other {s : AS} {n i : Nat} {f g h : AT → AT} (hi : n ≠ i) : (modT (modT (modT s n f) n g) n h).ts[i]? = s.ts[i]? := by
  rw [modT_get, if_neg hi, modT_get, if_neg hi, modT_get, if_neg hi]
theorem ts_same {s : AS} {n : Nat} {f g h : AT → AT} {t : AT} (ht : s.ts[n]? = some t) : (modT (modT (modT s n f) n g) n h).ts[n]? = some (h (g (f t))) := by
  rw [modT_get, if_pos rfl, modT_get, if_pos rfl, modT_get, if_pos rfl, ht]; rfl

theorem stepA_wish (n : Nat) (a b : Int) (r : List (Int × Int)) (s : AS) (h : a < 0) : stepA n ((a, b) :: r) s = (modT s n bumpT, some (-(a + 1), b)) := by
  rw [stepA]; simp only [h, if_true]
theorem stepA_lets (n : Nat) (x : Int) (r : List (Int × Int)) (s : AS) (hn : n < s.ts.length) (hx : s.locks x = some (n : Int)) :
    stepA n ((0, x) :: (-1, 0) :: r) s = (modT { modT s n bumpT with locks := upd s.locks x none, told := s.told ++ [0] } n bumpT, some (0, 0)) := by
  rw [stepA]
  have hl : n < (modT s n bumpT).ts.length := by rw [mod_len]; exact hn
  have hx2 : (modT s n bumpT).locks x = some (n : Int) := hx
  have ha : actA n (modT s n bumpT) (0, x) = some { modT s n bumpT with locks := upd s.locks x none, told := s.told ++ [0] } := by
    unfold actA
    simp only [if_true]
    unfold unlockA unlockEA
    rw [if_pos ⟨hl, hx2⟩, if_neg (by omega), if_pos hx2]
    rfl
  simp only [show ¬ ((0 : Int) < 0) by omega, if_false]
  rw [ha]
  simp only
  rw [stepA_wish _ _ _ _ _ (by omega)]
  rfl

theorem Ord.up {hs : Nat → List Nat} {n m : Nat} {p : Nat → Nat} {s s' : AS} (h : Ord hs n p s) (hm : m < n) (hother : ∀ i, m ≠ i → s'.ts[i]? = s.ts[i]?) (hlen : s'.ts.length = s.ts.length) {t' : AT} (ht : s'.ts[m]? = some t') (hat : atA (hs m) (p m + 1) t')
    (hp : p m + 1 ≤ 2 * (hs m).length + 1) (h1 : ∀ x ∈ heldA (hs m) (p m + 1), s'.locks (x : Int) = some (m : Int)) (h2 : ∀ k, s'.locks k = some (m : Int) → ∃ x ∈ heldA (hs m) (p m + 1), k = (x : Int))
    (h3 : ∀ k v, v ≠ (m : Int) → (s'.locks k = some v ↔ s.locks k = some v)) (htold : ∀ v ∈ s'.told, v = 0) : Ord hs n (stepP p m) s' := by
  have pm : stepP p m m = p m + 1 := if_pos rfl
  have po : ∀ i, m ≠ i → stepP p m i = p i := fun i hi => if_neg (Ne.symm hi)
  refine ⟨by rw [hlen, h.len], fun i hi => ?_, fun i t hi => ?_, fun i hi x hx => ?_, fun k v hv => ?_, htold⟩
  · by_cases e : m = i
    · subst e; rw [pm]; exact hp
    · rw [po i e]; exact h.most i hi
  · by_cases e : m = i
    · subst e; rw [pm]
      obtain rfl : t' = t := Option.some.inj (ht.symm.trans hi)
      exact hat
    · rw [po i e]; rw [hother i e] at hi; exact h.at_ i t hi
  · by_cases e : m = i
    · subst e; rw [pm] at hx; exact h1 x hx
    · rw [po i e] at hx
      exact (h3 _ _ (by omega)).2 (h.has i hi x hx)
  · by_cases e : v = (m : Int)
    · subst e
      obtain ⟨x, hx, hk⟩ := h2 k hv
      exact ⟨m, hm, rfl, x, by rw [pm]; exact hx, hk⟩
    · obtain ⟨i, hi, rfl, x, hx, hk⟩ := h.own k v ((h3 k v e).1 hv)
      exact ⟨i, hi, rfl, x, by rw [po i (fun e2 => e (by rw [e2]))]; exact hx, hk⟩

theorem mem_take_iff {l : List Nat} {k x : Nat} : x ∈ l.take k ↔ ∃ i, i < k ∧ l[i]? = some x := by
  rw [List.mem_iff_getElem?]
  constructor
  · rintro ⟨i, hi⟩
    rw [List.getElem?_take] at hi
    split at hi
    · exact ⟨i, by assumption, hi⟩
    · cases hi
  · rintro ⟨i, hk, hi⟩
    exact ⟨i, by rw [List.getElem?_take, if_pos hk]; exact hi⟩

theorem ord_step {hs : Nat → List Nat} {n m : Nat} {p : Nat → Nat} {s : AS} (h : Ord hs n p s) (hm : m < n) {t : AT} (ht : s.ts[m]? = some t) (hmay : mayA s t = true) (hnd : (hs m).Nodup) :
    ∃ s1 k o, stepA m ((doA (hs m)).drop t.at_) (clearA s m) = (s1, some (k, o)) ∧ Ord hs n (stepP p m) (finishA s1 m k o) := by
  have hat := h.at_ m t ht
  have hmost := h.most m hm
  obtain ⟨g, hg⟩ : ∃ g, hs m = g := ⟨_, rfl⟩
  obtain ⟨q, hq⟩ : ∃ q, p m = q := ⟨_, rfl⟩
  have hhas := h.has m hm
  rw [hg, hq] at hat hmost hhas
  rw [hg] at hnd ⊢
  unfold atA at hat
  have own1 : ∀ k, s.locks k = some (m : Int) → ∃ x ∈ heldA g q, k = (x : Int) := fun k hk => by
    obtain ⟨i, hi, e, x, hx, hkx⟩ := h.own k _ hk
    obtain rfl : i = m := by omega
    rw [hg, hq] at hx
    exact ⟨x, hx, hkx⟩
  -- what ends a pick
  have fin : ∀ (s1 : AS) (k o : Int), (finishA s1 m k o).locks = s1.locks := fun _ _ _ => rfl
  by_cases e1 : q = 2 * g.length + 1
  · rw [if_pos e1] at hat
    unfold mayA at hmay
    rw [if_neg (by omega), if_neg (by omega), if_neg (by omega)] at hmay
    cases hmay
  rw [if_neg e1] at hat
  by_cases e2 : q ≤ g.length
  · rw [if_pos e2] at hat
    obtain ⟨ha, hk⟩ := hat
    by_cases e3 : q = 0
    · rw [if_pos e3] at hk
      have hc : clearA s m = modT s m wakeT := by unfold clearA; rw [ht]; simp only; rw [if_neg (by omega)]
      rw [hc, ha, e3]
      by_cases e4 : g.length = 0
      · have hg0 : g = [] := List.eq_nil_of_length_eq_zero e4
        refine ⟨modT s m wakeT, 4, 0, by rw [hg0]; rfl, ?_⟩
        refine h.up hm (fun i hi => ?_) (by show (modT (modT s m wakeT) m _).ts.length = _; rw [mod_len, mod_len]) (t' := _) (by show (modT (modT s m wakeT) m _).ts[m]? = _; rw [modT_get, if_pos rfl, modT_get, if_pos rfl, ht]; rfl) ?_ (by rw [hg, hq]; omega) ?_ ?_ (fun _ _ _ => Iff.rfl) h.told
        · show (modT (modT s m wakeT) m _).ts[i]? = _
          rw [modT_get, if_neg hi, modT_get, if_neg hi]
        · rw [hg, hq]; unfold atA; rw [if_pos (by omega)]; rfl
        · intro x hx
          rw [hg, hq, hg0] at hx; unfold heldA at hx; simp at hx
        · intro k hk2
          obtain ⟨x, hx, -⟩ := own1 k hk2
          rw [hg0] at hx; unfold heldA at hx; simp at hx
      · obtain ⟨x, hx⟩ : ∃ x, g[0]? = some x := ⟨_, List.getElem?_eq_getElem (by omega)⟩
        obtain ⟨r, hr⟩ := doA_up hx
        refine ⟨modT (modT s m wakeT) m bumpT, 1, (x : Int), by rw [hr, stepA_wish _ _ _ _ _ (by omega)]; rfl, ?_⟩
        refine h.up hm (fun i hi => ts_other hi) (by show (modT (modT (modT s m wakeT) m bumpT) m _).ts.length = _; rw [mod_len, mod_len, mod_len]) (t' := _) (ts_same ht) ?_ (by rw [hg, hq]; omega) ?_ ?_ (fun _ _ _ => Iff.rfl) h.told
        · rw [hg, hq, e3]; unfold atA; rw [if_neg (by omega), if_pos (by omega), if_neg (by omega)]
          refine ⟨?_, rfl, x, hx, rfl⟩
          show t.at_ + 1 = 0 + 1
          omega
        · intro y hy
          rw [hg, hq, e3] at hy; unfold heldA at hy; rw [if_pos (by omega)] at hy; simp at hy
        · intro k hk2
          obtain ⟨y, hy, -⟩ := own1 k hk2
          rw [e3] at hy; unfold heldA at hy; rw [if_pos (by omega)] at hy; simp at hy
    · rw [if_neg e3] at hk
      obtain ⟨hk1, x, hx, hon⟩ := hk
      have hfree : s.locks (x : Int) = none := by
        unfold mayA at hmay
        rw [if_neg (by omega), if_pos hk1, hon] at hmay
        simpa using hmay
      have hc : clearA s m = modT { s with locks := upd s.locks (x : Int) (some (m : Int)), cap := s.cap + 1 } m wakeT := by
        unfold clearA; rw [ht]; simp only; rw [if_pos hk1, hon]
      have hheld : heldA g q = g.take (q - 1) := by unfold heldA; rw [if_pos e2]
      rw [hc, ha]
      by_cases e4 : q < g.length
      · obtain ⟨y, hy⟩ : ∃ y, g[q]? = some y := ⟨_, List.getElem?_eq_getElem e4⟩
        obtain ⟨r, hr⟩ := doA_up hy
        have hnew : heldA g (q + 1) = g.take q := by unfold heldA; rw [if_pos (by omega)]; rfl
        refine ⟨modT (modT { s with locks := upd s.locks (x : Int) (some (m : Int)), cap := s.cap + 1 } m wakeT) m bumpT, 1, (y : Int), by rw [hr, stepA_wish _ _ _ _ _ (by omega)]; rfl, ?_⟩
        refine h.up hm (fun i hi => ts_other (s := { s with locks := _, cap := _ }) hi) (by show (modT (modT (modT s m wakeT) m bumpT) m _).ts.length = _; rw [mod_len, mod_len, mod_len]) (t' := _) (ts_same (s := { s with locks := _, cap := _ }) ht) ?_ (by rw [hg, hq]; omega) ?_ ?_ ?_ h.told
        · rw [hg, hq]; unfold atA; rw [if_neg (by omega), if_pos (by omega), if_neg (by omega)]
          refine ⟨?_, rfl, y, hy, rfl⟩
          show t.at_ + 1 = q + 1
          omega
        · intro z hz
          rw [hg, hq, hnew] at hz
          show upd s.locks (x : Int) (some (m : Int)) (z : Int) = _
          unfold upd
          by_cases e : (z : Int) = (x : Int)
          · rw [if_pos e]
          · rw [if_neg e]
            refine hhas z ?_
            rw [hheld]
            obtain ⟨i, hi, hzi⟩ := mem_take_iff.1 hz
            refine mem_take_iff.2 ⟨i, ?_, hzi⟩
            rcases Nat.lt_or_ge i (q - 1) with h1 | h1
            · exact h1
            · obtain rfl : i = q - 1 := by omega
              rw [hx] at hzi
              injection hzi with hzi
              exact absurd (by rw [hzi]) e
        · intro k hk2
          rw [hg, hq, hnew]
          change upd s.locks (x : Int) (some (m : Int)) k = _ at hk2
          unfold upd at hk2
          by_cases e : k = (x : Int)
          · exact ⟨x, mem_take_iff.2 ⟨q - 1, by omega, hx⟩, e⟩
          · rw [if_neg e] at hk2
            obtain ⟨z, hz, hzk⟩ := own1 k hk2
            rw [hheld] at hz
            obtain ⟨i, hi, hzi⟩ := mem_take_iff.1 hz
            exact ⟨z, mem_take_iff.2 ⟨i, by omega, hzi⟩, hzk⟩
        · intro k v hv
          show upd s.locks (x : Int) (some (m : Int)) k = some v ↔ _
          unfold upd
          by_cases e : k = (x : Int)
          · rw [if_pos e, e, hfree]
            exact ⟨fun h => absurd (Option.some.inj h).symm hv, fun h => by cases h⟩
          · rw [if_neg e]
      · obtain rfl : q = g.length := by omega
        obtain ⟨r, hr⟩ := doA_down (h := g) (r := 0) (by omega) (by simpa using hx)
        rw [Nat.mul_zero, Nat.add_zero] at hr
        have hnew : heldA g (g.length + 1) = g.take (g.length - 1) := by unfold heldA; rw [if_neg (by omega)]; congr 1; omega
        have hlk : upd (upd s.locks (x : Int) (some (m : Int))) (x : Int) none = s.locks := by
          funext k
          unfold upd
          by_cases e : k = (x : Int)
          · rw [if_pos e, e, hfree]
          · rw [if_neg e, if_neg e]
        have hst := stepA_lets m (x : Int) r (modT { s with locks := upd s.locks (x : Int) (some (m : Int)), cap := s.cap + 1 } m wakeT) (by rw [mod_len]; exact (List.getElem?_eq_some_iff.1 ht).1) (if_pos rfl)
        rw [hr]
        refine ⟨_, 0, 0, hst, ?_⟩
        have hts : ∀ i, (finishA (modT { modT (modT { s with locks := upd s.locks (x : Int) (some (m : Int)), cap := s.cap + 1 } m wakeT) m bumpT with locks := upd (upd s.locks (x : Int) (some (m : Int))) (x : Int) none, told := s.told ++ [0] } m bumpT) m 0 0).ts[i]? = if m = i then (s.ts[i]?).map (fun t => { bumpT (bumpT (wakeT t)) with kind := 0, on := 0, since := s.steps + 1, order := s.steps + 1 }) else s.ts[i]? := fun i => by
          show (modT (modT (modT (modT s m wakeT) m bumpT) m bumpT) m _).ts[i]? = _
          rw [modT_get, modT_get, modT_get, modT_get]
          by_cases e : m = i
          · subst e; simp only [if_true, ht, Option.map_some]; rfl
          · simp only [if_neg e]
        refine h.up hm (fun i hi => (hts i).trans (if_neg hi)) (by show (modT (modT (modT (modT s m wakeT) m bumpT) m bumpT) m _).ts.length = _; rw [mod_len, mod_len, mod_len, mod_len]) (t' := _) ((hts m).trans (by rw [if_pos rfl, ht]; rfl)) ?_ (by rw [hg, hq]; omega) ?_ ?_ ?_ ?_
        · rw [hg, hq]; unfold atA; rw [if_neg (by omega), if_neg (by omega)]
          refine ⟨rfl, ?_⟩
          show t.at_ + 1 + 1 = _
          omega
        · intro z hz
          rw [hg, hq, hnew] at hz
          show upd (upd s.locks (x : Int) (some (m : Int))) (x : Int) none (z : Int) = _
          rw [hlk]
          exact hhas z (by rw [hheld]; exact hz)
        · intro k hk2
          rw [hg, hq, hnew]
          change upd (upd s.locks (x : Int) (some (m : Int))) (x : Int) none k = _ at hk2
          rw [hlk] at hk2
          obtain ⟨z, hz, hzk⟩ := own1 k hk2
          rw [hheld] at hz
          exact ⟨z, hz, hzk⟩
        · intro k v hv
          show upd (upd s.locks (x : Int) (some (m : Int))) (x : Int) none k = some v ↔ _
          rw [hlk]
        · intro v hv
          change v ∈ s.told ++ [0] at hv
          rcases List.mem_append.1 hv with h1 | h1
          · exact h.told v h1
          · simpa using h1
  · rw [if_neg e2] at hat
    obtain ⟨hk, ha⟩ := hat
    have hc : clearA s m = modT s m wakeT := by unfold clearA; rw [ht]; simp only; rw [if_neg (by omega)]
    have hheld : heldA g q = g.take (2 * g.length - q) := by unfold heldA; rw [if_neg e2]
    have hnew : heldA g (q + 1) = g.take (2 * g.length - (q + 1)) := by unfold heldA; rw [if_neg (by omega)]
    rw [hc, ha]
    by_cases e4 : q < 2 * g.length
    · obtain ⟨x, hx⟩ : ∃ x, g[g.length - 1 - (q - g.length)]? = some x := ⟨_, List.getElem?_eq_getElem (by omega)⟩
      obtain ⟨r, hr⟩ := doA_down (h := g) (r := q - g.length) (by omega) hx
      have hhx : s.locks (x : Int) = some (m : Int) := hhas x (by rw [hheld]; exact mem_take_iff.2 ⟨_, by omega, hx⟩)
      have hst := stepA_lets m (x : Int) r (modT s m wakeT) (by rw [mod_len]; exact (List.getElem?_eq_some_iff.1 ht).1) hhx
      rw [hr]
      refine ⟨_, 0, 0, hst, ?_⟩
      have hts : ∀ i, (finishA (modT { modT (modT s m wakeT) m bumpT with locks := upd s.locks (x : Int) none, told := s.told ++ [0] } m bumpT) m 0 0).ts[i]? = if m = i then (s.ts[i]?).map (fun t => { bumpT (bumpT (wakeT t)) with kind := 0, on := 0, since := s.steps + 1, order := s.steps + 1 }) else s.ts[i]? := fun i => by
        show (modT (modT (modT (modT s m wakeT) m bumpT) m bumpT) m _).ts[i]? = _
        rw [modT_get, modT_get, modT_get, modT_get]
        by_cases e : m = i
        · subst e; simp only [if_true, ht, Option.map_some]; rfl
        · simp only [if_neg e]
      have hinj : ∀ i, i < 2 * g.length - (q + 1) → g[i]? ≠ some x := fun i hi e => by
        have := (List.getElem?_inj (by omega) hnd).1 (e.trans hx.symm)
        omega
      refine h.up hm (fun i hi => (hts i).trans (if_neg hi)) (by show (modT (modT (modT (modT s m wakeT) m bumpT) m bumpT) m _).ts.length = _; rw [mod_len, mod_len, mod_len, mod_len]) (t' := _) ((hts m).trans (by rw [if_pos rfl, ht]; rfl)) ?_ (by rw [hg, hq]; omega) ?_ ?_ ?_ ?_
      · rw [hg, hq]; unfold atA; rw [if_neg (by omega), if_neg (by omega)]
        refine ⟨rfl, ?_⟩
        show t.at_ + 1 + 1 = _
        omega
      · intro z hz
        rw [hg, hq, hnew] at hz
        obtain ⟨i, hi, hzi⟩ := mem_take_iff.1 hz
        show upd s.locks (x : Int) none (z : Int) = _
        unfold upd
        rw [if_neg (fun e => hinj i hi (by rw [hzi]; congr 1; omega))]
        exact hhas z (by rw [hheld]; exact mem_take_iff.2 ⟨i, by omega, hzi⟩)
      · intro k hk2
        rw [hg, hq, hnew]
        change upd s.locks (x : Int) none k = _ at hk2
        unfold upd at hk2
        by_cases e : k = (x : Int)
        · rw [if_pos e] at hk2; cases hk2
        · rw [if_neg e] at hk2
          obtain ⟨z, hz, hzk⟩ := own1 k hk2
          rw [hheld] at hz
          obtain ⟨i, hi, hzi⟩ := mem_take_iff.1 hz
          refine ⟨z, mem_take_iff.2 ⟨i, ?_, hzi⟩, hzk⟩
          rcases Nat.lt_or_ge i (2 * g.length - (q + 1)) with h1 | h1
          · exact h1
          · obtain rfl : i = g.length - 1 - (q - g.length) := by omega
            rw [hx] at hzi
            injection hzi with hzi
            exact absurd (by rw [hzk, hzi]) e
      · intro k v hv
        show upd s.locks (x : Int) none k = some v ↔ _
        unfold upd
        by_cases e : k = (x : Int)
        · rw [if_pos e, e, hhx]
          exact ⟨fun h => (by cases h), fun h => absurd (Option.some.inj h).symm hv⟩
        · rw [if_neg e]
      · intro v hv
        change v ∈ s.told ++ [0] at hv
        rcases List.mem_append.1 hv with h1 | h1
        · exact h.told v h1
        · simpa using h1
    · obtain rfl : q = 2 * g.length := by omega
      rw [show g.length + 2 * (2 * g.length - g.length) = 3 * g.length by omega, doA_end]
      refine ⟨modT s m wakeT, 4, 0, rfl, ?_⟩
      refine h.up hm (fun i hi => ?_) (by show (modT (modT s m wakeT) m _).ts.length = _; rw [mod_len, mod_len]) (t' := _) (by show (modT (modT s m wakeT) m _).ts[m]? = _; rw [modT_get, if_pos rfl, modT_get, if_pos rfl, ht]; rfl) ?_ (by rw [hg, hq]; omega) ?_ ?_ (fun _ _ _ => Iff.rfl) h.told
      · show (modT (modT s m wakeT) m _).ts[i]? = _
        rw [modT_get, if_neg hi, modT_get, if_neg hi]
      · rw [hg, hq]; unfold atA; rw [if_pos (by omega)]; rfl
      · intro x hx
        rw [hg, hq, hnew, show 2 * g.length - (2 * g.length + 1) = 0 by omega] at hx; simp at hx
      · intro k hk2
        obtain ⟨x, hx, -⟩ := own1 k hk2
        rw [hheld, Nat.sub_self] at hx; simp at hx

theorem those_mem {s : AS} {f : AT → Bool} {i : Nat} {t : AT} (ht : s.ts[i]? = some t) (hf : f t = true) : i ∈ thoseA s f := by
  unfold thoseA fl
  rw [List.mem_filter, List.mem_range]
  exact ⟨(List.getElem?_eq_some_iff.1 ht).1, by rw [ht]; exact hf⟩
theorem those_of {s : AS} {f : AT → Bool} {i : Nat} (h : i ∈ thoseA s f) : ∃ t, s.ts[i]? = some t ∧ f t = true := by
  unfold thoseA fl at h
  rw [List.mem_filter, List.mem_range] at h
  obtain ⟨-, h2⟩ := h
  cases hs : s.ts[i]? with
  | none => simp [hs] at h2
  | some t => simp [hs] at h2; exact ⟨t, rfl, h2⟩
theorem len_pos {l : List Nat} {x : Nat} (h : x ∈ l) : 0 < l.length := List.length_pos_of_mem h

structure Rising (hs : Nat → List Nat) : Prop where
  up : ∀ i, (hs i).Pairwise (· < ·)
  few : ∀ i, ∀ x ∈ hs i, x < 8
theorem Rising.nd {hs : Nat → List Nat} (h : Rising hs) (i : Nat) : (hs i).Nodup := (h.up i).imp (fun h => Nat.ne_of_lt h)

/-- Who waits for a lock waits for somebody who may go. -/
theorem ord_goes {hs : Nat → List Nat} {n : Nat} {p : Nat → Nat} {s : AS} (h : Ord hs n p s) (hr : Rising hs) : ∀ (d i x : Nat) (t : AT), 8 - x = d → x < 8 → s.ts[i]? = some t → t.kind = 1 → t.on = (x : Int) → 0 < (enabledA s).length := by
  intro d
  induction d using Nat.strongRecOn with
  | _ d ih =>
    intro i x t hd hx8 ht hk hon
    cases hl : s.locks (x : Int) with
    | none => exact len_pos (those_mem ht (by unfold mayA; rw [if_neg (by omega), if_pos hk, hon, hl]; rfl))
    | some v =>
      obtain ⟨j, hj, rfl, y, hy, e⟩ := h.own _ v hl
      obtain rfl : x = y := by omega
      obtain ⟨u, hu⟩ : ∃ u, s.ts[j]? = some u := ⟨_, List.getElem?_eq_getElem (by rw [h.len]; exact hj)⟩
      have hat := h.at_ j u hu
      have hm := h.most j hj
      unfold heldA at hy
      unfold atA at hat
      by_cases e1 : p j = 2 * (hs j).length + 1
      · rw [if_neg (by omega), show 2 * (hs j).length - p j = 0 by omega] at hy; simp at hy
      · rw [if_neg e1] at hat
        by_cases e2 : p j ≤ (hs j).length
        · rw [if_pos e2] at hat hy
          obtain ⟨k, hk1, hk2⟩ := mem_take_iff.1 hy
          obtain ⟨-, hat⟩ := hat
          rw [if_neg (by omega)] at hat
          obtain ⟨a1, z, a2, a3⟩ := hat
          obtain ⟨b1, b2⟩ := List.getElem?_eq_some_iff.1 hk2
          obtain ⟨c1, c2⟩ := List.getElem?_eq_some_iff.1 a2
          have hxz : x < z := by
            have := List.pairwise_iff_getElem.1 (hr.up j) k (p j - 1) b1 c1 (by omega)
            rw [b2, c2] at this; exact this
          have hz8 := hr.few j z (List.mem_of_getElem? a2)
          exact ih (8 - z) (by omega) j z u rfl hz8 hu a1 a3
        · rw [if_neg e2] at hat
          exact len_pos (those_mem hu (by unfold mayA; rw [if_pos hat.1]))
theorem ord_free {hs : Nat → List Nat} {n : Nat} {p : Nat → Nat} {s : AS} (h : Ord hs n p s) (hr : Rising hs) (ha : 0 < (aliveA s).length) : 0 < (enabledA s).length := by
  obtain ⟨i, hi⟩ := List.exists_mem_of_length_pos ha
  obtain ⟨t, ht, hk⟩ := those_of hi
  have hin : i < n := by rw [← h.len]; exact (List.getElem?_eq_some_iff.1 ht).1
  have hat := h.at_ i t ht
  unfold atA at hat
  by_cases e1 : p i = 2 * (hs i).length + 1
  · rw [if_pos e1] at hat; rw [hat] at hk; cases hk
  · rw [if_neg e1] at hat
    by_cases e2 : p i ≤ (hs i).length
    · rw [if_pos e2] at hat
      by_cases e3 : p i = 0
      · rw [if_pos e3] at hat
        exact len_pos (those_mem ht (by unfold mayA; rw [if_pos hat.2]))
      · rw [if_neg e3] at hat
        obtain ⟨-, a1, z, a2, a3⟩ := hat
        exact ord_goes h hr _ i z t rfl (hr.few i z (List.mem_of_getElem? a2)) ht a1 a3
    · rw [if_neg e2] at hat
      exact len_pos (those_mem ht (by unfold mayA; rw [if_pos hat.1]))
theorem ord_dead {hs : Nat → List Nat} {n : Nat} {p : Nat → Nat} {s : AS} (h : Ord hs n p s) (hr : Rising hs) : deadA s = [] := by
  unfold deadA
  split
  · rename_i h0
    rcases Nat.eq_zero_or_pos (aliveA s).length with h1 | h1
    · exact List.eq_nil_of_length_eq_zero h1
    · have := ord_free h hr h1; omega
  · rfl
theorem ord_left {hs : Nat → List Nat} {n : Nat} {p : Nat → Nat} {s : AS} (h : Ord hs n p s) (ha : 0 < (aliveA s).length) : sumTo p n < sumTo (fun i => 2 * (hs i).length + 1) n := by
  obtain ⟨i, hi⟩ := List.exists_mem_of_length_pos ha
  obtain ⟨t, ht, hk⟩ := those_of hi
  have hin : i < n := by rw [← h.len]; exact (List.getElem?_eq_some_iff.1 ht).1
  have hat := h.at_ i t ht
  have hlt : p i < 2 * (hs i).length + 1 := by
    rcases Nat.lt_or_ge (p i) (2 * (hs i).length + 1) with h1 | h1
    · exact h1
    · have e := h.most i hin
      unfold atA at hat
      rw [if_pos (by omega)] at hat; rw [hat] at hk; cases hk
  have hone : ∀ (f g : Nat → Nat) (n : Nat), (∀ j, j < n → f j ≤ g j) → i < n → f i < g i → sumTo f n < sumTo g n := by
    intro f g n hfg hi hl
    induction n with
    | zero => omega
    | succ n ih =>
      simp only [sumTo]
      by_cases e : i = n
      · subst e
        have := sumTo_mono (n := i) (fun j hj => hfg j (by omega)); omega
      · have := ih (fun j hj => hfg j (by omega)) (by omega)
        have := hfg n (by omega); omega
  exact hone _ _ n (fun j hj => h.most j hj) hin hlt
theorem sum_stepP (p : Nat → Nat) {m n : Nat} (hm : m < n) : sumTo (stepP p m) n = sumTo p n + 1 := by
  have := sumTo_one (f := stepP p m) (g := p) hm (fun i _ hi => if_neg hi)
  have e : stepP p m m = p m + 1 := if_pos rfl
  omega

theorem ord_pick {hs : Nat → List Nat} {n : Nat} {p : Nat → Nat} {s : AS} (h : Ord hs n p s) (hr : Rising hs) (L : Nat → List (Int × Int)) (hL : ∀ i, i < n → L i = doA (hs i)) (z : Int) (he : 0 < (enabledA s).length) :
    ∃ m, m < n ∧ (pickA L z s).2.2 = 0 ∧ Ord hs n (stepP p m) (pickA L z s).1 := by
  obtain ⟨hnl, t, ht, hmay⟩ := chosenA_lt (s := s) (i := z) (by omega)
  obtain ⟨m, hm⟩ : ∃ m, chosenA s z = m := ⟨_, rfl⟩
  rw [hm] at hnl ht
  have hmn : m < n := by rw [← h.len]; exact hnl
  obtain ⟨s1, k, o, hst, hord⟩ := ord_step h hmn ht hmay (hr.nd m)
  have e : pickA L z s = (finishA s1 m k o, (m : Int), 0) := by
    unfold pickA
    rw [if_neg (by omega), hm]
    dsimp only
    rw [ht]
    dsimp only
    rw [hL m hmn, hst]
  exact ⟨m, hmn, by rw [e], by rw [e]; exact hord⟩
theorem ord_start (hs : Nat → List Nat) (n : Nat) : Ord hs n (fun _ => 0) (as0 n) := by
  have h : ∀ (i : Nat) (t : AT), (as0 n).ts[i]? = some t → t = at0 := fun i t ht => (List.mem_replicate.1 (List.mem_of_getElem? ht)).2
  have h0 : ∀ i, heldA (hs i) 0 = [] := fun i => by unfold heldA; rw [if_pos (Nat.zero_le _)]; simp
  refine ⟨by simp [as0], fun i _ => Nat.zero_le _, fun i t ht => ?_, fun i _ x hx => ?_, fun k v hv => ?_, fun v hv => ?_⟩
  · rw [h i t ht]; unfold atA; rw [if_neg (by omega), if_pos (Nat.zero_le _), if_pos rfl]; exact ⟨rfl, rfl⟩
  · rw [h0] at hx; cases hx
  · simp [as0] at hv
  · simp [as0] at hv
end Go.Proofs.Ytekgdakkkbnpiaa
