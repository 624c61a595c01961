/- With picks that rise by one nobody waits long: the plain law. No condition. -/
import Derived.Test.YtekgdakkkbnpiaaThose
namespace Go.Proofs.Ytekgdakkkbnpiaa
set_option linter.unusedVariables false
set_option linter.unusedSimpArgs false

/-- how many picks until place p of m is picked -/
def dist (p m at_ : Nat) : Nat := if at_ % m ≤ p then p - at_ % m else p + m - at_ % m
theorem dist_lt {p m a : Nat} (hp : p < m) : dist p m a + 1 ≤ m := by
  have := Nat.mod_lt a (show 0 < m by omega)
  unfold dist; split <;> omega
theorem mod_succ {m a : Nat} (hm : 0 < m) : (a + 1) % m = if a % m + 1 = m then 0 else a % m + 1 := by
  have h := Nat.mod_lt a hm
  have e := Nat.div_add_mod a m
  split
  · rename_i h1
    have : a + 1 = m * (a / m + 1) := by rw [Nat.mul_add]; omega
    rw [this]; exact Nat.mul_mod_right m _
  · rename_i h1
    have e1 : a + 1 = (a % m + 1) + m * (a / m) := by omega
    rw [e1, Nat.add_mul_mod_self_left]
    exact Nat.mod_eq_of_lt (by omega)
theorem dist_next {p m a : Nat} (hp : p < m) (hne : p ≠ a % m) : dist p m (a + 1) + 1 = dist p m a := by
  have h := Nat.mod_lt a (show 0 < m by omega)
  have h2 := mod_succ (a := a) (show 0 < m by omega)
  unfold dist
  by_cases hz : a % m + 1 = m
  · rw [if_pos hz] at h2
    rw [h2, if_pos (Nat.zero_le _), if_neg (by omega)]; omega
  · rw [if_neg hz] at h2
    rw [h2]
    by_cases h3 : a % m + 1 ≤ p
    · rw [if_pos h3, if_pos (by omega)]; omega
    · rw [if_neg h3, if_neg (by omega)]; omega
theorem dist_here {m a : Nat} (hm : 0 < m) : dist (a % m) m (a + 1) + 1 ≤ m := dist_lt (Nat.mod_lt a hm)

/-- l goes round; last: when each was picked. -/
structure Fair (n a : Nat) (l : List Nat) (last : List Nat) : Prop where
  nd : l.Nodup
  lt : ∀ i ∈ l, i < n
  len : l.length ≤ n
  ll : last.length = n
  past : ∀ i ∈ last, i ≤ a
  wait : ∀ p i, l[p]? = some i → a + dist p l.length a ≤ last.getD i 0 + (n - l.length + 1) * n

theorem Fair.stay {n a x : Nat} {l last : List Nat} (h : Fair n a l last) (hm : 0 < l.length) (hx : l[a % l.length]? = some x) : Fair n (a + 1) l (last.set x a) := by
  have hxn : x < n := h.lt x (List.mem_of_getElem? hx)
  refine ⟨h.nd, h.lt, h.len, by rw [List.length_set]; exact h.ll, fun i hi => ?_, fun p i hp => ?_⟩
  · rcases List.mem_or_eq_of_mem_set hi with h1 | h1
    · have := h.past i h1; omega
    · omega
  · have hpl : p < l.length := (List.getElem?_eq_some_iff.1 hp).1
    have hK : n ≤ (n - l.length + 1) * n := Nat.le_mul_of_pos_left n (by omega)
    have hlen := h.len
    by_cases e : p = a % l.length
    · subst e
      obtain rfl : i = x := Option.some.inj (hp.symm.trans hx)
      have hd := dist_here (a := a) hm
      have : (last.set i a).getD i 0 = a := by rw [List.getD_eq_getElem?_getD, List.getElem?_set, if_pos rfl, if_pos (by rw [h.ll]; exact hxn)]; rfl
      rw [this]; omega
    · have hne : i ≠ x := fun e1 => by
        subst e1
        exact e ((List.getElem?_inj hpl h.nd).1 (hp.trans hx.symm))
      have : (last.set x a).getD i 0 = last.getD i 0 := by rw [List.getD_eq_getElem?_getD, List.getElem?_set, if_neg (Ne.symm hne), ← List.getD_eq_getElem?_getD]
      rw [this]
      have h1 := h.wait p i hp
      have h2 := dist_next hpl e
      omega
theorem Fair.drop {n a x : Nat} {l last : List Nat} (h : Fair n a l last) (hm : 0 < l.length) (hx : l[a % l.length]? = some x) : Fair n (a + 1) (l.filter (fun i => i != x)) (last.set x a) := by
  have hxl : x ∈ l := List.mem_of_getElem? hx
  have hel : (l.filter (fun i => i != x)).length = l.length - 1 := by
    rw [← h.nd.erase_eq_filter x, List.length_erase_of_mem hxl]
  refine ⟨h.nd.filter _, fun i hi => h.lt i (List.mem_filter.1 hi).1, by have := h.len; omega, by rw [List.length_set]; exact h.ll, fun i hi => ?_, fun p i hp => ?_⟩
  · rcases List.mem_or_eq_of_mem_set hi with h1 | h1
    · have := h.past i h1; omega
    · omega
  · have hpl : p < (l.filter (fun i => i != x)).length := (List.getElem?_eq_some_iff.1 hp).1
    obtain ⟨hil, hix⟩ := List.mem_filter.1 (List.mem_of_getElem? hp)
    have hne : i ≠ x := by simpa using hix
    obtain ⟨q, hq⟩ := List.getElem?_of_mem hil
    have h1 := h.wait q i hq
    have hd := dist_lt (a := a + 1) hpl
    have : (last.set x a).getD i 0 = last.getD i 0 := by rw [List.getD_eq_getElem?_getD, List.getElem?_set, if_neg (Ne.symm hne), ← List.getD_eq_getElem?_getD]
    rw [this, hel]
    rw [hel] at hd hpl
    have hlen := h.len
    have e : (n - (l.length - 1) + 1) * n = (n - l.length + 1) * n + n := by
      rw [show n - (l.length - 1) + 1 = (n - l.length + 1) + 1 by omega, Nat.add_mul, Nat.one_mul]
    rw [e]; omega
theorem Fair.ok {n a i : Nat} {l last : List Nat} (h : Fair n (a + 1) l last) (hi : i ∈ l) : a ≤ last.getD i 0 + 2 * n * n := by
  obtain ⟨p, hp⟩ := List.getElem?_of_mem hi
  have h1 := h.wait p i hp
  have hpl : p < l.length := (List.getElem?_eq_some_iff.1 hp).1
  have h2 : (n - l.length + 1) * n ≤ n * n := Nat.mul_le_mul_right n (by have := h.len; omega)
  have h3 : 2 * n * n = n * n + n * n := by rw [Nat.mul_assoc, Nat.two_mul]
  omega
theorem Fair.begin (n : Nat) : Fair n 0 (List.range n) (List.replicate n 0) := by
  refine ⟨List.nodup_range, fun i hi => List.mem_range.1 hi, by simp, by simp, fun i hi => ?_, fun p i hp => ?_⟩
  · have := (List.mem_replicate.1 hi).2; omega
  · have hpl : p < n := by have := (List.getElem?_eq_some_iff.1 hp).1; simpa using this
    have := dist_lt (a := 0) hpl
    simp only [List.length_range]
    have hK : n ≤ (n - n + 1) * n := Nat.le_mul_of_pos_left n (by omega)
    omega

/-- How many steps all do. -/
def sumTo (f : Nat → Nat) : Nat → Nat
  | 0 => 0
  | k + 1 => sumTo f k + f k
theorem sumTo_le {f g : Nat → Nat} (h : ∀ i, f i ≤ g i) (n : Nat) : sumTo f n ≤ sumTo g n := by
  induction n with
  | zero => exact Nat.le_refl _
  | succ n ih => exact Nat.add_le_add ih (h n)
theorem sumTo_le_mul {f : Nat → Nat} {c n : Nat} (h : ∀ i, i < n → f i ≤ c) : sumTo f n ≤ n * c := by
  induction n with
  | zero => simp [sumTo]
  | succ n ih =>
    rw [Nat.succ_mul]
    exact Nat.add_le_add (ih (fun i hi => h i (by omega))) (h n (by omega))
theorem sumTo_set {l : List Nat} {x : Nat} {n : Nat} (hn : n = l.length) (hx : x < n) (v : Nat) (hv : v = l.getD x 0 + 1) : sumTo (fun i => (l.set x v).getD i 0) n = sumTo (fun i => l.getD i 0) n + 1 := by
  have key : ∀ k, k ≤ l.length → sumTo (fun i => (l.set x v).getD i 0) k = sumTo (fun i => l.getD i 0) k + if x < k then 1 else 0 := by
    intro k
    induction k with
    | zero => intro _; simp [sumTo]
    | succ k ih =>
      intro hk
      simp only [sumTo]
      rw [ih (by omega)]
      by_cases e : x = k
      · subst e
        have : (l.set x v).getD x 0 = l.getD x 0 + 1 := by rw [List.getD_eq_getElem?_getD, List.getElem?_set, if_pos rfl, if_pos (by omega)]; exact hv
        rw [this]; simp; omega
      · have : (l.set x v).getD k 0 = l.getD k 0 := by rw [List.getD_eq_getElem?_getD, List.getElem?_set, if_neg e, ← List.getD_eq_getElem?_getD]
        rw [this]
        by_cases h1 : x < k
        · rw [if_pos h1, if_pos (by omega)]; omega
        · rw [if_neg h1, if_neg (by omega)]; omega
  have := key n (by omega)
  rw [if_pos hx] at this
  exact this
end Go.Proofs.Ytekgdakkkbnpiaa
