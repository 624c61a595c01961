/- Keys in order, tombstones, fragments: the definitions and their plain laws. No condition. -/
import Derived.WalkKit
import Derived.Lib.Strings
import Derived.Lib.Slices
import Derived.Lib.SlicesCompact
import Derived.Lib.Bytealg
namespace Go.Proofs.Ytbfejlmamncemaa.Sk
set_option linter.unusedVariables false
set_option linter.unusedSimpArgs false
open Go Go.RowKit Go.Sort Go.Lib

structure Tomb where
  b : ByteArray
  e : ByteArray
  s : Int
structure Fragm where
  b : ByteArray
  e : ByteArray
  q : List Int
/-- what the comparator says -/
def cmpI (how : Int) (a b : ByteArray) : Int := if how = 1 then compareBytes b.data.toList a.data.toList else compareBytes a.data.toList b.data.toList

/-! ### The order -/
theorem cb_range (a : List UInt8) : ∀ b, compareBytes a b = -1 ∨ compareBytes a b = 0 ∨ compareBytes a b = 1 := by
  induction a with
  | nil => intro b; cases b <;> simp [compareBytes]
  | cons x a ih =>
    intro b
    cases b with
    | nil => simp [compareBytes]
    | cons y b =>
      rw [compareBytes]
      split
      · simp
      · split
        · simp
        · exact ih b
theorem u8_lt (x y : UInt8) : x < y ↔ x.toNat < y.toNat := Iff.rfl
theorem u8_eq {x y : UInt8} (h1 : ¬ x < y) (h2 : ¬ y < x) : x = y := by
  rw [u8_lt] at h1 h2
  exact UInt8.toNat_inj.1 (by omega)
theorem cb_self (a : List UInt8) : compareBytes a a = 0 := by
  induction a with
  | nil => rfl
  | cons x a ih =>
    have : ¬ x < x := by rw [u8_lt]; omega
    rw [compareBytes, if_neg this, if_neg this, ih]
theorem cb_zero (a : List UInt8) : ∀ b, compareBytes a b = 0 → a = b := by
  induction a with
  | nil => intro b h; cases b <;> simp [compareBytes] at h ⊢
  | cons x a ih =>
    intro b h
    cases b with
    | nil => simp [compareBytes] at h
    | cons y b =>
      rw [compareBytes] at h
      split at h
      · simp at h
      · split at h
        · simp at h
        · rename_i h1 h2
          rw [ih b h, u8_eq h1 h2]
theorem cb_neg (a : List UInt8) : ∀ b, compareBytes b a = - compareBytes a b := by
  induction a with
  | nil => intro b; cases b <;> simp [compareBytes]
  | cons x a ih =>
    intro b
    cases b with
    | nil => simp [compareBytes]
    | cons y b =>
      rw [compareBytes, compareBytes]
      by_cases h1 : x < y
      · have : ¬ y < x := by rw [u8_lt] at *; omega
        rw [if_pos h1, if_neg this, if_pos h1]; rfl
      · rw [if_neg h1]
        by_cases h2 : y < x
        · rw [if_pos h2, if_pos h2, if_neg h1]
        · rw [if_neg h2, if_neg h2, if_neg h1]; exact ih b
theorem cb_trans (a : List UInt8) : ∀ b c, compareBytes a b ≤ 0 → compareBytes b c ≤ 0 → compareBytes a c ≤ 0 := by
  induction a with
  | nil => intro b c _ _; cases c <;> simp [compareBytes]
  | cons x a ih =>
    intro b c h1 h2
    cases b with
    | nil => simp [compareBytes] at h1
    | cons y b =>
      cases c with
      | nil => simp [compareBytes] at h2
      | cons z c =>
        rw [compareBytes] at h1 h2 ⊢
        simp only [u8_lt] at *
        by_cases e1 : x.toNat < y.toNat
        · by_cases e2 : y.toNat < z.toNat
          · rw [if_pos (by omega)]; omega
          · rw [if_neg e2] at h2
            by_cases e3 : z.toNat < y.toNat
            · rw [if_pos e3] at h2; omega
            · rw [if_pos (by omega)]; omega
        · rw [if_neg e1] at h1
          by_cases e4 : y.toNat < x.toNat
          · rw [if_pos e4] at h1; omega
          · rw [if_neg e4] at h1
            by_cases e2 : y.toNat < z.toNat
            · rw [if_pos (by omega)]; omega
            · rw [if_neg e2] at h2
              by_cases e3 : z.toNat < y.toNat
              · rw [if_pos e3] at h2; omega
              · rw [if_neg e3] at h2
                rw [if_neg (by omega), if_neg (by omega)]
                exact ih b c h1 h2

theorem ba_ext {a b : ByteArray} (h : a.data.toList = b.data.toList) : a = b := by
  apply ByteArray.ext
  exact Array.ext' h
theorem cmp_self (how : Int) (a : ByteArray) : cmpI how a a = 0 := by unfold cmpI; split <;> exact cb_self _
theorem cmp_zero {how : Int} {a b : ByteArray} (h : cmpI how a b = 0) : a = b := by
  unfold cmpI at h
  split at h
  · exact ba_ext (cb_zero _ _ h).symm
  · exact ba_ext (cb_zero _ _ h)
theorem cmp_neg (how : Int) (a b : ByteArray) : cmpI how b a = - cmpI how a b := by
  unfold cmpI
  split
  · exact cb_neg _ _
  · exact cb_neg _ _
theorem cmp_trans {how : Int} {a b c : ByteArray} (h1 : cmpI how a b ≤ 0) (h2 : cmpI how b c ≤ 0) : cmpI how a c ≤ 0 := by
  unfold cmpI at *
  split
  · rename_i h; rw [if_pos h] at h1 h2; exact cb_trans _ _ _ h2 h1
  · rename_i h; rw [if_neg h] at h1 h2; exact cb_trans _ _ _ h1 h2
theorem cmp_range (how : Int) (a b : ByteArray) : cmpI how a b = -1 ∨ cmpI how a b = 0 ∨ cmpI how a b = 1 := by
  unfold cmpI; split <;> exact cb_range _ _
/-- a lies ahead of b -/
def ltK (how : Int) (a b : ByteArray) : Prop := cmpI how a b < 0
def leK (how : Int) (a b : ByteArray) : Prop := cmpI how a b ≤ 0
instance (how : Int) (a b : ByteArray) : Decidable (ltK how a b) := inferInstanceAs (Decidable (_ < _))
instance (how : Int) (a b : ByteArray) : Decidable (leK how a b) := inferInstanceAs (Decidable (_ ≤ _))
theorem le_refl (how : Int) (a : ByteArray) : leK how a a := by unfold leK; rw [cmp_self]; omega
theorem le_trans {how : Int} {a b c : ByteArray} (h1 : leK how a b) (h2 : leK how b c) : leK how a c := cmp_trans h1 h2
theorem not_le {how : Int} {a b : ByteArray} : ¬ leK how a b ↔ ltK how b a := by unfold leK ltK; rw [cmp_neg how a b]; omega
theorem not_lt {how : Int} {a b : ByteArray} : ¬ ltK how a b ↔ leK how b a := by unfold leK ltK; rw [cmp_neg how a b]; omega
theorem lt_le {how : Int} {a b : ByteArray} (h : ltK how a b) : leK how a b := by unfold leK ltK at *; omega
theorem le_anti {how : Int} {a b : ByteArray} (h1 : leK how a b) (h2 : leK how b a) : a = b := by
  unfold leK at h1 h2; rw [cmp_neg how a b] at h2
  have h3 : cmpI how a b = 0 := by omega
  exact cmp_zero h3
theorem lt_of_lt_le {how : Int} {a b c : ByteArray} (h1 : ltK how a b) (h2 : leK how b c) : ltK how a c := by
  rw [← not_le] at *
  exact fun h => h1 (le_trans h2 h)
theorem lt_of_le_lt {how : Int} {a b c : ByteArray} (h1 : leK how a b) (h2 : ltK how b c) : ltK how a c := by
  rw [← not_le] at *
  exact fun h => h2 (le_trans h h1)
theorem lt_irrefl {how : Int} {a : ByteArray} : ¬ ltK how a a := by rw [not_lt]; exact le_refl _ _
theorem le_total (how : Int) (a b : ByteArray) : leK how a b ∨ leK how b a := by
  by_cases h : leK how a b
  · exact .inl h
  · exact .inr (lt_le (not_le.1 h))
theorem lt_or {how : Int} {a b : ByteArray} (h : leK how a b) : a = b ∨ ltK how a b := by
  by_cases h2 : ltK how a b
  · exact .inr h2
  · exact .inl (le_anti h (not_lt.1 h2))
theorem bl_lt (a : List UInt8) : ∀ b, Op.bytesLess a b = true ↔ compareBytes a b < 0 := by
  induction a with
  | nil => intro b; cases b <;> simp [Op.bytesLess, compareBytes]
  | cons x a ih =>
    intro b
    cases b with
    | nil => simp [Op.bytesLess, compareBytes]
    | cons y b =>
      have h := ih b
      rw [compareBytes]
      by_cases h1 : x < y
      · simp [Op.bytesLess, h1]
      · by_cases h2 : y < x
        · have : x ≠ y := fun e => by rw [e, u8_lt] at h2; omega
          simp [Op.bytesLess, h1, h2, this]
        · have e := u8_eq h1 h2
          subst e
          simp [Op.bytesLess, h1, h]
/-- the reference's comparator -/
def refCmp (how : Int) (a b : ByteArray) : Int := if a = b then 0 else if how = 1 then (if Op.bytesLess a.toList b.toList = true then 1 else -1) else (if Op.bytesLess a.toList b.toList = true then -1 else 1)
theorem ref_cmp (how : Int) (a b : ByteArray) : refCmp how a b = cmpI how a b := by
  unfold refCmp
  rw [Lib.toList_data, Lib.toList_data]
  by_cases h : a = b
  · rw [if_pos h, h, cmp_self]
  · rw [if_neg h]
    have hr := cb_range a.data.toList b.data.toList
    have hz : compareBytes a.data.toList b.data.toList ≠ 0 := fun e => h (ba_ext (cb_zero _ _ e))
    have hn := cb_neg a.data.toList b.data.toList
    unfold cmpI
    by_cases hl : Op.bytesLess a.data.toList b.data.toList = true
    · rw [if_pos hl]
      have := (bl_lt _ _).1 hl
      split <;> omega
    · rw [if_neg hl]
      have : ¬ compareBytes a.data.toList b.data.toList < 0 := fun e => hl ((bl_lt _ _).2 e)
      split <;> omega

def sortK (how : Int) (l : List ByteArray) : List ByteArray := l.mergeSort fun x y => decide (leK how x y)
def fallI (a b : Int) : Int := if b < a then -1 else if a < b then 1 else 0
def sortN (l : List Int) : List Int := l.mergeSort fun x y => decide (y ≤ x)
/-- keys, each once -/
def uniqK (l : List ByteArray) : List ByteArray := (Lib.compact (l.map fun (s : ByteArray) => s.data.toList)).map fun s => ⟨s.toArray⟩
theorem compact_len {α : Type} [Inhabited α] [DecidableEq α] (l : List α) : (Lib.compact l).length ≤ l.length := by
  unfold Lib.compact Lib.compactUpTo
  rw [List.length_map]
  refine Nat.le_trans (List.length_filter_le _ _) ?_
  simp
theorem sorted_eq {α : Type} {lt : α → α → Prop} (hirr : ∀ x, ¬ lt x x) (htr : ∀ x y z, lt x y → lt y z → lt x z) : ∀ (a b : List α), a.Pairwise lt → b.Pairwise lt → (∀ x, x ∈ a ↔ x ∈ b) → a = b := by
  intro a
  induction a with
  | nil =>
    intro b _ _ h
    cases b with
    | nil => rfl
    | cons y b => exact absurd ((h y).2 List.mem_cons_self) (by simp)
  | cons x a ih =>
    intro b ha hb h
    cases b with
    | nil => exact absurd ((h x).1 List.mem_cons_self) (by simp)
    | cons y b =>
      obtain ⟨hx, ha2⟩ := List.pairwise_cons.1 ha
      obtain ⟨hy, hb2⟩ := List.pairwise_cons.1 hb
      have e : x = y := by
        rcases List.mem_cons.1 ((h x).1 List.mem_cons_self) with h1 | h1
        · exact h1
        · rcases List.mem_cons.1 ((h y).2 List.mem_cons_self) with h2 | h2
          · exact h2.symm
          · exact absurd (htr _ _ _ (hy x h1) (hx y h2)) (hirr y)
      subst e
      congr 1
      refine ih b ha2 hb2 (fun z => ⟨fun hz => ?_, fun hz => ?_⟩)
      · rcases List.mem_cons.1 ((h z).1 (List.mem_cons_of_mem _ hz)) with h1 | h1
        · subst h1; exact absurd (hx z hz) (hirr z)
        · exact h1
      · rcases List.mem_cons.1 ((h z).2 (List.mem_cons_of_mem _ hz)) with h1 | h1
        · subst h1; exact absurd (hy z hz) (hirr z)
        · exact h1

/-! ### Compact of a list in order -/
theorem compact_sorted {α : Type} [Inhabited α] [DecidableEq α] {lt : α → α → Prop} (htr : ∀ x y z, lt x y → lt y z → lt x z) (l : List α) (hs : l.Pairwise (fun x y => x = y ∨ lt x y)) :
    (Lib.compact l).Pairwise lt ∧ ∀ x, x ∈ Lib.compact l ↔ x ∈ l := by
  have key : ∀ m, m ≤ l.length → (Lib.compactUpTo l.toArray m).Pairwise lt ∧ (∀ x, x ∈ Lib.compactUpTo l.toArray m ↔ ∃ j, j < m ∧ l[j]? = some x) := by
    intro m
    induction m with
    | zero => intro _; exact ⟨by simp [Lib.compactUpTo], fun x => by simp [Lib.compactUpTo]⟩
    | succ m ih =>
      intro hm
      obtain ⟨h1, h2⟩ := ih (by omega)
      have hml : m < l.length := by omega
      have hget : ∀ j, j < l.length → l.toArray[j]! = l[j]! := fun j hj => by simp [getElem!_def]
      have hgs : ∀ j, (hj : j < l.length) → l[j]? = some (l.toArray[j]!) := fun j hj => by rw [hget j hj, List.getElem?_eq_getElem hj, getElem!_pos l j hj]
      have hord : ∀ i j, i < j → (hj : j < l.length) → l.toArray[i]! = l.toArray[j]! ∨ lt l.toArray[i]! l.toArray[j]! := fun i j hij hj => by
        rw [hget i (by omega), hget j hj, getElem!_pos l i (by omega), getElem!_pos l j hj]
        exact List.pairwise_iff_getElem.1 hs i j (by omega) hj hij
      rw [Lib.compactUpTo_succ]
      by_cases hk : Lib.keeps l.toArray m = true
      · rw [if_pos hk]
        constructor
        · rw [List.pairwise_append]
          refine ⟨h1, by simp, fun a ha b hb => ?_⟩
          rw [List.mem_singleton] at hb
          subst hb
          obtain ⟨j, hj, hja⟩ := (h2 a).1 ha
          have hm0 : ¬ m = 0 := by omega
          have hne : l.toArray[m]! ≠ l.toArray[m - 1]! := by
            have := of_decide_eq_true hk
            rcases this with h | h
            · exact absurd h hm0
            · exact h
          have ea : a = l.toArray[j]! := by rw [hgs j (by omega)] at hja; exact (Option.some.inj hja).symm
          have e1 : lt l.toArray[m - 1]! l.toArray[m]! := (hord (m - 1) m (by omega) hml).resolve_left (fun e => hne e.symm)
          rw [ea]
          by_cases hjm : j = m - 1
          · rw [hjm]; exact e1
          · rcases hord j (m - 1) (by omega) (by omega) with e | e
            · rw [e]; exact e1
            · exact htr _ _ _ e e1
        · intro x
          rw [List.mem_append, h2 x, List.mem_singleton]
          constructor
          · rintro (⟨j, hj, e⟩ | e)
            · exact ⟨j, by omega, e⟩
            · exact ⟨m, by omega, by rw [e]; exact hgs m hml⟩
          · rintro ⟨j, hj, e⟩
            by_cases hjm : j = m
            · right; subst hjm; rw [hgs j hml] at e; exact (Option.some.inj e).symm
            · exact .inl ⟨j, by omega, e⟩
      · rw [if_neg hk, List.append_nil]
        refine ⟨h1, fun x => ?_⟩
        rw [h2 x]
        constructor
        · rintro ⟨j, hj, e⟩; exact ⟨j, by omega, e⟩
        · rintro ⟨j, hj, e⟩
          by_cases hjm : j = m
          · subst hjm
            have hk2 : ¬ (j = 0 ∨ l.toArray[j]! ≠ l.toArray[j - 1]!) := fun h => hk (decide_eq_true h)
            have h0 : j ≠ 0 := fun h => hk2 (.inl h)
            have he : l.toArray[j]! = l.toArray[j - 1]! := Classical.byContradiction fun h => hk2 (.inr h)
            refine ⟨j - 1, by omega, ?_⟩
            rw [hgs (j - 1) (by omega), ← he, ← hgs j hml]; exact e
          · exact ⟨j, by omega, e⟩
  obtain ⟨h1, h2⟩ := key l.length (Nat.le_refl _)
  refine ⟨h1, fun x => ?_⟩
  have h3 := h2 x
  unfold Lib.compact
  rw [h3]
  constructor
  · rintro ⟨j, _, e⟩; exact List.mem_of_getElem? e
  · intro hx
    obtain ⟨j, e⟩ := List.getElem?_of_mem hx
    exact ⟨j, (List.getElem?_eq_some_iff.1 e).1, e⟩

/-! ### Keys, numbers -/
theorem lt_trans {how : Int} {a b c : ByteArray} (h1 : ltK how a b) (h2 : ltK how b c) : ltK how a c := lt_of_lt_le h1 (lt_le h2)
theorem sortK_sorted (how : Int) (l : List ByteArray) : (sortK how l).Pairwise (leK how) := by
  have h := List.pairwise_mergeSort (le := fun x y => decide (leK how x y)) (fun a b c h1 h2 => by simp only [decide_eq_true_eq] at *; exact le_trans h1 h2)
    (fun a b => by simp only [Bool.or_eq_true, decide_eq_true_eq]; exact le_total how a b) l
  exact h.imp (fun h => of_decide_eq_true h)
theorem sortK_mem (how : Int) (l : List ByteArray) (x : ByteArray) : x ∈ sortK how l ↔ x ∈ l := List.mem_mergeSort
theorem sortN_sorted (l : List Int) : (sortN l).Pairwise (fun x y => y ≤ x) := by
  have h := List.pairwise_mergeSort (le := fun (x y : Int) => decide (y ≤ x)) (fun a b c h1 h2 => by simp only [decide_eq_true_eq] at *; omega)
    (fun a b => by simp only [Bool.or_eq_true, decide_eq_true_eq]; omega) l
  exact h.imp (fun h => of_decide_eq_true h)
theorem sortN_mem (l : List Int) (x : Int) : x ∈ sortN l ↔ x ∈ l := List.mem_mergeSort
/-- keys in order, each once -/
def Inc (how : Int) (l : List ByteArray) : Prop := l.Pairwise (ltK how)
/-- numbers, falling, each once -/
def Dec (l : List Int) : Prop := l.Pairwise (fun x y => y < x)
theorem inc_eq {how : Int} {a b : List ByteArray} (ha : Inc how a) (hb : Inc how b) (h : ∀ x, x ∈ a ↔ x ∈ b) : a = b :=
  sorted_eq (fun _ => lt_irrefl) (fun _ _ _ => lt_trans) a b ha hb h
theorem dec_eq {a b : List Int} (ha : Dec a) (hb : Dec b) (h : ∀ x, x ∈ a ↔ x ∈ b) : a = b :=
  sorted_eq (lt := fun (x y : Int) => y < x) (fun _ h => by omega) (fun _ _ _ h1 h2 => by omega) a b ha hb h
theorem uniqK_sort (how : Int) (l : List ByteArray) : Inc how (uniqK (sortK how l)) ∧ ∀ x, x ∈ uniqK (sortK how l) ↔ x ∈ l := by
  have hw : ∀ s : ByteArray, (⟨s.data.toList.toArray⟩ : ByteArray) = s := fun s => ba_ext rfl
  have h := compact_sorted (lt := fun (x y : List UInt8) => ltK how ⟨x.toArray⟩ ⟨y.toArray⟩) (fun _ _ _ => lt_trans) ((sortK how l).map fun (s : ByteArray) => s.data.toList) (by
    rw [List.pairwise_map]
    refine (sortK_sorted how l).imp (fun {a b} h => ?_)
    rcases lt_or h with e | e
    · exact .inl (by rw [e])
    · right; rw [hw, hw]; exact e)
  constructor
  · unfold Inc uniqK
    rw [List.pairwise_map]
    exact h.1
  · intro x
    unfold uniqK
    rw [List.mem_map]
    constructor
    · rintro ⟨s, hs, rfl⟩
      obtain ⟨b, hb, rfl⟩ := List.mem_map.1 ((h.2 s).1 hs)
      rw [hw]
      exact (sortK_mem how l b).1 hb
    · intro hx
      exact ⟨x.data.toList, (h.2 _).2 (List.mem_map.2 ⟨x, (sortK_mem how l x).2 hx, rfl⟩), hw x⟩
theorem uniqN_sort (l : List Int) : Dec (Lib.compact (sortN l)) ∧ ∀ x, x ∈ Lib.compact (sortN l) ↔ x ∈ l := by
  have h := compact_sorted (lt := fun (x y : Int) => y < x) (fun _ _ _ h1 h2 => by omega) (sortN l) ((sortN_sorted l).imp (fun {a b} h => by omega))
  exact ⟨h.1, fun x => (h.2 x).trans (sortN_mem l x)⟩
theorem ins_sorted {α : Type} {lt : α → α → Prop} (htr : ∀ x y z, lt x y → lt y z → lt x z) (l : List α) (s : α) (i : Nat) (hi : i ≤ l.length) (hl : l.Pairwise lt)
    (hlo : ∀ j x, j < i → l[j]? = some x → lt x s) (hhi : ∀ x, l[i]? = some x → lt s x) : ((l.take i ++ [s]) ++ l.drop i).Pairwise lt ∧ ∀ x, x ∈ (l.take i ++ [s]) ++ l.drop i ↔ x ∈ l ∨ x = s := by
  have hlo2 : ∀ x, x ∈ l.take i → lt x s := fun x hx => by
    obtain ⟨j, hj⟩ := List.getElem?_of_mem hx
    rw [List.getElem?_take] at hj
    split at hj
    · exact hlo j x (by assumption) hj
    · cases hj
  have hhi2 : ∀ x, x ∈ l.drop i → lt s x := fun x hx => by
    obtain ⟨j, hj⟩ := List.getElem?_of_mem hx
    rw [List.getElem?_drop] at hj
    by_cases h0 : j = 0
    · subst h0; exact hhi x hj
    · obtain ⟨hlt, hv⟩ := List.getElem?_eq_some_iff.1 hj
      have h1 := List.pairwise_iff_getElem.1 hl i (i + j) (by omega) hlt (by omega)
      rw [hv] at h1
      exact htr _ _ _ (hhi _ (List.getElem?_eq_getElem (by omega))) h1
  constructor
  · rw [List.pairwise_append, List.pairwise_append]
    refine ⟨⟨hl.sublist (List.take_sublist _ _), by simp, fun a ha b hb => ?_⟩, hl.sublist (List.drop_sublist _ _), fun a ha b hb => ?_⟩
    · rw [List.mem_singleton] at hb; subst hb; exact hlo2 a ha
    · rcases List.mem_append.1 ha with h | h
      · exact htr _ _ _ (hlo2 a h) (hhi2 b hb)
      · rw [List.mem_singleton] at h; subst h; exact hhi2 b hb
  · intro x
    have hm : x ∈ l ↔ x ∈ l.take i ∨ x ∈ l.drop i := by rw [← List.mem_append, List.take_append_drop]
    rw [List.mem_append, List.mem_append, List.mem_singleton, hm]
    constructor
    · rintro ((h | h) | h)
      · exact .inl (.inl h)
      · exact .inr h
      · exact .inl (.inr h)
    · rintro ((h | h) | h)
      · exact .inl (.inl h)
      · exact .inr h
      · exact .inl (.inr h)
def chk1 (t : Tomb) : Int := if t.s > 72057594037927935 then 1 else if (t.b.size : Int) > 1024 then 2 else if (t.e.size : Int) > 1024 then 2 else 0
def chkL : List Tomb → Int
  | [] => 0
  | t :: r => if chk1 t = 0 then chkL r else chk1 t
def chk (how : Int) (l : List Tomb) : Int := if how = 0 ∨ how = 1 then (if (l.length : Int) > 1024 then 2 else chkL l) else 1
theorem chk_ok {how : Int} (h : how = 0 ∨ how = 1) (l : List Tomb) : chk how l = (if (l.length : Int) > 1024 then 2 else chkL l) := by unfold chk; rw [if_pos h]
theorem chk_arg {how : Int} (h : ¬ (how = 0 ∨ how = 1)) (l : List Tomb) : chk how l = 1 := by unfold chk; rw [if_neg h]
def cuts1 (how : Int) (t : Tomb) : List ByteArray := if ltK how t.b t.e then [t.b, t.e] else []
def cutsOf (how : Int) (l : List Tomb) : List ByteArray := l.flatMap (cuts1 how)
def liveOf (how : Int) (l : List Tomb) : List Tomb := l.filter fun t => decide (ltK how t.b t.e)
def inB (how : Int) (b e : ByteArray) (t : Tomb) : Bool := decide (leK how t.b b) && decide (leK how e t.e)
def numsOf (how : Int) (L : List Tomb) (b e : ByteArray) : List Int := (L.filter (inB how b e)).map fun t => t.s
def seqsOf (how : Int) (L : List Tomb) (b e : ByteArray) : List Int := Lib.compact (sortN (numsOf how L b e))
def fr1 (how : Int) (L : List Tomb) (b e : ByteArray) : List Fragm := if seqsOf how L b e = [] then [] else [⟨b, e, seqsOf how L b e⟩]
def kAt (E : List ByteArray) (i : Nat) : ByteArray := E.getD i ByteArray.empty
def frN (how : Int) (L : List Tomb) (E : List ByteArray) (m : Nat) : List Fragm := (List.range m).flatMap fun j => fr1 how L (kAt E j) (kAt E (j + 1))
def endsOf (how : Int) (l : List Tomb) : List ByteArray := uniqK (sortK how (cutsOf how l))
def fragL (how : Int) (l : List Tomb) : List Fragm := frN how (liveOf how l) (endsOf how l) ((endsOf how l).length - 1)
theorem frN_succ (how : Int) (L : List Tomb) (E : List ByteArray) (m : Nat) : frN how L E (m + 1) = frN how L E m ++ fr1 how L (kAt E m) (kAt E (m + 1)) := by
  unfold frN
  rw [List.range_succ, List.flatMap_append]
  simp
theorem kAt_get {E : List ByteArray} {i : Nat} (h : i < E.length) : kAt E i = E[i] := by
  unfold kAt
  rw [List.getD_eq_getElem?_getD, List.getElem?_eq_getElem h]; rfl
theorem ends_inc (how : Int) (l : List Tomb) : Inc how (endsOf how l) := (uniqK_sort how _).1
theorem ends_mem (how : Int) (l : List Tomb) (x : ByteArray) : x ∈ endsOf how l ↔ ∃ t, t ∈ l ∧ ltK how t.b t.e ∧ (x = t.b ∨ x = t.e) := by
  unfold endsOf
  rw [(uniqK_sort how _).2 x]
  unfold cutsOf
  rw [List.mem_flatMap]
  constructor
  · rintro ⟨t, ht, hx⟩
    unfold cuts1 at hx
    split at hx
    · rename_i h
      exact ⟨t, ht, h, by simpa using hx⟩
    · cases hx
  · rintro ⟨t, ht, h, hx⟩
    exact ⟨t, ht, by unfold cuts1; rw [if_pos h]; simpa using hx⟩
theorem seqs_dec (how : Int) (L : List Tomb) (b e : ByteArray) : Dec (seqsOf how L b e) := (uniqN_sort _).1
theorem seqs_mem (how : Int) (L : List Tomb) (b e : ByteArray) (n : Int) : n ∈ seqsOf how L b e ↔ ∃ t, t ∈ L ∧ leK how t.b b ∧ leK how e t.e ∧ n = t.s := by
  unfold seqsOf
  rw [(uniqN_sort _).2 n]
  unfold numsOf inB
  rw [List.mem_map]
  constructor
  · rintro ⟨t, ht, rfl⟩
    rw [List.mem_filter] at ht
    simp only [Bool.and_eq_true, decide_eq_true_eq] at ht
    exact ⟨t, ht.1, ht.2.1, ht.2.2, rfl⟩
  · rintro ⟨t, ht, h1, h2, rfl⟩
    exact ⟨t, by rw [List.mem_filter]; simp only [Bool.and_eq_true, decide_eq_true_eq]; exact ⟨ht, h1, h2⟩, rfl⟩
/-- between two ends that follow each other lies no end -/
theorem ends_next {how : Int} {E : List ByteArray} (hE : Inc how E) {i : Nat} (h : i + 1 < E.length) {x : ByteArray} (hx : x ∈ E) : leK how x (kAt E i) ∨ leK how (kAt E (i + 1)) x := by
  obtain ⟨j, hj⟩ := List.getElem?_of_mem hx
  obtain ⟨hjl, hv⟩ := List.getElem?_eq_some_iff.1 hj
  rw [kAt_get (by omega : i < E.length), kAt_get h, ← hv]
  rcases Nat.lt_trichotomy j i with h1 | h1 | h1
  · exact .inl (lt_le (List.pairwise_iff_getElem.1 hE j i (by omega) (by omega) h1))
  · subst h1; exact .inl (le_refl _ _)
  · by_cases h2 : j = i + 1
    · subst h2; exact .inr (le_refl _ _)
    · exact .inr (lt_le (List.pairwise_iff_getElem.1 hE (i + 1) j (by omega) (by omega) (by omega)))
theorem kAt_lt {how : Int} {E : List ByteArray} (hE : Inc how E) {i : Nat} (h : i + 1 < E.length) : ltK how (kAt E i) (kAt E (i + 1)) := by
  rw [kAt_get (by omega : i < E.length), kAt_get h]
  exact List.pairwise_iff_getElem.1 hE i (i + 1) (by omega) (by omega) (by omega)
/-- a tombstone lies over a key -/
def over (how : Int) (t : Tomb) (x : ByteArray) : Prop := leK how t.b x ∧ ltK how x t.e
instance (how : Int) (t : Tomb) (x : ByteArray) : Decidable (over how t x) := inferInstanceAs (Decidable (_ ∧ _))
theorem over_in {how : Int} {l : List Tomb} {i : Nat} (h : i + 1 < (endsOf how l).length) {t : Tomb} (ht : t ∈ l) : over how t (kAt (endsOf how l) i) ↔ t ∈ liveOf how l ∧ inB how (kAt (endsOf how l) i) (kAt (endsOf how l) (i + 1)) t = true := by
  have hE := ends_inc how l
  unfold liveOf inB over
  rw [List.mem_filter, decide_eq_true_eq, Bool.and_eq_true, decide_eq_true_eq, decide_eq_true_eq]
  constructor
  · rintro ⟨h1, h2⟩
    have hlt : ltK how t.b t.e := lt_of_le_lt h1 h2
    refine ⟨⟨ht, hlt⟩, h1, ?_⟩
    have hm : t.e ∈ endsOf how l := (ends_mem how l _).2 ⟨t, ht, hlt, .inr rfl⟩
    rcases ends_next hE h hm with h3 | h3
    · exact absurd h2 (not_lt.2 h3)
    · exact h3
  · rintro ⟨⟨_, hlt⟩, h1, h2⟩
    exact ⟨h1, lt_of_lt_le (kAt_lt hE h) h2⟩
theorem chkL_at {l : List Tomb} {k : Nat} (h : k < l.length) : chkL (l.drop k) = if chk1 l[k] = 0 then chkL (l.drop (k + 1)) else chk1 l[k] := by
  rw [List.drop_eq_getElem_cons h, chkL]
theorem take_next {α : Type} {l : List α} {k : Nat} (h : k < l.length) : l.take (k + 1) = l.take k ++ [l[k]] := by
  rw [List.take_add_one, List.getElem?_eq_getElem h]; rfl
theorem cuts_next {l : List Tomb} {k : Nat} (how : Int) (h : k < l.length) : cutsOf how (l.take (k + 1)) = cutsOf how (l.take k) ++ cuts1 how l[k] := by
  unfold cutsOf; rw [take_next h, List.flatMap_append]; simp
theorem live_next {l : List Tomb} {k : Nat} (how : Int) (h : k < l.length) : liveOf how (l.take (k + 1)) = liveOf how (l.take k) ++ (if ltK how l[k].b l[k].e then [l[k]] else []) := by
  unfold liveOf
  rw [take_next h, List.filter_append]
  congr 1
  by_cases hc : ltK how l[k].b l[k].e <;> simp [hc]
theorem cuts_len (how : Int) (l : List Tomb) : (cutsOf how l).length ≤ 2 * l.length := by
  induction l with
  | nil => simp [cutsOf]
  | cons t l ih =>
    have : cutsOf how (t :: l) = cuts1 how t ++ cutsOf how l := by unfold cutsOf; rw [List.flatMap_cons]
    have h2 : (cuts1 how t).length ≤ 2 := by unfold cuts1; split <;> simp
    rw [this, List.length_append, List.length_cons]; omega
theorem live_len (how : Int) (l : List Tomb) : (liveOf how l).length ≤ l.length := List.length_filter_le _ _
theorem nums_next {L : List Tomb} {j : Nat} (how : Int) (b e : ByteArray) (h : j < L.length) : numsOf how (L.take (j + 1)) b e = numsOf how (L.take j) b e ++ (if inB how b e L[j] = true then [L[j].s] else []) := by
  unfold numsOf
  rw [take_next h, List.filter_append, List.map_append]
  congr 1
  by_cases hc : inB how b e L[j] = true <;> simp [hc]
theorem nums_len (how : Int) (L : List Tomb) (b e : ByteArray) : (numsOf how L b e).length ≤ L.length := by
  unfold numsOf; rw [List.length_map]; exact List.length_filter_le _ _
theorem compact_len' {α : Type} [Inhabited α] [DecidableEq α] (l : List α) : (Lib.compact l).length ≤ l.length := compact_len l
theorem ends_len (how : Int) (l : List Tomb) : (endsOf how l).length ≤ 2 * l.length := by
  unfold endsOf uniqK
  rw [List.length_map]
  refine Nat.le_trans (compact_len _) ?_
  rw [List.length_map]
  have : (sortK how (cutsOf how l)).length = (cutsOf how l).length := by simp [sortK]
  rw [this]
  exact cuts_len how l
theorem chk_len {how : Int} {l : List Tomb} (h : chk how l = 0) : l.length ≤ 1024 := by
  unfold chk at h
  split at h
  · split at h
    · cases h
    · omega
  · cases h
end Go.Proofs.Ytbfejlmamncemaa.Sk
