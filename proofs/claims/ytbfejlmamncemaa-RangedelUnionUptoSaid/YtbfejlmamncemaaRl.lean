/- The numbers over a key and the greatest that one sees: plain laws. No condition. -/
import Derived.Test.YtbfejlmamncemaaRk
namespace Go.Proofs.Ytbfejlmamncemaa.Sk
open Go Go.RowKit Go.Proofs
set_option linter.unusedVariables false

theorem split_gap {how : Int} {l : List Tomb} {x : Fragm} (h : x ∈ splitF how l) : chk how l = 0 ∧ ∃ j, j + 1 < (endsOf how l).length ∧ x.b = kAt (endsOf how l) j ∧ x.e = kAt (endsOf how l) (j + 1) := by
  unfold splitF at h
  split at h
  · refine ⟨‹_›, ?_⟩
    unfold fragL frN at h
    obtain ⟨j, hj, hx⟩ := List.mem_flatMap.1 h
    rw [List.mem_range] at hj
    unfold fr1 at hx
    split at hx
    · cases hx
    · rw [List.mem_singleton] at hx
      subst hx
      exact ⟨j, by omega, rfl, rfl⟩
  · cases h
theorem split_one {how : Int} {l : List Tomb} {x y : Fragm} {key : ByteArray} (hx : x ∈ splitF how l) (h1 : leK how x.b key) (h2 : ltK how key x.e) (n : Int) : n ∈ x.q ↔ ∃ t, t ∈ l ∧ leK how t.b key ∧ ltK how key t.e ∧ n = t.s := by
  obtain ⟨_, j, hj, e1, e2⟩ := split_gap hx
  obtain ⟨_, _, e3⟩ := (split_all how l).2 x hx
  rw [e3, seqs_mem]
  constructor
  · rintro ⟨t, ht, g1, g2, rfl⟩
    exact ⟨t, (List.mem_filter.1 ht).1, le_trans g1 h1, lt_of_lt_le h2 g2, rfl⟩
  · rintro ⟨t, ht, g1, g2, rfl⟩
    have hlive : ltK how t.b t.e := lt_of_le_lt g1 g2
    have hb : t.b ∈ endsOf how l := (ends_mem _ _ _).2 ⟨t, ht, hlive, .inl rfl⟩
    have he : t.e ∈ endsOf how l := (ends_mem _ _ _).2 ⟨t, ht, hlive, .inr rfl⟩
    refine ⟨t, List.mem_filter.2 ⟨ht, decide_eq_true hlive⟩, ?_, ?_, rfl⟩
    · rcases ends_next (ends_inc how l) hj hb with h | h
      · rw [e1]; exact h
      · rw [← e2] at h
        exact absurd (le_trans h g1) (not_le.2 h2)
    · rcases ends_next (ends_inc how l) hj he with h | h
      · rw [← e1] at h
        exact absurd (le_trans h h1) (not_le.2 g2)
      · rw [e2]; exact h
/-- the numbers over a key are those of the tombstones over it -/
theorem over_mem {how : Int} {l : List Tomb} (hc : chk how l = 0) (key : ByteArray) (n : Int) : n ∈ overF how (splitF how l) key ↔ ∃ t, t ∈ l ∧ leK how t.b key ∧ ltK how key t.e ∧ n = t.s := by
  obtain ⟨p1, p2⟩ := split_all how l
  obtain ⟨F, hF⟩ : ∃ F, splitF how l = F := ⟨_, rfl⟩
  have hno : (∀ x, x ∈ splitF how l → leK how x.b key → ltK how key x.e → False) → ((n ∈ ([] : List Int)) ↔ ∃ t, t ∈ l ∧ leK how t.b key ∧ ltK how key t.e ∧ n = t.s) := fun h => by
    constructor
    · intro h; cases h
    · rintro ⟨t, ht, g1, g2, _⟩
      obtain ⟨x, hx, k1, k2⟩ := (in_over hc key).2 ⟨t, ht, g1, g2⟩
      exact (h x hx k1 k2).elim
  have hlo := at_lo how (splitF how l) key
  have hat := at_at how (splitF how l) key
  unfold overF
  cases hm : (splitF how l)[atF how (splitF how l) key]? with
  | none =>
    refine hno fun x hx k1 k2 => ?_
    obtain ⟨i, hi, rfl⟩ := List.mem_iff_getElem.1 hx
    have := List.getElem?_eq_none_iff.1 hm
    exact not_le.2 k2 (hlo i hi (by omega))
  | some x =>
    obtain ⟨hlt, rfl⟩ := List.getElem?_eq_some_iff.1 hm
    have hx := List.getElem_mem hlt
    have h2 : ltK how key (splitF how l)[atF how (splitF how l) key].e := not_le.1 (hat hlt)
    simp only
    split
    · rename_i hb
      have hb : ltK how key (splitF how l)[atF how (splitF how l) key].b := by unfold ltK; rw [cmp_neg]; omega
      refine hno fun y hy k1 k2 => ?_
      obtain ⟨i, hi, rfl⟩ := List.mem_iff_getElem.1 hy
      by_cases hi1 : i < atF how (splitF how l) key
      · exact not_le.2 k2 (hlo i hi hi1)
      · by_cases hi2 : i = atF how (splitF how l) key
        · subst hi2; exact not_le.2 hb k1
        · have := List.pairwise_iff_getElem.1 p1 _ _ hlt hi (by omega)
          exact not_le.2 h2 (le_trans this k1)
    · rename_i hb
      exact split_one (y := (splitF how l)[atF how (splitF how l) key]) hx (by unfold leK; omega) h2 n
/-- the greatest that one sees -/
theorem upto_spec {q : List Int} (hq : Dec q) (seq : Int) : (∀ n, n ∈ q → n ≤ seq → n ≤ uptoF q seq) ∧ (uptoF q seq = 0 ∨ (uptoF q seq ∈ q ∧ uptoF q seq ≤ seq)) := by
  have hle := down_le q seq
  have hlo := down_lo q seq
  have hat := down_at q seq
  unfold uptoF
  rw [List.getD_eq_getElem?_getD]
  by_cases h : downN q seq < q.length
  · rw [List.getElem?_eq_getElem h]
    simp only [Option.getD_some]
    refine ⟨fun n hn hs => ?_, .inr ⟨List.getElem_mem _, by have := hat h; omega⟩⟩
    obtain ⟨i, hi, rfl⟩ := List.mem_iff_getElem.1 hn
    by_cases h1 : i < downN q seq
    · have := hlo i hi h1; omega
    · by_cases h2 : i = downN q seq
      · subst h2; exact Int.le_refl _
      · have := List.pairwise_iff_getElem.1 hq _ _ h hi (by omega)
        omega
  · rw [List.getElem?_eq_none (by omega)]
    refine ⟨fun n hn hs => ?_, .inl rfl⟩
    obtain ⟨i, hi, rfl⟩ := List.mem_iff_getElem.1 hn
    have := hlo i hi (by omega)
    omega
structure IsMost (how : Int) (l : List Tomb) (key : ByteArray) (seq M : Int) : Prop where
  ge : ∀ t, t ∈ l → leK how t.b key → ltK how key t.e → t.s ≤ seq → t.s ≤ M
  pos : 0 ≤ M
  is : M = 0 ∨ ∃ t, t ∈ l ∧ leK how t.b key ∧ ltK how key t.e ∧ t.s ≤ seq ∧ M = t.s
theorem most_is {how : Int} {l : List Tomb} (hc : chk how l = 0) (hp : ∀ t, t ∈ l → 0 ≤ t.s) (key : ByteArray) (seq : Int) : IsMost how l key seq (mostF how (splitF how l) key seq) := by
  obtain ⟨h1, h2⟩ := upto_spec (over_dec (split_ok how l) key).1 seq
  have hm := over_mem hc key
  unfold mostF
  refine ⟨fun t ht g1 g2 g3 => h1 _ ((hm _).2 ⟨t, ht, g1, g2, rfl⟩) g3, ?_, ?_⟩
  · rcases h2 with h2 | ⟨h2, _⟩
    · omega
    · obtain ⟨t, ht, _, _, e⟩ := (hm _).1 h2
      rw [e]; exact hp t ht
  · rcases h2 with h2 | ⟨h2, h3⟩
    · exact .inl h2
    · obtain ⟨t, ht, g1, g2, e⟩ := (hm _).1 h2
      exact .inr ⟨t, ht, g1, g2, by omega, e⟩
theorem IsMost.eq {how : Int} {l : List Tomb} {key : ByteArray} {seq M M' : Int} (h : IsMost how l key seq M) (h' : IsMost how l key seq M') : M = M' := by
  have key1 : ∀ {A B : Int}, IsMost how l key seq A → IsMost how l key seq B → A ≤ B := fun {A B} h h' => by
    rcases h.is with e | ⟨t, ht, g1, g2, g3, e⟩
    · have := h'.pos; omega
    · have := h'.ge t ht g1 g2 g3; omega
  have := key1 h h'
  have := key1 h' h
  omega
theorem IsMost.app {how : Int} {l l' : List Tomb} {key : ByteArray} {seq M M' : Int} (h : IsMost how l key seq M) (h' : IsMost how l' key seq M') : IsMost how (l ++ l') key seq (if M < M' then M' else M) := by
  refine ⟨fun t ht g1 g2 g3 => ?_, ?_, ?_⟩
  · rcases List.mem_append.1 ht with ht | ht
    · have := h.ge t ht g1 g2 g3; split <;> omega
    · have := h'.ge t ht g1 g2 g3; split <;> omega
  · have := h.pos; have := h'.pos; split <;> omega
  · split
    · rcases h'.is with e | ⟨t, ht, g⟩
      · exact .inl e
      · exact .inr ⟨t, List.mem_append_right _ ht, g⟩
    · rcases h.is with e | ⟨t, ht, g⟩
      · exact .inl e
      · exact .inr ⟨t, List.mem_append_left _ ht, g⟩
theorem chk_app (how : Int) (a b : List Tomb) : (¬ chk how a = 0 ∨ ¬ chk how b = 0 → ¬ chk how (a ++ b) = 0) ∧ (chk how a = 0 → chk how b = 0 → ¬ chk how (a ++ b) = 0 → (1024 : Int) < (a.length : Int) + (b.length : Int) ∧ chk how (a ++ b) = 2) := by
  have hL : ∀ a b : List Tomb, chkL (a ++ b) = if chkL a = 0 then chkL b else chkL a := by
    intro a b
    induction a with
    | nil => simp [chkL]
    | cons x a ih =>
      have hc : ∀ r : List Tomb, chkL (x :: r) = if chk1 x = 0 then chkL r else chk1 x := fun _ => rfl
      rw [List.cons_append, hc, hc]
      by_cases h : chk1 x = 0
      · rw [if_pos h, if_pos h, ih]
      · rw [if_neg h, if_neg h, if_neg h]
  unfold chk
  rw [hL, List.length_append]
  by_cases hh : how = 0 ∨ how = 1
  · rw [if_pos hh, if_pos hh, if_pos hh]
    constructor
    · intro h
      split at h <;> split at h <;> split <;> (try split) <;> simp_all <;> omega
    · intro h1 h2 h3
      split at h1
      · omega
      · split at h2
        · omega
        · split at h3
          · rw [if_pos ‹_›]; exact ⟨by omega, rfl⟩
          · exact absurd h2 h3
  · rw [if_neg hh, if_neg hh, if_neg hh]
    exact ⟨fun _ => by decide, fun h => by cases h⟩
end Go.Proofs.Ytbfejlmamncemaa.Sk
