/- What fragments are: plain laws; the law's own example. No condition. -/
import Derived.Test.YtbfejlmamncemaaRg
namespace Go.Proofs.Ytbfejlmamncemaa.Sk
open Go Go.RowKit Go.Proofs
set_option linter.unusedVariables false

theorem kAt_le {how : Int} {E : List ByteArray} (hE : Inc how E) {i j : Nat} (hij : i ≤ j) (hj : j < E.length) : leK how (kAt E i) (kAt E j) := by
  by_cases e : i = j
  · rw [e]; exact le_refl _ _
  · rw [kAt_get (by omega : i < E.length), kAt_get hj]
    exact lt_le (List.pairwise_iff_getElem.1 hE _ _ _ hj (by omega))
theorem seqs_len (how : Int) (L : List Tomb) (b e : ByteArray) : (seqsOf how L b e).length ≤ L.length := by
  have h1 := compact_len (sortN (numsOf how L b e))
  have h2 : (sortN (numsOf how L b e)).length = (numsOf how L b e).length := by simp [sortN]
  have h3 := nums_len how L b e
  unfold seqsOf
  omega
theorem frag_all {how : Int} {L : List Tomb} {E : List ByteArray} (hE : Inc how E) : ∀ m, m + 1 ≤ E.length → (frN how L E m).Pairwise (fun x y => leK how x.e y.b) ∧
    ∀ x, x ∈ frN how L E m → ltK how x.b x.e ∧ leK how x.e (kAt E m) ∧ x.q ≠ [] ∧ x.q = seqsOf how L x.b x.e := by
  intro m
  induction m with
  | zero => intro _; exact ⟨List.Pairwise.nil, fun x hx => by simp [frN] at hx⟩
  | succ m ih =>
    intro hm
    obtain ⟨h1, h2⟩ := ih (by omega)
    have hlt := kAt_lt hE (i := m) hm
    have hf : ∀ x, x ∈ fr1 how L (kAt E m) (kAt E (m + 1)) → x.b = kAt E m ∧ x.e = kAt E (m + 1) ∧ x.q ≠ [] ∧ x.q = seqsOf how L x.b x.e := by
      intro x hx
      unfold fr1 at hx
      split at hx
      · cases hx
      · rw [List.mem_singleton] at hx
        subst hx
        exact ⟨rfl, rfl, ‹_›, rfl⟩
    rw [frN_succ]
    refine ⟨List.pairwise_append.2 ⟨h1, ?_, fun x hx y hy => ?_⟩, fun x hx => ?_⟩
    · unfold fr1
      split
      · exact List.Pairwise.nil
      · exact List.pairwise_singleton _ _
    · rw [(hf y hy).1]; exact (h2 x hx).2.1
    · rcases List.mem_append.1 hx with hx | hx
      · obtain ⟨g1, g2, g3, g4⟩ := h2 x hx
        exact ⟨g1, le_trans g2 (lt_le hlt), g3, g4⟩
      · obtain ⟨g1, g2, g3, g4⟩ := hf x hx
        refine ⟨by rw [g1, g2]; exact hlt, by rw [g2]; exact le_refl _ _, g3, g4⟩
theorem frag_at {how : Int} {L : List Tomb} {E : List ByteArray} {j m : Nat} (h : j < m) (hq : seqsOf how L (kAt E j) (kAt E (j + 1)) ≠ []) :
    ⟨kAt E j, kAt E (j + 1), seqsOf how L (kAt E j) (kAt E (j + 1))⟩ ∈ frN how L E m := by
  unfold frN
  refine List.mem_flatMap.2 ⟨j, List.mem_range.2 h, ?_⟩
  unfold fr1
  rw [if_neg hq]
  exact List.mem_singleton_self _
/-- what Split hands back -/
theorem split_all (how : Int) (l : List Tomb) : (splitF how l).Pairwise (fun x y => leK how x.e y.b) ∧
    ∀ x, x ∈ splitF how l → ltK how x.b x.e ∧ x.q ≠ [] ∧ x.q = seqsOf how (liveOf how l) x.b x.e := by
  unfold splitF
  split
  · unfold fragL
    by_cases h : 1 ≤ (endsOf how l).length
    · obtain ⟨h1, h2⟩ := frag_all (L := liveOf how l) (ends_inc how l) ((endsOf how l).length - 1) (by omega)
      exact ⟨h1, fun x hx => ⟨(h2 x hx).1, (h2 x hx).2.2⟩⟩
    · rw [show (endsOf how l).length - 1 = 0 by omega]
      exact ⟨List.Pairwise.nil, fun x hx => by simp [frN] at hx⟩
  · exact ⟨List.Pairwise.nil, fun x hx => by simp at hx⟩
theorem split_len (how : Int) (l : List Tomb) : (splitF how l).length ≤ 2048 := by
  unfold splitF
  split
  · have h1 := frN_len how (liveOf how l) (endsOf how l) ((endsOf how l).length - 1)
    have h2 := ends_len how l
    have h3 := chk_len ‹_›
    unfold fragL
    omega
  · exact Nat.zero_le _
theorem split_ok (how : Int) (l : List Tomb) : FOk how (splitF how l) := by
  obtain ⟨h1, h2⟩ := split_all how l
  refine ⟨?_, split_len how l, fun x hx => by rw [(h2 x hx).2.2]; exact seqs_dec _ _ _ _, fun x hx => ?_⟩
  · exact h1.imp_of_mem fun {x y} _ hy h => le_trans h (lt_le (h2 y hy).1)
  · rw [(h2 x hx).2.2]
    refine Nat.le_trans (seqs_len _ _ _ _) (Nat.le_trans (live_len _ _) ?_)
    by_cases hc : chk how l = 0
    · have := chk_len hc; omega
    · unfold splitF at hx; rw [if_neg hc] at hx; cases hx

theorem gap {how : Int} {E : List ByteArray} {key : ByteArray} (p : Nat) : ∀ d, p + d < E.length → leK how (kAt E p) key → ltK how key (kAt E (p + d)) → ∃ j, j + 1 < E.length ∧ leK how (kAt E j) key ∧ ltK how key (kAt E (j + 1)) := by
  intro d
  induction d with
  | zero => intro _ h1 h2; exact absurd h1 (not_le.2 h2)
  | succ d ih =>
    intro h h1 h2
    by_cases h3 : ltK how key (kAt E (p + d))
    · exact ih (by omega) h1 h3
    · exact ⟨p + d, h, not_lt.1 h3, h2⟩
/-- fragments lie over just the keys over which tombstones lie -/
theorem in_over {how : Int} {l : List Tomb} (hc : chk how l = 0) (key : ByteArray) : (∃ x, x ∈ splitF how l ∧ leK how x.b key ∧ ltK how key x.e) ↔ ∃ t, t ∈ l ∧ leK how t.b key ∧ ltK how key t.e := by
  constructor
  · rintro ⟨x, hx, h1, h2⟩
    obtain ⟨_, g2, g3⟩ := (split_all how l).2 x hx
    cases hq : x.q with
    | nil => exact absurd hq g2
    | cons n r =>
      have hn : n ∈ seqsOf how (liveOf how l) x.b x.e := by rw [← g3, hq]; exact List.mem_cons_self ..
      obtain ⟨t, ht, k1, k2, _⟩ := (seqs_mem _ _ _ _ _).1 hn
      exact ⟨t, (List.mem_filter.1 ht).1, le_trans k1 h1, lt_of_lt_le h2 k2⟩
  · rintro ⟨t, ht, h1, h2⟩
    have hlive : ltK how t.b t.e := lt_of_le_lt h1 h2
    have hE := ends_inc how l
    have hb : t.b ∈ endsOf how l := (ends_mem _ _ _).2 ⟨t, ht, hlive, .inl rfl⟩
    have he : t.e ∈ endsOf how l := (ends_mem _ _ _).2 ⟨t, ht, hlive, .inr rfl⟩
    obtain ⟨p, hp, ep⟩ := List.mem_iff_getElem.1 hb
    obtain ⟨q, hq, eq⟩ := List.mem_iff_getElem.1 he
    rw [← kAt_get hp] at ep
    rw [← kAt_get hq] at eq
    have hpq : p ≤ q := by
      by_cases h : p ≤ q
      · exact h
      · have := kAt_le hE (i := q) (j := p) (by omega) hp
        rw [ep, eq] at this
        exact absurd this (not_le.2 hlive)
    obtain ⟨j, hj, j1, j2⟩ := gap (how := how) (E := endsOf how l) (key := key) p (q - p) (by omega) (by rw [ep]; exact h1) (by rw [show p + (q - p) = q by omega, eq]; exact h2)
    have k1 : leK how t.b (kAt (endsOf how l) j) := by
      rcases ends_next hE hj hb with h | h
      · exact h
      · exact absurd (le_trans h h1) (not_le.2 j2)
    have k2 : leK how (kAt (endsOf how l) (j + 1)) t.e := by
      rcases ends_next hE hj he with h | h
      · exact absurd (le_trans h j1) (not_le.2 h2)
      · exact h
    have hn : t.s ∈ seqsOf how (liveOf how l) (kAt (endsOf how l) j) (kAt (endsOf how l) (j + 1)) := (seqs_mem _ _ _ _ _).2 ⟨t, List.mem_filter.2 ⟨ht, decide_eq_true hlive⟩, k1, k2, rfl⟩
    have hmem : (⟨kAt (endsOf how l) j, kAt (endsOf how l) (j + 1), seqsOf how (liveOf how l) (kAt (endsOf how l) j) (kAt (endsOf how l) (j + 1))⟩ : Fragm) ∈ splitF how l := by
      unfold splitF fragL
      rw [if_pos hc]
      exact frag_at (by omega) (fun h => by rw [h] at hn; cases hn)
    exact ⟨_, hmem, j1, j2⟩
end Go.Proofs.Ytbfejlmamncemaa.Sk
