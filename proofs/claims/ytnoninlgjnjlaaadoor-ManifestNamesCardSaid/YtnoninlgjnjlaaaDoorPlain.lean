/- The names of numbers: padded decimal numerals, read back: the plain law. No condition. -/
import Derived.Lib.ItoaNum
import Derived.Lib.ParseIntB
namespace Go.Proofs.YtnoninlgjnjlaaaDoor
set_option linter.unusedVariables false
set_option linter.unusedSimpArgs false
open Go Go.Lib

/-- A number's digits, six at the least. -/
def padL (u : Nat) : List UInt8 := List.replicate (6 - (decDigits u).length) 48 ++ decDigits u
def isDig (c : UInt8) : Prop := 48 ≤ c.toNat ∧ c.toNat ≤ 57
theorem digit_of (d : Nat) (h : d < 10) : isDig (UInt8.ofNat (48 + d)) ∧ (UInt8.ofNat (48 + d)).toNat = 48 + d := by
  have e : (UInt8.ofNat (48 + d)).toNat = 48 + d := by rw [UInt8.toNat_ofNat']; omega
  exact ⟨⟨by omega, by omega⟩, e⟩
theorem dec_small {u : Nat} (h : u < 10) : decDigits u = [UInt8.ofNat (48 + u)] := by rw [decDigits, dif_pos h]
theorem dec_big {u : Nat} (h : ¬ u < 10) : decDigits u = decDigits (u / 10) ++ [UInt8.ofNat (48 + u % 10)] := by rw [decDigits, dif_neg h]
theorem dec_dig (u : Nat) : ∀ c ∈ decDigits u, isDig c := by
  induction u using Nat.strongRecOn with
  | _ u ih =>
    by_cases h : u < 10
    · rw [dec_small h]; intro c hc; rw [List.mem_singleton.1 hc]; exact (digit_of u h).1
    · rw [dec_big h]; intro c hc
      rcases List.mem_append.1 hc with h1 | h1
      · exact ih (u / 10) (by omega) c h1
      · rw [List.mem_singleton.1 h1]; exact (digit_of (u % 10) (by omega)).1
theorem pad_dig (u : Nat) : ∀ c ∈ padL u, isDig c := by
  intro c hc
  rcases List.mem_append.1 hc with h | h
  · rw [(List.mem_replicate.1 h).2]; exact ⟨by decide, by decide⟩
  · exact dec_dig u c h
/-- what digits spell -/
def val (a : Nat) (l : List UInt8) : Nat := l.foldl (fun a c => a * 10 + (c.toNat - 48)) a
theorem val_append (a : Nat) (l r : List UInt8) : val a (l ++ r) = val (val a l) r := by unfold val; rw [List.foldl_append]
theorem val_dec (u : Nat) : val 0 (decDigits u) = u := by
  induction u using Nat.strongRecOn with
  | _ u ih =>
    by_cases h : u < 10
    · rw [dec_small h]; unfold val; simp only [List.foldl_cons, List.foldl_nil]; rw [(digit_of u h).2]; omega
    · rw [dec_big h, val_append, ih (u / 10) (by omega)]
      unfold val; simp only [List.foldl_cons, List.foldl_nil]; rw [(digit_of (u % 10) (by omega)).2]; omega
theorem val_zeros (k : Nat) : val 0 (List.replicate k 48) = 0 := by
  induction k with
  | zero => rfl
  | succ k ih => rw [List.replicate_succ]; exact ih
theorem val_pad (u : Nat) : val 0 (padL u) = u := by unfold padL; rw [val_append, val_zeros, val_dec]
theorem val_ge (l : List UInt8) : ∀ a, a ≤ val a l := by
  induction l with
  | nil => intro a; exact Nat.le_refl _
  | cons c r ih =>
    intro a
    have h := ih (a * 10 + (c.toNat - 48))
    have e : val a (c :: r) = val (a * 10 + (c.toNat - 48)) r := rfl
    omega
theorem parse_dig (l : List UInt8) (hl : ∀ c ∈ l, isDig c) : ∀ a, val a l ≤ 18446744073709551615 → parseUintM (2 ^ 64 - 1) a l = .ok (val a l) := by
  induction l with
  | nil => intro a _; rfl
  | cons c r ih =>
    intro a ha
    have hc : 48 ≤ c.toNat ∧ c.toNat ≤ 57 := hl c List.mem_cons_self
    have hv := val_ge r (a * 10 + (c.toNat - 48))
    have hv2 : val a (c :: r) = val (a * 10 + (c.toNat - 48)) r := rfl
    have hM : ¬ 2 ^ 64 - 1 < a * 10 + (c.toNat - 48) := by
      have : (2 : Nat) ^ 64 = 18446744073709551616 := by decide
      omega
    rw [parseUintM, if_pos hc, if_neg (by omega), if_neg hM, ih (fun d hd => hl d (List.mem_cons_of_mem _ hd)) _ (by omega)]
    rfl
theorem dec_ne (u : Nat) : decDigits u ≠ [] := by
  by_cases h : u < 10
  · rw [dec_small h]; simp
  · rw [dec_big h]; simp
theorem parse_pad (u : Nat) (h : u < 18446744073709551616) : parseUintB 64 (padL u) = .ok u := by
  unfold parseUintB
  rw [if_neg (by unfold padL; simp [dec_ne u]), parse_dig _ (pad_dig u) 0 (by rw [val_pad]; omega), val_pad]

/-! ### The reference's own loop: digits are put ahead, one by one -/
/-- what is still to be put ahead of s, where n is left -/
def restL (n : Nat) (s : List UInt8) : List UInt8 := if n = 0 then List.replicate (6 - s.length) 48 ++ s else List.replicate (6 - ((decDigits n).length + s.length)) 48 ++ (decDigits n ++ s)
theorem rest_start (u : Nat) : restL u [] = padL u := by
  unfold restL padL
  by_cases h : u = 0
  · subst h
    rw [if_pos rfl, dec_small (by omega)]; rfl
  · rw [if_neg h]; simp
theorem rest_step {n : Nat} {s : List UInt8} (h : 0 < n ∨ s.length < 6) : restL (n / 10) (UInt8.ofNat (48 + n % 10) :: s) = restL n s := by
  unfold restL
  by_cases h0 : n = 0
  · subst h0
    have hs : s.length < 6 := by omega
    rw [if_pos rfl, if_pos rfl, List.length_cons, show 6 - s.length = (6 - (s.length + 1)) + 1 by omega, List.replicate_succ']
    rw [List.append_assoc]; rfl
  · rw [if_neg h0]
    by_cases h1 : n < 10
    · rw [if_pos (by omega), dec_small h1, Nat.mod_eq_of_lt h1, List.length_cons, List.length_singleton, Nat.add_comm]; rfl
    · rw [if_neg (by omega), dec_big h1, List.length_append, List.length_cons, List.length_singleton]
      rw [show (decDigits (n / 10)).length + (s.length + 1) = (decDigits (n / 10)).length + 1 + s.length by omega, List.append_assoc (decDigits (n / 10))]; rfl
theorem rest_end {s : List UInt8} (h : 6 ≤ s.length) : restL 0 s = s := by
  unfold restL; rw [if_pos rfl, show 6 - s.length = 0 by omega]; rfl
theorem rest_len {n : Nat} {s : List UInt8} : s.length ≤ (restL n s).length := by
  unfold restL; split <;> simp <;> omega
theorem dec_len (u : Nat) (h : u < 18446744073709551616) : (decDigits u).length ≤ 20 := by
  rw [decDigits_length]
  by_cases h0 : u = 0
  · subst h0; rw [nDigits_small (by omega)]; omega
  · have := numDigits_eq u (by omega) h
    split at this <;> omega
theorem pad_len (u : Nat) (h : u < 18446744073709551616) : 6 ≤ (padL u).length ∧ (padL u).length ≤ 20 := by
  have := dec_len u h
  unfold padL
  rw [List.length_append, List.length_replicate]; omega

/-! ### A name, and its number -/
/-- the number that a name has -/
noncomputable def numOf (pre suf : List UInt8) (s : List UInt8) : Nat × Bool :=
  open Classical in if h : ∃ u, u < 18446744073709551616 ∧ s = pre ++ (padL u ++ suf) then (Classical.choose h, true) else (0, false)
theorem numOf_yes {pre suf : List UInt8} (hsuf : suf = [] ∨ ∃ c r, suf = c :: r ∧ ¬ isDig c) {u : Nat} (hu : u < 18446744073709551616) : numOf pre suf (pre ++ (padL u ++ suf)) = (u, true) := by
  have h : ∃ v, v < 18446744073709551616 ∧ pre ++ (padL u ++ suf) = pre ++ (padL v ++ suf) := ⟨u, hu, rfl⟩
  unfold numOf
  rw [dif_pos h]
  obtain ⟨h1, h2⟩ := Classical.choose_spec h
  have h3 := List.append_cancel_left h2
  have h4 := List.append_cancel_right h3
  have h5 := congrArg (val 0) h4
  rw [val_pad, val_pad] at h5
  rw [← h5]
theorem numOf_no {pre suf s : List UInt8} (h : ∀ u, u < 18446744073709551616 → s ≠ pre ++ (padL u ++ suf)) : numOf pre suf s = (0, false) := by
  unfold numOf
  rw [dif_neg]
  rintro ⟨u, hu, e⟩
  exact h u hu e
end Go.Proofs.YtnoninlgjnjlaaaDoor
