/- The references' names and numbers: the plain law of what their walks compute. No condition. -/
import Derived.Test.YtnoninlgjnjlaaaDoorRefA
import Derived.Test.YtnoninlgjnjlaaaDoorRefB
import Derived.Test.YtnoninlgjnjlaaaDoorPlain
import Derived.Lib.EndianBits
import Derived.Lib.Strings
import Derived.Lib.SmallJoins
namespace Go.Proofs.YtnoninlgjnjlaaaDoor
set_option linter.unusedVariables false
set_option linter.unusedSimpArgs false
open Go Go.RowKit Go.Lib Go.Proofs.YtnoninlgjnjlaaaDoorW.PrintWords

theorem ref_digit (n : Nat) (s : List UInt8) : strOfNums [(IntKind.u64.wrap (48 + Int.tmod (n : Int) 10)) % 256] ++ (⟨s.toArray⟩ : ByteArray) = ⟨(UInt8.ofNat (48 + n % 10) :: s).toArray⟩ := by
  have h1 : Int.tmod (n : Int) 10 = ((n % 10 : Nat) : Int) := by
    rw [Int.tmod_eq_emod_of_nonneg (by omega)]; omega
  have h2 : ((IntKind.u64.wrap (48 + Int.tmod (n : Int) 10)) % 256).toNat = 48 + n % 10 := by
    rw [h1, IntKind.wrap_u64]; omega
  apply ByteArray.ext
  apply Array.ext'
  rw [Go.Joins.data_append, strOfNums_data]
  simp only [List.map_cons, List.map_nil, h2]
  rfl
theorem ref_quot (n : Nat) (h : n < 18446744073709551616) : IntKind.u64.wrap (Int.tdiv (n : Int) 10) = ((n / 10 : Nat) : Int) := by
  rw [Int.tdiv_eq_ediv_of_nonneg (by omega), IntKind.wrap_u64]; omega
theorem bt_nat (s : ByteArray) (i : Nat) (h : i < s.data.toList.length) : Go.Proofs.YtnoninlgjnjlaaaDoorW.PrintWords.bt s (i : Int) = ((s.data.toList[i]'h).toNat : Int) := by
  have hs : i < s.size := by rw [Lib.size_eq]; exact h
  have h1 := Go.Proofs.YtnoninlgjnjlaaaDoorW.PrintWords.bt_at s (i : Int) (by rw [Int.toNat_natCast]; exact hs)
  rw [← h1]
  simp only [Int.toNat_natCast]
  rfl

set_option maxHeartbeats 1000000 in
theorem refname14 (k : Nat) : ∀ (n : Nat) (s : List UInt8), n < 18446744073709551616 → n + (6 - s.length) ≤ k → (restL n s).length ≤ 1000 →
    sedimentref14_Name.l0 (k + 1) (n : Int) ⟨s.toArray⟩ = some ⟨([77, 65, 78, 73, 70, 69, 83, 84, 45] ++ (restL n s ++ [])).toArray⟩ := by
  induction k with
  | zero =>
    intro n s hn hk hl
    have h0 : n = 0 := by omega
    subst h0
    have hs : (⟨s.toArray⟩ : ByteArray).size = s.length := rfl
    have hs6 : 6 ≤ s.length := by omega
    rw [rest_end hs6] at hl ⊢
    rw [sedimentref14_Name.l0, if_neg (by omega), if_neg (by rw [hs]; omega), if_pos (by rw [hs]; omega)]
    refine congrArg some ?_
    apply ByteArray.ext
    apply Array.ext'
    rw [Go.Joins.data_append]
    simp
  | succ k ih =>
    intro n s hn hk hl
    have hs : (⟨s.toArray⟩ : ByteArray).size = s.length := rfl
    have hsl := rest_len (n := n) (s := s)
    by_cases h : 0 < n ∨ s.length < 6
    · have hst := rest_step h
      have hI := ih (n / 10) (UInt8.ofNat (48 + n % 10) :: s) (by omega) (by rw [List.length_cons]; omega) (by rw [hst]; exact hl)
      rw [hst] at hI
      rw [sedimentref14_Name.l0]
      by_cases h0 : 0 < n
      · rw [if_pos (by omega), Option.bind_some, ref_digit, ref_quot n hn, if_pos (by rw [strOfNums_size, hs]; show 1 + s.length ≤ _; omega)]
        exact hI
      · rw [if_neg (by omega), if_pos (by rw [hs]; omega), Option.bind_some, ref_digit, ref_quot n hn, if_pos (by rw [strOfNums_size, hs]; show 1 + s.length ≤ _; omega)]
        exact hI
    · have h0 : n = 0 := by omega
      subst h0
      have hs6 : 6 ≤ s.length := by omega
      rw [rest_end hs6] at hl ⊢
      rw [sedimentref14_Name.l0, if_neg (by omega), if_neg (by rw [hs]; omega), if_pos (by rw [hs]; omega)]
      refine congrArg some ?_
      apply ByteArray.ext
      apply Array.ext'
      rw [Go.Joins.data_append]
      simp
theorem refname_f14 (k u : Nat) (hu : u < 18446744073709551616) (hk : u + 7 ≤ k) : sedimentref14_Name.f k (u : Int) = some ⟨([77, 65, 78, 73, 70, 69, 83, 84, 45] ++ (padL u ++ [])).toArray⟩ := by
  obtain ⟨k', rfl⟩ : ∃ k', k = k' + 1 := ⟨k - 1, by omega⟩
  have hp := pad_len u hu
  have h := refname14 k' u [] hu (by simp only [List.length_nil]; omega) (by rw [rest_start]; omega)
  rw [rest_start] at h
  exact h
set_option maxHeartbeats 1000000 in
theorem refnum14 (s : ByteArray) (hs : s.size ≤ 140737488355328) (k : Nat) : ∀ (i a : Nat), i ≤ 140737488355328 → a < 18446744073709551616 → (s.size - i) + 18446744073709551623 ≤ k →
    ∃ a' : Nat, a' < 18446744073709551616 ∧ sedimentref14_Number.l0 (k + 1) s (a : Int) (i : Int) = some (if (⟨([77, 65, 78, 73, 70, 69, 83, 84, 45] ++ (padL a' ++ [])).toArray⟩ : ByteArray).toList = s.toList then ((a' : Int), true) else (0, false)) ∧
      ∀ ds, (∀ c ∈ ds, isDig c) → s.data.toList.drop i = ds ++ [] → val a ds < 18446744073709551616 → a' = val a ds := by
  induction k with
  | zero => intro i a hi ha hk; omega
  | succ k ih =>
    intro i a hi ha hk
    have hf := refname_f14 (k + 1) a ha (by omega)
    have hsz : s.size = s.data.toList.length := Lib.size_eq s
    rw [sedimentref14_Number.l0, hf]
    simp only [Option.bind_some]
    have hin : ∀ (p q : Int × Bool) (c : Prop) [Decidable c], (if c then some p else some q) = some (if c then p else q) := fun p q c _ => by split <;> rfl
    simp only [hin]
    by_cases h : i < s.size
    · have hl : i < s.data.toList.length := by omega
      have hb := bt_nat s i hl
      have hdr := List.drop_eq_getElem_cons hl
      obtain ⟨c, hc⟩ : ∃ c, s.data.toList[i]'hl = c := ⟨_, rfl⟩
      rw [hc] at hb hdr
      rw [if_pos (by omega), if_pos (by omega), hb]
      by_cases h1 : 48 ≤ c.toNat
      · by_cases h2 : c.toNat ≤ 57
        · rw [if_pos (by omega), if_pos (by omega)]
          have ew : wrap64 ((i : Int) + 1) = ((i + 1 : Nat) : Int) := by unfold wrap64; omega
          have ev : IntKind.u64.wrap (IntKind.u64.wrap (10 * (a : Int)) + ((c.toNat : Int) - 48) % 256) = (((10 * a % 18446744073709551616 + (c.toNat - 48)) % 18446744073709551616 : Nat) : Int) := by
            rw [IntKind.wrap_u64, IntKind.wrap_u64]; omega
          rw [ew, ev]
          obtain ⟨a', ha', hl', hd'⟩ := ih (i + 1) ((10 * a % 18446744073709551616 + (c.toNat - 48)) % 18446744073709551616) (by omega) (by omega) (by omega)
          refine ⟨a', ha', hl', fun ds hds he hv => ?_⟩
          rw [hdr] at he
          cases ds with
          | nil => exact absurd he (by simp)
          | cons d r =>
            rw [List.cons_append] at he
            obtain ⟨rfl, he2⟩ := List.cons.inj he
            have e1 : val a (c :: r) = val (a * 10 + (c.toNat - 48)) r := rfl
            have hg := val_ge r (a * 10 + (c.toNat - 48))
            rw [e1] at hv ⊢
            have e2 : (10 * a % 18446744073709551616 + (c.toNat - 48)) % 18446744073709551616 = a * 10 + (c.toNat - 48) := by omega
            rw [e2] at hd'
            exact hd' r (fun x hx => hds x (List.mem_cons_of_mem _ hx)) he2 hv
        · rw [if_pos (by omega), if_neg (by omega)]
          refine ⟨a, ha, rfl, fun ds hds he hv => ?_⟩
          rw [hdr] at he
          cases ds with
          | nil => rfl
          | cons d r =>
            rw [List.cons_append] at he
            obtain ⟨rfl, he2⟩ := List.cons.inj he
            exact absurd (hds c List.mem_cons_self).2 h2
      · rw [if_neg (by omega)]
        refine ⟨a, ha, rfl, fun ds hds he hv => ?_⟩
        rw [hdr] at he
        cases ds with
        | nil => rfl
        | cons d r =>
          rw [List.cons_append] at he
          obtain ⟨rfl, he2⟩ := List.cons.inj he
          exact absurd (hds c List.mem_cons_self).1 h1
    · rw [if_neg (by omega)]
      refine ⟨a, ha, rfl, fun ds hds he hv => ?_⟩
      rw [List.drop_eq_nil_of_le (by omega)] at he
      cases ds with
      | nil => rfl
      | cons d r => cases he
theorem refnum_f14 (s : ByteArray) (hs : s.size ≤ 140737488355328) : ∃ k, sedimentref14_Number.f k s = some (((numOf [77, 65, 78, 73, 70, 69, 83, 84, 45] [] s.data.toList).1 : Int), (numOf [77, 65, 78, 73, 70, 69, 83, 84, 45] [] s.data.toList).2) := by
  obtain ⟨a', ha', hl, hd⟩ := refnum14 s hs (s.size + 18446744073709551623) 9 0 (by omega) (by omega) (by omega)
  refine ⟨s.size + 18446744073709551623 + 1, ?_⟩
  unfold sedimentref14_Number.f
  refine hl.trans ?_
  rw [Lib.toList_data, Lib.toList_data]
  show some (if ([77, 65, 78, 73, 70, 69, 83, 84, 45] ++ (padL a' ++ [])) = s.data.toList then ((a' : Int), true) else (0, false)) = _
  by_cases hex : ∃ u, u < 18446744073709551616 ∧ s.data.toList = ([77, 65, 78, 73, 70, 69, 83, 84, 45] ++ (padL u ++ []))
  · obtain ⟨u, hu, e⟩ := hex
    have h := hd (padL u) (pad_dig u) (by rw [e]; rfl) (by rw [val_pad]; exact hu)
    rw [val_pad] at h
    subst h
    rw [if_pos e.symm, e, numOf_yes (by first | exact .inl rfl | exact .inr ⟨_, _, rfl, by unfold isDig; decide⟩) hu]
  · rw [if_neg (fun e => hex ⟨a', ha', e.symm⟩), numOf_no (fun u hu e => hex ⟨u, hu, e⟩)]
    rfl

set_option maxHeartbeats 1000000 in
theorem refname12 (k : Nat) : ∀ (n : Nat) (s : List UInt8), n < 18446744073709551616 → n + (6 - s.length) ≤ k → (restL n s).length ≤ 1000 →
    sedimentref12_Name.l0 (k + 1) (n : Int) ⟨s.toArray⟩ = some ⟨([] ++ (restL n s ++ [46, 115, 115, 116])).toArray⟩ := by
  induction k with
  | zero =>
    intro n s hn hk hl
    have h0 : n = 0 := by omega
    subst h0
    have hs : (⟨s.toArray⟩ : ByteArray).size = s.length := rfl
    have hs6 : 6 ≤ s.length := by omega
    rw [rest_end hs6] at hl ⊢
    rw [sedimentref12_Name.l0, if_neg (by omega), if_neg (by rw [hs]; omega), if_pos (by rw [hs]; omega)]
    refine congrArg some ?_
    apply ByteArray.ext
    apply Array.ext'
    rw [Go.Joins.data_append]
    simp
  | succ k ih =>
    intro n s hn hk hl
    have hs : (⟨s.toArray⟩ : ByteArray).size = s.length := rfl
    have hsl := rest_len (n := n) (s := s)
    by_cases h : 0 < n ∨ s.length < 6
    · have hst := rest_step h
      have hI := ih (n / 10) (UInt8.ofNat (48 + n % 10) :: s) (by omega) (by rw [List.length_cons]; omega) (by rw [hst]; exact hl)
      rw [hst] at hI
      rw [sedimentref12_Name.l0]
      by_cases h0 : 0 < n
      · rw [if_pos (by omega), Option.bind_some, ref_digit, ref_quot n hn, if_pos (by rw [strOfNums_size, hs]; show 1 + s.length ≤ _; omega)]
        exact hI
      · rw [if_neg (by omega), if_pos (by rw [hs]; omega), Option.bind_some, ref_digit, ref_quot n hn, if_pos (by rw [strOfNums_size, hs]; show 1 + s.length ≤ _; omega)]
        exact hI
    · have h0 : n = 0 := by omega
      subst h0
      have hs6 : 6 ≤ s.length := by omega
      rw [rest_end hs6] at hl ⊢
      rw [sedimentref12_Name.l0, if_neg (by omega), if_neg (by rw [hs]; omega), if_pos (by rw [hs]; omega)]
      refine congrArg some ?_
      apply ByteArray.ext
      apply Array.ext'
      rw [Go.Joins.data_append]
      simp
theorem refname_f12 (k u : Nat) (hu : u < 18446744073709551616) (hk : u + 7 ≤ k) : sedimentref12_Name.f k (u : Int) = some ⟨([] ++ (padL u ++ [46, 115, 115, 116])).toArray⟩ := by
  obtain ⟨k', rfl⟩ : ∃ k', k = k' + 1 := ⟨k - 1, by omega⟩
  have hp := pad_len u hu
  have h := refname12 k' u [] hu (by simp only [List.length_nil]; omega) (by rw [rest_start]; omega)
  rw [rest_start] at h
  exact h
set_option maxHeartbeats 1000000 in
theorem refnum12 (s : ByteArray) (hs : s.size ≤ 140737488355328) (k : Nat) : ∀ (i a : Nat), i ≤ 140737488355328 → a < 18446744073709551616 → (s.size - i) + 18446744073709551623 ≤ k →
    ∃ a' : Nat, a' < 18446744073709551616 ∧ sedimentref12_Number.l0 (k + 1) s (a : Int) (i : Int) = some (if (⟨([] ++ (padL a' ++ [46, 115, 115, 116])).toArray⟩ : ByteArray).toList = s.toList then ((a' : Int), true) else (0, false)) ∧
      ∀ ds, (∀ c ∈ ds, isDig c) → s.data.toList.drop i = ds ++ [46, 115, 115, 116] → val a ds < 18446744073709551616 → a' = val a ds := by
  induction k with
  | zero => intro i a hi ha hk; omega
  | succ k ih =>
    intro i a hi ha hk
    have hf := refname_f12 (k + 1) a ha (by omega)
    have hsz : s.size = s.data.toList.length := Lib.size_eq s
    rw [sedimentref12_Number.l0, hf]
    simp only [Option.bind_some]
    have hin : ∀ (p q : Int × Bool) (c : Prop) [Decidable c], (if c then some p else some q) = some (if c then p else q) := fun p q c _ => by split <;> rfl
    simp only [hin]
    by_cases h : i < s.size
    · have hl : i < s.data.toList.length := by omega
      have hb := bt_nat s i hl
      have hdr := List.drop_eq_getElem_cons hl
      obtain ⟨c, hc⟩ : ∃ c, s.data.toList[i]'hl = c := ⟨_, rfl⟩
      rw [hc] at hb hdr
      rw [if_pos (by omega), if_pos (by omega), hb]
      by_cases h1 : 48 ≤ c.toNat
      · by_cases h2 : c.toNat ≤ 57
        · rw [if_pos (by omega), if_pos (by omega)]
          have ew : wrap64 ((i : Int) + 1) = ((i + 1 : Nat) : Int) := by unfold wrap64; omega
          have ev : IntKind.u64.wrap (IntKind.u64.wrap (10 * (a : Int)) + ((c.toNat : Int) - 48) % 256) = (((10 * a % 18446744073709551616 + (c.toNat - 48)) % 18446744073709551616 : Nat) : Int) := by
            rw [IntKind.wrap_u64, IntKind.wrap_u64]; omega
          rw [ew, ev]
          obtain ⟨a', ha', hl', hd'⟩ := ih (i + 1) ((10 * a % 18446744073709551616 + (c.toNat - 48)) % 18446744073709551616) (by omega) (by omega) (by omega)
          refine ⟨a', ha', hl', fun ds hds he hv => ?_⟩
          rw [hdr] at he
          cases ds with
          | nil => (rw [List.nil_append] at he; have := (List.cons.inj he).1; rw [this] at h1; exact absurd h1 (by decide))
          | cons d r =>
            rw [List.cons_append] at he
            obtain ⟨rfl, he2⟩ := List.cons.inj he
            have e1 : val a (c :: r) = val (a * 10 + (c.toNat - 48)) r := rfl
            have hg := val_ge r (a * 10 + (c.toNat - 48))
            rw [e1] at hv ⊢
            have e2 : (10 * a % 18446744073709551616 + (c.toNat - 48)) % 18446744073709551616 = a * 10 + (c.toNat - 48) := by omega
            rw [e2] at hd'
            exact hd' r (fun x hx => hds x (List.mem_cons_of_mem _ hx)) he2 hv
        · rw [if_pos (by omega), if_neg (by omega)]
          refine ⟨a, ha, rfl, fun ds hds he hv => ?_⟩
          rw [hdr] at he
          cases ds with
          | nil => rfl
          | cons d r =>
            rw [List.cons_append] at he
            obtain ⟨rfl, he2⟩ := List.cons.inj he
            exact absurd (hds c List.mem_cons_self).2 h2
      · rw [if_neg (by omega)]
        refine ⟨a, ha, rfl, fun ds hds he hv => ?_⟩
        rw [hdr] at he
        cases ds with
        | nil => rfl
        | cons d r =>
          rw [List.cons_append] at he
          obtain ⟨rfl, he2⟩ := List.cons.inj he
          exact absurd (hds c List.mem_cons_self).1 h1
    · rw [if_neg (by omega)]
      refine ⟨a, ha, rfl, fun ds hds he hv => ?_⟩
      rw [List.drop_eq_nil_of_le (by omega)] at he
      cases ds with
      | nil => rfl
      | cons d r => cases he
theorem refnum_f12 (s : ByteArray) (hs : s.size ≤ 140737488355328) : ∃ k, sedimentref12_Number.f k s = some (((numOf [] [46, 115, 115, 116] s.data.toList).1 : Int), (numOf [] [46, 115, 115, 116] s.data.toList).2) := by
  obtain ⟨a', ha', hl, hd⟩ := refnum12 s hs (s.size + 18446744073709551623) 0 0 (by omega) (by omega) (by omega)
  refine ⟨s.size + 18446744073709551623 + 1, ?_⟩
  unfold sedimentref12_Number.f
  refine hl.trans ?_
  rw [Lib.toList_data, Lib.toList_data]
  show some (if ([] ++ (padL a' ++ [46, 115, 115, 116])) = s.data.toList then ((a' : Int), true) else (0, false)) = _
  by_cases hex : ∃ u, u < 18446744073709551616 ∧ s.data.toList = ([] ++ (padL u ++ [46, 115, 115, 116]))
  · obtain ⟨u, hu, e⟩ := hex
    have h := hd (padL u) (pad_dig u) (by rw [e]; rfl) (by rw [val_pad]; exact hu)
    rw [val_pad] at h
    subst h
    rw [if_pos e.symm, e, numOf_yes (by first | exact .inl rfl | exact .inr ⟨_, _, rfl, by unfold isDig; decide⟩) hu]
  · rw [if_neg (fun e => hex ⟨a', ha', e.symm⟩), numOf_no (fun u hu e => hex ⟨u, hu, e⟩)]
    rfl
end Go.Proofs.YtnoninlgjnjlaaaDoor
