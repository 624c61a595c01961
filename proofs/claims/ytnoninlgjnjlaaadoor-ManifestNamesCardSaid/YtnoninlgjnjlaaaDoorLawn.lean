/- The laws of names: their walks. Premise: what the library reads lies as the program's text lays it. -/
import Derived.Test.YtnoninlgjnjlaaaDoorNumbered
import Derived.Test.YtnoninlgjnjlaaaDoorRefP
namespace Go.Proofs.YtnoninlgjnjlaaaDoor
set_option linter.unusedVariables false
set_option linter.unusedSimpArgs false
open Go Go.RowKit Go.Lib Go.Sort

theorem number_m (s : ByteArray) (hs : s.size ≤ 140737488355328) (w : World) (hl : Laid w) :
    Calls Tryd.prog 5 #[.string s] w fun e w' => e = .returned (.tuple #[.int .u64 ((numOf [77, 65, 78, 73, 70, 69, 83, 84, 45] [] s.data.toList).1 : Int), .bool (numOf [77, 65, 78, 73, 70, 69, 83, 84, 45] [] s.data.toList).2]) ∧ Below w.heap.size w w' := by
  have h := Lib.hid (numbered_m s hs w hl)
  clear hl
  generalize numOf [77, 65, 78, 73, 70, 69, 83, 84, 45] [] s.data.toList = p at h ⊢
  go_enter Tryd.func5, Tryd.ntmps5
  go_wp2_with (go_at_call 13; refine h.out.mono ?_; rintro e w1 ⟨rfl, hb1⟩)
  go_ret2
  exact ⟨rfl, hb1⟩
theorem refnumber_m (s : ByteArray) (hs : s.size ≤ 140737488355328) (w : World) :
    Calls Tryd.prog 6 #[.string s] w fun e w' => e = .returned (.tuple #[.int .u64 ((numOf [77, 65, 78, 73, 70, 69, 83, 84, 45] [] s.data.toList).1 : Int), .bool (numOf [77, 65, 78, 73, 70, 69, 83, 84, 45] [] s.data.toList).2]) ∧ Below w.heap.size w w' := by
  obtain ⟨k, hk⟩ := refnum_f14 s hs
  exact sedimentref14_Number.calls k s _ _ w hk
theorem refname_m (u : Nat) (hu : u < 18446744073709551616) (w : World) :
    Calls Tryd.prog 8 #[.int .u64 (u : Int)] w fun e w' => e = .returned (.string ⟨([77, 65, 78, 73, 70, 69, 83, 84, 45] ++ padL u).toArray⟩) ∧ Below w.heap.size w w' := by
  have h := sedimentref14_Name.calls (u + 7) (u : Int) _ w (refname_f14 (u + 7) u hu (Nat.le_refl _))
  simpa using h
theorem selfnum_m (u : Nat) (hu : u < 18446744073709551616) (w : World) (hl : Laid w) :
    Calls Tryd.prog 5 #[.string ⟨([77, 65, 78, 73, 70, 69, 83, 84, 45] ++ padL u).toArray⟩] w fun e w' => e = .returned (.tuple #[.int .u64 (u : Int), .bool true]) ∧ Below w.heap.size w w' := by
  have hp := pad_len u hu
  have h := number_m ⟨([77, 65, 78, 73, 70, 69, 83, 84, 45] ++ padL u).toArray⟩ (by show (([77, 65, 78, 73, 70, 69, 83, 84, 45] ++ padL u).length) ≤ _; rw [List.length_append]; show _ + _ ≤ _; simp only [List.length_cons, List.length_nil]; omega) w hl
  have e : numOf [77, 65, 78, 73, 70, 69, 83, 84, 45] [] (⟨([77, 65, 78, 73, 70, 69, 83, 84, 45] ++ padL u).toArray⟩ : ByteArray).data.toList = (u, true) := by
    have h1 := numOf_yes (pre := [77, 65, 78, 73, 70, 69, 83, 84, 45]) (suf := []) (by first | exact .inl rfl | exact .inr ⟨_, _, rfl, by unfold isDig; decide⟩) hu
    rw [← h1]
    exact congrArg _ (by simp)
  rw [e] at h
  exact h
set_option maxRecDepth 100000 in
set_option maxHeartbeats 1000000 in
theorem law_m (u : Nat) (hu : u < 18446744073709551616) (s : ByteArray) (hs : s.size ≤ 140737488355328) (w : World) (hl : Laid w) :
    Calls Tryd.prog 3 #[.int .u64 (u : Int), .string s] w fun e w' => e = .returned (.bool true) ∧ Below w.heap.size w w' := by
  have h1 := Lib.hid (number_m s hs w hl)
  have h2 := Lib.hid (fun W => refnumber_m s hs W)
  have h3 := Lib.hid (fun W hW => name_m u hu W hW)
  have h4 := Lib.hid (fun W => refname_m u hu W)
  have h5 := Lib.hid (fun W hW => selfnum_m u hu W hW)
  have HL := Lib.hid hl
  clear hl
  generalize numOf [77, 65, 78, 73, 70, 69, 83, 84, 45] [] s.data.toList = p at h1 h2
  generalize (⟨([77, 65, 78, 73, 70, 69, 83, 84, 45] ++ padL u).toArray⟩ : ByteArray) = nm at h3 h4 h5
  obtain ⟨a, b⟩ := p
  go_enter Tryd.func3, Tryd.ntmps3
  have HB := Lib.hid (Below.refl w.heap.size w)
  go_wp2_with (first
    | (go_at_call 5; refine h1.out.mono ?_; rintro e w1 ⟨rfl, hb⟩; have n0 := Lib.hid (HB.out.trans (hb.mono HB.out.size)); clear hb HB; have HB := n0; clear n0)
    | (go_at_call 6; refine (h2.out _).mono ?_; rintro e w1 ⟨rfl, hb⟩; have n0 := Lib.hid (HB.out.trans (hb.mono HB.out.size)); clear hb HB; have HB := n0; clear n0)
    | (go_at_call 7; refine (h3.out _ (HL.out.more HB.out)).mono ?_; rintro e w1 ⟨rfl, hb⟩; have n0 := Lib.hid (HB.out.trans (hb.mono HB.out.size)); clear hb HB; have HB := n0; clear n0)
    | (go_at_call 5; refine (h5.out _ (HL.out.more HB.out)).mono ?_; rintro e w1 ⟨rfl, hb⟩; have n0 := Lib.hid (HB.out.trans (hb.mono HB.out.size)); clear hb HB; have HB := n0; clear n0)
    | (go_at_call 8; refine (h4.out _).mono ?_; rintro e w1 ⟨rfl, hb⟩; have n0 := Lib.hid (HB.out.trans (hb.mono HB.out.size)); clear hb HB; have HB := n0; clear n0))
  go_ret
  exact ⟨rfl, HB.out⟩

theorem number_t (s : ByteArray) (hs : s.size ≤ 140737488355328) (w : World) (hl : Laid w) :
    Calls Tryd.prog 9 #[.string s] w fun e w' => e = .returned (.tuple #[.int .u64 ((numOf [] [46, 115, 115, 116] s.data.toList).1 : Int), .bool (numOf [] [46, 115, 115, 116] s.data.toList).2]) ∧ Below w.heap.size w w' := by
  have h := Lib.hid (numbered_t s hs w hl)
  clear hl
  generalize numOf [] [46, 115, 115, 116] s.data.toList = p at h ⊢
  go_enter Tryd.func9, Tryd.ntmps9
  go_wp2_with (go_at_call 15; refine h.out.mono ?_; rintro e w1 ⟨rfl, hb1⟩)
  go_ret2
  exact ⟨rfl, hb1⟩
theorem refnumber_t (s : ByteArray) (hs : s.size ≤ 140737488355328) (w : World) :
    Calls Tryd.prog 10 #[.string s] w fun e w' => e = .returned (.tuple #[.int .u64 ((numOf [] [46, 115, 115, 116] s.data.toList).1 : Int), .bool (numOf [] [46, 115, 115, 116] s.data.toList).2]) ∧ Below w.heap.size w w' := by
  obtain ⟨k, hk⟩ := refnum_f12 s hs
  exact sedimentref12_Number.calls k s _ _ w hk
theorem refname_t (u : Nat) (hu : u < 18446744073709551616) (w : World) :
    Calls Tryd.prog 12 #[.int .u64 (u : Int)] w fun e w' => e = .returned (.string ⟨(padL u ++ [46, 115, 115, 116]).toArray⟩) ∧ Below w.heap.size w w' := by
  have h := sedimentref12_Name.calls (u + 7) (u : Int) _ w (refname_f12 (u + 7) u hu (Nat.le_refl _))
  simpa using h
theorem selfnum_t (u : Nat) (hu : u < 18446744073709551616) (w : World) (hl : Laid w) :
    Calls Tryd.prog 9 #[.string ⟨(padL u ++ [46, 115, 115, 116]).toArray⟩] w fun e w' => e = .returned (.tuple #[.int .u64 (u : Int), .bool true]) ∧ Below w.heap.size w w' := by
  have hp := pad_len u hu
  have h := number_t ⟨(padL u ++ [46, 115, 115, 116]).toArray⟩ (by show ((padL u ++ [46, 115, 115, 116]).length) ≤ _; rw [List.length_append]; show _ + _ ≤ _; simp only [List.length_cons, List.length_nil]; omega) w hl
  have e : numOf [] [46, 115, 115, 116] (⟨(padL u ++ [46, 115, 115, 116]).toArray⟩ : ByteArray).data.toList = (u, true) := by
    have h1 := numOf_yes (pre := []) (suf := [46, 115, 115, 116]) (by first | exact .inl rfl | exact .inr ⟨_, _, rfl, by unfold isDig; decide⟩) hu
    rw [← h1]
    exact congrArg _ (by simp)
  rw [e] at h
  exact h
set_option maxRecDepth 100000 in
set_option maxHeartbeats 1000000 in
theorem law_t (u : Nat) (hu : u < 18446744073709551616) (s : ByteArray) (hs : s.size ≤ 140737488355328) (w : World) (hl : Laid w) :
    Calls Tryd.prog 4 #[.int .u64 (u : Int), .string s] w fun e w' => e = .returned (.bool true) ∧ Below w.heap.size w w' := by
  have h1 := Lib.hid (number_t s hs w hl)
  have h2 := Lib.hid (fun W => refnumber_t s hs W)
  have h3 := Lib.hid (fun W hW => name_t u hu W hW)
  have h4 := Lib.hid (fun W => refname_t u hu W)
  have h5 := Lib.hid (fun W hW => selfnum_t u hu W hW)
  have HL := Lib.hid hl
  clear hl
  generalize numOf [] [46, 115, 115, 116] s.data.toList = p at h1 h2
  generalize (⟨(padL u ++ [46, 115, 115, 116]).toArray⟩ : ByteArray) = nm at h3 h4 h5
  obtain ⟨a, b⟩ := p
  go_enter Tryd.func4, Tryd.ntmps4
  have HB := Lib.hid (Below.refl w.heap.size w)
  go_wp2_with (first
    | (go_at_call 9; refine h1.out.mono ?_; rintro e w1 ⟨rfl, hb⟩; have n0 := Lib.hid (HB.out.trans (hb.mono HB.out.size)); clear hb HB; have HB := n0; clear n0)
    | (go_at_call 10; refine (h2.out _).mono ?_; rintro e w1 ⟨rfl, hb⟩; have n0 := Lib.hid (HB.out.trans (hb.mono HB.out.size)); clear hb HB; have HB := n0; clear n0)
    | (go_at_call 11; refine (h3.out _ (HL.out.more HB.out)).mono ?_; rintro e w1 ⟨rfl, hb⟩; have n0 := Lib.hid (HB.out.trans (hb.mono HB.out.size)); clear hb HB; have HB := n0; clear n0)
    | (go_at_call 9; refine (h5.out _ (HL.out.more HB.out)).mono ?_; rintro e w1 ⟨rfl, hb⟩; have n0 := Lib.hid (HB.out.trans (hb.mono HB.out.size)); clear hb HB; have HB := n0; clear n0)
    | (go_at_call 12; refine (h4.out _).mono ?_; rintro e w1 ⟨rfl, hb⟩; have n0 := Lib.hid (HB.out.trans (hb.mono HB.out.size)); clear hb HB; have HB := n0; clear n0))
  go_ret
  exact ⟨rfl, HB.out⟩
end Go.Proofs.YtnoninlgjnjlaaaDoor
