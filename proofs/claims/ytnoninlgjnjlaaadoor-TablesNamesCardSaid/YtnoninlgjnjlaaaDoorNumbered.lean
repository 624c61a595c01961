/- The program's numbers of names. Premise: what the library reads lies as the program's text lays it. -/
import Derived.Test.YtnoninlgjnjlaaaDoorNames
namespace Go.Proofs.YtnoninlgjnjlaaaDoor
set_option linter.unusedVariables false
set_option linter.unusedSimpArgs false
open Go Go.RowKit Go.Lib Go.Sort

theorem cut_m (u : Nat) : Lib.hasPrefix ([77, 65, 78, 73, 70, 69, 83, 84, 45] ++ (padL u ++ [])) [77, 65, 78, 73, 70, 69, 83, 84, 45] = true ∧ Lib.trimPrefix ([77, 65, 78, 73, 70, 69, 83, 84, 45] ++ (padL u ++ [])) [77, 65, 78, 73, 70, 69, 83, 84, 45] = padL u := by
  have h : Lib.hasPrefix ([77, 65, 78, 73, 70, 69, 83, 84, 45] ++ (padL u ++ [])) [77, 65, 78, 73, 70, 69, 83, 84, 45] = true := by
    unfold Lib.hasPrefix
    simp
  refine ⟨h, ?_⟩
  unfold Lib.trimPrefix
  rw [if_pos h]
  simp
set_option maxRecDepth 100000 in
set_option maxHeartbeats 1000000 in
theorem numbered_m (s : ByteArray) (hs : s.size ≤ 140737488355328) (w : World) (hl : Laid w) :
    Calls Tryd.prog 13 #[.string s] w fun e w' => e = .returned (.tuple #[.int .u64 ((numOf [77, 65, 78, 73, 70, 69, 83, 84, 45] [] s.data.toList).1 : Int), .bool (numOf [77, 65, 78, 73, 70, 69, 83, 84, 45] [] s.data.toList).2]) ∧ Below w.heap.size w w' := by
  have hcut := Lib.hid (Tryd.strings_CutPrefix s ⟨#[77, 65, 78, 73, 70, 69, 83, 84, 45]⟩ w)
  obtain ⟨t, ht⟩ : ∃ t, Lib.trimPrefix s.data.toList [77, 65, 78, 73, 70, 69, 83, 84, 45] = t := ⟨_, rfl⟩
  obtain ⟨b, hb⟩ : ∃ b, Lib.hasPrefix s.data.toList [77, 65, 78, 73, 70, 69, 83, 84, 45] = b := ⟨_, rfl⟩
  have htl : t.length ≤ s.size := by
    rw [← ht, Lib.size_eq]
    unfold Lib.trimPrefix
    split
    · simp
    · exact Nat.le_refl _
  rw [show (⟨#[77, 65, 78, 73, 70, 69, 83, 84, 45]⟩ : ByteArray).data.toList = [77, 65, 78, 73, 70, 69, 83, 84, 45] from rfl, ht, hb] at hcut
  have hts : (⟨t.toArray⟩ : ByteArray).size ≤ 281474976710656 := by show t.length ≤ _; omega
  by_cases hex : ∃ u, u < 18446744073709551616 ∧ s.data.toList = ([77, 65, 78, 73, 70, 69, 83, 84, 45] ++ (padL u ++ []))
  · obtain ⟨u, hu, e⟩ := hex
    have hn : numOf [77, 65, 78, 73, 70, 69, 83, 84, 45] [] s.data.toList = (u, true) := by rw [e]; exact numOf_yes (by first | exact .inl rfl | exact .inr ⟨_, _, rfl, by unfold isDig; decide⟩) hu
    obtain ⟨c1, c2⟩ := cut_m u
    have ht2 : t = padL u := by rw [← ht, e, c2]
    have hb2 : b = true := by rw [← hb, e, c1]
    subst hb2
    have hp := Lib.hid (parse_ok ⟨t.toArray⟩ hts u (by show parseUintB 64 t = _; rw [ht2]; exact parse_pad u hu) w)
    have hnm := Lib.hid (fun W hW => named_m u hu W hW)
    have hse : (⟨([77, 65, 78, 73, 70, 69, 83, 84, 45] ++ padL u).toArray⟩ : ByteArray) = s := by
      apply ByteArray.ext
      apply Array.ext'
      rw [e]; simp
    rw [hse] at hnm
    have HL := Lib.hid hl
    rw [hn]
    clear hn e c1 c2 ht2 ht hse hl hb
    go_enter Tryd.func13, Tryd.ntmps13
    go_wp2_with (first
      | (go_at_call 17; refine hcut.out.mono ?_; rintro e w1 ⟨rfl, rfl⟩)
      | (go_at_call 18; refine hp.out.mono ?_; rintro e w2 ⟨rfl, hb2⟩; have HB2 := Lib.hid hb2; clear hb2)
      | (go_at_call 14; refine (hnm.out _ (HL.out.more HB2.out)).mono ?_; rintro e w3 ⟨rfl, hb3⟩; have HB3 := Lib.hid (HB2.out.trans (hb3.mono HB2.out.size)); clear hb3))
    go_ret2
    exact ⟨rfl, HB3.out⟩
  · have hn : numOf [77, 65, 78, 73, 70, 69, 83, 84, 45] [] s.data.toList = (0, false) := numOf_no (fun u hu e => hex ⟨u, hu, e⟩)
    rw [hn]
    have HL := Lib.hid hl
    by_cases hok : ∃ u, Lib.parseUintB 64 t = .ok u
    · obtain ⟨u, hpu⟩ := hok
      have hu := parseB_lt hpu
      have hp := Lib.hid (parse_ok ⟨t.toArray⟩ hts u hpu w)
      have hnm := Lib.hid (fun W hW => named_m u hu W hW)
      have hse : ((⟨([77, 65, 78, 73, 70, 69, 83, 84, 45] ++ padL u).toArray⟩ : ByteArray).toList == s.toList) = false := by
        rw [beq_eq_false_iff_ne, Lib.toList_data, Lib.toList_data]
        intro e
        apply hex
        refine ⟨u, hu, ?_⟩
        rw [← e]; simp
      obtain ⟨nm, hnm2⟩ : ∃ nm : ByteArray, (⟨([77, 65, 78, 73, 70, 69, 83, 84, 45] ++ padL u).toArray⟩ : ByteArray) = nm := ⟨_, rfl⟩
      rw [hnm2] at hnm hse
      clear hn hex ht hl hb hpu hnm2
      cases b
      · go_enter Tryd.func13, Tryd.ntmps13
        go_wp2_with (first
          | (go_at_call 17; refine hcut.out.mono ?_; rintro e w1 ⟨rfl, rfl⟩)
          | (go_at_call 18; refine hp.out.mono ?_; rintro e w2 ⟨rfl, hb2⟩; have HB2 := Lib.hid hb2; clear hb2))
        go_ret2
        exact ⟨rfl, HB2.out⟩
      · go_enter Tryd.func13, Tryd.ntmps13
        go_wp2_with (first
          | (go_at_call 17; refine hcut.out.mono ?_; rintro e w1 ⟨rfl, rfl⟩)
          | (go_at_call 18; refine hp.out.mono ?_; rintro e w2 ⟨rfl, hb2⟩; have HB2 := Lib.hid hb2; clear hb2)
          | (go_at_call 14; refine (hnm.out _ (HL.out.more HB2.out)).mono ?_; rintro e w3 ⟨rfl, hb3⟩; have HB3 := Lib.hid (HB2.out.trans (hb3.mono HB2.out.size)); clear hb3))
        go_ret2
        exact ⟨rfl, HB3.out⟩
    · have hp := Lib.hid (parse_bad ⟨t.toArray⟩ hts (fun u h => hok ⟨u, h⟩) w hl)
      clear hn hex ht hl hb hok
      cases b
      · go_enter Tryd.func13, Tryd.ntmps13
        go_wp2_with (first
          | (go_at_call 17; refine hcut.out.mono ?_; rintro e w1 ⟨rfl, rfl⟩)
          | (go_at_call 18; refine hp.out.mono ?_; rintro e w2 ⟨⟨n, N, rfl⟩, hb2⟩; have HB2 := Lib.hid hb2; clear hb2))
        go_ret2
        exact ⟨rfl, HB2.out⟩
      · go_enter Tryd.func13, Tryd.ntmps13
        go_wp2_with (first
          | (go_at_call 17; refine hcut.out.mono ?_; rintro e w1 ⟨rfl, rfl⟩)
          | (go_at_call 18; refine hp.out.mono ?_; rintro e w2 ⟨⟨n, N, rfl⟩, hb2⟩; have HB2 := Lib.hid hb2; clear hb2))
        go_ret2
        exact ⟨rfl, HB2.out⟩

theorem cut_t (u : Nat) : Lib.hasSuffix ([] ++ (padL u ++ [46, 115, 115, 116])) [46, 115, 115, 116] = true ∧ Lib.trimSuffix ([] ++ (padL u ++ [46, 115, 115, 116])) [46, 115, 115, 116] = padL u := by
  have h : Lib.hasSuffix ([] ++ (padL u ++ [46, 115, 115, 116])) [46, 115, 115, 116] = true := by
    unfold Lib.hasSuffix
    simp
  refine ⟨h, ?_⟩
  unfold Lib.trimSuffix
  rw [if_pos h]
  simp
set_option maxRecDepth 100000 in
set_option maxHeartbeats 1000000 in
theorem numbered_t (s : ByteArray) (hs : s.size ≤ 140737488355328) (w : World) (hl : Laid w) :
    Calls Tryd.prog 15 #[.string s] w fun e w' => e = .returned (.tuple #[.int .u64 ((numOf [] [46, 115, 115, 116] s.data.toList).1 : Int), .bool (numOf [] [46, 115, 115, 116] s.data.toList).2]) ∧ Below w.heap.size w w' := by
  have hcut := Lib.hid (Tryd.strings_CutSuffix s ⟨#[46, 115, 115, 116]⟩ w (by omega))
  obtain ⟨t, ht⟩ : ∃ t, Lib.trimSuffix s.data.toList [46, 115, 115, 116] = t := ⟨_, rfl⟩
  obtain ⟨b, hb⟩ : ∃ b, Lib.hasSuffix s.data.toList [46, 115, 115, 116] = b := ⟨_, rfl⟩
  have htl : t.length ≤ s.size := by
    rw [← ht, Lib.size_eq]
    unfold Lib.trimSuffix
    split
    · simp
    · exact Nat.le_refl _
  rw [show (⟨#[46, 115, 115, 116]⟩ : ByteArray).data.toList = [46, 115, 115, 116] from rfl, ht, hb] at hcut
  have hts : (⟨t.toArray⟩ : ByteArray).size ≤ 281474976710656 := by show t.length ≤ _; omega
  by_cases hex : ∃ u, u < 18446744073709551616 ∧ s.data.toList = ([] ++ (padL u ++ [46, 115, 115, 116]))
  · obtain ⟨u, hu, e⟩ := hex
    have hn : numOf [] [46, 115, 115, 116] s.data.toList = (u, true) := by rw [e]; exact numOf_yes (by first | exact .inl rfl | exact .inr ⟨_, _, rfl, by unfold isDig; decide⟩) hu
    obtain ⟨c1, c2⟩ := cut_t u
    have ht2 : t = padL u := by rw [← ht, e, c2]
    have hb2 : b = true := by rw [← hb, e, c1]
    subst hb2
    have hp := Lib.hid (parse_ok ⟨t.toArray⟩ hts u (by show parseUintB 64 t = _; rw [ht2]; exact parse_pad u hu) w)
    have hnm := Lib.hid (fun W hW => named_t u hu W hW)
    have hse : (⟨(padL u ++ [46, 115, 115, 116]).toArray⟩ : ByteArray) = s := by
      apply ByteArray.ext
      apply Array.ext'
      rw [e]; simp
    rw [hse] at hnm
    have HL := Lib.hid hl
    rw [hn]
    clear hn e c1 c2 ht2 ht hse hl hb
    go_enter Tryd.func15, Tryd.ntmps15
    go_wp2_with (first
      | (go_at_call 21; refine hcut.out.mono ?_; rintro e w1 ⟨rfl, rfl⟩)
      | (go_at_call 18; refine hp.out.mono ?_; rintro e w2 ⟨rfl, hb2⟩; have HB2 := Lib.hid hb2; clear hb2)
      | (go_at_call 16; refine (hnm.out _ (HL.out.more HB2.out)).mono ?_; rintro e w3 ⟨rfl, hb3⟩; have HB3 := Lib.hid (HB2.out.trans (hb3.mono HB2.out.size)); clear hb3))
    go_ret2
    exact ⟨rfl, HB3.out⟩
  · have hn : numOf [] [46, 115, 115, 116] s.data.toList = (0, false) := numOf_no (fun u hu e => hex ⟨u, hu, e⟩)
    rw [hn]
    have HL := Lib.hid hl
    by_cases hok : ∃ u, Lib.parseUintB 64 t = .ok u
    · obtain ⟨u, hpu⟩ := hok
      have hu := parseB_lt hpu
      have hp := Lib.hid (parse_ok ⟨t.toArray⟩ hts u hpu w)
      have hnm := Lib.hid (fun W hW => named_t u hu W hW)
      have hse : ((⟨(padL u ++ [46, 115, 115, 116]).toArray⟩ : ByteArray).toList == s.toList) = false := by
        rw [beq_eq_false_iff_ne, Lib.toList_data, Lib.toList_data]
        intro e
        apply hex
        refine ⟨u, hu, ?_⟩
        rw [← e]; simp
      obtain ⟨nm, hnm2⟩ : ∃ nm : ByteArray, (⟨(padL u ++ [46, 115, 115, 116]).toArray⟩ : ByteArray) = nm := ⟨_, rfl⟩
      rw [hnm2] at hnm hse
      clear hn hex ht hl hb hpu hnm2
      cases b
      · go_enter Tryd.func15, Tryd.ntmps15
        go_wp2_with (first
          | (go_at_call 21; refine hcut.out.mono ?_; rintro e w1 ⟨rfl, rfl⟩)
          | (go_at_call 18; refine hp.out.mono ?_; rintro e w2 ⟨rfl, hb2⟩; have HB2 := Lib.hid hb2; clear hb2))
        go_ret2
        exact ⟨rfl, HB2.out⟩
      · go_enter Tryd.func15, Tryd.ntmps15
        go_wp2_with (first
          | (go_at_call 21; refine hcut.out.mono ?_; rintro e w1 ⟨rfl, rfl⟩)
          | (go_at_call 18; refine hp.out.mono ?_; rintro e w2 ⟨rfl, hb2⟩; have HB2 := Lib.hid hb2; clear hb2)
          | (go_at_call 16; refine (hnm.out _ (HL.out.more HB2.out)).mono ?_; rintro e w3 ⟨rfl, hb3⟩; have HB3 := Lib.hid (HB2.out.trans (hb3.mono HB2.out.size)); clear hb3))
        go_ret2
        exact ⟨rfl, HB3.out⟩
    · have hp := Lib.hid (parse_bad ⟨t.toArray⟩ hts (fun u h => hok ⟨u, h⟩) w hl)
      clear hn hex ht hl hb hok
      cases b
      · go_enter Tryd.func15, Tryd.ntmps15
        go_wp2_with (first
          | (go_at_call 21; refine hcut.out.mono ?_; rintro e w1 ⟨rfl, rfl⟩)
          | (go_at_call 18; refine hp.out.mono ?_; rintro e w2 ⟨⟨n, N, rfl⟩, hb2⟩; have HB2 := Lib.hid hb2; clear hb2))
        go_ret2
        exact ⟨rfl, HB2.out⟩
      · go_enter Tryd.func15, Tryd.ntmps15
        go_wp2_with (first
          | (go_at_call 21; refine hcut.out.mono ?_; rintro e w1 ⟨rfl, rfl⟩)
          | (go_at_call 18; refine hp.out.mono ?_; rintro e w2 ⟨⟨n, N, rfl⟩, hb2⟩; have HB2 := Lib.hid hb2; clear hb2))
        go_ret2
        exact ⟨rfl, HB2.out⟩
end Go.Proofs.YtnoninlgjnjlaaaDoor
