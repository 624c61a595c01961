/- The program's names of numbers. Premise: the table of powers of ten lies as the program's text lays it. -/
import Derived.Test.YtnoninlgjnjlaaaDoorNamed
namespace Go.Proofs.YtnoninlgjnjlaaaDoor
set_option linter.unusedVariables false
set_option linter.unusedSimpArgs false
open Go Go.RowKit Go.Lib Go.Sort

theorem format_out (u : Nat) (hu : u < 18446744073709551616) (w : World) (hl : Laid w) :
    Calls Tryd.prog 19 #[.int .u64 (u : Int), .int .i64 10] w fun e w' => e = .returned (.string ⟨(Lib.decDigits u).toArray⟩) ∧ Below w.heap.size w w' := by
  have h := Lib.hid (format_any u hu w hl)
  clear hl
  go_enter Tryd.func19, Tryd.ntmps19
  go_wp2_with (go_at_call 25; refine h.out.mono ?_; rintro e w' ⟨rfl, hb⟩)
  go_ret
  exact ⟨rfl, hb⟩

theorem rep_zeros (c : Nat) : Lib.repeatL [48] c = List.replicate c 48 := by
  induction c with
  | zero => rfl
  | succ c ih => rw [Lib.repeatL, ih, List.replicate_succ]; rfl
theorem ba_app (a b : Array UInt8) : (⟨a⟩ : ByteArray) ++ (⟨b⟩ : ByteArray) = ⟨a ++ b⟩ := by
  apply ByteArray.ext
  simp
theorem parse_le (M : Nat) (l : List UInt8) : ∀ a u, a ≤ M → parseUintM M a l = .ok u → u ≤ M := by
  induction l with
  | nil => intro a u ha h; rw [parseUintM] at h; injection h with h; omega
  | cons c r ih =>
    intro a u ha h
    rw [parseUintM] at h
    split at h
    · split at h
      · cases h
      · split at h
        · cases h
        · exact ih _ u (by omega) h
    · cases h
theorem parseB_lt {l : List UInt8} {u : Nat} (h : parseUintB 64 l = .ok u) : u < 18446744073709551616 := by
  unfold parseUintB at h
  split at h
  · cases h
  · have := parse_le (2 ^ 64 - 1) l 0 u (Nat.zero_le _) h
    have e : (2 : Nat) ^ 64 = 18446744073709551616 := by decide
    omega
theorem bytes_below (w : World) (t : TypeId) (s : ByteArray) : Below w.heap.size w (Lib.bytesWorld w t s) :=
  ⟨rfl, rfl, rfl, by rw [Lib.bytesWorld_size]; omega, fun i hi => Lib.bytesWorld_at_old w t s i hi⟩
theorem parse_ok (s : ByteArray) (hs : s.size ≤ 281474976710656) (u : Nat) (h : Lib.parseUintB 64 s.data.toList = .ok u) (w : World) :
    Calls Tryd.prog 18 #[.string s, .int .i64 10, .int .i64 64] w fun e w' => e = .returned (.tuple #[.int .u64 (u : Int), .nilIface]) ∧ Below w.heap.size w w' := by
  refine (Tryd.strconv_ParseUint_10_at64_ok s (by omega) u h w).mono ?_
  rintro e w' ⟨rfl, hw⟩
  refine ⟨rfl, ?_⟩
  rcases hw with rfl | rfl
  · exact Below.refl _ _
  · exact bytes_below _ _ _
theorem parse_bad (s : ByteArray) (hs : s.size ≤ 281474976710656) (h : ∀ u, Lib.parseUintB 64 s.data.toList ≠ .ok u) (w : World) (hl : Laid w) :
    Calls Tryd.prog 18 #[.string s, .int .i64 10, .int .i64 64] w fun e w' => (∃ (n : Int) (N : Nat), e = .returned (.tuple #[.int .u64 n, .iface 52 (.pointer (some ⟨N, 0, none⟩))])) ∧ Below w.heap.size w w' := by
  obtain ⟨t1, p1, h1⟩ := hl.syn
  obtain ⟨t2, p2, h2⟩ := hl.ran
  rcases hp : Lib.parseUintB 64 s.data.toList with u | _ | _
  · exact absurd hp (h u)
  · refine (Tryd.strconv_ParseUint_10_at64_syntax_var s hs hp t1 p1 w h1).mono ?_
    rintro e w' ⟨N, rfl, -, -, hb⟩
    exact ⟨⟨0, N, rfl⟩, hb⟩
  · refine (Tryd.strconv_ParseUint_10_at64_range_var s hs hp t2 p2 w h2).mono ?_
    rintro e w' ⟨N, rfl, -, -, hb⟩
    exact ⟨⟨18446744073709551615, N, rfl⟩, hb⟩

set_option maxRecDepth 100000 in
theorem named_m (u : Nat) (hu : u < 18446744073709551616) (w : World) (hl : Laid w) :
    Calls Tryd.prog 14 #[.int .u64 (u : Int)] w fun e w' => e = .returned (.string ⟨([77, 65, 78, 73, 70, 69, 83, 84, 45] ++ padL u).toArray⟩) ∧ Below w.heap.size w w' := by
  have h := Lib.hid (format_out u hu w hl)
  clear hl
  obtain ⟨d, hd⟩ : ∃ d, decDigits u = d := ⟨_, rfl⟩
  unfold padL
  rw [hd] at h ⊢
  have hlen : d.length ≤ 20 := by rw [← hd]; exact dec_len u hu
  clear hd
  go_enter Tryd.func14, Tryd.ntmps14
  go_wp2_with (go_at_call 19; refine h.out.mono ?_; rintro e w1 ⟨rfl, hb1⟩)
  rw [show max (6 - (d.length : Int)) 0 = ((6 - d.length : Nat) : Int) by omega]
  have hrep := Lib.hid (Tryd.strings_Repeat ⟨#[48]⟩ (6 - d.length) w1 (by omega) (by show 1 * (6 - d.length) ≤ _; omega))
  have HB := Lib.hid hb1
  clear hb1
  refine hrep.out.mono ?_
  rintro e w2 ⟨rfl, hb2⟩
  have HB2 := Lib.hid (HB.out.trans (hb2.mono HB.out.size))
  clear hb2 hrep
  rw [show (⟨#[48]⟩ : ByteArray).data.toList = [48] from rfl, rep_zeros]
  go_wp2
  go_ret
  refine ⟨?_, HB2.out⟩
  congr 2
set_option maxRecDepth 100000 in
theorem named_t (u : Nat) (hu : u < 18446744073709551616) (w : World) (hl : Laid w) :
    Calls Tryd.prog 16 #[.int .u64 (u : Int)] w fun e w' => e = .returned (.string ⟨(padL u ++ [46, 115, 115, 116]).toArray⟩) ∧ Below w.heap.size w w' := by
  have h := Lib.hid (format_out u hu w hl)
  clear hl
  obtain ⟨d, hd⟩ : ∃ d, decDigits u = d := ⟨_, rfl⟩
  unfold padL
  rw [hd] at h ⊢
  have hlen : d.length ≤ 20 := by rw [← hd]; exact dec_len u hu
  clear hd
  go_enter Tryd.func16, Tryd.ntmps16
  go_wp2_with (go_at_call 19; refine h.out.mono ?_; rintro e w1 ⟨rfl, hb1⟩)
  rw [show max (6 - (d.length : Int)) 0 = ((6 - d.length : Nat) : Int) by omega]
  have hrep := Lib.hid (Tryd.strings_Repeat ⟨#[48]⟩ (6 - d.length) w1 (by omega) (by show 1 * (6 - d.length) ≤ _; omega))
  have HB := Lib.hid hb1
  clear hb1
  refine hrep.out.mono ?_
  rintro e w2 ⟨rfl, hb2⟩
  have HB2 := Lib.hid (HB.out.trans (hb2.mono HB.out.size))
  clear hb2 hrep
  rw [show (⟨#[48]⟩ : ByteArray).data.toList = [48] from rfl, rep_zeros]
  go_wp2
  go_ret
  refine ⟨?_, HB2.out⟩
  congr 2
theorem name_m (u : Nat) (hu : u < 18446744073709551616) (w : World) (hl : Laid w) :
    Calls Tryd.prog 7 #[.int .u64 (u : Int)] w fun e w' => e = .returned (.string ⟨([77, 65, 78, 73, 70, 69, 83, 84, 45] ++ padL u).toArray⟩) ∧ Below w.heap.size w w' := by
  have h := Lib.hid (named_m u hu w hl)
  clear hl
  go_enter Tryd.func7, Tryd.ntmps7
  go_wp2_with (go_at_call 14; refine h.out.mono ?_; rintro e w1 ⟨rfl, hb1⟩)
  go_ret
  exact ⟨rfl, hb1⟩
theorem name_t (u : Nat) (hu : u < 18446744073709551616) (w : World) (hl : Laid w) :
    Calls Tryd.prog 11 #[.int .u64 (u : Int)] w fun e w' => e = .returned (.string ⟨(padL u ++ [46, 115, 115, 116]).toArray⟩) ∧ Below w.heap.size w w' := by
  have h := Lib.hid (named_t u hu w hl)
  clear hl
  go_enter Tryd.func11, Tryd.ntmps11
  go_wp2_with (go_at_call 16; refine h.out.mono ?_; rintro e w1 ⟨rfl, hb1⟩)
  go_ret
  exact ⟨rfl, hb1⟩
end Go.Proofs.YtnoninlgjnjlaaaDoor
