import Derived.Test.YtkinddhbdjbdgaaMay
import Derived.Laws.BytesArg
namespace Go.Proofs.Ytkinddhbdjbdgaa
open Go.RowKit
attribute [local go_sem] Oper.semAt_some

def keyA : ByteArray := ⟨#[97]⟩
def liveXs : List Int := (keysTo [keyA] 8 6 1).set 8 6
def key2 (i : Nat) : ByteArray := strOfNums [(i : Int), 120]
/-- of the first k keys so many are not told of -/
def noTo (k : Nat) : Nat := (List.range k).countP fun i => !mayI liveXs (hashI (key2 i)) 8 6
theorem noTo_le (k : Nat) (hk : k ≤ 200) : noTo k ≤ 200 := by
  have := List.countP_le_length (p := fun i => !mayI liveXs (hashI (key2 i)) 8 6) (l := List.range k)
  rw [List.length_range] at this
  unfold noTo; omega
theorem noTo_succ (k : Nat) : noTo (k + 1) = noTo k + if mayI liveXs (hashI (key2 k)) 8 6 = true then 0 else 1 := by
  unfold noTo
  rw [List.range_succ, List.countP_append]
  cases h : mayI liveXs (hashI (key2 k)) 8 6 <;> simp [h]
theorem live_a : mayI liveXs (hashI keyA) 8 6 = true := by decide +kernel
theorem live_no : 150 < noTo 200 := by decide +kernel

set_option maxRecDepth 100000 in
set_option maxHeartbeats 1000000 in
theorem lives_any (w : World) : Calls Try.prog 5 #[] w fun e w' => e = .returned (.bool true) ∧ Below w.heap.size w w' := by
  go_enter Try.func5, Try.ntmps5
  go_wp2_with fail
  refine (callsIn_wide.1 (Build_ok 0 (some ⟨w.heap.size, 0, none⟩) w.heap.size 0 1 [keyA] 10 (w.alloc (.cells #[.string keyA] 9)) (by omega) (by omega) (by simp)
    (fun i s hs => by
      cases i with
      | zero =>
        have e : s = keyA := by simpa using hs.symm
        rw [e]; exact (Boxed.new w 9 (.string keyA)).cell
      | succ i => simp at hs)
    (fun s hs => by simp at hs; subst hs; unfold maxLen; decide) (fun _ => ⟨by simp, rfl⟩) 8 rfl)).mono ?_
  rintro e w1 ⟨rfl, hb1, hblk⟩
  have ec : countI 10 = 6 := by decide
  rw [ec] at hblk
  simp only [World.size_alloc] at hb1 hblk ⊢
  have hblk1 : w1.heap[w.heap.size + 1]? = some (.cells (cellsOf liveXs) 5 (0, 0)) := hblk
  have hlen : liveXs.length = 8 + 1 := by decide +kernel
  have hlast : liveXs.getD 8 0 = ((6 : Nat) : Int) := by decide +kernel
  have hbel : Below w.heap.size w w1 := ((Below.refl _ w).alloc (Nat.le_refl _) _).trans (hb1.mono (by omega))
  have may : ∀ (s : ByteArray) (W : World), s.size ≤ maxLen → W.heap[w.heap.size + 1]? = some (.cells (cellsOf liveXs) 5 (0, 0)) → Calls Try.prog 8 #[.slice (some ⟨w.heap.size + 1, 0, none⟩) 9 9, .string s] W fun e w' => e = .returned (.bool (mayI liveXs (hashI s) 8 6)) ∧ Below W.heap.size W w' :=
    fun s W h1 h2 => callsIn_wide.1 (May_any 0 (w.heap.size + 1) 8 9 6 liveXs s W h1 (by omega) (by omega) hlen hlast (by omega) (by omega) h2)
  have MAY := Lib.hid may
  have HB := Lib.hid hblk1
  clear may hblk hblk1 hlen hlast hb1 ec
  go_wp2_with fail
  refine (MAY.out _ _ (by unfold maxLen; decide) HB.out).mono ?_
  rintro e w2 ⟨rfl, hb2⟩
  have hla : mayI liveXs (hashI ⟨#[97]⟩) 8 6 = true := live_a
  rw [hla]
  have hbel2 : Below w.heap.size w w2 := hbel.trans (hb2.mono hbel.size)
  have hg1 : w.heap.size + 1 < w1.heap.size := (Array.getElem?_eq_some_iff.1 HB.out).1
  have HB2 : Hid (w2.heap[w.heap.size + 1]? = some (.cells (cellsOf liveXs) 5 (0, 0))) := Lib.hid ((hb2.block _ hg1).trans HB.out)
  clear hb2 hbel hg1 HB hla
  go_wp2_with fail
  go_loopw [3, 4] (fun n i wr => ∃ k : Nat, k ≤ 200 ∧ n = .int .i64 (noTo k) ∧ i = .int .i64 k ∧ wr.heap[w.heap.size + 1]? = some (.cells (cellsOf liveXs) 5 (0, 0)) ∧ Below w.heap.size w wr) (fun _ i _ => 200 - (intOf i).toNat)
  case atStart => exact ⟨0, by omega, rfl, rfl, HB2.out, hbel2⟩
  case round =>
    obtain ⟨k, hk, rfl, rfl, hbl, hbe⟩ := hrel
    have HBL := Lib.hid hbl
    clear hbl HB2 hbel2
    by_cases hlt : k < 200
    · have hnk : noTo k ≤ 200 := noTo_le k (by omega)
      have hcv := run_convert_bytes_arg (P := Try.prog) (wr.alloc (.cells #[.int .u8 (k : Int), .int .u8 120] 5)) 25 5 Try.underlying25 Try.underlying5 wr.heap.size 0 2 2 [(k : Int), 120] rfl
        (fun i hi => by rw [Nat.zero_add]; exact row_cell (xs := [(k : Int), 120]) (World.alloc_heap_new wr (.cells #[.int .u8 (k : Int), .int .u8 120] 5)) (by simpa using hi)) 9 Try.underlying9
      go_wp2_with fail
      have hsz : (strOfNums [(k : Int), 120]).size ≤ maxLen := by rw [strOfNums_size]; unfold maxLen; simp
      have hnew : Below w.heap.size w (wr.alloc (.cells #[.int .u8 (k : Int), .int .u8 120] 5)) := hbe.alloc hbe.size _
      refine (MAY.out _ _ hsz ((Below.heap_alloc _ _ _ ((Array.getElem?_eq_some_iff.1 HBL.out).1)).trans HBL.out)).mono ?_
      rintro e w3 ⟨rfl, hb3⟩
      have hbl3 : w3.heap[w.heap.size + 1]? = some (.cells (cellsOf liveXs) 5 (0, 0)) := (hb3.block _ (by simp; have := (Array.getElem?_eq_some_iff.1 HBL.out).1; omega)).trans ((Below.heap_alloc _ _ _ ((Array.getElem?_eq_some_iff.1 HBL.out).1)).trans HBL.out)
      have HBL3 := Lib.hid hbl3
      have hbe3 := hnew.trans (hb3.mono hnew.size)
      have hst := noTo_succ k
      have HST := Lib.hid hst
      clear hbl3 hst hcv hb3 hnew hsz
      obtain ⟨m, hm⟩ : ∃ m, mayI liveXs (hashI (strOfNums [(k : Int), 120])) 8 6 = m := ⟨_, rfl⟩
      have HM := Lib.hid hm
      rw [hm]
      clear hm
      cases m
      · go_wp2
        go_roundw
        case rel => exact ⟨k + 1, by omega, by rw [HST.out, key2, HM.out]; go_num, by go_num, HBL3.out, hbe3⟩
        case measure => simp [intOf]; omega
      · go_wp2
        go_roundw
        case rel => exact ⟨k + 1, by omega, by rw [HST.out, key2, HM.out]; go_num, by go_num, HBL3.out, hbe3⟩
        case measure => simp [intOf]; omega
    · obtain rfl : k = 200 := by omega
      have hno := live_no
      have hd : decide ((150 : Int) < (noTo 200 : Int)) = true := by simp; omega
      have HNO := Lib.hid hno
      clear hno
      go_wp2
      go_ret
      exact ⟨by first | rfl | simp, hbe⟩
end Go.Proofs.Ytkinddhbdjbdgaa
