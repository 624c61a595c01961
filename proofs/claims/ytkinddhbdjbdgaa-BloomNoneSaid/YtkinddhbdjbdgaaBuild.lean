import Derived.Test.YtkinddhbdjbdgaaSmall
import Derived.Laws.MakeOwn
import Derived.Shelf.Abstract
namespace Go.Proofs.Ytkinddhbdjbdgaa
open Go.RowKit
attribute [local go_sem] Oper.semAt_some

theorem info5 : (Try.prog.info? 5).map (fun i => (i.zero, i.size, i.bytes)) = some (some (.int .u8 0), 1, 1) := by kernel_rfl

def cellsOf (xs : List Int) : Array Value := (xs.map (Value.int .u8)).toArray
theorem madeCells_zero (n : Nat) : madeCells #[.int .u8 0] n = cellsOf (List.replicate n 0) := by
  unfold madeCells cellsOf
  apply Array.ext
  · simp
  · intro i h1 h2
    simp
    rw [show i % 1 = 0 from by omega]
    rfl


/-- one bit more is set -/
def setBit (xs : List Int) (bit : Nat) : List Int := xs.set (bit / 8) (Go.bits .or .u8 (xs.getD (bit / 8) 0) (2 ^ (bit % 8) % 256))
/-- the i-th probe's bit -/
def bitAt (h : Int) (sz i : Nat) : Nat := (aAt h i % (8 * (sz : Int))).toNat
/-- the bytes behind i probes of a key -/
def addTo (h : Int) (sz : Nat) (xs : List Int) : Nat → List Int
  | 0 => xs
  | i + 1 => setBit (addTo h sz xs i) (bitAt h sz i)
/-- the bytes behind k keys -/
def keysTo (ss : List ByteArray) (sz n : Nat) : Nat → List Int
  | 0 => List.replicate (sz + 1) 0
  | k + 1 => addTo (hashI (ss.getD k ByteArray.empty)) sz (keysTo ss sz n k) n

theorem setBit_length (xs : List Int) (b : Nat) : (setBit xs b).length = xs.length := by simp [setBit]
theorem addTo_length (h : Int) (sz : Nat) (xs : List Int) (i : Nat) : (addTo h sz xs i).length = xs.length := by
  induction i with
  | zero => rfl
  | succ i ih => rw [addTo, setBit_length, ih]
theorem keysTo_length (ss : List ByteArray) (sz n k : Nat) : (keysTo ss sz n k).length = sz + 1 := by
  induction k with
  | zero => simp [keysTo]
  | succ k ih => rw [keysTo, addTo_length, ih]

/-- A block of bytes that is known whole. -/
theorem row_cell {W : World} {g j : Nat} {xs : List Int} (h : W.heap[g]? = some (.cells (cellsOf xs) 5 (0, 0))) (hj : j < xs.length) : W.cell? ⟨g, j, none⟩ = some (.int .u8 (xs.getD j 0)) := by
  simp [World.cell?, h, cellsOf, List.getElem?_eq_getElem hj]
theorem row_frozen {W : World} {g j : Nat} {xs : List Int} (h : W.heap[g]? = some (.cells (cellsOf xs) 5 (0, 0))) : W.frozen? ⟨g, j, none⟩ = false := by
  simp [World.frozen?, h]
theorem row_set {W : World} {g j : Nat} {xs : List Int} (h : W.heap[g]? = some (.cells (cellsOf xs) 5 (0, 0))) (v : Int) : (W.setCell ⟨g, j, none⟩ (.int .u8 v)).heap[g]? = some (.cells (cellsOf (xs.set j v)) 5 (0, 0)) := by
  simp [World.setCell, Array.getElem?_modify, h, cellsOf, List.map_set]

/-- What holds at the head of each round of Build: k keys are in. -/
def BuildRel (w : World) (ss : List ByteArray) (sz n : Nat) (k : Nat) (Ds : List Nat) (wr : World) : Prop :=
  Ds.Nodup ∧ (∀ D ∈ Ds, w.heap.size ≤ D ∧ wr.heap[D]? = some (.deferred (some []))) ∧ wr.heap[w.heap.size]? = some (.cells (cellsOf (keysTo ss sz n k)) 5 (0, 0)) ∧
  Boxed wr (w.heap.size + 1) 25 (.slice (some ⟨w.heap.size, 0, none⟩) (sz + 1) (sz + 1)) ∧ Below w.heap.size w wr

set_option maxRecDepth 100000 in
set_option maxHeartbeats 1000000 in
theorem Build_ok (n : Nat) (A : Option Addr) (b off cap : Nat) (ss : List ByteArray) (bits : Int) (w : World) (h1 : 1 ≤ bits) (h2 : bits ≤ 64) (hlen : ss.length ≤ 1048576)
    (hcell : ∀ i s, ss[i]? = some s → w.cell? ⟨b, off + i, none⟩ = some (.string s)) (hss : ∀ s ∈ ss, s.size ≤ maxLen) (hb : 0 < ss.length → b < w.heap.size ∧ A = some ⟨b, off, none⟩)
    (sz : Nat) (hsz : (if (bits * ss.length + 7) / 8 < 8 then 8 else (bits * ss.length + 7) / 8) = (sz : Int)) :
    CallsIn Fence.wide n Try.prog 6 #[.slice A ss.length cap, .int .i64 bits] w fun e w' => e = .returned (.tuple #[.slice (some ⟨w.heap.size, 0, none⟩) (sz + 1) (sz + 1), .int .i64 0]) ∧ Below w.heap.size w w' ∧ w'.heap[w.heap.size]? = some (.cells (cellsOf ((keysTo ss sz (countI bits).toNat ss.length).set sz (countI bits))) 5 (0, 0)) := by
  obtain ⟨i0, hi, hz0, hz1, hz2⟩ := info_parts info5
  have hnl : 0 ≤ bits * ss.length ∧ bits * ss.length ≤ 64 * 1048576 := by
    constructor
    · exact Int.mul_nonneg (by omega) (by omega)
    · exact Int.mul_le_mul (by omega) (by omega) (by omega) (by omega)
  have hszb : 8 ≤ sz ∧ sz ≤ 8388609 := by split at hsz <;> omega
  have hc0 : (countI bits == 0) = false := by unfold countI; rw [beq_eq_false_iff_ne]; omega
  have hmk : ∀ u : World, (Instr.makeSlice 25 (.int .i64 ((sz : Int) + 1)) (.int .i64 ((sz : Int) + 1))).run Try.prog u =
      .ok (.slice (some ⟨u.heap.size, 0, none⟩) (sz + 1) (sz + 1)) (u.alloc (.cells (madeCells #[.int .u8 0] (sz + 1)) 5)) := fun u => by
    have h := run_make (P := Try.prog) u 25 5 i0 (.int .u8 0) Try.underlying25 hi hz0 .i64 .i64 ((sz : Int) + 1) ((sz : Int) + 1) (by omega) (Int.le_refl _) (by rw [hz2]; omega) (by omega)
    have e : ((sz : Int) + 1).toNat = sz + 1 := by omega
    rw [e] at h
    simpa [hz1, Value.cells] using h
  refine callsIn_of_wp_marks Try.func6 rfl trivial ?_ rfl
  simp only [Try.ntmps6, List.size_toArray, List.length_cons, List.length_nil, Nat.reduceAdd, Nat.reduceSub, Array.replicate_succ, Array.replicate_zero, List.push_toArray, List.append_toArray, List.nil_append, List.cons_append]
  refine wpIn_wide.2 ?_
  go_wp2_with (go_at_call 9; refine (count_any _ _ h1 h2).mono ?_; rintro e w' ⟨rfl, rfl⟩)
  clear hmk hsz
  obtain ⟨many, hmany⟩ : ∃ many : Nat, countI bits = many := ⟨(countI bits).toNat, by unfold countI; omega⟩
  have hm30 : many ≤ 30 := by unfold countI at hmany; omega
  rw [hmany] at hc0 ⊢
  refine wp_loop (fun a wr => ∃ (k : Nat) (Ds : List Nat) (u10 u11 u32 u33 u34 u35 u36 u37 u38 u39 u40 u41 u42 u43 u44 u45 u46 u47 u48 u49 u50 u51 u52 : Value), a = { tmps := #[.slice A ss.length cap, .int .i64 bits, undef, undef, .slice none 0 0, .int .i64 0, .int .i64 many, .int .i64 sz, .pointer (some ⟨w.heap.size + 1, 0, none⟩), undef, u10, u11, .int .i64 bits, .int .i64 many, .int .i64 many, .bool false, .slice A ss.length cap, .int .i64 ss.length, .bool (decide (1048576 < (ss.length : Int))), .int .i64 bits, .slice A ss.length cap, .int .i64 ss.length, .int .i64 (bits * ss.length), .int .i64 (bits * ss.length + 7), .int .i64 ((bits * ss.length + 7) / 8), .int .i64 sz, .int .i64 sz, .int .i64 ((sz : Int) + 1), .slice (some ⟨w.heap.size, 0, none⟩) (sz + 1) (sz + 1), .slice A ss.length cap, .int .i64 ss.length, .int .i64 k, u32, u33, u34, u35, u36, u37, u38, u39, u40, u41, u42, u43, u44, u45, u46, u47, u48, u49, u50, u51, u52, undef, undef, undef, undef, undef, undef], defers := Ds.map loopMark } ∧ k ≤ ss.length ∧ BuildRel w ss sz many k Ds wr)
    (fun a _ => ss.length - (intOf (a.tmps.getD 31 undef)).toNat) ?_ ?_
  · refine ⟨0, [], _, _, _, _, _, _, _, _, _, _, _, _, _, _, _, _, _, _, _, _, _, _, _, rfl, Nat.zero_le _, ?_⟩
    have hm := madeCells_zero (sz + 1)
    have e0 : keysTo ss sz many 0 = List.replicate (sz + 1) 0 := rfl
    refine ⟨List.nodup_nil, (fun D hD => by cases hD), ?_, ?_, ?_⟩
    · rw [e0, ← hm]; exact (Below.heap_alloc _ _ _ (by simp)).trans (World.alloc_heap_new w _)
    · have := Boxed.new (w.alloc (.cells (madeCells #[.int .u8 0] (sz + 1)) 5)) 25 (.slice (some ⟨w.heap.size, 0, none⟩) (sz + 1) (sz + 1))
      rwa [World.size_alloc] at this
    · exact ((Below.refl _ w).alloc (Nat.le_refl _) _).alloc (by simp) _
  · rintro a wr ⟨k, Ds, u10, u11, u32, u33, u34, u35, u36, u37, u38, u39, u40, u41, u42, u43, u44, u45, u46, u47, u48, u49, u50, u51, u52, rfl, hk, hrel⟩
    dsimp only
    by_cases hlt : k < ss.length
    · obtain ⟨hbw, hA⟩ := hb (by omega)
      subst hA
      obtain ⟨s, hs⟩ : ∃ s, ss[k]? = some s := ⟨_, List.getElem?_eq_getElem hlt⟩
      have hsz : s.size ≤ maxLen := hss s (List.mem_of_getElem? hs)
      have hcx : wr.cell? ⟨b, off + k, none⟩ = some (.string s) := (hrel.2.2.2.2.cell (p := ⟨b, off + k, none⟩) hbw).trans (hcell k s hs)
      go_wp2_with (go_at_call 10; refine (probes_any _ _ _ _ hsz).mono ?_; rintro e w1 ⟨rfl, hb1, hz1, hcg⟩)
      have hsz8 : (8 : Nat) ≤ sz := hszb.1
      obtain ⟨hnd, hds, hblk, hbox, hbel⟩ := hrel
      have hgl : w.heap.size + 1 < wr.heap.size := hbox.lt
      refine (wpIn_wide (n := n)).1 ?_
      refine wpIn_rangeFunc_iter (n := n) (lb := #[.pointer (some ⟨wr.heap.size, 0, none⟩), .pointer (some ⟨wr.heap.size + 2, 0, none⟩), .pointer (some ⟨wr.heap.size + 1, 0, none⟩), .pointer (some ⟨wr.heap.size + 3, 0, none⟩)]) rfl (Go.Proofs.enters_of Try.func13 (by kernel_rfl) rfl)
        (probes_iter (n - 1) wr.heap.size (hashI s) many (8 * (sz : Int)) (by omega) (by omega) (by omega) w1) (fun j hj => by omega) (fun i X Y h0 hk => caught_kept _ _ _ _ _ _ _ h0 hk) (fun _ => rfl)
        (fun i W => W.heap[w.heap.size]? = some (.cells (cellsOf (addTo (hashI s) sz (keysTo ss sz many k) i)) 5 (0, 0)) ∧ Chg (fun j => j = w.heap.size ∨ (wr.heap.size ≤ j ∧ j ≤ wr.heap.size + 3) ∨ j = w1.heap.size ∨ j = w1.heap.size + 1) w1 W)
        (fun _ _ _ => False) ?hI (fun _ _ _ _ h _ => h) ?h0 hcg
        (fun i => { tmps := #[.slice (some ⟨b, off, none⟩) ss.length cap, .int .i64 bits, undef, undef, .slice none 0 0, .int .i64 0, .int .i64 many, .int .i64 sz, .pointer (some ⟨w.heap.size + 1, 0, none⟩), undef, .string s, .int .u64 (aAt (hashI s) i % (8 * (sz : Int))), .int .i64 bits, .int .i64 many, .int .i64 many, .bool false, .slice (some ⟨b, off, none⟩) ss.length cap, .int .i64 ss.length, .bool (decide (1048576 < (ss.length : Int))), .int .i64 bits, .slice (some ⟨b, off, none⟩) ss.length cap, .int .i64 ss.length, .int .i64 (bits * ss.length), .int .i64 (bits * ss.length + 7), .int .i64 ((bits * ss.length + 7) / 8), .int .i64 sz, .int .i64 sz, .int .i64 ((sz : Int) + 1), .slice (some ⟨w.heap.size, 0, none⟩) (sz + 1) (sz + 1), .slice (some ⟨b, off, none⟩) ss.length cap, .int .i64 ss.length, .int .i64 k, .bool true, .pointer (some ⟨b, off + k, none⟩), .string s, .string s, .int .i64 many, .int .i64 sz, .int .i64 (8 * (sz : Int)), .int .u64 (8 * (sz : Int)), probesF wr.heap.size, .int .u64 (aAt (hashI s) i % (8 * (sz : Int))), u42, u43, u44, u45, u46, u47, u48, u49, u50, u51, u52, undef, undef, undef, undef, undef, undef], defers := [] }) ?assign ?body ?done (fun _ _ _ _ h _ => h.elim)
      case hI =>
        rintro i X Y ⟨hx, hc⟩ hch
        refine ⟨(hch.block _ (Array.getElem?_eq_some_iff.1 hx).1 (by omega)).trans hx, hc.trans (hch.mono (fun j hj => by omega))⟩
      case h0 => exact ⟨(hb1.block _ (by omega)).trans hblk, Chg.refl _ _⟩
      case assign =>
        intro l i W K _ _ hK
        gi_wp2
        exact hK
      case body =>
        rintro l i W hi hlt2 ⟨hbl, hch⟩ hst
        have hbx : Boxed W (w.heap.size + 1) 25 (.slice (some ⟨w.heap.size, 0, none⟩) (sz + 1) (sz + 1)) := (hch.block _ (by omega) (by omega)).trans ((hb1.block _ hgl).trans hbox)
        have hc8 := hbx.cell
        obtain ⟨bt, hbt⟩ : ∃ bt : Nat, aAt (hashI s) i % (8 * (sz : Int)) = bt := ⟨(aAt (hashI s) i % (8 * (sz : Int))).toNat, by have := Int.emod_nonneg (aAt (hashI s) i) (b := 8 * (sz : Int)) (by omega); omega⟩
        have hlb : bt < 8 * sz := by have := Int.emod_lt_of_pos (aAt (hashI s) i) (b := 8 * (sz : Int)) (by omega); omega
        rw [hbt]
        have HB := Lib.hid hbt
        clear hbt
        have hj : bt / 8 < (addTo (hashI s) sz (keysTo ss sz many k) i).length := by rw [addTo_length, keysTo_length]; omega
        have hcv := row_cell hbl hj
        obtain ⟨x, hx⟩ : ∃ x, (addTo (hashI s) sz (keysTo ss sz many k) i).getD (bt / 8) 0 = x := ⟨_, rfl⟩
        rw [hx] at hcv
        have HX := Lib.hid hx
        clear hx
        have hfz := row_frozen (j := bt / 8) hbl
        have HBL := Lib.hid hbl
        have HCH := Lib.hid hch
        clear hbl hch hcell hj
        gi_wp2
        have hbit : bitAt (hashI s) sz i = bt := by unfold bitAt; rw [HB.out]; simp
        have hset := row_set (j := bt / 8) HBL.out (Go.bits BinOp.or IntKind.u8 x (2 ^ (bt % 8) % 256))
        refine ⟨fun j hj => Below.heap_setCell W _ _ j (by simp; omega), ?_, HCH.out.setCell (p := ⟨w.heap.size, bt / 8, none⟩) (.inl (.inl rfl)) _⟩
        rw [addTo, hbit, setBit, HX.out]
        exact hset
      case done =>
        rintro W ⟨hbl, hch⟩ hD
        have hkk : keysTo ss sz many (k + 1) = addTo (hashI s) sz (keysTo ss sz many k) many := by rw [keysTo]; simp [List.getD, hs]
        have HBL := Lib.hid hbl
        have HCH := Lib.hid hch
        have HD := Lib.hid hD
        have HK := Lib.hid hkk
        clear hbl hch hD hkk hcell
        dsimp only
        go_wp2
        refine ⟨⟨k + 1, w1.heap.size :: Ds, _, _, _, _, _, _, _, _, _, _, _, _, _, _, _, _, _, _, _, _, _, _, _, rfl, by omega, ?_⟩, by simp [intOf]; omega⟩
        have hDs : ∀ D ∈ Ds, D < wr.heap.size ∧ D ≠ w.heap.size := fun D hD => ⟨(Array.getElem?_eq_some_iff.1 (hds D hD).2).1, fun e => by have := (hds D hD).2; rw [e, hblk] at this; cases this⟩
        refine ⟨List.nodup_cons.2 ⟨fun hin => by have := (hDs _ hin).1; omega, hnd⟩, fun D hD => ?_, by rw [HK.out]; exact HBL.out, ?_, ?_⟩
        · rcases List.mem_cons.1 hD with e | hD
          · rw [e]; exact ⟨by omega, HD.out⟩
          · have h5 := hDs D hD
            exact ⟨(hds D hD).1, (HCH.out.block D (by omega) (by omega)).trans ((hb1.block D h5.1).trans (hds D hD).2)⟩
        · exact (HCH.out.block _ (by omega) (by omega)).trans ((hb1.block _ hgl).trans hbox)
        · exact (hbel.trans (hb1.mono (by omega))).trans (HCH.out.below (by omega) (by omega))
    · obtain rfl : k = ss.length := by omega
      obtain ⟨hnd, hds, hblk, hbox, hbel⟩ := hrel
      have hc8 := hbox.cell
      have hj : sz < (keysTo ss sz many ss.length).length := by rw [keysTo_length]; omega
      have hcv := row_cell hblk hj
      obtain ⟨x, hx⟩ : ∃ x, (keysTo ss sz many ss.length).getD sz 0 = x := ⟨_, rfl⟩
      rw [hx] at hcv
      have hfz := row_frozen (j := sz) hblk
      have hset := row_set (j := sz) hblk (many : Int)
      have HS := Lib.hid hset
      have HBL := Lib.hid hblk
      have HDS := Lib.hid hds
      clear hset hblk hcell hj hx hds
      go_wp2
      have hDs : ∀ D ∈ Ds, D < wr.heap.size ∧ D ≠ w.heap.size := fun D hD => ⟨(Array.getElem?_eq_some_iff.1 (HDS.out D hD).2).1, fun e => by have := (HDS.out D hD).2; rw [e, HBL.out] at this; cases this⟩
      have hgs : w.heap.size < wr.heap.size := (Array.getElem?_eq_some_iff.1 HBL.out).1
      have hss2 : (wr.setCell ⟨w.heap.size, sz, none⟩ (.int .u8 (many : Int))).heap.size = wr.heap.size := by simp [World.setCell]
      refine leaves_marks Ds _ hnd (fun D hD => ?_) (fun W hch => ?_)
      · exact (Below.heap_setCell wr _ _ D (hDs D hD).2).trans (HDS.out D hD).2
      · refine ⟨_, results_tmp2 rfl _ _ _, rfl, ?_, ?_⟩
        · refine (hbel.setCell (p := ⟨w.heap.size, sz, none⟩) (Nat.le_refl _) _).trans (hch.below (by omega) (fun D hD => ?_))
          exact (HDS.out D hD).1
        · rw [hmany, show ((many : Int)).toNat = many from by omega]
          exact (hch.block _ (by omega) (fun hin => (hDs _ hin).2 rfl)).trans HS.out
end Go.Proofs.Ytkinddhbdjbdgaa
