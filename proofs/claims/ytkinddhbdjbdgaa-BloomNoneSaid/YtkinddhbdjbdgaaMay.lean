import Derived.Test.YtkinddhbdjbdgaaBuild
namespace Go.Proofs.Ytkinddhbdjbdgaa
open Go.RowKit
attribute [local go_sem] Oper.semAt_some

def bitSet (xs : List Int) (bit : Nat) : Bool := !(Go.bits .and .u8 (xs.getD (bit / 8) 0 / 2 ^ (bit % 8)) 1 == 0)
/-- the filter tells of a key: all its probes are set -/
def mayI (xs : List Int) (h : Int) (sz many : Nat) : Bool := (List.range many).all fun i => bitSet xs (bitAt h sz i)

set_option maxRecDepth 100000 in
set_option maxHeartbeats 1000000 in
theorem May_any (n g sz cap many : Nat) (xs : List Int) (s : ByteArray) (w : World) (hs : s.size ≤ maxLen) (hsz : 8 ≤ sz) (hsz2 : (sz : Int) < 16777216) (hx : xs.length = sz + 1)
    (hlast : xs.getD sz 0 = (many : Int)) (hm1 : 1 ≤ many) (hm2 : many ≤ 30) (hbl : w.heap[g]? = some (.cells (cellsOf xs) 5 (0, 0))) :
    CallsIn Fence.wide n Try.prog 8 #[.slice (some ⟨g, 0, none⟩) (sz + 1) cap, .string s] w fun e w' => e = .returned (.bool (mayI xs (hashI s) sz many)) ∧ Below w.heap.size w w' := by
  have hgl : g < w.heap.size := (Array.getElem?_eq_some_iff.1 hbl).1
  have hc0 := row_cell hbl (j := sz) (by omega)
  rw [hlast] at hc0
  have hc1 : ∀ o1 o2, ((w.alloc o1).alloc o2).cell? ⟨g, 0 + (sz + 1 - 1), none⟩ = some (.int .u8 (many : Int)) := fun o1 o2 => by
    rw [World.cell?_alloc_lt _ _ _ (by simp; omega), World.cell?_alloc_lt _ _ _ hgl, show 0 + (sz + 1 - 1) = sz from by omega]; exact hc0
  have hd24 : decide ((16777216 : Int) < (sz : Int) + 1) = false := by simp; omega
  have HC1 := Lib.hid hc1
  clear hc1
  have HBL := Lib.hid hbl
  have HX := Lib.hid hx
  have HL := Lib.hid hlast
  clear hbl hx hlast
  refine callsIn_of_wp_marks Try.func8 rfl trivial ?_ rfl
  simp only [Try.ntmps8, List.size_toArray, List.length_cons, List.length_nil, Nat.reduceAdd, Nat.reduceSub, Array.replicate_succ, Array.replicate_zero, List.push_toArray, List.append_toArray, List.nil_append, List.cons_append]
  refine wpIn_wide.2 ?_
  go_wp2_with (go_at_call 11; refine (is_any g 0 (sz + 1) cap many _ (by omega) (by unfold maxLen; omega) (HC1.out _ _) (by omega) (by omega)).mono ?_; rintro e w' ⟨rfl, rfl⟩)
  refine (probes_any s many (8 * (sz : Int)) _ hs).mono ?_
  rintro e w1 ⟨rfl, hb1, hz1, hcg⟩
  simp only [World.size_alloc] at hb1 hz1 hcg ⊢
  have hbx1 : Boxed w1 w.heap.size 25 (.slice (some ⟨g, 0, none⟩) (sz + 1) cap) := (hb1.block _ (by omega)).trans ((Below.heap_alloc _ _ _ (by simp)).trans (World.alloc_heap_new w _))
  have hbx2 : Boxed w1 (w.heap.size + 1) 4 (.bool false) := (hb1.block _ (by omega)).trans (by have := World.alloc_heap_new (w.alloc (.cells #[.slice (some ⟨g, 0, none⟩) (sz + 1) cap] 25)) (.cells #[.bool false] 4); rwa [World.size_alloc] at this)
  have hbelow : Below w.heap.size w w1 := (((Below.refl _ w).alloc (Nat.le_refl _) _).alloc (by simp) _).trans (hb1.mono (by omega))
  have hblk1 : w1.heap[g]? = some (.cells (cellsOf xs) 5 (0, 0)) := (hbelow.block _ hgl).trans HBL.out
  have HB1 := Lib.hid hblk1
  clear hblk1 hc0 hb1
  go_wp2
  refine (wpIn_wide (n := n)).1 ?_
  refine wpIn_rangeFunc_iter (n := n) (lb := #[.pointer (some ⟨w.heap.size + 1 + 1, 0, none⟩), .pointer (some ⟨w.heap.size + 1 + 1 + 2, 0, none⟩), .pointer (some ⟨w.heap.size + 1 + 1 + 1, 0, none⟩), .pointer (some ⟨w.heap.size + 1 + 1 + 3, 0, none⟩)]) rfl (Go.Proofs.enters_of Try.func13 (by kernel_rfl) rfl)
    (probes_iter (n - 1) (w.heap.size + 1 + 1) (hashI s) many (8 * (sz : Int)) (by omega) (by omega) (by omega) w1) (fun j hj => by omega) (fun i X Y h0 hk => caught_kept _ _ _ _ _ _ _ h0 hk) (fun _ => rfl)
    (fun i W => (∀ j, j < i → bitSet xs (bitAt (hashI s) sz j) = true) ∧ Chg (fun j => (w.heap.size + 2 ≤ j ∧ j ≤ w.heap.size + 5) ∨ j = w1.heap.size ∨ j = w1.heap.size + 1) w1 W)
    (fun c i W => c = .ret ∧ bitSet xs (bitAt (hashI s) sz i) = false ∧ Boxed W (w.heap.size + 1) 4 (.bool false) ∧ Below w.heap.size w W) ?hI ?hIx ?h0 hcg
    (fun i => { tmps := #[.slice (some ⟨g, 0, none⟩) (sz + 1) cap, .string s, .pointer (some ⟨w.heap.size, 0, none⟩), undef, .pointer (some ⟨w.heap.size + 1, 0, none⟩), .int .i64 sz, .int .u64 (aAt (hashI s) i % (8 * (sz : Int))), .slice (some ⟨g, 0, none⟩) (sz + 1) cap, .bool true, .bool false, .bool false, .slice (some ⟨g, 0, none⟩) (sz + 1) cap, .int .i64 ((sz : Int) + 1), .bool false, .bool false, .slice (some ⟨g, 0, none⟩) (sz + 1) cap, .int .i64 ((sz : Int) + 1), .int .i64 sz, .string s, .slice (some ⟨g, 0, none⟩) (sz + 1) cap, .int .i64 sz, .pointer (some ⟨g, sz, none⟩), .int .u8 many, .int .i64 many, .int .i64 sz, .int .i64 (8 * (sz : Int)), .int .u64 (8 * (sz : Int)), probesF (w.heap.size + 1 + 1), .int .u64 (aAt (hashI s) i % (8 * (sz : Int))), undef, undef, undef, undef, undef, undef, undef, undef, undef, undef], defers := [] }) ?assign ?body ?done ?stop
  case hI =>
    rintro i X Y ⟨hx, hc⟩ hch
    exact ⟨hx, hc.trans (hch.mono (fun j hj => by omega))⟩
  case hIx =>
    rintro c i X Y ⟨hx, hc, hb, hd⟩ hch
    exact ⟨hx, hc, (hch.block _ hb.lt (by omega)).trans hb, hd.trans (hch.below hd.size (fun k hk => by omega))⟩
  case h0 => exact ⟨fun j hj => by omega, Chg.refl _ _⟩
  case assign =>
    intro l i W K _ _ hK
    gi_wp2
    exact hK
  case body =>
    rintro l i W hi hlt2 ⟨hall, hch⟩ hst
    have hbx : Boxed W w.heap.size 25 (.slice (some ⟨g, 0, none⟩) (sz + 1) cap) := (hch.block _ (by omega) (by omega)).trans hbx1
    have hby : Boxed W (w.heap.size + 1) 4 (.bool false) := (hch.block _ (by omega) (by omega)).trans hbx2
    have hc8 := hbx.cell
    have hc9 := hby.cell
    have hf9 := hby.frozen
    have hblW : W.heap[g]? = some (.cells (cellsOf xs) 5 (0, 0)) := (hch.block _ (by omega) (by omega)).trans HB1.out
    obtain ⟨bt, hbt⟩ : ∃ bt : Nat, aAt (hashI s) i % (8 * (sz : Int)) = bt := ⟨(aAt (hashI s) i % (8 * (sz : Int))).toNat, by have := Int.emod_nonneg (aAt (hashI s) i) (b := 8 * (sz : Int)) (by omega); omega⟩
    have hlb : bt < 8 * sz := by have := Int.emod_lt_of_pos (aAt (hashI s) i) (b := 8 * (sz : Int)) (by omega); omega
    have hbit : bitAt (hashI s) sz i = bt := by unfold bitAt; rw [hbt]; simp
    rw [hbt]
    have HB := Lib.hid hbit
    clear hbt hbit
    have hj : bt / 8 < xs.length := by rw [HX.out]; omega
    have hcv := row_cell hblW hj
    obtain ⟨x, hx⟩ : ∃ x, xs.getD (bt / 8) 0 = x := ⟨_, rfl⟩
    rw [hx] at hcv
    have hset : bitSet xs (bitAt (hashI s) sz i) = !(Go.bits .and .u8 (x / 2 ^ (bt % 8)) 1 == 0) := by unfold bitSet; rw [HB.out, hx]
    have HS := Lib.hid hset
    have HCH := Lib.hid hch
    have HALL := Lib.hid hall
    have hbv : bt < 134217728 := by omega
    clear hx hset hall hch hj hblW hst hd24 hsz2 HC1
    gi_wp2
    · have hno : (Go.bits BinOp.and IntKind.u8 (x / 2 ^ (bt % 8)) 1 == 0) = true := by assumption
      refine ⟨fun k hk => Below.heap_setCell W _ _ k (by simp; omega), rfl, by rw [HS.out, hno]; rfl, hby.set _, ?_⟩
      exact ((hbelow.trans (HCH.out.below (by omega) (fun k hk => by omega))).setCell (p := ⟨w.heap.size + 1, 0, none⟩) (by simp) _)
    · have hno : (Go.bits BinOp.and IntKind.u8 (x / 2 ^ (bt % 8)) 1 == 0) = false := by assumption
      refine ⟨fun k hk => rfl, fun j hj => ?_, HCH.out⟩
      by_cases e : j = i
      · rw [e, HS.out, hno]; rfl
      · exact HALL.out j (by omega)
  case done =>
    rintro W ⟨hall, hch⟩ hD
    have hby : Boxed W (w.heap.size + 1) 4 (.bool false) := (hch.block _ (by omega) (by omega)).trans hbx2
    have hc9 := hby.cell
    have hf9 := hby.frozen
    have HALL := Lib.hid hall
    have HCH := Lib.hid hch
    have HD := Lib.hid hD
    clear hall hch hD
    dsimp only
    go_wp2
    refine leaves_marks (Ds := [w1.heap.size]) _ (by simp) (fun D hD => ?_) (fun Y hch2 => ?_)
    · rw [List.mem_singleton.1 hD]; exact (Below.heap_setCell W _ _ _ (by simp; omega)).trans HD.out
    · have hr : Boxed Y (w.heap.size + 1) 4 (.bool true) := (hch2.block _ (by simp [World.setCell]; have := hby.lt; omega) (by simp; omega)).trans (hby.set (.bool true))
      have hc5 := hr.cell
      refine ⟨.bool true, by simp [results, Try.f8, go_sem, hc5], ?_, ?_⟩
      · have : mayI xs (hashI s) sz many = true := by unfold mayI; rw [List.all_eq_true]; intro i hi; exact HALL.out i (List.mem_range.1 hi)
        rw [this]
      · refine ((hbelow.trans (HCH.out.below (by omega) (fun k hk => by omega))).setCell (p := ⟨w.heap.size + 1, 0, none⟩) (by simp) _).trans (hch2.below (by simp [World.setCell]; have := hby.lt; omega) (fun k hk => by rw [List.mem_singleton.1 hk]; omega))
  case stop =>
    rintro c i W hi ⟨rfl, hns, hbx, hb⟩ hD
    have HD := Lib.hid hD
    have HB := Lib.hid hb
    have HN := Lib.hid hns
    clear hD hb hns
    gi_wp2
    refine leaves_marks (Ds := [w1.heap.size]) _ (by simp) (fun D hD => ?_) (fun Y hch2 => ?_)
    · rw [List.mem_singleton.1 hD]; exact HD.out
    · have hr : Boxed Y (w.heap.size + 1) 4 (.bool false) := (hch2.block _ hbx.lt (by simp; omega)).trans hbx
      have hc5 := hr.cell
      refine ⟨.bool false, by simp [results, Try.f8, go_sem, hc5], ?_, ?_⟩
      · have : mayI xs (hashI s) sz many = false := by
          unfold mayI
          rw [Bool.eq_false_iff]
          intro h
          rw [List.all_eq_true] at h
          have := h i (List.mem_range.2 hi)
          rw [HN.out] at this
          cases this
        rw [this]
      · exact HB.out.trans (hch2.below (by have := hbx.lt; omega) (fun k hk => by rw [List.mem_singleton.1 hk]; omega))
end Go.Proofs.Ytkinddhbdjbdgaa
