/- The list of the tasks of which something is true. No condition. -/
import Derived.Test.YtekgdakkkbnpiaaMay
import Derived.Shelf.Abstract
namespace Go.Proofs.Ytekgdakkkbnpiaa
set_option linter.unusedVariables false
set_option linter.unusedSimpArgs false
open Go Go.RowKit

theorem info3 : (Try.prog.info? 3).map (fun i => (i.zero, i.size, i.bytes)) = some (some (.int .i64 0), 1, 8) := by kernel_rfl
def fl (pr : Nat → Bool) (k : Nat) : List Nat := (List.range k).filter pr
def flv (pr : Nat → Bool) (k : Nat) : List Value := (fl pr k).map fun (i : Nat) => Value.int .i64 (i : Int)
theorem fl_le (pr : Nat → Bool) (k : Nat) : (fl pr k).length ≤ k := by
  have := List.length_filter_le pr (List.range k); rw [List.length_range] at this; exact this
theorem fl_succ (pr : Nat → Bool) (k : Nat) : fl pr (k + 1) = fl pr k ++ if pr k then [k] else [] := by
  unfold fl; rw [List.range_succ, List.filter_append]; congr 1
  cases h : pr k <;> simp [h]
theorem fl_yes (pr : Nat → Bool) (k : Nat) (h : pr k = true) : (fl pr (k + 1)).length = (fl pr k).length + 1 ∧ flv pr (k + 1) = flv pr k ++ [.int .i64 (k : Int)] := by
  unfold flv; rw [fl_succ, h]; simp
theorem fl_no (pr : Nat → Bool) (k : Nat) (h : pr k = false) : fl pr (k + 1) = fl pr k := by
  rw [fl_succ, h]; simp

set_option maxRecDepth 100000 in
set_option maxHeartbeats 1000000 in
theorem those_any {S M n : Nat} {Ts : List Nat} {tv : Value} {σ : Sc} {w : World} (pf : Nat) (first caps : Array Value) (pr : Nat → Bool)
    (hS : w.heap[S]? = some (.cells (scCells tv M σ) 71 (0, 0))) (hown : w.ownsRow 0 72 1 tv n (Ts.map ptr)) (hn : n ≤ 64) (hl : Ts.length = n)
    (he : ∀ args w, (callFunc pf args).run Try.prog w = .ok (.enter pf args) w)
    (hp : ∀ (i T : Nat) (W : World), Ts[i]? = some T → Below w.heap.size w W → Calls Try.prog pf (first.push (ptr T) ++ caps) W fun e W' => e = .returned (.bool (pr i)) ∧ ∃ k, W' = W.drewN k) :
    Calls Try.prog 33 #[ptr S, .func (.func pf) first caps] w fun e w' => ∃ v, e = .returned v ∧ w'.ownsRow w.heap.size 3 1 v (fl pr n).length (flv pr n) ∧ Below w.heap.size w w' := by
  obtain ⟨s0, -, -, -, -, -⟩ := sc_cell hS
  obtain ⟨i0, hi0, hz0, hz1, hz2⟩ := info_parts info3
  obtain ⟨A, cp, g, rfl, hA⟩ : ∃ A cp g, tv = .slice A n cp ∧ (0 < n → A = some ⟨g, 0, none⟩ ∧ g < w.heap.size) := by
    rcases hown.2 with ⟨rfl, rfl⟩ | ⟨g, cap, cur, rfl, hb, hh, _⟩
    · exact ⟨none, 0, 0, rfl, fun h => by omega⟩
    · exact ⟨_, cap, g, rfl, fun _ => ⟨rfl, (Array.getElem?_eq_some_iff.1 hh).1⟩⟩
  have hcells : ∀ k T, Ts[k]? = some T → w.cell? ⟨g, k, none⟩ = some (ptr T) := fun k T hT => by
    have hk : k < n := by rw [← hl]; exact (List.getElem?_eq_some_iff.1 hT).1
    obtain ⟨rfl, _⟩ := hA (by omega)
    rw [World.ownsRow.cellAt hown k (by omega), List.getElem?_map, hT]; rfl
  have HC := Lib.hid hcells
  have HP := Lib.hid hp
  clear hcells hp hown hS
  unfold ptr
  go_enter Try.func33, Try.ntmps33
  go_wp2
  clear s0
  go_loopw [5, 13] (fun v i wr => ∃ k : Nat, k ≤ n ∧ i = .int .i64 k ∧ wr.ownsRow w.heap.size 3 1 v (fl pr k).length (flv pr k) ∧ Below w.heap.size w wr) (fun _ i _ => n - (intOf i).toNat)
  case atStart => exact ⟨0, Nat.zero_le _, rfl, (by exact World.ownsRow_nil w w.heap.size 3 1), Below.refl _ _⟩
  case round =>
    obtain ⟨k, hk, rfl, hrow, hbe⟩ := hrel
    by_cases hlt : k < n
    · obtain ⟨T, hT⟩ : ∃ T, Ts[k]? = some T := ⟨_, List.getElem?_eq_getElem (by omega)⟩
      obtain ⟨rfl, hg⟩ := hA (by omega)
      have hck : wr.cell? ⟨g, k, none⟩ = some (.pointer (some ⟨T, 0, none⟩)) := (hbe.cell (p := ⟨g, k, none⟩) hg).trans (HC.out k T hT)
      have hcall := HP.out k T wr hT hbe
      have HCALL := Lib.hid hcall
      clear hcall
      have HROW := Lib.hid hrow
      clear hrow
      go_wp2_with fail
      refine HCALL.out.mono ?_
      rintro e W1 ⟨rfl, q, rfl⟩
      clear HP HCALL HC
      cases hpk : pr k
      · have HN := Lib.hid (fl_no pr k hpk)
        go_wp2
        go_roundw
        case rel => exact ⟨k + 1, by omega, by go_num, by unfold flv; rw [HN.out]; exact HROW.out, hbe.trans ⟨rfl, rfl, rfl, Nat.le_refl _, fun _ _ => rfl⟩⟩
        case measure => simp [intOf]; omega
      · have HY := Lib.hid (fl_yes pr k hpk)
        have hfl := fl_le pr k
        have HBE := Lib.hid (show Below w.heap.size w (wr.drewN q) from hbe.trans ⟨rfl, rfl, rfl, Nat.le_refl _, fun _ _ => rfl⟩)
        have HR2 : Hid ((wr.drewN q).ownsRow w.heap.size 3 1 u5 (fl pr k).length (flv pr k)) := Lib.hid HROW.out
        clear hbe HROW
        go_wp2_with (at_builtin; refine wpList_append_own_at _ rfl (.tmp 21) (.tmp 23) 26 rfl w.heap.size 3 i0 (.int .i64 0) 1 8 Try.underlying26 hi0 hz0 hz1 hz2 rfl (by decide) u5 _ _ rfl (HR2.out.alloc _) ⟨_, 0, none⟩ 1 1 [.int .i64 (k : Int)] rfl rfl (cell_one_new _ _ _) (by simp [Value.oneCell']) (by unfold maxLen; omega) (by omega) (by have := HBE.out.size; simp at this ⊢; omega) ?_; intro v1 w1 hown1 hg1 hnil1 hat1)
        go_roundw
        case rel =>
          refine ⟨k + 1, by omega, by go_num, by rw [HY.out.1, HY.out.2]; exact hown1, ?_⟩
          exact (HBE.out.alloc HBE.out.size _).grown hg1 (by have := HBE.out.size; rw [World.size_alloc]; omega) (fun j hj => (HR2.out.lt j hj).1)
        case measure => simp [intOf]; omega
    · go_wp2
      go_ret
      obtain rfl : k = n := by omega
      exact ⟨_, rfl, hrow, hbe⟩

/-- The scheduler's own list of those who may go. -/
def enabledP (σ : Sc) : List Nat := fl (fun i => match σ.tks[i]? with | some t => mayP σ t | none => false) σ.tks.length
def aliveP (σ : Sc) : List Nat := fl (fun i => match σ.tks[i]? with | some t => !(t.kind == 4) | none => false) σ.tks.length
def sleepP (σ : Sc) : List Nat := fl (fun i => match σ.tks[i]? with | some t => t.kind == 3 | none => false) σ.tks.length
def nums (l : List Nat) : List Value := l.map fun (i : Nat) => Value.int .i64 (i : Int)

theorem enters53 : ∀ args w, (callFunc 53 args).run Try.prog w = .ok (.enter 53 args) w := Go.Proofs.enters_of Try.func53 (by kernel_rfl) rfl
theorem enters55 : ∀ args w, (callFunc 55 args).run Try.prog w = .ok (.enter 55 args) w := Go.Proofs.enters_of Try.func55 (by kernel_rfl) rfl
theorem enters34 : ∀ args w, (callFunc 34 args).run Try.prog w = .ok (.enter 34 args) w := Go.Proofs.enters_of Try.func34 (by kernel_rfl) rfl

theorem enabled_any {C : Nat → Prop} {S : Nat} {Ts : List Nat} {σ : Sc} {w : World} (h : Rep C S Ts σ w) (hn : σ.steps < 4611686018427387904) :
    Calls Try.prog 28 #[ptr S] w fun e w' => ∃ v, e = .returned v ∧ w'.ownsRow w.heap.size 3 1 v (enabledP σ).length (nums (enabledP σ)) ∧ Below w.heap.size w w' := by
  have hmf : ∀ (fn : Fn) (first cap : Array Value) (w : World), (Instr.makeFunc fn first cap).run Try.prog w = .ok (.func fn first cap) w := fun _ _ _ _ => rfl
  obtain ⟨⟨tv, M, h1, h2, h3, h8, h9⟩, h4, h5, h6, h7, h10, hw, hs⟩ := h
  have hth := those_any (n := Ts.length) (S := S) (M := M) (Ts := Ts) (tv := tv) (σ := σ) (w := w) 53 #[ptr S] #[] (fun i => match σ.tks[i]? with | some t => mayP σ t | none => false) h1 h2 (by rw [h4]; exact hw.few) rfl enters53
    (fun i T W hT hb => by
      have hi : i < σ.tks.length := by rw [← h4]; exact (List.getElem?_eq_some_iff.1 hT).1
      obtain ⟨t, ht⟩ : ∃ t, σ.tks[i]? = some t := ⟨_, List.getElem?_eq_getElem hi⟩
      have hmem := List.mem_of_getElem? ht
      have hTl := hs T (h10 T (List.mem_of_getElem? hT))
      simp only [ht]
      exact may_any (M := M) (tv := tv) ((hb.block S (hs S h7)).trans h1) ((hb.block T hTl).trans (h6 i t T ht hT)) (h3.same (hb.block M (hs M h8))) (hw.tk t hmem).on (hw.since t hmem).1 hn)
  have HT := Lib.hid hth
  clear hth h1 h2 h3 h5 h6 h9 h10 hs
  unfold ptr
  go_enter Try.func28, Try.ntmps28
  go_wp2_with fail
  refine HT.out.mono ?_
  rintro e w1 ⟨v, rfl, hown, hbe⟩
  go_wp2
  go_ret
  rw [h4] at hown
  exact ⟨v, rfl, hown, hbe⟩

theorem Enabled_any {C : Nat → Prop} {S : Nat} {Ts : List Nat} {σ : Sc} {w : World} (h : Rep C S Ts σ w) (hn : σ.steps < 4611686018427387904) :
    Calls Try.prog 12 #[ptr S] w fun e w' => ∃ v, e = .returned v ∧ w'.ownsRow w.heap.size 3 1 v (enabledP σ).length (nums (enabledP σ)) ∧ Below w.heap.size w w' := by
  have HT := Lib.hid (enabled_any h hn)
  clear h
  unfold ptr
  go_enter Try.func12, Try.ntmps12
  go_wp2_with fail
  refine HT.out.mono ?_
  rintro e w1 ⟨v, rfl, hown, hbe⟩
  go_wp2
  go_ret
  exact ⟨v, rfl, hown, hbe⟩

theorem alive1_any {T : Nat} {t : Tk} {w : World} (hT : w.heap[T]? = some (.cells (tkCells t) 74 (0, 0))) :
    Calls Try.prog 55 #[ptr T] w fun e w' => e = .returned (.bool (!(t.kind == 4))) ∧ ∃ k, w' = w.drewN k := by
  obtain ⟨t0, t1, t2, t3, t4, t5, t6, -⟩ := tk_cell hT
  unfold ptr
  go_enter Try.func55, Try.ntmps55
  go_wp2
  go_ret
  exact ⟨by first | rfl | simp, 0, rfl⟩

theorem dead1_any {T : Nat} {t : Tk} {w : World} (hT : w.heap[T]? = some (.cells (tkCells t) 74 (0, 0))) :
    Calls Try.prog 34 #[ptr T] w fun e w' => e = .returned (.bool (t.kind == 3)) ∧ ∃ k, w' = w.drewN k := by
  obtain ⟨t0, t1, t2, t3, t4, t5, t6, -⟩ := tk_cell hT
  unfold ptr
  go_enter Try.func34, Try.ntmps34
  go_wp2
  go_ret
  exact ⟨by first | rfl | simp, 0, rfl⟩

theorem those_alive {C : Nat → Prop} {S : Nat} {Ts : List Nat} {σ : Sc} {w : World} (h : Rep C S Ts σ w) :
    Calls Try.prog 33 #[ptr S, .func (.func 55) #[] #[]] w fun e w' => ∃ v, e = .returned v ∧ w'.ownsRow w.heap.size 3 1 v (aliveP σ).length (nums (aliveP σ)) ∧ Below w.heap.size w w' := by
  obtain ⟨⟨tv, M, h1, h2, h3, h8, h9⟩, h4, h5, h6, h7, h10, hw, hs⟩ := h
  have hth := those_any (n := Ts.length) (S := S) (M := M) (Ts := Ts) (tv := tv) (σ := σ) (w := w) 55 #[] #[] (fun i => match σ.tks[i]? with | some t => !(t.kind == 4) | none => false) h1 h2 (by rw [h4]; exact hw.few) rfl enters55
    (fun i T W hT hb => by
      have hi : i < σ.tks.length := by rw [← h4]; exact (List.getElem?_eq_some_iff.1 hT).1
      obtain ⟨t, ht⟩ : ∃ t, σ.tks[i]? = some t := ⟨_, List.getElem?_eq_getElem hi⟩
      have hTl := hs T (h10 T (List.mem_of_getElem? hT))
      simp only [ht]
      exact alive1_any ((hb.block T hTl).trans (h6 i t T ht hT)))
  rw [h4] at hth
  exact hth

theorem those_sleep {C : Nat → Prop} {S : Nat} {Ts : List Nat} {σ : Sc} {w : World} (h : Rep C S Ts σ w) :
    Calls Try.prog 33 #[ptr S, .func (.func 34) #[] #[]] w fun e w' => ∃ v, e = .returned v ∧ w'.ownsRow w.heap.size 3 1 v (sleepP σ).length (nums (sleepP σ)) ∧ Below w.heap.size w w' := by
  obtain ⟨⟨tv, M, h1, h2, h3, h8, h9⟩, h4, h5, h6, h7, h10, hw, hs⟩ := h
  have hth := those_any (n := Ts.length) (S := S) (M := M) (Ts := Ts) (tv := tv) (σ := σ) (w := w) 34 #[] #[] (fun i => match σ.tks[i]? with | some t => t.kind == 3 | none => false) h1 h2 (by rw [h4]; exact hw.few) rfl enters34
    (fun i T W hT hb => by
      have hi : i < σ.tks.length := by rw [← h4]; exact (List.getElem?_eq_some_iff.1 hT).1
      obtain ⟨t, ht⟩ : ∃ t, σ.tks[i]? = some t := ⟨_, List.getElem?_eq_getElem hi⟩
      have hTl := hs T (h10 T (List.mem_of_getElem? hT))
      simp only [ht]
      exact dead1_any ((hb.block T hTl).trans (h6 i t T ht hT)))
  rw [h4] at hth
  exact hth

theorem alive_any {C : Nat → Prop} {S : Nat} {Ts : List Nat} {σ : Sc} {w : World} (h : Rep C S Ts σ w) :
    Calls Try.prog 30 #[ptr S] w fun e w' => ∃ v, e = .returned v ∧ w'.ownsRow w.heap.size 3 1 v (aliveP σ).length (nums (aliveP σ)) ∧ Below w.heap.size w w' := by
  have hmf : ∀ (fn : Fn) (first cap : Array Value) (w : World), (Instr.makeFunc fn first cap).run Try.prog w = .ok (.func fn first cap) w := fun _ _ _ _ => rfl
  have HT := Lib.hid (those_alive h)
  clear h
  unfold ptr at *
  go_enter Try.func30, Try.ntmps30
  go_wp2_with fail
  refine HT.out.mono ?_
  rintro e w1 ⟨v, rfl, hown, hbe⟩
  go_wp2
  go_ret
  exact ⟨v, rfl, hown, hbe⟩
theorem Alive_any {C : Nat → Prop} {S : Nat} {Ts : List Nat} {σ : Sc} {w : World} (h : Rep C S Ts σ w) :
    Calls Try.prog 14 #[ptr S] w fun e w' => ∃ v, e = .returned v ∧ w'.ownsRow w.heap.size 3 1 v (aliveP σ).length (nums (aliveP σ)) ∧ Below w.heap.size w w' := by
  have HT := Lib.hid (alive_any h)
  clear h
  unfold ptr at *
  go_enter Try.func14, Try.ntmps14
  go_wp2_with fail
  refine HT.out.mono ?_
  rintro e w1 ⟨v, rfl, hown, hbe⟩
  go_wp2
  go_ret
  exact ⟨v, rfl, hown, hbe⟩
end Go.Proofs.Ytekgdakkkbnpiaa
