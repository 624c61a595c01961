/- Who waits for something, in the order in which they began to wait. No condition. -/
import Derived.Test.YtekgdakkkbnpiaaWait
import Derived.Test.YtekgdakkkbnpiaaShelf
namespace Go.Proofs.Ytekgdakkkbnpiaa
set_option linter.unusedVariables false
set_option linter.unusedSimpArgs false
open Go Go.RowKit Go.Sort Go.Lib

def ordP (σ : Sc) (i : Nat) : Nat := match σ.tks[i]? with | some t => t.order | none => 0
def waitL (σ : Sc) (on : Int) : List Nat := fl (fun i => match σ.tks[i]? with | some t => waitsB on t | none => false) σ.tks.length
def waitP (σ : Sc) (on : Int) : List Nat := (waitL σ on).mergeSort (fun x y => decide (ordP σ x ≤ ordP σ y))
def DistP (σ : Sc) : Prop := ∀ (i j : Nat) (t u : Tk), σ.tks[i]? = some t → σ.tks[j]? = some u → t.kind = 2 → u.kind = 2 → t.order = u.order → i = j

/-- A row that is written anew is still a row. -/
theorem own_sorted {α : Type} [Inhabited α] {w : World} {base g n cap : Nat} {xs : List Value} (enc : α → Value) (hown : w.ownsRow base 3 1 (.slice (some ⟨g, 0, none⟩) n cap) n xs) (d : Array α) (hd : d.size = n) (m : Nat) (os : Array Obj) :
    (sortWorld enc w g 0 m d os).ownsRow base 3 1 (.slice (some ⟨g, 0, none⟩) n cap) n (d.toList.map enc) := by
  rcases hown.2 with ⟨h0, _⟩ | ⟨g', cap', cur, h1, hb, hh, hn, hc, hs, ht⟩
  · cases h0
  · injection h1 with h1 _ h2
    injection h1 with h1
    injection h1 with h1
    subst h1; subst h2
    have hgl : g < w.heap.size := (Array.getElem?_eq_some_iff.1 hh).1
    refine ⟨by simp [hd], .inr ⟨g, cap, putCells enc 0 d cur, rfl, hb, ?_, hn, hc, by simp [putCells, hs], ?_⟩⟩
    · have h3 : (putRow enc (Sort.ahead w m) g 0 d).heap[g]? = some (.cells (putCells enc 0 d cur) 3 (0, 0)) := by
        unfold putRow mapBlock
        simp only [Array.getElem?_modify]
        have : (Sort.ahead w m).heap[g]? = some (.cells cur 3 (0, 0)) := hh
        rw [this]; rfl
      show (grow _ os).heap[g]? = _
      rw [heap_grow_old _ _ (Array.getElem?_eq_some_iff.1 h3).1]
      exact h3
    · apply List.ext_getElem?
      intro i
      rw [Nat.mul_one, List.getElem?_take, List.getElem?_map]
      by_cases hi : i < n
      · rw [if_pos hi]
        have h4 : i < cur.size := by omega
        simp only [putCells, Array.getElem?_toList, Array.getElem?_mapIdx, Array.getElem?_eq_getElem h4, Option.map_some]
        rw [if_pos ⟨Nat.zero_le _, by omega⟩, Nat.sub_zero]
        rw [Array.getElem?_eq_getElem (by omega : i < d.size), getElem!_pos d i (by omega)]; rfl
      · rw [if_neg hi, Array.getElem?_toList, Array.getElem?_eq_none (by omega)]; rfl

theorem sort_old {α : Type} [Inhabited α] {w : World} (enc : α → Value) (g m : Nat) (d : Array α) (os : Array Obj) {p : Addr} (hp : p.block < w.heap.size) (hg : p.block ≠ g) : (sortWorld enc w g 0 m d os).cell? p = w.cell? p := by
  unfold sortWorld
  rw [cell?_grow _ _ _ (by simpa [putRow, mapBlock, Sort.ahead] using hp), cell?_putRow_other _ _ _ _ _ _ (.inl hg)]; rfl
theorem sort_below {α : Type} [Inhabited α] {w : World} (enc : α → Value) (g m : Nat) (d : Array α) (os : Array Obj) {B : Nat} (hB : B ≤ w.heap.size) (hg : B ≤ g) : Below B w (sortWorld enc w g 0 m d os) := by
  have hs : (putRow enc (Sort.ahead w m) g 0 d).heap.size = w.heap.size := by simp [putRow, mapBlock, Sort.ahead]
  refine ⟨rfl, rfl, rfl, by simp [sortWorld, hs], fun k hk => ?_⟩
  unfold sortWorld
  rw [heap_grow_old _ _ (by rw [hs]; omega)]
  show (w.heap.modify g _)[k]? = _
  rw [Array.getElem?_modify, if_neg (by omega)]

set_option maxHeartbeats 1000000 in
/-- The sort of those who wait. -/
theorem sorted_any {C : Nat → Prop} {S : Nat} {Ts : List Nat} {σ : Sc} {w w0 : World} {base g cap B n : Nat} (h : Rep C S Ts σ w) (hst : σ.wishes < 4611686018427387904) (hd : DistP σ) (on : Int) (hn : n = (waitL σ on).length)
    (hown : w.ownsRow base 3 1 (.slice (some ⟨g, 0, none⟩) n cap) n (nums (waitL σ on))) (hg : w0.heap.size ≤ g) (hw0 : w0.heap.size ≤ w.heap.size) (hC : ∀ k, C k → k < w0.heap.size) (hB : w.cell? ⟨B, 0, none⟩ = some (ptr S)) (hBg : B ≠ g) (hpos : 0 < n) :
    Calls Try.prog 66 #[.slice (some ⟨g, 0, none⟩) n cap, .func (.func 67) #[] #[ptr B]] w fun e w' => e = .returned (.tuple #[]) ∧ w'.ownsRow base 3 1 (.slice (some ⟨g, 0, none⟩) n cap) n (nums (waitP σ on)) ∧ Below w0.heap.size w w' := by
  have hmem : ∀ x, x ∈ waitL σ on → ∃ t, σ.tks[x]? = some t ∧ waitsB on t = true := fun x hx => by
    obtain ⟨p, hp⟩ := List.getElem?_of_mem hx
    have := (fl_mem hp).2
    cases ht : σ.tks[x]? with
    | none => simp only [ht] at this; cases this
    | some t => simp only [ht] at this; exact ⟨t, rfl, this⟩
  let α := {x : Nat // x ∈ waitL σ on}
  have hi : ∃ x, x ∈ waitL σ on := by
    rcases List.exists_mem_of_length_pos (l := waitL σ on) (by omega) with ⟨x, hx⟩
    exact ⟨x, hx⟩
  obtain ⟨x0, hx0⟩ := hi
  letI : Inhabited α := ⟨⟨x0, hx0⟩⟩
  let enc : α → Value := fun x => .int .i64 ((x.1 : Nat) : Int)
  let cf : α → α → Int := fun x y => (ordP σ x.1 : Int) - (ordP σ y.1 : Int)
  have hlt : ∀ x y : α, ltOf cf x y = decide (ordP σ x.1 < ordP σ y.1) := fun x y => by
    unfold ltOf
    exact decide_eq_decide.2 (by show (ordP σ x.1 : Int) - (ordP σ y.1 : Int) < 0 ↔ _; omega)
  have hO : SWO (ltOf cf) := ⟨fun x => by rw [hlt]; simp, fun x y z h1 h2 => by rw [hlt] at *; simp at *; omega, fun x y z h1 h2 => by rw [hlt] at *; simp at *; omega⟩
  have hT : ∀ x y : α, ltOf cf x y = false → ltOf cf y x = false → x = y := fun x y h1 h2 => by
    rw [hlt] at h1 h2
    simp at h1 h2
    obtain ⟨t, ht, htw⟩ := hmem x.1 x.2
    obtain ⟨u, hu, huw⟩ := hmem y.1 y.2
    have e1 : ordP σ x.1 = t.order := by unfold ordP; rw [ht]
    have e2 : ordP σ y.1 = u.order := by unfold ordP; rw [hu]
    unfold waitsB at htw huw
    simp at htw huw
    exact Subtype.ext (hd x.1 y.1 t u ht hu htw.1 huw.1 (by omega))
  let d : Array α := (waitL σ on).attach.toArray
  have hds : d.size = n := by show (waitL σ on).attach.toArray.size = n; rw [List.size_toArray, List.length_attach, hn]
  have hmapd : d.toList.map enc = nums (waitL σ on) := by
    show (waitL σ on).attach.map (fun x => Value.int .i64 ((x.1 : Nat) : Int)) = _
    rw [nums, ← List.attach_map_subtype_val (l := waitL σ on), List.map_map]; simp
  have hH : Holds enc w g 0 d := fun j hj => by
    have hj' : j < n := by omega
    refine ⟨?_, ?_⟩
    · rw [Nat.zero_add, World.ownsRow.cellAt hown j (by omega), ← hmapd, List.getElem?_map, Array.getElem?_toList, Array.getElem?_eq_getElem hj, getElem!_pos d j hj]; rfl
    · rw [Nat.zero_add]
      rcases hown.2 with ⟨h0, _⟩ | ⟨g', cap', cur, h1, hb, hh, _⟩
      · cases h0
      · injection h1 with h1; injection h1 with h1; injection h1 with h1; subst h1
        exact Blk.frozen (t := 3) hh j
  have hgl : g < w.heap.size := (hown.lt g rfl).2
  have hBl : B < w.heap.size := World.block_lt_of_cell? w _ hB
  have hcmp : CmpLays1 Try.prog 67 #[ptr B] enc cf g 0 d.size w := by
    refine CmpReads.lays (fun m os dk hdk x y => ?_)
    obtain ⟨t, ht, htw⟩ := hmem x.1 x.2
    obtain ⟨u, hu, huw⟩ := hmem y.1 y.2
    obtain ⟨cp1, g1, T1, M1, a1, a2, a3, a4⟩ := task_facts h ht
    obtain ⟨cp2, g2, T2, M2, b1, b2, b3, b4⟩ := task_facts h hu
    have hgg : g1 = g2 := by
      have := Option.some.inj (a1.symm.trans b1)
      simp [scCells] at this
      exact this.1.1
    subst hgg
    have e1 : ordP σ x.1 = t.order := by unfold ordP; rw [ht]
    have e2 : ordP σ y.1 = u.order := by unfold ordP; rw [hu]
    obtain ⟨⟨tv, M, q1, q2, -, -, q9⟩, q4, -, q6, q7, q10, qw, -⟩ := id h
    have hg1C : C g1 := by
      have := Option.some.inj (a1.symm.trans q1)
      simp [scCells] at this
      exact q9 g1 (by rw [← this.1]; rfl)
    have hT1 : C T1 := by
      have e := Option.some.inj (a1.symm.trans q1)
      simp [scCells] at e
      rw [← e.1] at q2
      have h3 := World.ownsRow.cellAt q2 x.1 (by omega)
      rw [a3, List.getElem?_map] at h3
      obtain ⟨T, hT', hT2⟩ := Option.map_eq_some_iff.1 h3.symm
      simp [ptr] at hT2
      rw [← hT2]; exact q10 T (List.mem_of_getElem? hT')
    have hT2 : C T2 := by
      have e := Option.some.inj (b1.symm.trans q1)
      simp [scCells] at e
      rw [← e.1] at q2
      have h3 := World.ownsRow.cellAt q2 y.1 (by omega)
      rw [b3, List.getElem?_map] at h3
      obtain ⟨T, hT', hT2⟩ := Option.map_eq_some_iff.1 h3.symm
      simp [ptr] at hT2
      rw [← hT2]; exact q10 T (List.mem_of_getElem? hT')
    have old : ∀ p : Addr, C p.block → (sortWorld enc w g 0 m dk os).cell? p = w.cell? p := fun p hp => sort_old enc g m dk os (by have := hC _ hp; omega) (by have := hC _ hp; omega)
    have ho1 := (qw.since t (List.mem_of_getElem? ht)).2
    have ho2 := (qw.since u (List.mem_of_getElem? hu)).2
    have := cmp_any (B := B) (S := S) (g := g1) (n := Ts.length) (cp := cp1) (x := x.1) (y := y.1) (Tx := T1) (Ty := T2) (a := t.order) (b := u.order) (W := sortWorld enc w g 0 m dk os)
      ((sort_old enc g m dk os hBl hBg).trans hB) ((old ⟨S, 0, none⟩ q7).trans (sc_cell a1).1) (by rw [q4]; exact qw.few) a2 b2 ((old ⟨g1, x.1, none⟩ hg1C).trans a3) ((old ⟨g1, y.1, none⟩ hg1C).trans b3) ((old ⟨T1, 5, none⟩ hT1).trans (tk_cell a4).2.2.2.2.2.1) ((old ⟨T2, 5, none⟩ hT2).trans (tk_cell b4).2.2.2.2.2.1) (by omega) (by omega)
    show Calls Try.prog 67 #[.int .i64 ((x.1 : Nat) : Int), .int .i64 ((y.1 : Nat) : Int), ptr B] _ _
    refine this.mono ?_
    rintro e w' ⟨rfl, hq⟩
    exact ⟨by show _ = Ending.returned (Value.int .i64 ((ordP σ x.1 : Int) - (ordP σ y.1 : Int))); rw [e1, e2], hq⟩
  have hs := Try.slices_SortFunc_total enc (fun _ => rfl) cf hO 67 #[ptr B] g 0 cap d w enters67 hcmp hH hgl (by have := h.wf.few; have := fl_le (fun i => match σ.tks[i]? with | some t => waitsB on t | none => false) σ.tks.length; unfold waitL at hn; omega) hT
  rw [hds] at hs
  refine hs.mono ?_
  rintro e w' ⟨rfl, m, os, rfl⟩
  refine ⟨rfl, ?_, sort_below enc g m _ os hw0 hg⟩
  have hsz2 : (d.toList.mergeSort fun x y => !(ltOf cf) y x).toArray.size = n := by simp [hds]
  have := own_sorted enc hown (d.toList.mergeSort fun x y => !(ltOf cf) y x).toArray hsz2 m os
  have e : ((d.toList.mergeSort fun x y => !(ltOf cf) y x).toArray).toList.map enc = nums (waitP σ on) := by
    show ((waitL σ on).attach.mergeSort _).map _ = _
    unfold nums waitP
    have h1 : ((waitL σ on).attach.mergeSort fun x y => !(ltOf cf) y x).map (fun x : α => x.1) = (waitL σ on).mergeSort (fun x y => decide (ordP σ x ≤ ordP σ y)) := by
      rw [List.map_mergeSort (s := fun x y => decide (ordP σ x ≤ ordP σ y)) (fun a _ b _ => by
        show (!ltOf cf b a) = decide (ordP σ a.1 ≤ ordP σ b.1)
        rw [hlt]
        by_cases h : ordP σ a.1 ≤ ordP σ b.1
        · rw [decide_eq_false (by omega), decide_eq_true h]; rfl
        · rw [decide_eq_true (by omega), decide_eq_false h]; rfl)]
      rw [show (waitL σ on).attach.map (fun x : α => x.1) = waitL σ on from List.attach_map_subtype_val _]
    rw [← h1, List.map_map]; rfl
  rw [e] at this
  exact this
end Go.Proofs.Ytekgdakkkbnpiaa
