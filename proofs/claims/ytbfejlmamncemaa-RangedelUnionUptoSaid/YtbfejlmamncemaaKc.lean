/- Rows of keys and numbers sorted, and freed of what stands twice: the library's contracts. No condition. -/
import Derived.Test.YtbfejlmamncemaaPl
import Derived.Test.YtbfejlmamncemaaShelf
import Derived.Test.YtbfejlmamncemaaSkF
import Derived.WalkSmall
import Derived.WalkLawsBesides
namespace Go.Proofs.Ytbfejlmamncemaa.Sk
set_option linter.unusedVariables false
set_option linter.unusedSimpArgs false
open Go Go.RowKit Go.Sort Go.Lib Go.Proofs

def ptr (b : Nat) : Value := .pointer (some ⟨b, 0, none⟩)
theorem Compare_any (how : Int) (a b : ByteArray) (w : World) : Calls Try.prog 40 #[.int .i64 how, .string a, .string b] w fun e w' => e = .returned (.int .i64 (cmpI how a b)) ∧ w' = w := by
  unfold cmpI
  by_cases h : how = 1
  · rw [if_pos h]
    subst h
    go_enter Try.func40, Try.ntmps40
    go_wp2_with (go_at_call 60; refine (Try.strings_Compare _ _ _).mono ?_; rintro e w' ⟨rfl, rfl⟩)
    go_ret
    exact ⟨rfl, rfl⟩
  · rw [if_neg h]
    have h1 : (how == 1) = false := beq_eq_false_iff_ne.2 h
    go_enter Try.func40, Try.ntmps40
    go_wp2_with (go_at_call 60; refine (Try.strings_Compare _ _ _).mono ?_; rintro e w' ⟨rfl, rfl⟩)
    go_ret
    exact ⟨rfl, rfl⟩

theorem order_any (B : Nat) (how : Int) (a b : ByteArray) (w : World) (hB : w.cell? ⟨B, 0, none⟩ = some (.int .i64 how)) : Calls Try.prog 39 #[.string a, .string b, ptr B] w fun e w' => e = .returned (.int .i64 (cmpI how a b)) ∧ w' = w := by
  unfold ptr
  go_enter Try.func39, Try.ntmps39
  go_wp2_with (go_at_call 40; refine (Compare_any _ _ _ _).mono ?_; rintro e w' ⟨rfl, rfl⟩)
  go_ret
  exact ⟨rfl, rfl⟩

/-- A row that is written anew, and cut, is still a row. -/
theorem own_put {α : Type} [Inhabited α] {w : World} {base g n cap : Nat} {T : TypeId} {xs : List Value} (enc : α → Value) (hown : w.ownsRow base T 1 (.slice (some ⟨g, 0, none⟩) n cap) n xs) (d : Array α) (hd : d.size = n) (k m : Nat) (hm : m ≤ n) (os : Array Obj) :
    (sortWorld enc w g 0 k d os).ownsRow base T 1 (.slice (some ⟨g, 0, none⟩) m cap) m ((d.toList.take m).map enc) := by
  rcases hown.2 with ⟨h0, _⟩ | ⟨g', cap', cur, h1, hb, hh, hn, hc, hs, ht⟩
  · cases h0
  · injection h1 with h1 _ h2
    injection h1 with h1
    injection h1 with h1
    subst h1; subst h2
    have hgl : g < w.heap.size := (Array.getElem?_eq_some_iff.1 hh).1
    refine ⟨by simp [hd]; omega, .inr ⟨g, cap, putCells enc 0 d cur, rfl, hb, ?_, by omega, hc, by simp [putCells, hs], ?_⟩⟩
    · have h3 : (putRow enc (Sort.ahead w k) g 0 d).heap[g]? = some (.cells (putCells enc 0 d cur) T (0, 0)) := by
        unfold putRow mapBlock
        simp only [Array.getElem?_modify]
        have : (Sort.ahead w k).heap[g]? = some (.cells cur T (0, 0)) := hh
        rw [this]; rfl
      show (grow _ os).heap[g]? = _
      rw [heap_grow_old _ _ (Array.getElem?_eq_some_iff.1 h3).1]
      exact h3
    · apply List.ext_getElem?
      intro i
      rw [Nat.mul_one, List.getElem?_take, List.getElem?_map, List.getElem?_take]
      by_cases hi : i < m
      · rw [if_pos hi, if_pos hi]
        have h4 : i < cur.size := by omega
        simp only [putCells, Array.getElem?_toList, Array.getElem?_mapIdx, Array.getElem?_eq_getElem h4, Option.map_some]
        rw [if_pos ⟨Nat.zero_le _, by omega⟩, Nat.sub_zero]
        rw [Array.getElem?_eq_getElem (by omega : i < d.size), getElem!_pos d i (by omega)]; rfl
      · rw [if_neg hi, if_neg hi]; rfl
theorem put_sort {α : Type} [Inhabited α] (enc : α → Value) (w : World) (g k : Nat) (d : Array α) : putRow enc (Sort.ahead w k) g 0 d = sortWorld enc w g 0 k d #[] := by
  unfold sortWorld
  rw [grow_empty]
theorem sort_grown {α : Type} [Inhabited α] {w : World} (enc : α → Value) (g m : Nat) (d : Array α) (os : Array Obj) : w.grownBy (sortWorld enc w g 0 m d os) (some g) := by
  have hs : (putRow enc (Sort.ahead w m) g 0 d).heap.size = w.heap.size := by simp [putRow, mapBlock, Sort.ahead]
  refine ⟨rfl, rfl, rfl, by simp [sortWorld, hs], fun k hk hn => ?_⟩
  unfold sortWorld
  rw [heap_grow_old _ _ (by rw [hs]; omega)]
  show (w.heap.modify g _)[k]? = _
  rw [Array.getElem?_modify, if_neg (fun e => hn (by rw [e]))]
theorem holds_own {α : Type} [Inhabited α] {w : World} {base g n cap : Nat} {T : TypeId} (enc : α → Value) (xs : List α) (hn : xs.length = n) (hown : w.ownsRow base T 1 (.slice (some ⟨g, 0, none⟩) n cap) n (xs.map enc)) : Holds enc w g 0 xs.toArray := fun j hj => by
  have hj' : j < n := by simpa [hn] using hj
  refine ⟨?_, ?_⟩
  · rw [Nat.zero_add, World.ownsRow.cellAt hown j (by omega), List.getElem?_map, getElem!_pos xs.toArray j hj]
    simp
    exact ⟨_, List.getElem?_eq_getElem (by omega), rfl⟩
  · rw [Nat.zero_add]
    rcases hown.2 with ⟨h0, _⟩ | ⟨g', cap', cur, h1, hb, hh, _⟩
    · cases h0
    · injection h1 with h1; injection h1 with h1; injection h1 with h1; subst h1
      simp [World.frozen?, hh]
/-- a row's block -/
theorem own_cases {w : World} {base n : Nat} {T : TypeId} {v : Value} {size : Nat} {xs : List Value} (hown : w.ownsRow base T size v n xs) : (v = .slice none 0 0 ∧ n = 0) ∨ ∃ g cap, v = .slice (some ⟨g, 0, none⟩) n cap ∧ base ≤ g ∧ g < w.heap.size ∧ n ≤ cap ∧ cap ≤ maxLen := by
  rcases hown.2 with h | ⟨g, cap, cur, h1, hb, hh, hn, hc, _⟩
  · exact .inl h
  · exact .inr ⟨g, cap, h1, hb, (Array.getElem?_eq_some_iff.1 hh).1, hn, hc⟩

theorem enters39 : ∀ args w, (callFunc 39 args).run Try.prog w = .ok (.enter 39 args) w := Go.Proofs.enters_of Try.func39 (by kernel_rfl) rfl
theorem enters44 : ∀ args w, (callFunc 44 args).run Try.prog w = .ok (.enter 44 args) w := Go.Proofs.enters_of Try.func44 (by kernel_rfl) rfl
theorem ltOf_cmp (how : Int) (x y : ByteArray) : ltOf (cmpI how) x y = decide (ltK how x y) := rfl
theorem swo_cmp (how : Int) : SWO (ltOf (cmpI how)) := by
  refine ⟨fun x => ?_, fun x y z h1 h2 => ?_, fun x y z h1 h2 => ?_⟩
  · rw [ltOf_cmp, decide_eq_false_iff_not]; exact lt_irrefl
  · rw [ltOf_cmp, decide_eq_true_iff] at *; exact lt_of_lt_le h1 (lt_le h2)
  · rw [ltOf_cmp, decide_eq_false_iff_not] at *; rw [not_lt] at *; exact le_trans h2 h1
set_option maxHeartbeats 1000000 in
theorem sort_keys (how : Int) (B : Nat) (l : List ByteArray) (v : Value) (n : Nat) (w : World) (hl : l.length = n) (hn62 : n < 4611686018427387904) (hown : w.ownsRow 0 9 1 v n (l.map Value.string)) (hB : w.cell? ⟨B, 0, none⟩ = some (.int .i64 how)) (hBb : v.ownBlock ≠ some B) :
    Calls Try.prog 41 #[v, .func (.func 39) #[] #[ptr B]] w fun e w' => e = .returned (.tuple #[]) ∧ w'.ownsRow 0 9 1 v n ((sortK how l).map Value.string) ∧ w.grownBy w' v.ownBlock := by
  rcases own_cases hown with ⟨rfl, h0⟩ | ⟨g, cap, rfl, hg, hgl, hn, hcap⟩
  · subst h0
    have hl0 : l = [] := List.length_eq_zero_iff.1 hl
    subst hl0
    refine (Try.slices_SortFunc_none_f41 (α := ByteArray) none 0 _ w).mono ?_
    rintro e w' ⟨rfl, rfl⟩
    exact ⟨rfl, by simpa [sortK] using hown, ⟨rfl, rfl, rfl, Nat.le_refl _, fun _ _ _ => rfl⟩⟩
  · have hH := holds_own Value.string l hl hown
    have hcmp : CmpLays1 Try.prog 39 #[ptr B] Value.string (cmpI how) g 0 l.toArray.size w := by
      refine CmpReads.lays (fun m os dk hdk x y => ?_)
      have hc : (sortWorld Value.string w g 0 m dk os).cell? ⟨B, 0, none⟩ = some (.int .i64 how) := by
        rw [World.cell?_of_block (a := ⟨B, 0, none⟩) ((sort_grown Value.string g m dk os).block B (block_lt_of_cell hB) (fun e => hBb e.symm))]; exact hB
      refine (order_any B how x y _ hc).mono ?_
      rintro e w' ⟨rfl, rfl⟩
      exact ⟨rfl, 0, rfl⟩
    have hs := Try.slices_SortFunc_total_f41 Value.string (fun _ => rfl) (cmpI how) (swo_cmp how) 39 #[ptr B] g 0 cap l.toArray w enters39 hcmp hH hgl (by simp [hl]; omega)
      (fun x y h1 h2 => by
        rw [ltOf_cmp, decide_eq_false_iff_not, not_lt] at h1 h2
        exact le_anti h2 h1)
    have hsz : l.toArray.size = n := by simp [hl]
    rw [hsz] at hs
    refine hs.mono ?_
    rintro e w' ⟨rfl, m, os, rfl⟩
    refine ⟨rfl, ?_, sort_grown _ g m _ os⟩
    have he : (l.mergeSort fun x y => !(ltOf (cmpI how)) y x) = sortK how l := by
      unfold sortK
      congr 1
      funext x y
      rw [ltOf_cmp]
      by_cases h : leK how x y
      · rw [decide_eq_true h, decide_eq_false (not_lt.2 h)]; rfl
      · rw [decide_eq_false h, decide_eq_true (not_le.1 h)]; rfl
    have hlen : (sortK how l).length = n := by unfold sortK; simp [hl]
    have h5 := own_put Value.string hown (l.toArray.toList.mergeSort fun x y => !(ltOf (cmpI how)) y x).toArray (by simp [hl]) m n (Nat.le_refl _) os
    simp only [List.toList_toArray, he] at h5 ⊢
    rw [List.take_of_length_le (by omega)] at h5
    exact h5

theorem isNaN_any (a : Int) (w : World) : Calls Try.prog 93 #[.int .u64 a] w fun e w' => e = .returned (.bool false) ∧ w' = w := by
  go_enter Try.func93, Try.ntmps93
  go_wp2
  go_ret
  exact ⟨rfl, rfl⟩
theorem cmpN_any (a b : Int) (w : World) : Calls Try.prog 64 #[.int .u64 a, .int .u64 b] w fun e w' => e = .returned (.int .i64 (fallI b a)) ∧ w' = w := by
  unfold fallI
  by_cases h1 : a < b
  · rw [if_pos h1]
    go_enter Try.func64, Try.ntmps64
    go_wp2_with (go_at_call 93; refine (isNaN_any _ _).mono ?_; rintro e w' ⟨rfl, rfl⟩)
    go_ret
    exact ⟨rfl, rfl⟩
  · rw [if_neg h1]
    by_cases h2 : b < a
    · rw [if_pos h2]
      go_enter Try.func64, Try.ntmps64
      go_wp2_with (go_at_call 93; refine (isNaN_any _ _).mono ?_; rintro e w' ⟨rfl, rfl⟩)
      go_ret
      exact ⟨rfl, rfl⟩
    · rw [if_neg h2]
      go_enter Try.func64, Try.ntmps64
      go_wp2_with (go_at_call 93; refine (isNaN_any _ _).mono ?_; rintro e w' ⟨rfl, rfl⟩)
      go_ret
      exact ⟨rfl, rfl⟩
theorem falling_any (a b : Int) (w : World) : Calls Try.prog 44 #[.int .u64 a, .int .u64 b] w fun e w' => e = .returned (.int .i64 (fallI a b)) ∧ w' = w := by
  go_enter Try.func44, Try.ntmps44
  go_wp2_with (go_at_call 64; refine (cmpN_any _ _ _).mono ?_; rintro e w' ⟨rfl, rfl⟩)
  go_ret
  exact ⟨rfl, rfl⟩
theorem ltOf_fall (x y : Int) : ltOf fallI x y = decide (y < x) := by
  unfold ltOf fallI
  by_cases h1 : y < x
  · simp [h1]
  · by_cases h2 : x < y
    · simp [h1, h2]
    · simp [h1, h2]
set_option maxHeartbeats 1000000 in
theorem sort_nums (l : List Int) (v : Value) (n : Nat) (w : World) (hl : l.length = n) (hn62 : n < 4611686018427387904) (hown : w.ownsRow 0 36 1 v n (l.map (Value.int .u64))) :
    Calls Try.prog 43 #[v, .func (.func 44) #[] #[]] w fun e w' => e = .returned (.tuple #[]) ∧ w'.ownsRow 0 36 1 v n ((sortN l).map (Value.int .u64)) ∧ w.grownBy w' v.ownBlock := by
  rcases own_cases hown with ⟨rfl, h0⟩ | ⟨g, cap, rfl, hg, hgl, hn, hcap⟩
  · subst h0
    have hl0 : l = [] := List.length_eq_zero_iff.1 hl
    subst hl0
    refine (Try.slices_SortFunc_none_f43 (α := Int) none 0 _ w).mono ?_
    rintro e w' ⟨rfl, rfl⟩
    exact ⟨rfl, by simpa [sortN] using hown, ⟨rfl, rfl, rfl, Nat.le_refl _, fun _ _ _ => rfl⟩⟩
  · have hH := holds_own (Value.int .u64) l hl hown
    have hcmp : CmpLays1 Try.prog 44 #[] (Value.int .u64) fallI g 0 l.toArray.size w :=
      CmpReads.lays (fun m os dk hdk x y => (falling_any x y _).mono fun e w' ⟨h1, h2⟩ => ⟨h1, 0, h2⟩)
    have hO : SWO (ltOf fallI) := ⟨fun x => by rw [ltOf_fall]; simp, fun x y z h1 h2 => by rw [ltOf_fall] at *; simp at *; omega, fun x y z h1 h2 => by rw [ltOf_fall] at *; simp at *; omega⟩
    have hs := Try.slices_SortFunc_total_f43 (Value.int .u64) (fun _ => rfl) fallI hO 44 #[] g 0 cap l.toArray w enters44 hcmp hH hgl (by simp [hl]; omega)
      (fun x y h1 h2 => by
        rw [ltOf_fall] at h1 h2
        simp at h1 h2
        omega)
    have hsz : l.toArray.size = n := by simp [hl]
    rw [hsz] at hs
    refine hs.mono ?_
    rintro e w' ⟨rfl, m, os, rfl⟩
    refine ⟨rfl, ?_, sort_grown _ g m _ os⟩
    have he : (l.mergeSort fun x y => !(ltOf fallI) y x) = sortN l := by
      unfold sortN
      congr 1
      funext x y
      rw [ltOf_fall]
      by_cases h : y ≤ x
      · rw [decide_eq_true h, decide_eq_false (by omega)]; rfl
      · rw [decide_eq_false h, decide_eq_true (by omega)]; rfl
    have hlen : (sortN l).length = n := by unfold sortN; simp [hl]
    have h5 := own_put (Value.int .u64) hown (l.toArray.toList.mergeSort fun x y => !(ltOf fallI) y x).toArray (by simp [hl]) m n (Nat.le_refl _) os
    simp only [List.toList_toArray, he] at h5 ⊢
    rw [List.take_of_length_le (by omega)] at h5
    exact h5

theorem compact_keys (l : List ByteArray) (v : Value) (n : Nat) (w : World) (hl : l.length = n) (hown : w.ownsRow 0 9 1 v n (l.map Value.string)) :
    Calls Try.prog 42 #[v] w fun e w' => ∃ v', e = .returned v' ∧ w'.ownsRow 0 9 1 v' (uniqK l).length ((uniqK l).map Value.string) ∧ v'.ownBlock = v.ownBlock ∧ w.grownBy w' v.ownBlock := by
  rcases own_cases hown with ⟨rfl, h0⟩ | ⟨g, cap, rfl, hg, hgl, hn, hcap⟩
  · subst h0
    have hl0 : l = [] := List.length_eq_zero_iff.1 hl
    subst hl0
    refine (Try.slices_Compact_string_empty none 0 w).mono ?_
    rintro e w' ⟨rfl, rfl⟩
    exact ⟨_, rfl, by simpa [uniqK, Lib.compact, Lib.compactUpTo] using hown, rfl, ⟨rfl, rfl, rfl, Nat.le_refl _, fun _ _ _ => rfl⟩⟩
  · have hown2 : w.ownsRow 0 9 1 (.slice (some ⟨g, 0, none⟩) n cap) n ((l.map fun (s : ByteArray) => s.data.toList).map encStr) := by
      rw [List.map_map]; exact hown
    have hH := holds_own encStr (l.map fun (s : ByteArray) => s.data.toList) (by simp [hl]) hown2
    have hs := Try.slices_Compact_string g 0 cap (l.map fun (s : ByteArray) => s.data.toList) w hH (by unfold maxLen at hcap; simp [hl]; omega) (by simp [hl]; exact hn)
    rw [show (l.map fun (s : ByteArray) => s.data.toList).length = n by simp [hl]] at hs
    refine hs.mono ?_
    rintro e w' ⟨rfl, q, rfl⟩
    refine ⟨_, rfl, ?_, rfl, by rw [put_sort]; exact sort_grown _ g q _ _⟩
    have hc : (Lib.compact (l.map fun (s : ByteArray) => s.data.toList)).length ≤ n := Nat.le_trans (compact_len _) (by simp [hl])
    have h5 := own_put encStr hown2 (Lib.compact (l.map fun (s : ByteArray) => s.data.toList) ++ List.replicate (n - (Lib.compact (l.map fun (s : ByteArray) => s.data.toList)).length) []).toArray (by simp; omega) q _ hc #[]
    rw [put_sort]
    unfold uniqK
    rw [List.length_map, List.map_map]
    simp only [List.toList_toArray, List.take_left'] at h5
    exact h5
set_option maxRecDepth 100000 in
theorem compact_nums (l : List Int) (v : Value) (n : Nat) (w : World) (hl : l.length = n) (hown : w.ownsRow 0 36 1 v n (l.map (Value.int .u64))) :
    Calls Try.prog 45 #[v] w fun e w' => ∃ v', e = .returned v' ∧ w'.ownsRow 0 36 1 v' (Lib.compact l).length ((Lib.compact l).map (Value.int .u64)) ∧ v'.ownBlock = v.ownBlock ∧ w.grownBy w' v.ownBlock := by
  rcases own_cases hown with ⟨rfl, h0⟩ | ⟨g, cap, rfl, hg, hgl, hn, hcap⟩
  · subst h0
    have hl0 : l = [] := List.length_eq_zero_iff.1 hl
    subst hl0
    go_enter Try.func45, Try.ntmps45
    go_wp2
    go_ret
    exact ⟨_, rfl, by simpa [Lib.compact, Lib.compactUpTo] using hown, rfl, ⟨rfl, rfl, rfl, Nat.le_refl _, fun _ _ _ => rfl⟩⟩
  · have hH := holds_own (Value.int .u64) l hl hown
    have hs := AnyE.slices_Compact Try.laysSlE43_f45 (Value.int .u64) (fun _ => rfl) (EqlAt.intD _ _ .u64) (NeqAt.intD _ _ .u64) 0 Try.zeroValue36 g 0 cap l.toArray w hH (by unfold maxLen at hcap; simp [hl]; omega) (by simp [hl]; exact hn)
    rw [show l.toArray.size = n by simp [hl]] at hs
    refine Calls.mono (P := Try.prog) hs ?_
    rintro e w' ⟨rfl, q, rfl⟩
    have e0 : compactUpTo l.toArray n = Lib.compact l := by unfold Lib.compact; rw [hl]
    rw [e0]
    refine ⟨_, rfl, ?_, rfl, by rw [put_sort]; exact sort_grown _ g q _ _⟩
    have hc : (Lib.compact l).length ≤ n := Nat.le_trans (compact_len _) (by simp [hl])
    have h5 := own_put (Value.int .u64) hown (Lib.compact l ++ List.replicate (n - (Lib.compact l).length) 0).toArray (by simp; omega) q _ hc #[]
    rw [put_sort]
    simp only [List.toList_toArray, List.take_left'] at h5
    exact h5
end Go.Proofs.Ytbfejlmamncemaa.Sk
