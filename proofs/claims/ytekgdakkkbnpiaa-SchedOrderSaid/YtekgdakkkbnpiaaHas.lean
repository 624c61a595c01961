/- has: is a number among some (modulo 8)? And the lists that SchedOrder makes of that. No condition. -/
import Derived.Test.YtekgdakkkbnpiaaOrderP
import Derived.Test.YtekgdakkkbnpiaaArg
import Derived.Deep.QuietTactic
import Derived.BigQuiet
namespace Go.Proofs.Ytekgdakkkbnpiaa
set_option linter.unusedVariables false
set_option linter.unusedSimpArgs false
open Go Go.RowKit

def hasB (zs : List Int) (k : Nat) : Bool := zs.any fun z => z % 8 == (k : Int)
theorem has_not {zs : List Int} {k : Nat} (h : ∀ (j : Nat) z, zs[j]? = some z → z % 8 ≠ (k : Int)) : hasB zs k = false := by
  unfold hasB
  rw [List.any_eq_false]
  intro z hz
  obtain ⟨j, hj⟩ := List.getElem?_of_mem hz
  simpa using h j z hj
theorem has_yes {zs : List Int} {k j : Nat} {z : Int} (h : zs[j]? = some z) (hz : z % 8 = (k : Int)) : hasB zs k = true := by
  unfold hasB
  rw [List.any_eq_true]
  exact ⟨z, List.mem_of_getElem? h, by simpa using hz⟩

set_option maxRecDepth 100000 in
set_option maxHeartbeats 2000000 in
theorem has_any {w : World} {A : Option Addr} {n c : Nat} {zs : List Int} (hz : Reads w w.heap.size 1 A n (zs.map (Value.int .u8))) (hzr : ∀ z ∈ zs, 0 ≤ z ∧ z ≤ 255) (hn : n ≤ maxLen) (k : Nat) (hk : k < 8) :
    Calls Try.prog 19 #[.slice A n c, .int .u8 (k : Int)] w fun e w' => e = .returned (.bool (hasB zs k)) ∧ w = w' := by
  unfold maxLen at hn
  have hzl : zs.length = n := by have := hz.1; simpa using this
  obtain ⟨b, hb⟩ : ∃ b, hasB zs k = b := ⟨_, rfl⟩
  rw [hb]
  have HB := Lib.hid hb
  have HZ := Lib.hid hz
  have HZR := Lib.hid hzr
  have HZL := Lib.hid hzl
  clear hb hz hzr hzl
  go_enter Try.func19, Try.ntmps19
  go_wp2_with fail
  go_loop [5] (fun i => ∃ q : Nat, i = .int .i64 q ∧ q ≤ n ∧ Hid (∀ j z, j < q → zs[j]? = some z → z % 8 ≠ (k : Int))) (fun i => n - (intOf i).toNat)
  case atStart => exact ⟨0, rfl, Nat.zero_le _, Lib.hid (fun j z h => by omega)⟩
  case round =>
    obtain ⟨q, rfl, hq, E1⟩ := hrel
    by_cases hlt : q < n
    · have hct : decide ((q : Int) < (n : Int)) = true := by rw [decide_eq_true_iff]; omega
      obtain ⟨ad, u, rfl, hadb, hu, huc⟩ := HZ.out.at_ (k := q) hlt
      rw [List.getElem?_map] at hu
      obtain ⟨z, hzq, rfl⟩ := Option.map_eq_some_iff.1 hu
      have hz01 := HZR.out z (List.mem_of_getElem? hzq)
      have hz0 := hz01.1
      have hz1 := hz01.2
      have HZQ := Lib.hid hzq
      by_cases hzk : z % 8 = (k : Int)
      · have hbt : b = true := by rw [← HB.out]; exact has_yes hzq hzk
        have he : (z % 8 == (k : Int)) = true := beq_iff_eq.mpr hzk
        clear hu hzq hz01 hadb
        subst hbt
        go_wp2
        go_ret
        exact ⟨rfl, rfl⟩
      · have he : (z % 8 == (k : Int)) = false := beq_eq_false_iff_ne.mpr hzk
        clear hu hzq hz01 hadb
        go_wp2
        go_round
        case rel =>
          refine ⟨q + 1, by go_num, by omega, Lib.hid (fun j y hj hy => ?_)⟩
          by_cases e : j = q
          · subst e
            rw [HZQ.out] at hy
            injection hy with hy
            rw [← hy]; exact hzk
          · exact E1.out j y (by omega) hy
        case measure => simp [intOf]; omega
    · have hct : decide ((q : Int) < (n : Int)) = false := by rw [decide_eq_false_iff_not]; omega
      have hbf : b = false := by
        rw [← HB.out]
        exact has_not (fun j z hj => E1.out j z (by have := (List.getElem?_eq_some_iff.1 hj).1; have := HZL.out; omega) hj)
      subst hbf
      go_wp2
      go_ret
      exact ⟨rfl, rfl⟩

/-! ### The lists -/
/-- the locks of a task, rising -/
def hsOf (zs : List Int) : List Nat := fl (hasB zs) 8
theorem hsOf_up (zs : List Int) : (hsOf zs).Pairwise (· < ·) := List.Pairwise.filter _ List.pairwise_lt_range
theorem hsOf_few (zs : List Int) : ∀ x ∈ hsOf zs, x < 8 := fun x hx => List.mem_range.1 (List.mem_filter.1 hx).1
def upA (pr : Nat → Bool) (k : Nat) : List (Int × Int) := (fl pr k).map fun x : Nat => ((-2 : Int), (x : Int))
theorem upA_succ (pr : Nat → Bool) (k : Nat) : upA pr (k + 1) = upA pr k ++ if pr k then [(-2, (k : Int))] else [] := by
  unfold upA
  rw [fl_succ, List.map_append]
  cases pr k <;> rfl
/-- what is let go of, falling, so far -/
def dnA (pr : Nat → Bool) (n : Nat) : Nat → List (Int × Int)
  | 0 => []
  | r + 1 => dnA pr n r ++ if pr (n - 1 - r) then [(0, ((n - 1 - r : Nat) : Int)), (-1, 0)] else []
theorem goA_append (a b : List Nat) : goA (a ++ b) = goA a ++ goA b := by unfold goA; rw [List.flatMap_append]
theorem dnA_first (pr : Nat → Bool) (n : Nat) : ∀ r, r ≤ n → dnA pr (n + 1) (r + 1) = (if pr n then [(0, (n : Int)), (-1, 0)] else []) ++ dnA pr n r := by
  intro r
  induction r with
  | zero => intro _; simp [dnA]
  | succ r ih =>
    intro hr
    rw [dnA, ih (by omega), dnA, List.append_assoc]
    rw [show n + 1 - 1 - (r + 1) = n - 1 - r by omega]
theorem dnA_all (pr : Nat → Bool) : ∀ n, dnA pr n n = goA (fl pr n).reverse := by
  intro n
  induction n with
  | zero => rfl
  | succ n ih =>
    rw [dnA_first pr n n (Nat.le_refl _), ih, fl_succ, List.reverse_append, goA_append]
    cases pr n <;> rfl
theorem do_all (zs : List Int) : upA (hasB zs) 8 ++ dnA (hasB zs) 8 8 = doA (hsOf zs) := by
  rw [dnA_all]; rfl
theorem upA_len (pr : Nat → Bool) (k : Nat) : (upA pr k).length ≤ k := by unfold upA; rw [List.length_map]; exact fl_le pr k
theorem dnA_len (pr : Nat → Bool) (n r : Nat) : (dnA pr n r).length ≤ 2 * r := by
  induction r with
  | zero => exact Nat.le_refl _
  | succ r ih =>
    rw [dnA, List.length_append]
    split <;> simp <;> omega
theorem hsOf_len (zs : List Int) : (hsOf zs).length ≤ 8 := fl_le _ _
theorem flat_append (a b : List (Int × Int)) : flat (a ++ b) = flat a ++ flat b := by unfold flat; rw [List.flatMap_append]
end Go.Proofs.Ytekgdakkkbnpiaa
