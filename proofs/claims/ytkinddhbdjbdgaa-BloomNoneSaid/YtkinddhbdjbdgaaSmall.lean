import Derived.Test.YtkinddhbdjbdgaaProbes
namespace Go.Proofs.Ytkinddhbdjbdgaa
open Go.RowKit

theorem ret_int {k : IntKind} {a b : Int} (h : a = b) : Ending.returned (.int k a) = .returned (.int k b) := by rw [h]
def countI (bits : Int) : Int := min (max (bits * 69 / 100) 1) 30
theorem count_any (bits : Int) (w : World) (h1 : 1 ≤ bits) (h2 : bits ≤ 64) :
    Calls Try.prog 9 #[.int .i64 bits] w fun e w' => e = .returned (.int .i64 (countI bits)) ∧ w = w' := by
  have a1 : decide (bits < 1) = false := by simp; omega
  have a2 : decide (64 < bits) = false := by simp; omega
  go_enter Try.func9, Try.ntmps9
  go_wp2
  all_goals
    go_ret
    exact ⟨ret_int (by unfold countI; omega), rfl⟩

theorem is_any (b : Nat) (off len cap : Nat) (x : Int) (w : World) (hlen : 8 < len) (hl : len ≤ maxLen) (hc : w.cell? ⟨b, off + (len - 1), none⟩ = some (.int .u8 x)) (h1 : 1 ≤ x) (h2 : x ≤ 30) :
    Calls Try.prog 11 #[.slice (some ⟨b, off, none⟩) len cap] w fun e w' => e = .returned (.bool true) ∧ w = w' := by
  unfold maxLen at hl
  go_enter Try.func11, Try.ntmps11
  go_wp2
  go_ret
  exact ⟨rfl, rfl⟩

theorem Check_any (b : Nat) (off len cap : Nat) (x : Int) (w : World) (hlen : 8 < len) (hl : len ≤ 16777216) (hc : w.cell? ⟨b, off + (len - 1), none⟩ = some (.int .u8 x)) (h1 : 1 ≤ x) (h2 : x ≤ 30) :
    Calls Try.prog 7 #[.slice (some ⟨b, off, none⟩) len cap] w fun e w' => e = .returned (.int .i64 0) ∧ w = w' := by
  go_enter Try.func7, Try.ntmps7
  go_wp2_with (go_at_call 11; refine (is_any _ _ _ _ _ _ hlen (by unfold maxLen; omega) hc h1 h2).mono ?_; rintro e w' ⟨rfl, rfl⟩)
  go_ret
  exact ⟨rfl, rfl⟩
end Go.Proofs.Ytkinddhbdjbdgaa
