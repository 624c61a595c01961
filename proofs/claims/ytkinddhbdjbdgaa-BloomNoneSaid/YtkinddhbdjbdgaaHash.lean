import Derived.Test.YtkinddhbdjbdgaaProg
import Derived.WalkKit
import Derived.WalkSpells
import Derived.Lib.Hide
import Derived.BigFrame
import Derived.Outline
import Derived.KernelRfl
namespace Go.Proofs.Ytkinddhbdjbdgaa
open Go.RowKit

/-- byte i of a text -/
def bt (s : ByteArray) (i : Nat) : Int := if h : i < s.size then ((s[i]'h).toNat : Int) else 0
/-- the register behind k bytes -/
def hTo (s : ByteArray) : Nat → Int
  | 0 => 14695981039346656037
  | k + 1 => IntKind.u64.wrap (Go.bits .xor .u64 (hTo s k) (IntKind.u64.wrap (bt s k)) * 1099511628211)
def hMix (h : Int) : Int := IntKind.u64.wrap (Go.bits .xor .u64 h (h / 4294967296) * 11400714819323198485)
def hEnd (h : Int) : Int := Go.bits .xor .u64 (hMix h) (hMix h / 536870912)
def hashI (s : ByteArray) : Int := hEnd (hTo s s.size)

theorem hash_any (s : ByteArray) (w : World) (hs : s.size ≤ maxLen) :
    Calls Try.prog 12 #[.string s] w fun e w' => e = .returned (.int .u64 (hashI s)) ∧ w = w' := by
  unfold maxLen at hs
  go_enter Try.func12, Try.ntmps12
  go_wp2
  go_loop [3, 7] (fun h i => ∃ k : Nat, k ≤ s.size ∧ h = .int .u64 (hTo s k) ∧ i = .int .i64 k) (fun _ i => s.size - (intOf i).toNat)
  case atStart => exact ⟨0, Nat.zero_le _, rfl, rfl⟩
  case round =>
    obtain ⟨k, hk, rfl, rfl⟩ := hrel
    by_cases hlt : k < s.size
    · have hb : ((s[k]'hlt).toNat : Int) = bt s k := by simp [bt, hlt]
      go_wp2
      go_round
      case rel => exact ⟨k + 1, by omega, rfl, by go_num⟩
      case measure => simp [intOf]; omega
    · go_wp2
      go_ret
      obtain rfl : k = s.size := by omega
      exact ⟨rfl, rfl⟩
end Go.Proofs.Ytkinddhbdjbdgaa
