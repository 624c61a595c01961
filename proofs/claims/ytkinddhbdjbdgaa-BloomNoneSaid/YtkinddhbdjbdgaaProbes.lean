import Derived.Test.YtkinddhbdjbdgaaHash
import Derived.WalkLawsBesides
import Derived.Test.YtkinddhbdjbdgaaRange
import Derived.Shelf.RegionOpen
import Derived.OwnWalkIn
import Derived.TacticsInMore
import Derived.LoopNIn
import Derived.LoopIn
namespace Go.Proofs.Ytkinddhbdjbdgaa
open Go.RowKit


attribute [local go_sem] Oper.semAt_some

def aOf (h : Int) : Int := h % 4294967296
def bOf (h : Int) : Int := Go.bits .or .u32 (h / 4294967296 % 4294967296) 1
/-- the register behind i probes -/
def aAt (h : Int) : Nat → Int
  | 0 => aOf h
  | i + 1 => (aAt h i + bOf h) % 4294967296

/-- What a maker of probes has captured, at block B and behind. -/
def Caught (B : Nat) (h : Int) (many : Nat) (bits : Int) (i : Nat) (W : World) : Prop :=
  Boxed W B 3 (.int .i64 many) ∧ Boxed W (B + 1) 38 (.int .u64 bits) ∧ Boxed W (B + 2) 41 (.int .u32 (aAt h i)) ∧ Boxed W (B + 3) 41 (.int .u32 (bOf h))
def probesF (B : Nat) : Value := .func (.func 13) #[] #[.pointer (some ⟨B, 0, none⟩), .pointer (some ⟨B + 2, 0, none⟩), .pointer (some ⟨B + 1, 0, none⟩), .pointer (some ⟨B + 3, 0, none⟩)]

theorem probes_any (s : ByteArray) (many : Nat) (bits : Int) (w : World) (hs : s.size ≤ maxLen) :
    Calls Try.prog 10 #[.string s, .int .i64 many, .int .u64 bits] w fun e w' => e = .returned (probesF w.heap.size) ∧ Below w.heap.size w w' ∧ w'.heap.size = w.heap.size + 4 ∧ Caught w.heap.size (hashI s) many bits 0 w' := by
  have hmf : ∀ (fn : Fn) (first cap : Array Value) (w : World), (Instr.makeFunc fn first cap).run Try.prog w = .ok (.func fn first cap) w := fun _ _ _ _ => rfl
  go_enter Try.func10, Try.ntmps10
  go_wp2_with (go_at_call 12; refine (hash_any _ _ hs).mono ?_; rintro e w' ⟨rfl, rfl⟩)
  go_ret
  refine ⟨rfl, ?_, by simp, ?_⟩
  · exact ((((Below.refl _ _).alloc (Nat.le_refl _) _).alloc (by simp) _).alloc (by simp; omega) _).alloc (by simp; omega) _
  · have h0 := Boxed.new w 3 (.int .i64 many)
    have h1 := Boxed.new (w.alloc (.cells #[.int .i64 many] 3)) 38 (.int .u64 bits)
    have h2 := Boxed.new ((w.alloc (.cells #[.int .i64 many] 3)).alloc (.cells #[.int .u64 bits] 38)) 41 (.int .u32 (aOf (hashI s)))
    have h3 := Boxed.new (((w.alloc (.cells #[.int .i64 many] 3)).alloc (.cells #[.int .u64 bits] 38)).alloc (.cells #[.int .u32 (aOf (hashI s))] 41)) 41 (.int .u32 (bOf (hashI s)))
    simp only [World.size_alloc] at h1 h2 h3
    exact ⟨((h0.alloc _).alloc _).alloc _, (h1.alloc _).alloc _, h2.alloc _, h3⟩

theorem caught_kept (B : Nat) (h : Int) (many : Nat) (bits : Int) (i : Nat) (X Y : World) (hc : Caught B h many bits i X) (hk : ∀ k, (B ≤ k ∧ k ≤ B + 3) → Y.heap[k]? = X.heap[k]?) : Caught B h many bits i Y :=
  ⟨(hk _ (by omega)).trans hc.1, (hk _ (by omega)).trans hc.2.1, (hk _ (by omega)).trans hc.2.2.1, (hk _ (by omega)).trans hc.2.2.2⟩

theorem aAt_range (h : Int) (i : Nat) : 0 ≤ aAt h i ∧ aAt h i < 4294967296 := by
  cases i with
  | zero => unfold aAt aOf; omega
  | succ i => unfold aAt; omega

theorem bOf_range (h : Int) : 0 ≤ bOf h ∧ bOf h < 4294967296 := by
  unfold bOf Go.bits
  simp only [IntKind.wrap_u32]
  omega
theorem Boxed.set_other {W : World} {B B' : Nat} {t : TypeId} {v u : Value} (h : Boxed W B t v) (hne : B ≠ B') : Boxed (W.setCell ⟨B', 0, none⟩ u) B t v :=
  (Below.heap_setCell W ⟨B', 0, none⟩ u B hne).trans h

set_option maxRecDepth 100000 in
set_option maxHeartbeats 1000000 in
theorem probes_iter (n B : Nat) (h : Int) (many : Nat) (bits : Int) (hb : 0 < bits) (hb2 : bits < 18446744073709551616) (hm : many ≤ 255) (W0 : World) :
    Iter n Try.prog 13 #[.pointer (some ⟨B, 0, none⟩), .pointer (some ⟨B + 2, 0, none⟩), .pointer (some ⟨B + 1, 0, none⟩), .pointer (some ⟨B + 3, 0, none⟩)]
      (fun i => #[.int .u64 (aAt h i % bits)]) (fun k => B ≤ k ∧ k ≤ B + 3) many W0 (Caught B h many bits) := by
  intro l J Jx W hW hJ hY h0 hs0
  refine callsIn_of_wp Try.func13 rfl trivial ?_ rfl
  simp only [Try.ntmps13, List.size_toArray, List.length_cons, List.length_nil, Nat.reduceAdd, Nat.reduceSub, Array.replicate_succ, Array.replicate_zero, List.push_toArray, List.append_toArray, List.nil_append, List.cons_append]
  have c1 := hs0.1.cell
  gi_wp2
  clear c1
  gi_loopw [7] (fun c wr => ∃ k : Nat, c = .int .i64 k ∧ k ≤ many ∧ J k wr ∧ Caught B h many bits k wr) (fun c _ => many - (intOf c).toNat)
  case atStart => exact ⟨0, rfl, Nat.zero_le _, h0, hs0⟩
  case round =>
    obtain ⟨k, rfl, hk, hj, hs⟩ := hrel
    by_cases hlt : k < many
    · obtain ⟨fn, tmps, assign, body, hy, hR⟩ := hY k wr hlt hj hs
      have ca := hs.2.2.1.cell
      have cb := hs.2.1.cell
      have hr := aAt_range h k
      have hbz : (bits == 0) = false := by rw [beq_eq_false_iff_ne]; omega
      gi_wp2
      refine ⟨fun z => by simp [Fence.wide] at z, hR.mono ?_⟩
      rintro e Y (⟨rfl, hj2, hk2⟩ | ⟨rfl, hx⟩)
      · have hs2 := caught_kept _ _ _ _ _ _ _ hs hk2
        clear hs hj hy hR ca cb
        have ca := hs2.2.2.1.cell
        have cb := hs2.2.2.2.cell
        have fa := hs2.2.2.1.frozen
        have hbr := bOf_range h
        have hsum : aAt h (k + 1) = (aAt h k + bOf h) % 4294967296 := rfl
        have HS := Lib.hid hsum
        clear hsum
        gi_wp2
        go_roundw
        case rel =>
          refine ⟨k + 1, by go_num, by omega, ?_, ?_⟩
          · exact hJ _ _ _ hj2 ((Chg.refl _ Y).setCell (.inl (by simp)) _)
          · refine ⟨(Boxed.set_other hs2.1 (by omega)), (Boxed.set_other hs2.2.1 (by omega)), ?_, (Boxed.set_other hs2.2.2.2 (by omega))⟩
            rw [HS.out]; exact hs2.2.2.1.set _
        case measure => simp [intOf]; omega
      · gi_wp2
        refine bodyPost_ret (results_none rfl _ _ _) rfl ?_
        exact ⟨⟨_, rfl⟩, .inr ⟨k, hlt, hx⟩⟩
    · gi_wp2
      go_end0
      obtain rfl : k = many := by omega
      exact ⟨⟨_, rfl⟩, .inl hj⟩
end Go.Proofs.Ytkinddhbdjbdgaa
