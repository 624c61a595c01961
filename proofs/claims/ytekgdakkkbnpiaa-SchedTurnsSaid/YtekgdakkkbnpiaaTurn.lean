/- SchedTurns' own step: it counts, and ends behind its end. No condition. -/
import Derived.Test.YtekgdakkkbnpiaaLives
import Derived.Test.YtekgdakkkbnpiaaFair
namespace Go.Proofs.Ytekgdakkkbnpiaa
open Go Go.RowKit

def nv (d : Nat) : Value := .int .i64 (d : Int)
def cN (l : List Nat) : Obj := .cells (l.map nv).toArray 3 (0, 0)
theorem enters11 : ∀ args w, (callFunc 11 args).run Try.prog w = .ok (.enter 11 args) w := Go.Proofs.enters_of Try.func11 (by kernel_rfl) rfl
theorem cN_cell {w : World} {g : Nat} {l : List Nat} (h : w.heap[g]? = some (cN l)) {j : Nat} {d : Nat} (hd : l[j]? = some d) : w.cell? ⟨g, j, none⟩ = some (.int .i64 (d : Int)) := by
  refine (Blk.cell (t := 3) h j).trans ?_
  rw [List.getElem?_toArray, List.getElem?_map, hd]; rfl
theorem cN_set (l : List Nat) (j d : Nat) : Obj.cells ((l.map nv).toArray.setIfInBounds j (.int .i64 (d : Int))) 3 (0, 0) = cN (l.set j d) := by
  unfold cN
  rw [List.setIfInBounds_toArray, List.map_set]; rfl

set_option maxRecDepth 100000 in
set_option maxHeartbeats 1000000 in
theorem step11 {F : Nat → Prop} {S : Nat} {Ts : List Nat} {σ : Sc} {m : Nat → Option Obj} {W : World} {A B C G n i e d : Nat} {did : List Nat} (h : Full F S Ts σ (Has m) W)
    (hA : m A = some (.cells #[.slice (some ⟨G, 0, none⟩) n n] 26 (0, 0))) (hB : m B = some (cI i)) (hC : m C = some (cI e)) (hG : m G = some (cN did)) (hl : did.length = n) (hd : did[i]? = some d) (hd2 : d < 100000) (he : e < 1000)
    (hGA : A ≠ G) (hGB : B ≠ G) (hGC : C ≠ G) :
    Calls Try.prog 11 #[ptr A, ptr B, ptr C] W fun en W' => en = .returned (.agg #[.int .i64 (if e < d + 1 then 4 else 0), .int .i64 0]) ∧ ∃ F', Full F' S Ts σ (Has (mset m G (cN (did.set i (d + 1))))) W' ∧ Owned F W F' W' := by
  have hi : i < n := by rw [← hl]; exact (List.getElem?_eq_some_iff.1 hd).1
  have kA := full_known h hA
  have kB := full_known h hB
  have kC := full_known h hC
  have kG := full_known h hG
  have hput : Full F S Ts σ (Has (mset m G (cN (did.set i (d + 1))))) (W.setCell ⟨G, i, none⟩ (.int .i64 ((d : Int) + 1))) ∧ Chg F W (W.setCell ⟨G, i, none⟩ (.int .i64 ((d : Int) + 1))) := by
    obtain ⟨h1, h2⟩ := full_put h hG i (.int .i64 ((d + 1 : Nat) : Int))
    rw [cN_set] at h1
    exact ⟨h1, h2⟩
  have lA : A < W.heap.size := (Array.getElem?_eq_some_iff.1 kA).1
  have lB : B < W.heap.size := (Array.getElem?_eq_some_iff.1 kB).1
  have lC : C < W.heap.size := (Array.getElem?_eq_some_iff.1 kC).1
  have lG : G < W.heap.size := (Array.getElem?_eq_some_iff.1 kG).1
  have aA : ∀ o, (W.alloc o).cell? ⟨A, 0, none⟩ = some (.slice (some ⟨G, 0, none⟩) n n) := fun o => (World.cell?_alloc_lt W o ⟨A, 0, none⟩ lA).trans (Blk.cell (t := 26) kA 0)
  have aB : ∀ o, (W.alloc o).cell? ⟨B, 0, none⟩ = some (.int .i64 i) := fun o => (World.cell?_alloc_lt W o ⟨B, 0, none⟩ lB).trans (Blk.cell (t := 3) kB 0)
  have aC : ∀ o, (W.alloc o).cell? ⟨C, 0, none⟩ = some (.int .i64 e) := fun o => (World.cell?_alloc_lt W o ⟨C, 0, none⟩ lC).trans (Blk.cell (t := 3) kC 0)
  have aG : ∀ o, (W.alloc o).cell? ⟨G, i, none⟩ = some (.int .i64 d) := fun o => (World.cell?_alloc_lt W o ⟨G, i, none⟩ lG).trans (cN_cell kG hd)
  have aF : ∀ o, (W.alloc o).frozen? ⟨G, i, none⟩ = false := fun o => (((Below.refl _ W).alloc (Nat.le_refl _) o).frozen (p := ⟨G, i, none⟩) lG).trans (Blk.frozen (t := 3) kG i)
  have HP := Lib.hid hput
  have HA := Lib.hid hA
  have HB := Lib.hid hB
  have HC := Lib.hid hC
  have hset : (did.set i (d + 1))[i]? = some (d + 1) := by rw [List.getElem?_set, if_pos rfl, if_pos (by omega)]
  have HS := Lib.hid hset
  clear h hA hB hC hG hput kA kB kC kG hd hset
  obtain ⟨r, hr⟩ : ∃ r : Int, (if e < d + 1 then 4 else 0) = r := ⟨_, rfl⟩
  rw [hr]
  have HRR := Lib.hid hr
  clear hr
  unfold ptr
  go_enter Try.func11, Try.ntmps11
  go_wp2_with fail
  obtain ⟨W1, hW1⟩ : ∃ W1, ((W.setCell ⟨G, i, none⟩ (.int .i64 ((d : Int) + 1))).alloc (.cells #[.int .i64 0, .int .i64 0] 31)) = W1 := ⟨_, rfl⟩
  have hz : (W.setCell ⟨G, i, none⟩ (.int .i64 ((d : Int) + 1))).heap.size = W.heap.size := by simp [World.setCell]
  have hful1 : Full F S Ts σ (Has (mset m G (cN (did.set i (d + 1))))) W1 := by rw [← hW1]; exact HP.out.1.below (Has.local_ _) ((Below.refl _ _).alloc (Nat.le_refl _) _)
  have hchg1 : Chg F W W1 := by rw [← hW1]; exact HP.out.2.alloc _
  have hres : W1.heap[W.heap.size]? = some (.cells #[.int .i64 0, .int .i64 0] 31 (0, 0)) := by rw [← hW1, ← hz]; exact World.alloc_heap_new _ _
  have hns : ∀ k, F k → k ≠ W.heap.size := fun k hk e => by
    have := Full.size (Has.local_ _) HP.out.1 k hk
    rw [hz] at this; omega
  rw [hW1]
  clear aA aB aC aG aF HP hz hW1
  have aA := Blk.cell (t := 26) (full_known hful1 ((mset_other m _ hGA).trans HA.out)) 0
  have aB := Blk.cell (t := 3) (full_known hful1 ((mset_other m _ hGB).trans HB.out)) 0
  have aC := Blk.cell (t := 3) (full_known hful1 ((mset_other m _ hGC).trans HC.out)) 0
  have aG := cN_cell (full_known hful1 (mset_same m _ _)) HS.out
  simp only [List.getElem?_toArray, List.getElem?_cons_zero] at aA aB aC
  have g0 := Blk.cell (t := 31) hres 0
  have g1 := Blk.cell (t := 31) hres 1
  have gf := fun j => Blk.frozen (t := 31) hres j
  simp only [List.getElem?_toArray, List.getElem?_cons_zero, List.getElem?_cons_succ] at g0 g1
  have H1 := Lib.hid hful1
  have H2 := Lib.hid hchg1
  have H3 := Lib.hid hres
  have H4 := Lib.hid hns
  clear hful1 hchg1 hres hns lA lB lC lG
  have hfin : ∀ (r : Int) (nq : Nat), Full F S Ts σ (Has (mset m G (cN (did.set i (d + 1))))) (((W1.drewN nq).setCell ⟨W.heap.size, 0, none⟩ (.int .i64 r)).setCell ⟨W.heap.size, 1, none⟩ (.int .i64 0)) ∧ Owned F W F (((W1.drewN nq).setCell ⟨W.heap.size, 0, none⟩ (.int .i64 r)).setCell ⟨W.heap.size, 1, none⟩ (.int .i64 0)) ∧
      (((W1.drewN nq).setCell ⟨W.heap.size, 0, none⟩ (.int .i64 r)).setCell ⟨W.heap.size, 1, none⟩ (.int .i64 0)).heap[W.heap.size]? = some (.cells #[.int .i64 r, .int .i64 0] 31 (0, 0)) := fun r nq => by
    have hc : Chg (fun q => q = W.heap.size) W1 (((W1.drewN nq).setCell ⟨W.heap.size, 0, none⟩ (.int .i64 r)).setCell ⟨W.heap.size, 1, none⟩ (.int .i64 0)) :=
      ((⟨rfl, rfl, rfl, Nat.le_refl _, fun _ _ _ => rfl⟩ : Chg (fun q => q = W.heap.size) W1 (W1.drewN nq)).setCell (p := ⟨W.heap.size, 0, none⟩) (.inl rfl) _).setCell (p := ⟨W.heap.size, 1, none⟩) (.inl rfl) _
    refine ⟨H1.out.chg (Has.local_ _) hc (fun k hk e => H4.out k hk e), ⟨⟨hc.os.trans H2.out.os, hc.tape.trans H2.out.tape, hc.output.trans H2.out.output, Nat.le_trans H2.out.size hc.size, fun k hk hF => (hc.block k (Nat.lt_of_lt_of_le hk H2.out.size) (fun e => by omega)).trans (H2.out.block k hk hF)⟩, fun _ h => .inl h⟩, ?_⟩
    exact Blk.set_ (t := 31) (Blk.set_ (t := 31) (Blk.drewN (t := 31) H3.out nq) 0 (.int .i64 r)) 1 (.int .i64 0)
  have HFIN := Lib.hid hfin
  clear hfin
  by_cases hed : e < d + 1
  · have hc : decide ((e : Int) < (d : Int) + 1) = true := by rw [decide_eq_true_iff]; omega
    obtain rfl : r = 4 := by rw [← HRR.out, if_pos hed]
    go_quiet (fail)
    go_wp2
    obtain ⟨k1, k2, k3⟩ := HFIN.out 4 nq
    have K1 := Lib.hid k1
    have K2 := Lib.hid k2
    have q0 := Blk.cell (t := 31) k3 0
    have q1 := Blk.cell (t := 31) k3 1
    simp only [List.getElem?_toArray, List.getElem?_cons_zero, List.getElem?_cons_succ] at q0 q1
    clear k1 k2 k3 g0 g1 gf aA aB aC aG HFIN
    simp [bodyPost, settle, results, Try.results11, go_sem, q0, q1]
    exact ⟨F, K1.out, K2.out⟩
  · have hc : decide ((e : Int) < (d : Int) + 1) = false := by rw [decide_eq_false_iff_not]; omega
    obtain rfl : r = 0 := by rw [← HRR.out, if_neg hed]
    go_quiet (fail)
    go_wp2
    obtain ⟨k1, k2, k3⟩ := HFIN.out 0 nq
    have K1 := Lib.hid k1
    have K2 := Lib.hid k2
    have q0 := Blk.cell (t := 31) k3 0
    have q1 := Blk.cell (t := 31) k3 1
    simp only [List.getElem?_toArray, List.getElem?_cons_zero, List.getElem?_cons_succ] at q0 q1
    clear k1 k2 k3 g0 g1 gf aA aB aC aG HFIN
    simp [bodyPost, settle, results, Try.results11, go_sem, q0, q1]
    exact ⟨F, K1.out, K2.out⟩
end Go.Proofs.Ytekgdakkkbnpiaa
