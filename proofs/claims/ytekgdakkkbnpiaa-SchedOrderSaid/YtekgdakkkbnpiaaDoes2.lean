/- A task's step that panics, done. No condition. -/
import Derived.Test.YtekgdakkkbnpiaaDoes
namespace Go.Proofs.Ytekgdakkkbnpiaa
set_option linter.unusedVariables false
set_option linter.unusedSimpArgs false
open Go Go.RowKit
theorem close_panic (S B0 B1 B2 : Nat) (x : Bool) (a b : Value) (u : TypeId) (pv : Value) (w : World) (h0 : w.cell? ⟨B0, 0, none⟩ = some (ptr S)) (h4 : w.cell? ⟨S, 4, none⟩ = some (.bool x)) (f4 : w.frozen? ⟨S, 4, none⟩ = false)
    (h2 : w.cell? ⟨B2, 0, none⟩ = some (.bool false)) (h10 : w.cell? ⟨B1, 0, none⟩ = some a) (h11 : w.cell? ⟨B1, 1, none⟩ = some b) (f1 : ∀ j, w.frozen? ⟨B1, j, none⟩ = false) (hne : B1 ≠ S) :
    CallsD Try.prog 64 #[ptr B0, ptr B2, ptr B1] (.panicking ({ v := .iface u pv, recovered := false } :: [])) w fun e u' w' =>
      e = .returned (.tuple #[]) ∧ u' = .panicking ({ v := .iface u pv, recovered := true } :: []) ∧ w' = ((w.setCell ⟨S, 4, none⟩ (.bool false)).setCell ⟨B1, 0, none⟩ (.int .i64 0)).setCell ⟨B1, 1, none⟩ (.int .i64 0) := by
  have hc2 : (w.setCell ⟨S, 4, none⟩ (.bool false)).cell? ⟨B2, 0, none⟩ = some (.bool false) := (World.cell?_setCell_other w _ _ _ (fun e => by cases e)).trans h2
  have hc10 : (w.setCell ⟨S, 4, none⟩ (.bool false)).cell? ⟨B1, 0, none⟩ = some a := (World.cell?_setCell_other w _ _ _ (fun e => by cases e)).trans h10
  have hc11 : ((w.setCell ⟨S, 4, none⟩ (.bool false)).setCell ⟨B1, 0, none⟩ (.int .i64 0)).cell? ⟨B1, 1, none⟩ = some b := (World.cell?_setCell_other _ _ _ _ (fun e => by cases e)).trans ((World.cell?_setCell_other w _ _ _ (fun e => by cases e)).trans h11)
  unfold ptr at *
  refine callsD_of_wpS Try.func64 rfl fun c₀ cs hu => ?_
  apply wpS_seq
  apply wpS_region
  simp [wpOpsS, go_sem, recoverD, hu, Try.ntmps64, Exit.thenS, h0, h4, f4]
  apply wpS_seq
  apply wpS_region
  simp [wpOpsS, go_sem, recoverD, hu, Try.ntmps64, Exit.thenS, hc2]
  refine wpS_cond (t := true) (by simp [Act.eval, Array.replicate]) ?_
  simp only [if_true]
  apply wpS_seq
  apply wpS_region
  simp [wpOpsS, go_sem, recoverD, hu, Try.ntmps64, Exit.thenS]
  apply wpS_region
  simp [wpOpsS, go_sem, recoverD, hu, Try.ntmps64, Exit.thenS, hc10, hc11, f1, bodyPostS, results, Try.results64]

set_option maxRecDepth 100000 in
set_option maxHeartbeats 1000000 in
theorem does_panic {F : Nat → Prop} {S T n : Nat} {Ts : List Nat} {σ σ' : Sc} {t : Tk} {R R' : (Nat → Prop) → World → Prop} {w : World} (hR : Local R) (hR' : Local R') (h : Full F S Ts σ R w) (hT : Ts[n]? = some T) (ht : σ.tks[n]? = some t)
    (hstep : ∀ F W, Full F S Ts (open_ σ) R W → Calls Try.prog t.f t.caps W fun e W' => (∃ u pv, e = .panicked [{ v := .iface u pv, recovered := false }]) ∧ ∃ F', Full F' S Ts σ' R' W' ∧ Owned F W F' W') :
    Calls Try.prog 54 #[ptr S, ptr T] w fun e w' => e = .returned (.tuple #[.agg #[.int .i64 0, .int .i64 0], .bool false]) ∧ ∃ F', Full F' S Ts (shut_ σ') R' w' ∧ Owned F w F' w' := by
  have hmf : ∀ (fn : Fn) (first cap : Array Value) (w : World), (Instr.makeFunc fn first cap).run Try.prog w = .ok (.func fn first cap) w := fun _ _ _ _ => rfl
  obtain ⟨C, D, hrep, hr, hd, hf⟩ := h
  have hcs := hrep
  obtain ⟨⟨tv, M, h1, -, -, -, -⟩, h4, h5, h6, h7, h10, hw, hs⟩ := hrep
  obtain ⟨-, -, -, -, s4, sf⟩ := sc_cell h1
  have hSl : S < w.heap.size := hs S h7
  have hb6 := h6 n t T ht hT
  obtain ⟨-, t1, -, -, -, -, -, -⟩ := tk_cell hb6
  have hTl : T < w.heap.size := hs T (h10 T (List.mem_of_getElem? hT))
  have he := (hw.tk t (List.mem_of_getElem? ht)).enters
  have sf4 := sf 4
  have below3 : ∀ o1 o2 o3, Below w.heap.size w (((w.alloc o1).alloc o2).alloc o3) := fun o1 o2 o3 => (((Below.refl _ w).alloc (Nat.le_refl _) o1).alloc (by simp) o2).alloc (by simp; omega) o3
  have hA4 : ∀ o1 o2 o3, (((w.alloc o1).alloc o2).alloc o3).cell? ⟨S, 4, none⟩ = some (.bool σ.within) := fun o1 o2 o3 => ((below3 o1 o2 o3).cell (p := ⟨S, 4, none⟩) hSl).trans s4
  have hAf : ∀ o1 o2 o3, (((w.alloc o1).alloc o2).alloc o3).frozen? ⟨S, 4, none⟩ = false := fun o1 o2 o3 => ((below3 o1 o2 o3).frozen (p := ⟨S, 4, none⟩) hSl).trans sf4
  have hT1 : ∀ o1 o2 o3 v, ((((w.alloc o1).alloc o2).alloc o3).setCell ⟨S, 4, none⟩ v).cell? ⟨T, 1, none⟩ = some (.func (.func t.f) #[] t.caps) := fun o1 o2 o3 v =>
    (World.cell?_setCell_other _ _ _ _ (fun e => by cases e)).trans (((below3 o1 o2 o3).cell (p := ⟨T, 1, none⟩) hTl).trans t1)
  have B3 := Lib.hid below3
  clear below3 s4 sf4 t1
  have HREP := Lib.hid hcs
  have HRR := Lib.hid hr
  have HF := Lib.hid hf
  have HD := Lib.hid hd
  have HST := Lib.hid hstep
  clear hcs hr hf hd hstep h1 h4 h5 h6 h7 h10 hw hs sf hb6
  unfold ptr
  go_enter_defers Try.func54, Try.ntmps54
  go_wp2_with fail
  obtain ⟨W0, hW0⟩ : ∃ W0, (((w.alloc (.cells #[.pointer (some ⟨S, 0, none⟩)] 24)).alloc (.cells #[.int .i64 0, .int .i64 0] 31)).alloc (.cells #[.bool false] 4)) = W0 := ⟨_, rfl⟩
  have b0 : W0.heap[w.heap.size]? = some (.cells #[.pointer (some ⟨S, 0, none⟩)] 24 (0, 0)) := by
    rw [← hW0]; exact (Below.heap_alloc _ _ _ (by simp; omega)).trans ((Below.heap_alloc _ _ _ (by simp)).trans (World.alloc_heap_new w _))
  have b1 : W0.heap[w.heap.size + 1]? = some (.cells #[.int .i64 0, .int .i64 0] 31 (0, 0)) := by
    rw [← hW0]; exact (Below.heap_alloc _ _ _ (by simp)).trans (by have := World.alloc_heap_new (w.alloc (.cells #[.pointer (some ⟨S, 0, none⟩)] 24)) (.cells #[.int .i64 0, .int .i64 0] 31); rwa [World.size_alloc] at this)
  have b2 : W0.heap[w.heap.size + 1 + 1]? = some (.cells #[.bool false] 4 (0, 0)) := by
    rw [← hW0]; have := World.alloc_heap_new ((w.alloc (.cells #[.pointer (some ⟨S, 0, none⟩)] 24)).alloc (.cells #[.int .i64 0, .int .i64 0] 31)) (.cells #[.bool false] 4); rwa [World.size_alloc, World.size_alloc] at this
  have hz0 : W0.heap.size = w.heap.size + 3 := by rw [← hW0]; simp
  have hB0 : Below w.heap.size w W0 := by rw [← hW0]; exact B3.out _ _ _
  rw [hW0]
  clear hA4 hAf hT1 B3 hW0
  have hrep0 := HREP.out.below hB0
  have hrep2 : Rep C S Ts (open_ σ) (W0.setCell ⟨S, 4, none⟩ (.bool true)) := hrep0.setS 4 _ (open_ σ) (fun _ _ => rfl) rfl rfl rfl ⟨hrep0.wf.few, hrep0.wf.tk, hrep0.wf.since⟩
  have hc2 : Chg (fun k => k = S) w (W0.setCell ⟨S, 4, none⟩ (.bool true)) := Chg.setCell (C := fun k => k = S) (Chg.of_below hB0) (p := ⟨S, 4, none⟩) (.inl rfl) _
  have hr2 : R D (W0.setCell ⟨S, 4, none⟩ (.bool true)) := hR.chg D _ w _ HRR.out hc2 (fun k hk e => by subst e; exact HD.out _ HREP.out.inS hk)
  have hfull2 : Full F S Ts (open_ σ) R (W0.setCell ⟨S, 4, none⟩ (.bool true)) := ⟨C, D, hrep2, hr2, HD.out, HF.out⟩
  have hFs : ∀ k, F k → k < w.heap.size := Full.size hR ⟨C, D, HREP.out, HRR.out, HD.out, HF.out⟩
  have hSF : F S := (HF.out S).2 (.inl HREP.out.inS)
  obtain ⟨W2, hW2⟩ : ∃ W2, W0.setCell ⟨S, 4, none⟩ (.bool true) = W2 := ⟨_, rfl⟩
  have hk2 : ∀ k, k ≠ S → W2.heap[k]? = W0.heap[k]? := fun k hk => by rw [← hW2]; exact Below.heap_setCell W0 _ _ k hk
  have hz2 : W2.heap.size = w.heap.size + 3 := by rw [← hW2]; simpa [World.setCell] using hz0
  rw [hW2] at hfull2 hc2 ⊢
  clear hrep0 hrep2 hr2
  refine (HST.out F W2 hfull2).mono ?_
  rintro e W3 ⟨⟨u, pv, rfl⟩, F', hfull3, hown⟩
  have q0 : W3.heap[w.heap.size]? = some (.cells #[.pointer (some ⟨S, 0, none⟩)] 24 (0, 0)) := (hown.1.block _ (by omega) (fun h => by have := hFs _ h; omega)).trans ((hk2 _ (by omega)).trans b0)
  have q1 : W3.heap[w.heap.size + 1]? = some (.cells #[.int .i64 0, .int .i64 0] 31 (0, 0)) := (hown.1.block _ (by omega) (fun h => by have := hFs _ h; omega)).trans ((hk2 _ (by omega)).trans b1)
  have q2 : W3.heap[w.heap.size + 1 + 1]? = some (.cells #[.bool false] 4 (0, 0)) := (hown.1.block _ (by omega) (fun h => by have := hFs _ h; omega)).trans ((hk2 _ (by omega)).trans b2)
  have hF' : ∀ k, F' k → k < w.heap.size ∨ w.heap.size + 3 ≤ k := fun k hk => by
    rcases hown.2 k hk with h | h
    · exact .inl (hFs k h)
    · right; omega
  have c10 := Blk.cell (t := 31) q1 0
  have c11 := Blk.cell (t := 31) q1 1
  have f1 := fun j => Blk.frozen (t := 31) q1 j
  have c2 := Blk.cell (t := 4) q2 0
  have f2 := fun j => Blk.frozen (t := 4) q2 j
  simp only [List.getElem?_toArray, List.getElem?_cons_zero, List.getElem?_cons_succ] at c10 c11 c2
  have Q0 := Lib.hid q0
  have Q1 := Lib.hid q1
  have Q2 := Lib.hid q2
  have HOWN := Lib.hid hown
  have HF3 := Lib.hid hfull3
  have HC2 := Lib.hid hc2
  clear q0 q1 q2 hown hfull3 hc2 hfull2 hk2 b0 b1 b2 he
  go_wp2
  obtain ⟨C', D', hrep4, hr4, hd4, hf4⟩ := HF3.out
  obtain ⟨⟨tv', M', h1', -, -, -, -⟩, -, -, -, hS', -, hw', hs'⟩ := id hrep4
  obtain ⟨-, -, -, -, s4', sf'⟩ := sc_cell h1'
  refine leaves_cons (f := 64) (args := #[ptr w.heap.size, ptr (w.heap.size + 1 + 1), ptr (w.heap.size + 1)]) (by simp [ptr]) (by simp [go_sem, ptr]) ?_
  refine (close_panic S w.heap.size (w.heap.size + 1) (w.heap.size + 1 + 1) σ'.within _ _ u pv W3 ?_ s4' (sf' 4) c2 c10 c11 f1 (by omega)).mono ?_
  · have := Blk.cell (t := 24) Q0.out 0
    simpa [ptr] using this
  rintro e u' W5 ⟨rfl, rfl, rfl⟩
  have hSne : S ≠ w.heap.size + 1 ∧ S ≠ w.heap.size + 1 + 1 := by omega
  have e0 : (W3.setCell ⟨S, 4, none⟩ (.bool false)).heap[w.heap.size + 1]? = some (.cells #[.int .i64 0, .int .i64 0] 31 (0, 0)) := (Below.heap_setCell _ _ _ _ (by simp; omega)).trans Q1.out
  have e1 : (((W3.setCell ⟨S, 4, none⟩ (.bool false)).setCell ⟨w.heap.size + 1, 0, none⟩ (.int .i64 0)).setCell ⟨w.heap.size + 1, 1, none⟩ (.int .i64 0)).heap[w.heap.size + 1]? = some (.cells #[.int .i64 0, .int .i64 0] 31 (0, 0)) :=
    Blk.set_ (t := 31) (Blk.set_ (t := 31) e0 0 (.int .i64 0)) 1 (.int .i64 0)
  have e2 : (((W3.setCell ⟨S, 4, none⟩ (.bool false)).setCell ⟨w.heap.size + 1, 0, none⟩ (.int .i64 0)).setCell ⟨w.heap.size + 1, 1, none⟩ (.int .i64 0)).heap[w.heap.size + 1 + 1]? = some (.cells #[.bool false] 4 (0, 0)) :=
    (Below.heap_setCell _ _ _ _ (by simp)).trans ((Below.heap_setCell _ _ _ _ (by simp)).trans ((Below.heap_setCell _ _ _ _ (by simp; omega)).trans Q2.out))
  have g10 := Blk.cell (t := 31) e1 0
  have g11 := Blk.cell (t := 31) e1 1
  have g2 := Blk.cell (t := 4) e2 0
  simp only [List.getElem?_toArray, List.getElem?_cons_zero, List.getElem?_cons_succ] at g10 g11 g2
  have hc5 : Chg (fun j => j = w.heap.size + 1) (W3.setCell ⟨S, 4, none⟩ (.bool false)) (((W3.setCell ⟨S, 4, none⟩ (.bool false)).setCell ⟨w.heap.size + 1, 0, none⟩ (.int .i64 0)).setCell ⟨w.heap.size + 1, 1, none⟩ (.int .i64 0)) :=
    Chg.setCell (C := fun j => j = w.heap.size + 1) (Chg.setCell (C := fun j => j = w.heap.size + 1) (Chg.refl _ _) (p := ⟨w.heap.size + 1, 0, none⟩) (.inl rfl) _) (p := ⟨w.heap.size + 1, 1, none⟩) (.inl rfl) _
  have hfin : ∃ F', Full F' S Ts (shut_ σ') R' (((W3.setCell ⟨S, 4, none⟩ (.bool false)).setCell ⟨w.heap.size + 1, 0, none⟩ (.int .i64 0)).setCell ⟨w.heap.size + 1, 1, none⟩ (.int .i64 0)) ∧ Owned F w F' (((W3.setCell ⟨S, 4, none⟩ (.bool false)).setCell ⟨w.heap.size + 1, 0, none⟩ (.int .i64 0)).setCell ⟨w.heap.size + 1, 1, none⟩ (.int .i64 0)) := by
    have hfull5 : Full F' S Ts (shut_ σ') R' (W3.setCell ⟨S, 4, none⟩ (.bool false)) := ⟨C', D', hrep4.setS 4 _ (shut_ σ') (fun _ _ => rfl) rfl rfl rfl ⟨hw'.few, hw'.tk, hw'.since⟩,
      hR'.chg D' (fun j => j = S) W3 _ hr4 (Chg.setCell (C := fun j => j = S) (Chg.refl _ W3) (p := ⟨S, 4, none⟩) (.inl rfl) _) (fun j hj e => by subst e; exact hd4 _ hS' hj), hd4, hf4⟩
    refine ⟨F', hfull5.chg hR' hc5 (fun j hj h => by rcases hF' j hj with h1 | h1 <;> omega), ?_, fun j hj => ?_⟩
    · have h1 : Chg F w W2 := HC2.out.mono (fun j hj => by subst hj; exact hSF)
      have h3 : Chg F w (W3.setCell ⟨S, 4, none⟩ (.bool false)) := (h1.trans HOWN.out.1).setCell (p := ⟨S, 4, none⟩) (.inl hSF) _
      exact ⟨hc5.os.trans h3.os, hc5.tape.trans h3.tape, hc5.output.trans h3.output, Nat.le_trans h3.size hc5.size, fun i hi hf => (hc5.block i (Nat.lt_of_lt_of_le hi h3.size) (by omega)).trans (h3.block i hi hf)⟩
    · rcases HOWN.out.2 j hj with h | h
      · exact .inl h
      · right; omega
  have HFIN := Lib.hid hfin
  clear hfin
  simp [Leaves, settle, results, Try.results54, go_sem, g10, g11, g2]
  exact HFIN.out
end Go.Proofs.Ytekgdakkkbnpiaa
