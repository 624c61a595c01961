/- The scheduler's pick: one of those who may go does a step. No condition. -/
import Derived.Test.YtekgdakkkbnpiaaDoes2
import Derived.BigRegion
namespace Go.Proofs.Ytekgdakkkbnpiaa
set_option linter.unusedVariables false
set_option linter.unusedSimpArgs false
open Go Go.RowKit

def slot (σ : Sc) (i : Int) : Nat := ((if i < 0 then 0 else i) % ((enabledP σ).length : Int)).toNat
def chosen (σ : Sc) (i : Int) : Nat := (enabledP σ).getD (slot σ i) 0
def takeLock (σ : Sc) (n : Nat) (t : Tk) : Sc := if t.kind = 1 then { σ with locks := upd σ.locks t.on (some (n : Int)), cap := σ.cap + 1 } else σ
def bare (t : Tk) : Tk := { t with kind := 0, on := 0 }
def cleared (σ : Sc) (n : Nat) (t : Tk) : Sc := { takeLock σ n t with tks := σ.tks.set n (bare t) }
def wishK (k : Int) : Int := if k < 0 ∨ 4 < k then 4 else k
def wishO (k o : Int) : Int := if k < 0 ∨ 4 < k then 0 else o
def finish (σ : Sc) (n : Nat) (t : Tk) (k o : Int) : Sc :=
  { σ with steps := σ.steps + 1, wishes := σ.wishes + 1, tks := σ.tks.set n { t with kind := wishK k, on := wishO k o, since := σ.steps + 1, order := σ.wishes + 1 } }

theorem wfi_nat (n : Nat) (h : n < 4611686018427387904) : wfi (n : Int) := by
  unfold wfi; simp [Lit.wf, IntKind.min, IntKind.max, IntKind.signed, IntKind.bits]; omega
theorem chg_of_turned {w w' : World} {M : Nat} (h : w.drew.mapTurned w' M) : Chg (fun j => j = M) w w' :=
  ⟨h.grown.os, h.grown.tape, h.grown.output, h.grown.size, fun k hk hne => h.grown.block k hk (fun e => hne (by injection e))⟩
theorem fl_mem {pr : Nat → Bool} {k j n : Nat} (h : (fl pr k)[j]? = some n) : n < k ∧ pr n = true := by
  have hm := List.mem_of_getElem? h
  unfold fl at hm
  rw [List.mem_filter, List.mem_range] at hm
  exact hm
theorem slot_lt (σ : Sc) (i : Int) (h : 0 < (enabledP σ).length) : slot σ i < (enabledP σ).length ∧ ((if i < 0 then 0 else i) % ((enabledP σ).length : Int)) = (slot σ i : Int) := by
  unfold slot
  have h1 := Int.emod_lt_of_pos (if i < 0 then 0 else i) (b := ((enabledP σ).length : Int)) (by omega)
  have h2 := Int.emod_nonneg (if i < 0 then 0 else i) (b := ((enabledP σ).length : Int)) (by omega)
  omega
theorem chosen_get (σ : Sc) (i : Int) (h : 0 < (enabledP σ).length) : (enabledP σ)[slot σ i]? = some (chosen σ i) := by
  have := (slot_lt σ i h).1
  unfold chosen
  rw [List.getD_eq_getElem?_getD, List.getElem?_eq_getElem this]; rfl
theorem chosen_may {σ : Sc} {i : Int} {t : Tk} (h : 0 < (enabledP σ).length) (ht : σ.tks[chosen σ i]? = some t) : mayP σ t = true := by
  have := (fl_mem (chosen_get σ i h)).2
  rw [ht] at this; exact this
theorem chosen_lt {σ : Sc} {i : Int} (h : 0 < (enabledP σ).length) : chosen σ i < σ.tks.length := (fl_mem (chosen_get σ i h)).1

theorem rep_wish {C : Nat → Prop} {S n T : Nat} {Ts : List Nat} {σ : Sc} {t : Tk} {W : World} (h : Rep C S Ts σ W) (hT : Ts[n]? = some T) (ht : σ.tks[n]? = some t) (k o : Int) (a b : Nat) (ho : wfi o) (ha : a ≤ σ.steps) (hb : b ≤ σ.wishes) :
    Rep C S Ts { σ with tks := σ.tks.set n { t with kind := k, on := o, since := a, order := b } } ((((W.setCell ⟨T, 2, none⟩ (.int .i64 k)).setCell ⟨T, 3, none⟩ (.int .i64 o)).setCell ⟨T, 4, none⟩ (.int .i64 a)).setCell ⟨T, 5, none⟩ (.int .i64 b)) := by
  have hwt := h.wf.tk t (List.mem_of_getElem? ht)
  have hsi := h.wf.since t (List.mem_of_getElem? ht)
  have hn : n < σ.tks.length := (List.getElem?_eq_some_iff.1 ht).1
  have step : ∀ (τ : Sc) (u : Tk), n < τ.tks.length → ({ τ with tks := τ.tks.set n u } : Sc).tks[n]? = some u := fun τ u hl => by simp [hl]
  have r1 := h.setT hT ht 2 (.int .i64 k) { t with kind := k } rfl ⟨hwt.on, hwt.enters⟩ hsi
  have r2 := r1.setT hT (step σ _ hn) 3 (.int .i64 o) { t with kind := k, on := o } rfl ⟨ho, hwt.enters⟩ hsi
  have r3 := r2.setT hT (step _ _ (by simpa using hn)) 4 (.int .i64 a) { t with kind := k, on := o, since := a } rfl ⟨ho, hwt.enters⟩ ⟨ha, hsi.2⟩
  have r4 := r3.setT hT (step _ _ (by simpa using hn)) 5 (.int .i64 b) { t with kind := k, on := o, since := a, order := b } rfl ⟨ho, hwt.enters⟩ ⟨ha, hb⟩
  simp only [List.set_set] at r4
  exact r4

/-- What is left behind a step that returned. -/
theorem pick_end {C D F' F : Nat → Prop} {S n T : Nat} {Ts : List Nat} {σ σ' : Sc} {t : Tk} {R' : (Nat → Prop) → World → Prop} {w w3 W7 : World} (hR' : Local R') (h3 : R' D w3) (hd : ∀ q, C q → ¬ D q) (hf : ∀ q, F' q ↔ C q ∨ D q)
    (h7 : Rep C S Ts { shut_ σ' with steps := σ.steps + 1, wishes := σ.wishes + 1 } W7) (hc7 : Chg (fun q => q = S) w3 W7) (hown : Owned F w F' w3) (hT : Ts[n]? = some T) (ht : σ'.tks[n]? = some t) (hs : σ'.steps = σ.steps) (hw : σ'.wishes = σ.wishes)
    (k o k' o' : Int) (hk : k' = wishK k) (ho : o' = wishO k o) (hwf : wfi o') :
    ∃ F', Full F' S Ts (finish (shut_ σ') n t k o) R' (((((W7.setCell ⟨T, 2, none⟩ (.int .i64 k')).setCell ⟨T, 3, none⟩ (.int .i64 o')).setCell ⟨T, 4, none⟩ (.int .i64 ((σ.steps : Int) + 1))).setCell ⟨T, 5, none⟩ (.int .i64 ((σ.wishes : Int) + 1))).drew) ∧
      Owned F w F' (((((W7.setCell ⟨T, 2, none⟩ (.int .i64 k')).setCell ⟨T, 3, none⟩ (.int .i64 o')).setCell ⟨T, 4, none⟩ (.int .i64 ((σ.steps : Int) + 1))).setCell ⟨T, 5, none⟩ (.int .i64 ((σ.wishes : Int) + 1))).drew) := by
  subst hk ho
  have r := rep_wish h7 hT ht (wishK k) (wishO k o) (σ.steps + 1) (σ.wishes + 1) hwf (Nat.le_refl _) (Nat.le_refl _)
  have hTC := h7.inT T (List.mem_of_getElem? hT)
  have hSC := h7.inS
  obtain ⟨W8, hW8⟩ : ∃ W8, ((((W7.setCell ⟨T, 2, none⟩ (.int .i64 (wishK k))).setCell ⟨T, 3, none⟩ (.int .i64 (wishO k o))).setCell ⟨T, 4, none⟩ (.int .i64 ((σ.steps : Int) + 1))).setCell ⟨T, 5, none⟩ (.int .i64 ((σ.wishes : Int) + 1))) = W8 := ⟨_, rfl⟩
  have hc8 : Chg (fun q => q = T) W7 W8 := by
    rw [← hW8]
    exact Chg.setCell (C := fun q => q = T) (Chg.setCell (C := fun q => q = T) (Chg.setCell (C := fun q => q = T) (Chg.setCell (C := fun q => q = T) (Chg.refl _ _) (p := ⟨T, 2, none⟩) (.inl rfl) _) (p := ⟨T, 3, none⟩) (.inl rfl) _) (p := ⟨T, 4, none⟩) (.inl rfl) _) (p := ⟨T, 5, none⟩) (.inl rfl) _
  have r' : Rep C S Ts (finish (shut_ σ') n t k o) W8 := by
    have e : finish (shut_ σ') n t k o = { ({ shut_ σ' with steps := σ.steps + 1, wishes := σ.wishes + 1 } : Sc) with tks := (shut_ σ').tks.set n { t with kind := wishK k, on := wishO k o, since := σ.steps + 1, order := σ.wishes + 1 } } := by
      simp [finish, shut_, hs, hw]
    rw [e, ← hW8]
    simpa using r
  rw [hW8]
  have hcF : Chg (fun q => C q) w3 W8.drew := (hc7.mono (fun q e => by rw [e]; exact hSC)).trans (hc8.mono (fun q e => by rw [e]; exact hTC)) |>.drew
  refine ⟨F', ⟨C, D, r'.below ⟨rfl, rfl, rfl, Nat.le_refl _, fun _ _ => rfl⟩, hR'.chg D _ w3 _ h3 hcF (fun q hq hc => hd q hc hq), hd, hf⟩, ?_⟩
  exact hown.trans ⟨hcF.mono (fun q hq => (hf q).2 (.inl hq)), fun q hq => .inl hq⟩

set_option maxRecDepth 100000 in
set_option maxHeartbeats 8000000 in
theorem pick_ok {F : Nat → Prop} {S n : Nat} {Ts : List Nat} {σ σ' : Sc} {t t3 : Tk} {R R' : (Nat → Prop) → World → Prop} {w : World} (i : Int) (hR : Local R) (hR' : Local R') (h : Full F S Ts σ R w) (hwi : σ.within = false) (hne : 0 < (enabledP σ).length)
    (hn : n = chosen σ i) (ht : σ.tks[n]? = some t) (k o : Int) (hi1 : -9223372036854775808 ≤ i) (hi2 : i ≤ 9223372036854775807) (hst : σ.steps < 4611686018427387904) (hwi2 : σ.wishes < 4611686018427387904) (hcp : σ.cap < 4611686018427387904)
    (hstep : ∀ F W, Full F S Ts (open_ (cleared σ n t)) R W → Calls Try.prog t.f t.caps W fun e W' => e = .returned (.agg #[.int .i64 k, .int .i64 o]) ∧ ∃ F', Full F' S Ts σ' R' W' ∧ Owned F W F' W')
    (h3 : σ'.tks[n]? = some t3) (hs3 : σ'.steps = σ.steps) (hw3 : σ'.wishes = σ.wishes) (ho : wfi o) :
    Calls Try.prog 29 #[ptr S, .int .i64 i] w fun e w' => e = .returned (.tuple #[.int .i64 (n : Int), .int .i64 0]) ∧ ∃ F', Full F' S Ts (finish (shut_ σ') n t3 k o) R' w' ∧ Owned F w F' w' := by
  obtain ⟨C, D, hrep, hr, hd, hf⟩ := id h
  have hen := enabled_any hrep hst
  have hFs : ∀ k, F k → k < w.heap.size := Full.size hR h
  have hlen := fl_le (fun i => match σ.tks[i]? with | some t => mayP σ t | none => false) σ.tks.length
  have hl64 : (enabledP σ).length ≤ 64 := Nat.le_trans hlen hrep.wf.few
  obtain ⟨hj, hje⟩ := slot_lt σ i hne
  have hget := chosen_get σ i hne
  rw [← hn] at hget
  obtain ⟨m, hm⟩ : ∃ m : Int, (if i < 0 then 0 else i) = m := ⟨_, rfl⟩
  rw [hm] at hje
  have hm0 : 0 ≤ m := by split at hm <;> omega
  have hm1 : m ≤ 9223372036854775807 := by split at hm <;> omega
  obtain ⟨j, hjd⟩ : ∃ j, slot σ i = j := ⟨_, rfl⟩
  rw [hjd] at hj hje hget
  obtain ⟨L, hL⟩ : ∃ L, (enabledP σ).length = L := ⟨_, rfl⟩
  rw [hL] at hj hje hl64 hne
  have HEN := Lib.hid hen
  have HGET := Lib.hid hget
  have HL := Lib.hid hL
  have HH := Lib.hid h
  have HN := Lib.hid hn
  have hn64 : n < 64 := by rw [hn]; exact Nat.lt_of_lt_of_le (chosen_lt (by rw [hL]; exact hne)) hrep.wf.few
  clear hen hget hL hlen hjd h hn
  unfold ptr
  go_enter Try.func29, Try.ntmps29
  go_wp2_with fail
  refine HEN.out.mono ?_
  rintro e w1 ⟨v, rfl, hown, hb1⟩
  rw [HL.out] at hown
  obtain ⟨A, cp, g, rfl, hA⟩ := own_shape hown
  obtain ⟨rfl, hgl, _⟩ := hA hne
  have hcg : w1.cell? ⟨g, j, none⟩ = some (.int .i64 (n : Int)) := by
    rw [World.ownsRow.cellAt hown j (by omega), nums, List.getElem?_map, HGET.out]; rfl
  have hrep1 := hrep.below hb1
  have hr1 : R D w1 := hR.chg D (fun _ => False) w w1 hr (Chg.of_below hb1) (fun _ _ f => f)
  have hf1 : Full F S Ts σ R w1 := ⟨C, D, hrep1, hr1, hd, hf⟩
  have hown1 : Owned F w F w1 := Owned.below hb1
  obtain ⟨⟨tv, M, g1, g2, g3, g8, g9⟩, g4, g5, g6, g7, g10, gw, gs⟩ := id hrep1
  obtain ⟨T, hT⟩ : ∃ T, Ts[n]? = some T := ⟨_, List.getElem?_eq_getElem (by rw [g4]; exact (List.getElem?_eq_some_iff.1 ht).1)⟩
  have hTb := g6 n t T ht hT
  obtain ⟨s0, s1, s2, s3, s4, sf⟩ := sc_cell g1
  obtain ⟨t0, t1, t2, t3', t4, t5, t6, tf⟩ := tk_cell hTb
  obtain ⟨A2, cp2, gg, rfl, hA2⟩ := own_shape g2
  obtain ⟨rfl, hggl, _⟩ := hA2 (by rw [g4]; have := (List.getElem?_eq_some_iff.1 ht).1; omega)
  have hnT : n < Ts.length := (List.getElem?_eq_some_iff.1 hT).1
  have hct : w1.cell? ⟨gg, n, none⟩ = some (.pointer (some ⟨T, 0, none⟩)) := by
    rw [World.ownsRow.cellAt g2 n (by omega), List.getElem?_map, hT]; rfl
  rw [hwi] at s4
  have hLne : ((L : Int) == 0) = false := by rw [beq_eq_false_iff_ne]; omega
  have hTs64 : Ts.length ≤ 64 := by rw [g4]; exact gw.few
  have hon := (gw.tk t (List.mem_of_getElem? ht)).on
  have HF1 := Lib.hid hf1
  have HO1 := Lib.hid hown1
  have HR1 := Lib.hid hrep1
  have HRR := Lib.hid hr1
  have HM := Lib.hid g3
  have HG1 := Lib.hid g1
  have HG8 := Lib.hid g8
  have HD := Lib.hid hd
  have HF := Lib.hid hf
  have HT := Lib.hid hT
  have HTT := Lib.hid ht
  have HST := Lib.hid hstep
  have HS3 := Lib.hid h3
  have hdo : ∀ wL, Rep C S Ts (takeLock σ n t) wL → R D wL → Calls Try.prog 54 #[.pointer (some ⟨S, 0, none⟩), .pointer (some ⟨T, 0, none⟩)] ((wL.setCell ⟨T, 2, none⟩ (.int .i64 0)).setCell ⟨T, 3, none⟩ (.int .i64 0)) fun e w' =>
      e = .returned (.tuple #[.agg #[.int .i64 k, .int .i64 o], .bool true]) ∧ ∃ F', Full F' S Ts (shut_ σ') R' w' ∧ Owned F wL F' w' := by
    intro wL hrepL hrL
    have hL := hrepL
    have htk : (takeLock σ n t).tks[n]? = some t := by unfold takeLock; split <;> exact ht
    have hn' : n < σ.tks.length := (List.getElem?_eq_some_iff.1 ht).1
    have hwt := hrepL.wf.tk t (List.mem_of_getElem? htk)
    have hsi := hrepL.wf.since t (List.mem_of_getElem? htk)
    have r1 := hrepL.setT hT htk 2 (.int .i64 0) { t with kind := 0 } rfl ⟨hwt.on, hwt.enters⟩ hsi
    have htk1 : ({ takeLock σ n t with tks := (takeLock σ n t).tks.set n { t with kind := 0 } } : Sc).tks[n]? = some { t with kind := 0 } := by
      have hn2 : n < (takeLock σ n t).tks.length := (List.getElem?_eq_some_iff.1 htk).1
      simp [List.getElem?_set, hn2]
    have r2 := r1.setT hT htk1 3 (.int .i64 0) (bare t) rfl ⟨by unfold bare; exact wfi_nat 0 (by omega), hwt.enters⟩ hsi
    have etk : (takeLock σ n t).tks = σ.tks := by unfold takeLock; split <;> rfl
    have r3 : Rep C S Ts (cleared σ n t) ((wL.setCell ⟨T, 2, none⟩ (.int .i64 0)).setCell ⟨T, 3, none⟩ (.int .i64 0)) := by
      have e : cleared σ n t = { takeLock σ n t with tks := ((takeLock σ n t).tks.set n { t with kind := 0 }).set n (bare t) } := by
        unfold cleared; rw [List.set_set, etk]
      rw [e]; exact r2
    have hTC := g10 T (List.mem_of_getElem? hT)
    have hch : Chg (fun q => q = T) wL ((wL.setCell ⟨T, 2, none⟩ (.int .i64 0)).setCell ⟨T, 3, none⟩ (.int .i64 0)) :=
      Chg.setCell (C := fun q => q = T) (Chg.setCell (C := fun q => q = T) (Chg.refl _ _) (p := ⟨T, 2, none⟩) (.inl rfl) _) (p := ⟨T, 3, none⟩) (.inl rfl) _
    have hrD := hR.chg D _ wL _ hrL hch (fun q hq e => by subst e; exact hd _ hTC hq)
    have hctk : (cleared σ n t).tks[n]? = some (bare t) := by simp [cleared, List.getElem?_set, hn']
    refine (does_ok hR hR' ⟨C, D, r3, hrD, hd, hf⟩ hT hctk k o hstep).mono ?_
    rintro e w' ⟨he, F', hful, hown⟩
    exact ⟨he, F', hful, Owned.trans ⟨hch.mono (fun q e => by rw [e]; exact (hf T).2 (.inl hTC)), fun q hq => .inl hq⟩ hown⟩
  have HDO := Lib.hid hdo
  clear hdo hf1 hown1 hrep1 hr1 g3 hd hf hT ht hstep h3 hrep hr g1 g2 g4 g5 g6 g7 g8 g9 g10 gw gs hTb hA hA2 hown hb1
  by_cases hk1 : t.kind = 1
  · have e1 : (t.kind == 1) = true := by simp [hk1]
    obtain ⟨wL, hrunL, hML, htn⟩ := MapIs.store (w := w1.drew) (HM.out.same rfl) (by unfold maxLen; omega) (k := t.on) (v := (n : Int)) hon (wfi_nat n (by omega))
    have hrepL : Rep C S Ts (takeLock σ n t) wL := by
      have h1 : Rep C S Ts σ w1.drew := HR1.out.below ⟨rfl, rfl, rfl, Nat.le_refl _, fun _ _ => rfl⟩
      have h2 := h1.setM (w' := wL) (upd σ.locks t.on (some (n : Int))) (σ.cap + 1) (fun M' ⟨tv', hM'⟩ => by
        have : M' = M := by
          have := (Option.some.inj (hM'.symm.trans HG1.out))
          simp [scCells] at this
          exact this.2
        rw [this]; exact ⟨hML, htn⟩)
      unfold takeLock
      rw [if_pos hk1]; exact h2
    have hTL := hrepL.tasks n t T (by unfold takeLock; split <;> exact HTT.out) HT.out
    obtain ⟨-, -, u2, u3, -, -, -, uf⟩ := tk_cell hTL
    have hcM := chg_of_turned htn
    have hcL : Chg F w1 wL := hcM.mono (fun j e => by rw [e]; exact (HF.out M).2 (.inl HG8.out))
    have hrL : R D wL := hR.chg D _ w1 _ HRR.out hcM (fun j hj e => by subst e; exact HD.out _ HG8.out hj)
    have HREP := Lib.hid hrepL
    have HCL := Lib.hid hcL
    have HRL := Lib.hid hrL
    have HTTL := Lib.hid hTL
    clear hrepL hML htn hcL hrL hTL hcM
    go_wp2_with fail
    go_region
    go_wp2_with fail
    clear hrunL s0 s1 s2 s3 s4 sf t0 t1 t2 t3' t4 t5 t6 tf hct hcg e1 hk1
    refine (HDO.out wL HREP.out HRL.out).mono ?_
    rintro e w3 ⟨rfl, F', hful, hown3⟩
    obtain ⟨C3, D3, rep3, r3, d3, f3⟩ := id hful
    obtain ⟨⟨tv3, M3, p1, -, -, -, -⟩, -, -, p6, p7, p10, pw, ps⟩ := id rep3
    have pT := p6 n t3 T HS3.out HT.out
    have hSl : S < w3.heap.size := ps S p7
    have hTl : T < w3.heap.size := ps T (p10 T (List.mem_of_getElem? HT.out))
    have nST : ¬ S = T := fun e => by rw [e] at p1; rw [p1] at pT; injection pT with pT; injection pT with _ pT; simp at pT
    have nTS : ¬ T = S := fun e => nST e.symm
    have nSB : ¬ S = w3.heap.size := by omega
    have nTB : ¬ T = w3.heap.size := by omega
    have nBS : ¬ w3.heap.size = S := by omega
    have nBT : ¬ w3.heap.size = T := by omega
    have hS' : ∀ ob, (w3.alloc ob).heap[S]? = some (.cells (scCells tv3 M3 (shut_ σ')) 71 (0, 0)) := fun ob => (Below.heap_alloc w3 ob S hSl).trans p1
    have hT' : ∀ ob, (w3.alloc ob).heap[T]? = some (.cells (tkCells t3) 74 (0, 0)) := fun ob => (Below.heap_alloc w3 ob T hTl).trans pT
    have z2 : ∀ ob, (w3.alloc ob).cell? ⟨S, 2, none⟩ = some (.int .i64 (σ.steps : Int)) := fun ob => by rw [← hs3]; exact (sc_cell (hS' ob)).2.2.1
    have z3 : ∀ ob, (w3.alloc ob).cell? ⟨S, 3, none⟩ = some (.int .i64 (σ.wishes : Int)) := fun ob => by rw [← hw3]; exact (sc_cell (hS' ob)).2.2.2.1
    have zf : ∀ ob q, (w3.alloc ob).frozen? ⟨S, q, none⟩ = false := fun ob q => (sc_cell (hS' ob)).2.2.2.2.2 q
    have v2 : ∀ ob, (w3.alloc ob).cell? ⟨T, 2, none⟩ = some (.int .i64 t3.kind) := fun ob => (tk_cell (hT' ob)).2.2.1
    have v3 : ∀ ob, (w3.alloc ob).cell? ⟨T, 3, none⟩ = some (.int .i64 t3.on) := fun ob => (tk_cell (hT' ob)).2.2.2.1
    have v4 : ∀ ob, (w3.alloc ob).cell? ⟨T, 4, none⟩ = some (.int .i64 (t3.since : Int)) := fun ob => (tk_cell (hT' ob)).2.2.2.2.1
    have v5 : ∀ ob, (w3.alloc ob).cell? ⟨T, 5, none⟩ = some (.int .i64 (t3.order : Int)) := fun ob => (tk_cell (hT' ob)).2.2.2.2.2.1
    have vf : ∀ ob q, (w3.alloc ob).frozen? ⟨T, q, none⟩ = false := fun ob q => (tk_cell (hT' ob)).2.2.2.2.2.2.2 q
    obtain ⟨-, -, y2, y3, -, yf⟩ := sc_cell p1
    obtain ⟨-, -, x2, x3, x4, x5, -, xf⟩ := tk_cell pT
    have e2 : ((shut_ σ').steps : Int) = (σ.steps : Int) := by rw [← hs3]; rfl
    have e3 : ((shut_ σ').wishes : Int) = (σ.wishes : Int) := by rw [← hw3]; rfl
    rw [e2] at y2
    rw [e3] at y3
    clear e2 e3
    have P1 := Lib.hid p1
    have PT := Lib.hid pT
    have HFUL := Lib.hid hful
    have HOW3 := Lib.hid hown3
    have REP3 := Lib.hid rep3
    have RR3 := Lib.hid r3
    have DD3 := Lib.hid d3
    have FF3 := Lib.hid f3
    clear hful hown3 rep3 r3 d3 f3 p1 p6 p7 p10 pw ps pT hS' hT'
    by_cases hkk : k < 0 ∨ 4 < k
    · by_cases hneg : k < 0
      · have hk0 : decide (k < 0) = true := by simp; omega
        have hk4 : True := trivial
        go_wp2_with fail
        obtain ⟨W7, hW7⟩ : ∃ W7, (((w3.setCell ⟨S, 2, none⟩ (.int .i64 ((σ.steps : Int) + 1))).setCell ⟨S, 3, none⟩ (.int .i64 ((σ.wishes : Int) + 1))).alloc (.cells #[.int .i64 4, .int .i64 0] 31)) = W7 := ⟨_, rfl⟩
        rw [hW7]
        have hz : (((w3.setCell ⟨S, 2, none⟩ (.int .i64 ((σ.steps : Int) + 1))).setCell ⟨S, 3, none⟩ (.int .i64 ((σ.wishes : Int) + 1)))).heap.size = w3.heap.size := by simp [World.setCell]
        have hB7 : W7.heap[w3.heap.size]? = some (.cells #[.int .i64 4, .int .i64 0] 31 (0, 0)) := by
          rw [← hW7, ← hz]; exact World.alloc_heap_new _ _
        have hS7 : W7.heap[S]? = some (.cells (scCells tv3 M3 { shut_ σ' with steps := σ.steps + 1, wishes := σ.wishes + 1 }) 71 (0, 0)) := by
          rw [← hW7]
          refine (Below.heap_alloc _ _ S (by rw [hz]; exact hSl)).trans ?_
          have := Blk.set_ (t := 71) (Blk.set_ (t := 71) P1.out 2 (.int .i64 ((σ.steps : Int) + 1))) 3 (.int .i64 ((σ.wishes : Int) + 1))
          exact this
        have hT7 : W7.heap[T]? = some (.cells (tkCells t3) 74 (0, 0)) := by
          rw [← hW7]
          exact (Below.heap_alloc _ _ T (by rw [hz]; exact hTl)).trans ((Below.heap_setCell _ _ _ _ nTS).trans ((Below.heap_setCell _ _ _ _ nTS).trans PT.out))
        have rep7 : Rep C3 S Ts { shut_ σ' with steps := σ.steps + 1, wishes := σ.wishes + 1 } W7 := by
          rw [← hW7]
          have hw0 := REP3.out.wf
          have q1 := REP3.out.setS 2 (.int .i64 ((σ.steps : Int) + 1)) { shut_ σ' with steps := σ.steps + 1 } (fun _ _ => rfl) rfl rfl rfl ⟨hw0.few, hw0.tk, fun u hu => ⟨by have := (hw0.since u hu).1; rw [show (shut_ σ').steps = σ.steps from hs3] at this; show u.since ≤ σ.steps + 1; omega, (hw0.since u hu).2⟩⟩
          have q2 := q1.setS 3 (.int .i64 ((σ.wishes : Int) + 1)) { shut_ σ' with steps := σ.steps + 1, wishes := σ.wishes + 1 } (fun _ _ => rfl) rfl rfl rfl ⟨hw0.few, hw0.tk, fun u hu => ⟨(q1.wf.since u hu).1, by have := (hw0.since u hu).2; rw [show (shut_ σ').wishes = σ.wishes from hw3] at this; show u.order ≤ σ.wishes + 1; omega⟩⟩
          exact q2.below ((Below.refl _ _).alloc (Nat.le_refl _) _)
        have R7 := Lib.hid rep7
        clear rep7
        have hc7 : Chg (fun q => q = S) w3 W7 := by
          rw [← hW7]
          exact (Chg.setCell (C := fun q => q = S) (Chg.setCell (C := fun q => q = S) (Chg.refl _ _) (p := ⟨S, 2, none⟩) (.inl rfl) _) (p := ⟨S, 3, none⟩) (.inl rfl) _).alloc _
        obtain ⟨-, -, s2, s3, -, sf⟩ := sc_cell hS7
        obtain ⟨-, -, t2, t3', t4, t5, -, tf⟩ := tk_cell hT7
        have b0 := Blk.cell (t := 31) hB7 0
        have b1 := Blk.cell (t := 31) hB7 1
        simp only [List.getElem?_toArray, List.getElem?_cons_zero, List.getElem?_cons_succ] at b0 b1
        have es : ((({ shut_ σ' with steps := σ.steps + 1, wishes := σ.wishes + 1 } : Sc).steps : Nat) : Int) = (σ.steps : Int) + 1 := rfl
        have ew : ((({ shut_ σ' with steps := σ.steps + 1, wishes := σ.wishes + 1 } : Sc).wishes : Nat) : Int) = (σ.wishes : Int) + 1 := rfl
        rw [es] at s2
        rw [ew] at s3
        have C7 := Lib.hid hc7
        have S7 := Lib.hid hS7
        have T7 := Lib.hid hT7
        clear hW7 hz hB7 hS7 hT7 hc7 es ew y2 y3 yf x2 x3 x4 x5 xf z2 z3 zf v2 v3 v4 v5 vf hk0 hk4
        go_region
        go_wp2
        go_ret2
        refine ⟨rfl, pick_end (σ := σ) hR' RR3.out DD3.out FF3.out R7.out C7.out ((HO1.out.trans ⟨HCL.out, fun q hq => .inl hq⟩).trans HOW3.out) HT.out HS3.out hs3 hw3 k o 4 0 ?_ ?_ ?_⟩
        · unfold wishK; rw [if_pos hkk]
        · unfold wishO; rw [if_pos hkk]
        · exact wfi_nat 0 (by omega)
      · have hk0 : decide (k < 0) = false := by simp; omega
        have hk4 : decide (4 < k) = true := by simp; omega
        go_wp2_with fail
        obtain ⟨W7, hW7⟩ : ∃ W7, (((w3.setCell ⟨S, 2, none⟩ (.int .i64 ((σ.steps : Int) + 1))).setCell ⟨S, 3, none⟩ (.int .i64 ((σ.wishes : Int) + 1))).alloc (.cells #[.int .i64 4, .int .i64 0] 31)) = W7 := ⟨_, rfl⟩
        rw [hW7]
        have hz : (((w3.setCell ⟨S, 2, none⟩ (.int .i64 ((σ.steps : Int) + 1))).setCell ⟨S, 3, none⟩ (.int .i64 ((σ.wishes : Int) + 1)))).heap.size = w3.heap.size := by simp [World.setCell]
        have hB7 : W7.heap[w3.heap.size]? = some (.cells #[.int .i64 4, .int .i64 0] 31 (0, 0)) := by
          rw [← hW7, ← hz]; exact World.alloc_heap_new _ _
        have hS7 : W7.heap[S]? = some (.cells (scCells tv3 M3 { shut_ σ' with steps := σ.steps + 1, wishes := σ.wishes + 1 }) 71 (0, 0)) := by
          rw [← hW7]
          refine (Below.heap_alloc _ _ S (by rw [hz]; exact hSl)).trans ?_
          have := Blk.set_ (t := 71) (Blk.set_ (t := 71) P1.out 2 (.int .i64 ((σ.steps : Int) + 1))) 3 (.int .i64 ((σ.wishes : Int) + 1))
          exact this
        have hT7 : W7.heap[T]? = some (.cells (tkCells t3) 74 (0, 0)) := by
          rw [← hW7]
          exact (Below.heap_alloc _ _ T (by rw [hz]; exact hTl)).trans ((Below.heap_setCell _ _ _ _ nTS).trans ((Below.heap_setCell _ _ _ _ nTS).trans PT.out))
        have rep7 : Rep C3 S Ts { shut_ σ' with steps := σ.steps + 1, wishes := σ.wishes + 1 } W7 := by
          rw [← hW7]
          have hw0 := REP3.out.wf
          have q1 := REP3.out.setS 2 (.int .i64 ((σ.steps : Int) + 1)) { shut_ σ' with steps := σ.steps + 1 } (fun _ _ => rfl) rfl rfl rfl ⟨hw0.few, hw0.tk, fun u hu => ⟨by have := (hw0.since u hu).1; rw [show (shut_ σ').steps = σ.steps from hs3] at this; show u.since ≤ σ.steps + 1; omega, (hw0.since u hu).2⟩⟩
          have q2 := q1.setS 3 (.int .i64 ((σ.wishes : Int) + 1)) { shut_ σ' with steps := σ.steps + 1, wishes := σ.wishes + 1 } (fun _ _ => rfl) rfl rfl rfl ⟨hw0.few, hw0.tk, fun u hu => ⟨(q1.wf.since u hu).1, by have := (hw0.since u hu).2; rw [show (shut_ σ').wishes = σ.wishes from hw3] at this; show u.order ≤ σ.wishes + 1; omega⟩⟩
          exact q2.below ((Below.refl _ _).alloc (Nat.le_refl _) _)
        have R7 := Lib.hid rep7
        clear rep7
        have hc7 : Chg (fun q => q = S) w3 W7 := by
          rw [← hW7]
          exact (Chg.setCell (C := fun q => q = S) (Chg.setCell (C := fun q => q = S) (Chg.refl _ _) (p := ⟨S, 2, none⟩) (.inl rfl) _) (p := ⟨S, 3, none⟩) (.inl rfl) _).alloc _
        obtain ⟨-, -, s2, s3, -, sf⟩ := sc_cell hS7
        obtain ⟨-, -, t2, t3', t4, t5, -, tf⟩ := tk_cell hT7
        have b0 := Blk.cell (t := 31) hB7 0
        have b1 := Blk.cell (t := 31) hB7 1
        simp only [List.getElem?_toArray, List.getElem?_cons_zero, List.getElem?_cons_succ] at b0 b1
        have es : ((({ shut_ σ' with steps := σ.steps + 1, wishes := σ.wishes + 1 } : Sc).steps : Nat) : Int) = (σ.steps : Int) + 1 := rfl
        have ew : ((({ shut_ σ' with steps := σ.steps + 1, wishes := σ.wishes + 1 } : Sc).wishes : Nat) : Int) = (σ.wishes : Int) + 1 := rfl
        rw [es] at s2
        rw [ew] at s3
        have C7 := Lib.hid hc7
        have S7 := Lib.hid hS7
        have T7 := Lib.hid hT7
        clear hW7 hz hB7 hS7 hT7 hc7 es ew y2 y3 yf x2 x3 x4 x5 xf z2 z3 zf v2 v3 v4 v5 vf hk0 hk4
        go_region
        go_wp2
        go_ret2
        refine ⟨rfl, pick_end (σ := σ) hR' RR3.out DD3.out FF3.out R7.out C7.out ((HO1.out.trans ⟨HCL.out, fun q hq => .inl hq⟩).trans HOW3.out) HT.out HS3.out hs3 hw3 k o 4 0 ?_ ?_ ?_⟩
        · unfold wishK; rw [if_pos hkk]
        · unfold wishO; rw [if_pos hkk]
        · exact wfi_nat 0 (by omega)
    · have hk0 : decide (k < 0) = false := by simp; omega
      have hk4 : decide (4 < k) = false := by simp; omega
      go_wp2_with fail
      obtain ⟨W7, hW7⟩ : ∃ W7, (((w3.setCell ⟨S, 2, none⟩ (.int .i64 ((σ.steps : Int) + 1))).setCell ⟨S, 3, none⟩ (.int .i64 ((σ.wishes : Int) + 1))).alloc (.cells #[.int .i64 k, .int .i64 o] 31)) = W7 := ⟨_, rfl⟩
      rw [hW7]
      have hz : (((w3.setCell ⟨S, 2, none⟩ (.int .i64 ((σ.steps : Int) + 1))).setCell ⟨S, 3, none⟩ (.int .i64 ((σ.wishes : Int) + 1)))).heap.size = w3.heap.size := by simp [World.setCell]
      have hB7 : W7.heap[w3.heap.size]? = some (.cells #[.int .i64 k, .int .i64 o] 31 (0, 0)) := by
        rw [← hW7, ← hz]; exact World.alloc_heap_new _ _
      have hS7 : W7.heap[S]? = some (.cells (scCells tv3 M3 { shut_ σ' with steps := σ.steps + 1, wishes := σ.wishes + 1 }) 71 (0, 0)) := by
        rw [← hW7]
        refine (Below.heap_alloc _ _ S (by rw [hz]; exact hSl)).trans ?_
        have := Blk.set_ (t := 71) (Blk.set_ (t := 71) P1.out 2 (.int .i64 ((σ.steps : Int) + 1))) 3 (.int .i64 ((σ.wishes : Int) + 1))
        exact this
      have hT7 : W7.heap[T]? = some (.cells (tkCells t3) 74 (0, 0)) := by
        rw [← hW7]
        exact (Below.heap_alloc _ _ T (by rw [hz]; exact hTl)).trans ((Below.heap_setCell _ _ _ _ nTS).trans ((Below.heap_setCell _ _ _ _ nTS).trans PT.out))
      have rep7 : Rep C3 S Ts { shut_ σ' with steps := σ.steps + 1, wishes := σ.wishes + 1 } W7 := by
        rw [← hW7]
        have hw0 := REP3.out.wf
        have q1 := REP3.out.setS 2 (.int .i64 ((σ.steps : Int) + 1)) { shut_ σ' with steps := σ.steps + 1 } (fun _ _ => rfl) rfl rfl rfl ⟨hw0.few, hw0.tk, fun u hu => ⟨by have := (hw0.since u hu).1; rw [show (shut_ σ').steps = σ.steps from hs3] at this; show u.since ≤ σ.steps + 1; omega, (hw0.since u hu).2⟩⟩
        have q2 := q1.setS 3 (.int .i64 ((σ.wishes : Int) + 1)) { shut_ σ' with steps := σ.steps + 1, wishes := σ.wishes + 1 } (fun _ _ => rfl) rfl rfl rfl ⟨hw0.few, hw0.tk, fun u hu => ⟨(q1.wf.since u hu).1, by have := (hw0.since u hu).2; rw [show (shut_ σ').wishes = σ.wishes from hw3] at this; show u.order ≤ σ.wishes + 1; omega⟩⟩
        exact q2.below ((Below.refl _ _).alloc (Nat.le_refl _) _)
      have R7 := Lib.hid rep7
      clear rep7
      have hc7 : Chg (fun q => q = S) w3 W7 := by
        rw [← hW7]
        exact (Chg.setCell (C := fun q => q = S) (Chg.setCell (C := fun q => q = S) (Chg.refl _ _) (p := ⟨S, 2, none⟩) (.inl rfl) _) (p := ⟨S, 3, none⟩) (.inl rfl) _).alloc _
      obtain ⟨-, -, s2, s3, -, sf⟩ := sc_cell hS7
      obtain ⟨-, -, t2, t3', t4, t5, -, tf⟩ := tk_cell hT7
      have b0 := Blk.cell (t := 31) hB7 0
      have b1 := Blk.cell (t := 31) hB7 1
      simp only [List.getElem?_toArray, List.getElem?_cons_zero, List.getElem?_cons_succ] at b0 b1
      have es : ((({ shut_ σ' with steps := σ.steps + 1, wishes := σ.wishes + 1 } : Sc).steps : Nat) : Int) = (σ.steps : Int) + 1 := rfl
      have ew : ((({ shut_ σ' with steps := σ.steps + 1, wishes := σ.wishes + 1 } : Sc).wishes : Nat) : Int) = (σ.wishes : Int) + 1 := rfl
      rw [es] at s2
      rw [ew] at s3
      have C7 := Lib.hid hc7
      have S7 := Lib.hid hS7
      have T7 := Lib.hid hT7
      clear hW7 hz hB7 hS7 hT7 hc7 es ew y2 y3 yf x2 x3 x4 x5 xf z2 z3 zf v2 v3 v4 v5 vf hk0 hk4
      go_region
      go_wp2
      go_ret2
      refine ⟨rfl, pick_end (σ := σ) hR' RR3.out DD3.out FF3.out R7.out C7.out ((HO1.out.trans ⟨HCL.out, fun q hq => .inl hq⟩).trans HOW3.out) HT.out HS3.out hs3 hw3 k o _ _ ?_ ?_ ?_⟩
      · unfold wishK; rw [if_neg hkk]
      · unfold wishO; rw [if_neg hkk]
      · exact ho
  · have e1 : (t.kind == 1) = false := by simp [hk1]
    have hrepL : Rep C S Ts (takeLock σ n t) w1 := by unfold takeLock; rw [if_neg hk1]; exact HR1.out
    have HREP := Lib.hid hrepL
    have HCL := Lib.hid (Chg.refl F w1)
    have HRL := Lib.hid HRR.out
    clear hrepL
    go_wp2_with fail
    clear s0 s1 s2 s3 s4 sf t0 t1 t2 t3' t4 t5 t6 tf hct hcg e1 hk1
    refine (HDO.out w1 HREP.out HRL.out).mono ?_
    rintro e w3 ⟨rfl, F', hful, hown3⟩
    obtain ⟨C3, D3, rep3, r3, d3, f3⟩ := id hful
    obtain ⟨⟨tv3, M3, p1, -, -, -, -⟩, -, -, p6, p7, p10, pw, ps⟩ := id rep3
    have pT := p6 n t3 T HS3.out HT.out
    have hSl : S < w3.heap.size := ps S p7
    have hTl : T < w3.heap.size := ps T (p10 T (List.mem_of_getElem? HT.out))
    have nST : ¬ S = T := fun e => by rw [e] at p1; rw [p1] at pT; injection pT with pT; injection pT with _ pT; simp at pT
    have nTS : ¬ T = S := fun e => nST e.symm
    have nSB : ¬ S = w3.heap.size := by omega
    have nTB : ¬ T = w3.heap.size := by omega
    have nBS : ¬ w3.heap.size = S := by omega
    have nBT : ¬ w3.heap.size = T := by omega
    have hS' : ∀ ob, (w3.alloc ob).heap[S]? = some (.cells (scCells tv3 M3 (shut_ σ')) 71 (0, 0)) := fun ob => (Below.heap_alloc w3 ob S hSl).trans p1
    have hT' : ∀ ob, (w3.alloc ob).heap[T]? = some (.cells (tkCells t3) 74 (0, 0)) := fun ob => (Below.heap_alloc w3 ob T hTl).trans pT
    have z2 : ∀ ob, (w3.alloc ob).cell? ⟨S, 2, none⟩ = some (.int .i64 (σ.steps : Int)) := fun ob => by rw [← hs3]; exact (sc_cell (hS' ob)).2.2.1
    have z3 : ∀ ob, (w3.alloc ob).cell? ⟨S, 3, none⟩ = some (.int .i64 (σ.wishes : Int)) := fun ob => by rw [← hw3]; exact (sc_cell (hS' ob)).2.2.2.1
    have zf : ∀ ob q, (w3.alloc ob).frozen? ⟨S, q, none⟩ = false := fun ob q => (sc_cell (hS' ob)).2.2.2.2.2 q
    have v2 : ∀ ob, (w3.alloc ob).cell? ⟨T, 2, none⟩ = some (.int .i64 t3.kind) := fun ob => (tk_cell (hT' ob)).2.2.1
    have v3 : ∀ ob, (w3.alloc ob).cell? ⟨T, 3, none⟩ = some (.int .i64 t3.on) := fun ob => (tk_cell (hT' ob)).2.2.2.1
    have v4 : ∀ ob, (w3.alloc ob).cell? ⟨T, 4, none⟩ = some (.int .i64 (t3.since : Int)) := fun ob => (tk_cell (hT' ob)).2.2.2.2.1
    have v5 : ∀ ob, (w3.alloc ob).cell? ⟨T, 5, none⟩ = some (.int .i64 (t3.order : Int)) := fun ob => (tk_cell (hT' ob)).2.2.2.2.2.1
    have vf : ∀ ob q, (w3.alloc ob).frozen? ⟨T, q, none⟩ = false := fun ob q => (tk_cell (hT' ob)).2.2.2.2.2.2.2 q
    obtain ⟨-, -, y2, y3, -, yf⟩ := sc_cell p1
    obtain ⟨-, -, x2, x3, x4, x5, -, xf⟩ := tk_cell pT
    have e2 : ((shut_ σ').steps : Int) = (σ.steps : Int) := by rw [← hs3]; rfl
    have e3 : ((shut_ σ').wishes : Int) = (σ.wishes : Int) := by rw [← hw3]; rfl
    rw [e2] at y2
    rw [e3] at y3
    clear e2 e3
    have P1 := Lib.hid p1
    have PT := Lib.hid pT
    have HFUL := Lib.hid hful
    have HOW3 := Lib.hid hown3
    have REP3 := Lib.hid rep3
    have RR3 := Lib.hid r3
    have DD3 := Lib.hid d3
    have FF3 := Lib.hid f3
    clear hful hown3 rep3 r3 d3 f3 p1 p6 p7 p10 pw ps pT hS' hT'
    by_cases hkk : k < 0 ∨ 4 < k
    · by_cases hneg : k < 0
      · have hk0 : decide (k < 0) = true := by simp; omega
        have hk4 : True := trivial
        go_wp2_with fail
        obtain ⟨W7, hW7⟩ : ∃ W7, (((w3.setCell ⟨S, 2, none⟩ (.int .i64 ((σ.steps : Int) + 1))).setCell ⟨S, 3, none⟩ (.int .i64 ((σ.wishes : Int) + 1))).alloc (.cells #[.int .i64 4, .int .i64 0] 31)) = W7 := ⟨_, rfl⟩
        rw [hW7]
        have hz : (((w3.setCell ⟨S, 2, none⟩ (.int .i64 ((σ.steps : Int) + 1))).setCell ⟨S, 3, none⟩ (.int .i64 ((σ.wishes : Int) + 1)))).heap.size = w3.heap.size := by simp [World.setCell]
        have hB7 : W7.heap[w3.heap.size]? = some (.cells #[.int .i64 4, .int .i64 0] 31 (0, 0)) := by
          rw [← hW7, ← hz]; exact World.alloc_heap_new _ _
        have hS7 : W7.heap[S]? = some (.cells (scCells tv3 M3 { shut_ σ' with steps := σ.steps + 1, wishes := σ.wishes + 1 }) 71 (0, 0)) := by
          rw [← hW7]
          refine (Below.heap_alloc _ _ S (by rw [hz]; exact hSl)).trans ?_
          have := Blk.set_ (t := 71) (Blk.set_ (t := 71) P1.out 2 (.int .i64 ((σ.steps : Int) + 1))) 3 (.int .i64 ((σ.wishes : Int) + 1))
          exact this
        have hT7 : W7.heap[T]? = some (.cells (tkCells t3) 74 (0, 0)) := by
          rw [← hW7]
          exact (Below.heap_alloc _ _ T (by rw [hz]; exact hTl)).trans ((Below.heap_setCell _ _ _ _ nTS).trans ((Below.heap_setCell _ _ _ _ nTS).trans PT.out))
        have rep7 : Rep C3 S Ts { shut_ σ' with steps := σ.steps + 1, wishes := σ.wishes + 1 } W7 := by
          rw [← hW7]
          have hw0 := REP3.out.wf
          have q1 := REP3.out.setS 2 (.int .i64 ((σ.steps : Int) + 1)) { shut_ σ' with steps := σ.steps + 1 } (fun _ _ => rfl) rfl rfl rfl ⟨hw0.few, hw0.tk, fun u hu => ⟨by have := (hw0.since u hu).1; rw [show (shut_ σ').steps = σ.steps from hs3] at this; show u.since ≤ σ.steps + 1; omega, (hw0.since u hu).2⟩⟩
          have q2 := q1.setS 3 (.int .i64 ((σ.wishes : Int) + 1)) { shut_ σ' with steps := σ.steps + 1, wishes := σ.wishes + 1 } (fun _ _ => rfl) rfl rfl rfl ⟨hw0.few, hw0.tk, fun u hu => ⟨(q1.wf.since u hu).1, by have := (hw0.since u hu).2; rw [show (shut_ σ').wishes = σ.wishes from hw3] at this; show u.order ≤ σ.wishes + 1; omega⟩⟩
          exact q2.below ((Below.refl _ _).alloc (Nat.le_refl _) _)
        have R7 := Lib.hid rep7
        clear rep7
        have hc7 : Chg (fun q => q = S) w3 W7 := by
          rw [← hW7]
          exact (Chg.setCell (C := fun q => q = S) (Chg.setCell (C := fun q => q = S) (Chg.refl _ _) (p := ⟨S, 2, none⟩) (.inl rfl) _) (p := ⟨S, 3, none⟩) (.inl rfl) _).alloc _
        obtain ⟨-, -, s2, s3, -, sf⟩ := sc_cell hS7
        obtain ⟨-, -, t2, t3', t4, t5, -, tf⟩ := tk_cell hT7
        have b0 := Blk.cell (t := 31) hB7 0
        have b1 := Blk.cell (t := 31) hB7 1
        simp only [List.getElem?_toArray, List.getElem?_cons_zero, List.getElem?_cons_succ] at b0 b1
        have es : ((({ shut_ σ' with steps := σ.steps + 1, wishes := σ.wishes + 1 } : Sc).steps : Nat) : Int) = (σ.steps : Int) + 1 := rfl
        have ew : ((({ shut_ σ' with steps := σ.steps + 1, wishes := σ.wishes + 1 } : Sc).wishes : Nat) : Int) = (σ.wishes : Int) + 1 := rfl
        rw [es] at s2
        rw [ew] at s3
        have C7 := Lib.hid hc7
        have S7 := Lib.hid hS7
        have T7 := Lib.hid hT7
        clear hW7 hz hB7 hS7 hT7 hc7 es ew y2 y3 yf x2 x3 x4 x5 xf z2 z3 zf v2 v3 v4 v5 vf hk0 hk4
        go_region
        go_wp2
        go_ret2
        refine ⟨rfl, pick_end (σ := σ) hR' RR3.out DD3.out FF3.out R7.out C7.out ((HO1.out.trans ⟨HCL.out, fun q hq => .inl hq⟩).trans HOW3.out) HT.out HS3.out hs3 hw3 k o 4 0 ?_ ?_ ?_⟩
        · unfold wishK; rw [if_pos hkk]
        · unfold wishO; rw [if_pos hkk]
        · exact wfi_nat 0 (by omega)
      · have hk0 : decide (k < 0) = false := by simp; omega
        have hk4 : decide (4 < k) = true := by simp; omega
        go_wp2_with fail
        obtain ⟨W7, hW7⟩ : ∃ W7, (((w3.setCell ⟨S, 2, none⟩ (.int .i64 ((σ.steps : Int) + 1))).setCell ⟨S, 3, none⟩ (.int .i64 ((σ.wishes : Int) + 1))).alloc (.cells #[.int .i64 4, .int .i64 0] 31)) = W7 := ⟨_, rfl⟩
        rw [hW7]
        have hz : (((w3.setCell ⟨S, 2, none⟩ (.int .i64 ((σ.steps : Int) + 1))).setCell ⟨S, 3, none⟩ (.int .i64 ((σ.wishes : Int) + 1)))).heap.size = w3.heap.size := by simp [World.setCell]
        have hB7 : W7.heap[w3.heap.size]? = some (.cells #[.int .i64 4, .int .i64 0] 31 (0, 0)) := by
          rw [← hW7, ← hz]; exact World.alloc_heap_new _ _
        have hS7 : W7.heap[S]? = some (.cells (scCells tv3 M3 { shut_ σ' with steps := σ.steps + 1, wishes := σ.wishes + 1 }) 71 (0, 0)) := by
          rw [← hW7]
          refine (Below.heap_alloc _ _ S (by rw [hz]; exact hSl)).trans ?_
          have := Blk.set_ (t := 71) (Blk.set_ (t := 71) P1.out 2 (.int .i64 ((σ.steps : Int) + 1))) 3 (.int .i64 ((σ.wishes : Int) + 1))
          exact this
        have hT7 : W7.heap[T]? = some (.cells (tkCells t3) 74 (0, 0)) := by
          rw [← hW7]
          exact (Below.heap_alloc _ _ T (by rw [hz]; exact hTl)).trans ((Below.heap_setCell _ _ _ _ nTS).trans ((Below.heap_setCell _ _ _ _ nTS).trans PT.out))
        have rep7 : Rep C3 S Ts { shut_ σ' with steps := σ.steps + 1, wishes := σ.wishes + 1 } W7 := by
          rw [← hW7]
          have hw0 := REP3.out.wf
          have q1 := REP3.out.setS 2 (.int .i64 ((σ.steps : Int) + 1)) { shut_ σ' with steps := σ.steps + 1 } (fun _ _ => rfl) rfl rfl rfl ⟨hw0.few, hw0.tk, fun u hu => ⟨by have := (hw0.since u hu).1; rw [show (shut_ σ').steps = σ.steps from hs3] at this; show u.since ≤ σ.steps + 1; omega, (hw0.since u hu).2⟩⟩
          have q2 := q1.setS 3 (.int .i64 ((σ.wishes : Int) + 1)) { shut_ σ' with steps := σ.steps + 1, wishes := σ.wishes + 1 } (fun _ _ => rfl) rfl rfl rfl ⟨hw0.few, hw0.tk, fun u hu => ⟨(q1.wf.since u hu).1, by have := (hw0.since u hu).2; rw [show (shut_ σ').wishes = σ.wishes from hw3] at this; show u.order ≤ σ.wishes + 1; omega⟩⟩
          exact q2.below ((Below.refl _ _).alloc (Nat.le_refl _) _)
        have R7 := Lib.hid rep7
        clear rep7
        have hc7 : Chg (fun q => q = S) w3 W7 := by
          rw [← hW7]
          exact (Chg.setCell (C := fun q => q = S) (Chg.setCell (C := fun q => q = S) (Chg.refl _ _) (p := ⟨S, 2, none⟩) (.inl rfl) _) (p := ⟨S, 3, none⟩) (.inl rfl) _).alloc _
        obtain ⟨-, -, s2, s3, -, sf⟩ := sc_cell hS7
        obtain ⟨-, -, t2, t3', t4, t5, -, tf⟩ := tk_cell hT7
        have b0 := Blk.cell (t := 31) hB7 0
        have b1 := Blk.cell (t := 31) hB7 1
        simp only [List.getElem?_toArray, List.getElem?_cons_zero, List.getElem?_cons_succ] at b0 b1
        have es : ((({ shut_ σ' with steps := σ.steps + 1, wishes := σ.wishes + 1 } : Sc).steps : Nat) : Int) = (σ.steps : Int) + 1 := rfl
        have ew : ((({ shut_ σ' with steps := σ.steps + 1, wishes := σ.wishes + 1 } : Sc).wishes : Nat) : Int) = (σ.wishes : Int) + 1 := rfl
        rw [es] at s2
        rw [ew] at s3
        have C7 := Lib.hid hc7
        have S7 := Lib.hid hS7
        have T7 := Lib.hid hT7
        clear hW7 hz hB7 hS7 hT7 hc7 es ew y2 y3 yf x2 x3 x4 x5 xf z2 z3 zf v2 v3 v4 v5 vf hk0 hk4
        go_region
        go_wp2
        go_ret2
        refine ⟨rfl, pick_end (σ := σ) hR' RR3.out DD3.out FF3.out R7.out C7.out ((HO1.out.trans ⟨HCL.out, fun q hq => .inl hq⟩).trans HOW3.out) HT.out HS3.out hs3 hw3 k o 4 0 ?_ ?_ ?_⟩
        · unfold wishK; rw [if_pos hkk]
        · unfold wishO; rw [if_pos hkk]
        · exact wfi_nat 0 (by omega)
    · have hk0 : decide (k < 0) = false := by simp; omega
      have hk4 : decide (4 < k) = false := by simp; omega
      go_wp2_with fail
      obtain ⟨W7, hW7⟩ : ∃ W7, (((w3.setCell ⟨S, 2, none⟩ (.int .i64 ((σ.steps : Int) + 1))).setCell ⟨S, 3, none⟩ (.int .i64 ((σ.wishes : Int) + 1))).alloc (.cells #[.int .i64 k, .int .i64 o] 31)) = W7 := ⟨_, rfl⟩
      rw [hW7]
      have hz : (((w3.setCell ⟨S, 2, none⟩ (.int .i64 ((σ.steps : Int) + 1))).setCell ⟨S, 3, none⟩ (.int .i64 ((σ.wishes : Int) + 1)))).heap.size = w3.heap.size := by simp [World.setCell]
      have hB7 : W7.heap[w3.heap.size]? = some (.cells #[.int .i64 k, .int .i64 o] 31 (0, 0)) := by
        rw [← hW7, ← hz]; exact World.alloc_heap_new _ _
      have hS7 : W7.heap[S]? = some (.cells (scCells tv3 M3 { shut_ σ' with steps := σ.steps + 1, wishes := σ.wishes + 1 }) 71 (0, 0)) := by
        rw [← hW7]
        refine (Below.heap_alloc _ _ S (by rw [hz]; exact hSl)).trans ?_
        have := Blk.set_ (t := 71) (Blk.set_ (t := 71) P1.out 2 (.int .i64 ((σ.steps : Int) + 1))) 3 (.int .i64 ((σ.wishes : Int) + 1))
        exact this
      have hT7 : W7.heap[T]? = some (.cells (tkCells t3) 74 (0, 0)) := by
        rw [← hW7]
        exact (Below.heap_alloc _ _ T (by rw [hz]; exact hTl)).trans ((Below.heap_setCell _ _ _ _ nTS).trans ((Below.heap_setCell _ _ _ _ nTS).trans PT.out))
      have rep7 : Rep C3 S Ts { shut_ σ' with steps := σ.steps + 1, wishes := σ.wishes + 1 } W7 := by
        rw [← hW7]
        have hw0 := REP3.out.wf
        have q1 := REP3.out.setS 2 (.int .i64 ((σ.steps : Int) + 1)) { shut_ σ' with steps := σ.steps + 1 } (fun _ _ => rfl) rfl rfl rfl ⟨hw0.few, hw0.tk, fun u hu => ⟨by have := (hw0.since u hu).1; rw [show (shut_ σ').steps = σ.steps from hs3] at this; show u.since ≤ σ.steps + 1; omega, (hw0.since u hu).2⟩⟩
        have q2 := q1.setS 3 (.int .i64 ((σ.wishes : Int) + 1)) { shut_ σ' with steps := σ.steps + 1, wishes := σ.wishes + 1 } (fun _ _ => rfl) rfl rfl rfl ⟨hw0.few, hw0.tk, fun u hu => ⟨(q1.wf.since u hu).1, by have := (hw0.since u hu).2; rw [show (shut_ σ').wishes = σ.wishes from hw3] at this; show u.order ≤ σ.wishes + 1; omega⟩⟩
        exact q2.below ((Below.refl _ _).alloc (Nat.le_refl _) _)
      have R7 := Lib.hid rep7
      clear rep7
      have hc7 : Chg (fun q => q = S) w3 W7 := by
        rw [← hW7]
        exact (Chg.setCell (C := fun q => q = S) (Chg.setCell (C := fun q => q = S) (Chg.refl _ _) (p := ⟨S, 2, none⟩) (.inl rfl) _) (p := ⟨S, 3, none⟩) (.inl rfl) _).alloc _
      obtain ⟨-, -, s2, s3, -, sf⟩ := sc_cell hS7
      obtain ⟨-, -, t2, t3', t4, t5, -, tf⟩ := tk_cell hT7
      have b0 := Blk.cell (t := 31) hB7 0
      have b1 := Blk.cell (t := 31) hB7 1
      simp only [List.getElem?_toArray, List.getElem?_cons_zero, List.getElem?_cons_succ] at b0 b1
      have es : ((({ shut_ σ' with steps := σ.steps + 1, wishes := σ.wishes + 1 } : Sc).steps : Nat) : Int) = (σ.steps : Int) + 1 := rfl
      have ew : ((({ shut_ σ' with steps := σ.steps + 1, wishes := σ.wishes + 1 } : Sc).wishes : Nat) : Int) = (σ.wishes : Int) + 1 := rfl
      rw [es] at s2
      rw [ew] at s3
      have C7 := Lib.hid hc7
      have S7 := Lib.hid hS7
      have T7 := Lib.hid hT7
      clear hW7 hz hB7 hS7 hT7 hc7 es ew y2 y3 yf x2 x3 x4 x5 xf z2 z3 zf v2 v3 v4 v5 vf hk0 hk4
      go_region
      go_wp2
      go_ret2
      refine ⟨rfl, pick_end (σ := σ) hR' RR3.out DD3.out FF3.out R7.out C7.out ((HO1.out.trans ⟨HCL.out, fun q hq => .inl hq⟩).trans HOW3.out) HT.out HS3.out hs3 hw3 k o _ _ ?_ ?_ ?_⟩
      · unfold wishK; rw [if_neg hkk]
      · unfold wishO; rw [if_neg hkk]
      · exact ho

/-- A pick whose step leaves the scheduler alone. -/
theorem pick_plain {F : Nat → Prop} {S n : Nat} {Ts : List Nat} {σ : Sc} {t : Tk} {R R' : (Nat → Prop) → World → Prop} {w : World} (i : Int) (hR : Local R) (hR' : Local R') (h : Full F S Ts σ R w) (hwi : σ.within = false) (hne : 0 < (enabledP σ).length)
    (hn : n = chosen σ i) (ht : σ.tks[n]? = some t) (k o : Int) (hi1 : -9223372036854775808 ≤ i) (hi2 : i ≤ 9223372036854775807) (hst : σ.steps < 4611686018427387904) (hwi2 : σ.wishes < 4611686018427387904) (hcp : σ.cap < 4611686018427387904)
    (hstep : ∀ F W τ, Full F S Ts τ R W → Calls Try.prog t.f t.caps W fun e W' => e = .returned (.agg #[.int .i64 k, .int .i64 o]) ∧ ∃ F', Full F' S Ts τ R' W' ∧ Owned F W F' W') (ho : wfi o) :
    Calls Try.prog 29 #[ptr S, .int .i64 i] w fun e w' => e = .returned (.tuple #[.int .i64 (n : Int), .int .i64 0]) ∧ ∃ F', Full F' S Ts (finish (cleared σ n t) n (bare t) k o) R' w' ∧ Owned F w F' w' := by
  have hlen : n < σ.tks.length := (List.getElem?_eq_some_iff.1 ht).1
  have hp := pick_ok i hR hR' h hwi hne hn ht k o hi1 hi2 hst hwi2 hcp (σ' := open_ (cleared σ n t)) (t3 := bare t) (fun F W hF => hstep F W _ hF) (by simp [open_, cleared, hlen]) (by show (takeLock σ n t).steps = _; unfold takeLock; split <;> rfl) (by show (takeLock σ n t).wishes = _; unfold takeLock; split <;> rfl) ho
  have e : shut_ (open_ (cleared σ n t)) = cleared σ n t := by
    have : (cleared σ n t).within = false := by show (takeLock σ n t).within = false; unfold takeLock; split <;> exact hwi
    generalize cleared σ n t = x at this
    cases x; cases this; rfl
  rw [e] at hp
  exact hp
end Go.Proofs.Ytekgdakkkbnpiaa
