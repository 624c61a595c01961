/- The scheduler's pick whose step panics. No condition. -/
import Derived.Test.YtekgdakkkbnpiaaPick
import Derived.Maps.RangeWalk
namespace Go.Proofs.Ytekgdakkkbnpiaa
set_option linter.unusedVariables false
set_option linter.unusedSimpArgs false
open Go Go.RowKit

def dropAll (lk : Int → Option Int) (n : Nat) : Int → Option Int := fun k => match lk k with
  | some v => if v = (n : Int) then none else some v
  | none => none
def failedP (σ : Sc) (n : Nat) (t : Tk) : Sc :=
  { σ with steps := σ.steps + 1, wishes := σ.wishes + 1, locks := dropAll σ.locks n, tks := σ.tks.set n { t with kind := 4, on := 0, since := σ.steps + 1, order := σ.wishes + 1, failed := true } }

/-- The locks have turned, and whatever else is new. -/
theorem Rep.setG {C : Nat → Prop} {S : Nat} {Ts : List Nat} {σ : Sc} {w w' : World} (h : Rep C S Ts σ w) {M : Nat} {tv : Value} (hS : w.heap[S]? = some (.cells (scCells tv M σ) 71 (0, 0))) (lk : Int → Option Int) (cap : Nat) (hM : MapIs w' M cap lk) (hg : w.grownBy w' (some M)) :
    Rep C S Ts { σ with locks := lk, cap := cap } w' := by
  obtain ⟨⟨tv', M', h1, h2, h3, h8, h9⟩, h4, h5, h6, h7, h10, hw, hs⟩ := h
  obtain ⟨rfl, rfl⟩ : tv' = tv ∧ M' = M := by
    have := Option.some.inj (h1.symm.trans hS)
    simp [scCells] at this
    exact this
  have hb : ∃ es clock, w.heap[M']? = some (.map es clock) := by
    obtain ⟨D, ⟨es, clock, hb, _⟩, _⟩ := h3
    exact ⟨es, clock, hb⟩
  obtain ⟨es, clock, hb⟩ := hb
  have key : ∀ k o, w.heap[k]? = some o → (∀ a b, o ≠ Obj.map a b) → w'.heap[k]? = w.heap[k]? := fun k o hk ho => by
    refine hg.block k (Array.getElem?_eq_some_iff.1 hk).1 (fun e => ?_)
    injection e with e; subst e; rw [hb] at hk; cases hk; exact ho _ _ rfl
  refine ⟨⟨tv', M', (key S _ h1 (fun _ _ e => by cases e)).trans h1, own_keep h2 (fun k hk => ?_), hM, h8, h9⟩, h4, h5, fun i t T ht hT => (key T _ (h6 i t T ht hT) (fun _ _ e => by cases e)).trans (h6 i t T ht hT), h7, h10, ⟨hw.few, hw.tk, hw.since⟩, fun k hk => Nat.lt_of_lt_of_le (hs k hk) hg.size⟩
  rcases h2.2 with ⟨rfl, h0⟩ | ⟨g, cap, cur, rfl, hb', hh, hr⟩
  · simp [Value.ownBlock] at hk
  · obtain rfl : g = k := by simpa [Value.ownBlock] using hk
    exact key g _ hh (fun _ _ e => by cases e)

theorem panic_end {C D F' F : Nat → Prop} {S n T : Nat} {Ts : List Nat} {τ : Sc} {t : Tk} {R' : (Nat → Prop) → World → Prop} {w w3 W7 : World} (hR' : Local R') (h3 : R' D w3) (hd : ∀ q, C q → ¬ D q) (hf : ∀ q, F' q ↔ C q ∨ D q)
    (h7 : Rep C S Ts τ W7) (hc7 : Chg C w3 W7) (hown : Owned F w F' w3) (hT : Ts[n]? = some T) (ht : τ.tks[n]? = some t) (a b : Nat) (ha : a = τ.steps) (hb : b = τ.wishes) :
    ∃ F', Full F' S Ts { τ with tks := τ.tks.set n { t with kind := 4, on := 0, since := a, order := b } } R' (((((W7.setCell ⟨T, 2, none⟩ (.int .i64 4)).setCell ⟨T, 3, none⟩ (.int .i64 0)).setCell ⟨T, 4, none⟩ (.int .i64 (a : Int))).setCell ⟨T, 5, none⟩ (.int .i64 (b : Int))).drew) ∧
      Owned F w F' (((((W7.setCell ⟨T, 2, none⟩ (.int .i64 4)).setCell ⟨T, 3, none⟩ (.int .i64 0)).setCell ⟨T, 4, none⟩ (.int .i64 (a : Int))).setCell ⟨T, 5, none⟩ (.int .i64 (b : Int))).drew) := by
  subst ha hb
  have r := rep_wish h7 hT ht 4 0 τ.steps τ.wishes (wfi_nat 0 (by omega)) (Nat.le_refl _) (Nat.le_refl _)
  have hTC := h7.inT T (List.mem_of_getElem? hT)
  obtain ⟨W8, hW8⟩ : ∃ W8, ((((W7.setCell ⟨T, 2, none⟩ (.int .i64 4)).setCell ⟨T, 3, none⟩ (.int .i64 0)).setCell ⟨T, 4, none⟩ (.int .i64 (τ.steps : Int))).setCell ⟨T, 5, none⟩ (.int .i64 (τ.wishes : Int))) = W8 := ⟨_, rfl⟩
  have hc8 : Chg (fun q => q = T) W7 W8 := by
    rw [← hW8]
    exact Chg.setCell (C := fun q => q = T) (Chg.setCell (C := fun q => q = T) (Chg.setCell (C := fun q => q = T) (Chg.setCell (C := fun q => q = T) (Chg.refl _ _) (p := ⟨T, 2, none⟩) (.inl rfl) _) (p := ⟨T, 3, none⟩) (.inl rfl) _) (p := ⟨T, 4, none⟩) (.inl rfl) _) (p := ⟨T, 5, none⟩) (.inl rfl) _
  rw [hW8] at r ⊢
  have hcF : Chg C w3 W8.drew := (hc7.trans (hc8.mono (fun q e => by rw [e]; exact hTC))).drew
  refine ⟨F', ⟨C, D, r.below ⟨rfl, rfl, rfl, Nat.le_refl _, fun _ _ => rfl⟩, hR'.chg D _ w3 _ h3 hcF (fun q hq hc => hd q hc hq), hd, hf⟩, ?_⟩
  exact hown.trans ⟨hcF.mono (fun q hq => (hf q).2 (.inl hq)), fun q hq => .inl hq⟩

theorem tells_step {D : DataW Unit} {lk : Int → Option Int} {n : Nat} {left : Lit → Bool} (h : ∀ k, wfi k → Tells D k (if left (.int .i64 k) = true then lk k else dropAll lk n k)) {x c : Int} (hx : wfi x) (hl : left (.int .i64 x) = true) (hat : ∀ zd, D.atKey (.int .i64 x) zd = .lit (.int .i64 c)) : lk x = some c := by
  have h1 := h x hx
  rw [if_pos hl] at h1
  cases hlk : lk x with
  | none =>
    rw [hlk] at h1
    have h4 := Maps.atKey_of_not_has h1 (.lit (.int .i64 (c + 1)))
    rw [hat] at h4
    simp at h4
    omega
  | some v =>
    rw [hlk] at h1
    have h4 := h1.2
    rw [hat] at h4
    simp at h4
    rw [h4]
theorem sameKey_int (k x : Int) : (Lit.int .i64 k).sameKey (Lit.int .i64 x) = decide (k = x) := by
  simp [Lit.sameKey]
theorem tells_keep {D : DataW Unit} {lk : Int → Option Int} {n : Nat} {left : Lit → Bool} (h : ∀ k, wfi k → Tells D k (if left (.int .i64 k) = true then lk k else dropAll lk n k)) {x c : Int} (hx : lk x = some c) (hc : c ≠ (n : Int)) :
    ∀ k, wfi k → Tells D k (if (left (.int .i64 k) && !(Lit.int .i64 k).sameKey (.int .i64 x)) = true then lk k else dropAll lk n k) := by
  intro k hk
  have h1 := h k hk
  rw [sameKey_int]
  by_cases e : k = x
  · subst e
    have hd : dropAll lk n k = lk k := by unfold dropAll; rw [hx]; simp [hc]
    rw [hd] at h1 ⊢
    simpa using h1
  · simpa [e] using h1
theorem tells_drop {D : DataW Unit} {lk : Int → Option Int} {n : Nat} {left : Lit → Bool} (h : ∀ k, wfi k → Tells D k (if left (.int .i64 k) = true then lk k else dropAll lk n k)) {x : Int} (hx : lk x = some (n : Int)) :
    ∀ k, wfi k → Tells (D.del (.int .i64 x)) k (if (left (.int .i64 k) && !(Lit.int .i64 k).sameKey (.int .i64 x)) = true then lk k else dropAll lk n k) := by
  intro k hk
  rw [sameKey_int]
  by_cases e : k = x
  · subst e
    have hd : dropAll lk n k = none := by unfold dropAll; rw [hx]; simp
    rw [hd]
    simp
    exact Maps.has_del_same
  · have h1 := h k hk
    have hne : (Lit.int .i64 k) ≠ (Lit.int .i64 x) := fun he => e (by injection he)
    have g1 := Maps.has_del_other (D := D) hne
    have g2 := Maps.atKey_del_other (D := D) hne (.lit (.int .i64 0))
    have e1 : (left (.int .i64 k) && !decide (k = x)) = left (.int .i64 k) := by simp [e]
    rw [e1]
    revert h1
    cases (if left (.int .i64 k) = true then lk k else dropAll lk n k) with
    | none => intro h1; exact g1.trans h1
    | some u => intro h1; exact ⟨g1.trans h1.1, g2.trans h1.2⟩

set_option maxRecDepth 100000 in
set_option maxHeartbeats 8000000 in
theorem pick_panic {F : Nat → Prop} {S n : Nat} {Ts : List Nat} {σ σ' : Sc} {t t3 : Tk} {R R' : (Nat → Prop) → World → Prop} {w : World} (i : Int) (hR : Local R) (hR' : Local R') (h : Full F S Ts σ R w) (hwi : σ.within = false) (hne : 0 < (enabledP σ).length)
    (hn : n = chosen σ i) (ht : σ.tks[n]? = some t) (hi1 : -9223372036854775808 ≤ i) (hi2 : i ≤ 9223372036854775807) (hst : σ.steps < 4611686018427387904) (hwi2 : σ.wishes < 4611686018427387904) (hcp : σ.cap < 4611686018427387904)
    (hstep : ∀ F W, Full F S Ts (open_ (cleared σ n t)) R W → Calls Try.prog t.f t.caps W fun e W' => (∃ u pv, e = .panicked [{ v := .iface u pv, recovered := false }]) ∧ ∃ F', Full F' S Ts σ' R' W' ∧ Owned F W F' W')
    (h3 : σ'.tks[n]? = some t3) (hs3 : σ'.steps = σ.steps) (hw3 : σ'.wishes = σ.wishes) :
    Calls Try.prog 29 #[ptr S, .int .i64 i] w fun e w' => e = .returned (.tuple #[.int .i64 (n : Int), .int .i64 9]) ∧ ∃ F', Full F' S Ts (failedP (shut_ σ') n t3) R' w' ∧ Owned F w F' w' := by
  obtain ⟨C, D, hrep, hr, hd, hf⟩ := id h
  have hen := enabled_any hrep hst
  have hFs : ∀ k, F k → k < w.heap.size := Full.size hR h
  have hlen := fl_le (fun i => match σ.tks[i]? with | some t => mayP σ t | none => false) σ.tks.length
  have hl64 : (enabledP σ).length ≤ 64 := Nat.le_trans hlen hrep.wf.few
  obtain ⟨hj, hje⟩ := slot_lt σ i hne
  have hget := chosen_get σ i hne
  rw [← hn] at hget
  obtain ⟨m, hm⟩ : ∃ m : Int, (if i < 0 then 0 else i) = m := ⟨_, rfl⟩
  rw [hm] at hje
  have hm0 : 0 ≤ m := by split at hm <;> omega
  have hm1 : m ≤ 9223372036854775807 := by split at hm <;> omega
  obtain ⟨j, hjd⟩ : ∃ j, slot σ i = j := ⟨_, rfl⟩
  rw [hjd] at hj hje hget
  obtain ⟨L, hL⟩ : ∃ L, (enabledP σ).length = L := ⟨_, rfl⟩
  rw [hL] at hj hje hl64 hne
  have HEN := Lib.hid hen
  have HGET := Lib.hid hget
  have HL := Lib.hid hL
  have HH := Lib.hid h
  have HN := Lib.hid hn
  have hn64 : n < 64 := by rw [hn]; exact Nat.lt_of_lt_of_le (chosen_lt (by rw [hL]; exact hne)) hrep.wf.few
  clear hen hget hL hlen hjd h hn
  unfold ptr
  go_enter Try.func29, Try.ntmps29
  go_wp2_with fail
  refine HEN.out.mono ?_
  rintro e w1 ⟨v, rfl, hown, hb1⟩
  rw [HL.out] at hown
  obtain ⟨A, cp, g, rfl, hA⟩ := own_shape hown
  obtain ⟨rfl, hgl, _⟩ := hA hne
  have hcg : w1.cell? ⟨g, j, none⟩ = some (.int .i64 (n : Int)) := by
    rw [World.ownsRow.cellAt hown j (by omega), nums, List.getElem?_map, HGET.out]; rfl
  have hrep1 := hrep.below hb1
  have hr1 : R D w1 := hR.chg D (fun _ => False) w w1 hr (Chg.of_below hb1) (fun _ _ f => f)
  have hf1 : Full F S Ts σ R w1 := ⟨C, D, hrep1, hr1, hd, hf⟩
  have hown1 : Owned F w F w1 := Owned.below hb1
  obtain ⟨⟨tv, M, g1, g2, g3, g8, g9⟩, g4, g5, g6, g7, g10, gw, gs⟩ := id hrep1
  obtain ⟨T, hT⟩ : ∃ T, Ts[n]? = some T := ⟨_, List.getElem?_eq_getElem (by rw [g4]; exact (List.getElem?_eq_some_iff.1 ht).1)⟩
  have hTb := g6 n t T ht hT
  obtain ⟨s0, s1, s2, s3, s4, sf⟩ := sc_cell g1
  obtain ⟨t0, t1, t2, t3', t4, t5, t6, tf⟩ := tk_cell hTb
  obtain ⟨A2, cp2, gg, rfl, hA2⟩ := own_shape g2
  obtain ⟨rfl, hggl, _⟩ := hA2 (by rw [g4]; have := (List.getElem?_eq_some_iff.1 ht).1; omega)
  have hnT : n < Ts.length := (List.getElem?_eq_some_iff.1 hT).1
  have hct : w1.cell? ⟨gg, n, none⟩ = some (.pointer (some ⟨T, 0, none⟩)) := by
    rw [World.ownsRow.cellAt g2 n (by omega), List.getElem?_map, hT]; rfl
  rw [hwi] at s4
  have hLne : ((L : Int) == 0) = false := by rw [beq_eq_false_iff_ne]; omega
  have hTs64 : Ts.length ≤ 64 := by rw [g4]; exact gw.few
  have hon := (gw.tk t (List.mem_of_getElem? ht)).on
  have HF1 := Lib.hid hf1
  have HO1 := Lib.hid hown1
  have HR1 := Lib.hid hrep1
  have HRR := Lib.hid hr1
  have HM := Lib.hid g3
  have HG1 := Lib.hid g1
  have HG8 := Lib.hid g8
  have HD := Lib.hid hd
  have HF := Lib.hid hf
  have HT := Lib.hid hT
  have HTT := Lib.hid ht
  have HST := Lib.hid hstep
  have HS3 := Lib.hid h3
  have hdo : ∀ wL, Rep C S Ts (takeLock σ n t) wL → R D wL → Calls Try.prog 54 #[.pointer (some ⟨S, 0, none⟩), .pointer (some ⟨T, 0, none⟩)] ((wL.setCell ⟨T, 2, none⟩ (.int .i64 0)).setCell ⟨T, 3, none⟩ (.int .i64 0)) fun e w' =>
      e = .returned (.tuple #[.agg #[.int .i64 0, .int .i64 0], .bool false]) ∧ ∃ F', Full F' S Ts (shut_ σ') R' w' ∧ Owned F wL F' w' := by
    intro wL hrepL hrL
    have hL := hrepL
    have htk : (takeLock σ n t).tks[n]? = some t := by unfold takeLock; split <;> exact ht
    have hn' : n < σ.tks.length := (List.getElem?_eq_some_iff.1 ht).1
    have hwt := hrepL.wf.tk t (List.mem_of_getElem? htk)
    have hsi := hrepL.wf.since t (List.mem_of_getElem? htk)
    have r1 := hrepL.setT hT htk 2 (.int .i64 0) { t with kind := 0 } rfl ⟨hwt.on, hwt.enters⟩ hsi
    have htk1 : ({ takeLock σ n t with tks := (takeLock σ n t).tks.set n { t with kind := 0 } } : Sc).tks[n]? = some { t with kind := 0 } := by
      have hn2 : n < (takeLock σ n t).tks.length := (List.getElem?_eq_some_iff.1 htk).1
      simp [List.getElem?_set, hn2]
    have r2 := r1.setT hT htk1 3 (.int .i64 0) (bare t) rfl ⟨by unfold bare; exact wfi_nat 0 (by omega), hwt.enters⟩ hsi
    have etk : (takeLock σ n t).tks = σ.tks := by unfold takeLock; split <;> rfl
    have r3 : Rep C S Ts (cleared σ n t) ((wL.setCell ⟨T, 2, none⟩ (.int .i64 0)).setCell ⟨T, 3, none⟩ (.int .i64 0)) := by
      have e : cleared σ n t = { takeLock σ n t with tks := ((takeLock σ n t).tks.set n { t with kind := 0 }).set n (bare t) } := by
        unfold cleared; rw [List.set_set, etk]
      rw [e]; exact r2
    have hTC := g10 T (List.mem_of_getElem? hT)
    have hch : Chg (fun q => q = T) wL ((wL.setCell ⟨T, 2, none⟩ (.int .i64 0)).setCell ⟨T, 3, none⟩ (.int .i64 0)) :=
      Chg.setCell (C := fun q => q = T) (Chg.setCell (C := fun q => q = T) (Chg.refl _ _) (p := ⟨T, 2, none⟩) (.inl rfl) _) (p := ⟨T, 3, none⟩) (.inl rfl) _
    have hrD := hR.chg D _ wL _ hrL hch (fun q hq e => by subst e; exact hd _ hTC hq)
    have hctk : (cleared σ n t).tks[n]? = some (bare t) := by simp [cleared, List.getElem?_set, hn']
    refine (does_panic hR hR' ⟨C, D, r3, hrD, hd, hf⟩ hT hctk hstep).mono ?_
    rintro e w' ⟨he, F', hful, hown⟩
    exact ⟨he, F', hful, Owned.trans ⟨hch.mono (fun q e => by rw [e]; exact (hf T).2 (.inl hTC)), fun q hq => .inl hq⟩ hown⟩
  have HDO := Lib.hid hdo
  clear hdo hf1 hown1 hrep1 hr1 g3 hd hf hT ht hstep h3 hrep hr g1 g2 g4 g5 g6 g7 g8 g9 g10 gw gs hTb hA hA2 hown hb1
  by_cases hk1 : t.kind = 1
  · have e1 : (t.kind == 1) = true := by simp [hk1]
    obtain ⟨wL, hrunL, hML, htn⟩ := MapIs.store (w := w1.drew) (HM.out.same rfl) (by unfold maxLen; omega) (k := t.on) (v := (n : Int)) hon (wfi_nat n (by omega))
    have hrepL : Rep C S Ts (takeLock σ n t) wL := by
      have h1 : Rep C S Ts σ w1.drew := HR1.out.below ⟨rfl, rfl, rfl, Nat.le_refl _, fun _ _ => rfl⟩
      have h2 := h1.setM (w' := wL) (upd σ.locks t.on (some (n : Int))) (σ.cap + 1) (fun M' ⟨tv', hM'⟩ => by
        have : M' = M := by
          have := (Option.some.inj (hM'.symm.trans HG1.out))
          simp [scCells] at this
          exact this.2
        rw [this]; exact ⟨hML, htn⟩)
      unfold takeLock
      rw [if_pos hk1]; exact h2
    have hTL := hrepL.tasks n t T (by unfold takeLock; split <;> exact HTT.out) HT.out
    obtain ⟨-, -, u2, u3, -, -, -, uf⟩ := tk_cell hTL
    have hcM := chg_of_turned htn
    have hcL : Chg F w1 wL := hcM.mono (fun j e => by rw [e]; exact (HF.out M).2 (.inl HG8.out))
    have hrL : R D wL := hR.chg D _ w1 _ HRR.out hcM (fun j hj e => by subst e; exact HD.out _ HG8.out hj)
    have HREP := Lib.hid hrepL
    have HCL := Lib.hid hcL
    have HRL := Lib.hid hrL
    have HTTL := Lib.hid hTL
    clear hrepL hML htn hcL hrL hTL hcM
    go_wp2_with fail
    go_region
    go_wp2_with fail
    clear hrunL s0 s1 s2 s3 s4 sf t0 t1 t2 t3' t4 t5 t6 tf hct hcg e1 hk1
    refine (HDO.out wL HREP.out HRL.out).mono ?_
    rintro e w3 ⟨rfl, F', hful, hown3⟩
    obtain ⟨C3, D3, rep3, r3, d3, f3⟩ := id hful
    obtain ⟨⟨tv3, M3, p1, -, p3, p8, -⟩, -, -, p6, p7, p10, pw, ps⟩ := id rep3
    have pT := p6 n t3 T HS3.out HT.out
    have hSl : S < w3.heap.size := ps S p7
    have hTl : T < w3.heap.size := ps T (p10 T (List.mem_of_getElem? HT.out))
    have nST : ¬ S = T := fun e => by rw [e] at p1; rw [p1] at pT; injection pT with pT; injection pT with _ pT; simp at pT
    have nTS : ¬ T = S := fun e => nST e.symm
    have nSB : ¬ S = w3.heap.size := by omega
    have nTB : ¬ T = w3.heap.size := by omega
    have nBS : ¬ w3.heap.size = S := by omega
    have nBT : ¬ w3.heap.size = T := by omega
    have hS' : ∀ ob, (w3.alloc ob).heap[S]? = some (.cells (scCells tv3 M3 (shut_ σ')) 71 (0, 0)) := fun ob => (Below.heap_alloc w3 ob S hSl).trans p1
    have hT' : ∀ ob, (w3.alloc ob).heap[T]? = some (.cells (tkCells t3) 74 (0, 0)) := fun ob => (Below.heap_alloc w3 ob T hTl).trans pT
    have z2 : ∀ ob, (w3.alloc ob).cell? ⟨S, 2, none⟩ = some (.int .i64 (σ.steps : Int)) := fun ob => by rw [← hs3]; exact (sc_cell (hS' ob)).2.2.1
    have z3 : ∀ ob, (w3.alloc ob).cell? ⟨S, 3, none⟩ = some (.int .i64 (σ.wishes : Int)) := fun ob => by rw [← hw3]; exact (sc_cell (hS' ob)).2.2.2.1
    have zf : ∀ ob q, (w3.alloc ob).frozen? ⟨S, q, none⟩ = false := fun ob q => (sc_cell (hS' ob)).2.2.2.2.2 q
    have v2 : ∀ ob, (w3.alloc ob).cell? ⟨T, 2, none⟩ = some (.int .i64 t3.kind) := fun ob => (tk_cell (hT' ob)).2.2.1
    have v3 : ∀ ob, (w3.alloc ob).cell? ⟨T, 3, none⟩ = some (.int .i64 t3.on) := fun ob => (tk_cell (hT' ob)).2.2.2.1
    have v4 : ∀ ob, (w3.alloc ob).cell? ⟨T, 4, none⟩ = some (.int .i64 (t3.since : Int)) := fun ob => (tk_cell (hT' ob)).2.2.2.2.1
    have v5 : ∀ ob, (w3.alloc ob).cell? ⟨T, 5, none⟩ = some (.int .i64 (t3.order : Int)) := fun ob => (tk_cell (hT' ob)).2.2.2.2.2.1
    have vf : ∀ ob q, (w3.alloc ob).frozen? ⟨T, q, none⟩ = false := fun ob q => (tk_cell (hT' ob)).2.2.2.2.2.2.2 q
    obtain ⟨-, -, y2, y3, -, yf⟩ := sc_cell p1
    obtain ⟨-, -, x2, x3, x4, x5, -, xf⟩ := tk_cell pT
    have e2 : ((shut_ σ').steps : Int) = (σ.steps : Int) := by rw [← hs3]; rfl
    have e3 : ((shut_ σ').wishes : Int) = (σ.wishes : Int) := by rw [← hw3]; rfl
    rw [e2] at y2
    rw [e3] at y3
    clear e2 e3
    have P1 := Lib.hid p1
    have PT := Lib.hid pT
    have HFUL := Lib.hid hful
    have HOW3 := Lib.hid hown3
    have REP3 := Lib.hid rep3
    have RR3 := Lib.hid r3
    have DD3 := Lib.hid d3
    have FF3 := Lib.hid f3
    clear hful hown3 rep3 r3 d3 f3 p1 p6 p7 p10 pw ps pT hS' hT'
    have nMS : M3 ≠ S := fun e => by
      obtain ⟨DD, ⟨es, clock, hb, _⟩, _⟩ := p3
      rw [e, P1.out] at hb; cases hb
    have nMT : M3 ≠ T := fun e => by
      obtain ⟨DD, ⟨es, clock, hb, _⟩, _⟩ := p3
      rw [e, PT.out] at hb; cases hb
    have hMl : M3 < w3.heap.size := p3.lt
    have nMB : M3 ≠ w3.heap.size := by omega
    have y1 := (sc_cell P1.out).2.1
    have z1 : ∀ ob, (w3.alloc ob).cell? ⟨S, 1, none⟩ = some (.map (some M3)) := fun ob => (World.cell?_alloc_lt w3 ob ⟨S, 1, none⟩ hSl).trans y1
    have x6 := (tk_cell PT.out).2.2.2.2.2.2.1
    have v6 : ∀ ob, (w3.alloc ob).cell? ⟨T, 6, none⟩ = some (.bool t3.failed) := fun ob => (World.cell?_alloc_lt w3 ob ⟨T, 6, none⟩ hTl).trans x6
    obtain ⟨W, hW⟩ : ∃ W, (((w3.setCell ⟨S, 2, none⟩ (.int .i64 ((σ.steps : Int) + 1))).setCell ⟨T, 6, none⟩ (.bool true)).alloc (.cells #[.int .i64 4, .int .i64 0] 31)) = W := ⟨_, rfl⟩
    have hz3 : ((w3.setCell ⟨S, 2, none⟩ (.int .i64 ((σ.steps : Int) + 1))).setCell ⟨T, 6, none⟩ (.bool true)).heap.size = w3.heap.size := by simp [World.setCell]
    have hWold : ∀ k, k < w3.heap.size → k ≠ S → k ≠ T → W.heap[k]? = w3.heap[k]? := fun k hk hS hT => by
      rw [← hW]
      exact (Below.heap_alloc _ _ _ (by rw [hz3]; exact hk)).trans ((Below.heap_setCell _ _ _ _ hT).trans (Below.heap_setCell _ _ _ _ hS))
    have hWz : W.heap.size = w3.heap.size + 1 := by rw [← hW, World.size_alloc, hz3]
    have hWB : W.heap[w3.heap.size]? = some (.cells #[.int .i64 4, .int .i64 0] 31 (0, 0)) := by rw [← hW, ← hz3]; exact World.alloc_heap_new _ _
    have hWS : W.heap[S]? = some (.cells (scCells tv3 M3 { shut_ σ' with steps := σ.steps + 1 }) 71 (0, 0)) := by
      rw [← hW]
      refine (Below.heap_alloc _ _ S (by rw [hz3]; exact hSl)).trans ((Below.heap_setCell _ _ _ _ nST).trans ?_)
      exact Blk.set_ (t := 71) P1.out 2 (.int .i64 ((σ.steps : Int) + 1))
    have hWT : W.heap[T]? = some (.cells (tkCells { t3 with failed := true }) 74 (0, 0)) := by
      rw [← hW]
      refine (Below.heap_alloc _ _ T (by rw [hz3]; exact hTl)).trans ?_
      exact Blk.set_ (t := 74) ((Below.heap_setCell _ _ _ _ nTS).trans PT.out) 6 (.bool true)
    have hWM : MapIs W M3 σ'.cap σ'.locks := p3.same (hWold M3 hMl nMS nMT)
    have hWc : Chg (fun q => q = S ∨ q = T) w3 W := by
      rw [← hW]
      exact (Chg.setCell (C := fun q => q = S ∨ q = T) (Chg.setCell (C := fun q => q = S ∨ q = T) (Chg.refl _ _) (p := ⟨S, 2, none⟩) (.inl (.inl rfl)) _) (p := ⟨T, 6, none⟩) (.inl (.inr rfl)) _).alloc _
    have hWrep : Rep C3 S Ts { ({ shut_ σ' with steps := σ.steps + 1 } : Sc) with tks := σ'.tks.set n { t3 with failed := true } } W := by
      rw [← hW]
      have hw0 := REP3.out.wf
      have q1 := REP3.out.setS 2 (.int .i64 ((σ.steps : Int) + 1)) { shut_ σ' with steps := σ.steps + 1 } (fun _ _ => rfl) rfl rfl rfl ⟨hw0.few, hw0.tk, fun u hu => ⟨by have := (hw0.since u hu).1; rw [show (shut_ σ').steps = σ.steps from hs3] at this; show u.since ≤ σ.steps + 1; omega, (hw0.since u hu).2⟩⟩
      have ht3 : ({ shut_ σ' with steps := σ.steps + 1 } : Sc).tks[n]? = some t3 := HS3.out
      have q2 := q1.setT HT.out ht3 6 (.bool true) { t3 with failed := true } rfl ⟨(q1.wf.tk t3 (List.mem_of_getElem? ht3)).on, (q1.wf.tk t3 (List.mem_of_getElem? ht3)).enters⟩ (q1.wf.since t3 (List.mem_of_getElem? ht3))
      exact q2.below ((Below.refl _ _).alloc (Nat.le_refl _) _)
    obtain ⟨DD, hownD, hTl2⟩ := hWM
    have WREP := Lib.hid hWrep
    have WC := Lib.hid hWc
    have WB := Lib.hid hWB
    have WS := Lib.hid hWS
    have WT := Lib.hid hWT
    have HTELL := Lib.hid hTl2
    have HOWND := Lib.hid hownD
    have HW := Lib.hid hW
    have HWZ := Lib.hid hWz
    have hSl2 : S < W.heap.size := by omega
    clear hWz
    clear hWrep hWc hWB hWS hWT hTl2 hWold hz3 p3 hW hownD
    go_wp2_with (first | (at_range; rw [HW.out]; refine wpList_range_own _ rfl _ 68 rfl 3 3 law Try.underlying68 _ M3 _ DD rfl HOWND.out ?_; intro w0 hrg0 hg0 hs0) | go_in)
    go_frame
    clear y1 y2 y3 yf x2 x3 x4 x5 x6 xf z1 z2 z3 zf v2 v3 v4 v5 v6 vf
    have HRG0 := Lib.hid hrg0
    have HG0 := Lib.hid (hg0.but (some M3))
    clear hrg0 hg0 hs0
    go_loopw [11] (fun _ wr => ∃ (left : Lit → Bool) (cnt : Nat) (Dc : DataW Unit), Hid (wr.ranges Try.prog 3 (plainElem Try.prog 3) M3 W.heap.size σ'.cap Dc left cnt) ∧ Hid (W.grownBy wr (some M3)) ∧ Hid (∀ k, wfi k → Tells Dc k (if left (.int .i64 k) = true then σ'.locks k else dropAll σ'.locks n k)))
      (fun _ wr => wr.rangeLeft M3 W.heap.size)
    case atStart =>
      refine ⟨_, _, DD, HRG0, HG0, Lib.hid (fun k hk => ?_)⟩
      have h1 := HTELL.out k hk
      cases hl : σ'.locks k with
      | none =>
        rw [hl] at h1
        have : dropAll σ'.locks n k = none := by unfold dropAll; rw [hl]
        rw [this]; split <;> exact h1
      | some v =>
        rw [hl] at h1
        rw [if_pos h1.1]; exact h1
    case round =>
      obtain ⟨left, cnt, Dc, hrg, hgw, htl⟩ := hrel
      clear HRG0 HG0
      go_wp2_with (first | (at_next; refine wpList_next_ranges_ii _ rfl _ rfl 3 3 .i64 .i64 law Try.underlying3 Try.underlying3 M3 W.heap.size σ'.cap _ _ _ rfl hrg.out ?_ ?_) | go_in)
      · intro _ hl0
        have hMnew : MapIs wr M3 σ'.cap (dropAll σ'.locks n) := ⟨Dc, hrg.out.owns, fun k hk => by
          have := htl.out k hk
          rw [hl0] at this; simpa using this⟩
        have hTl3 : T < W.heap.size := by have := HWZ.out; omega
        have hBl3 : w3.heap.size < W.heap.size := by have := HWZ.out; omega
        have hSr := (hgw.out.block S hSl2 (fun e => nMS (by injection e with e; exact e.symm))).trans WS.out
        have hTr := (hgw.out.block T hTl3 (fun e => nMT (by injection e with e; exact e.symm))).trans WT.out
        have hBr := (hgw.out.block _ hBl3 (fun e => nMB (by injection e with e; exact e.symm))).trans WB.out
        obtain ⟨-, -, y2, y3, -, yf⟩ := sc_cell hSr
        have e3 : (({ shut_ σ' with steps := σ.steps + 1 } : Sc).wishes : Int) = (σ.wishes : Int) := by rw [← hw3]; rfl
        rw [e3] at y3
        have b0 := Blk.cell (t := 31) hBr 0
        have b1 := Blk.cell (t := 31) hBr 1
        simp only [List.getElem?_toArray, List.getElem?_cons_zero, List.getElem?_cons_succ] at b0 b1
        have HSR := Lib.hid hSr
        have HTR := Lib.hid hTr
        have HBR := Lib.hid hBr
        have HMN := Lib.hid hMnew
        have HL3 := Lib.hid (And.intro hTl3 hBl3)
        have HL0 := Lib.hid hl0
        clear hSr hTr hBr hMnew e3 hTl3 hBl3 hl0
        go_wp2_with fail
        obtain ⟨W7, hW7⟩ : ∃ W7, wr.setCell ⟨S, 3, none⟩ (.int .i64 ((σ.wishes : Int) + 1)) = W7 := ⟨_, rfl⟩
        have hS7 : W7.heap[S]? = some (.cells (scCells tv3 M3 { shut_ σ' with steps := σ.steps + 1, wishes := σ.wishes + 1 }) 71 (0, 0)) := by
          rw [← hW7]; exact Blk.set_ (t := 71) HSR.out 3 (.int .i64 ((σ.wishes : Int) + 1))
        have hT7 : W7.heap[T]? = some (.cells (tkCells { t3 with failed := true }) 74 (0, 0)) := by
          rw [← hW7]; exact (Below.heap_setCell _ _ _ _ nTS).trans HTR.out
        have hB7 : W7.heap[w3.heap.size]? = some (.cells #[.int .i64 4, .int .i64 0] 31 (0, 0)) := by
          rw [← hW7]; exact (Below.heap_setCell _ _ _ _ nBS).trans HBR.out
        have hc7 : Chg C3 w3 W7 := by
          have h1 : Chg C3 w3 W := WC.out.mono (fun q hq => by
            rcases hq with h | h
            · rw [h]; exact REP3.out.inS
            · rw [h]; exact REP3.out.inT T (List.mem_of_getElem? HT.out))
          have h2 : Chg C3 w3 wr := ⟨hgw.out.os.trans h1.os, hgw.out.tape.trans h1.tape, hgw.out.output.trans h1.output, Nat.le_trans h1.size hgw.out.size, fun k hk hC => (hgw.out.block k (Nat.lt_of_lt_of_le hk h1.size) (fun e => hC (by injection e with e; rw [e]; exact p8))).trans (h1.block k hk hC)⟩
          rw [← hW7]
          exact h2.setCell (p := ⟨S, 3, none⟩) (.inl REP3.out.inS) _
        have hrep7 : Rep C3 S Ts { shut_ σ' with steps := σ.steps + 1, wishes := σ.wishes + 1, locks := dropAll σ'.locks n, tks := σ'.tks.set n { t3 with failed := true } } W7 := by
          have q1 := WREP.out.setG WS.out (dropAll σ'.locks n) σ'.cap HMN.out hgw.out
          have q2 := q1.setS 3 (.int .i64 ((σ.wishes : Int) + 1)) { shut_ σ' with steps := σ.steps + 1, wishes := σ.wishes + 1, locks := dropAll σ'.locks n, tks := σ'.tks.set n { t3 with failed := true } } (fun _ _ => rfl) rfl rfl rfl ⟨q1.wf.few, q1.wf.tk, fun u hu => ⟨(q1.wf.since u hu).1, by have := (q1.wf.since u hu).2; rw [show ({ ({ ({ shut_ σ' with steps := σ.steps + 1 } : Sc) with tks := σ'.tks.set n { t3 with failed := true } } : Sc) with locks := dropAll σ'.locks n, cap := σ'.cap } : Sc).wishes = σ.wishes from hw3] at this; show u.order ≤ σ.wishes + 1; omega⟩⟩
          rw [hW7] at q2
          exact q2
        rw [hW7]
        obtain ⟨-, -, s2, s3, -, sf⟩ := sc_cell hS7
        obtain ⟨-, -, t2, t3', t4, t5, -, tf⟩ := tk_cell hT7
        have c0 := Blk.cell (t := 31) hB7 0
        have c1 := Blk.cell (t := 31) hB7 1
        simp only [List.getElem?_toArray, List.getElem?_cons_zero, List.getElem?_cons_succ] at c0 c1
        have es : ((({ shut_ σ' with steps := σ.steps + 1, wishes := σ.wishes + 1 } : Sc).steps : Nat) : Int) = (σ.steps : Int) + 1 := rfl
        have ew : ((({ shut_ σ' with steps := σ.steps + 1, wishes := σ.wishes + 1 } : Sc).wishes : Nat) : Int) = (σ.wishes : Int) + 1 := rfl
        rw [es] at s2
        rw [ew] at s3
        have C7 := Lib.hid hc7
        have R7 := Lib.hid hrep7
        have OWN3 := Lib.hid ((HO1.out.trans ⟨HCL.out, fun q hq => .inl hq⟩).trans HOW3.out)
        clear hW7 hS7 hT7 hB7 hc7 hrep7 es ew y2 y3 yf b0 b1 HSR HTR HBR HMN WREP WC WB WS WT HW REP3 P1 PT hrg hgw htl HTELL HOWND HFUL u2 u3 uf
        go_region
        go_wp2
        go_ret2
        refine ⟨rfl, ?_⟩
        have hlen3 : n < σ'.tks.length := (List.getElem?_eq_some_iff.1 HS3.out).1
        have hpe := panic_end hR' RR3.out DD3.out FF3.out R7.out C7.out OWN3.out HT.out (t := { t3 with failed := true }) (by simp [hlen3]) (σ.steps + 1) (σ.wishes + 1) rfl rfl
        have heq : ({ ({ shut_ σ' with steps := σ.steps + 1, wishes := σ.wishes + 1, locks := dropAll σ'.locks n, tks := σ'.tks.set n { t3 with failed := true } } : Sc) with tks := (σ'.tks.set n { t3 with failed := true }).set n { ({ t3 with failed := true } : Tk) with kind := 4, on := 0, since := σ.steps + 1, order := σ.wishes + 1 } } : Sc) = failedP (shut_ σ') n t3 := by
          unfold failedP
          rw [List.set_set]
          show _ = ({ tks := σ'.tks.set n { t3 with kind := 4, on := 0, since := σ'.steps + 1, order := σ'.wishes + 1, failed := true }, locks := dropAll σ'.locks n, steps := σ'.steps + 1, wishes := σ'.wishes + 1, within := false, cap := σ'.cap } : Sc)
          rw [hs3, hw3]; rfl
        rw [heq] at hpe
        exact hpe
      · intro x c wn cnt1 hwx hwc hlx hat hrg1 hlt hg1 hs1 hen
        have hgw1 := Lib.hid (hgw.out.andThen hg1 (fun j hj => by cases hj; exact Or.inl (Nat.le_refl _)))
        have hlk := tells_step htl.out hwx hlx hat
        have y1 : wn.cell? ⟨S, 1, none⟩ = some (.map (some M3)) := (sc_cell ((hgw1.out.block S hSl2 (fun e => nMS (by injection e with e; exact e.symm))).trans WS.out)).2.1
        have HRG1 := Lib.hid hrg1
        have LT := Lib.hid hlt
        have HAT := Lib.hid hat
        clear hrg1 hg1 hs1 hat hlt
        by_cases hcn : c = (n : Int)
        · have hcb : (c == (n : Int)) = true := by simp [hcn]
          have hlk' := Lib.hid (hcn ▸ hlk)
          clear hlk hcn
          go_wp2_with (first | (at_delete; refine wpList_delete_ranges _ rfl _ _ 68 3 rfl 3 law Try.underlying68 _ M3 W.heap.size σ'.cap _ _ _ rfl HRG1.out _ _ rfl (Maps.keyOf_int_mk Try.underlying3 hwx) ?_; intro w2 cnt2 hrg2 hle hturn; go_frame) | go_in)
          rw [Maps.strike_twice] at hrg2
          go_roundw
          case rel => exact ⟨_, cnt2, _, Lib.hid hrg2, Lib.hid (hgw1.out.andThen hturn.grown (fun j hj => by cases hj; exact Or.inr rfl)), Lib.hid (tells_drop htl.out hlk'.out)⟩
          case measure =>
            have := LT.out
            rw [hrg2.left_eq, hrg.out.left_eq]; omega
        · have hcb : (c == (n : Int)) = false := by simp [hcn]
          have hlk' := Lib.hid hlk
          have hcn' := Lib.hid hcn
          clear hlk hcn
          go_wp2_with (fail)
          go_roundw
          case rel => exact ⟨_, cnt1, _, HRG1, hgw1, Lib.hid (tells_keep htl.out hlk'.out hcn'.out)⟩
          case measure => rw [HRG1.out.left_eq, hrg.out.left_eq]; exact LT.out
  · have e1 : (t.kind == 1) = false := by simp [hk1]
    have hrepL : Rep C S Ts (takeLock σ n t) w1 := by unfold takeLock; rw [if_neg hk1]; exact HR1.out
    have HREP := Lib.hid hrepL
    have HCL := Lib.hid (Chg.refl F w1)
    have HRL := Lib.hid HRR.out
    clear hrepL
    go_wp2_with fail
    clear s0 s1 s2 s3 s4 sf t0 t1 t2 t3' t4 t5 t6 tf hct hcg e1 hk1
    refine (HDO.out w1 HREP.out HRL.out).mono ?_
    rintro e w3 ⟨rfl, F', hful, hown3⟩
    obtain ⟨C3, D3, rep3, r3, d3, f3⟩ := id hful
    obtain ⟨⟨tv3, M3, p1, -, p3, p8, -⟩, -, -, p6, p7, p10, pw, ps⟩ := id rep3
    have pT := p6 n t3 T HS3.out HT.out
    have hSl : S < w3.heap.size := ps S p7
    have hTl : T < w3.heap.size := ps T (p10 T (List.mem_of_getElem? HT.out))
    have nST : ¬ S = T := fun e => by rw [e] at p1; rw [p1] at pT; injection pT with pT; injection pT with _ pT; simp at pT
    have nTS : ¬ T = S := fun e => nST e.symm
    have nSB : ¬ S = w3.heap.size := by omega
    have nTB : ¬ T = w3.heap.size := by omega
    have nBS : ¬ w3.heap.size = S := by omega
    have nBT : ¬ w3.heap.size = T := by omega
    have hS' : ∀ ob, (w3.alloc ob).heap[S]? = some (.cells (scCells tv3 M3 (shut_ σ')) 71 (0, 0)) := fun ob => (Below.heap_alloc w3 ob S hSl).trans p1
    have hT' : ∀ ob, (w3.alloc ob).heap[T]? = some (.cells (tkCells t3) 74 (0, 0)) := fun ob => (Below.heap_alloc w3 ob T hTl).trans pT
    have z2 : ∀ ob, (w3.alloc ob).cell? ⟨S, 2, none⟩ = some (.int .i64 (σ.steps : Int)) := fun ob => by rw [← hs3]; exact (sc_cell (hS' ob)).2.2.1
    have z3 : ∀ ob, (w3.alloc ob).cell? ⟨S, 3, none⟩ = some (.int .i64 (σ.wishes : Int)) := fun ob => by rw [← hw3]; exact (sc_cell (hS' ob)).2.2.2.1
    have zf : ∀ ob q, (w3.alloc ob).frozen? ⟨S, q, none⟩ = false := fun ob q => (sc_cell (hS' ob)).2.2.2.2.2 q
    have v2 : ∀ ob, (w3.alloc ob).cell? ⟨T, 2, none⟩ = some (.int .i64 t3.kind) := fun ob => (tk_cell (hT' ob)).2.2.1
    have v3 : ∀ ob, (w3.alloc ob).cell? ⟨T, 3, none⟩ = some (.int .i64 t3.on) := fun ob => (tk_cell (hT' ob)).2.2.2.1
    have v4 : ∀ ob, (w3.alloc ob).cell? ⟨T, 4, none⟩ = some (.int .i64 (t3.since : Int)) := fun ob => (tk_cell (hT' ob)).2.2.2.2.1
    have v5 : ∀ ob, (w3.alloc ob).cell? ⟨T, 5, none⟩ = some (.int .i64 (t3.order : Int)) := fun ob => (tk_cell (hT' ob)).2.2.2.2.2.1
    have vf : ∀ ob q, (w3.alloc ob).frozen? ⟨T, q, none⟩ = false := fun ob q => (tk_cell (hT' ob)).2.2.2.2.2.2.2 q
    obtain ⟨-, -, y2, y3, -, yf⟩ := sc_cell p1
    obtain ⟨-, -, x2, x3, x4, x5, -, xf⟩ := tk_cell pT
    have e2 : ((shut_ σ').steps : Int) = (σ.steps : Int) := by rw [← hs3]; rfl
    have e3 : ((shut_ σ').wishes : Int) = (σ.wishes : Int) := by rw [← hw3]; rfl
    rw [e2] at y2
    rw [e3] at y3
    clear e2 e3
    have P1 := Lib.hid p1
    have PT := Lib.hid pT
    have HFUL := Lib.hid hful
    have HOW3 := Lib.hid hown3
    have REP3 := Lib.hid rep3
    have RR3 := Lib.hid r3
    have DD3 := Lib.hid d3
    have FF3 := Lib.hid f3
    clear hful hown3 rep3 r3 d3 f3 p1 p6 p7 p10 pw ps pT hS' hT'
    have nMS : M3 ≠ S := fun e => by
      obtain ⟨DD, ⟨es, clock, hb, _⟩, _⟩ := p3
      rw [e, P1.out] at hb; cases hb
    have nMT : M3 ≠ T := fun e => by
      obtain ⟨DD, ⟨es, clock, hb, _⟩, _⟩ := p3
      rw [e, PT.out] at hb; cases hb
    have hMl : M3 < w3.heap.size := p3.lt
    have nMB : M3 ≠ w3.heap.size := by omega
    have y1 := (sc_cell P1.out).2.1
    have z1 : ∀ ob, (w3.alloc ob).cell? ⟨S, 1, none⟩ = some (.map (some M3)) := fun ob => (World.cell?_alloc_lt w3 ob ⟨S, 1, none⟩ hSl).trans y1
    have x6 := (tk_cell PT.out).2.2.2.2.2.2.1
    have v6 : ∀ ob, (w3.alloc ob).cell? ⟨T, 6, none⟩ = some (.bool t3.failed) := fun ob => (World.cell?_alloc_lt w3 ob ⟨T, 6, none⟩ hTl).trans x6
    obtain ⟨W, hW⟩ : ∃ W, (((w3.setCell ⟨S, 2, none⟩ (.int .i64 ((σ.steps : Int) + 1))).setCell ⟨T, 6, none⟩ (.bool true)).alloc (.cells #[.int .i64 4, .int .i64 0] 31)) = W := ⟨_, rfl⟩
    have hz3 : ((w3.setCell ⟨S, 2, none⟩ (.int .i64 ((σ.steps : Int) + 1))).setCell ⟨T, 6, none⟩ (.bool true)).heap.size = w3.heap.size := by simp [World.setCell]
    have hWold : ∀ k, k < w3.heap.size → k ≠ S → k ≠ T → W.heap[k]? = w3.heap[k]? := fun k hk hS hT => by
      rw [← hW]
      exact (Below.heap_alloc _ _ _ (by rw [hz3]; exact hk)).trans ((Below.heap_setCell _ _ _ _ hT).trans (Below.heap_setCell _ _ _ _ hS))
    have hWz : W.heap.size = w3.heap.size + 1 := by rw [← hW, World.size_alloc, hz3]
    have hWB : W.heap[w3.heap.size]? = some (.cells #[.int .i64 4, .int .i64 0] 31 (0, 0)) := by rw [← hW, ← hz3]; exact World.alloc_heap_new _ _
    have hWS : W.heap[S]? = some (.cells (scCells tv3 M3 { shut_ σ' with steps := σ.steps + 1 }) 71 (0, 0)) := by
      rw [← hW]
      refine (Below.heap_alloc _ _ S (by rw [hz3]; exact hSl)).trans ((Below.heap_setCell _ _ _ _ nST).trans ?_)
      exact Blk.set_ (t := 71) P1.out 2 (.int .i64 ((σ.steps : Int) + 1))
    have hWT : W.heap[T]? = some (.cells (tkCells { t3 with failed := true }) 74 (0, 0)) := by
      rw [← hW]
      refine (Below.heap_alloc _ _ T (by rw [hz3]; exact hTl)).trans ?_
      exact Blk.set_ (t := 74) ((Below.heap_setCell _ _ _ _ nTS).trans PT.out) 6 (.bool true)
    have hWM : MapIs W M3 σ'.cap σ'.locks := p3.same (hWold M3 hMl nMS nMT)
    have hWc : Chg (fun q => q = S ∨ q = T) w3 W := by
      rw [← hW]
      exact (Chg.setCell (C := fun q => q = S ∨ q = T) (Chg.setCell (C := fun q => q = S ∨ q = T) (Chg.refl _ _) (p := ⟨S, 2, none⟩) (.inl (.inl rfl)) _) (p := ⟨T, 6, none⟩) (.inl (.inr rfl)) _).alloc _
    have hWrep : Rep C3 S Ts { ({ shut_ σ' with steps := σ.steps + 1 } : Sc) with tks := σ'.tks.set n { t3 with failed := true } } W := by
      rw [← hW]
      have hw0 := REP3.out.wf
      have q1 := REP3.out.setS 2 (.int .i64 ((σ.steps : Int) + 1)) { shut_ σ' with steps := σ.steps + 1 } (fun _ _ => rfl) rfl rfl rfl ⟨hw0.few, hw0.tk, fun u hu => ⟨by have := (hw0.since u hu).1; rw [show (shut_ σ').steps = σ.steps from hs3] at this; show u.since ≤ σ.steps + 1; omega, (hw0.since u hu).2⟩⟩
      have ht3 : ({ shut_ σ' with steps := σ.steps + 1 } : Sc).tks[n]? = some t3 := HS3.out
      have q2 := q1.setT HT.out ht3 6 (.bool true) { t3 with failed := true } rfl ⟨(q1.wf.tk t3 (List.mem_of_getElem? ht3)).on, (q1.wf.tk t3 (List.mem_of_getElem? ht3)).enters⟩ (q1.wf.since t3 (List.mem_of_getElem? ht3))
      exact q2.below ((Below.refl _ _).alloc (Nat.le_refl _) _)
    obtain ⟨DD, hownD, hTl2⟩ := hWM
    have WREP := Lib.hid hWrep
    have WC := Lib.hid hWc
    have WB := Lib.hid hWB
    have WS := Lib.hid hWS
    have WT := Lib.hid hWT
    have HTELL := Lib.hid hTl2
    have HOWND := Lib.hid hownD
    have HW := Lib.hid hW
    have HWZ := Lib.hid hWz
    have hSl2 : S < W.heap.size := by omega
    clear hWz
    clear hWrep hWc hWB hWS hWT hTl2 hWold hz3 p3 hW hownD
    go_wp2_with (first | (at_range; rw [HW.out]; refine wpList_range_own _ rfl _ 68 rfl 3 3 law Try.underlying68 _ M3 _ DD rfl HOWND.out ?_; intro w0 hrg0 hg0 hs0) | go_in)
    go_frame
    clear y1 y2 y3 yf x2 x3 x4 x5 x6 xf z1 z2 z3 zf v2 v3 v4 v5 v6 vf
    have HRG0 := Lib.hid hrg0
    have HG0 := Lib.hid (hg0.but (some M3))
    clear hrg0 hg0 hs0
    go_loopw [11] (fun _ wr => ∃ (left : Lit → Bool) (cnt : Nat) (Dc : DataW Unit), Hid (wr.ranges Try.prog 3 (plainElem Try.prog 3) M3 W.heap.size σ'.cap Dc left cnt) ∧ Hid (W.grownBy wr (some M3)) ∧ Hid (∀ k, wfi k → Tells Dc k (if left (.int .i64 k) = true then σ'.locks k else dropAll σ'.locks n k)))
      (fun _ wr => wr.rangeLeft M3 W.heap.size)
    case atStart =>
      refine ⟨_, _, DD, HRG0, HG0, Lib.hid (fun k hk => ?_)⟩
      have h1 := HTELL.out k hk
      cases hl : σ'.locks k with
      | none =>
        rw [hl] at h1
        have : dropAll σ'.locks n k = none := by unfold dropAll; rw [hl]
        rw [this]; split <;> exact h1
      | some v =>
        rw [hl] at h1
        rw [if_pos h1.1]; exact h1
    case round =>
      obtain ⟨left, cnt, Dc, hrg, hgw, htl⟩ := hrel
      clear HRG0 HG0
      go_wp2_with (first | (at_next; refine wpList_next_ranges_ii _ rfl _ rfl 3 3 .i64 .i64 law Try.underlying3 Try.underlying3 M3 W.heap.size σ'.cap _ _ _ rfl hrg.out ?_ ?_) | go_in)
      · intro _ hl0
        have hMnew : MapIs wr M3 σ'.cap (dropAll σ'.locks n) := ⟨Dc, hrg.out.owns, fun k hk => by
          have := htl.out k hk
          rw [hl0] at this; simpa using this⟩
        have hTl3 : T < W.heap.size := by have := HWZ.out; omega
        have hBl3 : w3.heap.size < W.heap.size := by have := HWZ.out; omega
        have hSr := (hgw.out.block S hSl2 (fun e => nMS (by injection e with e; exact e.symm))).trans WS.out
        have hTr := (hgw.out.block T hTl3 (fun e => nMT (by injection e with e; exact e.symm))).trans WT.out
        have hBr := (hgw.out.block _ hBl3 (fun e => nMB (by injection e with e; exact e.symm))).trans WB.out
        obtain ⟨-, -, y2, y3, -, yf⟩ := sc_cell hSr
        have e3 : (({ shut_ σ' with steps := σ.steps + 1 } : Sc).wishes : Int) = (σ.wishes : Int) := by rw [← hw3]; rfl
        rw [e3] at y3
        have b0 := Blk.cell (t := 31) hBr 0
        have b1 := Blk.cell (t := 31) hBr 1
        simp only [List.getElem?_toArray, List.getElem?_cons_zero, List.getElem?_cons_succ] at b0 b1
        have HSR := Lib.hid hSr
        have HTR := Lib.hid hTr
        have HBR := Lib.hid hBr
        have HMN := Lib.hid hMnew
        have HL3 := Lib.hid (And.intro hTl3 hBl3)
        have HL0 := Lib.hid hl0
        clear hSr hTr hBr hMnew e3 hTl3 hBl3 hl0
        go_wp2_with fail
        obtain ⟨W7, hW7⟩ : ∃ W7, wr.setCell ⟨S, 3, none⟩ (.int .i64 ((σ.wishes : Int) + 1)) = W7 := ⟨_, rfl⟩
        have hS7 : W7.heap[S]? = some (.cells (scCells tv3 M3 { shut_ σ' with steps := σ.steps + 1, wishes := σ.wishes + 1 }) 71 (0, 0)) := by
          rw [← hW7]; exact Blk.set_ (t := 71) HSR.out 3 (.int .i64 ((σ.wishes : Int) + 1))
        have hT7 : W7.heap[T]? = some (.cells (tkCells { t3 with failed := true }) 74 (0, 0)) := by
          rw [← hW7]; exact (Below.heap_setCell _ _ _ _ nTS).trans HTR.out
        have hB7 : W7.heap[w3.heap.size]? = some (.cells #[.int .i64 4, .int .i64 0] 31 (0, 0)) := by
          rw [← hW7]; exact (Below.heap_setCell _ _ _ _ nBS).trans HBR.out
        have hc7 : Chg C3 w3 W7 := by
          have h1 : Chg C3 w3 W := WC.out.mono (fun q hq => by
            rcases hq with h | h
            · rw [h]; exact REP3.out.inS
            · rw [h]; exact REP3.out.inT T (List.mem_of_getElem? HT.out))
          have h2 : Chg C3 w3 wr := ⟨hgw.out.os.trans h1.os, hgw.out.tape.trans h1.tape, hgw.out.output.trans h1.output, Nat.le_trans h1.size hgw.out.size, fun k hk hC => (hgw.out.block k (Nat.lt_of_lt_of_le hk h1.size) (fun e => hC (by injection e with e; rw [e]; exact p8))).trans (h1.block k hk hC)⟩
          rw [← hW7]
          exact h2.setCell (p := ⟨S, 3, none⟩) (.inl REP3.out.inS) _
        have hrep7 : Rep C3 S Ts { shut_ σ' with steps := σ.steps + 1, wishes := σ.wishes + 1, locks := dropAll σ'.locks n, tks := σ'.tks.set n { t3 with failed := true } } W7 := by
          have q1 := WREP.out.setG WS.out (dropAll σ'.locks n) σ'.cap HMN.out hgw.out
          have q2 := q1.setS 3 (.int .i64 ((σ.wishes : Int) + 1)) { shut_ σ' with steps := σ.steps + 1, wishes := σ.wishes + 1, locks := dropAll σ'.locks n, tks := σ'.tks.set n { t3 with failed := true } } (fun _ _ => rfl) rfl rfl rfl ⟨q1.wf.few, q1.wf.tk, fun u hu => ⟨(q1.wf.since u hu).1, by have := (q1.wf.since u hu).2; rw [show ({ ({ ({ shut_ σ' with steps := σ.steps + 1 } : Sc) with tks := σ'.tks.set n { t3 with failed := true } } : Sc) with locks := dropAll σ'.locks n, cap := σ'.cap } : Sc).wishes = σ.wishes from hw3] at this; show u.order ≤ σ.wishes + 1; omega⟩⟩
          rw [hW7] at q2
          exact q2
        rw [hW7]
        obtain ⟨-, -, s2, s3, -, sf⟩ := sc_cell hS7
        obtain ⟨-, -, t2, t3', t4, t5, -, tf⟩ := tk_cell hT7
        have c0 := Blk.cell (t := 31) hB7 0
        have c1 := Blk.cell (t := 31) hB7 1
        simp only [List.getElem?_toArray, List.getElem?_cons_zero, List.getElem?_cons_succ] at c0 c1
        have es : ((({ shut_ σ' with steps := σ.steps + 1, wishes := σ.wishes + 1 } : Sc).steps : Nat) : Int) = (σ.steps : Int) + 1 := rfl
        have ew : ((({ shut_ σ' with steps := σ.steps + 1, wishes := σ.wishes + 1 } : Sc).wishes : Nat) : Int) = (σ.wishes : Int) + 1 := rfl
        rw [es] at s2
        rw [ew] at s3
        have C7 := Lib.hid hc7
        have R7 := Lib.hid hrep7
        have OWN3 := Lib.hid ((HO1.out.trans ⟨HCL.out, fun q hq => .inl hq⟩).trans HOW3.out)
        clear hW7 hS7 hT7 hB7 hc7 hrep7 es ew y2 y3 yf b0 b1 HSR HTR HBR HMN WREP WC WB WS WT HW REP3 P1 PT hrg hgw htl HTELL HOWND HFUL
        go_region
        go_wp2
        go_ret2
        refine ⟨rfl, ?_⟩
        have hlen3 : n < σ'.tks.length := (List.getElem?_eq_some_iff.1 HS3.out).1
        have hpe := panic_end hR' RR3.out DD3.out FF3.out R7.out C7.out OWN3.out HT.out (t := { t3 with failed := true }) (by simp [hlen3]) (σ.steps + 1) (σ.wishes + 1) rfl rfl
        have heq : ({ ({ shut_ σ' with steps := σ.steps + 1, wishes := σ.wishes + 1, locks := dropAll σ'.locks n, tks := σ'.tks.set n { t3 with failed := true } } : Sc) with tks := (σ'.tks.set n { t3 with failed := true }).set n { ({ t3 with failed := true } : Tk) with kind := 4, on := 0, since := σ.steps + 1, order := σ.wishes + 1 } } : Sc) = failedP (shut_ σ') n t3 := by
          unfold failedP
          rw [List.set_set]
          show _ = ({ tks := σ'.tks.set n { t3 with kind := 4, on := 0, since := σ'.steps + 1, order := σ'.wishes + 1, failed := true }, locks := dropAll σ'.locks n, steps := σ'.steps + 1, wishes := σ'.wishes + 1, within := false, cap := σ'.cap } : Sc)
          rw [hs3, hw3]; rfl
        rw [heq] at hpe
        exact hpe
      · intro x c wn cnt1 hwx hwc hlx hat hrg1 hlt hg1 hs1 hen
        have hgw1 := Lib.hid (hgw.out.andThen hg1 (fun j hj => by cases hj; exact Or.inl (Nat.le_refl _)))
        have hlk := tells_step htl.out hwx hlx hat
        have y1 : wn.cell? ⟨S, 1, none⟩ = some (.map (some M3)) := (sc_cell ((hgw1.out.block S hSl2 (fun e => nMS (by injection e with e; exact e.symm))).trans WS.out)).2.1
        have HRG1 := Lib.hid hrg1
        have LT := Lib.hid hlt
        have HAT := Lib.hid hat
        clear hrg1 hg1 hs1 hat hlt
        by_cases hcn : c = (n : Int)
        · have hcb : (c == (n : Int)) = true := by simp [hcn]
          have hlk' := Lib.hid (hcn ▸ hlk)
          clear hlk hcn
          go_wp2_with (first | (at_delete; refine wpList_delete_ranges _ rfl _ _ 68 3 rfl 3 law Try.underlying68 _ M3 W.heap.size σ'.cap _ _ _ rfl HRG1.out _ _ rfl (Maps.keyOf_int_mk Try.underlying3 hwx) ?_; intro w2 cnt2 hrg2 hle hturn; go_frame) | go_in)
          rw [Maps.strike_twice] at hrg2
          go_roundw
          case rel => exact ⟨_, cnt2, _, Lib.hid hrg2, Lib.hid (hgw1.out.andThen hturn.grown (fun j hj => by cases hj; exact Or.inr rfl)), Lib.hid (tells_drop htl.out hlk'.out)⟩
          case measure =>
            have := LT.out
            rw [hrg2.left_eq, hrg.out.left_eq]; omega
        · have hcb : (c == (n : Int)) = false := by simp [hcn]
          have hlk' := Lib.hid hlk
          have hcn' := Lib.hid hcn
          clear hlk hcn
          go_wp2_with (fail)
          go_roundw
          case rel => exact ⟨_, cnt1, _, HRG1, hgw1, Lib.hid (tells_keep htl.out hlk'.out hcn'.out)⟩
          case measure => rw [HRG1.out.left_eq, hrg.out.left_eq]; exact LT.out
end Go.Proofs.Ytekgdakkkbnpiaa
