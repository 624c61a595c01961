/- waiting, wakes, Signal, Broadcast, Waiting. No condition. -/
import Derived.Test.YtekgdakkkbnpiaaWait2
import Derived.Test.YtekgdakkkbnpiaaActs
namespace Go.Proofs.Ytekgdakkkbnpiaa
set_option linter.unusedVariables false
set_option linter.unusedSimpArgs false
open Go Go.RowKit

set_option maxRecDepth 100000 in
set_option maxHeartbeats 2000000 in
theorem waiting_any {C : Nat → Prop} {S : Nat} {Ts : List Nat} {σ : Sc} {w : World} (h : Rep C S Ts σ w) (hst : σ.wishes < 4611686018427387904) (hd : DistP σ) (on : Int) :
    Calls Try.prog 61 #[ptr S, .int .i64 on] w fun e w' => ∃ v, e = .returned v ∧ w'.ownsRow w.heap.size 3 1 v (waitP σ on).length (nums (waitP σ on)) ∧ Below w.heap.size w w' := by
  have hmf : ∀ (fn : Fn) (first cap : Array Value) (w : World), (Instr.makeFunc fn first cap).run Try.prog w = .ok (.func fn first cap) w := fun _ _ _ _ => rfl
  obtain ⟨W, hW⟩ : ∃ W, (w.alloc (.cells #[.pointer (some ⟨S, 0, none⟩)] 24)).alloc (.cells #[.int .i64 on] 3) = W := ⟨_, rfl⟩
  have hB0 : Below w.heap.size w W := by rw [← hW]; exact ((Below.refl _ w).alloc (Nat.le_refl _) _).alloc (by simp) _
  have hWz : W.heap.size = w.heap.size + 2 := by rw [← hW]; simp
  have hb0 : W.heap[w.heap.size]? = some (.cells #[.pointer (some ⟨S, 0, none⟩)] 24 (0, 0)) := by rw [← hW]; exact (Below.heap_alloc _ _ _ (by simp)).trans (World.alloc_heap_new w _)
  have hb1 : W.heap[w.heap.size + 1]? = some (.cells #[.int .i64 on] 3 (0, 0)) := by
    rw [← hW]; have := World.alloc_heap_new (w.alloc (.cells #[.pointer (some ⟨S, 0, none⟩)] 24)) (.cells #[.int .i64 on] 3); rwa [World.size_alloc] at this
  have c0 := Blk.cell (t := 24) hb0 0
  have c1 := Blk.cell (t := 3) hb1 0
  simp only [List.getElem?_toArray, List.getElem?_cons_zero] at c0 c1
  have hrep := h.below hB0
  have hlen : (waitP σ on).length = (waitL σ on).length := by unfold waitP; exact List.length_mergeSort _
  have hth : Calls Try.prog 33 #[ptr S, .func (.func 65) #[] #[ptr (w.heap.size + 1)]] W fun e w' => ∃ v, e = .returned v ∧ w'.ownsRow W.heap.size 3 1 v (waitL σ on).length (nums (waitL σ on)) ∧ Below W.heap.size W w' := by
    obtain ⟨⟨tv, M, h1, h2, h3, h8, h9⟩, h4, h5, h6, h7, h10, hw, hs⟩ := hrep
    have hth := those_any (n := Ts.length) (S := S) (M := M) (Ts := Ts) (tv := tv) (σ := σ) (w := W) 65 #[] #[ptr (w.heap.size + 1)] (fun i => match σ.tks[i]? with | some t => waitsB on t | none => false) h1 h2 (by rw [h4]; exact hw.few) rfl enters65
      (fun i T V hT hb => by
        have hi : i < σ.tks.length := by rw [← h4]; exact (List.getElem?_eq_some_iff.1 hT).1
        obtain ⟨t, ht⟩ : ∃ t, σ.tks[i]? = some t := ⟨_, List.getElem?_eq_getElem hi⟩
        have hTl := hs T (h10 T (List.mem_of_getElem? hT))
        simp only [ht]
        exact waits_any ((hb.block T hTl).trans (h6 i t T ht hT)) ((hb.cell (p := ⟨w.heap.size + 1, 0, none⟩) (by rw [hWz]; show w.heap.size + 1 < _; omega)).trans c1))
    rw [h4] at hth
    exact hth
  have HTH := Lib.hid hth
  have HREP := Lib.hid h
  have HB0 := Lib.hid hB0
  have HW := Lib.hid hW
  have HWZ := Lib.hid hWz
  have C0 := Lib.hid c0
  have HL := Lib.hid hlen
  clear hth h hrep hB0 hWz hb0 hb1 c1 hlen
  unfold ptr at *
  go_enter Try.func61, Try.ntmps61
  go_wp2_with (fail)
  clear hW
  refine HTH.out.mono ?_
  rintro e w2 ⟨v, rfl, hown, hbe⟩
  obtain ⟨A, cp, g, rfl, hA⟩ := own_shape hown
  have hb2 : Hid (Below w.heap.size w w2) := Lib.hid (HB0.out.trans (hbe.mono HB0.out.size))
  have hc2 : w2.cell? ⟨w.heap.size, 0, none⟩ = some (.pointer (some ⟨S, 0, none⟩)) := (hbe.cell (p := ⟨w.heap.size, 0, none⟩) (by rw [HWZ.out]; show w.heap.size < _; omega)).trans c0
  have HOWN := Lib.hid (World.ownsRow.mono hown (show w.heap.size ≤ W.heap.size by rw [HWZ.out]; omega))
  obtain ⟨n, hn⟩ : ∃ n, (waitL σ on).length = n := ⟨_, rfl⟩
  have hsort : Calls Try.prog 66 #[.slice A n cp, .func (.func 67) #[] #[.pointer (some ⟨w.heap.size, 0, none⟩)]] w2 fun e w' => e = .returned (.tuple #[]) ∧ w'.ownsRow w.heap.size 3 1 (.slice A n cp) n (nums (waitP σ on)) ∧ Below w.heap.size w2 w' := by
    rw [hn] at HOWN hA
    rcases Nat.eq_zero_or_pos n with h0 | h0
    · subst h0
      have hnil : waitP σ on = [] := List.eq_nil_of_length_eq_zero (by rw [HL.out, hn])
      refine (Try.slices_SortFunc_none (α := Nat) A cp (.func (.func 67) #[] #[.pointer (some ⟨w.heap.size, 0, none⟩)]) w2).mono ?_
      rintro e w' ⟨rfl, rfl⟩
      refine ⟨rfl, ?_, Below.refl _ _⟩
      rw [hnil]
      refine ⟨rfl, ?_⟩
      rcases HOWN.out.2 with ⟨h1, h2⟩ | ⟨g', cap', cur, h1, h2, h3, h4, h5, h6, h7⟩
      · exact .inl ⟨h1, h2⟩
      · exact .inr ⟨g', cap', cur, h1, h2, h3, h4, h5, h6, by simp [nums]⟩
    · obtain ⟨rfl, hgl, hgb⟩ := hA h0
      have := HWZ.out
      exact sorted_any (HREP.out.below hb2.out) hst hd on hn.symm HOWN.out (by omega) (by have := hb2.out.size; omega) HREP.out.size hc2 (by omega) h0
  have HS := Lib.hid hsort
  have HFN := Lib.hid (show (waitP σ on).length = n by rw [HL.out, hn])
  rw [hn]
  clear hsort hown hbe hA C0 c0
  go_wp2_with (fail)
  refine HS.out.mono ?_
  rintro e w3 ⟨rfl, hown3, hbe3⟩
  have H1 := Lib.hid hown3
  clear hown3
  go_wp2
  go_ret
  exact ⟨_, rfl, by rw [HFN.out]; exact H1.out, hb2.out.trans hbe3⟩

theorem Waiting_any {C : Nat → Prop} {S : Nat} {Ts : List Nat} {σ : Sc} {w : World} (h : Rep C S Ts σ w) (hst : σ.wishes < 4611686018427387904) (hd : DistP σ) (on : Int) :
    Calls Try.prog 47 #[ptr S, .int .i64 on] w fun e w' => ∃ v, e = .returned v ∧ w'.ownsRow w.heap.size 3 1 v (waitP σ on).length (nums (waitP σ on)) ∧ Below w.heap.size w w' := by
  have HT := Lib.hid (waiting_any h hst hd on)
  clear h
  unfold ptr at *
  go_enter Try.func47, Try.ntmps47
  go_wp2_with fail
  refine HT.out.mono ?_
  rintro e w1 ⟨v, rfl, hown, hbe⟩
  go_wp2
  go_ret
  exact ⟨v, rfl, hown, hbe⟩

def wakeP (σ : Sc) (n : Nat) : Sc := { σ with tks := σ.tks.modify n bare }
theorem wakeP_set {σ : Sc} {n : Nat} {t : Tk} (ht : σ.tks[n]? = some t) : wakeP σ n = { σ with tks := σ.tks.set n (bare t) } := by
  unfold wakeP; rw [modify_eq_set ht]

set_option maxRecDepth 100000 in
set_option maxHeartbeats 2000000 in
theorem wakes_any {F : Nat → Prop} {S : Nat} {Ts : List Nat} {σ : Sc} {R : (Nat → Prop) → World → Prop} {w : World} (hR : Local R) (h : Full F S Ts σ R w) {n : Nat} {t : Tk} (ht : σ.tks[n]? = some t) :
    Calls Try.prog 62 #[ptr S, .int .i64 (n : Int)] w fun e w' => e = .returned (.tuple #[]) ∧ Full F S Ts (wakeP σ n) R w' ∧ Owned F w F w' := by
  obtain ⟨C, D, hrep, hr, hd, hf⟩ := id h
  obtain ⟨tv, M, g1, g2, -, -, -⟩ := hrep.ex
  have hnT : n < Ts.length := by rw [hrep.len]; exact (List.getElem?_eq_some_iff.1 ht).1
  obtain ⟨A, cp, g, rfl, hA⟩ := own_shape g2
  obtain ⟨rfl, -, -⟩ := hA (by omega)
  obtain ⟨T, hT⟩ : ∃ T, Ts[n]? = some T := ⟨_, List.getElem?_eq_getElem hnT⟩
  have hbT := hrep.tasks n t T ht hT
  have hct : w.cell? ⟨g, n, none⟩ = some (.pointer (some ⟨T, 0, none⟩)) := by
    rw [World.ownsRow.cellAt g2 n (by omega), List.getElem?_map, hT]; rfl
  obtain ⟨s0, -, -, -, -, -⟩ := sc_cell g1
  obtain ⟨-, -, t2, t3, -, -, -, tf⟩ := tk_cell hbT
  have hTC := hrep.inT T (List.mem_of_getElem? hT)
  have hwt := hrep.wf.tk t (List.mem_of_getElem? ht)
  have hsi := hrep.wf.since t (List.mem_of_getElem? ht)
  have hfin : Full F S Ts (wakeP σ n) R ((w.setCell ⟨T, 2, none⟩ (.int .i64 0)).setCell ⟨T, 3, none⟩ (.int .i64 0)) ∧ Owned F w F ((w.setCell ⟨T, 2, none⟩ (.int .i64 0)).setCell ⟨T, 3, none⟩ (.int .i64 0)) := by
    have r1 := hrep.setT hT ht 2 (.int .i64 0) { t with kind := 0 } rfl ⟨hwt.on, hwt.enters⟩ hsi
    have htk1 : ({ σ with tks := σ.tks.set n { t with kind := 0 } } : Sc).tks[n]? = some { t with kind := 0 } := by
      have := (List.getElem?_eq_some_iff.1 ht).1
      simp [this]
    have r2 := r1.setT hT htk1 3 (.int .i64 0) (bare t) rfl ⟨by unfold bare; exact wfi_nat 0 (by omega), hwt.enters⟩ hsi
    have hch : Chg (fun q => q = T) w ((w.setCell ⟨T, 2, none⟩ (.int .i64 0)).setCell ⟨T, 3, none⟩ (.int .i64 0)) :=
      Chg.setCell (C := fun q => q = T) (Chg.setCell (C := fun q => q = T) (Chg.refl _ _) (p := ⟨T, 2, none⟩) (.inl rfl) _) (p := ⟨T, 3, none⟩) (.inl rfl) _
    refine ⟨⟨C, D, ?_, hR.chg D _ w _ hr hch (fun q hq e => by subst e; exact hd _ hTC hq), hd, hf⟩, hch.mono (fun q e => by rw [e]; exact (hf T).2 (.inl hTC)), fun _ h => .inl h⟩
    rw [wakeP_set ht]
    simpa [List.set_set] using r2
  have HFIN := Lib.hid hfin
  clear hfin h hrep hr hd hf g1 g2 hbT hA hwt hsi
  unfold ptr
  go_enter Try.func62, Try.ntmps62
  go_wp2_with fail
  go_end0
  exact ⟨rfl, HFIN.out.1, HFIN.out.2⟩

theorem waitP_lt {σ : Sc} {on : Int} {x : Nat} (h : x ∈ waitP σ on) : x < σ.tks.length := by
  unfold waitP at h
  rw [List.mem_mergeSort] at h
  obtain ⟨p, hp⟩ := List.getElem?_of_mem h
  exact (fl_mem hp).1
theorem wakeP_length (σ : Sc) (n : Nat) : (wakeP σ n).tks.length = σ.tks.length := by simp [wakeP]
def signalP (σ : Sc) (on : Int) : Sc := match waitP σ on with
  | [] => σ
  | x :: _ => wakeP σ x
def signalN (σ : Sc) (on : Int) : Int := match waitP σ on with
  | [] => 0
  | x :: _ => (x : Int)
def signalB (σ : Sc) (on : Int) : Bool := match waitP σ on with
  | [] => false
  | _ :: _ => true

theorem Full.rep_ {F : Nat → Prop} {S : Nat} {Ts : List Nat} {σ : Sc} {R : (Nat → Prop) → World → Prop} {w : World} (h : Full F S Ts σ R w) : ∃ C, Rep C S Ts σ w := by
  obtain ⟨C, D, hrep, -, -, -⟩ := h
  exact ⟨C, hrep⟩

set_option maxRecDepth 100000 in
set_option maxHeartbeats 2000000 in
theorem signal_any {F : Nat → Prop} {S : Nat} {Ts : List Nat} {σ : Sc} {R : (Nat → Prop) → World → Prop} {w : World} (hR : Local R) (h : Full F S Ts σ R w) (hst : σ.wishes < 4611686018427387904) (hd : DistP σ) (on : Int) :
    Calls Try.prog 42 #[ptr S, .int .i64 on] w fun e w' => e = .returned (.tuple #[.int .i64 (signalN σ on), .bool (signalB σ on)]) ∧ Full F S Ts (signalP σ on) R w' ∧ Owned F w F w' := by
  obtain ⟨C, hrep⟩ := h.rep_
  have HW := Lib.hid (waiting_any hrep hst hd on)
  have HH := Lib.hid h
  clear h hrep
  unfold signalN signalB signalP
  unfold ptr at *
  cases hl : waitP σ on with
  | nil =>
    rw [hl] at HW
    go_enter Try.func42, Try.ntmps42
    go_wp2_with fail
    refine HW.out.mono ?_
    rintro e w1 ⟨v, rfl, hown, hb⟩
    obtain ⟨A, cp, g, rfl, -⟩ := own_shape hown
    clear hown
    simp only [List.length_nil]
    go_wp2_with fail
    go_ret2
    exact ⟨rfl, HH.out.below hR hb, Owned.below hb⟩
  | cons x r =>
    rw [hl] at HW
    have hx : x < σ.tks.length := waitP_lt (on := on) (by rw [hl]; exact List.mem_cons_self)
    obtain ⟨t, ht⟩ : ∃ t, σ.tks[x]? = some t := ⟨_, List.getElem?_eq_getElem hx⟩
    go_enter Try.func42, Try.ntmps42
    go_wp2_with fail
    refine HW.out.mono ?_
    rintro e w1 ⟨v, rfl, hown, hb⟩
    obtain ⟨n, hn⟩ : ∃ n, (x :: r).length = n := ⟨_, rfl⟩
    have hnp : 0 < n := by rw [← hn]; simp
    have h0 : ((n : Int) == 0) = false := by rw [beq_eq_false_iff_ne]; omega
    obtain ⟨A, cp, g, rfl, hA⟩ := own_shape hown
    obtain ⟨rfl, hgl, hgb⟩ := hA (by simp)
    have hc : w1.cell? ⟨g, 0, none⟩ = some (.int .i64 (x : Int)) := by
      rw [World.ownsRow.cellAt hown 0 (by simp)]; rfl
    have hf1 := HH.out.below hR hb
    have hgF : ¬ F g := fun hF => by have := Full.size hR HH.out g hF; omega
    have hwk := Lib.hid (wakes_any hR hf1 ht)
    have HO := Lib.hid (Owned.below (F := F) hb)
    rw [hn]
    clear hown hA hn hf1
    unfold ptr at hwk
    go_wp2_with fail
    refine hwk.out.mono ?_
    rintro e w2 ⟨rfl, hf2, ho2⟩
    have hc2 : w2.cell? ⟨g, 0, none⟩ = some (.int .i64 (x : Int)) := (ho2.1.cell (p := ⟨g, 0, none⟩) hgl hgF).trans hc
    have H2 := Lib.hid hf2
    have O2 := Lib.hid ho2
    clear hf2 ho2 hc
    go_wp2_with fail
    go_ret2
    exact ⟨rfl, H2.out, HO.out.trans O2.out⟩

set_option maxRecDepth 100000 in
set_option maxHeartbeats 2000000 in
theorem broad_any {F : Nat → Prop} {S : Nat} {Ts : List Nat} {σ : Sc} {R : (Nat → Prop) → World → Prop} {w : World} (hR : Local R) (h : Full F S Ts σ R w) (hst : σ.wishes < 4611686018427387904) (hd : DistP σ) (on : Int) :
    Calls Try.prog 44 #[ptr S, .int .i64 on] w fun e w' => e = .returned (.int .i64 ((waitP σ on).length : Int)) ∧ Full F S Ts ((waitP σ on).foldl wakeP σ) R w' ∧ Owned F w F w' := by
  obtain ⟨C, hrep⟩ := h.rep_
  have HW := Lib.hid (waiting_any hrep hst hd on)
  have HH := Lib.hid h
  have hlt : Hid (∀ x ∈ waitP σ on, x < σ.tks.length) := Lib.hid (fun x hx => waitP_lt hx)
  have hlen64 : (waitP σ on).length ≤ 64 := by
    have h1 : (waitP σ on).length = (waitL σ on).length := List.length_mergeSort _
    have h2 : (waitL σ on).length ≤ σ.tks.length := fl_le _ _
    have h3 := hrep.wf.few
    omega
  clear h hrep
  generalize waitP σ on = l at *
  obtain ⟨n, hn⟩ : ∃ n, l.length = n := ⟨_, rfl⟩
  have HN := Lib.hid hn
  rw [hn] at hlen64 HW ⊢
  clear hn
  unfold ptr at *
  go_enter Try.func44, Try.ntmps44
  go_wp2_with fail
  refine HW.out.mono ?_
  rintro e w1 ⟨v, rfl, hown, hb⟩
  obtain ⟨A, cp, g, rfl, hA⟩ := own_shape hown
  have hFsz : Hid (∀ k, F k → k < w.heap.size) := Lib.hid (Full.size hR HH.out)
  have HF1 := Lib.hid (HH.out.below hR hb)
  have HO1 := Lib.hid (Owned.below (F := F) hb)
  have HOW := Lib.hid hown
  clear hown hb
  go_wp2_with fail
  go_loopw [13] (fun i wr => ∃ k : Nat, i = .int .i64 k ∧ k ≤ n ∧ Hid (Full F S Ts ((l.take k).foldl wakeP σ) R wr) ∧ Hid (Owned F w F wr) ∧ Hid (wr.ownsRow w.heap.size 3 1 (.slice A n cp) n (nums l))) (fun i _ => n - (intOf i).toNat)
  case atStart => exact ⟨0, rfl, Nat.zero_le _, by simpa using HF1, HO1, HOW⟩
  case round =>
    obtain ⟨k, rfl, hk, E1, E2, E3⟩ := hrel
    clear HF1 HO1 HOW
    by_cases hlt2 : k < n
    · have hkl : k < l.length := by rw [HN.out]; exact hlt2
      obtain ⟨x, hx⟩ : ∃ x, l[k]? = some x := ⟨_, List.getElem?_eq_getElem hkl⟩
      obtain ⟨rfl, -, hgb⟩ := hA (by omega)
      have hc : wr.cell? ⟨g, k, none⟩ = some (.int .i64 (x : Int)) := by
        rw [World.ownsRow.cellAt E3.out k (by omega), nums, List.getElem?_map, hx]; rfl
      have hlenf : ∀ (m : List Nat) (τ : Sc), (m.foldl wakeP τ).tks.length = τ.tks.length := fun m => by
        induction m with
        | nil => intro τ; rfl
        | cons y m ih => intro τ; rw [List.foldl_cons, ih, wakeP_length]
      obtain ⟨t, ht⟩ : ∃ t, ((l.take k).foldl wakeP σ).tks[x]? = some t := ⟨_, List.getElem?_eq_getElem (by rw [hlenf]; exact hlt.out x (List.mem_of_getElem? hx))⟩
      have hwk := Lib.hid (wakes_any hR E1.out ht)
      have hgl := (E3.out.lt g rfl).2
      unfold ptr at hwk
      clear ht
      go_wp2_with fail
      refine hwk.out.mono ?_
      rintro e w2 ⟨rfl, hf2, ho2⟩
      have hstep : (l.take (k + 1)).foldl wakeP σ = wakeP ((l.take k).foldl wakeP σ) x := by
        rw [List.take_add_one, hx]; simp
      have E1' : Hid (Full F S Ts ((l.take (k + 1)).foldl wakeP σ) R w2) := Lib.hid (by rw [hstep]; exact hf2)
      have E2' := Lib.hid (E2.out.trans ho2)
      have E3' := Lib.hid (own_held E3.out (w' := w2) (fun j hj => by
        obtain rfl : g = j := by simpa [Value.ownBlock] using hj
        exact ho2.1.block g hgl (fun hF => by have := hFsz.out g hF; omega)))
      clear hf2 ho2 hstep hc
      go_wp2
      go_roundw
      case rel => exact ⟨k + 1, by go_num, by omega, E1', E2', E3'⟩
      case measure => simp [intOf]; omega
    · obtain rfl : k = n := by omega
      go_wp2_with fail
      go_ret
      refine ⟨rfl, ?_, E2.out⟩
      have := E1.out
      rw [← HN.out, List.take_length] at this
      exact this
end Go.Proofs.Ytekgdakkkbnpiaa
