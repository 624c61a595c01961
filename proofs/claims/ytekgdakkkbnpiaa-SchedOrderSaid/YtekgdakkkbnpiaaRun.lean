/- A run: as many picks as picks say; the dead; the steps. No condition. -/
import Derived.Test.YtekgdakkkbnpiaaSpawn
import Derived.Deep.Onto
namespace Go.Proofs.Ytekgdakkkbnpiaa
set_option linter.unusedVariables false
set_option linter.unusedSimpArgs false
open Go Go.RowKit

set_option maxRecDepth 100000 in
set_option maxHeartbeats 1000000 in
theorem clone_any {w : World} {ad : Addr} {n cp : Nat} {zs : List Int} (h : Reads w w.heap.size 1 (some ad) n (zs.map (Value.int .i64))) (hn : n ≤ 1000000000) :
    Calls Try.prog 32 #[.slice (some ad) n cp] w fun e w' => ∃ v, e = .returned v ∧ w'.ownsRow w.heap.size 3 1 v n (zs.map (Value.int .i64)) ∧ Below w.heap.size w w' := by
  obtain ⟨i0, hi0, hz0, hz1, hz2⟩ := info_parts info3
  have HR := Lib.hid h
  clear h
  have hown0 : (w.alloc (.cells #[] 3)).ownsRow w.heap.size 3 1 (.slice (some ⟨w.heap.size, 0, none⟩) 0 0) 0 [] := ⟨rfl, .inr ⟨_, 0, #[], rfl, Nat.le_refl _, World.alloc_heap_new w _, Nat.le_refl _, Nat.zero_le _, rfl, rfl⟩⟩
  have HO := Lib.hid hown0
  clear hown0
  have hnl : ∀ w, (binOp .eql 26 (.slice (some ad) n cp) (.slice none 0 0)).run Try.prog w = .ok (.bool false) w := fun w => by kernel_rfl
  go_enter Try.func32, Try.ntmps32
  go_wp2_with (at_builtin; refine wpList_append_any _ rfl (.tmp 5) (.tmp 6) 26 rfl w.heap.size 3 i0 (.int .i64 0) 1 8 Try.underlying26 hi0 hz0 hz1 hz2 rfl (by decide) (.slice (some ⟨w.heap.size, 0, none⟩) 0 0) _ _ rfl HO.out w.heap.size (some ad) n cp (zs.map (Value.int .i64)) rfl (HR.out.alloc (Nat.le_refl _) _) (by intro u hu; obtain ⟨z, _, rfl⟩ := List.mem_map.1 hu; rfl) (by unfold maxLen; omega) (by omega) (by simp) ?_; intro v1 w1 hown1 hg1 hat1)
  go_ret
  refine ⟨v1, rfl, by simpa using hown1, ?_⟩
  exact ((Below.refl _ w).alloc (Nat.le_refl _) _).grown hg1 (by simp) (fun j hj => by simp [Value.ownBlock] at hj; omega)

theorem steps_any {S M : Nat} {tv : Value} {σ : Sc} {w : World} (h : w.heap[S]? = some (.cells (scCells tv M σ) 71 (0, 0))) :
    Calls Try.prog 18 #[ptr S] w fun e w' => e = .returned (.int .i64 (σ.steps : Int)) ∧ w' = w := by
  obtain ⟨s0, s1, s2, s3, s4, -⟩ := sc_cell h
  clear h
  unfold ptr
  go_enter Try.func18, Try.ntmps18
  go_wp2
  go_ret
  exact ⟨rfl, rfl⟩

def deadP (σ : Sc) : List Nat := if (enabledP σ).length = 0 ∧ (sleepP σ).length = 0 then aliveP σ else []

set_option maxRecDepth 100000 in
set_option maxHeartbeats 1000000 in
theorem dead_any {C : Nat → Prop} {S : Nat} {Ts : List Nat} {σ : Sc} {w : World} (h : Rep C S Ts σ w) (hn : σ.steps < 4611686018427387904) :
    Calls Try.prog 20 #[ptr S] w fun e w' => ∃ v, e = .returned v ∧ w'.ownsRow w.heap.size 3 1 v (deadP σ).length (nums (deadP σ)) ∧ Below w.heap.size w w' := by
  have HEN := Lib.hid (enabled_any h hn)
  have HH := Lib.hid h
  clear h
  unfold ptr at *
  go_enter Try.func20, Try.ntmps20
  go_wp2_with fail
  refine HEN.out.mono ?_
  rintro e w1 ⟨v, rfl, hown, hbe⟩
  obtain ⟨A, cp, g, rfl, hA⟩ := own_shape hown
  clear hA hown
  by_cases he : (enabledP σ).length = 0
  · have e1 : decide (0 < (((enabledP σ).length : Nat) : Int)) = false := by rw [he]; rfl
    go_wp2_with fail
    refine (those_sleep (HH.out.below hbe)).mono ?_
    rintro e w2 ⟨v, rfl, hown, hbe2⟩
    obtain ⟨A2, cp2, g2, rfl, hA2⟩ := own_shape hown
    clear hA2 hown
    have hb2 : Below w.heap.size w w2 := hbe.trans (hbe2.mono hbe.size)
    by_cases hs : (sleepP σ).length = 0
    · have e2 : decide (0 < (((sleepP σ).length : Nat) : Int)) = false := by rw [hs]; rfl
      go_wp2_with fail
      refine (alive_any (HH.out.below hb2)).mono ?_
      rintro e w3 ⟨v, rfl, hown, hbe3⟩
      go_wp2
      go_ret
      refine ⟨v, rfl, ?_, hb2.trans (hbe3.mono hb2.size)⟩
      rw [show deadP σ = aliveP σ from if_pos ⟨he, hs⟩]
      exact World.ownsRow.mono hown hb2.size
    · have e2 : decide (0 < (((sleepP σ).length : Nat) : Int)) = true := by simp; omega
      go_wp2_with fail
      go_ret
      refine ⟨_, rfl, ?_, hb2⟩
      rw [show deadP σ = [] from if_neg (fun h => hs h.2)]
      exact ⟨rfl, .inl ⟨rfl, rfl⟩⟩
  · have e1 : decide (0 < (((enabledP σ).length : Nat) : Int)) = true := by simp; omega
    go_wp2_with fail
    go_ret
    refine ⟨_, rfl, ?_, hbe⟩
    rw [show deadP σ = [] from if_neg (fun h => he h.1)]
    exact ⟨rfl, .inl ⟨rfl, rfl⟩⟩

theorem own_held {w w' : World} {base e n size : Nat} {tv : Value} {xs : List Value} (h : w.ownsRow base e size tv n xs) (hk : ∀ k, tv.ownBlock = some k → w'.heap[k]? = w.heap[k]?) : w'.ownsRow base e size tv n xs := by
  rcases h.2 with ⟨rfl, h0⟩ | ⟨g, cap, cur, rfl, hb, hh, hr⟩
  · exact ⟨h.1, .inl ⟨rfl, h0⟩⟩
  · exact ⟨h.1, .inr ⟨g, cap, cur, rfl, hb, (hk g rfl).trans hh, hr⟩⟩
theorem own_below {w w' : World} {base e n size : Nat} {tv : Value} {xs : List Value} (h : w.ownsRow base e size tv n xs) (hb : Below w.heap.size w w') : w'.ownsRow base e size tv n xs :=
  own_held h (fun k hk => hb.block k (h.lt k hk).2)

/-- Where a run's picks step from one state of all to the next. -/
structure Picks (X : Type) (S : Nat) (Ts : X → List Nat) (sc : X → Sc) (R : X → (Nat → Prop) → World → Prop) (p : Nat → Int) (most : Nat) (V : Nat → X → Prop) (next : Int → X → X) (told : Int → X → Int × Int) : Prop where
  loc : ∀ x, Local (R x)
  shut : ∀ k x, V k x → (sc x).within = false ∧ (sc x).steps < 4611686018427387904
  pick : ∀ k x F w, k < most → V k x → 0 < (enabledP (sc x)).length → Full F S (Ts x) (sc x) (R x) w →
    V (k + 1) (next (p k) x) ∧ Calls Try.prog 29 #[ptr S, .int .i64 (p k)] w fun e w' => e = .returned (.tuple #[.int .i64 (told (p k) x).1, .int .i64 (told (p k) x).2]) ∧ ∃ F', Full F' S (Ts (next (p k) x)) (sc (next (p k) x)) (R (next (p k) x)) w' ∧ Owned F w F' w'

/-- What a run does: fuel is what is left of most. -/
def runs {X : Type} (sc : X → Sc) (next : Int → X → X) (p : Nat → Int) : Nat → Nat → X → Nat × X
  | 0, n, x => (n, x)
  | m + 1, n, x => if 0 < (enabledP (sc x)).length then runs sc next p m (n + 1) (next (p n) x) else (n, x)

def pth (zs : List Int) (n : Nat) : Int := if zs.length = 0 then 0 else zs.getD (n % zs.length) 0

set_option maxRecDepth 100000 in
set_option maxHeartbeats 4000000 in
theorem run_any {X : Type} {S : Nat} {Ts : X → List Nat} {sc : X → Sc} {R : X → (Nat → Prop) → World → Prop} {V : Nat → X → Prop} {next : Int → X → X} {told : Int → X → Int × Int} {zs : List Int} {most : Int} (P : Picks X S Ts sc R (pth zs) most.toNat V next told)
    {x : X} {F : Nat → Prop} {w : World} (hV : V 0 x) (h : Full F S (Ts x) (sc x) (R x) w) {ad : Addr} {n cp : Nat} (hz : Reads w w.heap.size 1 (some ad) n (zs.map (Value.int .i64))) (hzw : ∀ z ∈ zs, wfi z) (hn : n ≤ 1000000000)
    (hm1 : -9223372036854775808 ≤ most) (hm2 : most ≤ 9223372036854775807) :
    Calls Try.prog 16 #[ptr S, .slice (some ad) n cp, .int .i64 most] w fun e w' => e = .returned (.tuple #[.int .i64 ((runs sc next (pth zs) most.toNat 0 x).1 : Int), .int .i64 0]) ∧
      ∃ F', Full F' S (Ts (runs sc next (pth zs) most.toNat 0 x).2) (sc (runs sc next (pth zs) most.toNat 0 x).2) (R (runs sc next (pth zs) most.toNat 0 x).2) w' ∧ V (runs sc next (pth zs) most.toNat 0 x).1 (runs sc next (pth zs) most.toNat 0 x).2 ∧ Owned F w F' w' := by
  generalize hrr : runs sc next (pth zs) most.toNat 0 x = rr
  obtain ⟨C, D, hrep, hr, hd, hf⟩ := id h
  obtain ⟨⟨tv, M, g1, -⟩, -⟩ := id hrep
  obtain ⟨s0, s1, s2, s3, s4, sf⟩ := sc_cell g1
  rw [(P.shut 0 x hV).1] at s4
  have HP := Lib.hid P
  have HCL := Lib.hid (clone_any (cp := cp) hz hn)
  have HV := Lib.hid hV
  have HH := Lib.hid h
  have hzl : zs.length = n := by have := hz.1; simpa using this
  clear hrep hr hd hf g1 s0 s1 s2 s3 sf h hz hV P
  unfold ptr
  go_enter Try.func16, Try.ntmps16
  go_wp2_with fail
  refine HCL.out.mono ?_
  rintro e w1 ⟨v, rfl, hown, hbe⟩
  have hF1 : ∀ k, F k → k < w.heap.size := Full.size (HP.out.loc x) HH.out
  obtain ⟨A, cp1, g, rfl, hA⟩ := own_shape hown
  have HOW := Lib.hid hown
  have HH1 := Lib.hid (HH.out.below (HP.out.loc x) hbe)
  have HO1 := Lib.hid (Owned.below (F := F) hbe)
  have hFg : ∀ j, (Value.slice A n cp1).ownBlock = some j → ¬ F j := fun j hj hFj => by
    have := (hown.lt j hj).1; have := hF1 j hFj; omega
  clear hown s4
  go_wp2_with fail
  have hfin : ∀ (k : Nat) (y : X), runs sc next (pth zs) (most.toNat - k) k y = rr → (most.toNat ≤ k ∨ ¬ 0 < (enabledP (sc y)).length) → rr = (k, y) := fun k y h1 h2 => by
    cases hm : most.toNat - k with
    | zero => rw [hm] at h1; exact h1.symm
    | succ m =>
      rw [hm, runs, if_neg (by rcases h2 with h | h; omega; exact h)] at h1
      exact h1.symm
  have hstep : ∀ (k : Nat) (y : X), runs sc next (pth zs) (most.toNat - k) k y = rr → k < most.toNat → 0 < (enabledP (sc y)).length → runs sc next (pth zs) (most.toNat - (k + 1)) (k + 1) (next (pth zs k) y) = rr := fun k y h1 h2 h3 => by
    rw [show most.toNat - k = (most.toNat - (k + 1)) + 1 by omega, runs, if_pos h3] at h1
    exact h1
  have HFIN := Lib.hid hfin
  have HSTEP := Lib.hid hstep
  have HRR := Lib.hid hrr
  have HFG := Lib.hid hFg
  clear hfin hstep hrr hFg
  go_loopw [8] (fun i wr => ∃ (k : Nat) (y : X) (F' : Nat → Prop), i = .int .i64 k ∧ (k : Nat) ≤ most.toNat ∧ Hid (runs sc next (pth zs) (most.toNat - k) k y = rr) ∧ Hid (V k y) ∧ Hid (Full F' S (Ts y) (sc y) (R y) wr) ∧ Hid (Owned F w F' wr) ∧
    Hid (wr.ownsRow w.heap.size 3 1 (Value.slice A n cp1) n (List.map (Value.int IntKind.i64) zs)) ∧ Hid (∀ j, (Value.slice A n cp1).ownBlock = some j → ¬ F' j)) (fun i _ => most.toNat - (intOf i).toNat)
  case atStart => exact ⟨0, x, F, rfl, Nat.zero_le _, HRR, HV, HH1, HO1, HOW, HFG⟩
  case round =>
    obtain ⟨k, y, F', rfl, hk, E1, E2, E3, E4, E5, E6⟩ := hrel
    by_cases hlt : k < most.toNat
    · have hc1 : decide ((k : Int) < most) = true := by rw [decide_eq_true_iff]; omega
      have hkm : (k : Int) < most := by omega
      obtain ⟨C, D, hrep, hr, hd, hf⟩ := id E3.out
      have hen := Lib.hid (enabled_any hrep (HP.out.shut k y E2.out).2)
      have hFs : Hid (∀ k, F' k → k < wr.heap.size) := Lib.hid (Full.size (HP.out.loc y) E3.out)
      clear hrep hr hd hf
      go_wp2_with fail
      refine hen.out.mono ?_
      rintro e w2 ⟨v, rfl, hown, hbe2⟩
      obtain ⟨A2, cp2, g2, rfl, hA2⟩ := own_shape hown
      clear hA2 hown hen
      have E3' := Lib.hid (E3.out.below (HP.out.loc y) hbe2)
      have E4' := Lib.hid (E4.out.trans (Owned.below hbe2))
      have E5' := Lib.hid (own_below E5.out hbe2)
      clear E3 E4 E5
      by_cases hl : 0 < (enabledP (sc y)).length
      · have e1 : decide (0 < (((enabledP (sc y)).length : Nat) : Int)) = true := by simp; omega
        by_cases hn0 : n = 0
        · have e2 : decide (0 < (n : Int)) = false := by simp; omega
          have hp : pth zs k = 0 := by unfold pth; rw [if_pos (by omega)]
          subst hn0
          have hpk := HP.out.pick k y F' w2 hlt E2.out hl E3'.out
          have HPK := Lib.hid hpk
          clear hpk
          rw [hp] at HPK
          go_wp2_with fail
          refine HPK.out.2.mono ?_
          rintro e w3 ⟨rfl, F3, hful, hown3⟩
          have E7 := Lib.hid hful
          have E8 := Lib.hid (E4'.out.trans hown3)
          have E9 := Lib.hid (own_held E5'.out (fun j hj => hown3.1.block j (E5'.out.lt j hj).2 (E6.out j hj)))
          have E10 : Hid (∀ j, (Value.slice A 0 cp1).ownBlock = some j → ¬ F3 j) := Lib.hid (fun j hj h3 => by
            rcases hown3.2 j h3 with h | h
            · exact E6.out j hj h
            · have := (E5'.out.lt j hj).2; omega)
          clear hful hown3
          go_wp2
          go_roundw
          case rel =>
            refine ⟨k + 1, next 0 y, F3, by go_num, by omega, Lib.hid ?_, Lib.hid HPK.out.1, E7, E8, E9, E10⟩
            rw [← hp]; exact HSTEP.out k y E1.out hlt hl
          case measure => simp [intOf]; omega
        · have e2 : decide (0 < (n : Int)) = true := by simp; omega
          have hp : pth zs k = zs.getD (k % n) 0 := by unfold pth; rw [if_neg (by omega), hzl]
          have hkn : k % n < n := Nat.mod_lt _ (by omega)
          have hke : (k : Int) % (n : Int) = ((k % n : Nat) : Int) := by omega
          obtain ⟨j, hj⟩ : ∃ j, k % n = j := ⟨_, rfl⟩
          rw [hj] at hp hkn hke
          obtain ⟨p, hpv⟩ : ∃ p, pth zs k = p := ⟨_, rfl⟩
          have hzj : zs[j]? = some p := by rw [← hpv, hp, List.getD_eq_getElem?_getD, List.getElem?_eq_getElem (by omega)]; rfl
          have hpw := wfi_range (hzw p (List.mem_of_getElem? hzj))
          obtain ⟨rfl, hgl, hgb⟩ := hA (by omega)
          have hcell : w2.cell? ⟨g, j, none⟩ = some (.int .i64 p) := by
            rw [World.ownsRow.cellAt E5'.out j (by omega), List.getElem?_map, hzj]; rfl
          have hpk := HP.out.pick k y F' w2 hlt E2.out hl E3'.out
          rw [hpv] at hpk
          have HPK := Lib.hid hpk
          clear hpk
          have hne : ((n : Int) == 0) = false := by rw [beq_eq_false_iff_ne]; omega
          clear hA hn0
          go_wp2_with fail
          refine HPK.out.2.mono ?_
          rintro e w3 ⟨rfl, F3, hful, hown3⟩
          have E7 := Lib.hid hful
          have E8 := Lib.hid (E4'.out.trans hown3)
          have E9 := Lib.hid (own_held E5'.out (fun j hj => hown3.1.block j (E5'.out.lt j hj).2 (E6.out j hj)))
          have E10 : Hid (∀ j, (Value.slice (some ⟨g, 0, none⟩) n cp1).ownBlock = some j → ¬ F3 j) := Lib.hid (fun j hj h3 => by
            rcases hown3.2 j h3 with h | h
            · exact E6.out j hj h
            · have := (E5'.out.lt j hj).2; omega)
          clear hful hown3
          go_wp2
          go_roundw
          case rel =>
            refine ⟨k + 1, next p y, F3, by go_num, by omega, Lib.hid ?_, Lib.hid HPK.out.1, E7, E8, E9, E10⟩
            rw [← hpv]; exact HSTEP.out k y E1.out hlt hl
          case measure => simp [intOf]; omega
      · have e1 : decide (0 < (((enabledP (sc y)).length : Nat) : Int)) = false := by rw [decide_eq_false_iff_not]; omega
        go_wp2_with fail
        go_ret2
        have hr := HFIN.out k y E1.out (.inr hl)
        subst hr
        exact ⟨rfl, F', E3'.out, E2.out, E4'.out⟩
    · have hc1 : decide ((k : Int) < most) = false := by rw [decide_eq_false_iff_not]; omega
      go_wp2_with fail
      go_ret2
      have hr := HFIN.out k y E1.out (.inl (by omega))
      subst hr
      exact ⟨rfl, F', E3.out, E2.out, E4.out⟩
end Go.Proofs.Ytekgdakkkbnpiaa
