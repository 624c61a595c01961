/- SchedTurns' own pick: who is next, and what is left. No condition. -/
import Derived.Test.YtekgdakkkbnpiaaTurn
namespace Go.Proofs.Ytekgdakkkbnpiaa
open Go Go.RowKit

theorem fl_congr {p q : Nat → Bool} {k : Nat} (h : ∀ i, i < k → p i = q i) : fl p k = fl q k :=
  List.filter_congr (fun i hi => h i (List.mem_range.1 hi))
theorem fl_nodup (p : Nat → Bool) (k : Nat) : (fl p k).Nodup := List.nodup_range.filter _

def tkT (A B C : Nat) (kind : Int) (since order : Nat) : Tk := { name := ⟨#[116]⟩, f := 11, caps := #[ptr A, ptr B, ptr C], kind := kind, on := 0, since := since, order := order, failed := false }
def liveL (ends did : List Nat) (n : Nat) : List Nat := fl (fun i => decide (did.getD i 0 ≤ ends.getD i 0)) n

structure TI (n k a : Nat) (ends did : List Nat) (A G : Nat) (Bs Cs : List Nat) (σ : Sc) (m : Nat → Option Obj) : Prop where
  dl : did.length = n
  el : ends.length = n
  bl : Bs.length = k
  cl : Cs.length = k
  tl : σ.tks.length = k
  ee : ∀ e ∈ ends, e < 256
  tk : ∀ (i d e B C : Nat), did[i]? = some d → ends[i]? = some e → Bs[i]? = some B → Cs[i]? = some C → ∃ since order, σ.tks[i]? = some (tkT A B C (if e < d then 4 else 0) since order)
  mA : m A = some (.cells #[.slice (some ⟨G, 0, none⟩) n n] 26 (0, 0))
  mG : m G = some (cN did)
  mB : ∀ (i B : Nat), Bs[i]? = some B → m B = some (cI i) ∧ B ≠ G
  mC : ∀ (i C e : Nat), Cs[i]? = some C → ends[i]? = some e → m C = some (cI e) ∧ C ≠ G
  nA : A ≠ G
  shut : σ.within = false
  steps : σ.steps = a
  wishes : σ.wishes = a
  cap : σ.cap = 0
  le : ∀ (i d e : Nat), did[i]? = some d → ends[i]? = some e → d ≤ e + 1

section
variable {n a : Nat} {ends did : List Nat} {A G : Nat} {Bs Cs : List Nat} {σ : Sc} {m : Nat → Option Obj}
theorem TI.at_ (h : TI n n a ends did A G Bs Cs σ m) {i : Nat} (hi : i < n) : ∃ d e B C since order, did[i]? = some d ∧ ends[i]? = some e ∧ Bs[i]? = some B ∧ Cs[i]? = some C ∧ did.getD i 0 = d ∧ ends.getD i 0 = e ∧ σ.tks[i]? = some (tkT A B C (if e < d then 4 else 0) since order) := by
  have h1 : did[i]? = some (did[i]'(by rw [h.dl]; exact hi)) := List.getElem?_eq_getElem _
  have h2 : ends[i]? = some (ends[i]'(by rw [h.el]; exact hi)) := List.getElem?_eq_getElem _
  have h3 : Bs[i]? = some (Bs[i]'(by rw [h.bl]; exact hi)) := List.getElem?_eq_getElem _
  have h4 : Cs[i]? = some (Cs[i]'(by rw [h.cl]; exact hi)) := List.getElem?_eq_getElem _
  obtain ⟨s, o, ht⟩ := h.tk i _ _ _ _ h1 h2 h3 h4
  exact ⟨_, _, _, _, s, o, h1, h2, h3, h4, by rw [List.getD_eq_getElem?_getD, h1]; rfl, by rw [List.getD_eq_getElem?_getD, h2]; rfl, ht⟩
theorem TI.enabled (h : TI n n a ends did A G Bs Cs σ m) : enabledP σ = liveL ends did n := by
  unfold enabledP liveL
  rw [h.tl]
  refine fl_congr fun i hi => ?_
  obtain ⟨d, e, B, C, s, o, -, -, -, -, hd, he, ht⟩ := h.at_ hi
  rw [ht, hd, he]
  show mayP σ (tkT A B C (if e < d then 4 else 0) s o) = decide (d ≤ e)
  by_cases hed : e < d
  · simp [mayP, tkT, hed]
  · simp [mayP, tkT, hed]; omega
theorem TI.alive (h : TI n n a ends did A G Bs Cs σ m) : aliveP σ = liveL ends did n := by
  unfold aliveP liveL
  rw [h.tl]
  refine fl_congr fun i hi => ?_
  obtain ⟨d, e, B, C, s, o, -, -, -, -, hd, he, ht⟩ := h.at_ hi
  rw [ht, hd, he]
  show (!((tkT A B C (if e < d then 4 else 0) s o).kind == 4)) = decide (d ≤ e)
  by_cases hed : e < d
  · simp [tkT, hed]
  · simp [tkT, hed]; omega

/-- Those who live behind x's step. -/
theorem live_next {x : Nat} (hx : x < n) (hl : did.length = n) : liveL ends (did.set x (did.getD x 0 + 1)) n = if did.getD x 0 + 1 ≤ ends.getD x 0 then liveL ends did n else (liveL ends did n).filter (fun i => i != x) := by
  have hset : ∀ i, (did.set x (did.getD x 0 + 1)).getD i 0 = if i = x then did.getD x 0 + 1 else did.getD i 0 := fun i => by
    rw [List.getD_eq_getElem?_getD, List.getElem?_set]
    by_cases e : x = i
    · subst e; rw [if_pos rfl, if_pos (by omega), if_pos rfl]; rfl
    · rw [if_neg e, if_neg (Ne.symm e), ← List.getD_eq_getElem?_getD]
  unfold liveL
  split
  · rename_i h1
    refine fl_congr fun i hi => ?_
    rw [hset]
    by_cases e : i = x
    · subst e; rw [if_pos rfl]; exact decide_eq_decide.2 (by omega)
    · rw [if_neg e]
  · rename_i h1
    unfold fl
    rw [List.filter_filter]
    refine List.filter_congr fun i hi => ?_
    rw [hset]
    by_cases e : i = x
    · subst e; rw [if_pos rfl, decide_eq_false (by omega)]; simp
    · rw [if_neg e]; simp [e]

theorem turn_pick {F : Nat → Prop} {S : Nat} {Ts : List Nat} {w : World} (h : TI n n a ends did A G Bs Cs σ m) (hf : Full F S Ts σ (Has m) w) (hne : 0 < (liveL ends did n).length) (ha : a < 20000) :
    ∃ x σ', x < n ∧ (liveL ends did n)[a % (liveL ends did n).length]? = some x ∧ TI n n (a + 1) ends (did.set x (did.getD x 0 + 1)) A G Bs Cs σ' (mset m G (cN (did.set x (did.getD x 0 + 1)))) ∧
      Calls Try.prog 29 #[ptr S, .int .i64 (a : Int)] w fun e w' => e = .returned (.tuple #[.int .i64 (x : Int), .int .i64 0]) ∧
        ∃ F', Full F' S Ts σ' (Has (mset m G (cN (did.set x (did.getD x 0 + 1))))) w' ∧ Owned F w F' w' := by
  have hen := h.enabled
  rw [← hen] at hne
  have hslot : slot σ (a : Int) = a % (liveL ends did n).length := by
    unfold slot
    rw [hen, if_neg (by omega)]
    omega
  have hget := chosen_get σ (a : Int) hne
  rw [hslot, hen] at hget
  obtain ⟨x, hx⟩ : ∃ x, chosen σ (a : Int) = x := ⟨_, rfl⟩
  rw [hx] at hget
  have hxn : x < n := by have := (fl_mem (k := n) hget).1; exact this
  obtain ⟨d, e, B, C, s, o, hd, he, hB, hC, hdd, hee, ht⟩ := h.at_ hxn
  have hlive : d ≤ e := by
    have := (fl_mem (k := n) hget).2
    rw [hdd, hee] at this; simpa using this
  rw [if_neg (by omega)] at ht
  have he256 := h.ee e (List.mem_of_getElem? he)
  obtain ⟨r, hr⟩ : ∃ r : Int, (if e < d + 1 then 4 else 0) = r := ⟨_, rfl⟩
  have hr2 : r = 4 ∨ r = 0 := by split at hr <;> omega
  have hwk : wishK r = r := by unfold wishK; rw [if_neg (by omega)]
  have hp := pick_plain (i := (a : Int)) (Has.local_ m) (Has.local_ (mset m G (cN (did.set x (d + 1))))) hf h.shut hne hx.symm ht r 0 (by omega) (by omega) (by rw [h.steps]; omega) (by rw [h.wishes]; omega) (by rw [h.cap]; omega)
    (fun F W τ hF => by
      have := step11 hF h.mA (h.mB x B hB).1 (h.mC x C e hC he).1 h.mG h.dl hd (by omega) (by omega) h.nA (h.mB x B hB).2 (h.mC x C e hC he).2
      rw [hr] at this; exact this) (wfi_nat 0 (by omega))
  refine ⟨x, _, hxn, hget, ?_, by rw [hdd]; exact hp⟩
  rw [hdd]
  have htl : (takeLock σ x (tkT A B C 0 s o)) = σ := by unfold takeLock; rw [if_neg (by simp [tkT])]
  have hσ : finish (cleared σ x (tkT A B C 0 s o)) x (bare (tkT A B C 0 s o)) r 0 = { σ with steps := a + 1, wishes := a + 1, tks := σ.tks.set x (tkT A B C r (a + 1) (a + 1)) } := by
    unfold finish cleared
    rw [htl, hwk]
    simp only [List.set_set, h.steps, h.wishes]
    have : wishO r 0 = 0 := by unfold wishO; split <;> rfl
    rw [this]; rfl
  rw [hσ]
  refine ⟨by rw [List.length_set]; exact h.dl, h.el, h.bl, h.cl, by simp [h.tl], h.ee, ?_, ?_, mset_same _ _ _, fun i B hB => ?_, fun i C e hC he => ?_, h.nA, h.shut, rfl, rfl, h.cap, ?_⟩
  · intro i d' e' B' C' h1 h2 h3 h4
    by_cases e1 : x = i
    · subst e1
      have : d' = d + 1 := by rw [List.getElem?_set, if_pos rfl, if_pos (by rw [h.dl]; exact hxn)] at h1; exact (Option.some.inj h1).symm
      obtain rfl : e' = e := Option.some.inj (h2.symm.trans he)
      obtain rfl : B' = B := Option.some.inj (h3.symm.trans hB)
      obtain rfl : C' = C := Option.some.inj (h4.symm.trans hC)
      subst this
      refine ⟨a + 1, a + 1, ?_⟩
      show (σ.tks.set x _)[x]? = _
      rw [List.getElem?_set, if_pos rfl, if_pos (by rw [h.tl]; exact hxn), hr]
    · rw [List.getElem?_set, if_neg e1] at h1
      obtain ⟨s', o', ht'⟩ := h.tk i d' e' B' C' h1 h2 h3 h4
      refine ⟨s', o', ?_⟩
      show (σ.tks.set x _)[i]? = _
      rw [List.getElem?_set, if_neg e1]; exact ht'
  · exact (mset_other _ _ h.nA).trans h.mA
  · exact ⟨(mset_other _ _ (h.mB i B hB).2).trans (h.mB i B hB).1, (h.mB i B hB).2⟩
  · exact ⟨(mset_other _ _ (h.mC i C e hC he).2).trans (h.mC i C e hC he).1, (h.mC i C e hC he).2⟩
  · intro i d' e' h1 h2
    by_cases e1 : x = i
    · subst e1
      have : d' = d + 1 := by rw [List.getElem?_set, if_pos rfl, if_pos (by rw [h.dl]; exact hxn)] at h1; exact (Option.some.inj h1).symm
      obtain rfl : e' = e := Option.some.inj (h2.symm.trans he)
      omega
    · rw [List.getElem?_set, if_neg e1] at h1
      exact h.le i d' e' h1 h2

/-- A further task. -/
theorem TI.more {k z e : Nat} (h : TI n k 0 ends did A G Bs Cs σ m) (hz : ∀ j o, m j = some o → j < z) (he : ends[k]? = some e) (hd : did[k]? = some 0) :
    TI n (k + 1) 0 ends did A G (Bs ++ [z + 1]) (Cs ++ [z]) (spawned σ ⟨#[116]⟩ 11 #[ptr A, ptr (z + 1), ptr z]) (mset (mset m z (cI e)) (z + 1) (cI k)) := by
  have hGz := hz _ _ h.mG
  have hAz := hz _ _ h.mA
  refine ⟨h.dl, h.el, by simp [h.bl], by simp [h.cl], by simp [spawned, h.tl], h.ee, ?_, ?_, ?_, ?_, ?_, h.nA, h.shut, h.steps, h.wishes, h.cap, h.le⟩
  · intro i d e' B C h1 h2 h3 h4
    by_cases hi : i < k
    · rw [List.getElem?_append_left (by rw [h.bl]; exact hi)] at h3
      rw [List.getElem?_append_left (by rw [h.cl]; exact hi)] at h4
      obtain ⟨s, o, ht⟩ := h.tk i d e' B C h1 h2 h3 h4
      refine ⟨s, o, ?_⟩
      show (σ.tks ++ _)[i]? = _
      rw [List.getElem?_append_left (by rw [h.tl]; exact hi)]; exact ht
    · have hi2 : i = k := by have := (List.getElem?_eq_some_iff.1 h3).1; rw [List.length_append, h.bl] at this; simp at this; omega
      subst hi2
      have e1 : B = z + 1 := by rw [List.getElem?_append_right (by rw [h.bl]; exact Nat.le_refl _), h.bl] at h3; simp at h3; exact h3.symm
      have e2 : C = z := by rw [List.getElem?_append_right (by rw [h.cl]; exact Nat.le_refl _), h.cl] at h4; simp at h4; exact h4.symm
      obtain rfl : d = 0 := Option.some.inj (h1.symm.trans hd)
      subst e1 e2
      refine ⟨0, 0, ?_⟩
      show (σ.tks ++ _)[i]? = _
      rw [List.getElem?_append_right (by rw [h.tl]; exact Nat.le_refl _), h.tl]
      simp [tkT]
  · exact (mset_other _ _ (by omega)).trans ((mset_other _ _ (by omega)).trans h.mA)
  · exact (mset_other _ _ (by omega)).trans ((mset_other _ _ (by omega)).trans h.mG)
  · intro i B hB
    by_cases hi : i < k
    · rw [List.getElem?_append_left (by rw [h.bl]; exact hi)] at hB
      obtain ⟨h1, h2⟩ := h.mB i B hB
      have := hz _ _ h1
      exact ⟨(mset_other _ _ (by omega)).trans ((mset_other _ _ (by omega)).trans h1), h2⟩
    · have hi2 : i = k := by have := (List.getElem?_eq_some_iff.1 hB).1; rw [List.length_append, h.bl] at this; simp at this; omega
      subst hi2
      have e1 : B = z + 1 := by rw [List.getElem?_append_right (by rw [h.bl]; exact Nat.le_refl _), h.bl] at hB; simp at hB; exact hB.symm
      subst e1
      exact ⟨mset_same _ _ _, by omega⟩
  · intro i C e' hC he'
    by_cases hi : i < k
    · rw [List.getElem?_append_left (by rw [h.cl]; exact hi)] at hC
      obtain ⟨h1, h2⟩ := h.mC i C e' hC he'
      have := hz _ _ h1
      exact ⟨(mset_other _ _ (by omega)).trans ((mset_other _ _ (by omega)).trans h1), h2⟩
    · have hi2 : i = k := by have := (List.getElem?_eq_some_iff.1 hC).1; rw [List.length_append, h.cl] at this; simp at this; omega
      subst hi2
      have e2 : C = z := by rw [List.getElem?_append_right (by rw [h.cl]; exact Nat.le_refl _), h.cl] at hC; simp at hC; exact hC.symm
      subst e2
      obtain rfl : e' = e := Option.some.inj (he'.symm.trans he)
      exact ⟨(mset_other _ _ (by omega)).trans (mset_same _ _ _), by omega⟩
end
end Go.Proofs.Ytekgdakkkbnpiaa
