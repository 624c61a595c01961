/- Regions whose order is drawn, over abstract values. No condition. -/
import Derived.Test.YtbfejlmamncemaaSkF
import Derived.Orders
namespace Go.Proofs.Ytbfejlmamncemaa.Sk
open Go Go.RowKit

def restr (a : Fr) (ts : List Nat) : Fr := ts.map fun t => (t, a.get t)
theorem restr_get (a : Fr) (t : Nat) : ∀ ts : List Nat, (restr a ts).get t = if t ∈ ts then a.get t else .junk := by
  intro ts
  induction ts with
  | nil => rfl
  | cons u ts ih =>
    simp only [restr, List.map_cons, Fr.get]
    by_cases e : u = t
    · subst e; rw [Nat.beq_refl]; simp
    · rw [nbeq_ne e]
      have : (Fr.get (ts.map fun t => (t, a.get t)) t) = (restr a ts).get t := rfl
      simp only [this, ih, List.mem_cons]
      by_cases h : t ∈ ts
      · rw [if_pos h, if_pos (.inr h)]
      · rw [if_neg h, if_neg (by rintro (h' | h'); exact e h'.symm; exact h h')]

/-- An operation that yields this value and may leave memory behind it, but turns nothing. -/
def QW (P : Program) (o : Oper) (a : Fr) (σ : List Res) (d : Dat) : Prop := ∀ F w (ca : Act), Inv F σ w → VL F w a ca.tmps →
  ∀ (Q : Exit → Act → World → Prop) (K : Act → World → Prop), (∀ cv w' F', Ext F σ w F' σ w' → Inv F' σ w' → V F' w' d cv → K (ca.put o.dst cv) w') → o.wp P ca w K Q

section
variable {P : Program} {a : Fr} {σ : List Res} {o : Oper}
theorem QOp.qw {d : Dat} (h : QOp P o a σ d) : QW P o a σ d := by
  intro F w ca hi hv Q K hK
  obtain ⟨cv, h1, h2⟩ := h F w ca hi hv
  unfold Oper.wp
  rw [h2 w (Stay.refl _ _ _), Oper.upon_value]
  exact hK cv w F (Ext.refl _ _ _) hi h1

theorem qw_frame {d : Dat} {r : Res} (h : QW P o a σ d) : QW P o a (r :: σ) d := by
  intro F w ca hi hv Q K hK
  have p : (r :: σ).Perm (σ ++ [r]) := (List.perm_append_singleton r σ).symm
  refine h F w ca (hi.sub (List.sublist_cons_self ..)) hv Q K fun cv w' F' x i v => ?_
  obtain ⟨i2, x2⟩ := Inv.frame (hi.perm p) x i
  exact hK cv w' F' (x2.perm p.symm p.symm) (i2.perm p.symm) v

/-- a call in such a region -/
theorem qw_call {x : Operand} {xs : Array Operand} {ats : Array TypeId} {f : FuncId} {first cap : Array Value} {args args' : List Dat} {d : Dat} {σ1 σ1' σ2 : List Res}
    (hc : ACalls P f args' σ1' (RV d σ1')) (ho : o.op = .call { callee := .value x, args := xs, argTypes := ats }) (hx : ev a x = .raw (.func (.func f) first cap)) (ha : first.toList.map Dat.raw ++ xs.toList.map (ev a) ++ cap.toList.map Dat.raw = args) (hs : SubL args args')
    (p : σ.Perm (σ1 ++ σ2)) (hσ : ResSubL σ1 σ1') (hσ' : ResSubL σ1' σ1) : QW P o a σ d := by
  intro F w ca h3 h4 Q K hK
  obtain ⟨⟨fn, hf, hnm, hbd⟩, _⟩ := id hc
  have hfr := (hc.frame (σ := σ1' ++ σ2) (σ₂ := σ2) (.refl _)).2 F w (first.toList ++ xs.toList.map ca.eval ++ cap.toList) ((hσ.append (.refl σ2)).inv (h3.perm p)) (hs.args (by rw [← ha]; exact vargs_of h4 first xs cap))
  have hrun : (execOp ca.eval o).run P w = .ok (.enter f (first.toList ++ xs.toList.map ca.eval ++ cap.toList).toArray) w := by
    have e : (first.toList ++ xs.toList.map ca.eval ++ cap.toList).toArray = first ++ xs.map ca.eval ++ cap := by
      apply Array.toList_inj.1; simp
    rw [e]
    simp [execOp, ho, resolve, ev_raw h4 hx, Deferred.ofValue, invoke, callFunc, hf, hnm, hbd]
    rw [if_neg (by simpa using hnm), if_neg (by intro e; rw [e] at hbd; cases hbd)]
  unfold Oper.wp
  rw [hrun, Oper.upon_enter]
  refine Calls.mono hfr fun e w' => ?_
  rintro ⟨F', σ', o', hx', hi', ho', τ, rfl, hR⟩
  obtain ⟨hR1, rfl⟩ := hR
  subst hR1
  have hsub : ResSubL (τ ++ σ2) (σ1 ++ σ2) := hσ'.append (.refl _)
  have hext : Ext F σ w F' σ w' := (((Ext.refl F σ w).perm (.refl _) p |>.trans ((hσ.append (.refl σ2)).ext F w)).trans hx').trans ((hsub.ext F' w').trans ((Ext.refl F' _ w').perm (.refl _) p.symm))
  cases e with
  | returned v => exact hK v w' F' hext ((hsub.inv hi').perm p.symm) ho'
  | panicked c => exact ho'.elim
  | outgrown => exact ho'.elim
theorem qw_call0 {x : Operand} {xs : Array Operand} {ats : Array TypeId} {f : FuncId} {first cap : Array Value} {args args' : List Dat} {d : Dat}
    (hc : ACalls P f args' [] (RV d [])) (ho : o.op = .call { callee := .value x, args := xs, argTypes := ats }) (hx : ev a x = .raw (.func (.func f) first cap)) (ha : first.toList.map Dat.raw ++ xs.toList.map (ev a) ++ cap.toList.map Dat.raw = args) (hs : SubL args args') : QW P o a σ d :=
  qw_call (σ1 := []) (σ2 := σ) hc ho hx ha hs (.refl _) .nil .nil
theorem qw_call1 {x : Operand} {xs : Array Operand} {ats : Array TypeId} {f : FuncId} {first cap : Array Value} {args args' : List Dat} {d : Dat} {r r' : Res} (m : Nat)
    (hc : ACalls P f args' [r'] (RV d [r'])) (ho : o.op = .call { callee := .value x, args := xs, argTypes := ats }) (hx : ev a x = .raw (.func (.func f) first cap)) (ha : first.toList.map Dat.raw ++ xs.toList.map (ev a) ++ cap.toList.map Dat.raw = args) (hs : SubL args args')
    (hm : σ[m]? = some r) (hr : ResSub r r') (hr' : ResSub r' r) : QW P o a σ d :=
  qw_call hc ho hx ha hs (perm_erase hm) (.cons hr .nil) (.cons hr' .nil)

/-- an operation, with its guard -/
def DOk (P : Program) (ops : Array Oper) (σ : List Res) (o : Oper) (a : Fr) (d : Dat) : Prop :=
  (agd ops (restr a (o.looksAt ops)) o = some true ∧ QW P o (restr a (o.looksAt ops)) σ d) ∨ (agd ops (restr a (o.looksAt ops)) o = some false ∧ d = .raw undef)

def dput (t : Option Nat) (d : Dat) (a : Fr) : Fr := match t with | some t => (t, d) :: a | none => a
theorem dput_get (x : Option Nat) (d : Dat) (a : Fr) (t : Nat) : (dput x d a).get t = if x = some t then d else a.get t := by
  cases x with
  | none => simp [dput]
  | some u =>
    simp only [dput, Fr.get]
    by_cases e : u = t
    · subst e; rw [Nat.beq_refl]; simp
    · rw [nbeq_ne e, if_neg (by simpa using e)]

/-- the operations in the order of the text -/
inductive DRun (P : Program) (ops : Array Oper) (σ : List Res) : List Oper → Fr → List Dat → Fr → Prop
  | nil (a : Fr) : DRun P ops σ [] a [] a
  | cons {o : Oper} {rest : List Oper} {a a' : Fr} {d : Dat} {ds : List Dat} (h : DOk P ops σ o a d) (t : DRun P ops σ rest (dput o.dst d a) ds a') : DRun P ops σ (o :: rest) a (d :: ds) a'

def dstAt (l : List Oper) (i : Nat) : Option Nat := (l[i]?).bind (·.dst)

theorem DRun.at {ops : Array Oper} {l : List Oper} {a a' : Fr} {ds : List Dat} (h : DRun P ops σ l a ds a') :
    (∀ i o, l[i]? = some o → ∃ ai d, ds[i]? = some d ∧ DOk P ops σ o ai d ∧ ∀ t, (∃ j, j < i ∧ dstAt l j = some t ∧ ds[j]? = some (ai.get t)) ∨ ((∀ j, j < i → dstAt l j ≠ some t) ∧ ai.get t = a.get t)) ∧
    (∀ t, (∃ j, j < l.length ∧ dstAt l j = some t ∧ ds[j]? = some (a'.get t)) ∨ ((∀ j, j < l.length → dstAt l j ≠ some t) ∧ a'.get t = a.get t)) := by
  induction h with
  | nil a => exact ⟨fun i o h => by simp at h, fun t => .inr ⟨fun j h => by simp at h, rfl⟩⟩
  | @cons o rest a a' d ds h t ih =>
    obtain ⟨ih1, ih2⟩ := ih
    have hs : ∀ j, dstAt (o :: rest) (j + 1) = dstAt rest j := fun j => by simp [dstAt]
    have h0 : dstAt (o :: rest) 0 = o.dst := by simp [dstAt]
    -- what the frame behind the first op says, as the frame ahead of it
    have step : ∀ (k : Nat) (x : Dat) (t : Nat), ((∃ j, j < k ∧ dstAt rest j = some t ∧ ds[j]? = some x) ∨ ((∀ j, j < k → dstAt rest j ≠ some t) ∧ x = (dput o.dst d a).get t)) →
        (∃ j, j < k + 1 ∧ dstAt (o :: rest) j = some t ∧ (d :: ds)[j]? = some x) ∨ ((∀ j, j < k + 1 → dstAt (o :: rest) j ≠ some t) ∧ x = a.get t) := by
      intro k x t h
      rcases h with ⟨j, h1, h2, h3⟩ | ⟨h1, h2⟩
      · exact .inl ⟨j + 1, by omega, by rw [hs]; exact h2, h3⟩
      · rw [dput_get] at h2
        by_cases e : o.dst = some t
        · rw [if_pos e] at h2
          exact .inl ⟨0, by omega, by rw [h0]; exact e, by rw [h2]; rfl⟩
        · rw [if_neg e] at h2
          refine .inr ⟨fun j hj => ?_, h2⟩
          cases j with
          | zero => rw [h0]; exact e
          | succ j => rw [hs]; exact h1 j (by omega)
    refine ⟨fun i o' hi => ?_, fun t => ?_⟩
    · cases i with
      | zero =>
        simp only [List.getElem?_cons_zero, Option.some.injEq] at hi
        subst hi
        exact ⟨a, d, rfl, h, fun t => .inr ⟨fun j hj => by omega, rfl⟩⟩
      | succ i =>
        obtain ⟨ai, d', g1, g2, g3⟩ := ih1 i o' (by simpa using hi)
        exact ⟨ai, d', g1, g2, fun t => step i _ t (g3 t)⟩
    · have := step rest.length (a'.get t) t (ih2 t)
      simpa using this

/-! ### what is asked of the region, as a Bool -/
def bound (o : Oper) (i : Nat) : Bool := o.after.any fun e => Region.binds .any e && e.on == i
def drawB (l : List Oper) (N : Nat) (al : Bool) : Bool :=
  (List.range l.length).all fun j => match l[j]? with
    | none => true
    | some oj => (oj.after.all fun e => !Region.binds .any e || Nat.blt e.on j) && (List.range j).all fun i => match l[i]? with
      | none => true
      | some oi =>
        if j < N then
          (match oi.dst with | some t => !(oj.looksAt l.toArray).contains t || bound oj i | none => true) && (match oj.dst with | some t => !(oi.looksAt l.toArray).contains t || bound oj i | none => true) && (match oi.dst with | some t => oj.dst != some t | none => true)
        else if al && j == N then (match oj.dst with | some t => !(oi.looksAt l.toArray).contains t && oi.dst != some t | none => true)
        else bound oj i

theorem bound_spec {o : Oper} {i : Nat} (h : bound o i = true) : ∃ e, e ∈ o.after ∧ Region.binds .any e = true ∧ e.on = i := by
  unfold bound at h
  rw [Array.any_eq_true'] at h
  obtain ⟨e, h1, h2⟩ := h
  rw [Bool.and_eq_true, beq_iff_eq] at h2
  exact ⟨e, h1, h2.1, h2.2⟩

theorem drawB_spec {l : List Oper} {N : Nat} {al : Bool} (h : drawB l N al = true) {j : Nat} {oj : Oper} (hj : l[j]? = some oj) :
    (∀ e, e ∈ oj.after → Region.binds .any e = true → e.on < j) ∧ ∀ i oi, i < j → l[i]? = some oi →
      (j < N → (∀ t, oi.dst = some t → t ∈ oj.looksAt l.toArray → bound oj i = true) ∧ (∀ t, oj.dst = some t → t ∈ oi.looksAt l.toArray → bound oj i = true) ∧ (∀ t, oi.dst = some t → oj.dst ≠ some t)) ∧
      (al = true → j = N → ∀ t, oj.dst = some t → t ∉ oi.looksAt l.toArray ∧ oi.dst ≠ some t) ∧ (¬ j < N → ¬ (al = true ∧ j = N) → bound oj i = true) := by
  have hlt : j < l.length := (List.getElem?_eq_some_iff.1 hj).1
  unfold drawB at h
  rw [List.all_eq_true] at h
  have h1 := h j (List.mem_range.2 hlt)
  rw [hj] at h1
  simp only [Bool.and_eq_true] at h1
  obtain ⟨h2, h3⟩ := h1
  refine ⟨fun e he hb => ?_, fun i oi hi hoi => ?_⟩
  · rw [Array.all_eq_true'] at h2
    have := h2 e he
    simpa [hb] using this
  · rw [List.all_eq_true] at h3
    have h4 := h3 i (List.mem_range.2 hi)
    rw [hoi] at h4
    simp only at h4
    refine ⟨fun hN => ?_, fun ha hN t ht => ?_, fun hN ha => ?_⟩
    · rw [if_pos hN] at h4
      simp only [Bool.and_eq_true] at h4
      obtain ⟨⟨g1, g2⟩, g3⟩ := h4
      refine ⟨fun t ht hm => ?_, fun t ht hm => ?_, fun t ht => ?_⟩
      · rw [ht] at g1; simpa [hm] using g1
      · rw [ht] at g2; simpa [hm] using g2
      · rw [ht] at g3; simpa using g3
    · rw [if_neg (by omega), if_pos (by simp [ha, hN]), ht] at h4
      simpa using h4
    · rw [if_neg hN, if_neg (by simpa using ha)] at h4
      exact h4

theorem agd_congr {ops : Array Oper} {a a' : Fr} {o : Oper} (h : ∀ t, t ∈ o.looksAt ops → a.get t = a'.get t) : agd ops a o = agd ops a' o := by
  unfold agd
  cases hg : o.guard with
  | none => rfl
  | some jb =>
    obtain ⟨j, b⟩ := jb
    simp only
    cases ht : (ops[j]?).bind (·.dst) with
    | none => rfl
    | some t =>
      simp only
      rw [h t (by unfold Oper.looksAt; rw [hg]; simp [ht])]

def setB (listed : Array Bool) (i : Nat) : Array Bool := listed.setIfInBounds i true
theorem setB_get {listed : Array Bool} {i j : Nat} (hi : i < listed.size) : (setB listed i).getD j false = if i = j then true else listed.getD j false := by
  unfold setB
  by_cases e : i = j
  · subst e; simp [hi]
  · rw [if_neg e, getD_set_ne false e]
theorem getD_eq {listed : Array Bool} {j : Nat} (h : j < listed.size) : listed.getD j true = listed.getD j false := by simp [h]

/-- where one is, in such a region: which operations have come up, and what the frame holds -/
structure DSt (P : Program) (n : Nat) (ds : List Deferred) (l : List Oper) (N : Nat) (al : Bool) (a : Fr) (D : Nat → Dat) (T : TypeId) (zs : List Dat) (F0 : Nat → Nat → Prop) (σ : List Res) (w0 : World) (listed : Array Bool) (ca : Act) (w : World) : Prop where
  defers : ca.defers = ds
  size : ca.tmps.size = n
  lsize : listed.size = l.length
  closed : ∀ j oj, l[j]? = some oj → listed.getD j false = true → ∀ e, e ∈ oj.after → Region.binds .any e = true → listed.getD e.on false = true
  tail : ∀ j, N + (if al then 1 else 0) ≤ j → listed.getD j false = false
  mem : ∃ F' b, Ext F0 σ w0 F' (if al = true ∧ listed.getD N false = true then .box ((dstAt l N).getD 0) b T zs :: σ else σ) w ∧ Inv F' (if al = true ∧ listed.getD N false = true then .box ((dstAt l N).getD 0) b T zs :: σ else σ) w ∧
    (∀ i, i < N → listed.getD i false = true → ∀ t, dstAt l i = some t → V F' w (D i) (ca.tmps.getD t undef)) ∧
    (al = true → listed.getD N false = true → ∀ t, dstAt l N = some t → V F' w (.ref t b 0) (ca.tmps.getD t undef)) ∧
    ∀ t, (∀ i, i < N + (if al then 1 else 0) → listed.getD i false = true → dstAt l i ≠ some t) → V F' w (a.get t) (ca.tmps.getD t undef)

def cnt (m : Nat) (listed : Array Bool) : Nat := (List.range m).countP fun j => !listed.getD j false
theorem countP_lt {p q : Nat → Bool} (h : ∀ j, q j = true → p j = true) {i : Nat} (hp : p i = true) (hq : q i = false) : ∀ m, i < m → (List.range m).countP q < (List.range m).countP p := by
  intro m
  induction m with
  | zero => intro h; omega
  | succ m ih =>
    intro hi
    rw [List.range_succ, List.countP_append, List.countP_append]
    have hle : (List.range m).countP q ≤ (List.range m).countP p := List.countP_mono_left fun x _ => h x
    by_cases e : i = m
    · subst e
      simp [hp, hq]; omega
    · have := ih (by omega)
      have : [m].countP q ≤ [m].countP p := List.countP_mono_left fun x _ => h x
      omega
theorem cnt_set {m i : Nat} {listed : Array Bool} (hs : listed.size = m) (hi : i < m) (h : listed.getD i false = false) : cnt m (setB listed i) < cnt m listed := by
  refine countP_lt (i := i) (fun j hj => ?_) (by simp [h]) ?_ m hi
  · rw [setB_get (by omega)] at hj
    split at hj
    · cases hj
    · exact hj
  · rw [setB_get (by omega)]; simp
theorem cnt_pos {m i : Nat} {listed : Array Bool} (hi : i < m) (h : listed.getD i false = false) : 0 < cnt m listed := by
  unfold cnt
  rw [List.countP_pos_iff]
  exact ⟨i, List.mem_range.2 hi, by simp [h]⟩

theorem ready_iff {l : List Oper} {listed : Array Bool} (hs : listed.size = l.length) {i : Nat} : i ∈ Region.ready .any l.toArray listed ↔ listed.getD i false = false ∧ ∃ o, l[i]? = some o ∧ ∀ e ∈ o.after, Region.binds .any e = true → listed.getD e.on false = true := by
  rw [mem_ready]
  constructor
  · rintro ⟨h1, o, h2, h3⟩
    have h2' : l[i]? = some o := by simpa using h2
    have hlt : i < l.length := (List.getElem?_eq_some_iff.1 h2').1
    exact ⟨by rw [← getD_eq (by omega)]; exact h1, o, h2', h3⟩
  · rintro ⟨h1, o, h2, h3⟩
    have hlt : i < l.length := (List.getElem?_eq_some_iff.1 h2).1
    exact ⟨by rw [getD_eq (by omega)]; exact h1, o, by simpa using h2, h3⟩

/-- what comes behind all others, in order -/
theorem wpAny_tail {l : List Oper} {N : Nat} {al : Bool} (hchk : drawB l N al = true) {Q : Exit → Act → World → Prop} : ∀ (m k : Nat) (listed : Array Bool) (ca : Act) (w : World) (fuel : Nat), l.length - k = m → N + (if al then 1 else 0) ≤ k → k ≤ l.length → listed.size = l.length →
    (∀ j, j < k → listed.getD j false = true) → (∀ j, k ≤ j → listed.getD j false = false) → cnt l.length listed ≤ fuel → wpList P l.toArray Q (l.drop k) ca w → wpAny P .any l.toArray Q fuel listed ca w := by
  intro m
  induction m with
  | zero =>
    intro k listed ca w fuel hm hNk hk hs h1 h2 hf hw
    rw [List.drop_of_length_le (by omega)] at hw
    have hr : Region.ready .any l.toArray listed = [] := by
      apply List.eq_nil_iff_forall_not_mem.2
      intro i hi
      obtain ⟨g1, o, g2, _⟩ := (ready_iff hs).1 hi
      have hlt : i < l.length := (List.getElem?_eq_some_iff.1 g2).1
      rw [h1 i (by omega)] at g1; cases g1
    cases fuel with
    | zero => exact ⟨hr, hw⟩
    | succ fuel => exact ⟨fun _ => hw, by rw [hr]; simp⟩
  | succ m ih =>
    intro k listed ca w fuel hm hNk hk hs h1 h2 hf hw
    have hlt : k < l.length := by omega
    have hok : l[k]? = some l[k] := List.getElem?_eq_getElem hlt
    have hun := h2 k (Nat.le_refl _)
    have hpos := cnt_pos hlt hun
    have hkr : k ∈ Region.ready .any l.toArray listed := (ready_iff hs).2 ⟨hun, _, hok, fun e he hb => h1 _ ((drawB_spec hchk hok).1 e he hb)⟩
    cases fuel with
    | zero => omega
    | succ fuel =>
      refine ⟨(fun h => by rw [h] at hkr; cases hkr), fun i hi => ?_⟩
      obtain ⟨g1, o, g2, g3⟩ := (ready_iff hs).1 hi
      have hik : i = k := by
        have hge : k ≤ i := Nat.le_of_not_lt fun h => by rw [h1 i h] at g1; cases g1
        rcases Nat.eq_or_lt_of_le hge with h | h
        · exact h.symm
        · have hb := ((drawB_spec hchk g2).2 k _ h hok).2.2 (by omega) (by intro ⟨ha, hiN⟩; rw [if_pos ha] at hNk; omega)
          obtain ⟨e, he1, he2, he3⟩ := bound_spec hb
          have := g3 e he1 he2
          rw [he3, hun] at this; cases this
      subst hik
      rw [List.drop_eq_getElem_cons hlt] at hw
      have hnext : ∀ ca w, wpList P l.toArray Q (l.drop (i + 1)) ca w → wpAny P .any l.toArray Q fuel (listed.setIfInBounds i true) ca w := fun ca w hw => by
        refine ih (i + 1) (setB listed i) ca w fuel (by omega) (by omega) hlt (by simp [setB, hs]) (fun j hj => ?_) (fun j hj => ?_) ?_ hw
        · rw [setB_get (by omega)]
          by_cases e : i = j
          · rw [if_pos e]
          · rw [if_neg e]; exact h1 j (by omega)
        · rw [setB_get (by omega), if_neg (by omega)]; exact h2 j (by omega)
        · have := cnt_set hs hlt hun; omega
      unfold wpOp
      have hok' : l.toArray[i]? = some l[i] := by rw [List.getElem?_toArray]; exact hok
      rw [hok']
      simp only
      unfold wpList at hw
      split
      · rename_i hwt
        rw [if_pos hwt] at hw
        exact hw.imp (Oper.wp_mono' hnext) id
      · rename_i hwt
        rw [if_neg hwt] at hw
        exact hnext _ _ hw

theorem wpAny_draw {tab : Tab} (htab : TabOk P tab) {n : Nat} {ds : List Deferred} {l : List Oper} {N : Nat} {al : Bool} {a : Fr} {D : Nat → Dat} {T : TypeId} {zs : List Dat} {F0 : Nat → Nat → Prop} {w0 : World} (hchk : drawB l N al = true) (hN : N + (if al then 1 else 0) ≤ l.length) (hdn : ∀ i t, dstAt l i = some t → t < n) {Q : Exit → Act → World → Prop}
    (hq : ∀ i o, i < N → l[i]? = some o → ∃ ai, DOk P l.toArray σ o ai (D i) ∧ ∀ t, (∃ j, j < i ∧ dstAt l j = some t ∧ D j = ai.get t) ∨ ((∀ j, j < i → dstAt l j ≠ some t) ∧ ai.get t = a.get t))
    (hal : al = true → ∃ o ta ti, l[N]? = some o ∧ o.op = .alloc T ∧ o.dst = some ta ∧ o.guard = none ∧ tab T = some ti ∧ zs = ti.zero.map .raw)
    (hfin : ∀ listed ca w, (∀ j, j < N + (if al then 1 else 0) → listed.getD j false = true) → DSt P n ds l N al a D T zs F0 σ w0 listed ca w → wpList P l.toArray Q (l.drop (N + (if al then 1 else 0))) ca w) :
    ∀ (fuel : Nat) (listed : Array Bool) (ca : Act) (w : World), DSt P n ds l N al a D T zs F0 σ w0 listed ca w → cnt l.length listed ≤ fuel → wpAny P .any l.toArray Q fuel listed ca w := by
  intro fuel
  induction fuel with
  | zero =>
    intro listed ca w hst hf
    have hall : ∀ j, j < l.length → listed.getD j false = true := fun j hj => by
      cases h : listed.getD j false with
      | true => rfl
      | false => have := cnt_pos hj h; omega
    exact wpAny_tail hchk _ _ listed ca w 0 rfl (Nat.le_refl _) hN hst.lsize (fun j hj => hall j (by omega)) hst.tail hf (hfin listed ca w (fun j hj => hall j (by omega)) hst)
  | succ fuel ih =>
    intro listed ca w hst hf
    by_cases hdone : ∀ j, j < N + (if al then 1 else 0) → listed.getD j false = true
    · exact wpAny_tail hchk _ _ listed ca w _ rfl (Nat.le_refl _) hN hst.lsize hdone hst.tail hf (hfin listed ca w hdone hst)
    · -- the first that has not come up may come up
      have hex : ∃ j, j < N + (if al then 1 else 0) ∧ listed.getD j false = false := by
        refine Classical.byContradiction fun h => hdone fun j hj => ?_
        cases h' : listed.getD j false with
        | true => rfl
        | false => exact absurd ⟨j, hj, h'⟩ h
      obtain ⟨j0, ⟨hj0, hj0'⟩, hmin⟩ := exists_min hex
      have hj0r : j0 ∈ Region.ready .any l.toArray listed := (ready_iff hst.lsize).2 ⟨hj0', _, List.getElem?_eq_getElem (by omega), fun e he hb => by
        have hlt := (drawB_spec hchk (List.getElem?_eq_getElem (by omega : j0 < l.length))).1 e he hb
        cases h' : listed.getD e.on false with
        | true => rfl
        | false => have := hmin _ ⟨by omega, h'⟩; omega⟩
      refine ⟨(fun h => by rw [h] at hj0r; cases hj0r), fun i hi => ?_⟩
      obtain ⟨g1, o, g2, g3⟩ := (ready_iff hst.lsize).1 hi
      have hil : i < l.length := (List.getElem?_eq_some_iff.1 g2).1
      have hiN : i < N + (if al then 1 else 0) := by
        refine Nat.lt_of_not_le fun hge => ?_
        have hb := ((drawB_spec hchk g2).2 j0 _ (by omega) (List.getElem?_eq_getElem (by omega))).2.2 (by omega) (by intro ⟨ha, hN'⟩; rw [if_pos ha] at hge; omega)
        obtain ⟨e, he1, he2, he3⟩ := bound_spec hb
        have := g3 e he1 he2
        rw [he3, hj0'] at this; cases this
      have hog : l.toArray[i]? = some o := by simpa using g2
      have hcnt := cnt_set hst.lsize hil g1
      have hdst : dstAt l i = o.dst := by unfold dstAt; rw [g2]; rfl
      -- the new state's outer parts
      have hls : (setB listed i).size = l.length := by simp [setB, hst.lsize]
      have hcl : ∀ j oj, l[j]? = some oj → (setB listed i).getD j false = true → ∀ e, e ∈ oj.after → Region.binds .any e = true → (setB listed i).getD e.on false = true := fun j oj hoj hj e he hb => by
        rw [setB_get (by have := hst.lsize; omega)] at hj ⊢
        by_cases e1 : i = e.on
        · rw [if_pos e1]
        · rw [if_neg e1]
          by_cases e2 : i = j
          · subst e2; rw [g2] at hoj; injection hoj with hoj; subst hoj; exact g3 e he hb
          · rw [if_neg e2] at hj; exact hst.closed j oj hoj hj e he hb
      have htl : ∀ j, N + (if al then 1 else 0) ≤ j → (setB listed i).getD j false = false := fun j hj => by
        rw [setB_get (by have := hst.lsize; omega), if_neg (by omega)]; exact hst.tail j hj
      obtain ⟨F', b, e1, e2, e3, e4, e5⟩ := hst.mem
      have hmono : ∀ {F1 : Nat → Nat → Prop} {σ1 : List Res} {w1 : World} {σ2 : List Res} {d : Dat} {v : Value}, Ext F' σ1 w F1 σ2 w1 → V F' w d v → V F1 w1 d v := fun x h => h.ext x
      by_cases hiN' : i < N
      · -- one that turns nothing
        obtain ⟨ai, hok, hai⟩ := hq i o hiN' g2
        have hiN2 : ¬ (i = N) := by omega
        -- what it looks at stands as it did in the order of the text
        have hVL : VL F' w (restr ai (o.looksAt l.toArray)) ca.tmps := fun t => by
          rw [restr_get]
          split
          case isFalse => exact .junk _
          rename_i htm
          rcases hai t with ⟨j, hj1, hj2, hj3⟩ | ⟨hj1, hj2⟩
          · rw [← hj3]
            refine e3 j (by omega) ?_ t hj2
            -- its writer is bound ahead of it
            have hjo : l[j]? = some l[j] := List.getElem?_eq_getElem (by omega)
            have hb := (((drawB_spec hchk g2).2 j _ hj1 hjo).1 hiN').1 t (by rw [← hj2]; unfold dstAt; rw [hjo]; rfl) htm
            obtain ⟨e, he1, he2, he3⟩ := bound_spec hb
            have := g3 e he1 he2
            rw [he3] at this; exact this
          · rw [hj2]
            refine e5 t fun j hjN hjl hjd => ?_
            by_cases c1 : j < i
            · exact hj1 j c1 hjd
            · by_cases c2 : j = i
              · subst c2; rw [g1] at hjl; cases hjl
              · have hjl' : j < l.length := by omega
                have hjo : l[j]? = some l[j] := List.getElem?_eq_getElem hjl'
                have hjd' : l[j].dst = some t := by rw [← hjd]; unfold dstAt; rw [hjo]; rfl
                by_cases c3 : j < N
                · have hb := (((drawB_spec hchk hjo).2 i o (by omega) g2).1 c3).2.1 t hjd' htm
                  obtain ⟨e, he1, he2, he3⟩ := bound_spec hb
                  have := hst.closed j _ hjo hjl e he1 he2
                  rw [he3, g1] at this; cases this
                · have hjN' : al = true ∧ j = N := by
                    cases al with
                    | true => exact ⟨rfl, by simp at hjN; omega⟩
                    | false => simp at hjN; omega
                  exact (((drawB_spec hchk hjo).2 i o (by omega) g2).2.1 hjN'.1 hjN'.2 t hjd').1 htm
        -- behind it
        have hnext : ∀ (cv : Value) (F1 : Nat → Nat → Prop) (w1 : World), Ext F' (if al = true ∧ listed.getD N false = true then .box ((dstAt l N).getD 0) b T zs :: σ else σ) w F1 (if al = true ∧ listed.getD N false = true then .box ((dstAt l N).getD 0) b T zs :: σ else σ) w1 →
            Inv F1 (if al = true ∧ listed.getD N false = true then .box ((dstAt l N).getD 0) b T zs :: σ else σ) w1 → V F1 w1 (D i) cv → wpAny P .any l.toArray Q fuel (listed.setIfInBounds i true) (ca.put o.dst cv) w1 := fun cv F1 w1 x1 x2 x3 => by
          have hN3 : (setB listed i).getD N false = listed.getD N false := by rw [setB_get (by have := hst.lsize; omega), if_neg hiN2]
          have hput : ∀ t, o.dst ≠ some t → (ca.put o.dst cv).tmps.getD t undef = ca.tmps.getD t undef := fun t ht => by
            cases hd : o.dst with
            | none => rfl
            | some u =>
              rw [hd] at ht
              simp only [Act.put]
              rw [Array.getD_eq_getD_getElem?, Array.getElem?_setIfInBounds_ne (fun e => ht (by rw [e])), ← Array.getD_eq_getD_getElem?]
          have hput2 : ∀ t, o.dst = some t → (ca.put o.dst cv).tmps.getD t undef = cv := fun t ht => by
            rw [ht]
            simp only [Act.put]
            rw [Array.getD_eq_getD_getElem?, Array.getElem?_setIfInBounds_self_of_lt (by rw [hst.size]; exact hdn i t (by rw [hdst]; exact ht))]; rfl
          refine ih (setB listed i) _ _ ⟨?_, ?_, hls, hcl, htl, F1, b, ?_, ?_, ?_, ?_, ?_⟩ (by omega)
          · cases o.dst <;> simp [Act.put, hst.defers]
          · cases o.dst <;> simp [Act.put, hst.size]
          · rw [hN3]; exact e1.trans x1
          · rw [hN3]; exact x2
          · intro j hjN hjl t hjd
            rw [setB_get (by have := hst.lsize; omega)] at hjl
            by_cases c : i = j
            · subst c; rw [hput2 t (by rw [← hdst]; exact hjd)]; exact x3
            · rw [if_neg c] at hjl
              rw [hput t (fun h => ?_)]
              · exact hmono x1 (e3 j hjN hjl t hjd)
              · -- two writers of one slot
                have hjo : l[j]? = some l[j] := List.getElem?_eq_getElem (by omega)
                have hjd' : l[j].dst = some t := by rw [← hjd]; unfold dstAt; rw [hjo]; rfl
                rcases Nat.lt_or_gt_of_ne c with c | c
                · exact (((drawB_spec hchk hjo).2 i o c g2).1 hjN).2.2 t h hjd'
                · exact (((drawB_spec hchk g2).2 j _ c hjo).1 hiN').2.2 t hjd' h
          · intro ha hNl t hNd
            rw [hN3] at hNl
            rw [hput t (fun h => ?_)]
            · exact hmono x1 (e4 ha hNl t hNd)
            · have hNl' : N < l.length := by rw [if_pos ha] at hN; omega
              have hNo : l[N]? = some l[N] := List.getElem?_eq_getElem hNl'
              exact (((drawB_spec hchk hNo).2 i o hiN' g2).2.1 ha rfl t (by rw [← hNd]; unfold dstAt; rw [hNo]; rfl)).2 h
          · intro t ht
            have hti := ht i hiN (by rw [setB_get (by have := hst.lsize; omega), if_pos rfl])
            rw [hput t (by rw [← hdst]; exact hti)]
            refine hmono x1 (e5 t fun j hjN hjl => ht j hjN ?_)
            rw [setB_get (by have := hst.lsize; omega)]
            split <;> first | rfl | exact hjl
        unfold wpOp
        rw [hog]
        simp only
        rcases hok with ⟨hg, hw⟩ | ⟨hg, hd⟩
        · rw [agd_spec hVL hg, if_pos rfl]
          left
          -- with the variable beside it
          have hw' : QW P o (restr ai (o.looksAt l.toArray)) (if al = true ∧ listed.getD N false = true then .box ((dstAt l N).getD 0) b T zs :: σ else σ) (D i) := by
            split
            · exact qw_frame hw
            · exact hw
          exact hw' F' w ca e2 hVL Q _ fun cv w1 F1 x1 x2 x3 => hnext cv F1 w1 x1 x2 x3
        · rw [agd_spec hVL hg, if_neg (by simp)]
          exact hnext undef F' w (Ext.refl _ _ _) e2 (by rw [hd]; exact .raw _)
      · -- the variable
        have hal' : al = true := by
          cases al with
          | true => rfl
          | false => simp at hiN; omega
        have hiN3 : i = N := by rw [if_pos hal'] at hiN; omega
        subst hiN3
        obtain ⟨o', ta, ti, k1, k2, k3, k4, k5, k6⟩ := hal hal'
        rw [g2] at k1
        injection k1 with k1
        subst k1
        have hσ : (if al = true ∧ listed.getD i false = true then Res.box ((dstAt l i).getD 0) b T zs :: σ else σ) = σ := if_neg (by rw [g1]; simp)
        rw [hσ] at e1 e2
        have hok := htab T ti k5
        obtain ⟨z, hz1, hz2⟩ := hok.run_zero w
        obtain ⟨i', x'⟩ := e2.alloc_box (zero_CV F' w ti.zero) (fun v hv => List.all_eq_true.1 hok.one v (by simpa using hv)) ta T
        have hrun : (execOp ca.eval o).run P w = .ok (.value (.pointer (some ⟨w.heap.size, 0, none⟩))) (w.alloc (.cells ti.zero.toArray T)) := by
          simp [execOp, k2, Instr.alloc, hz1, newVar, newRow, hz2, World.alloc_eq]
        have hta : (dstAt l i).getD 0 = ta := by rw [hdst, k3]; rfl
        have hset : (setB listed i).getD i false = true := by rw [setB_get (by have := hst.lsize; omega), if_pos rfl]
        unfold wpOp
        rw [hog]
        simp only
        rw [if_pos (by simp [Region.wanted, k4])]
        left
        unfold Oper.wp
        rw [hrun, Oper.upon_value]
        have hput : ∀ t, ta ≠ t → (ca.put o.dst (.pointer (some ⟨w.heap.size, 0, none⟩))).tmps.getD t undef = ca.tmps.getD t undef := fun t ht => by
          rw [k3]
          simp only [Act.put]
          rw [Array.getD_eq_getD_getElem?, Array.getElem?_setIfInBounds_ne ht, ← Array.getD_eq_getD_getElem?]
        refine ih (setB listed i) _ _ ⟨?_, ?_, hls, hcl, htl, F', w.heap.size, ?_, ?_, ?_, ?_, ?_⟩ (by omega)
        · rw [k3]; exact hst.defers
        · rw [k3]; simp [Act.put, hst.size]
        · rw [if_pos ⟨hal', hset⟩, hta, k6]; exact e1.trans x'
        · rw [if_pos ⟨hal', hset⟩, hta, k6]; exact i'
        · intro j hjN hjl t hjd
          rw [setB_get (by have := hst.lsize; omega), if_neg (by omega)] at hjl
          rw [hput t (fun h => ?_)]
          · exact (e3 j hjN hjl t hjd).ext x'
          · subst h
            have hjo : l[j]? = some l[j] := List.getElem?_eq_getElem (by omega)
            exact (((drawB_spec hchk g2).2 j _ hjN hjo).2.1 hal' rfl ta k3).2 (by rw [← hjd]; unfold dstAt; rw [hjo]; rfl)
        · intro _ _ t ht
          rw [hdst, k3] at ht
          injection ht with ht
          subst ht
          rw [k3]
          simp only [Act.put]
          rw [Array.getD_eq_getD_getElem?, Array.getElem?_setIfInBounds_self_of_lt (by rw [hst.size]; exact hdn i ta (by rw [hdst]; exact k3))]
          exact .ref _ _ _
        · intro t ht
          have hti := ht i hiN hset
          rw [hput t (fun h => hti (by rw [hdst, k3, h]))]
          refine (e5 t fun j hjN hjl => ht j hjN ?_).ext x'
          rw [setB_get (by have := hst.lsize; omega)]
          split <;> first | rfl | exact hjl

def dstsB (n : Nat) (l : List Oper) : Bool := l.all fun o => match o.dst with | some t => Nat.blt t n | none => true
theorem dstsB_spec {n : Nat} {l : List Oper} (h : dstsB n l = true) (i t : Nat) (hd : dstAt l i = some t) : t < n := by
  unfold dstAt at hd
  cases ho : l[i]? with
  | none => rw [ho] at hd; cases hd
  | some o =>
    rw [ho] at hd
    unfold dstsB at h
    rw [List.all_eq_true] at h
    have := h o (List.mem_of_getElem? ho)
    have hd : o.dst = some t := hd
    rw [hd] at this
    simpa using this

theorem dst_start {n : Nat} {ds : List Deferred} {l : List Oper} {N : Nat} {al : Bool} {D : Nat → Dat} {T : TypeId} {zs : List Dat} {F : Nat → Nat → Prop} {w w' : World} {ca : Act} (h1 : ca.defers = ds) (h2 : ca.tmps.size = n) (hx : Ext F σ w F σ w') (h3 : Inv F σ w') (h4 : VL F w' a ca.tmps) :
    DSt P n ds l N al a D T zs F σ w (Array.replicate l.length false) ca w' := by
  have hf : ∀ j, (Array.replicate l.length false).getD j false = false := fun j => by
    rw [Array.getD_eq_getD_getElem?, Array.getElem?_replicate]; split <;> rfl
  have hσ : ∀ b, (if al = true ∧ (Array.replicate l.length false).getD N false = true then Res.box ((dstAt l N).getD 0) b T zs :: σ else σ) = σ := fun b => if_neg (by rw [hf]; simp)
  refine ⟨h1, h2, by simp, (fun j oj _ hj => by rw [hf] at hj; cases hj), fun j _ => hf j, F, 0, ?_, ?_, (fun i _ hi => by rw [hf] at hi; cases hi), (fun _ hi => by rw [hf] at hi; cases hi), fun t _ => h4 t⟩
  · rw [hσ]; exact hx
  · rw [hσ]; exact h3

/-- A region whose order is drawn: quiet operations, then others that wait for all. -/
theorem awp_draw {n : Nat} {dfs : List Deferred} {Q : Post} {id : Nat} {l : List Oper} (N : Nat) {dd : List Dat} {a' : Fr} (hm : P.follows .mixedOrders = true) (hN : Nat.ble N l.length = true) (hchk : drawB l N false = true) (hdn : dstsB n l = true)
    (hrun : DRun P l.toArray σ (l.take N) a dd a') (h : ALst P n dfs l.toArray (l.drop N) Q a' σ) : AWP P n dfs (.region id l.toArray true) Q a σ := by
  have hN := Nat.le_of_ble_eq_true hN
  refine ⟨fun F w ca h1 h2 h3 h4 => ?_⟩
  obtain ⟨r1, r2⟩ := hrun.at
  have hlen : (l.take N).length = N := by simp; omega
  have hdt : ∀ j, j < N → dstAt (l.take N) j = dstAt l j := fun j hj => by unfold dstAt; rw [List.getElem?_take, if_pos hj]
  have hD : ∀ i x, dd[i]? = some x → dd.getD i .junk = x := fun i x h => by rw [List.getD_eq_getElem?_getD, h]; rfl
  have hdrew : Ext F σ w F σ w.drew := ⟨fun _ _ h => h, fun _ _ _ => rfl, fun _ _ _ => rfl, Nat.le_refl _, rfl, rfl, rfl, fun _ h => .inl h, fun _ _ h => .inl h⟩
  have hinv : Inv F σ w.drew := ⟨h3.cell, fun r hr => (h3.res r hr).keep (fun _ _ h => h) (fun _ _ _ => rfl) (fun _ _ => rfl) (fun _ _ _ h => h), h3.nodup⟩
  refine wp_region_any hm (wpAny_draw (tab := fun _ => none) (fun T i h => by cases h) (N := N) (al := false) (a := a) (D := fun i => dd.getD i .junk) (T := 0) (zs := []) (σ := σ) (F0 := F) (w0 := w) hchk (by simpa using hN) (fun i t => dstsB_spec hdn i t) ?_ (fun h => by cases h) ?_ _ _ _ _ (dst_start h1 h2 hdrew hinv (h4.ext hdrew)) ?_)
  · intro i o hi ho
    obtain ⟨ai, d, g1, g2, g3⟩ := r1 i o (by rw [List.getElem?_take, if_pos hi]; exact ho)
    refine ⟨ai, by show DOk P _ σ o ai (dd.getD i .junk); rw [hD i d g1]; exact g2, fun t => ?_⟩
    rcases g3 t with ⟨j, k1, k2, k3⟩ | ⟨k1, k2⟩
    · exact .inl ⟨j, k1, by rw [← hdt j (by omega)]; exact k2, hD _ _ k3⟩
    · exact .inr ⟨fun j hj => by rw [← hdt j (by omega)]; exact k1 j hj, k2⟩
  · intro listed ca' w' hall hst
    simp only [Bool.false_eq_true, if_false, Nat.add_zero] at hall ⊢
    obtain ⟨F', b, e1, e2, e3, _, e5⟩ := hst.mem
    simp only [Bool.false_eq_true, false_and, if_false, Nat.add_zero] at e1 e2 e5
    refine wpList_mono (fun _ _ _ q => lift_trans e1 q) _ _ _ (h.run F' w' ca' hst.defers hst.size e2 fun t => ?_)
    rcases r2 t with ⟨j, k1, k2, k3⟩ | ⟨k1, k2⟩
    · rw [hlen] at k1
      rw [← hD _ _ k3]
      exact e3 j k1 (hall j k1) t (by rw [← hdt j k1]; exact k2)
    · rw [k2]
      exact e5 t fun i hi _ => by rw [← hdt i hi]; exact k1 i (by rw [hlen]; exact hi)
  · unfold cnt
    exact Nat.le_trans List.countP_le_length (by simp)

/-- .. with a variable made between them. -/
theorem awp_draw_al {tab : Tab} (htab : TabOk P tab) {n : Nat} {dfs : List Deferred} {Q : Post} {id : Nat} {l : List Oper} (N : Nat) {dd : List Dat} {a' : Fr} {o : Oper} {T : TypeId} {ta : Nat} {ti : TI} (hm : P.follows .mixedOrders = true) (ho : l[N]? = some o) (hop : o.op = .alloc T) (hod : o.dst = some ta) (hog : o.guard = none) (hte : tab T = some ti) (hchk : drawB l N true = true) (hdn : dstsB n l = true)
    (hrun : DRun P l.toArray σ (l.take N) a dd a') (h : ∀ b, ALst P n dfs l.toArray (l.drop (N + 1)) Q ((ta, .ref ta b 0) :: a') (.box ta b T (ti.zero.map .raw) :: σ)) : AWP P n dfs (.region id l.toArray true) Q a σ := by
  have hN : N < l.length := (List.getElem?_eq_some_iff.1 ho).1
  refine ⟨fun F w ca h1 h2 h3 h4 => ?_⟩
  obtain ⟨r1, r2⟩ := hrun.at
  have hlen : (l.take N).length = N := by simp; omega
  have hdt : ∀ j, j < N → dstAt (l.take N) j = dstAt l j := fun j hj => by unfold dstAt; rw [List.getElem?_take, if_pos hj]
  have hdN : dstAt l N = some ta := by unfold dstAt; rw [ho]; exact hod
  have hD : ∀ i x, dd[i]? = some x → dd.getD i .junk = x := fun i x h => by rw [List.getD_eq_getElem?_getD, h]; rfl
  have hdrew : Ext F σ w F σ w.drew := ⟨fun _ _ h => h, fun _ _ _ => rfl, fun _ _ _ => rfl, Nat.le_refl _, rfl, rfl, rfl, fun _ h => .inl h, fun _ _ h => .inl h⟩
  have hinv : Inv F σ w.drew := ⟨h3.cell, fun r hr => (h3.res r hr).keep (fun _ _ h => h) (fun _ _ _ => rfl) (fun _ _ => rfl) (fun _ _ _ h => h), h3.nodup⟩
  refine wp_region_any hm (wpAny_draw htab (N := N) (al := true) (a := a) (D := fun i => dd.getD i .junk) (T := T) (zs := ti.zero.map .raw) (σ := σ) (F0 := F) (w0 := w) hchk (by simp only [if_true]; omega) (fun i t => dstsB_spec hdn i t) ?_ (fun _ => ⟨o, ta, ti, ho, hop, hod, hog, hte, rfl⟩) ?_ _ _ _ _ (dst_start h1 h2 hdrew hinv (h4.ext hdrew)) ?_)
  · intro i o hi ho
    obtain ⟨ai, d, g1, g2, g3⟩ := r1 i o (by rw [List.getElem?_take, if_pos hi]; exact ho)
    refine ⟨ai, by show DOk P _ σ o ai (dd.getD i .junk); rw [hD i d g1]; exact g2, fun t => ?_⟩
    rcases g3 t with ⟨j, k1, k2, k3⟩ | ⟨k1, k2⟩
    · exact .inl ⟨j, k1, by rw [← hdt j (by omega)]; exact k2, hD _ _ k3⟩
    · exact .inr ⟨fun j hj => by rw [← hdt j (by omega)]; exact k1 j hj, k2⟩
  · intro listed ca' w' hall hst
    simp only [if_true] at hall ⊢
    obtain ⟨F', b, e1, e2, e3, e4, e5⟩ := hst.mem
    have hNl := hall N (by omega)
    rw [if_pos ⟨rfl, hNl⟩, hdN] at e1 e2
    simp only [Option.getD_some] at e1 e2
    simp only [if_true] at e5
    refine wpList_mono (fun _ _ _ q => lift_trans e1 q) _ _ _ ((h b).run F' w' ca' hst.defers hst.size e2 fun t => ?_)
    simp only [Fr.get]
    by_cases e : ta = t
    · subst e; rw [Nat.beq_refl]; exact e4 rfl hNl ta hdN
    · rw [nbeq_ne e]
      rcases r2 t with ⟨j, k1, k2, k3⟩ | ⟨k1, k2⟩
      · rw [hlen] at k1
        rw [← hD _ _ k3]
        exact e3 j k1 (hall j (by omega)) t (by rw [← hdt j k1]; exact k2)
      · rw [k2]
        refine e5 t fun i hi _ => ?_
        by_cases c : i < N
        · rw [← hdt i c]; exact k1 i (by rw [hlen]; exact c)
        · rw [show i = N by omega, hdN]; simpa using e
  · unfold cnt
    exact Nat.le_trans List.countP_le_length (by simp)

/-! ### its steps -/
inductive DK (P : Program) (ops : Array Oper) (σ : List Res) (K : Fr → Prop) : List Oper → Fr → Prop
  | nil (a : Fr) (h : K a) : DK P ops σ K [] a
  | cons {o : Oper} {rest : List Oper} {a : Fr} {d : Dat} (h : DOk P ops σ o a d) (t : DK P ops σ K rest (dput o.dst d a)) : DK P ops σ K (o :: rest) a
theorem DK.run {ops : Array Oper} {K : Fr → Prop} {l : List Oper} (h : DK P ops σ K l a) : ∃ dd a', DRun P ops σ l a dd a' ∧ K a' := by
  induction h with
  | nil a h => exact ⟨[], a, .nil a, h⟩
  | cons h t ih =>
    obtain ⟨dd, a', h1, h2⟩ := ih
    exact ⟨_, a', .cons h h1, h2⟩

theorem awp_dr {n : Nat} {dfs : List Deferred} {Q : Post} {id : Nat} {l : List Oper} (N : Nat) (hm : P.follows .mixedOrders = true) (hN : Nat.ble N l.length = true) (hchk : drawB l N false = true) (hdn : dstsB n l = true)
    (hrun : DK P l.toArray σ (fun a' => ALst P n dfs l.toArray (l.drop N) Q a' σ) (l.take N) a) : AWP P n dfs (.region id l.toArray true) Q a σ := by
  obtain ⟨dd, a', h1, h2⟩ := hrun.run
  exact awp_draw N hm hN hchk hdn h1 h2
theorem awp_dr_al {tab : Tab} (htab : TabOk P tab) {n : Nat} {dfs : List Deferred} {Q : Post} {id : Nat} {l : List Oper} (N : Nat) {o : Oper} {T : TypeId} {ta : Nat} {ti : TI} (hm : P.follows .mixedOrders = true) (ho : l[N]? = some o) (hop : o.op = .alloc T) (hod : o.dst = some ta) (hog : o.guard = none) (hte : tab T = some ti) (hchk : drawB l N true = true) (hdn : dstsB n l = true)
    (hrun : DK P l.toArray σ (fun a' => ∀ b, ALst P n dfs l.toArray (l.drop (N + 1)) Q ((ta, .ref ta b 0) :: a') (.box ta b T (ti.zero.map .raw) :: σ)) (l.take N) a) : AWP P n dfs (.region id l.toArray true) Q a σ := by
  obtain ⟨dd, a', h1, h2⟩ := hrun.run
  exact awp_draw_al htab N hm ho hop hod hog hte hchk hdn h1 h2

section
variable {ops : Array Oper} {rest : List Oper} {K : Fr → Prop}
theorem dk_nil (h : K a) : DK P ops σ K [] a := .nil a h
theorem dk_q {t : Nat} {d : Dat} (hq : QOp P o (restr a (o.looksAt ops)) σ d) (hd : o.dst = some t) (hg : agd ops (restr a (o.looksAt ops)) o = some true) (h : DK P ops σ K rest ((t, d) :: a)) : DK P ops σ K (o :: rest) a :=
  .cons (.inl ⟨hg, hq.qw⟩) (by rw [hd]; exact h)
theorem dk_skip {t : Nat} (hg : agd ops (restr a (o.looksAt ops)) o = some false) (hd : o.dst = some t) (h : DK P ops σ K rest ((t, .raw undef) :: a)) : DK P ops σ K (o :: rest) a :=
  .cons (.inr ⟨hg, rfl⟩) (by rw [hd]; exact h)
theorem dk_call0 {t : Nat} {x : Operand} {xs : Array Operand} {ats : Array TypeId} {f : FuncId} {first cap : Array Value} {args args' : List Dat} {d : Dat}
    (hc : ACalls P f args' [] (RV d [])) (ho : o.op = .call { callee := .value x, args := xs, argTypes := ats }) (hd : o.dst = some t) (hg : agd ops (restr a (o.looksAt ops)) o = some true)
    (hx : ev (restr a (o.looksAt ops)) x = .raw (.func (.func f) first cap)) (ha : first.toList.map Dat.raw ++ xs.toList.map (ev (restr a (o.looksAt ops))) ++ cap.toList.map Dat.raw = args) (hs : SubL args args') (h : DK P ops σ K rest ((t, d) :: a)) : DK P ops σ K (o :: rest) a :=
  .cons (.inl ⟨hg, qw_call0 hc ho hx ha hs⟩) (by rw [hd]; exact h)
theorem dk_call1 {t : Nat} {x : Operand} {xs : Array Operand} {ats : Array TypeId} {f : FuncId} {first cap : Array Value} {args args' : List Dat} {d : Dat} {r r' : Res} (m : Nat)
    (hc : ACalls P f args' [r'] (RV d [r'])) (ho : o.op = .call { callee := .value x, args := xs, argTypes := ats }) (hd : o.dst = some t) (hg : agd ops (restr a (o.looksAt ops)) o = some true)
    (hx : ev (restr a (o.looksAt ops)) x = .raw (.func (.func f) first cap)) (ha : first.toList.map Dat.raw ++ xs.toList.map (ev (restr a (o.looksAt ops))) ++ cap.toList.map Dat.raw = args) (hs : SubL args args') (hm : σ[m]? = some r) (hr : ResSub r r') (hr' : ResSub r' r) (h : DK P ops σ K rest ((t, d) :: a)) : DK P ops σ K (o :: rest) a :=
  .cons (.inl ⟨hg, qw_call1 m hc ho hx ha hs hm hr hr'⟩) (by rw [hd]; exact h)
theorem q_bin_t {op : BinOp} {t t' : TypeId} {x y : Operand} {vx vy : Value} {p : Prop} [inst : Decidable p] (ho : o.op = .binOp op t x y t') (hx : ev a x = .raw vx) (hy : ev a y = .raw vy) (h : binv op vx vy = some (.bool (decide p))) (hp : p) : QOp P o a σ (.raw (.bool true)) :=
  q_bin ho hx hy (by rw [h, decide_eq_true hp])
theorem q_bin_f {op : BinOp} {t t' : TypeId} {x y : Operand} {vx vy : Value} {p : Prop} [inst : Decidable p] (ho : o.op = .binOp op t x y t') (hx : ev a x = .raw vx) (hy : ev a y = .raw vy) (h : binv op vx vy = some (.bool (decide p))) (hp : ¬ p) : QOp P o a σ (.raw (.bool false)) :=
  q_bin ho hx hy (by rw [h, decide_eq_false hp])
theorem q_len_of {t : TypeId} {x : Operand} {e : TypeId} {m : Nat} (ho : o.op = .call { callee := .builtin .len, args := #[x], argTypes := #[t] }) (hu : P.underlying t = some (.slice e)) (hx : HasLen (ev a x) m) : QOp P o a σ (.raw (.int .i64 m)) := q_len ho hu hx
end
end
end Go.Proofs.Ytbfejlmamncemaa.Sk
