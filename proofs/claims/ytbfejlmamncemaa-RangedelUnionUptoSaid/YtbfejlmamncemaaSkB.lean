/- Walks over abstract values: what a piece of code comes to, for frames of abstract values and what is owned. No condition. -/
import Derived.Test.YtbfejlmamncemaaSkA
namespace Go.Proofs.Ytbfejlmamncemaa.Sk
open Go Go.RowKit

abbrev Fr := List (Nat × Dat)
def Fr.get : Fr → Nat → Dat
  | [], _ => .junk
  | (k, d) :: r, t => match Nat.beq k t with | true => d | false => Fr.get r t

def ev (a : Fr) : Operand → Dat
  | .tmp t => a.get t
  | .const v => .raw v
  | .global g => .raw (.pointer (some ⟨g, 0, none⟩))
  | .func f => .raw (.func (.func f) #[] #[])

def VL (F : Nat → Nat → Prop) (w : World) (a : Fr) (tmps : Array Value) : Prop := ∀ t, V F w (a.get t) (tmps.getD t undef)

theorem VL.ext {F F' : Nat → Nat → Prop} {σ σ' : List Res} {w w' : World} {a : Fr} {tmps : Array Value} (h : VL F w a tmps) (e : Ext F σ w F' σ' w') : VL F' w' a tmps := fun t => (h t).ext e

theorem ev_V {F : Nat → Nat → Prop} {w : World} {a : Fr} {ca : Act} (h : VL F w a ca.tmps) (x : Operand) : V F w (ev a x) (ca.eval x) := by
  cases x with
  | tmp t => exact h t
  | const v => exact .raw v
  | global g => exact .raw _
  | func f => exact .raw _

theorem ev_raw {F : Nat → Nat → Prop} {w : World} {a : Fr} {ca : Act} (h : VL F w a ca.tmps) {x : Operand} {v : Value} (hx : ev a x = .raw v) : ca.eval x = v := by
  have := ev_V h x
  rw [hx] at this
  cases this; rfl

theorem nbeq_ne {k t : Nat} (h : k ≠ t) : Nat.beq k t = false := by
  cases h' : Nat.beq k t with
  | false => rfl
  | true => exact absurd (Nat.eq_of_beq_eq_true h') h

theorem VL.put {F : Nat → Nat → Prop} {w : World} {a : Fr} {ca : Act} (h : VL F w a ca.tmps) {t : Nat} {d : Dat} {cv : Value} (ht : t < ca.tmps.size) (hd : V F w d cv) : VL F w ((t, d) :: a) (ca.put (some t) cv).tmps := by
  intro u
  simp only [Act.put, Fr.get]
  by_cases e : t = u
  · subst e
    rw [Nat.beq_refl, Array.getD_eq_getD_getElem?, Array.getElem?_setIfInBounds_self_of_lt ht]
    exact hd
  · rw [nbeq_ne e]
    rw [Array.getD_eq_getD_getElem?, Array.getElem?_setIfInBounds_ne e, ← Array.getD_eq_getD_getElem?]
    exact h u

/-- what comes behind, as a post on what is concrete -/
abbrev Post := Exit → Fr → List Res → Prop
def lift (n : Nat) (ds : List Deferred) (F : Nat → Nat → Prop) (σ : List Res) (w : World) (Q : Post) : Exit → Act → World → Prop := fun e ca w' =>
  ca.defers = ds ∧ ca.tmps.size = n ∧ ∃ F' a' σ', Ext F σ w F' σ' w' ∧ Inv F' σ' w' ∧ VL F' w' a' ca.tmps ∧ Q e a' σ'

structure AWP (P : Program) (n : Nat) (ds : List Deferred) (c : Code) (Q : Post) (a : Fr) (σ : List Res) : Prop where
  run : ∀ F w ca, ca.defers = ds → ca.tmps.size = n → Inv F σ w → VL F w a ca.tmps → c.wp P (lift n ds F σ w Q) ca w

theorem lift_trans {n : Nat} {ds : List Deferred} {F F1 : Nat → Nat → Prop} {σ σ1 : List Res} {w w1 : World} {Q : Post} {e : Exit} {ca : Act} {w' : World} (x : Ext F σ w F1 σ1 w1) (h : lift n ds F1 σ1 w1 Q e ca w') : lift n ds F σ w Q e ca w' := by
  obtain ⟨h1, h2, F', a', σ', h3, h4, h5, h6⟩ := h
  exact ⟨h1, h2, F', a', σ', x.trans h3, h4, h5, h6⟩
theorem lift_mono {n : Nat} {ds : List Deferred} {F : Nat → Nat → Prop} {σ : List Res} {w : World} {Q Q' : Post} {e : Exit} {ca : Act} {w' : World} (hq : ∀ a σ, Q e a σ → Q' e a σ) (h : lift n ds F σ w Q e ca w') : lift n ds F σ w Q' e ca w' := by
  obtain ⟨h1, h2, F', a', σ', h3, h4, h5, h6⟩ := h
  exact ⟨h1, h2, F', a', σ', h3, h4, h5, hq _ _ h6⟩

section
variable {P : Program} {n : Nat} {ds : List Deferred} {Q : Post} {a : Fr} {σ : List Res}

theorem AWP.mono {c : Code} {Q' : Post} (hq : ∀ e a σ, Q e a σ → Q' e a σ) (h : AWP P n ds c Q a σ) : AWP P n ds c Q' a σ :=
  ⟨fun F w ca h1 h2 h3 h4 => wp_mono (h.run F w ca h1 h2 h3 h4) fun e _ _ q => lift_mono (hq e) q⟩

def athen (next : Fr → List Res → Prop) (Q : Post) : Post
  | .normal, a, σ => next a σ
  | e, a, σ => Q e a σ

theorem awp_seq {x y : Code} (h : AWP P n ds x (athen (AWP P n ds y Q) Q) a σ) : AWP P n ds (.seq x y) Q a σ := by
  refine ⟨fun F w ca h1 h2 h3 h4 => ?_⟩
  refine wp_seq (wp_mono (h.run F w ca h1 h2 h3 h4) fun e ca' w' hl => ?_)
  cases e with
  | normal =>
    obtain ⟨g1, g2, F', a', σ', g3, g4, g5, g6⟩ := hl
    exact wp_mono (g6.run F' w' ca' g1 g2 g4 g5) fun e _ _ q => lift_trans g3 q
  | _ => exact lift_mono (fun _ _ q => q) hl

theorem lift_now {F : Nat → Nat → Prop} {w : World} {ca : Act} {e : Exit} (h1 : ca.defers = ds) (h2 : ca.tmps.size = n) (h3 : Inv F σ w) (h4 : VL F w a ca.tmps) (h : Q e a σ) : lift n ds F σ w Q e ca w :=
  ⟨h1, h2, F, a, σ, Ext.refl _ _ _, h3, h4, h⟩

theorem awp_skip (h : Q .normal a σ) : AWP P n ds .skip Q a σ := ⟨fun _ _ _ h1 h2 h3 h4 => wp_skip (lift_now h1 h2 h3 h4 h)⟩
theorem awp_exit {id : Nat} (h : Q (.exit id) a σ) : AWP P n ds (.exit id) Q a σ := ⟨fun _ _ _ h1 h2 h3 h4 => wp_exit (lift_now h1 h2 h3 h4 h)⟩
theorem awp_ret (h : Q .ret a σ) : AWP P n ds .ret Q a σ := ⟨fun _ _ _ h1 h2 h3 h4 => wp_ret (lift_now h1 h2 h3 h4 h)⟩

def ainBlock (id : Nat) (Q : Post) : Post
  | .exit id', a, σ => if id' = id then Q .normal a σ else Q (.exit id') a σ
  | e, a, σ => Q e a σ
theorem awp_block {id : Nat} {c : Code} (h : AWP P n ds c (ainBlock id Q) a σ) : AWP P n ds (.block id c) Q a σ := by
  refine ⟨fun F w ca h1 h2 h3 h4 => ?_⟩
  refine wp_block (wp_mono (h.run F w ca h1 h2 h3 h4) fun e ca' w' hl => ?_)
  cases e with
  | exit id' =>
    obtain ⟨g1, g2, F', a', σ', g3, g4, g5, g6⟩ := hl
    simp only [Exit.inBlock]
    simp only [ainBlock] at g6
    split
    · rename_i e; rw [if_pos e] at g6; exact ⟨g1, g2, F', a', σ', g3, g4, g5, g6⟩
    · rename_i e; rw [if_neg e] at g6; exact ⟨g1, g2, F', a', σ', g3, g4, g5, g6⟩
  | _ => exact lift_mono (fun _ _ q => q) hl

theorem awp_cond {c : Operand} {x y : Code} {t : Bool} (hc : ev a c = .raw (.bool t)) (ht : t = true → AWP P n ds x Q a σ) (hf : t = false → AWP P n ds y Q a σ) : AWP P n ds (.cond c x y) Q a σ := by
  refine ⟨fun F w ca h1 h2 h3 h4 => ?_⟩
  refine wp_cond_split (ev_raw h4 hc) (fun e => (ht e).run F w ca h1 h2 h3 h4) (fun e => (hf e).run F w ca h1 h2 h3 h4)

/-- Less is known. -/
def Weak (a : Fr) (σ : List Res) (a' : Fr) (σ' : List Res) : Prop := ∀ F w tmps, Inv F σ w → VL F w a tmps → ∃ F', Ext F σ w F' σ' w ∧ Inv F' σ' w ∧ VL F' w a' tmps

theorem awp_weak {c : Code} {a' : Fr} {σ' : List Res} (hw : Weak a σ a' σ') (h : AWP P n ds c Q a' σ') : AWP P n ds c Q a σ := by
  refine ⟨fun F w ca h1 h2 h3 h4 => ?_⟩
  obtain ⟨F', e, i, v⟩ := hw F w ca.tmps h3 h4
  exact wp_mono (h.run F' w ca h1 h2 i v) fun _ _ _ q => lift_trans e q

theorem exists_min {p : Nat → Prop} (h : ∃ m, p m) : ∃ m, p m ∧ ∀ k, p k → m ≤ k := by
  obtain ⟨m, hm⟩ := h
  induction m using Nat.strongRecOn with
  | _ m ih =>
    by_cases hk : ∃ k, k < m ∧ p k
    · obtain ⟨k, h1, h2⟩ := hk; exact ih k h1 h2
    · exact ⟨m, hm, fun k h => Nat.le_of_not_lt fun h' => hk ⟨k, h', h⟩⟩

open Classical in
theorem awp_loop {c : Code} {X : Type} (I : X → Prop) (A : X → Fr) (S : X → List Res) (μ : X → Nat) (x0 : X) (hi : I x0) (h0 : Weak a σ (A x0) (S x0))
    (round : ∀ x, I x → AWP P n ds c (athen (fun a' σ' => ∃ x', I x' ∧ μ x' < μ x ∧ Weak a' σ' (A x') (S x')) Q) (A x) (S x)) : AWP P n ds (.loop c) Q a σ := by
  refine ⟨fun F w ca h1 h2 h3 h4 => ?_⟩
  let R : X → Act → World → Prop := fun x ca' w' => I x ∧ ca'.defers = ds ∧ ca'.tmps.size = n ∧ ∃ F', Ext F σ w F' (S x) w' ∧ Inv F' (S x) w' ∧ VL F' w' (A x) ca'.tmps
  let M : Act → World → Nat := fun ca' w' => if h : ∃ m, ∃ x, μ x = m ∧ R x ca' w' then Classical.choose (exists_min h) else 0
  refine wp_loop (fun ca' w' => ∃ x, R x ca' w') M ?_ ?_
  · obtain ⟨F', e, i, v⟩ := h0 F w ca.tmps h3 h4
    exact ⟨x0, hi, h1, h2, F', e, i, v⟩
  · intro ca1 w1 hI
    have hex : ∃ m, ∃ x, μ x = m ∧ R x ca1 w1 := hI.elim fun x hx => ⟨_, x, rfl, hx⟩
    have hM : M ca1 w1 = Classical.choose (exists_min hex) := dif_pos hex
    obtain ⟨⟨x, hm, hix, g1, g2, F1, g3, g4, g5⟩, _⟩ := Classical.choose_spec (exists_min hex)
    refine wp_mono ((round x hix).run F1 w1 ca1 g1 g2 g4 g5) fun e ca2 w2 hl => ?_
    cases e with
    | normal =>
      obtain ⟨k1, k2, F2, a2, σ2, k3, k4, k5, x', k6, k7, k8⟩ := hl
      obtain ⟨F3, e3, i3, v3⟩ := k8 F2 w2 ca2.tmps k4 k5
      have hR : R x' ca2 w2 := ⟨k6, k1, k2, F3, (g3.trans k3).trans e3, i3, v3⟩
      refine ⟨⟨x', hR⟩, ?_⟩
      have hex2 : ∃ m, ∃ x, μ x = m ∧ R x ca2 w2 := ⟨_, x', rfl, hR⟩
      have hM2 : M ca2 w2 = Classical.choose (exists_min hex2) := dif_pos hex2
      rw [hM, hM2]
      exact Nat.lt_of_le_of_lt ((Classical.choose_spec (exists_min hex2)).2 _ ⟨x', rfl, hR⟩) (hm ▸ k7)
    | _ => exact lift_trans g3 (lift_mono (fun _ _ q => q) hl)
end

/-! ### calls -/
inductive Out where
  | ret (d : Dat)
  | pan (v : Value)

def OutV (F : Nat → Nat → Prop) (w : World) : Out → Ending → Prop
  | .ret d, .returned v => V F w d v
  | .pan v, .panicked c => c = [{ v := v, recovered := false }]
  | _, _ => False

def VArgs (F : Nat → Nat → Prop) (w : World) (args : List Dat) (cargs : List Value) : Prop :=
  cargs.length = args.length ∧ ∀ (i : Nat) d v, args[i]? = some d → cargs[i]? = some v → V F w d v

def FnOk (P : Program) (f : FuncId) : Prop := ∃ fn, P.funcs[f]? = some fn ∧ (fn.name == "runtime.NumGoroutine") = false ∧ fn.body.isNone = false

def ACalls (P : Program) (f : FuncId) (args : List Dat) (σ : List Res) (R : Out → List Res → Prop) : Prop := FnOk P f ∧
  ∀ F w (cargs : List Value), Inv F σ w → VArgs F w args cargs → Calls P f cargs.toArray w fun e w' => ∃ F' σ' o, Ext F σ w F' σ' w' ∧ Inv F' σ' w' ∧ OutV F' w' o e ∧ R o σ'

theorem ACalls.mono {P : Program} {f : FuncId} {args : List Dat} {σ : List Res} {R R' : Out → List Res → Prop} (h : ACalls P f args σ R) (hr : ∀ o σ, R o σ → R' o σ) : ACalls P f args σ R' :=
  ⟨h.1, fun F w cargs h1 h2 => (h.2 F w cargs h1 h2).mono fun _ _ ⟨F', σ', o, a, b, c, d⟩ => ⟨F', σ', o, a, b, c, hr _ _ d⟩⟩

/-- the frame: what is owned besides stays -/
theorem ACalls.frame {P : Program} {f : FuncId} {args : List Dat} {σ₁ σ₂ σ : List Res} {R : Out → List Res → Prop} (h : ACalls P f args σ₁ R) (p : σ.Perm (σ₁ ++ σ₂)) : ACalls P f args σ fun o σ' => ∃ σ₁', σ' = σ₁' ++ σ₂ ∧ R o σ₁' := by
  refine ⟨h.1, fun F w cargs h1 h2 => ?_⟩
  have h1' := h1.perm p
  refine (h.2 F w cargs (h1'.sub (List.sublist_append_left _ _)) h2).mono ?_
  rintro e w' ⟨F', σ', o, a, b, c, d⟩
  obtain ⟨i, x⟩ := Inv.frame h1' a b
  exact ⟨F', σ' ++ σ₂, o, x.perm p.symm (.refl _), i, c, σ', rfl, d⟩

/-- what a result of a function is, out of its frame -/
def Ares (P : Program) (fn : Func) (a : Fr) (σ : List Res) (d : Dat) (σ' : List Res) : Prop := ∀ F w tmps, Inv F σ w → VL F w a tmps → ∃ v F', (results fn tmps).run P w = .ok v w ∧ Ext F σ w F' σ' w ∧ Inv F' σ' w ∧ V F' w d v

def abody (P : Program) (fn : Func) (R : Out → List Res → Prop) : Post
  | .normal, a, σ | .ret, a, σ => ∃ d σ', Ares P fn a σ d σ' ∧ R (.ret d) σ'
  | .panic c, _, σ => ∃ v, c = [{ v := v, recovered := false }] ∧ R (.pan v) σ
  | _, _, _ => False

def args0 : Nat → List Dat → Fr
  | _, [] => []
  | i, d :: r => (i, d) :: args0 (i + 1) r

theorem args0_get (args : List Dat) : ∀ (k t : Nat), (args0 k args).get t = if k ≤ t then (args[t - k]?).getD .junk else .junk := by
  induction args with
  | nil => intro k t; simp [args0, Fr.get]
  | cons d r ih =>
    intro k t
    simp only [args0, Fr.get]
    by_cases e : k = t
    · subst e; rw [Nat.beq_refl]; simp
    · rw [nbeq_ne e, ih]
      by_cases h : k ≤ t
      · rw [if_pos h, if_pos (by omega)]
        obtain ⟨m, rfl⟩ : ∃ m, t = k + 1 + m := ⟨t - (k + 1), by omega⟩
        rw [show k + 1 + m - (k + 1) = m by omega, show k + 1 + m - k = m + 1 by omega]; simp
      · rw [if_neg h, if_neg (by omega)]

theorem acalls_body {P : Program} {f : FuncId} {fn : Func} {c : Code} {args : List Dat} {σ : List Res} {R : Out → List Res → Prop}
    (hf : P.funcs[f]? = some fn) (hb : fn.body = some c) (hnm : (fn.name == "runtime.NumGoroutine") = false) {n : Nat} (hn : fn.ntmps = n) (hl : Nat.ble args.length n = true)
    (h : AWP P n [] c (abody P fn R) (args0 0 args) σ) : ACalls P f args σ R := by
  refine ⟨⟨fn, hf, hnm, by rw [hb]; rfl⟩, fun F w cargs hi hv => ?_⟩
  have hl := Nat.le_of_ble_eq_true hl
  refine calls_of_wp hf hb (wp_mono (h.run F w _ rfl ?_ hi ?_) ?_)
  · simp [hn, hv.1]; omega
  · intro t
    rw [args0_get]
    simp only [Nat.zero_le, if_true, Nat.sub_zero]
    cases ha : args[t]? with
    | none => exact .junk _
    | some d =>
      have ht : t < cargs.length := by rw [hv.1]; exact (List.getElem?_eq_some_iff.1 ha).1
      have hc : cargs[t]? = some cargs[t] := List.getElem?_eq_getElem ht
      have := hv.2 t d _ ha hc
      rw [Array.getD_eq_getD_getElem?, Array.getElem?_append_left (by simpa using ht)]
      simpa [ht] using this
  · rintro e ca' w' ⟨h1, h2, F', a', σ', h3, h4, h5, h6⟩
    cases e with
    | normal =>
      obtain ⟨d, σ2, hr, hR⟩ := h6
      obtain ⟨v, F2, g1, g2, g3, g4⟩ := hr F' w' ca'.tmps h4 h5
      exact ⟨h1, v, g1, F2, σ2, .ret d, h3.trans g2, g3, g4, hR⟩
    | ret =>
      obtain ⟨d, σ2, hr, hR⟩ := h6
      obtain ⟨v, F2, g1, g2, g3, g4⟩ := hr F' w' ca'.tmps h4 h5
      exact ⟨h1, v, g1, F2, σ2, .ret d, h3.trans g2, g3, g4, hR⟩
    | panic ch =>
      obtain ⟨v, hv', hR⟩ := h6
      exact ⟨h1, F', σ', .pan v, h3, h4, hv', hR⟩
    | exit id => exact h6.elim
    | goto l => exact h6.elim
    | outgrown => exact h6.elim
end Go.Proofs.Ytbfejlmamncemaa.Sk
