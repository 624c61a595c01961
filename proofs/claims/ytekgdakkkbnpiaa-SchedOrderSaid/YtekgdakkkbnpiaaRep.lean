/- How a scheduler lies in memory: its struct, its tasks, its locks. No condition. -/
import Derived.Test.YtekgdakkkbnpiaaProg
import Derived.Test.YtekgdakkkbnpiaaWords
import Derived.Test.YtekgdakkkbnpiaaChg
import Derived.Maps.OwnSet
import Derived.Maps.OwnOps
import Derived.WalkKit
import Derived.WalkLawsBesides
import Derived.WalkSpells
import Derived.Lib.Hide
import Derived.KernelRfl
import Derived.Outline
namespace Go.Proofs.Ytekgdakkkbnpiaa
set_option linter.unusedVariables false
set_option linter.unusedSimpArgs false
open Go Go.RowKit

/-! ### A map of numbers -/
def wfi (k : Int) : Prop := (Lit.int .i64 k).wf = true
def upd (lk : Int → Option Int) (k : Int) (v : Option Int) : Int → Option Int := fun j => if j = k then v else lk j
/-- what a map tells of a key -/
def Tells (D : DataW Unit) (k : Int) : Option Int → Prop
  | none => Maps.has D (.int .i64 k) = false
  | some v => Maps.has D (.int .i64 k) = true ∧ D.atKey (.int .i64 k) (.lit (.int .i64 0)) = .lit (.int .i64 v)
def MapIs (w : World) (M n : Nat) (lk : Int → Option Int) : Prop :=
  ∃ D : DataW Unit, w.ownsMap Try.prog 3 (plainElem Try.prog 3) M n D ∧ ∀ k, wfi k → Tells D k (lk k)
theorem law : Maps.Keyed Try.prog 3 := Maps.int_keyed Try.underlying3
theorem zeroE (w : World) : (zeroValue 3).run Try.prog w = .ok (.int .i64 0) w := by kernel_rfl

theorem MapIs.lt {w : World} {M n : Nat} {lk : Int → Option Int} (h : MapIs w M n lk) : M < w.heap.size := by
  obtain ⟨D, h, _⟩ := h; exact h.lt
theorem MapIs.mono {w : World} {M n m : Nat} {lk : Int → Option Int} (h : MapIs w M n lk) (hm : n ≤ m) : MapIs w M m lk := by
  obtain ⟨D, h, h2⟩ := h; exact ⟨D, h.mono hm, h2⟩
theorem MapIs.same {w w' : World} {M n : Nat} {lk : Int → Option Int} (h : MapIs w M n lk) (hs : w'.heap[M]? = w.heap[M]?) : MapIs w' M n lk := by
  obtain ⟨D, ⟨es, clock, hb, r⟩, h2⟩ := h
  exact ⟨D, ⟨es, clock, hs.trans hb, r⟩, h2⟩
theorem MapIs.made (w : World) : MapIs (w.alloc (.map #[] 0)) w.heap.size 0 (fun _ => none) :=
  ⟨_, World.ownsMap_made _ _ _ _, fun _ _ => rfl⟩

theorem MapIs.look {w : World} {M n : Nat} {lk : Int → Option Int} (h : MapIs w M n lk) {k : Int} (hk : wfi k) :
    (Instr.lookup 68 (.map (some M)) (.int .i64 k) true).run Try.prog w = .ok (.tuple #[.int .i64 ((lk k).getD 0), .bool (lk k).isSome]) w := by
  obtain ⟨D, ho, ht⟩ := h
  have hw0 : (Lit.int .i64 0).wf = true := by decide
  obtain ⟨v, ps, hrun, hv⟩ := ho.look_ok law Try.underlying68 (zeroE _) (plainElem_int Try.underlying3 hw0) (Maps.keyOf_int_mk Try.underlying3 hk)
  obtain ⟨c, rfl, hc, _⟩ := plainElem_int_inv Try.underlying3 hv
  simp only [Prod.mk.injEq] at hc
  rw [hrun]
  have hk2 := ht k hk
  cases hl : lk k with
  | none =>
    rw [hl] at hk2
    have h3 : Maps.has D (.int .i64 k) = false := hk2
    have h4 := Maps.atKey_of_not_has h3 (.lit (.int .i64 0))
    rw [h4] at hc
    have : c = 0 := by simpa using hc.1.symm
    rw [h3, this]; rfl
  | some v =>
    rw [hl] at hk2
    obtain ⟨h3, h4⟩ := hk2
    rw [h4] at hc
    have : c = v := by simpa using hc.1.symm
    rw [h3, this]; rfl

theorem MapIs.store {w : World} {M n : Nat} {lk : Int → Option Int} (h : MapIs w M n lk) (hn : n < maxLen) {k v : Int} (hk : wfi k) (hv : wfi v) :
    ∃ w', (Instr.mapUpdate 68 (.map (some M)) (.int .i64 k) (.int .i64 v)).run Try.prog w = .ok () w' ∧ MapIs w' M (n + 1) (upd lk k (some v)) ∧ w.mapTurned w' M := by
  obtain ⟨D, ho, ht⟩ := h
  obtain ⟨w', hrun, ho', htn⟩ := ho.store law Try.underlying68 hn (Maps.keyOf_int_mk Try.underlying3 hk) (plainElem_int Try.underlying3 hv)
  refine ⟨w', hrun, ⟨_, ho', fun j hj => ?_⟩, htn⟩
  unfold upd
  by_cases e : j = k
  · subst e
    rw [if_pos rfl]
    have hkl : WideAt.IsKeyLit (Lit.int .i64 j) := trivial
    exact ⟨Maps.has_put_same ho.isMap hkl _, Maps.atKey_put_same ho.isMap hkl _ _⟩
  · rw [if_neg e]
    have hne : (Lit.int .i64 j) ≠ (Lit.int .i64 k) := fun he => e (by injection he)
    have h1 := Maps.has_put_other (D := D) hne (.lit (.int .i64 v))
    have h2 := Maps.atKey_put_other (D := D) hne (.lit (.int .i64 v)) (.lit (.int .i64 0))
    have h3 := ht j hj
    cases hl : lk j with
    | none => rw [hl] at h3; exact h1.trans h3
    | some u => rw [hl] at h3; exact ⟨h1.trans h3.1, h2.trans h3.2⟩

theorem MapIs.drop {w : World} {M n : Nat} {lk : Int → Option Int} (h : MapIs w M n lk) {k : Int} (hk : wfi k) (ty : TypeId) :
    ∃ w', (Builtin.delete_ #[68, 3] ty #[.map (some M), .int .i64 k]).run Try.prog w = .ok (.tuple #[]) w' ∧ MapIs w' M n (upd lk k none) ∧ w.mapTurned w' M := by
  obtain ⟨D, ho, ht⟩ := h
  obtain ⟨w', hrun, ho', htn⟩ := ho.drop law Try.underlying68 (Maps.keyOf_int_mk Try.underlying3 hk) ty
  refine ⟨w', hrun, ⟨_, ho', fun j hj => ?_⟩, htn⟩
  unfold upd
  by_cases e : j = k
  · subst e
    rw [if_pos rfl]
    exact Maps.has_del_same
  · rw [if_neg e]
    have hne : (Lit.int .i64 j) ≠ (Lit.int .i64 k) := fun he => e (by injection he)
    have h1 := Maps.has_del_other (D := D) hne
    have h2 := Maps.atKey_del_other (D := D) hne (.lit (.int .i64 0))
    have h3 := ht j hj
    cases hl : lk j with
    | none => rw [hl] at h3; exact h1.trans h3
    | some u => rw [hl] at h3; exact ⟨h1.trans h3.1, h2.trans h3.2⟩

/-! ### The scheduler -/
structure Tk where
  name : ByteArray
  f : Nat
  caps : Array Value
  kind : Int
  on : Int
  since : Nat
  order : Nat
  failed : Bool

structure Sc where
  tks : List Tk
  locks : Int → Option Int
  steps : Nat
  wishes : Nat
  within : Bool
  cap : Nat

def tkCells (t : Tk) : Array Value := #[.string t.name, .func (.func t.f) #[] t.caps, .int .i64 t.kind, .int .i64 t.on, .int .i64 t.since, .int .i64 t.order, .bool t.failed]
def scCells (tv : Value) (M : Nat) (σ : Sc) : Array Value := #[tv, .map (some M), .int .i64 σ.steps, .int .i64 σ.wishes, .bool σ.within]
def ptr (b : Nat) : Value := .pointer (some ⟨b, 0, none⟩)

structure WfTk (t : Tk) : Prop where
  on : wfi t.on
  enters : ∀ args w, (callFunc t.f args).run Try.prog w = .ok (.enter t.f args) w
structure Wfs (σ : Sc) : Prop where
  few : σ.tks.length ≤ 64
  tk : ∀ t ∈ σ.tks, WfTk t
  since : ∀ t ∈ σ.tks, t.since ≤ σ.steps ∧ t.order ≤ σ.wishes

/-- Block S is the scheduler σ, blocks Ts its tasks; C: the blocks that are its own. -/
structure Rep (C : Nat → Prop) (S : Nat) (Ts : List Nat) (σ : Sc) (w : World) : Prop where
  mk' ::
  ex : ∃ (tv : Value) (M : Nat), w.heap[S]? = some (.cells (scCells tv M σ) 71 (0, 0)) ∧ w.ownsRow 0 72 1 tv Ts.length (Ts.map ptr) ∧ MapIs w M σ.cap σ.locks ∧ C M ∧ (∀ k, tv.ownBlock = some k → C k)
  len : Ts.length = σ.tks.length
  nd : Ts.Nodup
  tasks : ∀ (i : Nat) (t : Tk) (T : Nat), σ.tks[i]? = some t → Ts[i]? = some T → w.heap[T]? = some (.cells (tkCells t) 74 (0, 0))
  inS : C S
  inT : ∀ T ∈ Ts, C T
  wf : Wfs σ
  size : ∀ k, C k → k < w.heap.size

/-- a slice that owns its row has a shape -/
theorem own_shape {W : World} {base e size n : Nat} {v : Value} {xs : List Value} (h : W.ownsRow base e size v n xs) :
    ∃ A cap g, v = .slice A n cap ∧ (0 < n → A = some ⟨g, 0, none⟩ ∧ g < W.heap.size ∧ base ≤ g) := by
  rcases h.2 with ⟨rfl, rfl⟩ | ⟨g, cap, cur, rfl, hb, hh, _⟩
  · exact ⟨none, 0, 0, rfl, fun h => by omega⟩
  · exact ⟨_, cap, g, rfl, fun _ => ⟨rfl, (Array.getElem?_eq_some_iff.1 hh).1, hb⟩⟩
theorem own_keep {w w' : World} {e n size : Nat} {tv : Value} {xs : List Value} (h : w.ownsRow 0 e size tv n xs) (hk : ∀ k, tv.ownBlock = some k → w'.heap[k]? = w.heap[k]?) : w'.ownsRow 0 e size tv n xs := by
  rcases h.2 with ⟨rfl, h0⟩ | ⟨g, cap, cur, rfl, hb, hh, hr⟩
  · exact ⟨h.1, .inl ⟨rfl, h0⟩⟩
  · exact ⟨h.1, .inr ⟨g, cap, cur, rfl, hb, (hk g rfl).trans hh, hr⟩⟩

section
variable {C D : Nat → Prop} {S : Nat} {Ts : List Nat} {σ : Sc} {w w' : World}
theorem Rep.chg (h : Rep C S Ts σ w) (hc : Chg D w w') (hd : ∀ k, C k → ¬ D k) : Rep C S Ts σ w' := by
  obtain ⟨⟨tv, M, h1, h2, h3, h8, h9⟩, h4, h5, h6, h7, h10, hw, hs⟩ := h
  have key : ∀ k, C k → w'.heap[k]? = w.heap[k]? := fun k hk => hc.block k (hs k hk) (hd k hk)
  exact ⟨⟨tv, M, (key S h7).trans h1, own_keep h2 (fun k hk => key k (h9 k hk)), h3.same (key M h8), h8, h9⟩, h4, h5, fun i t T ht hT => (key T (h10 T (List.mem_of_getElem? hT))).trans (h6 i t T ht hT), h7, h10, hw, fun k hk => Nat.lt_of_lt_of_le (hs k hk) hc.size⟩
theorem Rep.below (h : Rep C S Ts σ w) (hb : Below w.heap.size w w') : Rep C S Ts σ w' :=
  h.chg (Chg.of_below (C := fun _ => False) hb) (fun _ _ f => f)

/-- The struct is written. -/
theorem Rep.setS (h : Rep C S Ts σ w) (j : Nat) (v : Value) (σ' : Sc) (hv : ∀ tv M, (scCells tv M σ).setIfInBounds j v = scCells tv M σ') (ht : σ'.tks = σ.tks) (hl : σ'.locks = σ.locks) (hc : σ'.cap = σ.cap) (hw' : Wfs σ') :
    Rep C S Ts σ' (w.setCell ⟨S, j, none⟩ v) := by
  obtain ⟨⟨tv, M, h1, h2, h3, h8, h9⟩, h4, h5, h6, h7, h10, hw, hs⟩ := h
  have nS : ∀ k o, w.heap[k]? = some o → (∀ cs, o ≠ .cells cs 71 (0, 0)) → k ≠ S := fun k o hk ho e => by subst e; rw [h1] at hk; cases hk; exact ho _ rfl
  have key : ∀ k, k ≠ S → (w.setCell ⟨S, j, none⟩ v).heap[k]? = w.heap[k]? := fun k hk => Below.heap_setCell w _ v k hk
  have hMS : M ≠ S := by
    obtain ⟨D, ⟨es, clock, hb, _⟩, _⟩ := h3
    exact nS M _ hb (fun cs e => by cases e)
  refine ⟨⟨tv, M, ?_, own_keep h2 (fun k hk => key k ?_), (by rw [hl, hc]; exact h3.same (key M hMS)), h8, h9⟩, by rw [h4, ht], h5, fun i t T ht' hT => (key T ?_).trans (h6 i t T (by rw [← ht]; exact ht') hT), h7, h10, hw', fun k hk => by
    have := hs k hk
    simpa [World.setCell] using this⟩
  · rw [← hv tv M]; exact Blk.set_ (t := 71) h1 j v
  · rcases h2.2 with ⟨rfl, h0⟩ | ⟨g, cap, cur, rfl, hb, hh, hr⟩
    · simp [Value.ownBlock] at hk
    · obtain rfl : g = k := by simpa [Value.ownBlock] using hk
      exact nS g _ hh (fun cs e => by injection e with _ e; simp at e)
  · exact nS T _ (h6 i t T (by rw [← ht]; exact ht') hT) (fun cs e => by injection e with _ e; simp at e)

/-- A task is written. -/
theorem Rep.setT (h : Rep C S Ts σ w) {n T : Nat} {t : Tk} (hT : Ts[n]? = some T) (ht : σ.tks[n]? = some t) (j : Nat) (v : Value) (t' : Tk) (hv : (tkCells t).setIfInBounds j v = tkCells t') (hwt : WfTk t') (hs' : t'.since ≤ σ.steps ∧ t'.order ≤ σ.wishes) :
    Rep C S Ts { σ with tks := σ.tks.set n t' } (w.setCell ⟨T, j, none⟩ v) := by
  obtain ⟨⟨tv, M, h1, h2, h3, h8, h9⟩, h4, h5, h6, h7, h10, hw, hs⟩ := h
  have hb0 := h6 n t T ht hT
  have nT : ∀ k o, w.heap[k]? = some o → (∀ cs, o ≠ .cells cs 74 (0, 0)) → k ≠ T := fun k o hk ho e => by subst e; rw [hb0] at hk; cases hk; exact ho _ rfl
  have key : ∀ k, k ≠ T → (w.setCell ⟨T, j, none⟩ v).heap[k]? = w.heap[k]? := fun k hk => Below.heap_setCell w _ v k hk
  have hn : n < σ.tks.length := (List.getElem?_eq_some_iff.1 ht).1
  refine ⟨⟨tv, M, (key S (nT S _ h1 (fun cs e => by injection e with _ e; simp at e))).trans h1, own_keep h2 (fun k hk => key k ?_), h3.same (key M ?_), h8, h9⟩, by simpa using h4, h5, fun i u U hu hU => ?_, h7, h10, ⟨by simpa using hw.few, fun u hu => ?_, fun u hu => ?_⟩, fun k hk => by
    have := hs k hk
    simpa [World.setCell] using this⟩
  · rcases h2.2 with ⟨rfl, h0⟩ | ⟨g, cap, cur, rfl, hb, hh, hr⟩
    · simp [Value.ownBlock] at hk
    · obtain rfl : g = k := by simpa [Value.ownBlock] using hk
      exact nT g _ hh (fun cs e => by injection e with _ e; simp at e)
  · obtain ⟨D, ⟨es, clock, hb, _⟩, _⟩ := h3
    exact nT M _ hb (fun cs e => by cases e)
  · by_cases e : i = n
    · subst e
      have hU' : U = T := by rw [hT] at hU; injection hU with hU; exact hU.symm
      subst hU'
      simp only [List.getElem?_set, hn, if_true] at hu
      injection hu with hu
      subst hu
      rw [← hv]; exact Blk.set_ (t := 74) hb0 j v
    · have hne : U ≠ T := fun eU => by
        subst eU
        have hi : i < Ts.length := (List.getElem?_eq_some_iff.1 hU).1
        exact e ((List.getElem?_inj hi h5).1 (hU.trans hT.symm))
      simp only [List.getElem?_set, if_neg (Ne.symm e)] at hu
      exact (key U hne).trans (h6 i u U hu hU)
  · rcases List.mem_or_eq_of_mem_set hu with h | rfl
    · exact hw.tk u h
    · exact hwt
  · rcases List.mem_or_eq_of_mem_set hu with h | rfl
    · exact hw.since u h
    · exact hs'

/-- The locks are written. -/
theorem Rep.setM (h : Rep C S Ts σ w) (lk : Int → Option Int) (cap : Nat) (hM : ∀ M, (∃ tv, w.heap[S]? = some (.cells (scCells tv M σ) 71 (0, 0))) → MapIs w' M cap lk ∧ w.mapTurned w' M) :
    Rep C S Ts { σ with locks := lk, cap := cap } w' := by
  obtain ⟨⟨tv, M, h1, h2, h3, h8, h9⟩, h4, h5, h6, h7, h10, hw, hs⟩ := h
  obtain ⟨hm, ht⟩ := hM M ⟨tv, h1⟩
  obtain ⟨es, clock, es', clock', hb, rfl⟩ := ht
  have key : ∀ k o, w.heap[k]? = some o → (∀ a b, o ≠ Obj.map a b) → (Go.ChangeMaps.setBlock w M (.map es' clock')).heap[k]? = w.heap[k]? := fun k o hk ho => by
    have hne : k ≠ M := fun e => by subst e; rw [hb] at hk; cases hk; exact ho _ _ rfl
    exact Array.getElem?_setIfInBounds_ne (Ne.symm hne)
  refine ⟨⟨tv, M, (key S _ h1 (fun _ _ e => by cases e)).trans h1, own_keep h2 (fun k hk => ?_), hm, h8, h9⟩, h4, h5, fun i t T ht hT => (key T _ (h6 i t T ht hT) (fun _ _ e => by cases e)).trans (h6 i t T ht hT), h7, h10, ⟨hw.few, hw.tk, hw.since⟩, fun k hk => by
    have := hs k hk
    simpa [Go.ChangeMaps.setBlock] using this⟩
  rcases h2.2 with ⟨rfl, h0⟩ | ⟨g, cap, cur, rfl, hb', hh, hr⟩
  · simp [Value.ownBlock] at hk
  · obtain rfl : g = k := by simpa [Value.ownBlock] using hk
    exact key g _ hh (fun _ _ e => by cases e)
end
end Go.Proofs.Ytekgdakkkbnpiaa
