/- The operations over abstract values that make or write memory, and calls. No condition. -/
import Derived.Test.YtbfejlmamncemaaSkC
namespace Go.Proofs.Ytbfejlmamncemaa.Sk
open Go Go.RowKit

/-- the cells of a value, each of one cell -/
def dcells : Dat → Option (List Dat)
  | .agg l => if l.all Dat.one then some l else none
  | .raw (.agg cs) => if cs.toList.all Value.oneCell' then some (cs.toList.map .raw) else none
  | d => if d.one then some [d] else none

theorem dcells_V {d : Dat} {l : List Dat} (h : dcells d = some l) {F : Nat → Nat → Prop} {w : World} {cv : Value} (hv : V F w d cv) :
    cv.cells.size = l.length ∧ (∀ v ∈ cv.cells, v.oneCell' = true) ∧ ∀ (j : Nat) d' v, l[j]? = some d' → cv.cells[j]? = some v → V F w d' v := by
  have key : ∀ (d : Dat) (cv : Value), V F w d cv → d.one = true → cv.cells = #[cv] := by
    intro d cv hv h1
    have := hv.one h1
    cases cv <;> first | rfl | simp [Value.oneCell'] at this
  have k2 : ∀ (d : Dat) (cv : Value), V F w d cv → d.one = true → cv.cells.size = [d].length ∧ (∀ v ∈ cv.cells, v.oneCell' = true) ∧ ∀ (j : Nat) d' v, [d][j]? = some d' → cv.cells[j]? = some v → V F w d' v := by
    intro d cv hv h1
    rw [key d cv hv h1]
    refine ⟨rfl, fun v hv' => by rw [Array.mem_singleton] at hv'; rw [hv']; exact hv.one h1, fun j d' v hd hv' => ?_⟩
    cases j with
    | zero => simp at hd hv'; rw [← hd, ← hv']; exact hv
    | succ j => simp at hd
  unfold dcells at h
  split at h
  · split at h
    · rename_i h1
      injection h with h; subst h
      rw [List.all_eq_true] at h1
      cases hv with
      | agg _ cs hl hV =>
        refine ⟨by simp [Value.cells, hl], fun v hv' => ?_, fun j d' v hd hv' => hV j d' v hd (by simpa [Value.cells] using hv')⟩
        obtain ⟨j, hj⟩ := List.getElem?_of_mem (show v ∈ cs by simpa [Value.cells] using hv')
        have hlt : j < cs.length := (List.getElem?_eq_some_iff.1 hj).1
        have hd := List.getElem?_eq_getElem (l := _) (show j < _ from hl ▸ hlt)
        exact (hV j _ v hd hj).one (h1 _ (List.getElem_mem _))
    · cases h
  · split at h
    · rename_i cs h1
      injection h with h; subst h
      have e := raw_of hv
      subst e
      rw [List.all_eq_true] at h1
      refine ⟨by simp [Value.cells], fun v hv' => h1 v (by simpa [Value.cells] using hv'), fun j d' v hd hv' => ?_⟩
      simp only [Value.cells] at hv'
      rw [List.getElem?_map, Array.getElem?_toList, hv'] at hd
      injection hd with hd
      rw [← hd]; exact .raw v
    · cases h
  · split at h
    · rename_i h1
      injection h with h; subst h
      exact k2 d cv hv h1
    · cases h

/-! ### a struct or an array put together -/
def bput (cells : List Dat) (off s : Nat) (l : List Dat) : Option (List Dat) :=
  if l.length = s then (if off + s ≤ cells.length then some (cells.take off ++ l ++ cells.drop (off + s)) else none) else none

def bfill (place : Nat → Option (Nat × Nat)) : List Dat → List (Nat × Option (List Dat)) → Option (List Dat)
  | cells, [] => some cells
  | cells, (i, l) :: r => match place i with
    | none => none
    | some (off, s) => match l with
      | none => none
      | some l => match bput cells off s l with
        | none => none
        | some cells' => bfill place cells' r

def CV (F : Nat → Nat → Prop) (w : World) (l : List Dat) (cs : Array Value) : Prop := cs.size = l.length ∧ ∀ (j : Nat) d v, l[j]? = some d → cs[j]? = some v → V F w d v

theorem foldl_set (off : Nat) : ∀ (l : List Value) (k : Nat) (cs : Array Value), off + k + l.length ≤ cs.size →
    ∀ p, ((l.zipIdx k).foldl (fun cs (x : Value × Nat) => cs.setIfInBounds (off + x.2) x.1) cs)[p]? = if off + k ≤ p ∧ p < off + k + l.length then l[p - (off + k)]? else cs[p]? := by
  intro l
  induction l with
  | nil => intro k cs _ p; simp; omega
  | cons v l ih =>
    intro k cs h p
    simp only [List.zipIdx_cons, List.foldl_cons]
    simp only [List.length_cons] at h ⊢
    rw [ih (k + 1) _ (by simp; omega)]
    by_cases h1 : off + (k + 1) ≤ p ∧ p < off + (k + 1) + l.length
    · rw [if_pos h1, if_pos (by omega), show p - (off + k) = (p - (off + (k + 1))) + 1 by omega, List.getElem?_cons_succ]
    · rw [if_neg h1]
      by_cases h2 : p = off + k
      · subst h2
        rw [if_pos (by omega), Nat.sub_self, Array.getElem?_setIfInBounds_self_of_lt (by omega)]; simp
      · rw [Array.getElem?_setIfInBounds_ne (by omega), if_neg (by omega)]
theorem foldl_set_size (off : Nat) : ∀ (l : List Value) (k : Nat) (cs : Array Value), ((l.zipIdx k).foldl (fun cs (x : Value × Nat) => cs.setIfInBounds (off + x.2) x.1) cs).size = cs.size := by
  intro l
  induction l with
  | nil => intro k cs; rfl
  | cons v l ih => intro k cs; simp only [List.zipIdx_cons, List.foldl_cons]; rw [ih]; simp

theorem CV.put {F : Nat → Nat → Prop} {w : World} {cells l cells' : List Dat} {cs : Array Value} {off s : Nat} {cv : Value} (h : CV F w cells cs) (hb : bput cells off s l = some cells') (hsz : cv.cells.size = l.length) (hl : ∀ (j : Nat) d' v, l[j]? = some d' → cv.cells[j]? = some v → V F w d' v) :
    cv.cells.size = s ∧ off + cv.cells.size ≤ cs.size ∧ CV F w cells' (cv.cells.zipIdx.foldl (fun cs (x : Value × Nat) => cs.setIfInBounds (off + x.2) x.1) cs) := by
  unfold bput at hb
  split at hb
  case isFalse => cases hb
  rename_i h1
  split at hb
  case isFalse => cases hb
  rename_i h2
  injection hb with hb
  refine ⟨by omega, by have := h.1; omega, ?_⟩
  have e : cv.cells.zipIdx.foldl (fun cs (x : Value × Nat) => cs.setIfInBounds (off + x.2) x.1) cs = (cv.cells.toList.zipIdx 0).foldl (fun cs (x : Value × Nat) => cs.setIfInBounds (off + x.2) x.1) cs := by
    rw [← Array.foldl_toList]; simp
  rw [e]
  have hlt : off + 0 + cv.cells.toList.length ≤ cs.size := by have := h.1; simp; omega
  refine ⟨?_, fun j d v hd hv => ?_⟩
  · rw [foldl_set_size, h.1, ← hb]; simp; omega
  · rw [foldl_set off _ _ _ hlt] at hv
    rw [← hb] at hd
    simp only [Nat.add_zero, Array.length_toList] at hv
    by_cases c1 : j < off
    · rw [if_neg (by omega)] at hv
      rw [List.getElem?_append_left (by simp; omega), List.getElem?_append_left (by simp; omega), List.getElem?_take, if_pos c1] at hd
      exact h.2 j d v hd hv
    · by_cases c2 : j < off + s
      · rw [if_pos (by omega)] at hv
        rw [List.getElem?_append_left (by simp; omega), List.getElem?_append_right (by simp; omega)] at hd
        have e2 : min off cells.length = off := by omega
        rw [List.length_take, e2] at hd
        exact hl (j - off) d v hd (by simpa using hv)
      · rw [if_neg (by omega)] at hv
        rw [List.getElem?_append_right (by simp; omega)] at hd
        rw [List.getElem?_drop, List.length_append, List.length_take] at hd
        rw [show off + s + (j - (min off cells.length + l.length)) = j by omega] at hd
        exact h.2 j d v hd hv

theorem fill_CV {F : Nat → Nat → Prop} {w : World} {place : Nat → Option (Nat × Nat)} {a : Fr} {ca : Act} (hv : VL F w a ca.tmps) : ∀ (parts : List (Nat × Operand)) (cells cells' : List Dat) (cs : Array Value), CV F w cells cs →
    bfill place cells (parts.map fun x => (x.1, dcells (ev a x.2))) = some cells' → ∃ cs', Instr.fill place cs (parts.map fun x => (x.1, ca.eval x.2)) = some cs' ∧ CV F w cells' cs' := by
  intro parts
  induction parts with
  | nil => intro cells cells' cs h hb; simp only [List.map_nil, bfill, Option.some.injEq] at hb; exact ⟨cs, rfl, hb ▸ h⟩
  | cons x parts ih =>
    intro cells cells' cs h hb
    simp only [List.map_cons, bfill] at hb
    cases hp : place x.1 with
    | none => rw [hp] at hb; cases hb
    | some os =>
      obtain ⟨off, s⟩ := os
      rw [hp] at hb
      simp only at hb
      cases hc : dcells (ev a x.2) with
      | none => rw [hc] at hb; cases hb
      | some l =>
        rw [hc] at hb
        simp only at hb
        cases hq : bput cells off s l with
        | none => rw [hq] at hb; cases hb
        | some c2 =>
          rw [hq] at hb
          simp only at hb
          obtain ⟨g1, g2, g3⟩ := dcells_V hc (ev_V hv x.2)
          obtain ⟨k1, k2, k3⟩ := h.put hq g1 g3
          obtain ⟨cs', r1, r2⟩ := ih c2 cells' _ k3 hb
          refine ⟨cs', ?_, r2⟩
          simp only [List.map_cons, Instr.fill, hp]
          rw [if_neg (by simp only [Bool.or_eq_true, decide_eq_true_eq, not_or]; omega)]
          exact r1

section
variable {P : Program} {a : Fr} {σ : List Res} {o : Oper}

theorem zero_CV (F : Nat → Nat → Prop) (w : World) (z : List Value) : CV F w (z.map .raw) z.toArray :=
  ⟨by simp, fun j d v hd hv => by
    rw [List.getElem?_map] at hd
    rw [List.getElem?_toArray] at hv
    rw [hv] at hd
    injection hd with hd
    rw [← hd]; exact .raw v⟩

theorem CV.agg {F : Nat → Nat → Prop} {w : World} {l : List Dat} {cs : Array Value} (h : CV F w l cs) : V F w (.agg l) (.agg cs) := by
  have := V.agg (F := F) (w := w) l cs.toList (by simp [h.1]) (fun j d v hd hv => h.2 j d v hd (by simpa using hv))
  simpa using this

theorem mapM_sizes {fs : Array Field} {offs : List (Nat × Nat)} (hl : offs.length = fs.size) (h : ∀ (f : Nat) o s, offs[f]? = some (o, s) → ∃ fd, fs[f]? = some fd ∧ fd.offset = o ∧ (P.info? fd.type).map (·.size) = some s) (w : World) :
    (fs.mapM (m := Sem) fun f => do pure (f.offset, ← sizeOf f.type)).run P w = .ok offs.toArray w := by
  have key : ∀ (l : List Field) (offs : List (Nat × Nat)), offs.length = l.length → (∀ (f : Nat) o s, offs[f]? = some (o, s) → ∃ fd, l[f]? = some fd ∧ fd.offset = o ∧ (P.info? fd.type).map (·.size) = some s) →
      (l.mapM (m := Sem) fun f => do pure (f.offset, ← sizeOf f.type)).run P w = .ok offs w := by
    intro l
    induction l with
    | nil => intro offs hl _; cases offs with | nil => simp | cons _ _ => simp at hl
    | cons f l ih =>
      intro offs hl h
      cases offs with
      | nil => simp at hl
      | cons os offs =>
        obtain ⟨o, s⟩ := os
        obtain ⟨fd, h1, h2, h3⟩ := h 0 o s rfl
        simp only [List.getElem?_cons_zero, Option.some.injEq] at h1
        subst h1
        have := ih offs (by simpa using hl) (fun f o s hf => by simpa using h (f + 1) o s (by simpa using hf))
        simp only [List.mapM_cons, Sem.run_bind, run_sizeOf_of h3, this, Result.andThen_ok, Sem.run_pure, h2]
  have := key fs.toList offs (by simpa using hl) (fun f o s hf => by obtain ⟨fd, h1, h2⟩ := h f o s hf; exact ⟨fd, by simpa using h1, h2⟩)
  rw [Array.mapM_eq_mapM_toList]
  simp only [Sem.run_map, this, Result.andThen_ok]

theorem q_build {tab : Tab} (htab : TabOk P tab) {t : TypeId} {parts : Array (Nat × Operand)} {ti : TI} {fs : Array Field} {l : List Dat} (ho : o.op = .build t parts) (hte : tab t = some ti) (hdesc : ti.desc = .struct fs)
    (hb : bfill (fun i => ti.offs[i]?) (ti.zero.map .raw) (parts.toList.map fun x => (x.1, dcells (ev a x.2))) = some l) : QOp P o a σ (.agg l) := by
  intro F w ca hinv hv
  have hok := htab t ti hte
  have hu := hok.und
  rw [hdesc] at hu
  obtain ⟨hl, hfl⟩ := hok.flds fs hdesc
  obtain ⟨cs, h1, h2⟩ := fill_CV hv parts.toList _ _ _ (zero_CV F w ti.zero) hb
  refine ⟨.agg cs, h2.agg, fun w1 _ => ?_⟩
  obtain ⟨z, hz1, hz2⟩ := hok.run_zero w1
  have hm := mapM_sizes (P := P) hl (fun f o s hf => (hfl f o s hf).2) w1
  have e : (parts.map fun x => (x.1, ca.eval x.2)).toList = parts.toList.map fun x => (x.1, ca.eval x.2) := by simp
  have e2 : (fun i : Nat => (ti.offs.toArray)[i]?) = fun i : Nat => ti.offs[i]? := by funext i; simp
  simp only [execOp, ho, Instr.build, Sem.run_bind, hz1, Result.andThen_ok, run_underlying hu, hm, hz2]
  rw [e, e2, h1]
  simp

theorem lt_of_cell {w : World} {b o : Nat} {v : Value} (h : w.cell? ⟨b, o, none⟩ = some v) : b < w.heap.size := World.block_lt_of_cell? w ⟨b, o, none⟩ h
theorem Inv.lt {F : Nat → Nat → Prop} {σ : List Res} {w : World} (h : Inv F σ w) {b o : Nat} (hF : F b o) : b < w.heap.size := by
  obtain ⟨v, hv, _⟩ := h.cell b o hF
  exact lt_of_cell hv

theorem blks_cons (r : Res) (σ : List Res) : blks (r :: σ) = (match r.blk with | some b => [b] | none => []) ++ blks σ := by
  unfold blks; rw [List.filterMap_cons]; cases r.blk <;> rfl

/-- one more block, known to be this -/
theorem Inv.alloc {F : Nat → Nat → Prop} {σ : List Res} {w : World} (h : Inv F σ w) (ob : Obj) (r : Res) (hb : r.blk = some w.heap.size) (hr : Inv F σ (w.alloc ob) → ResOk F (w.alloc ob) r) :
    Inv F (r :: σ) (w.alloc ob) ∧ Ext F σ w F (r :: σ) (w.alloc ob) := by
  have hold : ∀ k, k < w.heap.size → (w.alloc ob).heap[k]? = w.heap[k]? := fun k hk => Below.heap_alloc w ob k hk
  have hcell : ∀ b o, F b o → (w.alloc ob).cell? ⟨b, o, none⟩ = w.cell? ⟨b, o, none⟩ := fun b o hF => World.cell?_of_block (a := ⟨b, o, none⟩) (hold b (h.lt hF))
  have h0 : Inv F σ (w.alloc ob) := by
    refine ⟨fun b o hF => by rw [hcell b o hF]; exact h.cell b o hF, fun r hr => ?_, h.nodup⟩
    exact (h.res r hr).keep (fun _ _ h => h) hcell (fun k hk => hold k ((h.res r hr).lt hk)) (fun _ _ _ h => h)
  have hb' : blks (r :: σ) = w.heap.size :: blks σ := by rw [blks_cons, hb]; rfl
  refine ⟨⟨h0.cell, fun r' hr' => ?_, ?_⟩, ⟨fun _ _ h => h, hcell, fun k hk _ => hold k hk, by simp, rfl, rfl, rfl, fun k hk => ?_, fun _ _ h => .inl h⟩⟩
  · rcases List.mem_cons.1 hr' with rfl | hr'
    · exact hr h0
    · exact h0.res r' hr'
  · rw [hb', List.nodup_cons]
    refine ⟨fun hm => ?_, h.nodup⟩
    obtain ⟨r', hr', hk⟩ := List.mem_filterMap.1 hm
    exact Nat.lt_irrefl _ ((h.res r' hr').lt hk)
  · rw [hb', List.mem_cons] at hk
    rcases hk with rfl | hk
    · exact .inr (Nat.le_refl _)
    · exact .inl hk

theorem Inv.alloc_box {F : Nat → Nat → Prop} {σ : List Res} {w : World} (h : Inv F σ w) {cells : List Dat} {cs : Array Value} (hc : CV F w cells cs) (h1 : ∀ v ∈ cs, v.oneCell' = true) (k : Nat) (T : TypeId) :
    Inv F (.box k w.heap.size T cells :: σ) (w.alloc (.cells cs T)) ∧ Ext F σ w F (.box k w.heap.size T cells :: σ) (w.alloc (.cells cs T)) := by
  refine h.alloc _ _ rfl fun h0 => ⟨cs, heap_alloc_new w _, hc.1, h1, fun j d v hd hv => ?_, fun o hF => Nat.lt_irrefl _ (h.lt hF)⟩
  refine (hc.2 j d v hd hv).mono (fun _ _ h => h) fun b o hF => World.cell?_of_block (a := ⟨b, o, none⟩) (Below.heap_alloc w _ b (h.lt hF))

section
variable {n : Nat} {ds : List Deferred} {Q : Post} {ops : Array Oper} {rest : List Oper}

theorem put_some {ca : Act} {t : Nat} (v : Value) : (ca.put (some t) v).defers = ca.defers ∧ (ca.put (some t) v).tmps.size = ca.tmps.size := by simp [Act.put]

/-- an operation that yields a value and comes to another world -/
theorem alst_run {t : Nat} (hd : o.dst = some t) (hg : agd ops a o = some true) (ht : Nat.blt t n = true)
    (h : ∀ F w (ca : Act), Inv F σ w → VL F w a ca.tmps → ∃ cv w' F' d σ', (execOp ca.eval o).run P w = .ok (.value cv) w' ∧ Ext F σ w F' σ' w' ∧ Inv F' σ' w' ∧ V F' w' d cv ∧ ALst P n ds ops rest Q ((t, d) :: a) σ') : ALst P n ds ops (o :: rest) Q a σ := by
  refine ⟨fun F w ca h1 h2 h3 h4 => ?_⟩
  obtain ⟨cv, w', F', d, σ', hr, he, hi, hv, hn⟩ := h F w ca h3 h4
  unfold wpList
  rw [agd_spec h4 hg, if_pos rfl]
  left
  unfold Oper.wp
  rw [hr, Oper.upon_value, hd]
  refine wpList_mono (fun e _ _ q => lift_trans he q) _ _ _ (hn.run F' w' _ ?_ ?_ hi ((h4.ext he).put ?_ hv))
  · exact h1
  · simp [Act.put, h2]
  · rw [h2]; simpa using ht
theorem alst_run_skip (hd : o.dst = none) (hg : agd ops a o = some true)
    (h : ∀ F w (ca : Act), Inv F σ w → VL F w a ca.tmps → ∃ w' F' σ', (execOp ca.eval o).run P w = .ok .skip w' ∧ Ext F σ w F' σ' w' ∧ Inv F' σ' w' ∧ ALst P n ds ops rest Q a σ') : ALst P n ds ops (o :: rest) Q a σ := by
  refine ⟨fun F w ca h1 h2 h3 h4 => ?_⟩
  obtain ⟨w', F', σ', hr, he, hi, hn⟩ := h F w ca h3 h4
  unfold wpList
  rw [agd_spec h4 hg, if_pos rfl]
  left
  unfold Oper.wp
  rw [hr, Oper.upon_skip, hd]
  exact wpList_mono (fun e _ _ q => lift_trans he q) _ _ _ (hn.run F' w' _ h1 h2 hi (h4.ext he))

theorem alst_alloc {tab : Tab} (htab : TabOk P tab) {t : Nat} {T : TypeId} {ti : TI} (ho : o.op = .alloc T) (hd : o.dst = some t) (hg : agd ops a o = some true) (ht : Nat.blt t n = true) (hte : tab T = some ti)
    (h : ∀ b, ALst P n ds ops rest Q ((t, .ref t b 0) :: a) (.box t b T (ti.zero.map .raw) :: σ)) : ALst P n ds ops (o :: rest) Q a σ := by
  refine alst_run hd hg ht fun F w ca hi hv => ?_
  have hok := htab T ti hte
  obtain ⟨z, hz1, hz2⟩ := hok.run_zero w
  obtain ⟨i, e⟩ := hi.alloc_box (zero_CV F w ti.zero) (fun v hv => List.all_eq_true.1 hok.one v (by simpa using hv)) t T
  refine ⟨.pointer (some ⟨w.heap.size, 0, none⟩), _, F, _, _, ?_, e, i, .ref t _ 0, h w.heap.size⟩
  simp [execOp, ho, Instr.alloc, hz1, newVar, newRow, hz2, World.alloc_eq]

theorem alst_box {t : Nat} {T : TypeId} {x : Operand} {l : List Dat} (ho : o.op = .box T x) (hd : o.dst = some t) (hg : agd ops a o = some true) (ht : Nat.blt t n = true) (hx : dcells (ev a x) = some l)
    (h : ∀ b, ALst P n ds ops rest Q ((t, .ref t b 0) :: a) (.box t b T l :: σ)) : ALst P n ds ops (o :: rest) Q a σ := by
  refine alst_run hd hg ht fun F w ca hi hv => ?_
  obtain ⟨g1, g2, g3⟩ := dcells_V hx (ev_V hv x)
  obtain ⟨i, e⟩ := hi.alloc_box ⟨g1, g3⟩ g2 t T
  refine ⟨.pointer (some ⟨w.heap.size, 0, none⟩), _, F, _, _, ?_, e, i, .ref t _ 0, h w.heap.size⟩
  simp [execOp, ho, Instr.box, newVar, newRow, World.alloc_eq]

/-- what is owned is written -/
theorem Inv.set {F : Nat → Nat → Prop} {σ : List Res} {w w' : World} (h : Inv F σ w) {m b : Nat} {r r' : Res} (hm : σ[m]? = some r) (hb : r.blk = some b) (hb' : r'.blk = some b) (hc : ∀ b o, F b o → w'.cell? ⟨b, o, none⟩ = w.cell? ⟨b, o, none⟩)
    (ho : ∀ k, k ≠ b → w'.heap[k]? = w.heap[k]?) (hs : w'.heap.size = w.heap.size) (hx : w'.os = w.os ∧ w'.tape = w.tape ∧ w'.output = w.output) (hr : ResOk F w' r') : Inv F (σ.set m r') w' ∧ Ext F σ w F (σ.set m r') w' := by
  have hlt : m < σ.length := (List.getElem?_eq_some_iff.1 hm).1
  have hblks : blks (σ.set m r') = blks σ := by
    have e : σ = σ.take m ++ r :: σ.drop (m + 1) := by
      have := List.getElem?_eq_some_iff.1 hm
      obtain ⟨h1, h2⟩ := this
      rw [← h2]; simp
    rw [List.set_eq_take_append_cons_drop, if_pos hlt]
    conv => rhs; rw [e]
    rw [blks_append, blks_append, blks_cons, blks_cons, hb, hb']
  have hin : b ∈ blks σ := mem_blks (List.mem_of_getElem? hm) hb
  refine ⟨⟨fun b o hF => by rw [hc b o hF]; exact h.cell b o hF, fun q hq => ?_, by rw [hblks]; exact h.nodup⟩, ⟨fun _ _ h => h, hc, fun k hk hn => ho k fun e => hn (e ▸ hin), by omega, hx.1, hx.2.1, hx.2.2, fun k hk => .inl (hblks ▸ hk), fun _ _ h => .inl h⟩⟩
  obtain ⟨j, hj⟩ := List.getElem?_of_mem hq
  rw [List.getElem?_set] at hj
  split at hj
  · injection hj with hj; rw [← hj]; exact hr
  · rename_i hne
    have hmem := List.mem_of_getElem? hj
    refine (h.res q hmem).keep (fun _ _ h => h) hc (fun k hk => ho k fun e => ?_) (fun _ _ _ h => h)
    -- two entries of one block
    subst e
    have hnd := h.nodup
    have e : σ = σ.take m ++ r :: σ.drop (m + 1) := by
      obtain ⟨h1, h2⟩ := List.getElem?_eq_some_iff.1 hm
      rw [← h2]; simp
    rw [e, blks_append, blks_cons, hb] at hnd
    rw [List.nodup_append] at hnd
    have hq2 : q ∈ σ.take m ∨ q ∈ σ.drop (m + 1) := by
      rcases Nat.lt_or_gt_of_ne hne with h1 | h1
      · right; exact List.mem_of_getElem? (i := j - (m + 1)) (by rw [List.getElem?_drop, show m + 1 + (j - (m + 1)) = j by omega]; exact hj)
      · left; exact List.mem_of_getElem? (i := j) (by rw [List.getElem?_take, if_pos h1]; exact hj)
    rcases hq2 with hq2 | hq2
    · exact hnd.2.2 _ (mem_blks hq2 hk) _ (by simp) rfl
    · have := hnd.2.1
      simp only [List.cons_append, List.nil_append, List.nodup_cons] at this
      exact this.1 (mem_blks hq2 hk)

theorem alst_store_box {tab : Tab} (htab : TabOk P tab) {T T' : TypeId} {ti : TI} {x y : Operand} {k k' b off : Nat} {cells cells' l : List Dat} (m : Nat) (ho : o.op = .store T x y) (hd : o.dst = none) (hg : agd ops a o = some true) (hx : ev a x = .ref k b off) (hm : σ[m]? = some (.box k' b T' cells))
    (hy : dcells (ev a y) = some l) (hte : tab T = some ti) (hl : ti.sz = l.length) (hb : bput cells off l.length l = some cells') (h : ALst P n ds ops rest Q a (σ.set m (.box k' b T' cells'))) : ALst P n ds ops (o :: rest) Q a σ := by
  refine alst_run_skip hd hg fun F w ca hi hv => ?_
  have hp := ev_V hv x
  rw [hx] at hp
  obtain ⟨g1, g2, g3⟩ := dcells_V hy (ev_V hv y)
  obtain ⟨cur, hc, hs, h1, hvv, hf⟩ := hi.box hm
  generalize he : ca.eval x = ex at hp
  cases hp with
  | ref =>
    unfold bput at hb
    rw [if_pos rfl] at hb
    split at hb
    case isFalse => cases hb
    rename_i hle
    injection hb with hb
    have hst := run_storeCells_at P b off T' (ca.eval y).cells.toList 0 cur w hc (by simp; omega) (fun v hv => g2 v (by simpa using hv))
    simp only [Nat.add_zero, Array.length_toList] at hst
    obtain ⟨i, e⟩ := hi.set (w' := w.setRow b (cur.toList.take off ++ (ca.eval y).cells.toList ++ cur.toList.drop (off + (ca.eval y).cells.size)).toArray) (r' := .box k' b T' cells') hm rfl rfl (fun b' o' hF => World.cell?_of_block (a := ⟨b', o', none⟩) (setRow_other w b b' _ (fun e => hf o' (e ▸ hF))))
      (fun q hq => setRow_other w b q _ hq) (size_setRow _ _ _) ⟨rfl, rfl, rfl⟩ (by
        refine ⟨_, setRow_heap w b cur _ T' _ hc, ?_, fun v hv => ?_, fun j d v hd hv => ?_, hf⟩
        · simp [← hb]; omega
        · simp only [List.mem_toArray, List.mem_append] at hv
          rcases hv with (hv | hv) | hv
          · exact h1 v (by simpa using List.mem_of_mem_take hv)
          · exact g2 v (by simpa using hv)
          · exact h1 v (by simpa using List.mem_of_mem_drop hv)
        · have hmono : V F w d v → V F (w.setRow b (cur.toList.take off ++ (ca.eval y).cells.toList ++ cur.toList.drop (off + (ca.eval y).cells.size)).toArray) d v := fun h => h.mono (fun _ _ h => h) (fun b' o' hF => World.cell?_of_block (a := ⟨b', o', none⟩) (setRow_other w b b' _ (fun e => hf o' (e ▸ hF))))
          refine hmono ?_
          rw [← hb] at hd
          rw [List.getElem?_toArray] at hv
          by_cases c1 : j < off
          · rw [List.getElem?_append_left (by simp; omega), List.getElem?_append_left (by simp; omega), List.getElem?_take, if_pos c1] at hd hv
            exact hvv j d v hd (by simpa using hv)
          · by_cases c2 : j < off + l.length
            · rw [List.getElem?_append_left (by simp; omega), List.getElem?_append_right (by simp; omega), List.length_take] at hd hv
              rw [show min off cells.length = off by omega] at hd
              rw [show min off cur.toList.length = off by simp; omega] at hv
              exact g3 (j - off) d v hd (by simpa using hv)
            · rw [List.getElem?_append_right (by simp; omega), List.getElem?_drop] at hd hv
              simp only [List.length_append, List.length_take, Array.length_toList] at hd hv
              rw [show off + l.length + (j - (min off cells.length + l.length)) = j by omega] at hd
              rw [show off + (ca.eval y).cells.size + (j - (min off cur.size + (ca.eval y).cells.size)) = j by omega] at hv
              exact hvv j d v hd (by simpa using hv))
    refine ⟨_, F, _, ?_, e, i, h⟩
    have hz := (htab T ti hte).run_sizeOf
    simp [execOp, ho, he, Instr.storeAt, Instr.sureAddr, storeVar, hz, hl, g1, hst]
end

/-! ### calls -/
def Sub (d d' : Dat) : Prop := ∀ F w cv, V F w d cv → V F w d' cv
theorem Sub.refl (d : Dat) : Sub d d := fun _ _ _ h => h
theorem Sub.trans {d d' d2 : Dat} (h : Sub d d') (h' : Sub d' d2) : Sub d d2 := fun F w cv hv => h' F w cv (h F w cv hv)
theorem Sub.junk (d : Dat) : Sub d .junk := fun _ _ cv _ => .junk cv
theorem Sub.osl (k : Nat) (v : Value) (sz : Nat) (l : List (List Dat)) : Sub (.osl k v sz l) (.sl sz l) := fun F w cv h => by cases h; assumption
theorem Sub.oslk (k k' : Nat) (v : Value) (sz : Nat) (l : List (List Dat)) : Sub (.osl k v sz l) (.osl k' v sz l) := fun F w cv h => by cases h with | osl _ _ _ _ h => exact .osl _ _ _ _ h
theorem Sub.nil (sz : Nat) : Sub (.raw (.slice none 0 0)) (.sl sz []) := fun F w cv h => HasSl.V (.nil sz) h
theorem Sub.ref (k k' b off : Nat) : Sub (.ref k b off) (.ref k' b off) := fun F w cv h => by cases h; exact .ref k' b off
theorem Sub.ptr (k' b off : Nat) : Sub (.raw (.pointer (some ⟨b, off, none⟩))) (.ref k' b off) := fun F w cv h => by rw [raw_of h]; exact .ref k' b off
theorem Sub.unptr (k b off : Nat) : Sub (.ref k b off) (.raw (.pointer (some ⟨b, off, none⟩))) := fun F w cv h => by cases h; exact .raw _
theorem Sub.mslk (k k' : Nat) (v : Value) (n : Nat) : Sub (.msl k v n) (.msl k' v n) := fun F w cv h => by cases h with | msl _ _ _ h hm => exact .msl _ _ _ h hm
theorem Sub.msl_raw (k : Nat) (v : Value) (n : Nat) : Sub (.msl k v n) (.raw v) := fun F w cv h => by cases h; exact .raw v

inductive SubL : List Dat → List Dat → Prop
  | nil : SubL [] []
  | cons {d d' : Dat} {l l' : List Dat} (h : Sub d d') (t : SubL l l') : SubL (d :: l) (d' :: l')
theorem SubL.refl : ∀ l : List Dat, SubL l l
  | [] => .nil
  | d :: l => .cons (.refl d) (SubL.refl l)
theorem SubL.args {l l' : List Dat} (h : SubL l l') {F : Nat → Nat → Prop} {w : World} : ∀ {cs : List Value}, VArgs F w l cs → VArgs F w l' cs := by
  induction h with
  | nil => exact fun h => h
  | cons h t ih =>
    intro cs hv
    cases cs with
    | nil => exact absurd hv.1 (by simp)
    | cons c cs =>
      obtain ⟨g1, g2⟩ := ih (cs := cs) ⟨by simpa using hv.1, fun i d v hd hv' => hv.2 (i + 1) d v hd hv'⟩
      refine ⟨by simp [g1], fun i d v hd hv' => ?_⟩
      cases i with
      | zero =>
        simp only [List.getElem?_cons_zero, Option.some.injEq] at hd hv'
        subst hd; subst hv'
        exact h F w _ (hv.2 0 _ _ rfl rfl)
      | succ i => exact g2 i d v hd hv'

def ResSub (r r' : Res) : Prop := r'.blk = r.blk ∧ ∀ F w, ResOk F w r → ResOk F w r'
theorem ResSub.refl (r : Res) : ResSub r r := ⟨rfl, fun _ _ h => h⟩
inductive ResSubL : List Res → List Res → Prop
  | nil : ResSubL [] []
  | cons {r r' : Res} {l l' : List Res} (h : ResSub r r') (t : ResSubL l l') : ResSubL (r :: l) (r' :: l')
theorem ResSubL.refl : ∀ l : List Res, ResSubL l l
  | [] => .nil
  | r :: l => .cons (.refl r) (ResSubL.refl l)
theorem ResSubL.blks {l l' : List Res} (h : ResSubL l l') : blks l' = blks l := by
  induction h with
  | nil => rfl
  | cons h t ih => rw [blks_cons, blks_cons, h.1, ih]
theorem ResSubL.inv {σ σ' : List Res} (h : ResSubL σ σ') {F : Nat → Nat → Prop} {w : World} (hi : Inv F σ w) : Inv F σ' w := by
  refine ⟨hi.cell, ?_, h.blks ▸ hi.nodup⟩
  have := hi.res
  clear hi
  induction h with
  | nil => exact fun r hr => by cases hr
  | cons h t ih =>
    intro r hr
    rcases List.mem_cons.1 hr with rfl | hr
    · exact h.2 F w (this _ (List.mem_cons_self ..))
    · exact ih (fun r hr => this r (List.mem_cons_of_mem _ hr)) r hr
theorem ResSubL.append {a b c d : List Res} (h : ResSubL a b) (h' : ResSubL c d) : ResSubL (a ++ c) (b ++ d) := by
  induction h with
  | nil => exact h'
  | cons h t ih => exact .cons h ih
theorem ResSubL.ext {σ σ' : List Res} (h : ResSubL σ σ') (F : Nat → Nat → Prop) (w : World) : Ext F σ w F σ' w :=
  ⟨fun _ _ h => h, fun _ _ _ => rfl, fun _ _ _ => rfl, Nat.le_refl _, rfl, rfl, rfl, fun k hk => .inl (h.blks ▸ hk), fun _ _ h => .inl h⟩

def RV (d : Dat) (τ : List Res) : Out → List Res → Prop := fun o σ => o = .ret d ∧ σ = τ

theorem vargs_of {F : Nat → Nat → Prop} {w : World} {a : Fr} {ca : Act} (h4 : VL F w a ca.tmps) (first : Array Value) (xs : Array Operand) (cap : Array Value) :
    VArgs F w (first.toList.map Dat.raw ++ xs.toList.map (ev a) ++ cap.toList.map Dat.raw) (first.toList ++ xs.toList.map ca.eval ++ cap.toList) := by
  refine ⟨by simp, fun i d v hd hv => ?_⟩
  have key : ∀ (l : List Value) (i : Nat) d v, (l.map Dat.raw)[i]? = some d → l[i]? = some v → V F w d v := fun l i d v hd hv => by
    rw [List.getElem?_map, hv] at hd; injection hd with hd; rw [← hd]; exact .raw v
  have key2 : ∀ (l : List Operand) (i : Nat) d v, (l.map (ev a))[i]? = some d → (l.map ca.eval)[i]? = some v → V F w d v := fun l i d v hd hv => by
    rw [List.getElem?_map] at hd hv
    cases hl : l[i]? with
    | none => rw [hl] at hd; cases hd
    | some x => rw [hl] at hd hv; injection hd with hd; injection hv with hv; rw [← hd, ← hv]; exact ev_V h4 x
  rw [List.append_assoc] at hd hv
  by_cases c1 : i < first.size
  · rw [List.getElem?_append_left (by simpa using c1)] at hd hv
    exact key _ _ _ _ hd hv
  · rw [List.getElem?_append_right (by simp; omega)] at hd hv
    simp only [List.length_map] at hd hv
    by_cases c2 : i - first.toList.length < xs.size
    · rw [List.getElem?_append_left (by simpa using c2)] at hd hv
      exact key2 _ _ _ _ hd hv
    · rw [List.getElem?_append_right (by simp at c2 ⊢; omega)] at hd hv
      simp only [List.length_map] at hd hv
      exact key _ _ _ _ hd hv

section
variable {n : Nat} {ds : List Deferred} {Q : Post} {ops : Array Oper} {rest : List Oper}

theorem alst_call {t : Nat} {x : Operand} {xs : Array Operand} {ats : Array TypeId} {f : FuncId} {first cap : Array Value} {args args' : List Dat} {σ1 σ1' σ2 : List Res} {R : Out → List Res → Prop}
    (hc : ACalls P f args' σ1' R) (ho : o.op = .call { callee := .value x, args := xs, argTypes := ats }) (hd : o.dst = some t) (hg : agd ops a o = some true) (ht : Nat.blt t n = true)
    (hx : ev a x = .raw (.func (.func f) first cap)) (ha : first.toList.map Dat.raw ++ xs.toList.map (ev a) ++ cap.toList.map Dat.raw = args) (hs : SubL args args')
    (p : σ.Perm (σ1 ++ σ2)) (hσ : ResSubL σ1 σ1')
    (hk : ∀ d τ, R (.ret d) τ → ALst P n ds ops rest Q ((t, d) :: a) (τ ++ σ2)) (hp : ∀ v τ, R (.pan v) τ → Q (.panic [{ v := v, recovered := false }]) a (τ ++ σ2)) : ALst P n ds ops (o :: rest) Q a σ := by
  refine ⟨fun F w ca h1 h2 h3 h4 => ?_⟩
  unfold wpList
  rw [agd_spec h4 hg, if_pos rfl]
  left
  obtain ⟨⟨fn, hf, hnm, hbd⟩, _⟩ := id hc
  have hfr := (hc.frame (σ := σ1' ++ σ2) (σ₂ := σ2) (.refl _)).2 F w (first.toList ++ xs.toList.map ca.eval ++ cap.toList) ((hσ.append (.refl σ2)).inv (h3.perm p)) (hs.args ?_)
  · unfold Oper.wp
    have hrun : (execOp ca.eval o).run P w = .ok (.enter f (first.toList ++ xs.toList.map ca.eval ++ cap.toList).toArray) w := by
      have e : (first.toList ++ xs.toList.map ca.eval ++ cap.toList).toArray = first ++ xs.map ca.eval ++ cap := by
        apply Array.toList_inj.1; simp
      rw [e]
      simp [execOp, ho, resolve, ev_raw h4 hx, Deferred.ofValue, invoke, callFunc, hf, hnm, hbd]
      rw [if_neg (by simpa using hnm), if_neg (by intro e; rw [e] at hbd; cases hbd)]
    rw [hrun, Oper.upon_enter]
    refine Calls.mono hfr fun e w' => ?_
    rintro ⟨F', σ', o', hx', hi', ho', τ, rfl, hR⟩
    have hext : Ext F σ w F' (τ ++ σ2) w' := ((Ext.refl F σ w).perm (.refl _) p |>.trans ((hσ.append (.refl σ2)).ext F w)).trans hx'
    cases e with
    | returned v =>
      cases o' with
      | ret d =>
        rw [hd]
        refine wpList_mono (fun e _ _ q => lift_trans hext q) _ _ _ ((hk d τ hR).run F' w' _ h1 ?_ hi' ((h4.ext hext).put ?_ ho'))
        · simp [Act.put, h2]
        · rw [h2]; simpa using ht
      | pan v => exact ho'.elim
    | panicked c =>
      cases o' with
      | ret d => exact ho'.elim
      | pan v =>
        have ho' : c = _ := ho'
        subst ho'
        exact ⟨h1, h2, F', a, _, hext, hi', h4.ext hext, hp v τ hR⟩
    | outgrown => cases o' <;> exact ho'.elim
  · rw [← ha]
    refine ⟨by simp, fun i d v hd hv => ?_⟩
    have key : ∀ (l : List Value) (i : Nat) d v, (l.map Dat.raw)[i]? = some d → l[i]? = some v → V F w d v := fun l i d v hd hv => by
      rw [List.getElem?_map, hv] at hd; injection hd with hd; rw [← hd]; exact .raw v
    have key2 : ∀ (l : List Operand) (i : Nat) d v, (l.map (ev a))[i]? = some d → (l.map ca.eval)[i]? = some v → V F w d v := fun l i d v hd hv => by
      rw [List.getElem?_map] at hd hv
      cases hl : l[i]? with
      | none => rw [hl] at hd; cases hd
      | some x => rw [hl] at hd hv; injection hd with hd; injection hv with hv; rw [← hd, ← hv]; exact ev_V h4 x
    rw [List.append_assoc] at hd hv
    by_cases c1 : i < first.size
    · rw [List.getElem?_append_left (by simpa using c1)] at hd hv
      exact key _ _ _ _ hd hv
    · rw [List.getElem?_append_right (by simp; omega)] at hd hv
      simp only [List.length_map] at hd hv
      by_cases c2 : i - first.toList.length < xs.size
      · rw [List.getElem?_append_left (by simpa using c2)] at hd hv
        exact key2 _ _ _ _ hd hv
      · rw [List.getElem?_append_right (by simp at c2 ⊢; omega)] at hd hv
        simp only [List.length_map] at hd hv
        exact key _ _ _ _ hd hv

/-- a call that needs nothing that is owned and hands back one value -/
theorem alst_call0 {t : Nat} {x : Operand} {xs : Array Operand} {ats : Array TypeId} {f : FuncId} {first cap : Array Value} {args args' : List Dat} {d : Dat}
    (hc : ACalls P f args' [] (RV d [])) (ho : o.op = .call { callee := .value x, args := xs, argTypes := ats }) (hd : o.dst = some t) (hg : agd ops a o = some true) (ht : Nat.blt t n = true)
    (hx : ev a x = .raw (.func (.func f) first cap)) (ha : first.toList.map Dat.raw ++ xs.toList.map (ev a) ++ cap.toList.map Dat.raw = args) (hs : SubL args args')
    (h : ALst P n ds ops rest Q ((t, d) :: a) σ) : ALst P n ds ops (o :: rest) Q a σ :=
  alst_call (σ1 := []) (σ2 := σ) hc ho hd hg ht hx ha hs (.refl _) .nil (fun d' τ hR => by obtain ⟨h1, rfl⟩ := hR; injection h1 with h1; subst h1; exact h) (fun v τ hR => by obtain ⟨h1, _⟩ := hR; cases h1)
/-- a call that needs the m-th of what is owned and leaves it as it is -/
theorem alst_call1 {t : Nat} {x : Operand} {xs : Array Operand} {ats : Array TypeId} {f : FuncId} {first cap : Array Value} {args args' : List Dat} {d : Dat} {r r' : Res} (m : Nat)
    (hc : ACalls P f args' [r'] (RV d [r'])) (ho : o.op = .call { callee := .value x, args := xs, argTypes := ats }) (hd : o.dst = some t) (hg : agd ops a o = some true) (ht : Nat.blt t n = true)
    (hx : ev a x = .raw (.func (.func f) first cap)) (ha : first.toList.map Dat.raw ++ xs.toList.map (ev a) ++ cap.toList.map Dat.raw = args) (hs : SubL args args') (hm : σ[m]? = some r) (hr : ResSub r r') (hr' : ResSub r' r)
    (h : ALst P n ds ops rest Q ((t, d) :: a) σ) : ALst P n ds ops (o :: rest) Q a σ := by
  have p : σ.Perm ([r] ++ (σ.take m ++ σ.drop (m + 1))) := by
    obtain ⟨h1, h2⟩ := List.getElem?_eq_some_iff.1 hm
    have : σ = σ.take m ++ r :: σ.drop (m + 1) := by rw [← h2]; simp
    conv => lhs; rw [this]
    exact List.perm_middle
  refine alst_call hc ho hd hg ht hx ha hs p (.cons hr .nil) (fun d' τ hR => ?_) (fun v τ hR => by obtain ⟨h1, _⟩ := hR; cases h1)
  obtain ⟨h1, rfl⟩ := hR
  injection h1 with h1
  subst h1
  refine ⟨fun F w ca g1 g2 g3 g4 => ?_⟩
  have hsub : ResSubL ([r'] ++ (σ.take m ++ σ.drop (m + 1))) ([r] ++ (σ.take m ++ σ.drop (m + 1))) := .cons hr' (.refl _)
  refine wpList_mono (fun e _ _ q => lift_trans (((hsub.ext F w).trans ((Ext.refl F _ w).perm (.refl _) p.symm))) q) _ _ _ (h.run F w ca g1 g2 ((hsub.inv g3).perm p.symm) g4)
end
end
end Go.Proofs.Ytbfejlmamncemaa.Sk
