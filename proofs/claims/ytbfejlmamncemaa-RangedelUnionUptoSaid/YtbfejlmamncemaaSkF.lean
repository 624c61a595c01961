/- What makes the walks short: tests decided, sums that do not wrap, lengths, guards, returns. No condition. -/
import Derived.Test.YtbfejlmamncemaaSkE
namespace Go.Proofs.Ytbfejlmamncemaa.Sk
open Go Go.RowKit
section
variable {P : Program} {n : Nat} {ds : List Deferred} {Q : Post} {a : Fr} {σ : List Res} {ops : Array Oper} {rest : List Oper} {o : Oper}

theorem awp_t {c : Operand} {x y : Code} (hc : ev a c = .raw (.bool true)) (h : AWP P n ds x Q a σ) : AWP P n ds (.cond c x y) Q a σ := awp_cond hc (fun _ => h) (fun e => by cases e)
theorem awp_f {c : Operand} {x y : Code} (hc : ev a c = .raw (.bool false)) (h : AWP P n ds y Q a σ) : AWP P n ds (.cond c x y) Q a σ := awp_cond hc (fun e => by cases e) (fun _ => h)
theorem awp_d {c : Operand} {x y : Code} {p : Prop} [inst : Decidable p] (hc : ev a c = .raw (.bool (decide p))) (h : p → AWP P n ds x Q a σ) (h' : ¬ p → AWP P n ds y Q a σ) : AWP P n ds (.cond c x y) Q a σ :=
  awp_cond hc (fun e => h (of_decide_eq_true e)) (fun e => h' (of_decide_eq_false e))
theorem awp_nd {c : Operand} {x y : Code} {p : Prop} [inst : Decidable p] (hc : ev a c = .raw (.bool (!decide p))) (h : ¬ p → AWP P n ds x Q a σ) (h' : p → AWP P n ds y Q a σ) : AWP P n ds (.cond c x y) Q a σ :=
  awp_cond hc (fun e => h (by simpa using e)) (fun e => h' (by simpa using e))

/-- a guard that hangs on a test -/
theorem alst_g {t j : Nat} {b : Bool} {p : Prop} [inst : Decidable p] (hg : o.guard = some (j, b)) (hj : (ops[j]?).bind (·.dst) = some t) (hx : a.get t = .raw (.bool (decide p)))
    (h : p → ALst P n ds ops (o :: rest) Q ((t, .raw (.bool true)) :: a) σ) (h' : ¬ p → ALst P n ds ops (o :: rest) Q ((t, .raw (.bool false)) :: a) σ) : ALst P n ds ops (o :: rest) Q a σ := by
  refine ⟨fun F w ca h1 h2 h3 h4 => ?_⟩
  have key : ∀ v : Bool, decide p = v → VL F w ((t, .raw (.bool v)) :: a) ca.tmps := fun v hv u => by
    simp only [Fr.get]
    by_cases e : t = u
    · subst e
      rw [Nat.beq_refl]
      have := h4 t
      rw [hx, hv] at this
      exact this
    · rw [nbeq_ne e]; exact h4 u
  by_cases hp : p
  · exact (h hp).run F w ca h1 h2 h3 (key true (decide_eq_true hp))
  · exact (h' hp).run F w ca h1 h2 h3 (key false (decide_eq_false hp))
theorem alst_gn {t j : Nat} {b : Bool} {p : Prop} [inst : Decidable p] (hg : o.guard = some (j, b)) (hj : (ops[j]?).bind (·.dst) = some t) (hx : a.get t = .raw (.bool (!decide p)))
    (h : ¬ p → ALst P n ds ops (o :: rest) Q ((t, .raw (.bool true)) :: a) σ) (h' : p → ALst P n ds ops (o :: rest) Q ((t, .raw (.bool false)) :: a) σ) : ALst P n ds ops (o :: rest) Q a σ := by
  refine ⟨fun F w ca h1 h2 h3 h4 => ?_⟩
  have key : ∀ v : Bool, (!decide p) = v → VL F w ((t, .raw (.bool v)) :: a) ca.tmps := fun v hv u => by
    simp only [Fr.get]
    by_cases e : t = u
    · subst e
      rw [Nat.beq_refl]
      have := h4 t
      rw [hx, hv] at this
      exact this
    · rw [nbeq_ne e]; exact h4 u
  by_cases hp : p
  · exact (h' hp).run F w ca h1 h2 h3 (key false (by simp [hp]))
  · exact (h hp).run F w ca h1 h2 h3 (key true (by simp [hp]))

theorem TabOk.und {tab : Tab} (h : TabOk P tab) {T : TypeId} {ti : TI} {d : TypeDesc} (hT : tab T = some ti) (hd : ti.desc = d) : P.underlying T = some d := hd ▸ (h T ti hT).und

/-- a length, and that it is one -/
theorem alst_len {t m : Nat} {T e : TypeId} {x : Operand} (ho : o.op = .call { callee := .builtin .len, args := #[x], argTypes := #[T] }) (hd : o.dst = some t) (hg : agd ops a o = some true) (ht : Nat.blt t n = true) (hu : P.underlying T = some (.slice e)) (hx : HasLen (ev a x) m)
    (h : m ≤ 9223372036854775807 → ALst P n ds ops rest Q ((t, .raw (.int .i64 m)) :: a) σ) : ALst P n ds ops (o :: rest) Q a σ := by
  refine ⟨fun F w ca h1 h2 h3 h4 => ?_⟩
  by_cases hm : m ≤ 9223372036854775807
  · exact (alst_q (q_len ho hu hx) hd hg ht (h hm)).run F w ca h1 h2 h3 h4
  · exfalso
    have hv := ev_V h4 x
    generalize ev a x = d at hx hv
    generalize ca.eval x = cv at hv
    cases hx with
    | slm sz l f => cases hv with | sl _ _ _ _ _ _ _ _ _ hm' => rw [List.length_map] at hm'; unfold maxLen at hm'; omega
    | oslm k v sz l f => cases hv with | osl _ _ _ _ h => cases h with | sl _ _ _ _ _ _ _ _ _ hm' => rw [List.length_map] at hm'; unfold maxLen at hm'; omega
    | sl sz l => cases hv with | sl _ _ _ _ _ _ _ _ _ hm' => unfold maxLen at hm'; omega
    | osl k v sz l => cases hv with | osl _ _ _ _ h => cases h with | sl _ _ _ _ _ _ _ _ _ hm' => unfold maxLen at hm'; omega
    | msl k v m => cases hv with | msl _ _ _ _ hm' => unfold maxLen at hm'; omega
    | nil => omega

theorem wrap_i64_id {x : Int} (h : -9223372036854775808 ≤ x ∧ x ≤ 9223372036854775807) : IntKind.i64.wrap x = x := by
  rw [IntKind.wrap_i64]; omega
theorem q_addi {t t' : TypeId} {x y : Operand} {i j : Int} (ho : o.op = .binOp .add t x y t') (hx : ev a x = .raw (.int .i64 i)) (hy : ev a y = .raw (.int .i64 j)) (h : -9223372036854775808 ≤ i + j ∧ i + j ≤ 9223372036854775807) : QOp P o a σ (.raw (.int .i64 (i + j))) :=
  q_bin ho hx hy (by simp [binv, wrap_i64_id h])
theorem q_subi {t t' : TypeId} {x y : Operand} {i j : Int} (ho : o.op = .binOp .sub t x y t') (hx : ev a x = .raw (.int .i64 i)) (hy : ev a y = .raw (.int .i64 j)) (h : -9223372036854775808 ≤ i - j ∧ i - j ≤ 9223372036854775807) : QOp P o a σ (.raw (.int .i64 (i - j))) :=
  q_bin ho hx hy (by simp [binv, wrap_i64_id h])

/-- a whole struct -/
theorem q_load_el_all {tab : Tab} (htab : TabOk P tab) {t : TypeId} {x : Operand} {y : List Dat} {ti : TI} (ho : o.op = .load t x) (hx : ev a x = .el y 0) (hte : tab t = some ti) (hagg : ti.agg = true) (hm : ti.sz = y.length) : QOp P o a σ (.agg y) :=
  q_load_el_agg htab ho hx hte hagg hm (by rw [List.drop_zero, List.take_of_length_le (Nat.le_refl _)]) (by omega)
theorem q_load_box_all {tab : Tab} (htab : TabOk P tab) {t : TypeId} {x : Operand} {k k' b : Nat} {ti : TI} {T : TypeId} {cells : List Dat} (m : Nat) (ho : o.op = .load t x) (hx : ev a x = .ref k b 0) (hm : σ[m]? = some (.box k' b T cells)) (hte : tab t = some ti) (hagg : ti.agg = true) (hq : ti.sz = cells.length) : QOp P o a σ (.agg cells) :=
  q_load_box_agg htab m ho hx hm hte hagg hq (by rw [List.drop_zero, List.take_of_length_le (Nat.le_refl _)]) (by omega)
theorem alst_store_all {tab : Tab} (htab : TabOk P tab) {T T' : TypeId} {ti : TI} {x y : Operand} {k k' b : Nat} {cells l : List Dat} (m : Nat) (ho : o.op = .store T x y) (hd : o.dst = none) (hg : agd ops a o = some true) (hx : ev a x = .ref k b 0) (hm : σ[m]? = some (.box k' b T' cells))
    (hy : dcells (ev a y) = some l) (hte : tab T = some ti) (hl : ti.sz = l.length) (hc : cells.length = l.length) (h : ALst P n ds ops rest Q a (σ.set m (.box k' b T' l))) : ALst P n ds ops (o :: rest) Q a σ :=
  alst_store_box htab m ho hd hg hx hm hy hte hl (by
    unfold bput
    rw [if_pos rfl, if_pos (by omega), List.take_zero, Nat.zero_add, List.drop_of_length_le (by omega), List.append_nil, List.nil_append]) h
theorem alst_store_one {tab : Tab} (htab : TabOk P tab) {T T' : TypeId} {ti : TI} {x y : Operand} {k k' b off : Nat} {cells cells' : List Dat} {d : Dat} (m : Nat) (ho : o.op = .store T x y) (hd : o.dst = none) (hg : agd ops a o = some true) (hx : ev a x = .ref k b off) (hm : σ[m]? = some (.box k' b T' cells))
    (hy : ev a y = d) (hone : d.one = true) (hte : tab T = some ti) (hl : ti.sz = 1) (hc : Nat.blt off cells.length = true) (hset : cells.set off d = cells') (h : ALst P n ds ops rest Q a (σ.set m (.box k' b T' cells'))) : ALst P n ds ops (o :: rest) Q a σ := by
  have hlt : off < cells.length := by simpa using hc
  have hdc : dcells d = some [d] := by
    unfold dcells
    split
    · cases hone
    · exact absurd hone (by simp [Dat.one, Value.oneCell'])
    · rw [if_pos hone]
  refine alst_store_box htab m ho hd hg hx hm (l := [d]) (by rw [hy]; exact hdc) hte hl ?_ h
  unfold bput
  rw [if_pos rfl, if_pos (by simp; omega), ← hset, List.set_eq_take_append_cons_drop, if_pos hlt]
  simp

/-- a contract of another make -/
theorem acalls_raw {f : FuncId} {cargs : List Value} {v : Value} (hf : FnOk P f) (h : ∀ w, Calls P f cargs.toArray w fun e w' => e = .returned v ∧ w' = w) : ACalls P f (cargs.map .raw) [] (RV (.raw v) []) := by
  refine ⟨hf, fun F w cs hi hv => ?_⟩
  have e : cs = cargs := by
    apply List.ext_getElem?
    intro i
    by_cases hlt : i < cargs.length
    · have h1 : (cargs.map Dat.raw)[i]? = some (.raw cargs[i]) := by rw [List.getElem?_map, List.getElem?_eq_getElem hlt]; rfl
      have h2 : i < cs.length := by rw [hv.1]; simpa using hlt
      rw [List.getElem?_eq_getElem hlt, List.getElem?_eq_getElem h2, raw_of (hv.2 i _ _ h1 (List.getElem?_eq_getElem h2))]
    · have h2 : ¬ i < cs.length := by rw [hv.1]; simpa using hlt
      rw [List.getElem?_eq_none (by omega), List.getElem?_eq_none (by omega)]
  subst e
  refine (h w).mono fun e w' ⟨h1, h2⟩ => ?_
  subst h1; subst h2
  exact ⟨F, [], .ret (.raw v), Ext.refl _ _ _, hi, .raw v, rfl, rfl⟩

/-! ### the end -/
theorem ret_any {fn : Func} {R : Out → List Res → Prop} {d : Dat} {σ' : List Res} (h : Ares P fn a σ d σ') (hR : R (.ret d) σ') : abody P fn R .ret a σ := ⟨d, σ', h, hR⟩
theorem end_any {fn : Func} {R : Out → List Res → Prop} {d : Dat} {σ' : List Res} (h : Ares P fn a σ d σ') (hR : R (.ret d) σ') : abody P fn R .normal a σ := ⟨d, σ', h, hR⟩
/-- one result, nothing owned handed back -/
theorem acalls_bodyq {P : Program} {f : FuncId} {fn : Func} {c : Code} {args : List Dat} {σ : List Res} {R : Out → List Res → Prop}
    (hf : P.funcs[f]? = some fn) (hb : fn.body = some c) (hnm : (fn.name == "runtime.NumGoroutine") = false) {n : Nat} (hn : fn.ntmps = n) (hl : Nat.ble args.length n = true)
    (h : ∀ Q : { Q' : Post // ∀ e a σ, abody P fn R e a σ → Q' e a σ }, AWP P n [] c Q.1 (args0 0 args) σ) : ACalls P f args σ R := acalls_body hf hb hnm hn hl (h ⟨_, fun _ _ _ h => h⟩)
theorem ret1 {fn : Func} {t : Tmp} {d d' : Dat} (h : fn.results = #[.tmp t]) (hx : a.get t = d) (hs : Sub d d') : abody P fn (RV d' []) .ret a σ := ⟨d', [], ares1 h (hx ▸ hs) (.nil _), rfl, rfl⟩
theorem ret2 {fn : Func} {t u : Tmp} {d d' e e' : Dat} (h : fn.results = #[.tmp t, .tmp u]) (hx : a.get t = d) (hy : a.get u = e) (hs : Sub d d') (hs' : Sub e e') : abody P fn (RV (.tup [d', e']) []) .ret a σ := ⟨_, [], ares2 h (hx ▸ hs) (hy ▸ hs') (.nil _), rfl, rfl⟩
theorem Sub.of_eq {d d' : Dat} (h : d = d') : Sub d d' := h ▸ .refl d
theorem Sub.int {k : IntKind} {i j : Int} (h : i = j) : Sub (.raw (.int k i)) (.raw (.int k j)) := h ▸ .refl _
theorem Sub.bool {i j : Bool} (h : i = j) : Sub (.raw (.bool i)) (.raw (.bool j)) := h ▸ .refl _

/-! ### a row frozen, wherever its slice stands -/
def SubV (v : Value) (sz : Nat) (l : List (List Dat)) (d d' : Dat) : Prop := ∀ F w cv, V F w (.sl sz l) v → V F w d cv → V F w d' cv
theorem SubV.of (v : Value) (sz : Nat) (l : List (List Dat)) {d d' : Dat} (h : Sub d d') : SubV v sz l d d' := fun F w cv _ hv => h F w cv hv
theorem SubV.refl (v : Value) (sz : Nat) (l : List (List Dat)) (d : Dat) : SubV v sz l d d := fun F w cv _ hv => hv
theorem SubV.msl (k : Nat) (v : Value) (n sz : Nat) (l : List (List Dat)) : SubV v sz l (.msl k v n) (.sl sz l) := fun F w cv h hv => by cases hv; exact h
inductive SubVL (v : Value) (sz : Nat) (l : List (List Dat)) : List Dat → List Dat → Prop
  | nil : SubVL v sz l [] []
  | cons {d d' : Dat} {r r' : List Dat} (h : SubV v sz l d d') (t : SubVL v sz l r r') : SubVL v sz l (d :: r) (d' :: r')
theorem SubVL.refl (v : Value) (sz : Nat) (l : List (List Dat)) : ∀ r, SubVL v sz l r r
  | [] => .nil
  | d :: r => .cons (.refl v sz l d) (SubVL.refl v sz l r)
theorem SubVL.len {v : Value} {sz : Nat} {l : List (List Dat)} {r r' : List Dat} (h : SubVL v sz l r r') : r'.length = r.length := by
  induction h with
  | nil => rfl
  | cons h t ih => simp [ih]
theorem SubVL.get {v : Value} {sz : Nat} {l : List (List Dat)} {r r' : List Dat} (h : SubVL v sz l r r') : ∀ (j : Nat) d', r'[j]? = some d' → ∃ d, r[j]? = some d ∧ SubV v sz l d d' := by
  induction h with
  | nil => intro j d' h; simp at h
  | cons h t ih =>
    intro j d' hj
    cases j with
    | zero => simp at hj; exact ⟨_, rfl, hj ▸ h⟩
    | succ j => exact ih j d' hj
inductive RsLeV (v : Value) (sz : Nat) (l : List (List Dat)) : List Res → List Res → Prop
  | nil : RsLeV v sz l [] []
  | keep (r : Res) {s s' : List Res} (t : RsLeV v sz l s s') : RsLeV v sz l (r :: s) (r :: s')
  | drop (r : Res) {s s' : List Res} (t : RsLeV v sz l s s') : RsLeV v sz l (r :: s) s'
  | box (k b : Nat) (T : TypeId) {c c' : List Dat} {s s' : List Res} (h : SubVL v sz l c c') (t : RsLeV v sz l s s') : RsLeV v sz l (.box k b T c :: s) (.box k b T c' :: s')
def FrLeV (v : Value) (sz : Nat) (l : List (List Dat)) (a : Fr) : Fr → Prop
  | [] => True
  | (t, d) :: r => SubV v sz l (a.get t) d ∧ FrLeV v sz l a r

theorem RsLeV.inv {v : Value} {sz : Nat} {l : List (List Dat)} {s s' : List Res} (h : RsLeV v sz l s s') {F : Nat → Nat → Prop} {w : World} (hv : V F w (.sl sz l) v) (hr : ∀ r, r ∈ s → ResOk F w r) (hn : (blks s).Nodup) :
    (∀ r, r ∈ s' → ResOk F w r) ∧ (blks s').Nodup ∧ ∀ k, k ∈ blks s' → k ∈ blks s := by
  induction h with
  | nil => exact ⟨hr, hn, fun k hk => hk⟩
  | @keep r s s' t ih =>
    rw [blks_cons] at hn
    have hn' : (blks s).Nodup := (List.sublist_append_right _ _).nodup hn
    obtain ⟨g1, g2, g3⟩ := ih (fun r hr' => hr r (List.mem_cons_of_mem _ hr')) hn'
    refine ⟨fun q hq => ?_, ?_, fun k hk => ?_⟩
    · rcases List.mem_cons.1 hq with rfl | hq
      · exact hr _ (List.mem_cons_self ..)
      · exact g1 q hq
    · rw [blks_cons]
      cases hb : r.blk with
      | none => exact g2
      | some b =>
        rw [hb] at hn
        simp only [List.cons_append, List.nil_append, List.nodup_cons] at hn ⊢
        exact ⟨fun h => hn.1 (g3 b h), g2⟩
    · rw [blks_cons, List.mem_append] at hk ⊢
      exact hk.imp id (g3 k)
  | @drop r s s' t ih =>
    rw [blks_cons] at hn
    have hn' : (blks s).Nodup := (List.sublist_append_right _ _).nodup hn
    obtain ⟨g1, g2, g3⟩ := ih (fun r hr' => hr r (List.mem_cons_of_mem _ hr')) hn'
    exact ⟨g1, g2, fun k hk => by rw [blks_cons, List.mem_append]; exact .inr (g3 k hk)⟩
  | @box k b T c c' s s' hc t ih =>
    rw [blks_cons] at hn
    have hn' : (blks s).Nodup := (List.sublist_append_right _ _).nodup hn
    obtain ⟨g1, g2, g3⟩ := ih (fun r hr' => hr r (List.mem_cons_of_mem _ hr')) hn'
    refine ⟨fun q hq => ?_, ?_, fun k hk => ?_⟩
    · rcases List.mem_cons.1 hq with rfl | hq
      · obtain ⟨cur, h1, h2, h3, h4, h5⟩ := hr _ (List.mem_cons_self ..)
        refine ⟨cur, h1, h2.trans hc.len.symm, h3, fun j d' u hd hu => ?_, h5⟩
        obtain ⟨d, e1, e2⟩ := hc.get j d' hd
        exact e2 F w u hv (h4 j d u e1 hu)
      · exact g1 q hq
    · rw [blks_cons]
      simp only [Res.blk, List.cons_append, List.nil_append, List.nodup_cons] at hn ⊢
      exact ⟨fun h => hn.1 (g3 b h), g2⟩
    · rw [blks_cons, List.mem_append] at hk ⊢
      exact hk.imp id (g3 k)

/-- The m-th thing that is owned, a row, is frozen and owned no more; its slice may be told as frozen wherever it stands. -/
theorem weak_frz (m : Nat) {k : Nat} {v : Value} {T : TypeId} {sz : Nat} {l : List (List Dat)} {frz : Bool} {a' : Fr} {σ' : List Res} (hm : σ[m]? = some (.own k v T sz l frz)) (h1 : FrLeV v sz l a a') (h2 : RsLeV v sz l (σ.eraseIdx m) σ') : Weak a σ a' σ' := by
  intro F w tmps hi hv
  obtain ⟨xs, hown, hx1, hxz, hxv, hxf⟩ := hi.res _ (List.mem_of_getElem? hm)
  have p := perm_erase hm
  let F' : Nat → Nat → Prop := fun b o => F b o ∨ (v.ownBlock = some b ∧ o < l.length * sz)
  have hmono : ∀ d cv, V F w d cv → V F' w d cv := fun d cv h => h.mono (fun _ _ h => .inl h) (fun _ _ _ => rfl)
  have hV : V F' w (.sl sz l) v := V_of_own hown hxz (fun i x hx j d hd => by
    obtain ⟨u, g1, g2⟩ := hxv i x hx j d hd
    exact ⟨u, g1, hmono _ _ g2⟩) (fun g hg o ho => .inr ⟨hg, ho⟩)
  have hi2 := hi.perm p
  have hnd := hi2.nodup
  rw [blks_cons] at hnd
  have hrest : ∀ r, r ∈ σ.eraseIdx m → ResOk F' w r := fun r hr => (hi2.res r (List.mem_cons_of_mem _ hr)).keep (fun _ _ h => .inl h) (fun _ _ _ => rfl) (fun _ _ => rfl) (fun q hq o ho => by
    rcases ho with ho | ⟨hb, _⟩
    · exact ho
    · exfalso
      rw [show (Res.own k v T sz l frz).blk = some q from hb] at hnd
      simp only [List.cons_append, List.nil_append, List.nodup_cons] at hnd
      exact hnd.1 (mem_blks hr hq))
  obtain ⟨g1, g2, g3⟩ := h2.inv hV hrest ((List.sublist_append_right _ _).nodup hnd)
  have hblk : ∀ k', k' ∈ blks σ' → k' ∈ blks σ := fun k' hk' => (blks_perm p).mem_iff.2 (by rw [blks_cons, List.mem_append]; exact .inr (g3 k' hk'))
  refine ⟨F', ⟨fun _ _ h => .inl h, fun _ _ _ => rfl, fun _ _ _ => rfl, Nat.le_refl _, rfl, rfl, rfl, fun k' hk' => .inl (hblk k' hk'), fun b o hb => ?_⟩, ⟨fun b o hb => ?_, g1, g2⟩, fun u => ?_⟩
  · rcases hb with hb | ⟨hb, _⟩
    · exact .inl hb
    · exact .inr (.inl (mem_blks (List.mem_of_getElem? hm) hb))
  · rcases hb with hb | ⟨hb, ho⟩
    · exact hi.cell b o hb
    · have hlt : o < xs.length := by rw [hown.1]; exact ho
      have := hown.cells hb o _ (List.getElem?_eq_getElem hlt)
      rw [add_off, Nat.zero_add] at this
      exact ⟨_, this, hx1 _ (List.getElem_mem _)⟩
  · clear h2
    induction a' with
    | nil => exact .junk _
    | cons q r ih =>
      obtain ⟨t, d⟩ := q
      simp only [FrLeV] at h1
      simp only [Fr.get]
      by_cases e : t = u
      · subst e; rw [Nat.beq_refl]; exact h1.1 F' w _ hV (hmono _ _ (hv t))
      · rw [nbeq_ne e]; exact ih h1.2

theorem alst_weak {a' : Fr} {σ' : List Res} (hw : Weak a σ a' σ') (h : ALst P n ds ops rest Q a' σ') : ALst P n ds ops rest Q a σ := by
  refine ⟨fun F w ca h1 h2 h3 h4 => ?_⟩
  obtain ⟨F', e, i, v⟩ := hw F w ca.tmps h3 h4
  exact wpList_mono (fun _ _ _ q => lift_trans e q) _ _ _ (h.run F' w ca h1 h2 i v)

/-- a contract on a row that is owned: of another make -/
theorem acalls_row {α : Type} {f : FuncId} {k : Nat} {v : Value} {T : TypeId} {more : List Value} {R : Out → List Res → Prop} {σx : List Res} (hf : FnOk P f) (g : α → Value) (hg1 : ∀ x, (g x).oneCell' = true) (xs : List α)
    (h : ∀ F w, Inv F (.own k v T 1 (xs.map fun x => [.raw (g x)]) false :: σx) w → w.ownsRow 0 T 1 v xs.length (xs.map g) → Calls P f (v :: more).toArray w fun e w' =>
      ∃ (v' : Value) (d : Dat) (ys : List α), OutV (fun _ _ => False) w' (.ret d) e ∧ w'.ownsRow 0 T 1 v' ys.length (ys.map g) ∧ v'.ownBlock = v.ownBlock ∧ w.grownBy w' v.ownBlock ∧ R (.ret d) (.own k v' T 1 (ys.map fun x => [.raw (g x)]) false :: σx)) :
    ACalls P f (.msl k v xs.length :: more.map .raw) (.own k v T 1 (xs.map fun x => [.raw (g x)]) false :: σx) R := by
  have hget : ∀ (ys : List α) (F : Nat → Nat → Prop) (w : World) i x, (ys.map fun x => [Dat.raw (g x)])[i]? = some x → ∀ (j : Nat) d, x[j]? = some d → ∃ cv, (ys.map g)[i * 1 + j]? = some cv ∧ V F w d cv := by
    intro ys F w i x hx j d hd
    rw [List.getElem?_map] at hx
    cases hy : ys[i]? with
    | none => rw [hy] at hx; cases hx
    | some y =>
      rw [hy] at hx
      simp only [Option.map_some, Option.some.injEq] at hx
      subst hx
      cases j with
      | zero => simp only [List.getElem?_cons_zero, Option.some.injEq] at hd; subst hd; exact ⟨g y, by rw [Nat.mul_one, Nat.add_zero, List.getElem?_map, hy]; rfl, .raw _⟩
      | succ j => simp at hd
  refine ⟨hf, fun F w cs hi hv => ?_⟩
  obtain ⟨us, hown, hx1, hxz, hxv, hxf⟩ := hi.res _ (List.mem_cons_self ..)
  have hus : us = xs.map g := by
    apply List.ext_getElem?
    intro i
    by_cases hlt : i < xs.length
    · obtain ⟨cv, h1, h2⟩ := hxv i [.raw (g xs[i])] (by rw [List.getElem?_map, List.getElem?_eq_getElem hlt]; rfl) 0 _ rfl
      rw [Nat.mul_one, Nat.add_zero] at h1
      rw [h1, raw_of h2, List.getElem?_map, List.getElem?_eq_getElem hlt]; rfl
    · have := hown.1
      rw [List.length_map] at this
      rw [List.getElem?_eq_none (by omega), List.getElem?_eq_none (by simp; omega)]
  subst hus
  rw [List.length_map] at hown
  have e : cs = v :: more := by
    cases cs with
    | nil => exact absurd hv.1 (by simp)
    | cons c cs =>
      have h0 := hv.2 0 _ c rfl rfl
      have hc : c = v := by cases h0; rfl
      subst hc
      congr 1
      apply List.ext_getElem?
      intro i
      have hlen : cs.length = more.length := by have := hv.1; simpa using this
      by_cases hlt : i < more.length
      · have h1 : (Dat.msl k c xs.length :: more.map Dat.raw)[i + 1]? = some (.raw more[i]) := by
          rw [List.getElem?_cons_succ, List.getElem?_map, List.getElem?_eq_getElem hlt]; rfl
        have h2 : i < cs.length := by omega
        rw [List.getElem?_eq_getElem hlt, List.getElem?_eq_getElem h2, raw_of (hv.2 (i + 1) _ cs[i] h1 (by rw [List.getElem?_cons_succ]; exact List.getElem?_eq_getElem h2))]
      · rw [List.getElem?_eq_none (by omega), List.getElem?_eq_none (by omega)]
  subst e
  refine (h F w hi hown).mono ?_
  rintro e w' ⟨v', d, ys, ho, hown', hb, hg, hR⟩
  have hF : ∀ b o, F b o → v.ownBlock ≠ some b := fun b o hF hb' => by
    have := (hxf b hb' o hF).1
    cases this
  have hc : ∀ b o, F b o → w'.cell? ⟨b, o, none⟩ = w.cell? ⟨b, o, none⟩ := fun b o hFo => World.cell?_of_block (a := ⟨b, o, none⟩) (hg.block b (hi.lt hFo) (fun e => hF b o hFo e.symm))
  obtain ⟨i', e'⟩ := hi.repl (F' := F) (w' := w') (m := 0) rfl (r' := .own k v' T 1 (ys.map fun x => [.raw (g x)]) false) (fun _ _ h => h) (fun b o h => .inl h) (fun b o h => by rw [hc b o h]; exact hi.cell b o h) hc
    (fun q hq hn => hg.block q hq (fun e => hn e.symm)) hg.size ⟨hg.os, hg.tape, hg.output⟩ (fun q hq => .inl (by show v.ownBlock = some q; rw [← hb]; exact hq))
    ⟨ys.map g, by rw [List.length_map]; exact hown', fun u hu => (by obtain ⟨y, _, rfl⟩ := List.mem_map.1 hu; exact hg1 y), fun x hx => (by obtain ⟨y, _, rfl⟩ := List.mem_map.1 hx; rfl), hget ys F w', fun b hb' o hFo => absurd (show v.ownBlock = some b by rw [← hb]; exact hb') (hF b o hFo)⟩
  refine ⟨F, _, .ret d, e', i', ?_, hR⟩
  cases e with
  | returned u => exact V.mono ho (fun _ _ h => h.elim) (fun _ _ h => h.elim)
  | panicked c => exact ho.elim
  | outgrown => exact ho.elim
theorem idx_nat {α : Type} {enc : α → List Dat} {l : List α} {k : Nat} (h : k < l.length) : (l.map enc)[((k : Nat) : Int).toNat]? = some (enc l[k]) := by
  rw [Int.toNat_natCast, List.getElem?_map, List.getElem?_eq_getElem h]; rfl
theorem idx_int {α : Type} {enc : α → List Dat} {l : List α} {i : Int} {k : Nat} (h : i.toNat = k) (hk : k < l.length) : (l.map enc)[i.toNat]? = some (enc l[k]) := by
  rw [h, List.getElem?_map, List.getElem?_eq_getElem hk]; rfl
/-- what follows, behind a name -/
abbrev KT (P : Program) (n : Nat) (ds : List Deferred) (y : Code) (Q : Post) := { K : Fr → List Res → Prop // ∀ a σ, AWP P n ds y Q a σ → K a σ }
theorem awp_k {x y : Code} (h : ∀ K : KT P n ds y Q, AWP P n ds x (athen K.1 Q) a σ) : AWP P n ds (.seq x y) Q a σ := awp_seq (h ⟨_, fun _ _ h => h⟩)
theorem kgo {y : Code} (K : KT P n ds y Q) (h : AWP P n ds y Q a σ) : K.1 a σ := K.2 a σ h
abbrev QT (Q : Post) := { Q' : Post // ∀ e a σ, Q e a σ → Q' e a σ }
theorem awp_q {c : Code} (h : ∀ Q' : QT Q, AWP P n ds c Q'.1 a σ) : AWP P n ds c Q a σ := h ⟨Q, fun _ _ _ h => h⟩
theorem qgo {e : Exit} (Q' : QT Q) (h : Q e a σ) : Q'.1 e a σ := Q'.2 e a σ h
theorem ResSub.own_eq {k : Nat} {v : Value} {T : TypeId} {sz : Nat} {l l' : List (List Dat)} {frz : Bool} (h : l = l') : ResSub (.own k v T sz l frz) (.own k v T sz l' frz) := h ▸ .refl _
theorem Sub.msl_eq {k : Nat} {v : Value} {n n' : Nat} (h : n = n') : Sub (.msl k v n) (.msl k v n') := h ▸ .refl _
theorem Sub.osl_eq {k : Nat} {v : Value} {sz : Nat} {l l' : List (List Dat)} (h : l = l') : Sub (.osl k v sz l) (.osl k v sz l') := h ▸ .refl _
theorem Sub.sl_eq {sz : Nat} {l l' : List (List Dat)} (h : l = l') : Sub (.sl sz l) (.sl sz l') := h ▸ .refl _
theorem Sub.osl_sl {k : Nat} {v : Value} {sz : Nat} {l l' : List (List Dat)} (h : l = l') : Sub (.osl k v sz l) (.sl sz l') := h ▸ .osl _ _ _ _
theorem awp_nil {c : Code} (t k : Nat) (T : TypeId) (sz : Nat) (frz : Bool) (h : a.get t = .raw (.slice none 0 0)) (h2 : AWP P n ds c Q ((t, if frz then .osl k (.slice none 0 0) sz [] else .msl k (.slice none 0 0) 0) :: a) (.own k (.slice none 0 0) T sz [] frz :: σ)) : AWP P n ds c Q a σ :=
  awp_weak (weak_nil t k T sz frz h) h2
theorem awp_frz {c : Code} (m : Nat) {k : Nat} {v : Value} {T : TypeId} {sz : Nat} {l : List (List Dat)} {frz : Bool} (a' : Fr) (σ' : List Res) (hm : σ[m]? = some (.own k v T sz l frz)) (h1 : FrLeV v sz l a a') (h2 : RsLeV v sz l (σ.eraseIdx m) σ') (h : AWP P n ds c Q a' σ') : AWP P n ds c Q a σ :=
  awp_weak (weak_frz m hm h1 h2) h
theorem perm_pick1 {σ : List Res} {i : Nat} {r : Res} (h : σ[i]? = some r) : σ.Perm ([r] ++ σ.eraseIdx i) := perm_erase h
theorem perm_pick2 {σ : List Res} {i j : Nat} {r r' : Res} (h : σ[i]? = some r) (h' : (σ.eraseIdx i)[j]? = some r') : σ.Perm ([r, r'] ++ (σ.eraseIdx i).eraseIdx j) :=
  (perm_erase h).trans (List.Perm.cons r (perm_erase h'))
/-- a call that hands back one value and turns what it was handed -/
theorem alst_callv {t : Nat} {x : Operand} {xs : Array Operand} {ats : Array TypeId} {f : FuncId} {first cap : Array Value} {args args' : List Dat} {d : Dat} {σ1 σ1' σ2 τ : List Res}
    (hc : ACalls P f args' σ1' (RV d τ)) (ho : o.op = .call { callee := .value x, args := xs, argTypes := ats }) (hd : o.dst = some t) (hg : agd ops a o = some true) (ht : Nat.blt t n = true)
    (hx : ev a x = .raw (.func (.func f) first cap)) (ha : first.toList.map Dat.raw ++ xs.toList.map (ev a) ++ cap.toList.map Dat.raw = args) (hs : SubL args args') (p : σ.Perm (σ1 ++ σ2)) (hσ : ResSubL σ1 σ1')
    (h : ALst P n ds ops rest Q ((t, d) :: a) (τ ++ σ2)) : ALst P n ds ops (o :: rest) Q a σ :=
  alst_call hc ho hd hg ht hx ha hs p hσ (fun d' τ' hR => by obtain ⟨h1, rfl⟩ := hR; injection h1 with h1; subst h1; exact h) (fun v τ hR => by obtain ⟨h1, _⟩ := hR; cases h1)
theorem Sub.nil_msl (k : Nat) : Sub (.raw (.slice none 0 0)) (.msl k (.slice none 0 0) 0) := fun F w cv h => by rw [raw_of h]; exact .msl k _ 0 ⟨none, 0, rfl⟩ (Nat.zero_le _)
theorem SubL.len {l l' : List Dat} (h : SubL l l') : l'.length = l.length := by
  induction h with
  | nil => rfl
  | cons h t ih => simp [ih]
theorem SubL.get {l l' : List Dat} (h : SubL l l') : ∀ (j : Nat) d', l'[j]? = some d' → ∃ d, l[j]? = some d ∧ Sub d d' := by
  induction h with
  | nil => intro j d' h; simp at h
  | cons h t ih =>
    intro j d' hj
    cases j with
    | zero => simp at hj; exact ⟨_, rfl, hj ▸ h⟩
    | succ j => exact ih j d' hj
theorem ResSub.box {k k' b : Nat} {T : TypeId} {c c' : List Dat} (h : SubL c c') : ResSub (.box k b T c) (.box k' b T c') := ⟨rfl, fun F w hr => by
  obtain ⟨cur, h1, h2, h3, h4, h5⟩ := hr
  refine ⟨cur, h1, h2.trans h.len.symm, h3, fun j d' u hd hu => ?_, h5⟩
  obtain ⟨d, e1, e2⟩ := h.get j d' hd
  exact e2 F w u (h4 j d u e1 hu)⟩
theorem weak_own (k : Nat) (T : TypeId) (sz : Nat) (frz : Bool) : Weak a σ a (.own k (.slice none 0 0) T sz [] frz :: σ) := by
  intro F w tmps hi hv
  refine ⟨F, ⟨fun _ _ h => h, fun _ _ _ => rfl, fun _ _ _ => rfl, Nat.le_refl _, rfl, rfl, rfl, fun k hk => .inl hk, fun _ _ h => .inl h⟩, ⟨hi.cell, fun r hr => ?_, hi.nodup⟩, hv⟩
  rcases List.mem_cons.1 hr with rfl | hr
  · exact ⟨[], World.ownsRow_nil w 0 T sz, by simp, by simp, by simp, fun b hb => by cases hb⟩
  · exact hi.res r hr
theorem awp_own {c : Code} (k : Nat) (T : TypeId) (sz : Nat) (frz : Bool) (h : AWP P n ds c Q a (.own k (.slice none 0 0) T sz [] frz :: σ)) : AWP P n ds c Q a σ := awp_weak (weak_own k T sz frz) h
/-! ### which operation stands first -/
section
variable {d : Option Tmp} {ty : TypeId} {ps : String} {af : Array Edge} {g : Option (Nat × Bool)}
theorem is_gd {op : Op} {gg : Nat × Bool} (h : ALst P n ds ops (⟨d, op, ty, ps, af, some gg⟩ :: rest) Q a σ) : ALst P n ds ops (⟨d, op, ty, ps, af, some gg⟩ :: rest) Q a σ := h
theorem is_move {x : Operand} (h : ALst P n ds ops (⟨d, .move x, ty, ps, af, g⟩ :: rest) Q a σ) : ALst P n ds ops (⟨d, .move x, ty, ps, af, g⟩ :: rest) Q a σ := h
theorem is_assign {x : Operand} (h : ALst P n ds ops (⟨d, .assign x, ty, ps, af, g⟩ :: rest) Q a σ) : ALst P n ds ops (⟨d, .assign x, ty, ps, af, g⟩ :: rest) Q a σ := h
theorem is_load {t : TypeId} {x : Operand} (h : ALst P n ds ops (⟨d, .load t x, ty, ps, af, g⟩ :: rest) Q a σ) : ALst P n ds ops (⟨d, .load t x, ty, ps, af, g⟩ :: rest) Q a σ := h
theorem is_store {t : TypeId} {x y : Operand} (h : ALst P n ds ops (⟨d, .store t x y, ty, ps, af, g⟩ :: rest) Q a σ) : ALst P n ds ops (⟨d, .store t x y, ty, ps, af, g⟩ :: rest) Q a σ := h
theorem is_bin {b : BinOp} {t t' : TypeId} {x y : Operand} (h : ALst P n ds ops (⟨d, .binOp b t x y t', ty, ps, af, g⟩ :: rest) Q a σ) : ALst P n ds ops (⟨d, .binOp b t x y t', ty, ps, af, g⟩ :: rest) Q a σ := h
theorem is_fieldAddr {t : TypeId} {x : Operand} {f : Nat} (h : ALst P n ds ops (⟨d, .fieldAddr t x f, ty, ps, af, g⟩ :: rest) Q a σ) : ALst P n ds ops (⟨d, .fieldAddr t x f, ty, ps, af, g⟩ :: rest) Q a σ := h
theorem is_indexAddr {t : TypeId} {x y : Operand} (h : ALst P n ds ops (⟨d, .indexAddr t x y, ty, ps, af, g⟩ :: rest) Q a σ) : ALst P n ds ops (⟨d, .indexAddr t x y, ty, ps, af, g⟩ :: rest) Q a σ := h
theorem is_call {c : Call} (h : ALst P n ds ops (⟨d, .call c, ty, ps, af, g⟩ :: rest) Q a σ) : ALst P n ds ops (⟨d, .call c, ty, ps, af, g⟩ :: rest) Q a σ := h
theorem is_op {op : Op} (h : ALst P n ds ops (⟨d, op, ty, ps, af, g⟩ :: rest) Q a σ) : ALst P n ds ops (⟨d, op, ty, ps, af, g⟩ :: rest) Q a σ := h
theorem is_awp {c : Code} (h : AWP P n ds c Q a σ) : AWP P n ds c Q a σ := h
end
end
end Go.Proofs.Ytbfejlmamncemaa.Sk
