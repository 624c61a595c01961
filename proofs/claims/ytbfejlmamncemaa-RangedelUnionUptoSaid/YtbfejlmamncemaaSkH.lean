/- A variable that is written no more is frozen; halves. No condition. -/
import Derived.Test.YtbfejlmamncemaaSkG
namespace Go.Proofs.Ytbfejlmamncemaa.Sk
open Go Go.RowKit Go.Proofs
set_option linter.unusedVariables false

/-- The m-th thing that is owned, a variable, is frozen and owned no more. -/
theorem weak_frzb (m : Nat) {a : Fr} {σ : List Res} {k b : Nat} {T : TypeId} {cells : List Dat} (ts : List (Tmp × Nat)) (hm : σ[m]? = some (.box k b T cells)) (ht : ∀ t, t ∈ ts → ∃ k', a.get t.1 = .ref k' b t.2) :
    Weak a σ (ts.map (fun t => (t.1, Dat.el cells t.2)) ++ a) (σ.eraseIdx m) := by
  intro F w tmps hi hv
  obtain ⟨cur, h1, h2, h3, h4, h5⟩ := hi.res _ (List.mem_of_getElem? hm)
  have p := perm_erase hm
  let F' : Nat → Nat → Prop := fun b' o => F b' o ∨ (b' = b ∧ o < cells.length)
  have hmono : ∀ d cv, V F w d cv → V F' w d cv := fun d cv h => h.mono (fun _ _ h => .inl h) (fun _ _ _ => rfl)
  have hcell : ∀ o (ho : o < cells.length), w.cell? ⟨b, o, none⟩ = some (cur.getD o undef) := fun o ho => by
    rw [cell_of_row w b o cur _ _ h1, Array.getD_eq_getD_getElem?, Array.getElem?_eq_getElem (by omega)]
    rfl
  have hel : ∀ off, V F' w (.el cells off) (.pointer (some ⟨b, off, none⟩)) := fun off => by
    have := V.el (F := F') (w := w) cells off b 0 (fun j => cur.getD j undef) (fun j d hd => by
      have hj := (List.getElem?_eq_some_iff.1 hd).1
      rw [Nat.zero_add]
      exact ⟨.inr ⟨rfl, hj⟩, hcell j hj⟩) (fun j d hd => by
      have hj := (List.getElem?_eq_some_iff.1 hd).1
      refine hmono _ _ (h4 j d _ hd ?_)
      rw [Array.getD_eq_getD_getElem?, Array.getElem?_eq_getElem (by omega)]
      rfl)
    rw [Nat.zero_add] at this
    exact this
  have hi2 := hi.perm p
  have hnd := hi2.nodup
  rw [blks_cons] at hnd
  have hrest : ∀ r, r ∈ σ.eraseIdx m → ResOk F' w r := fun r hr => (hi2.res r (List.mem_cons_of_mem _ hr)).keep (fun _ _ h => .inl h) (fun _ _ _ => rfl) (fun _ _ => rfl) (fun q hq o ho => by
    rcases ho with ho | ⟨hb, _⟩
    · exact ho
    · exfalso
      subst hb
      simp only [Res.blk, List.cons_append, List.nil_append, List.nodup_cons] at hnd
      exact hnd.1 (mem_blks hr hq))
  refine ⟨F', ⟨fun _ _ h => .inl h, fun _ _ _ => rfl, fun _ _ _ => rfl, Nat.le_refl _, rfl, rfl, rfl, fun k' hk' => .inl ?_, fun b' o hb => ?_⟩, ⟨fun b' o hb => ?_, hrest, (List.sublist_append_right _ _).nodup hnd⟩, fun u => ?_⟩
  · exact (blks_perm p).mem_iff.2 (by rw [blks_cons, List.mem_append]; exact .inr hk')
  · rcases hb with hb | ⟨rfl, _⟩
    · exact .inl hb
    · exact .inr (.inl (mem_blks (List.mem_of_getElem? hm) rfl))
  · rcases hb with hb | ⟨rfl, ho⟩
    · exact hi.cell b' o hb
    · refine ⟨_, hcell o ho, h3 _ ?_⟩
      rw [Array.getD_eq_getD_getElem?, Array.getElem?_eq_getElem (by omega)]
      exact Array.getElem_mem _
  · induction ts with
    | nil => exact hmono _ _ (hv u)
    | cons q r ih =>
      obtain ⟨t, off⟩ := q
      simp only [List.map_cons, List.cons_append, Fr.get]
      by_cases e : t = u
      · subst e
        rw [Nat.beq_refl]
        obtain ⟨k', hk'⟩ := ht _ (List.mem_cons_self ..)
        have h := hv t
        rw [hk'] at h
        generalize tmps.getD t undef = c at h
        cases h
        exact hel off
      · rw [nbeq_ne e]; exact ih (fun t ht' => ht t (List.mem_cons_of_mem _ ht'))

section
variable {P : Program} {n : Nat} {ds : List Deferred} {Q : Post} {a : Fr} {σ : List Res} {ops : Array Oper} {rest : List Oper} {o : Oper}
/-- a variable made and never written -/
theorem alst_boxf {t : Nat} {T : TypeId} {x : Operand} {l : List Dat} (ho : o.op = .box T x) (hd : o.dst = some t) (hg : agd ops a o = some true) (ht : Nat.blt t n = true) (hx : dcells (ev a x) = some l)
    (h : ALst P n ds ops rest Q ((t, .el l 0) :: a) σ) : ALst P n ds ops (o :: rest) Q a σ := by
  refine alst_box ho hd hg ht hx fun b => ?_
  refine alst_weak (weak_frzb 0 [(t, 0)] rfl (fun q hq => ?_)) ?_
  · obtain rfl := List.mem_singleton.1 hq
    exact ⟨t, by simp [Fr.get]⟩
  · refine alst_weak (a' := (t, .el l 0) :: a) (σ' := σ) ?_ h
    intro F w tmps hi hv
    refine ⟨F, .refl _ _ _, hi, fun u => ?_⟩
    have := hv u
    simp only [List.map_cons, List.map_nil, List.cons_append, List.nil_append, Fr.get] at this ⊢
    by_cases e : t = u
    · subst e; rw [Nat.beq_refl] at this ⊢; exact this
    · rw [nbeq_ne e] at this ⊢; exact this
theorem ret1s {fn : Func} {t : Tmp} {d d' : Dat} {τ : List Res} (h : fn.results = #[.tmp t]) (hx : a.get t = d) (hs : Sub d d') (hr : RsLe σ τ) : abody P fn (RV d' τ) .ret a σ := ⟨d', τ, ares1 h (hx ▸ hs) hr, rfl, rfl⟩
theorem ret2s {fn : Func} {t u : Tmp} {d d' e e' : Dat} {τ : List Res} (h : fn.results = #[.tmp t, .tmp u]) (hx : a.get t = d) (hy : a.get u = e) (hs : Sub d d') (hs' : Sub e e') (hr : RsLe σ τ) : abody P fn (RV (.tup [d', e']) τ) .ret a σ := ⟨_, τ, ares2 h (hx ▸ hs) (hy ▸ hs') hr, rfl, rfl⟩
/-- a literal without elements: a row of one's own -/
theorem alst_lit0 {tab : Tab} (htab : TabOk P tab) {t : Nat} {T e : TypeId} {ti : TI} {sz : Nat} (frz : Bool) (ho : o.op = .buildSlice T 0 #[]) (hd : o.dst = some t) (hg : agd ops a o = some true) (ht : Nat.blt t n = true)
    (hu : P.underlying T = some (.slice e)) (hte : tab e = some ti) (hsz : ti.sz = sz)
    (h : ∀ v, ALst P n ds ops rest Q ((t, if frz then .osl t v sz [] else .msl t v 0) :: a) (.own t v e sz [] frz :: σ)) : ALst P n ds ops (o :: rest) Q a σ := by
  refine alst_run hd hg ht fun F w ca hi hv => ?_
  have hok := htab e ti hte
  have hsize := hok.run_sizeOf w
  obtain ⟨i, ex⟩ := hi.alloc (.cells #[] e (0, 0)) (.own t (.slice (some ⟨w.heap.size, 0, none⟩) 0 0) e sz [] frz) rfl (fun i' =>
    ⟨[], ⟨by simp, .inr ⟨w.heap.size, 0, #[], rfl, Nat.zero_le _, heap_alloc_new w _, Nat.le_refl _, Nat.zero_le _, by simp, by simp⟩⟩, by simp, by simp, fun i x hx => by simp at hx, fun b hb o hF => by
      injection hb with hb
      subst hb
      exact absurd (hi.lt hF) (Nat.lt_irrefl _)⟩)
  refine ⟨.slice (some ⟨w.heap.size, 0, none⟩) 0 0, _, F, _, _, ?_, ex, i, ?_, h (.slice (some ⟨w.heap.size, 0, none⟩) 0 0)⟩
  · simp [execOp, ho, Instr.buildSlice, run_underlying hu, hsize, Instr.fill, newRow, World.alloc_eq]
    exact congrArg (fun c => w.alloc (Obj.cells c e)) (Array.eq_empty_of_size_eq_zero (by simp))
  · cases frz
    · exact .msl t _ 0 ⟨_, _, rfl⟩ (Nat.zero_le _)
    · refine .osl t _ sz [] ?_
      exact V.sl sz [] (some ⟨w.heap.size, 0, none⟩) w.heap.size 0 0 (fun _ _ => undef) (fun h => absurd h (Nat.lt_irrefl _)) (Nat.le_refl _) (Nat.zero_le _) (by simp) (by simp) (by simp)
theorem alst_lito {tab : Tab} (htab : TabOk P tab) {t : Nat} {T e : TypeId} {ti : TI} (sz : Nat) (ho : o.op = .buildSlice T 0 #[]) (hd : o.dst = some t) (hg : agd ops a o = some true) (ht : Nat.blt t n = true)
    (hu : P.underlying T = some (.slice e)) (hte : tab e = some ti) (hsz : ti.sz = sz)
    (h : ∀ v, ALst P n ds ops rest Q ((t, .osl t v sz []) :: a) (.own t v e sz [] true :: σ)) : ALst P n ds ops (o :: rest) Q a σ := alst_lit0 htab true ho hd hg ht hu hte hsz h
theorem alst_litm {tab : Tab} (htab : TabOk P tab) {t : Nat} {T e : TypeId} {ti : TI} (sz : Nat) (ho : o.op = .buildSlice T 0 #[]) (hd : o.dst = some t) (hg : agd ops a o = some true) (ht : Nat.blt t n = true)
    (hu : P.underlying T = some (.slice e)) (hte : tab e = some ti) (hsz : ti.sz = sz)
    (h : ∀ v, ALst P n ds ops rest Q ((t, .msl t v 0) :: a) (.own t v e sz [] false :: σ)) : ALst P n ds ops (o :: rest) Q a σ := alst_lit0 htab false ho hd hg ht hu hte hsz h
theorem wrap_u64_id {x : Int} (h : 0 ≤ x ∧ x ≤ 18446744073709551615) : IntKind.u64.wrap x = x := by
  have : IntKind.u64.wrap x = x % 18446744073709551616 := by
    simp [IntKind.wrap, IntKind.bits, IntKind.signed]
  rw [this]; omega
theorem q_conv_u {t t' : TypeId} {x : Operand} {k : IntKind} {i : Int} {dd : TypeDesc} (ho : o.op = .convert t t' x) (hs : P.underlying t = some dd) (hu : P.underlying t' = some (.int .u64)) (hx : ev a x = .raw (.int k i)) (h : 0 ≤ i ∧ i ≤ 18446744073709551615) : QOp P o a σ (.raw (.int .u64 i)) := by
  have := q_conv_int (σ := σ) ho hs hu hx
  rw [wrap_u64_id h] at this
  exact this
theorem q_conv_i {t t' : TypeId} {x : Operand} {k : IntKind} {i : Int} {dd : TypeDesc} (ho : o.op = .convert t t' x) (hs : P.underlying t = some dd) (hu : P.underlying t' = some (.int .i64)) (hx : ev a x = .raw (.int k i)) (h : -9223372036854775808 ≤ i ∧ i ≤ 9223372036854775807) : QOp P o a σ (.raw (.int .i64 i)) := by
  have := q_conv_int (σ := σ) ho hs hu hx
  rw [wrap_i64_id h] at this
  exact this
theorem q_half {t t' : TypeId} {x y : Operand} {k k' : IntKind} {i : Int} (ho : o.op = .binOp .shr t x y t') (hx : ev a x = .raw (.int k i)) (hy : ev a y = .raw (.int k' 1)) (hk : Nat.ble 1 k.bits = true) : QOp P o a σ (.raw (.int k (i / 2))) :=
  q_bin ho hx hy (by
    have hk := Nat.le_of_ble_eq_true hk
    simp only [binv]
    rw [if_pos (by decide), show min (1 : Int).toNat k.bits = 1 by show min 1 k.bits = 1; omega]
    rw [Int.fdiv_eq_ediv_of_nonneg _ (by decide)]
    rfl)
end
end Go.Proofs.Ytbfejlmamncemaa.Sk
