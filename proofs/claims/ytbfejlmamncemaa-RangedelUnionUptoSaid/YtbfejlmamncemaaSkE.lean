/- Rows: slices put together, appended to, frozen; less is known; results. No condition. -/
import Derived.Test.YtbfejlmamncemaaSkD
namespace Go.Proofs.Ytbfejlmamncemaa.Sk
open Go Go.RowKit

theorem flat_get {sz : Nat} : ∀ (l : List (List Dat)), (∀ x, x ∈ l → x.length = sz) → ∀ (i : Nat) x, l[i]? = some x → ∀ (j : Nat) d, x[j]? = some d → l.flatten[i * sz + j]? = some d := by
  intro l
  induction l with
  | nil => intro _ i x h; simp at h
  | cons y l ih =>
    intro hz i x hx j d hd
    have hy := hz y (List.mem_cons_self ..)
    rw [List.flatten_cons]
    cases i with
    | zero =>
      simp only [List.getElem?_cons_zero, Option.some.injEq] at hx
      subst hx
      rw [Nat.zero_mul, Nat.zero_add, List.getElem?_append_left (List.getElem?_eq_some_iff.1 hd).1]; exact hd
    | succ i =>
      rw [List.getElem?_append_right (by rw [hy, Nat.add_mul]; omega), hy, show (i + 1) * sz + j - sz = i * sz + j by rw [Nat.add_mul]; omega]
      exact ih (fun x h => hz x (List.mem_cons_of_mem _ h)) i x hx j d hd
theorem flat_len {sz : Nat} : ∀ (l : List (List Dat)), (∀ x, x ∈ l → x.length = sz) → l.flatten.length = l.length * sz := by
  intro l
  induction l with
  | nil => intro _; simp
  | cons y l ih =>
    intro hz
    rw [List.flatten_cons, List.length_append, hz y (List.mem_cons_self ..), ih (fun x h => hz x (List.mem_cons_of_mem _ h)), List.length_cons, Nat.add_mul]; omega

/-- the parts of a slice that is put together: all, in order -/
def inOrder : Nat → List (Nat × Option (List Dat)) → Nat → Option (List (List Dat))
  | _, [], _ => some []
  | k, (i, l) :: r, sz => match l with
    | none => none
    | some l => if i = k then (if l.length = sz then (match inOrder (k + 1) r sz with | some q => some (l :: q) | none => none) else none) else none

theorem fill_inOrder (sz N : Nat) : ∀ (parts : List (Nat × Option (List Dat))) (k : Nat) (l : List (List Dat)) (c0 : List Dat), inOrder k parts sz = some l → c0.length = N * sz → k + l.length ≤ N →
    (∀ x, x ∈ l → x.length = sz) ∧ bfill (fun i => some (i * sz, sz)) c0 parts = some (c0.take (k * sz) ++ l.flatten ++ c0.drop ((k + l.length) * sz)) := by
  intro parts
  induction parts with
  | nil =>
    intro k l c0 h hl hk
    simp only [inOrder, Option.some.injEq] at h
    subst h
    refine ⟨(fun x h => by cases h), ?_⟩
    simp [bfill]
  | cons p parts ih =>
    intro k l c0 h hl hk
    obtain ⟨i, y⟩ := p
    cases y with
    | none => simp [inOrder] at h
    | some y =>
      simp only [inOrder] at h
      split at h
      case isFalse => cases h
      rename_i hik
      subst hik
      split at h
      case isFalse => cases h
      rename_i hy
      cases hq : inOrder (i + 1) parts sz with
      | none => rw [hq] at h; cases h
      | some q =>
        rw [hq] at h
        simp only [Option.some.injEq] at h
        subst h
        simp only [List.length_cons] at hk
        have hle : i * sz + sz ≤ c0.length := by
          rw [hl, ← Nat.succ_mul]; exact Nat.mul_le_mul_right _ (by omega)
        obtain ⟨g1, g2⟩ := ih (i + 1) q (c0.take (i * sz) ++ y ++ c0.drop (i * sz + sz)) hq (by simp; omega) (by omega)
        refine ⟨fun x hx => ?_, ?_⟩
        · rcases List.mem_cons.1 hx with rfl | hx
          · exact hy
          · exact g1 x hx
        · simp only [bfill, bput, hy, if_true]
          rw [if_pos hle]
          simp only
          rw [g2]
          congr 1
          have e1 : (i + 1) * sz = i * sz + sz := Nat.succ_mul _ _
          have e2 : (i + 1 + q.length) * sz = i * sz + sz + q.length * sz := by rw [Nat.add_mul, e1]
          have e3 : (i + (q.length + 1)) * sz = i * sz + sz + q.length * sz := by rw [← e2]; congr 1; omega
          rw [List.length_cons, e1, e2, e3, List.flatten_cons]
          have ht : (c0.take (i * sz) ++ y).length = i * sz + sz := by simp [hy]; omega
          rw [List.take_append_of_le_length (by omega), List.take_of_length_le (by omega)]
          rw [List.drop_append, List.drop_of_length_le (l := c0.take (i * sz) ++ y) (by omega), ht, List.nil_append, List.drop_drop]
          rw [show i * sz + sz + (i * sz + sz + q.length * sz - (i * sz + sz)) = i * sz + sz + q.length * sz by omega]
          simp

/-- a new block whose first cells are frozen from now on -/
theorem Inv.alloc_frozen {F : Nat → Nat → Prop} {σ : List Res} {w : World} (h : Inv F σ w) {ob : Obj} {m : Nat} (hm : ∀ o, o < m → ∃ v, (w.alloc ob).cell? ⟨w.heap.size, o, none⟩ = some v ∧ v.oneCell' = true) :
    ∃ F', Ext F σ w F' σ (w.alloc ob) ∧ Inv F' σ (w.alloc ob) ∧ (∀ o, o < m → F' w.heap.size o) ∧ ∀ b o, F' b o → F b o ∨ b = w.heap.size := by
  have hold : ∀ k, k < w.heap.size → (w.alloc ob).heap[k]? = w.heap[k]? := fun k hk => Below.heap_alloc w ob k hk
  have hcell : ∀ b o, F b o → (w.alloc ob).cell? ⟨b, o, none⟩ = w.cell? ⟨b, o, none⟩ := fun b o hF => World.cell?_of_block (a := ⟨b, o, none⟩) (hold b (h.lt hF))
  refine ⟨fun b o => F b o ∨ (b = w.heap.size ∧ o < m), ⟨fun b o h => .inl h, hcell, fun k hk _ => hold k hk, by simp, rfl, rfl, rfl, fun k hk => .inl hk, fun b o hb => ?_⟩, ⟨fun b o hb => ?_, fun r hr => ?_, h.nodup⟩, fun o ho => .inr ⟨rfl, ho⟩, fun b o hb => hb.imp id (·.1)⟩
  · rcases hb with hb | ⟨rfl, _⟩
    · exact .inl hb
    · exact .inr (.inr (Nat.le_refl _))
  · rcases hb with hb | ⟨rfl, ho⟩
    · rw [hcell b o hb]; exact h.cell b o hb
    · exact hm o ho
  · refine (h.res r hr).keep (fun _ _ h => .inl h) hcell (fun k hk => hold k ((h.res r hr).lt hk)) (fun k hk o ho => ?_)
    rcases ho with ho | ⟨rfl, _⟩
    · exact ho
    · exact absurd ((h.res r hr).lt hk) (Nat.lt_irrefl _)

section
variable {P : Program} {a : Fr} {σ : List Res} {o : Oper} {n : Nat} {ds : List Deferred} {Q : Post} {ops : Array Oper} {rest : List Oper}

theorem CV.junk (F : Nat → Nat → Prop) (w : World) (cs : Array Value) : CV F w (List.replicate cs.size .junk) cs :=
  ⟨by simp, fun j d v hd _ => by
    rw [List.getElem?_replicate] at hd
    split at hd
    · injection hd with hd; rw [← hd]; exact .junk v
    · cases hd⟩

theorem alst_buildSlice {tab : Tab} (htab : TabOk P tab) {t N : Nat} {T e : TypeId} {parts : Array (Nat × Operand)} {ti : TI} {l : List (List Dat)} (ho : o.op = .buildSlice T N parts) (hd : o.dst = some t) (hg : agd ops a o = some true) (ht : Nat.blt t n = true)
    (hu : P.underlying T = some (.slice e)) (hte : tab e = some ti) (hb : inOrder 0 (parts.toList.map fun x => (x.1, dcells (ev a x.2))) ti.sz = some l) (hN : l.length = N) (h24 : N * ti.sz ≤ 16777216) (h24' : N ≤ 16777216)
    (h : ALst P n ds ops rest Q ((t, .sl ti.sz l) :: a) σ) : ALst P n ds ops (o :: rest) Q a σ := by
  refine alst_run hd hg ht fun F w ca hi hv => ?_
  have hok := htab e ti hte
  obtain ⟨inf, hinf, hsz, _, z, hz, hzc⟩ := hok.size
  have hsize := hok.run_sizeOf w
  obtain ⟨zv, hz1, hz2⟩ := hok.run_zero w
  let zc : Array Value := if N * ti.sz = 0 then #[] else ti.zero.toArray
  let cs0 : Array Value := (Array.range (N * ti.sz)).map (fun i => zc[i % zc.size]!)
  have hcs0 : cs0.size = N * ti.sz := by simp [cs0]
  obtain ⟨g1, g2⟩ := fill_inOrder ti.sz N _ 0 l (List.replicate cs0.size .junk) hb (by simp [hcs0]) (by omega)
  rw [Nat.zero_mul, List.take_zero, List.nil_append, Nat.zero_add, hN, List.drop_of_length_le (by simp [hcs0]), List.append_nil] at g2
  obtain ⟨cs, k1, k2⟩ := fill_CV hv parts.toList _ _ cs0 (CV.junk F w cs0) g2
  have hlen : cs.size = l.length * ti.sz := by rw [k2.1, flat_len l g1]
  -- each cell of one cell
  have hall : ∀ v ∈ cs, v.oneCell' = true := by
    intro v hv'
    obtain ⟨p, hp⟩ := Array.getElem?_of_mem hv'
    have hlt : p < l.flatten.length := k2.1 ▸ (Array.getElem?_eq_some_iff.1 hp).1
    refine (k2.2 p _ v (List.getElem?_eq_getElem hlt) hp).one ?_
    have hone : ∀ (ps : List (Nat × Operand)) (k : Nat) (l : List (List Dat)), inOrder k (ps.map fun x => (x.1, dcells (ev a x.2))) ti.sz = some l → ∀ d, d ∈ l.flatten → d.one = true := by
      intro ps
      induction ps with
      | nil => intro k l h d hd; simp only [List.map_nil, inOrder, Option.some.injEq] at h; subst h; simp at hd
      | cons x ps ih =>
        intro k l h d hd
        simp only [List.map_cons, inOrder] at h
        cases hy : dcells (ev a x.2) with
        | none => rw [hy] at h; cases h
        | some y =>
          rw [hy] at h
          simp only at h
          split at h
          case isFalse => cases h
          split at h
          case isFalse => cases h
          cases hq : inOrder (k + 1) (ps.map fun x => (x.1, dcells (ev a x.2))) ti.sz with
          | none => rw [hq] at h; cases h
          | some q =>
            rw [hq] at h
            simp only [Option.some.injEq] at h
            subst h
            rw [List.flatten_cons, List.mem_append] at hd
            rcases hd with hd | hd
            · have hd1 : ∀ (dd : Dat) (y : List Dat), dcells dd = some y → ∀ d, d ∈ y → d.one = true := by
                intro dd y hy d hd
                unfold dcells at hy
                split at hy
                · split at hy
                  · rename_i h1; injection hy with hy; subst hy; exact List.all_eq_true.1 h1 d hd
                  · cases hy
                · split at hy
                  · rename_i h1; injection hy with hy; subst hy
                    obtain ⟨v, hv1, hv2⟩ := List.mem_map.1 hd
                    rw [← hv2]; exact List.all_eq_true.1 h1 v hv1
                  · cases hy
                · split at hy
                  · rename_i h1; injection hy with hy; subst hy; rw [List.mem_singleton] at hd; rw [hd]; exact h1
                  · cases hy
              exact hd1 _ y hy d hd
            · exact ih (k + 1) q hq d hd
    exact hone parts.toList 0 l hb _ (List.getElem_mem _)
  obtain ⟨F', hex, hi', hF', hF2⟩ := hi.alloc_frozen (ob := .cells cs e) (m := l.length * ti.sz) (fun p hp => by
    rw [World.cell?_alloc_new]
    exact ⟨cs[p]'(by omega), Array.getElem?_eq_getElem _, hall _ (Array.getElem_mem _)⟩)
  refine ⟨.slice (some ⟨w.heap.size, 0, none⟩) N N, _, F', .sl ti.sz l, σ, ?_, hex, hi', ?_, h⟩
  · have e1 : (parts.map fun x => (x.1, ca.eval x.2)).toList = parts.toList.map fun x => (x.1, ca.eval x.2) := by simp
    simp only [execOp, ho, Instr.buildSlice, Sem.run_bind, run_underlying hu, hsize, Result.andThen_ok]
    rw [if_neg (by omega)]
    by_cases h0 : N * ti.sz = 0
    · have hz0 : zc = #[] := if_pos h0
      have k3 : Instr.fill (fun i => some (i * ti.sz, ti.sz)) (Array.map (fun x => (#[] : Array Value)[x % (#[] : Array Value).size]!) (Array.range (N * ti.sz))) (parts.toList.map fun x => (x.1, ca.eval x.2)) = some cs := by rw [← hz0]; exact k1
      rw [if_pos h0]
      simp only [Sem.run_bind, Sem.run_pure, Result.andThen_ok]
      rw [e1, k3]
      simp [newRow, World.alloc_eq]
    · have hz0 : zc = ti.zero.toArray := if_neg h0
      have k3 : Instr.fill (fun i => some (i * ti.sz, ti.sz)) (Array.map (fun x => ti.zero.toArray[x % ti.zero.toArray.size]!) (Array.range (N * ti.sz))) (parts.toList.map fun x => (x.1, ca.eval x.2)) = some cs := by rw [← hz0]; exact k1
      rw [if_neg h0]
      simp only [Sem.run_bind, hz1, Sem.run_pure, Result.andThen_ok, hz2]
      rw [e1, k3]
      simp [newRow, World.alloc_eq]
  · have hl1 : l.length ≤ maxLen := by unfold maxLen; omega
    have := V.sl (F := F') (w := w.alloc (.cells cs e)) ti.sz l (some ⟨w.heap.size, 0, none⟩) w.heap.size 0 N (fun i j => cs.getD (i * ti.sz + j) undef) (fun _ => rfl) (by omega) hl1 g1
      (fun i x hx j d hd => ?_) (fun i x hx j d hd => ?_)
    · rw [hN] at this; exact this
    · have h1 := flat_get l g1 i x hx j d hd
      have hlt : i * ti.sz + j < cs.size := by rw [k2.1]; exact (List.getElem?_eq_some_iff.1 h1).1
      rw [Nat.zero_add]
      refine ⟨hF' _ (by omega), ?_⟩
      rw [World.cell?_alloc_new, Array.getD_eq_getD_getElem?, Array.getElem?_eq_getElem hlt]; rfl
    · have h1 := flat_get l g1 i x hx j d hd
      have hlt : i * ti.sz + j < cs.size := by rw [k2.1]; exact (List.getElem?_eq_some_iff.1 h1).1
      refine (k2.2 _ d _ h1 ?_).ext hex
      show cs[i * ti.sz + j]? = some (cs.getD (i * ti.sz + j) undef)
      rw [Array.getD_eq_getD_getElem?, Array.getElem?_eq_getElem hlt]; rfl
end

/-- One thing that is owned becomes another, at the same block or at a new one. -/
theorem Inv.repl {F F' : Nat → Nat → Prop} {σ : List Res} {w w' : World} (h : Inv F σ w) {m : Nat} {r r' : Res} (hm : σ[m]? = some r) (hF : ∀ b o, F b o → F' b o) (hnew : ∀ b o, F' b o → F b o ∨ r.blk = some b ∨ w.heap.size ≤ b)
    (hcell : ∀ b o, F' b o → ∃ v, w'.cell? ⟨b, o, none⟩ = some v ∧ v.oneCell' = true) (hc : ∀ b o, F b o → w'.cell? ⟨b, o, none⟩ = w.cell? ⟨b, o, none⟩)
    (ho : ∀ k, k < w.heap.size → r.blk ≠ some k → w'.heap[k]? = w.heap[k]?) (hs : w.heap.size ≤ w'.heap.size) (hx : w'.os = w.os ∧ w'.tape = w.tape ∧ w'.output = w.output)
    (hb : ∀ k, r'.blk = some k → r.blk = some k ∨ w.heap.size ≤ k) (hr : ResOk F' w' r') : Inv F' (σ.set m r') w' ∧ Ext F σ w F' (σ.set m r') w' := by
  obtain ⟨hlt, hget⟩ := List.getElem?_eq_some_iff.1 hm
  have e : σ = σ.take m ++ r :: σ.drop (m + 1) := by rw [← hget]; simp
  have e' : σ.set m r' = σ.take m ++ r' :: σ.drop (m + 1) := by rw [List.set_eq_take_append_cons_drop, if_pos hlt]
  rw [e']
  generalize σ.take m = L at e
  generalize σ.drop (m + 1) = R at e
  subst e
  clear hlt hget hm e'
  have hnd := h.nodup
  rw [blks_append, blks_cons] at hnd
  -- the others' blocks
  have hoth : ∀ q, (q ∈ L ∨ q ∈ R) → ∀ k, q.blk = some k → k < w.heap.size ∧ r.blk ≠ some k := by
    intro q hq k hk
    have hmem : q ∈ L ++ r :: R := by rcases hq with hq | hq <;> simp [hq]
    refine ⟨(h.res q hmem).lt hk, fun hrk => ?_⟩
    rw [hrk] at hnd
    rw [List.nodup_append] at hnd
    rcases hq with hq | hq
    · exact hnd.2.2 k (mem_blks hq hk) k (by simp) rfl
    · have := hnd.2.1
      simp only [List.cons_append, List.nil_append, List.nodup_cons] at this
      exact this.1 (mem_blks hq hk)
  refine ⟨⟨hcell, fun q hq => ?_, ?_⟩, ⟨hF, hc, fun k hk hn => ?_, hs, hx.1, hx.2.1, hx.2.2, fun k hk => ?_, fun b o hb => ?_⟩⟩
  · have hq' : q = r' ∨ (q ∈ L ∨ q ∈ R) := by simp only [List.mem_append, List.mem_cons] at hq; rcases hq with h | h | h <;> simp [h]
    rcases hq' with rfl | hq'
    · exact hr
    · have hmem : q ∈ L ++ r :: R := by rcases hq' with hq | hq <;> simp [hq]
      refine (h.res q hmem).keep hF hc (fun k hk => ?_) (fun k hk o ho' => ?_)
      · obtain ⟨h1, h2⟩ := hoth q hq' k hk
        exact ho k h1 h2
      · obtain ⟨h1, h2⟩ := hoth q hq' k hk
        rcases hnew k o ho' with h3 | h3 | h3
        · exact h3
        · exact absurd h3 h2
        · omega
  · rw [blks_append, blks_cons]
    have hd : ∀ k, k ∈ blks L ∨ k ∈ blks R → r'.blk ≠ some k := by
      intro k hk hrk
      have : ∃ q, (q ∈ L ∨ q ∈ R) ∧ q.blk = some k := by
        rcases hk with hk | hk
        · obtain ⟨q, h1, h2⟩ := List.mem_filterMap.1 hk; exact ⟨q, .inl h1, h2⟩
        · obtain ⟨q, h1, h2⟩ := List.mem_filterMap.1 hk; exact ⟨q, .inr h1, h2⟩
      obtain ⟨q, hq, hqk⟩ := this
      obtain ⟨h1, h2⟩ := hoth q hq k hqk
      rcases hb k hrk with h3 | h3
      · exact h2 h3
      · omega
    rw [List.nodup_append] at hnd ⊢
    refine ⟨hnd.1, ?_, fun x hx y hy hxy => ?_⟩
    · cases hrb : r'.blk with
      | none =>
        have := hnd.2.1
        cases hrb0 : r.blk with
        | none => rw [hrb0] at this; exact this
        | some k => rw [hrb0] at this; simp only [List.cons_append, List.nil_append, List.nodup_cons] at this ⊢; exact this.2
      | some k =>
        simp only [List.cons_append, List.nil_append, List.nodup_cons]
        refine ⟨fun hk => hd k (.inr hk) hrb, ?_⟩
        have := hnd.2.1
        cases hrb0 : r.blk with
        | none => rw [hrb0] at this; exact this
        | some k => rw [hrb0] at this; simp only [List.cons_append, List.nil_append, List.nodup_cons] at this; exact this.2
    · subst hxy
      rw [List.mem_append] at hy
      rcases hy with hy | hy
      · cases hrb : r'.blk with
        | none => rw [hrb] at hy; cases hy
        | some k => rw [hrb] at hy; rw [List.mem_singleton] at hy; exact hd x (.inl hx) (by rw [hrb, hy])
      · exact hnd.2.2 x hx x (List.mem_append_right _ hy) rfl
  · refine ho k hk fun hrk => hn ?_
    rw [blks_append, blks_cons, hrk]; simp
  · rw [blks_append, blks_cons, List.mem_append, List.mem_append] at hk
    rw [blks_append, blks_cons, List.mem_append, List.mem_append]
    rcases hk with hk | hk | hk
    · exact .inl (.inl hk)
    · cases hrb : r'.blk with
      | none => rw [hrb] at hk; cases hk
      | some q =>
        rw [hrb, List.mem_singleton] at hk
        subst hk
        rcases hb k hrb with h3 | h3
        · exact .inl (.inr (.inl (by rw [h3]; simp)))
        · exact .inr h3
    · exact .inl (.inr (.inr hk))
  · rcases hnew b o hb with h3 | h3 | h3
    · exact .inl h3
    · refine .inr (.inl ?_)
      rw [blks_append, blks_cons, h3]; simp
    · exact .inr (.inr h3)

/-- a row that is owned and whose first elements are frozen is a frozen slice -/
theorem V_of_own {F : Nat → Nat → Prop} {w : World} {T : TypeId} {sz : Nat} {v : Value} {l : List (List Dat)} {xs : List Value} (hx : w.ownsRow 0 T sz v l.length xs) (hz : ∀ x, x ∈ l → x.length = sz)
    (hv : ∀ i x, l[i]? = some x → ∀ (j : Nat) d, x[j]? = some d → ∃ cv, xs[i * sz + j]? = some cv ∧ V F w d cv) (hF : ∀ g, v.ownBlock = some g → ∀ o, o < l.length * sz → F g o) : V F w (.sl sz l) v := by
  rcases hx.2 with ⟨rfl, h0⟩ | ⟨g, cap, cur, rfl, _, hg, hn, hm, _⟩
  · have : l = [] := List.eq_nil_of_length_eq_zero h0
    subst this
    exact HasSl.V (.nil sz) (.raw _)
  · refine .sl sz l (some ⟨g, 0, none⟩) g 0 cap (fun i j => xs.getD (i * sz + j) undef) (fun _ => rfl) hn (by omega) hz (fun i x hx' j d hd => ?_) (fun i x hx' j d hd => ?_)
    · obtain ⟨cv, h1, h2⟩ := hv i x hx' j d hd
      have hlt : i * sz + j < l.length * sz := by
        rw [← hx.1]; exact (List.getElem?_eq_some_iff.1 h1).1
      rw [Nat.zero_add]
      refine ⟨hF g rfl _ hlt, ?_⟩
      have := hx.cells (g := g) rfl _ _ h1
      rw [add_off, Nat.zero_add] at this
      rw [this, List.getD_eq_getElem?_getD, h1]; rfl
    · obtain ⟨cv, h1, h2⟩ := hv i x hx' j d hd
      show V F w d (xs.getD (i * sz + j) undef)
      rw [List.getD_eq_getElem?_getD, h1]; exact h2

section
variable {P : Program}

theorem run_append_none (t ty e : TypeId) (i : TypeInfo) (size c : Nat) (ht : P.underlying t = some (.slice e)) (hi : P.info? e = some i) {w : World}
    {v : Value} {n : Nat} {xs : List Value} (hown : w.ownsRow 0 e size v n xs) : (Builtin.append_ #[t, t] ty #[v, .slice none 0 c]).run P w = .ok v w := by
  rcases hown.2 with ⟨rfl, rfl⟩ | ⟨g, cap, cur, rfl, _, _, hnc, _⟩
  · simp [Builtin.append_, run_underlying ht, sizeOf, typeInfo, hi, Builtin.lenOf, Builtin.firstCells]
  · simp [Builtin.append_, run_underlying ht, sizeOf, typeInfo, hi, Builtin.lenOf, Builtin.firstCells, hnc, storeCells]

/-- an append leaves what the row held, and comes to the same block or a new one -/
theorem run_append_keep {w w' : World} (t ty e : TypeId) (i : TypeInfo) (z : Value) (ht : P.underlying t = some (.slice e)) (hi : P.info? e = some i) (hz : i.zero = some z) (hzs : z.cells.size = i.size) {v v' : Value} {n : Nat} {xs : List Value} (hown : w.ownsRow 0 e i.size v n xs)
    (a : Addr) (m c : Nat) (news : List Value) (hl : news.length = m * i.size) (hnews : ∀ j u, news[j]? = some u → w.cell? (a.add j) = some u) (h1 : ∀ u ∈ news, u.oneCell' = true)
    (h63 : n + m ≤ maxLen) (hbytes : (n + m) * i.bytes ≤ 140737488355328) (hrun : (Builtin.append_ #[t, t] ty #[v, .slice (some a) m c]).run P w = .ok v' w') :
    (∀ g o, v.ownBlock = some g → o < n * i.size → w'.cell? ⟨g, o, none⟩ = w.cell? ⟨g, o, none⟩) ∧ (∀ g, v'.ownBlock = some g → v.ownBlock = some g ∨ w.heap.size ≤ g) := by
  have hsmall : n + m ≤ 9223372036854775807 := by simp only [maxLen] at h63; omega
  rcases hown.2 with ⟨rfl, rfl⟩ | ⟨g, cap, cur, rfl, hbg, hg, hnc, hcm, hcs, htake⟩
  · refine ⟨(fun g o hg => by cases hg), fun g hg => ?_⟩
    by_cases hm : m = 0
    · subst hm
      have hn : news = [] := List.eq_nil_of_length_eq_zero (by simpa using hl)
      have hr : (Builtin.append_ #[t, t] ty #[.slice none 0 0, .slice (some a) 0 c]).run P w = .ok (.slice none 0 0) w := by
        simp [Builtin.append_, run_underlying ht, sizeOf, typeInfo, hi, Builtin.lenOf, Builtin.firstCells, loadCells, loadCellsFrom]
      rw [hr] at hrun
      injection hrun with e1 e2
      subst e1
      cases hg
    · have hr := run_append_nil (P := P) w t ty e i z ht hi hz a m c news hl hnews (by omega) (by omega) (by have hb := hbytes; simp only [Nat.zero_add] at hb; omega)
      rw [hr] at hrun
      injection hrun with e1 e2
      subst e1
      injection hg with hg
      exact .inr (by rw [← hg]; exact Nat.le_refl _)
  · by_cases hroom : n + m ≤ cap
    · have hfit : n * i.size + news.length ≤ cur.size := by rw [hl, hcs, ← Nat.add_mul]; exact Nat.mul_le_mul_right _ hroom
      have hr := run_append_room (P := P) w t ty e i ht hi g n cap cur hg a m c news hl hnews h1 hroom hfit
      rw [hr] at hrun
      injection hrun with e1 e2
      subst e1
      subst e2
      refine ⟨fun g' o hg' ho => ?_, fun g' hg' => .inl hg'⟩
      injection hg' with hg'
      subst hg'
      show World.cell? _ ⟨g, o, none⟩ = w.cell? ⟨g, o, none⟩
      rw [cell_of_row _ g o _ e _ (setRow_heap w g cur _ e _ hg), cell_of_row w g o _ e _ hg, List.getElem?_toArray]
      rw [List.getElem?_append_left (by simp; omega), List.getElem?_append_left (by simp; omega), List.getElem?_take, if_pos ho]; simp
    · have holds : ∀ j u, xs[j]? = some u → w.cell? ((⟨g, 0, none⟩ : Addr).add j) = some u := hown.cells (g := g) rfl
      have hr := run_append_grow (P := P) w t ty e i z ht hi hz ⟨g, 0, none⟩ n cap xs hown.1 holds a m c news hl hnews (by omega) (by omega) (growslice_fits (by omega) hbytes)
      rw [hr] at hrun
      injection hrun with e1 e2
      subst e1
      subst e2
      refine ⟨fun g' o hg' ho => ?_, fun g' hg' => .inr ?_⟩
      · injection hg' with hg'
        subst hg'
        exact World.cell?_of_block (a := ⟨g, o, none⟩) (Below.heap_alloc w.drew _ g (Array.getElem?_eq_some_iff.1 hg).1)
      · injection hg' with hg'
        rw [← hg']; exact Nat.le_refl _
end

section
variable {P : Program} {a : Fr} {σ : List Res} {o : Oper} {n : Nat} {ds : List Deferred} {Q : Post} {ops : Array Oper} {rest : List Oper}

/-- frozen elements as a row of values -/
theorem sl_news {F : Nat → Nat → Prop} {w : World} (hi : Inv F σ w) {sz : Nat} {l : List (List Dat)} {cv : Value} (h : V F w (.sl sz l) cv) :
    ∃ (A : Option Addr) (c : Nat) (news : List Value), cv = .slice A l.length c ∧ news.length = l.length * sz ∧ (∀ u ∈ news, u.oneCell' = true) ∧ (∀ ad, A = some ad → ∀ j u, news[j]? = some u → w.cell? (ad.add j) = some u) ∧ (A = none → l.length = 0) ∧
      (∀ x, x ∈ l → x.length = sz) ∧ l.length ≤ maxLen ∧ ∀ i x, l[i]? = some x → ∀ (j : Nat) d, x[j]? = some d → ∃ u, news[i * sz + j]? = some u ∧ V F w d u := by
  cases h with
  | sl _ _ A b o' c f hA hc hm hz hF hV =>
    have hcells : ∀ p, p < l.length * sz → ∃ i x j d, i = p / sz ∧ j = p % sz ∧ l[i]? = some x ∧ x[j]? = some d ∧ p = i * sz + j := by
      intro p hp
      have hsz : 0 < sz := by
        rcases Nat.eq_zero_or_pos sz with h | h
        · subst h; omega
        · exact h
      have hi : p / sz < l.length := Nat.div_lt_of_lt_mul (by rw [Nat.mul_comm]; exact hp)
      have hx := hz l[p / sz] (List.getElem_mem _)
      have hj : p % sz < l[p / sz].length := by rw [hx]; exact Nat.mod_lt _ hsz
      exact ⟨_, _, _, _, rfl, rfl, List.getElem?_eq_getElem hi, List.getElem?_eq_getElem hj, by rw [Nat.mul_comm]; exact (Nat.div_add_mod p sz).symm⟩
    refine ⟨A, c, (List.range (l.length * sz)).map (fun p => f (p / sz) (p % sz)), rfl, by simp, fun u hu => ?_, fun ad had j u hj => ?_, fun hn => ?_, hz, hm, fun i x hx j d hd => ?_⟩
    · obtain ⟨p, hp, rfl⟩ := List.mem_map.1 hu
      obtain ⟨i, x, j, d, rfl, rfl, hx, hd, _⟩ := hcells p (List.mem_range.1 hp)
      obtain ⟨g1, g2⟩ := hF _ x hx _ d hd
      obtain ⟨v, g3, g4⟩ := hi.cell _ _ g1
      rw [g2] at g3
      injection g3 with g3
      rw [g3]; exact g4
    · rw [List.getElem?_map] at hj
      rcases Nat.lt_or_ge j (l.length * sz) with hlt | hge
      · rw [List.getElem?_range hlt] at hj
        injection hj with hj
        obtain ⟨i, x, j', d, rfl, rfl, hx, hd, hp⟩ := hcells j hlt
        have hpos : 0 < l.length := Nat.lt_of_le_of_lt (Nat.zero_le _) (List.getElem?_eq_some_iff.1 hx).1
        have := hA hpos
        rw [had] at this
        injection this with this
        subst this
        obtain ⟨g1, g2⟩ := hF _ x hx _ d hd
        rw [← hj, add_off, ← g2, ← hp]
      · rw [List.getElem?_eq_none (by simpa using hge)] at hj; cases hj
    · rcases Nat.eq_zero_or_pos l.length with h | h
      · exact h
      · rw [hA h] at hn; cases hn
    · have hxl := hz x (List.mem_of_getElem? hx)
      have hj : j < sz := hxl ▸ (List.getElem?_eq_some_iff.1 hd).1
      have hil : i < l.length := (List.getElem?_eq_some_iff.1 hx).1
      have hlt : i * sz + j < l.length * sz := by
        have : (i + 1) * sz ≤ l.length * sz := Nat.mul_le_mul_right _ hil
        rw [Nat.add_mul] at this; omega
      refine ⟨f i j, ?_, hV i x hx j d hd⟩
      rw [List.getElem?_map, List.getElem?_range hlt]
      have e1 : (i * sz + j) / sz = i := by rw [Nat.mul_comm, Nat.mul_add_div (by omega), Nat.div_eq_of_lt hj, Nat.add_zero]
      have e2 : (i * sz + j) % sz = j := by rw [Nat.mul_comm, Nat.mul_add_mod, Nat.mod_eq_of_lt hj]
      simp [e1, e2]

/-- what an append comes to, for a row that is owned -/
theorem run_append_res {tab : Tab} (htab : TabOk P tab) {F : Nat → Nat → Prop} {w : World} (hi : Inv F σ w) {m k : Nat} {v : Value} {T e : TypeId} {sz : Nat} {l l2 : List (List Dat)} {frz : Bool} {ti : TI} (hm : σ[m]? = some (.own k v e sz l frz))
    (hu : P.underlying T = some (.slice e)) (hte : tab e = some ti) (hsz : ti.sz = sz) (hpos : Nat.blt 0 sz = true) {cv : Value} (h2 : V F w (.sl sz l2) cv) (hlen : l.length + l2.length ≤ maxLen) (hby : (l.length + l2.length) * ti.bytes ≤ 140737488355328) (ty : TypeId) :
    ∃ v' w' F', (Builtin.append_ #[T, T] ty #[v, cv]).run P w = .ok v' w' ∧ Ext F σ w F' (σ.set m (.own k v' e sz (l ++ l2) frz)) w' ∧ Inv F' (σ.set m (.own k v' e sz (l ++ l2) frz)) w' ∧
      (∃ A c, v' = .slice A (l.length + l2.length) c) ∧ (frz = true → V F' w' (.sl sz (l ++ l2)) v') := by
  have hpos : 0 < sz := by simpa using hpos
  obtain ⟨inf, hinf, hs1, hs2, z, hz1, hz2⟩ := (htab e ti hte).size
  have hzs : z.cells.size = inf.size := by rw [hz2, hs1]; simp [(htab e ti hte).zsz]
  have hisz : inf.size = sz := hs1.trans hsz
  obtain ⟨xs, hown, hx1, hxz, hxv, hxf⟩ := hi.res _ (List.mem_of_getElem? hm)
  obtain ⟨A, c, news, rfl, hn1, hn2, hn3, hn4, hn5, hn6, hn7⟩ := sl_news hi h2
  have hz' : ∀ x, x ∈ l ++ l2 → x.length = sz := fun x hx => (List.mem_append.1 hx).elim (hxz x) (hn5 x)
  -- all elements, out of the row and what is put behind it
  have hall : ∀ i x, (l ++ l2)[i]? = some x → ∀ (j : Nat) d, x[j]? = some d → ∃ u, (xs ++ news)[i * sz + j]? = some u ∧ V F w d u := by
    intro i x hx j d hd
    by_cases hil : i < l.length
    · rw [List.getElem?_append_left hil] at hx
      obtain ⟨u, g1, g2⟩ := hxv i x hx j d hd
      exact ⟨u, by rw [List.getElem?_append_left (List.getElem?_eq_some_iff.1 g1).1]; exact g1, g2⟩
    · rw [List.getElem?_append_right (by omega)] at hx
      obtain ⟨u, g1, g2⟩ := hn7 _ x hx j d hd
      refine ⟨u, ?_, g2⟩
      have hxs := hown.1
      have : l.length * sz ≤ i * sz := Nat.mul_le_mul_right _ (by omega)
      rw [List.getElem?_append_right (by omega), hxs, show i * sz + j - l.length * sz = (i - l.length) * sz + j by rw [Nat.sub_mul]; omega]; exact g1
  -- where the world, the value, the row are known
  have fin : ∀ v' w', (Builtin.append_ #[T, T] ty #[v, .slice A l2.length c]).run P w = .ok v' w' → w'.ownsRow 0 e sz v' (l.length + l2.length) (xs ++ news) → w.grownBy w' v.ownBlock →
      (∀ g o, v.ownBlock = some g → o < l.length * sz → w'.cell? ⟨g, o, none⟩ = w.cell? ⟨g, o, none⟩) → (∀ g, v'.ownBlock = some g → v.ownBlock = some g ∨ w.heap.size ≤ g) →
      ∃ v' w' F', (Builtin.append_ #[T, T] ty #[v, .slice A l2.length c]).run P w = .ok v' w' ∧ Ext F σ w F' (σ.set m (.own k v' e sz (l ++ l2) frz)) w' ∧ Inv F' (σ.set m (.own k v' e sz (l ++ l2) frz)) w' ∧
      (∃ A c, v' = .slice A (l.length + l2.length) c) ∧ (frz = true → V F' w' (.sl sz (l ++ l2)) v') := by
    intro v' w' hrun hown' hgr hkeep hblk
    let F' : Nat → Nat → Prop := fun b o => F b o ∨ (frz = true ∧ v'.ownBlock = some b ∧ o < (l.length + l2.length) * sz)
    have hc : ∀ b o, F b o → w'.cell? ⟨b, o, none⟩ = w.cell? ⟨b, o, none⟩ := by
      intro b o hF
      by_cases hvb : v.ownBlock = some b
      · exact hkeep b o hvb (hxf b hvb o hF).2
      · exact World.cell?_of_block (a := ⟨b, o, none⟩) (hgr.block b (hi.lt hF) (fun e => hvb e.symm))
    have hlen' : (l ++ l2).length = l.length + l2.length := List.length_append
    have hown2 : w'.ownsRow 0 e sz v' (l ++ l2).length (xs ++ news) := by rw [hlen']; exact hown'
    have hone : ∀ u ∈ xs ++ news, u.oneCell' = true := fun u hu => (List.mem_append.1 hu).elim (hx1 u) (hn2 u)
    have hres : ResOk F' w' (.own k v' e sz (l ++ l2) frz) := by
      refine ⟨xs ++ news, hown2, hone, hz', fun i x hx j d hd => ?_, fun b hb o hF => ?_⟩
      · obtain ⟨u, g1, g2⟩ := hall i x hx j d hd
        exact ⟨u, g1, g2.mono (fun _ _ h => .inl h) hc⟩
      · rw [hlen']
        rcases hF with hF | ⟨hf, _, ho⟩
        · rcases hblk b hb with h1 | h1
          · obtain ⟨g1, g2⟩ := hxf b h1 o hF
            exact ⟨g1, Nat.lt_of_lt_of_le g2 (Nat.mul_le_mul_right _ (by omega))⟩
          · exact absurd (hi.lt hF) (by omega)
        · exact ⟨hf, ho⟩
    obtain ⟨i', e'⟩ := hi.repl (F' := F') (w' := w') hm (r' := .own k v' e sz (l ++ l2) frz) (fun _ _ h => .inl h) (fun b o hF => by
        rcases hF with hF | ⟨_, hb, _⟩
        · exact .inl hF
        · exact .inr (hblk b hb)) (fun b o hF => by
        rcases hF with hF | ⟨_, hb, ho⟩
        · rw [hc b o hF]; exact hi.cell b o hF
        · have hlt : o < (xs ++ news).length := by rw [hown'.1]; exact ho
          have := hown'.cells hb o _ (List.getElem?_eq_getElem hlt)
          rw [add_off, Nat.zero_add] at this
          exact ⟨_, this, hone _ (List.getElem_mem _)⟩) hc (fun k hk hn => hgr.block k hk (fun e => hn e.symm)) hgr.size ⟨hgr.os, hgr.tape, hgr.output⟩ hblk hres
    refine ⟨v', w', F', hrun, e', i', ?_, fun hf => ?_⟩
    · rcases hown'.2 with ⟨rfl, h0⟩ | ⟨g, cap, cur, rfl, _⟩
      · exact ⟨none, 0, by rw [h0]⟩
      · exact ⟨_, _, rfl⟩
    · refine V_of_own hown2 hz' (fun i x hx j d hd => ?_) (fun g hg o ho => .inr ⟨hf, hg, by rw [← hlen']; exact ho⟩)
      obtain ⟨u, g1, g2⟩ := hall i x hx j d hd
      exact ⟨u, g1, g2.mono (fun _ _ h => .inl h) hc⟩
  cases A with
  | none =>
    have h0 := hn4 rfl
    have hl2 : l2 = [] := List.eq_nil_of_length_eq_zero h0
    have hnn : news = [] := List.eq_nil_of_length_eq_zero (by rw [hn1, h0]; simp)
    have hr := run_append_none (P := P) T ty e inf sz c hu hinf (w := w) hown
    refine fin v w (by rw [h0]; exact hr) (by rw [h0, hnn, List.append_nil]; exact hown) ⟨rfl, rfl, rfl, Nat.le_refl _, fun _ _ _ => rfl⟩ (fun _ _ _ _ => rfl) (fun g hg => .inl hg)
  | some ad =>
    have hrow : w.ownsRow 0 e inf.size v l.length xs := by rw [hisz]; exact hown
    have hbytes : (l.length + l2.length) * inf.bytes ≤ 140737488355328 := by rw [hs2]; exact hby
    have hnl : news.length = l2.length * inf.size := by rw [hisz]; exact hn1
    obtain ⟨v', w', g1, g2, g3, _⟩ := run_append_own (P := P) w 0 T ty e inf z inf.size inf.bytes hu hinf hz1 rfl rfl hzs (by omega) v l.length xs hrow ad l2.length c news hnl (hn3 ad rfl) hn2 hlen hbytes (Nat.zero_le _)
    obtain ⟨k1, k2⟩ := run_append_keep (P := P) T ty e inf z hu hinf hz1 hzs hrow ad l2.length c news hnl (hn3 ad rfl) hn2 hlen hbytes g1
    rw [hisz] at g2 k1
    exact fin v' w' g1 g2 g3 k1 k2

theorem alst_append {tab : Tab} (htab : TabOk P tab) {t m k k' : Nat} {x y : Operand} {v : Value} {T e : TypeId} {sz : Nat} {l l2 : List (List Dat)} {ti : TI} {bt : Nat} (ho : o.op = .call { callee := .builtin .append, args := #[x, y], argTypes := #[T, T] }) (hd : o.dst = some t) (hg : agd ops a o = some true) (ht : Nat.blt t n = true)
    (hx : ev a x = .osl k v sz l) (hm : σ[m]? = some (.own k' v e sz l true)) (hu : P.underlying T = some (.slice e)) (hte : tab e = some ti) (hsz : ti.sz = sz) (hpos : Nat.blt 0 sz = true) (hy : HasSl (ev a y) sz l2)
    (hlen : l.length + l2.length ≤ maxLen) (hbt : ti.bytes = bt) (hby : (l.length + l2.length) * bt ≤ 140737488355328)
    (h : ∀ v', ALst P n ds ops rest Q ((t, .osl k v' sz (l ++ l2)) :: a) (σ.set m (.own k' v' e sz (l ++ l2) true))) : ALst P n ds ops (o :: rest) Q a σ := by
  refine alst_run hd hg ht fun F w ca hi hv => ?_
  have h1 := ev_V hv x
  rw [hx] at h1
  have h2 := hy.V (ev_V hv y)
  obtain ⟨v', w', F', g1, g2, g3, _, g5⟩ := run_append_res htab hi hm hu hte hsz hpos h2 hlen (hbt ▸ hby) o.type
  have hev : ca.eval x = v := by generalize ca.eval x = q at h1; cases h1; rfl
  refine ⟨v', w', F', _, _, ?_, g2, g3, .osl k v' sz _ (g5 rfl), h v'⟩
  simp [execOp, ho, resolve, invoke, builtin, hev, g1]

theorem alst_append_m {tab : Tab} (htab : TabOk P tab) {t m k k' q : Nat} {x y : Operand} {v : Value} {T e : TypeId} {sz : Nat} {l l2 : List (List Dat)} {ti : TI} {bt : Nat} (ho : o.op = .call { callee := .builtin .append, args := #[x, y], argTypes := #[T, T] }) (hd : o.dst = some t) (hg : agd ops a o = some true) (ht : Nat.blt t n = true)
    (hx : ev a x = .msl k v q) (hm : σ[m]? = some (.own k' v e sz l false)) (hu : P.underlying T = some (.slice e)) (hte : tab e = some ti) (hsz : ti.sz = sz) (hpos : Nat.blt 0 sz = true) (hy : HasSl (ev a y) sz l2)
    (hlen : l.length + l2.length ≤ maxLen) (hbt : ti.bytes = bt) (hby : (l.length + l2.length) * bt ≤ 140737488355328)
    (h : ∀ v', ALst P n ds ops rest Q ((t, .msl k v' (l.length + l2.length)) :: a) (σ.set m (.own k' v' e sz (l ++ l2) false))) : ALst P n ds ops (o :: rest) Q a σ := by
  refine alst_run hd hg ht fun F w ca hi hv => ?_
  have h1 := ev_V hv x
  rw [hx] at h1
  have h2 := hy.V (ev_V hv y)
  obtain ⟨v', w', F', g1, g2, g3, g4, _⟩ := run_append_res htab hi hm hu hte hsz hpos h2 hlen (hbt ▸ hby) o.type
  have hev : ca.eval x = v := by generalize ca.eval x = q at h1; cases h1; rfl
  refine ⟨v', w', F', _, _, ?_, g2, g3, .msl k v' _ g4 hlen, h v'⟩
  simp [execOp, ho, resolve, invoke, builtin, hev, g1]

/-! ### less is known -/
def FrLe (a : Fr) : Fr → Prop
  | [] => True
  | (t, d) :: r => Sub (a.get t) d ∧ FrLe a r
theorem FrLe.VL {a a' : Fr} (h : FrLe a a') {F : Nat → Nat → Prop} {w : World} {tmps : Array Value} (hv : VL F w a tmps) : VL F w a' tmps := by
  intro t
  induction a' with
  | nil => exact .junk _
  | cons p r ih =>
    obtain ⟨k, d⟩ := p
    simp only [FrLe] at h
    simp only [Fr.get]
    by_cases e : k = t
    · subst e; rw [Nat.beq_refl]; exact h.1 F w _ (hv k)
    · rw [nbeq_ne e]; exact ih h.2
inductive RsLe : List Res → List Res → Prop
  | nil (σ : List Res) : RsLe σ []
  | cons {σ σ' : List Res} {r r' : Res} (m : Nat) (hm : σ[m]? = some r) (h : ResSub r r') (t : RsLe (σ.eraseIdx m) σ') : RsLe σ (r' :: σ')
theorem perm_erase {σ : List Res} {m : Nat} {r : Res} (hm : σ[m]? = some r) : σ.Perm (r :: σ.eraseIdx m) := by
  obtain ⟨h1, h2⟩ := List.getElem?_eq_some_iff.1 hm
  have : σ = σ.take m ++ r :: σ.drop (m + 1) := by rw [← h2]; simp
  conv => lhs; rw [this]
  rw [List.eraseIdx_eq_take_drop_succ]
  exact List.perm_middle
theorem RsLe.inv {σ σ' : List Res} (h : RsLe σ σ') {F : Nat → Nat → Prop} {w : World} (hi : Inv F σ w) : Inv F σ' w ∧ Ext F σ w F σ' w := by
  induction h with
  | nil => exact ⟨hi.sub (List.nil_sublist _), ⟨fun _ _ h => h, fun _ _ _ => rfl, fun _ _ _ => rfl, Nat.le_refl _, rfl, rfl, rfl, (fun k hk => by cases hk), fun _ _ h => .inl h⟩⟩
  | @cons σ σ' r r' m hm h t ih =>
    have p := perm_erase hm
    have hi2 := hi.perm p
    obtain ⟨g1, g2⟩ := ih (hi2.sub (List.sublist_cons_self ..))
    have hsub : ∀ k, k ∈ blks σ' → k ∈ blks (σ.eraseIdx m) := fun k hk => by
      rcases g2.own k hk with h1 | h1
      · exact h1
      · obtain ⟨q, hq1, hq2⟩ := List.mem_filterMap.1 hk
        exact absurd ((g1.res q hq1).lt hq2) (by omega)
    have hnd := hi2.nodup
    rw [blks_cons] at hnd
    refine ⟨⟨hi.cell, fun q hq => ?_, ?_⟩, ⟨fun _ _ h => h, fun _ _ _ => rfl, fun _ _ _ => rfl, Nat.le_refl _, rfl, rfl, rfl, fun k hk => ?_, fun _ _ h => .inl h⟩⟩
    · rcases List.mem_cons.1 hq with rfl | hq
      · exact h.2 F w (hi2.res r (List.mem_cons_self ..))
      · exact g1.res q hq
    · rw [blks_cons, h.1]
      cases hb : r.blk with
      | none => exact g1.nodup
      | some b =>
        rw [hb] at hnd
        simp only [List.cons_append, List.nil_append, List.nodup_cons] at hnd ⊢
        exact ⟨fun hk => hnd.1 (hsub b hk), g1.nodup⟩
    · refine .inl ((blks_perm p).mem_iff.2 ?_)
      rw [blks_cons, h.1, List.mem_append] at hk
      rw [blks_cons, List.mem_append]
      exact hk.imp id (hsub k)

theorem weak {a' : Fr} {σ' : List Res} (h1 : FrLe a a') (h2 : RsLe σ σ') : Weak a σ a' σ' := fun F w tmps hi hv =>
  ⟨F, (h2.inv hi).2, (h2.inv hi).1, h1.VL hv⟩
theorem Weak.refl (a : Fr) (σ : List Res) : Weak a σ a σ := fun F w tmps hi hv => ⟨F, Ext.refl _ _ _, hi, hv⟩
theorem Weak.trans {a a' a2 : Fr} {σ σ' σ2 : List Res} (h : Weak a σ a' σ') (h' : Weak a' σ' a2 σ2) : Weak a σ a2 σ2 := fun F w tmps hi hv => by
  obtain ⟨F1, e1, i1, v1⟩ := h F w tmps hi hv
  obtain ⟨F2, e2, i2, v2⟩ := h' F1 w tmps i1 v1
  exact ⟨F2, e1.trans e2, i2, v2⟩

/-- a nil slice is a row that is owned -/
theorem weak_nil (t k : Nat) (T : TypeId) (sz : Nat) (frz : Bool) (h : a.get t = .raw (.slice none 0 0)) : Weak a σ ((t, if frz then .osl k (.slice none 0 0) sz [] else .msl k (.slice none 0 0) 0) :: a) (.own k (.slice none 0 0) T sz [] frz :: σ) := by
  intro F w tmps hi hv
  refine ⟨F, ⟨fun _ _ h => h, fun _ _ _ => rfl, fun _ _ _ => rfl, Nat.le_refl _, rfl, rfl, rfl, fun k hk => .inl hk, fun _ _ h => .inl h⟩, ⟨hi.cell, fun r hr => ?_, hi.nodup⟩, fun u => ?_⟩
  · rcases List.mem_cons.1 hr with rfl | hr
    · exact ⟨[], World.ownsRow_nil w 0 T sz, by simp, by simp, by simp, fun b hb => by cases hb⟩
    · exact hi.res r hr
  · simp only [Fr.get]
    by_cases e : t = u
    · subst e
      rw [Nat.beq_refl]
      have := hv t
      rw [h] at this
      rw [raw_of this]
      cases frz
      · exact .msl k _ 0 ⟨none, 0, rfl⟩ (Nat.zero_le _)
      · exact .osl k _ sz [] (HasSl.V (.nil sz) (.raw _))
    · rw [nbeq_ne e]; exact hv u

/-- a row that is owned with all that it holds is frozen -/
theorem weak_freeze {k q m : Nat} {v : Value} {T : TypeId} {sz : Nat} {l : List (List Dat)} (hm : σ[m]? = some (.own k v T sz l false)) (ts : List Nat) (hts : ∀ t, t ∈ ts → ∃ k' q, a.get t = .msl k' v q) :
    Weak a σ (ts.map (fun t => (t, Dat.osl k v sz l)) ++ a) (σ.set m (.own k v T sz l true)) := by
  intro F w tmps hi hv
  obtain ⟨xs, hown, hx1, hxz, hxv, hxf⟩ := hi.res _ (List.mem_of_getElem? hm)
  let F' : Nat → Nat → Prop := fun b o => F b o ∨ (v.ownBlock = some b ∧ o < l.length * sz)
  have hV : V F' w (.sl sz l) v := V_of_own hown hxz (fun i x hx j d hd => by
    obtain ⟨u, g1, g2⟩ := hxv i x hx j d hd
    exact ⟨u, g1, g2.mono (fun _ _ h => .inl h) (fun _ _ _ => rfl)⟩) (fun g hg o ho => .inr ⟨hg, ho⟩)
  obtain ⟨i', e'⟩ := hi.repl (F' := F') (w' := w) hm (r' := .own k v T sz l true) (fun _ _ h => .inl h) (fun b o hF => by
      rcases hF with hF | ⟨hb, _⟩
      · exact .inl hF
      · exact .inr (.inl hb)) (fun b o hF => by
      rcases hF with hF | ⟨hb, ho⟩
      · exact hi.cell b o hF
      · have hlt : o < xs.length := by rw [hown.1]; exact ho
        have := hown.cells hb o _ (List.getElem?_eq_getElem hlt)
        rw [add_off, Nat.zero_add] at this
        exact ⟨_, this, hx1 _ (List.getElem_mem _)⟩) (fun _ _ _ => rfl) (fun _ _ _ => rfl) (Nat.le_refl _) ⟨rfl, rfl, rfl⟩ (fun k hk => .inl hk) (by
      refine ⟨xs, hown, hx1, hxz, fun i x hx j d hd => ?_, fun b hb o hF => ?_⟩
      · obtain ⟨u, g1, g2⟩ := hxv i x hx j d hd
        exact ⟨u, g1, g2.mono (fun _ _ h => .inl h) (fun _ _ _ => rfl)⟩
      · rcases hF with hF | ⟨_, ho⟩
        · exact ⟨rfl, (hxf b hb o hF).2⟩
        · exact ⟨rfl, ho⟩)
  refine ⟨F', e', i', fun u => ?_⟩
  have hold := hv.ext e'
  induction ts with
  | nil => exact hold u
  | cons t ts ih =>
    simp only [List.map_cons, List.cons_append, Fr.get]
    by_cases e : t = u
    · subst e
      rw [Nat.beq_refl]
      obtain ⟨k', q, hq⟩ := hts t (List.mem_cons_self ..)
      have h1 := hv t
      rw [hq] at h1
      have : tmps.getD t undef = v := by generalize tmps.getD t undef = c at h1; cases h1; rfl
      rw [this]
      exact .osl k v sz l hV
    · rw [nbeq_ne e]; exact ih (fun t ht => hts t (List.mem_cons_of_mem _ ht))

/-! ### results -/
theorem ares1 {fn : Func} {t : Tmp} (h : fn.results = #[.tmp t]) {d : Dat} {σ' : List Res} (hs : Sub (a.get t) d) (hσ : RsLe σ σ') : Ares P fn a σ d σ' := fun F w tmps hi hv =>
  ⟨tmps.getD t undef, F, results_tmp h tmps P w, (hσ.inv hi).2, (hσ.inv hi).1, hs F w _ (hv t)⟩
theorem ares0 {fn : Func} (h : fn.results = #[]) {σ' : List Res} (hσ : RsLe σ σ') : Ares P fn a σ (.tup []) σ' := fun F w tmps hi hv =>
  ⟨_, F, results_none h tmps P w, (hσ.inv hi).2, (hσ.inv hi).1, .tup [] [] rfl (fun j d v hd => by simp at hd)⟩
theorem ares2 {fn : Func} {t u : Tmp} (h : fn.results = #[.tmp t, .tmp u]) {d d' : Dat} {σ' : List Res} (hs : Sub (a.get t) d) (hs' : Sub (a.get u) d') (hσ : RsLe σ σ') : Ares P fn a σ (.tup [d, d']) σ' := fun F w tmps hi hv =>
  ⟨_, F, results_tmp2 h tmps P w, (hσ.inv hi).2, (hσ.inv hi).1, .tup [d, d'] [_, _] rfl (fun j e v hd hv' => by
    match j with
    | 0 => injection hd with hd; injection hv' with hv'; rw [← hd, ← hv']; exact hs F w _ (hv t)
    | 1 => injection hd with hd; injection hv' with hv'; rw [← hd, ← hv']; exact hs' F w _ (hv u)
    | j + 2 => simp at hd)⟩
theorem ares_weak {fn : Func} {d : Dat} {a' : Fr} {σ' σ2 : List Res} (hw : Weak a σ a' σ') (h : Ares P fn a' σ' d σ2) : Ares P fn a σ d σ2 := fun F w tmps hi hv => by
  obtain ⟨F1, e1, i1, v1⟩ := hw F w tmps hi hv
  obtain ⟨v, F2, g1, g2, g3, g4⟩ := h F1 w tmps i1 v1
  exact ⟨v, F2, g1, e1.trans g2, g3, g4⟩
end
end Go.Proofs.Ytbfejlmamncemaa.Sk
