/- Abstract values of Go and what it means that memory holds them: frozen cells, owned blocks. No condition. -/
import Derived.WalkKit
namespace Go.Proofs.Ytbfejlmamncemaa.Sk
open Go Go.RowKit

/-- An abstract value. raw: just this value; junk: any; ref: the address of a cell of an owned block b; sl: a slice whose elements are frozen (each a list of cells);
osl: such a slice whose row is owned beside (more may be appended); msl: a slice whose row is owned with all that it holds; el: the address of a cell in a frozen row of cells; mel: the address of a cell in an owned row. -/
inductive Dat where
  | raw (v : Value)
  | junk
  | ref (k b off : Nat)
  | sl (sz : Nat) (l : List (List Dat))
  | osl (k : Nat) (v : Value) (sz : Nat) (l : List (List Dat))
  | msl (k : Nat) (v : Value) (n : Nat)
  | el (x : List Dat) (off : Nat)
  | mel (k : Nat) (v : Value) (sz i off : Nat)
  | agg (l : List Dat)
  | tup (l : List Dat)

/-- a value of one cell, by its form -/
def Dat.one : Dat → Bool
  | .raw v => v.oneCell'
  | .junk | .agg _ | .tup _ => false
  | _ => true

/-- 'cv' is what the abstract value says, in a world in which the cells of F are frozen. -/
inductive V (F : Nat → Nat → Prop) (w : World) : Dat → Value → Prop
  | raw (v : Value) : V F w (.raw v) v
  | junk (v : Value) : V F w .junk v
  | ref (k b off : Nat) : V F w (.ref k b off) (.pointer (some ⟨b, off, none⟩))
  | sl (sz : Nat) (l : List (List Dat)) (A : Option Addr) (b o c : Nat) (f : Nat → Nat → Value) (hA : 0 < l.length → A = some ⟨b, o, none⟩) (hc : l.length ≤ c) (hm : l.length ≤ maxLen)
      (hz : ∀ x, x ∈ l → x.length = sz)
      (hF : ∀ i x, l[i]? = some x → ∀ j d, x[j]? = some d → F b (o + (i * sz + j)) ∧ w.cell? ⟨b, o + (i * sz + j), none⟩ = some (f i j))
      (hV : ∀ i x, l[i]? = some x → ∀ j d, x[j]? = some d → V F w d (f i j)) : V F w (.sl sz l) (.slice A l.length c)
  | osl (k : Nat) (v : Value) (sz : Nat) (l : List (List Dat)) (h : V F w (.sl sz l) v) : V F w (.osl k v sz l) v
  | msl (k : Nat) (v : Value) (n : Nat) (h : ∃ A c, v = .slice A n c) (hm : n ≤ maxLen) : V F w (.msl k v n) v
  | el (x : List Dat) (off b o : Nat) (f : Nat → Value) (hF : ∀ j d, x[j]? = some d → F b (o + j) ∧ w.cell? ⟨b, o + j, none⟩ = some (f j))
      (hV : ∀ j d, x[j]? = some d → V F w d (f j)) : V F w (.el x off) (.pointer (some ⟨b, o + off, none⟩))
  | mel (k b : Nat) (n c i off sz : Nat) (a : Nat) (ha : a = i * sz + off) : V F w (.mel k (.slice (some ⟨b, 0, none⟩) n c) sz i off) (.pointer (some ⟨b, a, none⟩))
  | agg (l : List Dat) (cs : List Value) (hl : l.length = cs.length) (hV : ∀ (j : Nat) d v, l[j]? = some d → cs[j]? = some v → V F w d v) : V F w (.agg l) (.agg cs.toArray)
  | tup (l : List Dat) (cs : List Value) (hl : l.length = cs.length) (hV : ∀ (j : Nat) d v, l[j]? = some d → cs[j]? = some v → V F w d v) : V F w (.tup l) (.tuple cs.toArray)

theorem V.one {F : Nat → Nat → Prop} {w : World} {d : Dat} {cv : Value} (h : V F w d cv) (h1 : d.one = true) : cv.oneCell' = true := by
  induction h with
  | raw v => exact h1
  | junk v => cases h1
  | osl k v sz l h ih => exact ih rfl
  | msl k v n h hm => obtain ⟨A, c, rfl⟩ := h; rfl
  | agg => cases h1
  | tup => cases h1
  | _ => rfl

/-- what is frozen stays known -/
theorem V.mono {F F' : Nat → Nat → Prop} {w w' : World} {d : Dat} {cv : Value} (h : V F w d cv) (hF : ∀ b o, F b o → F' b o) (hw : ∀ b o, F b o → w'.cell? ⟨b, o, none⟩ = w.cell? ⟨b, o, none⟩) : V F' w' d cv := by
  induction h with
  | raw v => exact .raw v
  | junk v => exact .junk v
  | ref k b off => exact .ref k b off
  | sl sz l A b o c f hA hc hm hz hF' hV ih =>
    exact .sl sz l A b o c f hA hc hm hz (fun i x hx j d hd => ⟨hF _ _ (hF' i x hx j d hd).1, (hw _ _ (hF' i x hx j d hd).1).trans (hF' i x hx j d hd).2⟩) ih
  | osl k v sz l h ih => exact .osl k v sz l ih
  | msl k v n h hm => exact .msl k v n h hm
  | el x off b o f hF' hV ih => exact .el x off b o f (fun j d hd => ⟨hF _ _ (hF' j d hd).1, (hw _ _ (hF' j d hd).1).trans (hF' j d hd).2⟩) ih
  | mel k b n c i off sz a ha => exact .mel k b n c i off sz a ha
  | agg l cs hl hV ih => exact .agg l cs hl ih
  | tup l cs hl hV ih => exact .tup l cs hl ih

/-- What is owned: a block that is a variable (box); a row that may be appended to (own): its first elements are l; frz: these are frozen. -/
inductive Res where
  | box (k b : Nat) (T : TypeId) (cells : List Dat)
  | own (k : Nat) (v : Value) (T : TypeId) (sz : Nat) (l : List (List Dat)) (frz : Bool)
  | obj (k b : Nat) (o : Obj)

def Res.blk : Res → Option Nat
  | .box _ b _ _ => some b
  | .own _ v _ _ _ _ => v.ownBlock
  | .obj _ b _ => some b

def Res.key : Res → Nat
  | .box k _ _ _ => k
  | .own k _ _ _ _ _ => k
  | .obj k _ _ => k

def ResOk (F : Nat → Nat → Prop) (w : World) : Res → Prop
  | .box _ b T cells => ∃ cur : Array Value, w.heap[b]? = some (.cells cur T (0, 0)) ∧ cur.size = cells.length ∧ (∀ v ∈ cur, v.oneCell' = true) ∧ (∀ (j : Nat) d v, cells[j]? = some d → cur[j]? = some v → V F w d v) ∧ ∀ o, ¬ F b o
  | .own _ v T sz l frz => ∃ xs : List Value, w.ownsRow 0 T sz v l.length xs ∧ (∀ v ∈ xs, v.oneCell' = true) ∧ (∀ x, x ∈ l → x.length = sz) ∧
      (∀ i x, l[i]? = some x → ∀ (j : Nat) d, x[j]? = some d → ∃ cv, xs[i * sz + j]? = some cv ∧ V F w d cv) ∧ ∀ b, v.ownBlock = some b → ∀ o, F b o → frz = true ∧ o < l.length * sz
  | .obj _ b o => w.heap[b]? = some o ∧ (∀ c T fr, o ≠ .cells c T fr) ∧ ∀ o, ¬ F b o

def blks (σ : List Res) : List Nat := σ.filterMap Res.blk

structure Inv (F : Nat → Nat → Prop) (σ : List Res) (w : World) : Prop where
  cell : ∀ b o, F b o → ∃ v, w.cell? ⟨b, o, none⟩ = some v ∧ v.oneCell' = true
  res : ∀ r, r ∈ σ → ResOk F w r
  nodup : (blks σ).Nodup

/-- From (F, σ, w) one has come to (F', σ', w'). -/
structure Ext (F : Nat → Nat → Prop) (σ : List Res) (w : World) (F' : Nat → Nat → Prop) (σ' : List Res) (w' : World) : Prop where
  le : ∀ b o, F b o → F' b o
  cell : ∀ b o, F b o → w'.cell? ⟨b, o, none⟩ = w.cell? ⟨b, o, none⟩
  block : ∀ k, k < w.heap.size → k ∉ blks σ → w'.heap[k]? = w.heap[k]?
  size : w.heap.size ≤ w'.heap.size
  os : w'.os = w.os
  tape : w'.tape = w.tape
  output : w'.output = w.output
  own : ∀ k, k ∈ blks σ' → k ∈ blks σ ∨ w.heap.size ≤ k
  new : ∀ b o, F' b o → F b o ∨ b ∈ blks σ ∨ w.heap.size ≤ b

theorem Ext.refl (F : Nat → Nat → Prop) (σ : List Res) (w : World) : Ext F σ w F σ w :=
  ⟨fun _ _ h => h, fun _ _ _ => rfl, fun _ _ _ => rfl, Nat.le_refl _, rfl, rfl, rfl, fun _ h => .inl h, fun _ _ h => .inl h⟩

theorem Ext.trans {F F1 F2 : Nat → Nat → Prop} {σ σ1 σ2 : List Res} {w w1 w2 : World} (h : Ext F σ w F1 σ1 w1) (h' : Ext F1 σ1 w1 F2 σ2 w2) : Ext F σ w F2 σ2 w2 := by
  refine ⟨fun b o hb => h'.le _ _ (h.le _ _ hb), fun b o hb => (h'.cell _ _ (h.le _ _ hb)).trans (h.cell _ _ hb), fun k hk hn => ?_, Nat.le_trans h.size h'.size, h'.os.trans h.os, h'.tape.trans h.tape, h'.output.trans h.output, fun k hk => ?_, fun b o hb => ?_⟩
  · refine (h'.block k (Nat.lt_of_lt_of_le hk h.size) fun h1 => ?_).trans (h.block k hk hn)
    rcases h.own k h1 with h1 | h1
    · exact hn h1
    · omega
  · rcases h'.own k hk with h1 | h1
    · exact h.own k h1
    · exact .inr (Nat.le_trans h.size h1)
  · rcases h'.new b o hb with h1 | h1 | h1
    · exact h.new b o h1
    · rcases h.own b h1 with h2 | h2
      · exact .inr (.inl h2)
      · exact .inr (.inr h2)
    · exact .inr (.inr (Nat.le_trans h.size h1))

theorem V.ext {F F' : Nat → Nat → Prop} {σ σ' : List Res} {w w' : World} {d : Dat} {cv : Value} (h : V F w d cv) (e : Ext F σ w F' σ' w') : V F' w' d cv := h.mono e.le e.cell

theorem blks_append (a b : List Res) : blks (a ++ b) = blks a ++ blks b := by unfold blks; rw [List.filterMap_append]
theorem mem_blks {σ : List Res} {r : Res} {k : Nat} (h : r ∈ σ) (hb : r.blk = some k) : k ∈ blks σ := List.mem_filterMap.2 ⟨r, h, hb⟩

theorem ResOk.lt {F : Nat → Nat → Prop} {w : World} {r : Res} (h : ResOk F w r) {k : Nat} (hb : r.blk = some k) : k < w.heap.size := by
  cases r with
  | box k0 b T cells => obtain ⟨cur, hc, _⟩ := h; injection hb with hb; subst hb; exact (Array.getElem?_eq_some_iff.1 hc).1
  | own k0 v T sz l frz => obtain ⟨xs, hx, _⟩ := h; exact (hx.lt k hb).2
  | obj k0 b o => obtain ⟨hc, _⟩ := h; injection hb with hb; subst hb; exact (Array.getElem?_eq_some_iff.1 hc).1

/-- what is owned and not touched stays -/
theorem ResOk.keep {F F' : Nat → Nat → Prop} {w w' : World} {r : Res} (h : ResOk F w r) (hF : ∀ b o, F b o → F' b o) (hw : ∀ b o, F b o → w'.cell? ⟨b, o, none⟩ = w.cell? ⟨b, o, none⟩)
    (hb : ∀ k, r.blk = some k → w'.heap[k]? = w.heap[k]?) (hn : ∀ k, r.blk = some k → ∀ o, F' k o → F k o) : ResOk F' w' r := by
  cases r with
  | box k b T cells =>
    obtain ⟨cur, hc, hs, h1, hv, hf⟩ := h
    exact ⟨cur, (hb b rfl).trans hc, hs, h1, fun j d v hd hv' => (hv j d v hd hv').mono hF hw, fun o ho => hf o (hn b rfl o ho)⟩
  | own k v T sz l frz =>
    obtain ⟨xs, hx, h1, hz, hv, hf⟩ := h
    refine ⟨xs, ⟨hx.1, ?_⟩, h1, hz, fun i x hi j d hd => ?_, fun b hb' o ho => hf b hb' o (hn b hb' o ho)⟩
    · rcases hx.2 with h2 | ⟨g, cap, cur, rfl, h3, h4, h5⟩
      · exact .inl h2
      · exact .inr ⟨g, cap, cur, rfl, h3, (hb g rfl).trans h4, h5⟩
    · obtain ⟨cv, h2, h3⟩ := hv i x hi j d hd
      exact ⟨cv, h2, h3.mono hF hw⟩
  | obj k b o =>
    obtain ⟨hc, hn', hf⟩ := h
    exact ⟨(hb b rfl).trans hc, hn', fun o ho => hf o (hn b rfl o ho)⟩

/-- THE FRAME -/
theorem Inv.frame {F F' : Nat → Nat → Prop} {σ₁ σ₁' σ₂ : List Res} {w w' : World} (h : Inv F (σ₁ ++ σ₂) w) (e : Ext F σ₁ w F' σ₁' w') (h' : Inv F' σ₁' w') :
    Inv F' (σ₁' ++ σ₂) w' ∧ Ext F (σ₁ ++ σ₂) w F' (σ₁' ++ σ₂) w' := by
  have hnd : ∀ r, r ∈ σ₂ → ∀ k, r.blk = some k → k < w.heap.size ∧ k ∉ blks σ₁ := by
    intro r hr k hk
    refine ⟨(h.res r (List.mem_append_right _ hr)).lt hk, fun hm => ?_⟩
    have := h.nodup
    rw [blks_append, List.nodup_append] at this
    exact this.2.2 k hm k (mem_blks hr hk) rfl
  refine ⟨⟨h'.cell, fun r hr => ?_, ?_⟩, ⟨e.le, e.cell, fun k hk hn => ?_, e.size, e.os, e.tape, e.output, fun k hk => ?_, fun b o hb => ?_⟩⟩
  · rcases List.mem_append.1 hr with hr | hr
    · exact h'.res r hr
    · refine (h.res r (List.mem_append_right _ hr)).keep e.le e.cell (fun k hk => ?_) (fun k hk o ho => ?_)
      · have := hnd r hr k hk
        exact e.block k this.1 this.2
      · have := hnd r hr k hk
        rcases e.new k o ho with h1 | h1 | h1
        · exact h1
        · exact absurd h1 this.2
        · omega
  · have h2 := h.nodup
    rw [blks_append, List.nodup_append] at h2 ⊢
    refine ⟨h'.nodup, h2.2.1, fun a ha b hb hab => ?_⟩
    subst hab
    obtain ⟨r, hr, hk⟩ := List.mem_filterMap.1 hb
    have := hnd r hr a hk
    rcases e.own a ha with h1 | h1
    · exact this.2 h1
    · omega
  · rw [blks_append, List.mem_append, not_or] at hn
    exact e.block k hk hn.1
  · rw [blks_append, List.mem_append] at hk ⊢
    rcases hk with hk | hk
    · rcases e.own k hk with h1 | h1
      · exact .inl (.inl h1)
      · exact .inr h1
    · exact .inl (.inr hk)
  · rw [blks_append, List.mem_append]
    rcases e.new b o hb with h1 | h1 | h1
    · exact .inl h1
    · exact .inr (.inl (.inl h1))
    · exact .inr (.inr h1)

theorem blks_perm {σ σ' : List Res} (h : σ.Perm σ') : (blks σ).Perm (blks σ') := h.filterMap _
theorem Inv.perm {F : Nat → Nat → Prop} {σ σ' : List Res} {w : World} (h : Inv F σ w) (p : σ.Perm σ') : Inv F σ' w :=
  ⟨h.cell, fun r hr => h.res r (p.mem_iff.2 hr), (blks_perm p).nodup_iff.1 h.nodup⟩
theorem Ext.perm {F F' : Nat → Nat → Prop} {σ σ' τ τ' : List Res} {w w' : World} (h : Ext F σ w F' σ' w') (p : σ.Perm τ) (q : σ'.Perm τ') : Ext F τ w F' τ' w' :=
  ⟨h.le, h.cell, fun k hk hn => h.block k hk fun hm => hn ((blks_perm p).mem_iff.1 hm), h.size, h.os, h.tape, h.output,
   fun k hk => (h.own k ((blks_perm q).mem_iff.2 hk)).imp (fun hm => (blks_perm p).mem_iff.1 hm) id,
   fun b o hb => (h.new b o hb).imp id (Or.imp (fun hm => (blks_perm p).mem_iff.1 hm) id)⟩
/-- what is owned may be forgotten -/
theorem Inv.sub {F : Nat → Nat → Prop} {σ σ' : List Res} {w : World} (h : Inv F σ w) (p : σ'.Sublist σ) : Inv F σ' w :=
  ⟨h.cell, fun r hr => h.res r (p.subset hr), (p.filterMap _).nodup h.nodup⟩
end Go.Proofs.Ytbfejlmamncemaa.Sk
