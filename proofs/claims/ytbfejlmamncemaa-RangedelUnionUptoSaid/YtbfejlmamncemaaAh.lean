/- Arguments that came in, as abstract values. No condition. -/
import Derived.Test.YtbfejlmamncemaaAg
import Derived.Test.YtbfejlmamncemaaSkB
namespace Go.Proofs.Ytbfejlmamncemaa.Sk
open Go Go.RowKit Go.Proofs Go.Proofs.Ytbfejlmamncemaa Go.ChangeShapes Go.WideShapes Go.ChangeAt
set_option linter.unusedVariables false
/-- all cells of a world -/
def F0 (W : World) : Nat → Nat → Prop := fun b o => ∃ v, W.cell? ⟨b, o, none⟩ = some v ∧ v.oneCell' = true
theorem inv0 (W : World) : Inv (F0 W) [] W := ⟨fun _ _ h => h, fun r h => absurd h List.not_mem_nil, List.Pairwise.nil⟩
structure Cs (W : World) (l : List Dat) (cs : List Value) : Prop where
  len : l.length = cs.length
  one : ∀ v ∈ cs, v.oneCell' = true
  v : ∀ (j : Nat) d u, l[j]? = some d → cs[j]? = some u → V (F0 W) W d u
theorem Cs.app {W : World} {l l' : List Dat} {cs cs' : List Value} (h : Cs W l cs) (h' : Cs W l' cs') : Cs W (l ++ l') (cs ++ cs') := by
  refine ⟨by simp [h.len, h'.len], fun v hv => ?_, fun j d u hd hu => ?_⟩
  · rcases List.mem_append.1 hv with hv | hv
    · exact h.one v hv
    · exact h'.one v hv
  · by_cases hj : j < l.length
    · rw [List.getElem?_append_left hj] at hd
      rw [List.getElem?_append_left (by rw [← h.len]; exact hj)] at hu
      exact h.v j d u hd hu
    · rw [List.getElem?_append_right (by omega)] at hd
      rw [List.getElem?_append_right (by rw [← h.len]; omega), ← h.len] at hu
      exact h'.v _ d u hd hu
theorem Cs.raw {W : World} {v : Value} (h : v.oneCell' = true) : Cs W [.raw v] [v] := by
  refine ⟨rfl, fun u hu => by rw [List.mem_singleton.1 hu]; exact h, fun j d u hd hu => ?_⟩
  cases j with
  | zero => simp at hd hu; subst hd; subst hu; exact .raw _
  | succ j => simp at hd

/-- Cells of this type, read as data, hold what 'g' says; so large at the least. -/
def OpD {H : Type} (enc : TypeId × Value → H) (P : Program) (W : World) (t : TypeId) {α : Type} (g : α → List Dat) (B : α → Nat) : Prop := Opens enc P W t (fun x cs => Cs W (g x) cs) B
section
variable {H : Type} {enc : TypeId × Value → H} {P : Program} {W : World}
theorem opD_int {t : TypeId} {k : IntKind} (ht : P.underlying t = some (.int k)) : OpD enc P W t (fun z : Int => [.raw (.int k z)]) (fun _ => 1) := fun fuel cs d ps h => by
  obtain ⟨z, ⟨rfl, _⟩, hb⟩ := opens_int ht fuel cs d ps h
  exact ⟨z, .raw rfl, hb⟩
theorem opD_string {t : TypeId} (ht : P.underlying t = some .string) : OpD enc P W t (fun z : ByteArray => [.raw (.string z)]) (fun _ => 1) := fun fuel cs d ps h => by
  obtain ⟨z, ⟨rfl, _⟩, hb⟩ := opens_string ht fuel cs d ps h
  exact ⟨z, .raw rfl, bulk_one d⟩
theorem opD_cons {off k m : Nat} {f : Field} {fs : List Field} {α β : Type} {g : α → List Dat} {g' : β → List Dat} {B : α → Nat} {C : β → Nat} (ho : f.offset = off) (hc : P.cellsOf f.type = k)
    (hfs : ∀ x ∈ fs, off + k ≤ x.offset) (h : OpD enc P W f.type g B) (h2 : OpensF enc P W (off + k) fs m (fun x cs => Cs W (g' x) cs) C) : OpensF enc P W off (f :: fs) (k + m) (fun (x : α × β) cs => Cs W (g x.1 ++ g' x.2) cs) (fun x => B x.1 + C x.2) := by
  intro n cs ds h1 h2' h3
  obtain ⟨x, ⟨c0, c1, rfl, _, g1, g2⟩, hb⟩ := fields_cons ho hc hfs h h2 n cs ds h1 h2' h3
  exact ⟨x, g1.app g2, hb⟩
theorem add_plain {a : Addr} {k : Nat} (h : a.spot = none) : a.add k = ⟨a.block, a.off + k, none⟩ := by
  cases a
  simp only at h
  subst h
  unfold Addr.add
  split
  · subst_vars; rfl
  · rfl
theorem cell_spot {a : Addr} {k : Nat} {u : Value} (hk : k = 0) (h : W.cell? (a.add k) = some u) : a.spot = none := by
  subst hk
  rw [show a.add 0 = a from rfl] at h
  unfold World.cell? at h
  split at h
  · split at h
    · cases h
    · cases hs : a.spot with
      | none => rfl
      | some q => rename_i hn; rw [hs] at hn; exact absurd rfl hn
  · cases h
theorem opD_slice {t e : TypeId} {sz : Nat} {α : Type} {g : α → List Dat} {B : α → Nat} (ht : P.underlying t = some (.slice e)) (hc : P.cellsOf e = sz) (hsz : 0 < sz) (h : OpD enc P W e g B) :
    OpD enc P W t (fun l : List α => [.sl sz (l.map g)]) (fun l => (l.map B).sum + 1) := by
  intro fuel cs d ps hd
  obtain ⟨⟨A, xs, c⟩, ⟨rfl, h1, h2, hrow⟩, hb⟩ := opens_slice ht hc hsz h fuel cs d ps hd
  simp only at h1 h2 hrow hb
  refine ⟨xs, ⟨rfl, fun v hv => by rw [List.mem_singleton.1 hv]; rfl, fun j dd u hj hu => ?_⟩, hb⟩
  cases j with
  | succ j => simp at hj
  | zero =>
    simp only [List.getElem?_cons_zero, Option.some.injEq] at hj hu
    subst hj
    subst hu
    have hget : ∀ i x, (xs.map g)[i]? = some x → ∃ ad, A = some ad ∧ ad.spot = none ∧ x.length = sz ∧ ∀ (j : Nat) d, x[j]? = some d → ∃ u, W.cell? ⟨ad.block, ad.off + (i * sz + j), none⟩ = some u ∧ u.oneCell' = true ∧ V (F0 W) W d u := by
      intro i x hx
      rw [List.getElem?_map] at hx
      obtain ⟨y, hy, rfl⟩ := Option.map_eq_some_iff.1 hx
      obtain ⟨ad, cs, rfl, hblk, hcl, hR, hcell⟩ := hrow.at_ i y hy
      have hsp : ad.spot = none := by
        have h00 : 0 < xs.length := Nat.lt_of_le_of_lt (Nat.zero_le _) (List.getElem?_eq_some_iff.1 hy).1
        obtain ⟨ad', cs', e, _, hcl', _, hcell'⟩ := hrow.at_ 0 _ (List.getElem?_eq_getElem h00)
        injection e with e
        subst e
        exact cell_spot (by omega) (hcell' 0 _ (List.getElem?_eq_getElem (by omega)))
      refine ⟨ad, rfl, hsp, by rw [hR.len, hcl], fun j d hj => ?_⟩
      have hlt : j < cs.length := by rw [← hR.len]; exact (List.getElem?_eq_some_iff.1 hj).1
      have h0 := hcell j _ (List.getElem?_eq_getElem hlt)
      refine ⟨cs[j], ?_, hR.one _ (List.getElem_mem _), hR.v j d _ hj (List.getElem?_eq_getElem hlt)⟩
      rw [← h0, add_plain hsp]
    have hlen : (xs.map g).length = xs.length := List.length_map ..
    cases A with
    | none =>
      have : xs = [] := by
        cases xs with
        | nil => rfl
        | cons x r =>
          obtain ⟨ad, h, _⟩ := hget 0 _ rfl
          cases h
      subst this
      exact V.sl sz [] none 0 0 c (fun _ _ => undef) (fun h => absurd h (Nat.lt_irrefl _)) (Nat.zero_le _) (Nat.zero_le _) (fun _ h => by cases h) (fun _ _ h => by simp at h) (fun _ _ h => by simp at h)
    | some ad =>
      rw [← hlen] at h1 ⊢
      refine V.sl sz (xs.map g) (some ad) ad.block ad.off c (fun i j => (W.cell? ⟨ad.block, ad.off + (i * sz + j), none⟩).getD undef) (fun h => ?_) h1 (Nat.le_trans h1 h2) (fun x hx => ?_) (fun i x hx j d hd => ?_) (fun i x hx j d hd => ?_)
      · obtain ⟨ad', e, hs, _⟩ := hget 0 _ (List.getElem?_eq_getElem h)
        injection e with e
        subst e
        cases ad
        simp only at hs
        subst hs
        rfl
      · obtain ⟨i, hi⟩ := List.getElem?_of_mem hx
        obtain ⟨_, _, _, h3, _⟩ := hget i x hi
        exact h3
      · obtain ⟨ad', e, _, _, h4⟩ := hget i x hx
        injection e with e
        subst e
        obtain ⟨u, g1, g2, g3⟩ := h4 j d hd
        exact ⟨⟨u, g1, g2⟩, by simp only [g1]; rfl⟩
      · obtain ⟨ad', e, _, _, h4⟩ := hget i x hx
        injection e with e
        subst e
        obtain ⟨u, g1, g2, g3⟩ := h4 j d hd
        simp only [g1]
        exact g3
/-- an argument of one cell -/
theorem OpD.arg {t : TypeId} {α : Type} {g : α → Dat} {B : α → Nat} (h : OpD enc P W t (fun x => [g x]) B) {v : Value} {d : DataW H} {ps : List MemPlace} (hv : v.cells.toList = [v]) (ht : DataW.Trod enc P W 0 (fun _ => true) true t v d ps) : ∃ x, V (F0 W) W (g x) v ∧ B x ≤ Rows.uptoBulk d := by
  obtain ⟨fuel, hf⟩ := ht
  rw [hv] at hf
  obtain ⟨x, hc, hb⟩ := h fuel _ d ps hf
  exact ⟨x, hc.v 0 _ _ rfl rfl, hb⟩
end
theorem Ext.below {F F' : Nat → Nat → Prop} {σ' : List Res} {W W' : World} (h : Ext F [] W F' σ' W') : Below W.heap.size W W' := ⟨h.os, h.tape, h.output, h.size, fun k hk => h.block k hk (by simp [blks])⟩
end Go.Proofs.Ytbfejlmamncemaa.Sk
