/- How an argument that is made of slices, structs, texts and numbers reads as lists, and how large it is. No condition. -/
import Derived.Test.YtbfejlmamncemaaRows
import Derived.Deep.Slices
import Derived.ChangeArms
import Derived.ChangeOld
import Derived.ProofKit
import Derived.OpenShut
namespace Go.Proofs.Ytbfejlmamncemaa
set_option linter.unusedVariables false
set_option linter.unusedSimpArgs false
open Go Go.RowKit Go.ChangeShapes Go.WideShapes Go.ChangeAt

theorem block_of_add (a : Addr) (k : Nat) : (a.add k).block = a.block := by unfold Addr.add; split <;> rfl
section
variable {H : Type} {enc : TypeId × Value → H} {P : Program} {W : World}
theorem bulk_one (d : DataW H) : 1 ≤ Rows.uptoBulk d := by
  cases d with
  | lit l => cases l <;> simp [Rows.uptoBulk]
  | nil => simp [Rows.uptoBulk]
  | ptr d => simp [Rows.uptoBulk]
  | slice elems spare => simp [Rows.uptoBulk]
  | agg parts => simp [Rows.uptoBulk]
  | iface t d => simp [Rows.uptoBulk]
  | map entries => simp [Rows.uptoBulk]
  | held h => simp [Rows.uptoBulk]
theorem bulk_append (l r : List (DataW H)) : Rows.uptoBulkAll (l ++ r) = Rows.uptoBulkAll l + Rows.uptoBulkAll r := by
  induction l with
  | nil => simp [Rows.uptoBulkAll]
  | cons x l ih => simp only [List.cons_append, Rows.uptoBulkAll, ih]; omega
theorem bulk_bound {l : List (DataW H)} (hk : Rows.uptoSmall H l = true) : Rows.uptoBulkAll l ≤ 1048576 := of_decide_eq_true hk

/-- Cells of this type, read as data, are so; so large at the least. -/
def Opens (enc : TypeId × Value → H) (P : Program) (W : World) (t : TypeId) {α : Type} (R : α → List Value → Prop) (B : α → Nat) : Prop :=
  ∀ (fuel : Nat) (cs : List Value) (d : DataW H) (ps : List MemPlace), DataW.trod enc P W 0 (fun _ => true) true fuel t cs = some (d, ps) → ∃ x, R x cs ∧ B x ≤ Rows.uptoBulk d

def RInt (k : IntKind) (z : Int) (cs : List Value) : Prop := cs = [.int k z] ∧ (Lit.int k z).wf = true
theorem opens_int {t : TypeId} {k : IntKind} (ht : P.underlying t = some (.int k)) : Opens enc P W t (RInt k) (fun _ => 1) := by
  intro fuel cs d ps h
  obtain ⟨n, rfl, -, hw⟩ := DataW.trod_int ht h
  exact ⟨n, ⟨rfl, hw⟩, bulk_one d⟩
def RStr (s : ByteArray) (cs : List Value) : Prop := cs = [.string s] ∧ s.size ≤ maxLen
theorem opens_string {t : TypeId} (ht : P.underlying t = some .string) : Opens enc P W t RStr (fun s => s.size + 1) := by
  intro fuel cs d ps h
  obtain ⟨s, rfl, hx, hw⟩ := DataW.trod_string ht h
  obtain ⟨rfl, -⟩ := Prod.mk.inj hx
  refine ⟨s, ⟨rfl, hw⟩, ?_⟩
  simp [Rows.uptoBulk]
def RBool (b : Bool) (cs : List Value) : Prop := cs = [.bool b]
theorem opens_bool {t : TypeId} (ht : P.underlying t = some .bool) : Opens enc P W t RBool (fun _ => 1) := by
  intro fuel cs d ps h
  obtain ⟨b, rfl, -⟩ := DataW.trod_bool ht h
  exact ⟨b, rfl, bulk_one d⟩

/-- A row of elements, each of so many cells. -/
structure RowOf (W : World) (sz : Nat) {α : Type} (R : α → List Value → Prop) (A : Option Addr) (xs : List α) : Prop where
  at_ : ∀ i x, xs[i]? = some x → ∃ ad cs, A = some ad ∧ ad.block < W.heap.size ∧ cs.length = sz ∧ R x cs ∧ ∀ j u, cs[j]? = some u → W.cell? (ad.add (i * sz + j)) = some u
def RSl (W : World) (sz : Nat) {α : Type} (R : α → List Value → Prop) (v : Option Addr × List α × Nat) (cs : List Value) : Prop :=
  cs = [.slice v.1 v.2.1.length v.2.2] ∧ v.2.1.length ≤ v.2.2 ∧ v.2.2 ≤ maxLen ∧ RowOf W sz R v.1 v.2.1
theorem list_of {α : Type} {n : Nat} {p : Nat → α → Prop} (h : ∀ i, i < n → ∃ x, p i x) : ∃ xs : List α, xs.length = n ∧ ∀ i x, xs[i]? = some x → p i x := by
  induction n with
  | zero => exact ⟨[], rfl, fun i x h => by simp at h⟩
  | succ n ih =>
    obtain ⟨xs, hl, hx⟩ := ih (fun i hi => h i (by omega))
    obtain ⟨x, hp⟩ := h n (by omega)
    refine ⟨xs ++ [x], by simp [hl], fun i y hy => ?_⟩
    by_cases hi : i < n
    · rw [List.getElem?_append_left (by omega)] at hy; exact hx i y hy
    · rw [List.getElem?_append_right (by omega)] at hy
      have h0 : i - xs.length = 0 := by
        have := (List.getElem?_eq_some_iff.1 hy).1
        simp at this; omega
      rw [h0] at hy
      have : x = y := by simpa using hy
      subst this
      rwa [show i = n by omega]
theorem sum_bulk {α : Type} {B : α → Nat} : ∀ (xs : List α) (ds : List (DataW H)), xs.length = ds.length → (∀ (i : Nat) x d, xs[i]? = some x → ds[i]? = some d → B x ≤ Rows.uptoBulk d) → (xs.map B).sum ≤ Rows.uptoBulkAll ds := by
  intro xs
  induction xs with
  | nil => intro ds h _; simp
  | cons x r ih =>
    intro ds h hb
    cases ds with
    | nil => simp at h
    | cons d ds =>
      have h1 := hb 0 x d rfl rfl
      have h2 := ih ds (by simpa using h) (fun i y e hy he => hb (i + 1) y e (by simpa using hy) (by simpa using he))
      simp only [List.map_cons, List.sum_cons, Rows.uptoBulkAll]; omega
theorem opens_slice {t e : TypeId} {sz : Nat} {α : Type} {R : α → List Value → Prop} {B : α → Nat} (ht : P.underlying t = some (.slice e)) (hc : P.cellsOf e = sz) (hsz : 0 < sz) (h : Opens enc P W e R B) :
    Opens enc P W t (RSl W sz R) (fun v => (v.2.1.map B).sum + 1) := by
  intro fuel cs d ps hd
  rcases DataW.trod_slice ht hd with ⟨rfl, hx⟩ | ⟨a, len, cap, elems, rest, n, -, rfl, hx, -, hl, hm, hlen, hel, -, -⟩
  · refine ⟨(none, [], 0), ⟨rfl, Nat.le_refl _, Nat.zero_le _, ⟨fun i x h => by simp at h⟩⟩, ?_⟩
    exact bulk_one d
  · obtain ⟨rfl, -⟩ := Prod.mk.inj hx
    obtain ⟨xs, hxl, hxs⟩ := list_of (n := len) (p := fun i (x : α) => ∃ cs el, elems[i]? = some el ∧ a.block < W.heap.size ∧ cs.length = sz ∧ R x cs ∧ B x ≤ Rows.uptoBulk el.1 ∧ ∀ j u, cs[j]? = some u → W.cell? (a.add (i * sz + j)) = some u) (fun i hi => by
      have h1 := hel i hi
      rw [List.getElem?_eq_getElem (by omega)] at h1
      obtain ⟨cs, h2, h3⟩ := Option.bind_eq_some_iff.1 h1
      rw [hc] at h2
      obtain ⟨x, hR, hB⟩ := h n cs _ _ h3
      obtain ⟨-, hcl, hcell⟩ := World.cells?_some h2
      have hblk := World.cells?_block h2 hsz
      refine ⟨x, cs, _, List.getElem?_eq_getElem (by omega), by rwa [block_of_add] at hblk, hcl, hR, hB, fun j u hu => ?_⟩
      have hj := (List.getElem?_eq_some_iff.1 hu).1
      rw [← Deep.add_add, hcell j (by omega), hu])
    refine ⟨(some a, xs, cap), ⟨by rw [hxl], by rw [hxl]; exact hl, hm, ⟨fun i x hi => ?_⟩⟩, ?_⟩
    · obtain ⟨cs, el, -, h2, h3, h4, -, h6⟩ := hxs i x hi
      exact ⟨a, cs, rfl, h2, h3, h4, h6⟩
    · have := sum_bulk (B := B) xs (elems.map (·.1)) (by rw [hxl]; simp [hlen]) (fun i x d hx hd => by
        obtain ⟨cs, el, h1, -, -, -, h5, -⟩ := hxs i x hx
        rw [List.getElem?_map, h1] at hd
        have : el.1 = d := by simpa using hd
        rw [← this]; exact h5)
      simp only [Rows.uptoBulk]; omega

/-- Fields from a place on. -/
def OpensF (enc : TypeId × Value → H) (P : Program) (W : World) (off : Nat) (fs : List Field) (m : Nat) {α : Type} (R : α → List Value → Prop) (B : α → Nat) : Prop :=
  ∀ (n : Nat) (cs : List Value) (ds : List (DataW H × List MemPlace)), cs.length = m → ds.length = fs.length →
    (∀ (i : Nat) (f : Field), fs[i]? = some f → DataW.trod enc P W 0 (fun _ => true) true n f.type ((cs.drop (f.offset - off)).take (P.cellsOf f.type)) = ds[i]?) → ∃ x, R x cs ∧ B x ≤ Rows.uptoBulkAll (ds.map (·.1))
theorem fields_one {off : Nat} {f : Field} {m : Nat} {α : Type} {R : α → List Value → Prop} {B : α → Nat} (ho : f.offset = off) (hc : P.cellsOf f.type = m) (h : Opens enc P W f.type R B) : OpensF enc P W off [f] m R B := by
  intro n cs ds hl hd hf
  have h0 := hf 0 f rfl
  rw [ho, Nat.sub_self, List.drop_zero, hc, List.take_of_length_le (by omega)] at h0
  match ds, hd with
  | [d], _ =>
    obtain ⟨x, hR, hB⟩ := h n cs d.1 d.2 h0
    exact ⟨x, hR, by simp only [List.map_cons, List.map_nil, Rows.uptoBulkAll]; omega⟩
def RCons (k : Nat) {α β : Type} (R : α → List Value → Prop) (S : β → List Value → Prop) (x : α × β) (cs : List Value) : Prop := ∃ c0 c1, cs = c0 ++ c1 ∧ c0.length = k ∧ R x.1 c0 ∧ S x.2 c1
theorem fields_cons {off k m : Nat} {f : Field} {fs : List Field} {α β : Type} {R : α → List Value → Prop} {S : β → List Value → Prop} {B : α → Nat} {C : β → Nat} (ho : f.offset = off) (hc : P.cellsOf f.type = k)
    (hfs : ∀ g ∈ fs, off + k ≤ g.offset) (h : Opens enc P W f.type R B) (h2 : OpensF enc P W (off + k) fs m S C) : OpensF enc P W off (f :: fs) (k + m) (RCons k R S) (fun x => B x.1 + C x.2) := by
  intro n cs ds hl hd hf
  match ds, hd with
  | d :: ds, hd =>
    have h0 := hf 0 f rfl
    rw [ho, Nat.sub_self, List.drop_zero, hc] at h0
    obtain ⟨x, hR, hB⟩ := h n (cs.take k) d.1 d.2 h0
    obtain ⟨y, hS, hC⟩ := h2 n (cs.drop k) ds (by simp; omega) (by simpa using hd) (fun i g hg => by
      have := hf (i + 1) g (by simpa using hg)
      have hle := hfs g (List.mem_of_getElem? hg)
      rw [List.drop_drop]
      rw [show k + (g.offset - (off + k)) = g.offset - off by omega]
      simpa using this)
    refine ⟨(x, y), ⟨cs.take k, cs.drop k, (List.take_append_drop _ _).symm, by simp; omega, hR, hS⟩, ?_⟩
    simp only [List.map_cons, Rows.uptoBulkAll]; omega
theorem opens_struct {t : TypeId} {fs : Array Field} {m : Nat} {α : Type} {R : α → List Value → Prop} {B : α → Nat} (ht : P.underlying t = some (.struct fs)) (hm : P.cellsOf t = m) (h : OpensF enc P W 0 fs.toList m R B) :
    Opens enc P W t R (fun x => B x + 1) := by
  intro fuel cs d ps hd
  obtain ⟨xs, n, -, hx, hl, hxl, hf⟩ := DataW.trod_struct ht hd
  obtain ⟨rfl, -⟩ := Prod.mk.inj hx
  obtain ⟨x, hR, hB⟩ := h n cs xs (by rw [hl, hm]) (by simpa using hxl) (fun i f hi => by
    have := hf i f (by simpa using hi)
    simpa using this)
  exact ⟨x, hR, by simp only [Rows.uptoBulk]; omega⟩

end
end Go.Proofs.Ytbfejlmamncemaa
