/- Tasks as they come in: a slice of slices of what a task does. No condition. -/
import Derived.Test.YtekgdakkkbnpiaaArg
import Derived.Test.YtekgdakkkbnpiaaBegins
namespace Go.Proofs.Ytekgdakkkbnpiaa
set_option linter.unusedVariables false
set_option linter.unusedSimpArgs false
open Go Go.RowKit Go.ChangeShapes Go.WideShapes Go.ChangeAt

section
variable {H : Type} {enc : TypeId × Value → H} {W : World}
abbrev RDoes : Int × Int → List Value → Prop := RCons 1 (RInt .i64) (RInt .i64)
theorem opens_does : Opens enc Try.prog W 50 RDoes (fun _ => 3) :=
  opens_struct (B := fun _ => 2) Try.underlying50 (m := 1 + 1) (by kernel_rfl) (fields_cons (B := fun _ => 1) (C := fun _ => 1) rfl (by kernel_rfl) (fun g hg => by simp at hg; subst hg; exact Nat.le_refl _) (opens_int Try.underlying3) (fields_one rfl (by kernel_rfl) (opens_int Try.underlying3)))
theorem opens_dos : Opens enc Try.prog W 47 (RSl W 2 RDoes) (fun v => (v.2.1.map fun _ => 3).sum + 1) := opens_slice Try.underlying47 (by kernel_rfl) (by omega) opens_does
theorem opens_tasks : Opens enc Try.prog W 36 (RSl W 1 (RSl W 2 RDoes)) (fun v => (v.2.1.map fun x : TL => (x.2.1.map fun _ => 3).sum + 1).sum + 1) := opens_slice Try.underlying36 (by kernel_rfl) (by omega) opens_dos

theorem flat_at (l : List (Int × Int)) : ∀ i, (flat l)[2 * i]? = (l[i]?).map (fun d => Value.int .i64 d.1) ∧ (flat l)[2 * i + 1]? = (l[i]?).map (fun d => Value.int .i64 d.2) := by
  induction l with
  | nil => intro i; simp [flat]
  | cons d r ih =>
    intro i
    have e : flat (d :: r) = .int .i64 d.1 :: .int .i64 d.2 :: flat r := rfl
    rw [e]
    cases i with
    | zero => exact ⟨rfl, rfl⟩
    | succ i =>
      obtain ⟨h1, h2⟩ := ih i
      rw [show 2 * (i + 1) = (2 * i + 1) + 1 by omega]
      simp only [List.getElem?_cons_succ]
      exact ⟨h1, h2⟩
theorem flat_length (l : List (Int × Int)) : (flat l).length = l.length * 2 := by
  induction l with
  | nil => rfl
  | cons d r ih =>
    have e : flat (d :: r) = .int .i64 d.1 :: .int .i64 d.2 :: flat r := rfl
    rw [e]; simp only [List.length_cons, ih]; omega
theorem reads_does {A : Option Addr} {l : List (Int × Int)} (h : RowOf W 2 RDoes A l) : Reads W W.heap.size 2 A l.length (flat l) ∧ ∀ d ∈ l, wfi d.1 ∧ wfi d.2 := by
  refine ⟨⟨flat_length l, fun hn => ?_⟩, fun d hd => ?_⟩
  · obtain ⟨ad, cs, rfl, hb, -⟩ := h.at_ 0 _ (List.getElem?_eq_getElem hn)
    refine ⟨ad, rfl, hb, fun j u hu => ?_⟩
    have hj : j < l.length * 2 := by rw [← flat_length]; exact (List.getElem?_eq_some_iff.1 hu).1
    have hi : j / 2 < l.length := by omega
    obtain ⟨ad', cs, e, -, hl, ⟨c0, c1, rfl, -, ⟨rfl, -⟩, ⟨rfl, -⟩⟩, hc⟩ := h.at_ (j / 2) _ (List.getElem?_eq_getElem hi)
    injection e with e; subst e
    obtain ⟨f1, f2⟩ := flat_at l (j / 2)
    rw [List.getElem?_eq_getElem hi] at f1 f2
    by_cases hm : j % 2 = 0
    · have e : 2 * (j / 2) = j := by omega
      rw [e] at f1
      have hu2 := hu.symm.trans f1
      have := hc 0 _ rfl
      rw [show j / 2 * 2 + 0 = j by omega] at this
      rw [this]
      exact hu2.symm
    · have e : 2 * (j / 2) + 1 = j := by omega
      rw [e] at f2
      have hu2 := hu.symm.trans f2
      have := hc 1 _ rfl
      rw [show j / 2 * 2 + 1 = j by omega] at this
      rw [this]
      exact hu2.symm
  · obtain ⟨i, hi⟩ := List.getElem?_of_mem hd
    obtain ⟨ad, cs, -, -, -, ⟨c0, c1, -, -, ⟨-, h1⟩, ⟨-, h2⟩⟩, -⟩ := h.at_ i d hi
    exact ⟨h1, h2⟩
theorem sumTo_list (ls : List TL) (f : Nat → Nat) (hf : ∀ i x, ls[i]? = some x → f i = x.2.1.length) : ∀ k, k ≤ ls.length → sumTo f k ≤ ((ls.take k).map fun x => x.2.1.length).sum := by
  intro k
  induction k with
  | zero => intro _; exact Nat.zero_le _
  | succ k ih =>
    intro hk
    have h1 := ih (by omega)
    have hl : k < ls.length := by omega
    rw [List.take_succ_eq_append_getElem hl, List.map_append, List.sum_append]
    have h2 := hf k _ (List.getElem?_eq_getElem hl)
    simp only [sumTo, List.map_cons, List.map_nil, List.sum_cons, List.sum_nil]; omega
theorem sum_three (l : List (Int × Int)) : (l.map fun _ => 3).sum = l.length * 3 := by
  induction l with
  | nil => rfl
  | cons x r ih => simp only [List.map_cons, List.sum_cons, ih, List.length_cons]; omega
theorem sum_tasks (ls : List TL) : 3 * (ls.map fun x => x.2.1.length).sum + ls.length ≤ (ls.map fun x : TL => (x.2.1.map fun _ => 3).sum + 1).sum := by
  induction ls with
  | nil => exact Nat.le_refl _
  | cons x r ih => simp only [List.map_cons, List.sum_cons, List.length_cons, sum_three] at *; omega
theorem sum_take (ls : List TL) (k : Nat) : ((ls.take k).map fun x => x.2.1.length).sum ≤ (ls.map fun x => x.2.1.length).sum := by
  have h : (ls.map fun x => x.2.1.length).sum = ((ls.take k).map fun x => x.2.1.length).sum + ((ls.drop k).map fun x => x.2.1.length).sum := by
    rw [← List.sum_append, ← List.map_append, List.take_append_drop]
  omega
theorem one_sum (ls : List TL) {x : TL} (h : x ∈ ls) : x.2.1.length ≤ (ls.map fun x => x.2.1.length).sum := by
  induction ls with
  | nil => cases h
  | cons y r ih =>
    simp only [List.map_cons, List.sum_cons]
    rcases List.mem_cons.1 h with rfl | h
    · omega
    · have := ih h; omega

/-- Tasks that came in. -/
theorem open_tasks {v : Value} {d : DataW H} {ps : List MemPlace} {A : Option Addr} {n c : Nat} (hv : v = .slice A n c) (h : DataW.Trod enc Try.prog W 0 (fun _ => true) true 36 v d ps) :
    ∃ ls : List TL, n = ls.length ∧ n ≤ maxLen ∧ Reads W W.heap.size 1 A n (ls.map tlv) ∧ (∀ x ∈ ls, Reads W W.heap.size 2 x.1 x.2.1.length (flat x.2.1) ∧ ∀ d ∈ x.2.1, wfi d.1 ∧ wfi d.2) ∧ 3 * (ls.map fun x => x.2.1.length).sum + ls.length < Rows.uptoBulk d := by
  subst hv
  obtain ⟨fuel, hf⟩ := h
  obtain ⟨⟨A', ls, c'⟩, ⟨hcs, hl1, hl2, hrow⟩, hb⟩ := opens_tasks fuel _ _ _ hf
  simp [Value.cells] at hcs
  obtain ⟨rfl, rfl, rfl⟩ := hcs
  have h1 := reads_row1 (g := tlv) (fun x cs hx => hx.1) hrow
  refine ⟨ls, rfl, Nat.le_trans hl1 hl2, h1, fun x hx => ?_, ?_⟩
  · obtain ⟨i, hi⟩ := List.getElem?_of_mem hx
    obtain ⟨ad, cs, -, -, -, ⟨-, -, -, hr⟩, -⟩ := hrow.at_ i x hi
    exact reads_does hr
  · have := sum_tasks ls
    simp only at hb; omega
/-- Numbers of one byte that came in. -/
theorem open_bytes {v : Value} {d : DataW H} {ps : List MemPlace} {A : Option Addr} {n c : Nat} (hv : v = .slice A n c) (h : DataW.Trod enc Try.prog W 0 (fun _ => true) true 22 v d ps) :
    ∃ zs : List Int, n = zs.length ∧ n ≤ maxLen ∧ Reads W W.heap.size 1 A n (zs.map (Value.int .u8)) ∧ (∀ z ∈ zs, 0 ≤ z ∧ z ≤ 255) ∧ n < Rows.uptoBulk d := by
  subst hv
  obtain ⟨fuel, hf⟩ := h
  obtain ⟨⟨A', zs, c'⟩, ⟨hcs, hl1, hl2, hrow⟩, hb⟩ := opens_slice (W := W) (enc := enc) (sz := 1) Try.underlying22 (by kernel_rfl) Nat.one_pos (opens_int Try.underlying5) fuel _ _ _ hf
  simp [Value.cells] at hcs
  obtain ⟨rfl, rfl, rfl⟩ := hcs
  have h1 := reads_row1 (R := RInt .u8) (g := Value.int .u8) (fun x cs hx => hx.1) hrow
  refine ⟨zs, rfl, Nat.le_trans hl1 hl2, h1, fun z hz => ?_, ?_⟩
  · obtain ⟨i, hi⟩ := List.getElem?_of_mem hz
    obtain ⟨ad, cs, -, -, -, ⟨-, hw⟩, -⟩ := hrow.at_ i z hi
    simpa [Lit.wf, IntKind.min, IntKind.max, IntKind.signed, IntKind.bits] using hw
  · have : (zs.map fun _ => 1).sum = zs.length := by
      clear hb h1 hrow hl1 hl2 hf
      induction zs with
      | nil => rfl
      | cons z r ih => simp only [List.map_cons, List.sum_cons, ih, List.length_cons]; omega
    simp only at hb; omega
end
end Go.Proofs.Ytekgdakkkbnpiaa
