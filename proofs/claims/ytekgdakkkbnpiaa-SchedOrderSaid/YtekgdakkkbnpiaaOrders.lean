/- SchedOrder: tasks which take locks in rising order, and let them go, are never dead, and all come to their end, whatever is picked. No condition. -/
import Derived.Test.YtekgdakkkbnpiaaOrder
import Derived.ChangeOld
namespace Go.Proofs.Ytekgdakkkbnpiaa
set_option linter.unusedVariables false
set_option linter.unusedSimpArgs false
open Go Go.RowKit Go.ChangeShapes Go.WideShapes Go.ChangeAt

theorem byte_range {z : Int} (h : (Lit.int .u8 z).wf = true) : 0 ≤ z ∧ z ≤ 255 := by simpa [Lit.wf, IntKind.min, IntKind.max, IntKind.signed, IntKind.bits] using h
section
variable {H : Type} {enc : TypeId × Value → H} {W : World}
theorem opens_bytes : Opens enc Try.prog W 22 (RSl W 1 (RInt .u8)) (fun v => (v.2.1.map fun _ => 1).sum + 1) := opens_slice Try.underlying22 (by kernel_rfl) Nat.one_pos (opens_int Try.underlying5)
theorem open_rows {v : Value} {d : DataW H} {ps : List MemPlace} {A : Option Addr} {n c : Nat} (hv : v = .slice A n c) (h : DataW.Trod enc Try.prog W 0 (fun _ => true) true 46 v d ps) :
    ∃ bs : List BL, n = bs.length ∧ n ≤ maxLen ∧ Reads W W.heap.size 1 A n (bs.map blv) ∧ ∀ x ∈ bs, BLok W x := by
  subst hv
  obtain ⟨fuel, hf⟩ := h
  obtain ⟨⟨A', bs, c'⟩, ⟨hcs, hl1, hl2, hrow⟩, -⟩ := opens_slice (sz := 1) Try.underlying46 (by kernel_rfl) Nat.one_pos opens_bytes fuel _ _ _ hf
  simp [Value.cells] at hcs
  obtain ⟨rfl, rfl, rfl⟩ := hcs
  have h1 := reads_row1 (R := RSl W 1 (RInt .u8)) (g := blv) (fun x cs hx => hx.1) hrow
  refine ⟨bs, rfl, Nat.le_trans hl1 hl2, h1, fun x hx => ?_⟩
  obtain ⟨i, hi⟩ := List.getElem?_of_mem hx
  obtain ⟨ad, cs, -, -, -, ⟨-, g1, g2, hr⟩, -⟩ := hrow.at_ i x hi
  refine ⟨reads_row1 (R := RInt .u8) (g := Value.int .u8) (fun x cs hx => hx.1) hr, fun z hz => ?_, Nat.le_trans g1 g2⟩
  obtain ⟨j, hj⟩ := List.getElem?_of_mem hz
  obtain ⟨ad, cs, -, -, -, ⟨-, hw⟩, -⟩ := hr.at_ j z hj
  exact byte_range hw
end

namespace schedOrder
theorem own : ownKnob Try.prog.godebug = none := by kernel_rfl
theorem laidOut : laidOutB Try.prog = true := by kernel_rfl
set_option maxRecDepth 100000 in
theorem lifted (os : Os) (started : os.Started) (H : Type) (enc : TypeId × Value → H) :
    ReturnsInHanded {} Try.checked os 5 .any (Rows.schedOrderSpec.pre6 enc Try.prog Try.f5 Rows.schedOrderRow.domain false) (Rows.schedOrderSpec.post enc Try.prog Try.f5 false true false false) := by
  refine returnsInHanded_of_change (C := Try.checked) own started (by kernel_rfl) Try.func5
    (ChangeSpec.witness6 (enc := enc) (C := Try.checked) false ⟨#[], #[.slice none 0 0, .slice none 0 0], []⟩ 8 (by kernel_rfl) (by kernel_rfl) (by kernel_rfl) (by kernel_rfl)) ?_
  intro W base args ds gs before hval0 hW _ _
  have hval : ∀ (j : Nat) t v, Try.f5.params[j]? = some t → args[j]? = some v → Value.okWide Try.prog W .any base t v := hval0
  have hW' := hW
  obtain ⟨p, q, hA0, hV, rfl, hfz, hnd⟩ := hW
  have hA : DataW.TrodAll enc Try.prog W 0 (fun _ => true) true Try.f5.params.toList args.toList ds p := hA0
  rw [Try.params5] at hA hval
  obtain ⟨v0, vs0, d0, ds0, p0, q0, hargs, rfl, rfl, h0, r0⟩ := trodAll_cons hA
  obtain ⟨v1, vs1, d1, ds1, p1, q1, rfl, rfl, rfl, h1, r1⟩ := trodAll_cons r0
  obtain ⟨rfl, rfl, rfl⟩ := trodAll_nil r1
  obtain rfl : args = #[v0, v1] := by cases args; simp_all
  obtain ⟨rfl, rfl⟩ := trodVars_none hV
  have k0 := h0
  have k1 := h1
  have lt0 : ∀ x ∈ p0, x.block < W.heap.size := by obtain ⟨m, hm⟩ := k0; exact DataW.trod_lt m _ _ _ hm
  have lt1 : ∀ x ∈ p1, x.block < W.heap.size := by obtain ⟨m, hm⟩ := k1; exact DataW.trod_lt m _ _ _ hm
  obtain ⟨A0, n0, c0, rfl⟩ := okWide_slice Try.underlying46 (hval 0 46 v0 rfl rfl)
  obtain ⟨A1, n1, c1, rfl⟩ := okWide_slice Try.underlying22 (hval 1 22 v1 rfl rfl)
  obtain ⟨bs, rfl, hl1, hl2, hl3⟩ := open_rows rfl h0
  obtain ⟨zs, rfl, hz1, hz2, hz3, -⟩ := open_bytes rfl h1
  clear hA0 hval0
  refine (order_any hl2 hl3 hl1 hz2 hz3 hz1).mono fun e W' ⟨he, bel⟩ => ?_
  subst he
  exact ⟨_, rfl, _, _, _, [], _, [], hW', trodAll_mk1 (shut_bool Try.underlying4 _), (trodAll_cons_mk (Below.trod laidOut (by kernel_rfl) (of_decide_eq_true (by kernel_rfl)) k0 bel lt0) (trodAll_cons_mk (Below.trod laidOut (by kernel_rfl) (of_decide_eq_true (by kernel_rfl)) k1 bel lt1) trodAll_mk0)), rfl, bel.frame _, fun h => by cases h⟩

theorem proved : Rows.SchedOrderSaid :=
  OpenClaim.holds_of_wide 5 Try.f5 rfl rfl rfl rfl rfl rfl rfl ⟨rfl, rfl, rfl, rfl, rfl⟩ rfl rfl rfl rfl rfl (by kernel_rfl) Try.func5 (by kernel_rfl)
    (of_decide_eq_true (by kernel_rfl)) (by unfold Func.isWrapper; first | (rw [if_pos (by decide +kernel)]; kernel_rfl) | (rw [if_neg (by decide +kernel)]; exact ⟨rfl, rfl⟩))
    (fun os started H enc _ => lifted os started H enc)
end schedOrder
end Go.Proofs.Ytekgdakkkbnpiaa
