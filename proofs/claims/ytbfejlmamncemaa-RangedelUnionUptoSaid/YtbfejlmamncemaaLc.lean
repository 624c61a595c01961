/- RangedelUnion answers true, whatever its arguments, where they are of bulk at most 1048576, and leaves them as they are. Conditions: none beyond the row's own. -/
import Derived.Test.YtbfejlmamncemaaLa
import Derived.Test.YtbfejlmamncemaaRm
namespace Go.Proofs.Ytbfejlmamncemaa.Sk
open Go Go.RowKit Go.Proofs Go.Proofs.Ytbfejlmamncemaa Go.ChangeShapes Go.WideShapes Go.ChangeAt
set_option linter.unusedVariables false
section
variable {H : Type} {enc : TypeId × Value → H} {P : Program} {W : World}
theorem opD_u64 {t : TypeId} (ht : P.underlying t = some (.int .u64)) : OpD enc P W t (fun z : { z : Int // 0 ≤ z } => [.raw (.int .u64 z.1)]) (fun _ => 1) := fun fuel cs d ps h => by
  obtain ⟨z, ⟨rfl, hw⟩, hb⟩ := opens_int ht fuel cs d ps h
  have hz : 0 ≤ z ∧ z ≤ 18446744073709551615 := by simpa [Lit.wf, IntKind.min, IntKind.max, IntKind.signed, IntKind.bits] using hw
  exact ⟨⟨z, hz.1⟩, .raw rfl, hb⟩
abbrev TombN := ByteArray × ByteArray × { z : Int // 0 ≤ z }
def tombN (x : TombN) : Tomb := ⟨x.1, x.2.1, x.2.2.1⟩
theorem opD_tombN : OpD enc Try.prog W 38 (fun x : TombN => encT (tombN x)) (fun _ => 1) := fun fuel cs d ps h => by
  obtain ⟨x, h1, _⟩ := opens_struct (B := fun _ => 1 + (1 + 1)) Try.underlying38 (m := 1 + (1 + 1)) (by kernel_rfl)
    (opD_cons (B := fun _ => 1) (C := fun _ => 1 + 1) rfl (by kernel_rfl) (fun g hg => by simp at hg; rcases hg with rfl | rfl <;> decide) (opD_string Try.underlying9)
      (opD_cons (B := fun _ => 1) (C := fun _ => 1) rfl (by kernel_rfl) (fun g hg => by simp at hg; subst hg; decide) (opD_string Try.underlying9)
        (fields_one rfl (by kernel_rfl) (opD_u64 Try.underlying36)))) fuel cs d ps h
  exact ⟨x, h1, bulk_one d⟩
theorem opD_tombs : OpD enc Try.prog W 22 (fun l : List TombN => [.sl 3 (l.map fun x => encT (tombN x))]) (fun l => (l.map fun _ => 1).sum + 1) := opD_slice (sz := 3) Try.underlying22 (by kernel_rfl) (by decide) opD_tombN
theorem tombN_pos (l : List TombN) : ∀ t, t ∈ l.map tombN → 0 ≤ t.s := fun t ht => by
  obtain ⟨x, _, rfl⟩ := List.mem_map.1 ht
  exact x.2.2.2
theorem open_tombsN {v : Value} {d : DataW H} {ps : List MemPlace} {A : Option Addr} {n c : Nat} (hv : v = .slice A n c) (h : DataW.Trod enc Try.prog W 0 (fun _ => true) true 22 v d ps) :
    ∃ l : List Tomb, V (F0 W) W (.sl 3 (l.map encT)) v ∧ (∀ t, t ∈ l → 0 ≤ t.s) ∧ l.length < Rows.uptoBulk d := by
  subst hv
  obtain ⟨l, h1, h2⟩ := opD_tombs.arg rfl h
  refine ⟨l.map tombN, ?_, tombN_pos l, ?_⟩
  · rw [List.map_map]; exact h1
  · rw [sum_ones] at h2; rw [List.length_map]; omega
theorem opD_two : OpD enc Try.prog W 41 (fun x : List TombN × ByteArray => [.sl 3 (x.1.map fun x => encT (tombN x)), .raw (.string x.2)]) (fun x => x.1.length) := fun fuel cs d ps h => by
  obtain ⟨x, h1, h2⟩ := opens_struct Try.underlying41 (m := 1 + 1) (by kernel_rfl)
    (opD_cons (g := fun l : List TombN => [.sl 3 (l.map fun x => encT (tombN x))]) (g' := fun s : ByteArray => [.raw (.string s)]) (B := fun l : List TombN => (l.map fun _ => 1).sum + 1) (C := fun _ : ByteArray => 1) rfl (by kernel_rfl) (fun g hg => by simp at hg; subst hg; decide) opD_tombs (fields_one rfl (by kernel_rfl) (opD_string Try.underlying9))) fuel cs d ps h
  refine ⟨x, h1, ?_⟩
  simp only [sum_ones] at h2
  show x.1.length ≤ _
  omega
theorem open_two {v : Value} {d : DataW H} {ps : List MemPlace} {cs : Array Value} (hv : v = .agg cs) (h : DataW.Trod enc Try.prog W 0 (fun _ => true) true 41 v d ps) :
    ∃ (l : List Tomb) (key : ByteArray), V (F0 W) W (.agg [.sl 3 (l.map encT), .raw (.string key)]) v ∧ (∀ t, t ∈ l → 0 ≤ t.s) ∧ l.length ≤ Rows.uptoBulk d := by
  subst hv
  obtain ⟨fuel, hf⟩ := h
  obtain ⟨⟨l, key⟩, h1, h2⟩ := opD_two fuel _ d ps hf
  simp only [Value.cells] at h1
  refine ⟨l.map tombN, key, ?_, tombN_pos l, ?_⟩
  · rw [List.map_map]
    have := V.agg _ cs.toList h1.len h1.v
    rw [Array.toArray_toList] at this
    exact this
  · rw [List.length_map]; exact h2
end
end Go.Proofs.Ytbfejlmamncemaa.Sk
namespace Go.Proofs.Ytbfejlmamncemaa
set_option linter.unusedVariables false
open Go Go.RowKit Go.ChangeShapes Go.WideShapes Go.ChangeAt Go.Proofs.Ytbfejlmamncemaa.Sk
namespace rangedelUnion
theorem own : ownKnob Try.prog.godebug = none := by kernel_rfl
theorem laidOut : laidOutB Try.prog = true := by kernel_rfl
set_option maxRecDepth 100000 in
theorem lifted (os : Os) (started : os.Started) (H : Type) (enc : TypeId × Value → H) (F : Stop.Interp) :
    ReturnsInHanded {} Try.checked os 4 .any ((Rows.OpenSpec.upto Rows.rangedelUnionSpec).pre6 enc Try.prog Try.f4 Rows.rangedelUnionUptoRow.domain false) (((Rows.OpenSpec.upto Rows.rangedelUnionSpec).at F).post enc Try.prog Try.f4 false true false false) := by
  refine returnsInHanded_of_cond (C := Try.checked) (s := Rows.OpenSpec.upto Rows.rangedelUnionSpec) (k := Rows.uptoSmall) rfl own started (by kernel_rfl) Try.func4
    (OpenSpec.witness (enc := enc) (C := Try.checked) (s := Rows.OpenSpec.upto Rows.rangedelUnionSpec) (k := Rows.uptoSmall) rfl false ⟨#[], #[.int .i64 0, .slice none 0 0, .agg #[.slice none 0 0, .string ByteArray.empty]], []⟩ 8 (by kernel_rfl) (by kernel_rfl) (by kernel_rfl)
      (x := ([.lit (.int .i64 0), .nil, .agg [.nil, .lit (.string [])]], [], [])) (by kernel_rfl) rfl (by kernel_rfl)) ?_
  intro W base args ds gs before hval0 hW _ hk _
  have hval : ∀ (j : Nat) t v, Try.f4.params[j]? = some t → args[j]? = some v → Value.okWide Try.prog W .any base t v := hval0
  have hW' := hW
  obtain ⟨p, q, hA0, hV, rfl, hfz, hnd⟩ := hW
  have hA : DataW.TrodAll enc Try.prog W 0 (fun _ => true) true Try.f4.params.toList args.toList ds p := hA0
  rw [Try.params4] at hA hval
  obtain ⟨v0, vs0, d0, ds0, p0, q0, hargs, rfl, rfl, h0, r0⟩ := trodAll_cons hA
  obtain ⟨v1, vs1, d1, ds1, p1, q1, rfl, rfl, rfl, h1, r1⟩ := trodAll_cons r0
  obtain ⟨v2, vs2, d2, ds2, p2, q2, rfl, rfl, rfl, h2, r2⟩ := trodAll_cons r1
  obtain ⟨rfl, rfl, rfl⟩ := trodAll_nil r2
  obtain rfl : args = #[v0, v1, v2] := by cases args; simp_all
  obtain ⟨rfl, rfl⟩ := trodVars_none hV
  have k1 := h1
  have k2 := h2
  have lt1 : ∀ x ∈ p1, x.block < W.heap.size := by obtain ⟨m, hm⟩ := k1; exact DataW.trod_lt m _ _ _ hm
  have lt2 : ∀ x ∈ p2, x.block < W.heap.size := by obtain ⟨m, hm⟩ := k2; exact DataW.trod_lt m _ _ _ hm
  obtain ⟨how, rfl, rfl, rfl, w0⟩ := open_int Try.underlying3 (hval 0 3 v0 rfl rfl) h0
  obtain ⟨A1, n1, c1, rfl⟩ := okWide_slice Try.underlying22 (hval 1 22 v1 rfl rfl)
  obtain ⟨cs2, rfl, _⟩ := okWide_struct Try.underlying41 (hval 2 41 v2 rfl rfl)
  have hb := bulk_bound hk
  obtain ⟨l, hl1, hl3, hl2⟩ := open_tombsN rfl h1
  obtain ⟨lb, key, hk1, hk3, hk2⟩ := open_two rfl h2
  simp only [List.append_nil, List.cons_append, List.nil_append, Rows.uptoBulkAll] at hb
  clear hA0 hval0
  refine (law_run (law_Union how l lb key hl3 hk3 (by omega) (by omega)) (vargs_cons (.raw _) (vargs_cons hl1 (vargs_cons hk1 (vargs_nil _ _))))).mono fun e W' ⟨he, bel⟩ => ?_
  subst he
  exact ⟨_, rfl, _, _, _, [], _, [], hW', trodAll_mk1 (shut_bool Try.underlying4 _), (trodAll_cons_mk (shut_int Try.underlying3 w0) (trodAll_cons_mk (Below.trod laidOut (by kernel_rfl) (of_decide_eq_true (by kernel_rfl)) k1 bel lt1) (trodAll_cons_mk (Below.trod laidOut (by kernel_rfl) (of_decide_eq_true (by kernel_rfl)) k2 bel lt2) trodAll_mk0))), rfl, bel.frame _, fun h => by cases h⟩
theorem proved : Rows.RangedelUnionUptoSaid :=
  OpenClaim.holds_of_cond 4 Try.f4 rfl rfl rfl rfl rfl rfl rfl ⟨rfl, rfl, rfl, rfl, rfl⟩ rfl rfl rfl rfl rfl (by kernel_rfl) Try.func4 (by kernel_rfl)
    (of_decide_eq_true (by kernel_rfl)) (by unfold Func.isWrapper; first | (rw [if_pos (by decide +kernel)]; kernel_rfl) | (rw [if_neg (by decide +kernel)]; exact ⟨rfl, rfl⟩))
    (fun os started H enc _ F => lifted os started H enc F)
end rangedelUnion
end Go.Proofs.Ytbfejlmamncemaa
