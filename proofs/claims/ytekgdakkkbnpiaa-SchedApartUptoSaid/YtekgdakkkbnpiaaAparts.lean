/- SchedApart, where what it reads is of bulk at most 1048576: a lock has never two holders: who is picked with a wish for a lock holds it, and held it nobody before. -/
import Derived.Test.YtekgdakkkbnpiaaApart
import Derived.Test.YtekgdakkkbnpiaaTasks
import Derived.JoinedCond
namespace Go.Proofs.Ytekgdakkkbnpiaa
set_option linter.unusedVariables false
set_option linter.unusedSimpArgs false
open Go Go.RowKit Go.ChangeShapes Go.WideShapes Go.ChangeAt
theorem tasks_ok {W : World} {ls : List TL} {N : Nat} (h : ∀ x ∈ ls, Reads W W.heap.size 2 x.1 x.2.1.length (flat x.2.1) ∧ ∀ d ∈ x.2.1, wfi d.1 ∧ wfi d.2) (hs : 3 * (ls.map fun x => x.2.1.length).sum + ls.length < N) (hN : N ≤ 1048576) :
    (∀ x ∈ ls, TLok W x) ∧ sumTo (fun i => (Lof ls i).length) (min ls.length 64) < 400000000 := by
  refine ⟨fun x hx => ⟨(h x hx).1, (h x hx).2, ?_⟩, ?_⟩
  · have := one_sum ls hx; omega
  · have h1 := sumTo_list ls (fun i => (Lof ls i).length) (fun i x hx => by unfold Lof; rw [hx]) (min ls.length 64) (by omega)
    have h2 := sum_take ls (min ls.length 64)
    omega

namespace schedApart
theorem own : ownKnob Try.prog.godebug = none := by kernel_rfl
theorem laidOut : laidOutB Try.prog = true := by kernel_rfl
set_option maxRecDepth 100000 in
theorem lifted (os : Os) (started : os.Started) (H : Type) (enc : TypeId × Value → H) (F : Stop.Interp) :
    ReturnsInHanded {} Try.checked os 6 .any ((Rows.OpenSpec.upto Rows.schedApartSpec).pre6 enc Try.prog Try.f6 Rows.schedApartUptoRow.domain false) (((Rows.OpenSpec.upto Rows.schedApartSpec).at F).post enc Try.prog Try.f6 false true false false) := by
  refine returnsInHanded_of_cond (C := Try.checked) (s := Rows.OpenSpec.upto Rows.schedApartSpec) (k := Rows.uptoSmall) rfl own started (by kernel_rfl) Try.func6
    (OpenSpec.witness (enc := enc) (C := Try.checked) (s := Rows.OpenSpec.upto Rows.schedApartSpec) (k := Rows.uptoSmall) rfl false ⟨#[], #[.slice none 0 0, .slice none 0 0], []⟩ 8 (by kernel_rfl) (by kernel_rfl) (by kernel_rfl)
      (x := ([.nil, .nil], [], [])) (by kernel_rfl) rfl (by kernel_rfl)) ?_
  intro W base args ds gs before hval0 hW _ hk _
  have hval : ∀ (j : Nat) t v, Try.f6.params[j]? = some t → args[j]? = some v → Value.okWide Try.prog W .any base t v := hval0
  have hW' := hW
  obtain ⟨p, q, hA0, hV, rfl, hfz, hnd⟩ := hW
  have hA : DataW.TrodAll enc Try.prog W 0 (fun _ => true) true Try.f6.params.toList args.toList ds p := hA0
  rw [Try.params6] at hA hval
  obtain ⟨v0, vs0, d0, ds0, p0, q0, hargs, rfl, rfl, h0, r0⟩ := trodAll_cons hA
  obtain ⟨v1, vs1, d1, ds1, p1, q1, rfl, rfl, rfl, h1, r1⟩ := trodAll_cons r0
  obtain ⟨rfl, rfl, rfl⟩ := trodAll_nil r1
  obtain rfl : args = #[v0, v1] := by cases args; simp_all
  obtain ⟨rfl, rfl⟩ := trodVars_none hV
  have k0 := h0
  have k1 := h1
  have lt0 : ∀ x ∈ p0, x.block < W.heap.size := by obtain ⟨m, hm⟩ := k0; exact DataW.trod_lt m _ _ _ hm
  have lt1 : ∀ x ∈ p1, x.block < W.heap.size := by obtain ⟨m, hm⟩ := k1; exact DataW.trod_lt m _ _ _ hm
  obtain ⟨A0, n0, c0, rfl⟩ := okWide_slice Try.underlying36 (hval 0 36 v0 rfl rfl)
  obtain ⟨A1, n1, c1, rfl⟩ := okWide_slice Try.underlying22 (hval 1 22 v1 rfl rfl)
  have hb := bulk_bound hk
  obtain ⟨ls, rfl, hl1, hl2, hl3, hl4⟩ := open_tasks rfl h0
  obtain ⟨zs, rfl, hz1, hz2, hz3, hz4⟩ := open_bytes rfl h1
  simp only [List.append_nil, List.cons_append, List.nil_append, Rows.uptoBulkAll] at hb
  obtain ⟨t1, t2⟩ := tasks_ok hl3 hl4 (by omega)
  clear hA0 hval0
  refine (apart_any hl2 t1 hl1 hz2 hz3 (by omega) t2).mono fun e W' ⟨he, bel⟩ => ?_
  subst he
  exact ⟨_, rfl, _, _, _, [], _, [], hW', trodAll_mk1 (shut_bool Try.underlying4 _), (trodAll_cons_mk (Below.trod laidOut (by kernel_rfl) (of_decide_eq_true (by kernel_rfl)) k0 bel lt0) (trodAll_cons_mk (Below.trod laidOut (by kernel_rfl) (of_decide_eq_true (by kernel_rfl)) k1 bel lt1) trodAll_mk0)), rfl, bel.frame _, fun h => by cases h⟩

theorem proved : Rows.SchedApartUptoSaid :=
  OpenClaim.holds_of_cond 6 Try.f6 rfl rfl rfl rfl rfl rfl rfl ⟨rfl, rfl, rfl, rfl, rfl⟩ rfl rfl rfl rfl rfl (by kernel_rfl) Try.func6 (by kernel_rfl)
    (of_decide_eq_true (by kernel_rfl)) (by unfold Func.isWrapper; first | (rw [if_pos (by decide +kernel)]; kernel_rfl) | (rw [if_neg (by decide +kernel)]; exact ⟨rfl, rfl⟩))
    (fun os started H enc _ F => lifted os started H enc F)
end schedApart
end Go.Proofs.Ytekgdakkkbnpiaa
