/- Two schedulers side by side; a run as picks one by one. No condition. -/
import Derived.Test.YtekgdakkkbnpiaaApart
import Derived.Test.YtekgdakkkbnpiaaInts
namespace Go.Proofs.Ytekgdakkkbnpiaa
set_option linter.unusedVariables false
set_option linter.unusedSimpArgs false
open Go Go.RowKit

/-- What one scheduler does leaves another as it was. -/
theorem Going.beside {b : Adr} {w0 : World} {B2 : Nat} {L : Nat → List (Int × Int)} {k2 n2 : Nat} {s2 : AS} {F1 F1' F2 : Nat → Prop} {Ts2 : List Nat} {w w' : World} (h2 : Going b w0 B2 L k2 n2 s2 F2 Ts2 w) (hd : ∀ j, F1 j → F2 j → j < w0.heap.size)
    (hown : Owned F1 w F1' w') (hb : Below w0.heap.size w0 w') : Going b w0 B2 L k2 n2 s2 F2 Ts2 w' ∧ ∀ j, F1' j → F2 j → j < w0.heap.size := by
  have hc : Chg (fun j => F1 j ∧ w0.heap.size ≤ j) w w' := ⟨hown.1.os, hown.1.tape, hown.1.output, hown.1.size, fun j hj hn => by
    by_cases h : F1 j
    · have hlt : j < w0.heap.size := by
        rcases Nat.lt_or_ge j w0.heap.size with h1 | h1
        · exact h1
        · exact absurd ⟨h, h1⟩ hn
      exact (hb.block j hlt).trans (h2.below.block j hlt).symm
    · exact hown.1.block j hj h⟩
  refine ⟨⟨h2.ful.chg (RP.local_ b s2) hc (fun j hj h => by have := hd j h.1 hj; omega), h2.inv, h2.len, h2.steps, h2.own, hb⟩, fun j h1 hj => ?_⟩
  rcases hown.2 j h1 with h3 | h3
  · exact hd j h3 hj
  · have := Full.size (RP.local_ b s2) h2.ful j hj; omega
theorem Going.bound {a : Adr} {w0 : World} {B : Nat} {L : Nat → List (Int × Int)} {k k' n : Nat} {s : AS} {F : Nat → Prop} {Ts : List Nat} {w : World} (h : Going a w0 B L k n s F Ts w) (hk : k ≤ k') : Going a w0 B L k' n s F Ts w :=
  ⟨h.ful, h.inv, h.len, Nat.le_trans h.steps hk, h.own, h.below⟩

/-- Pick after pick. -/
def picksA (L : Nat → List (Int × Int)) (l : List Int) (s : AS) : AS := l.foldl (fun s z => (pickA L z s).1) s
theorem picksA_snoc (L : Nat → List (Int × Int)) (l : List Int) (z : Int) (s : AS) : picksA L (l ++ [z]) s = (pickA L z (picksA L l s)).1 := by unfold picksA; rw [List.foldl_append]; rfl
theorem picksA_append (L : Nat → List (Int × Int)) (l r : List Int) (s : AS) : picksA L (l ++ r) s = picksA L r (picksA L l s) := by unfold picksA; rw [List.foldl_append]
theorem picksA_still (L : Nat → List (Int × Int)) (l : List Int) (s : AS) (h : (enabledA s).length = 0) : picksA L l s = s := by
  induction l with
  | nil => rfl
  | cons z r ih =>
    have e : (pickA L z s).1 = s := by unfold pickA; rw [if_pos h]
    show picksA L r (pickA L z s).1 = s
    rw [e]; exact ih
def nextA (L : Nat → List (Int × Int)) (z : Int) (s : AS) : AS := (pickA L z s).1
theorem runs_picks (a : Adr) (L : Nat → List (Int × Int)) (p : Nat → Int) : ∀ (m n : Nat) (s : AS), (runs (sc a false) (nextA L) p m n s).2 = picksA L ((List.range' n m).map p) s := by
  intro m
  induction m with
  | zero => intro n s; rfl
  | succ m ih =>
    intro n s
    rw [runs, List.range'_succ, List.map_cons]
    by_cases h : 0 < (enabledP (sc a false s)).length
    · rw [if_pos h, ih]; rfl
    · rw [if_neg h]
      rw [sc_enabled] at h
      rw [picksA_still L _ s (by omega)]
theorem range_take (zs : List Int) (m : Nat) (h : m ≤ zs.length) : (List.range' 0 m).map (pth zs) = zs.take m := by
  apply List.ext_getElem?
  intro i
  rw [List.getElem?_map, List.getElem?_take]
  by_cases hi : i < m
  · rw [if_pos hi, List.getElem?_range' hi]
    simp only [Option.map_some]
    unfold pth
    rw [if_neg (by omega), show 0 + 1 * i = i by omega, Nat.mod_eq_of_lt (by omega), List.getD_eq_getElem?_getD, List.getElem?_eq_getElem (by omega)]; rfl
  · rw [if_neg hi, List.getElem?_eq_none (by simp; omega)]; rfl
theorem pth_wfi {zs : List Int} (h : ∀ z ∈ zs, -9223372036854775808 ≤ z ∧ z ≤ 9223372036854775807) (i : Nat) : -9223372036854775808 ≤ pth zs i ∧ pth zs i ≤ 9223372036854775807 := by
  unfold pth
  split
  · omega
  · rename_i h0
    have hlt := Nat.mod_lt i (y := zs.length) (by omega)
    rw [List.getD_eq_getElem?_getD, List.getElem?_eq_getElem hlt]
    exact h _ (List.getElem_mem hlt)

/-- A run of a scheduler that goes so. -/
theorem Going.run {a : Adr} {w0 : World} {B : Nat} {L : Nat → List (Int × Int)} {k n : Nat} {s : AS} {F : Nat → Prop} {Ts : List Nat} {w : World} (h : Going a w0 B L k n s F Ts w) (ha : a.w0 = w0) (hB : B ≤ w.heap.size) (hL : ∀ i, i < n → LRead a i (L i)) (hsum : sumTo (fun i => (L i).length) n < 400000000)
    {ad : Addr} {len cp m : Nat} {zs : List Int} (hz : Reads w w.heap.size 1 (some ad) len (zs.map (Value.int .i64))) (hzr : ∀ z ∈ zs, -9223372036854775808 ≤ z ∧ z ≤ 9223372036854775807) (hlen : len ≤ 1000000000) (hm : m ≤ len) (hk : k ≤ 1000000000) :
    Calls Try.prog 16 #[ptr a.S, .slice (some ad) len cp, .int .i64 (m : Int)] w fun e w' => (∃ v, e = .returned v) ∧ ∃ F', Going a w0 B L (k + m) n (picksA L (zs.take m) s) F' Ts w' ∧ Owned F w F' w' := by
  have hzl : zs.length = len := by have := hz.1; simpa using this
  have hone : ∀ m, m < n → (L m).length ≤ sumTo (fun i => (L i).length) n := fun m hm => by
    have := sumTo_one (f := fun i => if i = m then 0 else (L i).length) (g := fun i => (L i).length) hm (fun i _ hne => if_neg hne)
    simp only [if_true] at this
    omega
  have hP : Picks AS a.S (fun _ => Ts) (sc a false) (RP a) (pth zs) m (fun j x => TInv L x ∧ x.ts.length = n ∧ x.steps ≤ k + j ∧ j ≤ m) (nextA L) (fun z x => (pickA L z x).2) := by
    refine ⟨fun x => RP.local_ a x, fun j x hv => ⟨rfl, by show x.steps < _; omega⟩, fun j x F' w' hj hv hl hful => ?_⟩
    obtain ⟨v1, v2, v3, -⟩ := hv
    have hp := pth_wfi hzr j
    have hb := v1.bound
    rw [v2] at hb
    obtain ⟨k1, k2, k3⟩ := pickA_keeps v1 (pth zs j)
    refine ⟨⟨k1, by show (pickA L (pth zs j) x).1.ts.length = n; rw [k2, v2], by show (pickA L (pth zs j) x).1.steps ≤ _; omega, hj⟩, ?_⟩
    exact pick_abs hful (v1.p (fun i hi => hL i (by rw [← v2]; exact hi))) _ hp.1 hp.2 (by omega) (fun q hq => by
      have := hone q (by rw [← v2]; exact hq); omega)
  have hr := run_any hP (x := s) (F := F) (most := (m : Int)) (n := len) (cp := cp) ⟨h.inv, h.len, h.steps, Nat.zero_le _⟩ h.ful hz (fun z hz => by have := hzr z hz; unfold wfi; simp [Lit.wf, IntKind.min, IntKind.max, IntKind.signed, IntKind.bits]; omega) hlen (by omega) (by omega)
  refine hr.mono ?_
  rintro e w' ⟨rfl, F', hful, ⟨v1, v2, v3, v4⟩, hown⟩
  have hmm : (m : Int).toNat = m := by omega
  rw [hmm] at hful v1 v2 v3 v4
  rw [runs_picks, range_take zs m (by omega)] at hful v1 v2 v3
  refine ⟨⟨_, rfl⟩, F', ⟨hful, v1, v2, by omega, fun j hj => ?_, pin_below ha h.below hown hful⟩, hown⟩
  rcases hown.2 j hj with h1 | h1
  · exact h.own j h1
  · right; omega
end Go.Proofs.Ytekgdakkkbnpiaa
