/- How an argument that is a slice of texts or of numbers reads as a list: its length, its cells, its room. No condition. -/
import Derived.Test.YtekgdakkkbnpiaaWords
import Derived.SliceStrings
import Derived.SizedLaws
import Derived.ChangeSlices
import Derived.ProofKit
import Derived.Deep.RegionHeld
namespace Go.Proofs.Ytekgdakkkbnpiaa
set_option linter.unusedVariables false
set_option linter.unusedSimpArgs false
open Go Go.RowKit Go.ChangeShapes Go.WideShapes Go.ChangeAt
section
variable {H : Type} {enc : TypeId × Value → H} {P : Program} {W : World}

theorem reads_of_cells {A : Addr} {n : Nat} {xs : List Value} (hl : n ≤ xs.length) (h : ∀ i u, xs[i]? = some u → W.cell? (A.add i) = some u) : Reads W W.heap.size 1 (some A) n (xs.take n) := by
  refine ⟨by rw [List.length_take]; omega, fun hn => ⟨A, rfl, ?_, fun j u hu => ?_⟩⟩
  · have h2 := World.block_lt_of_cell? W _ (h 0 _ (List.getElem?_eq_getElem (by omega)))
    rwa [block_of_add] at h2
  · rw [List.getElem?_take] at hu
    by_cases hj : j < n
    · rw [if_pos hj] at hu; exact h j u hu
    · rw [if_neg hj] at hu; cases hu

theorem open_reads_strings {t e : TypeId} {A : Option Addr} {n c : Nat} {d : DataW H} {p : List MemPlace} {ts : List TypeId} {ds : List (DataW H)} {j : Nat} (ht : P.underlying t = some (.slice e)) (he : P.underlying e = some .string) (hc : P.cellsOf e = 1) (hb : P.bytesOf e = 16)
    (h : ∃ fuel, DataW.trod enc P W 0 (fun _ => true) true fuel t (Value.slice A n c).cells.toList = some (d, p)) (hsz : (DataW.weightsEach P ts ds).all (· ≤ reachBytes) = true) (hj : ts[j]? = some t) (hd : ds[j]? = some d) :
    ∃ ss : List ByteArray, ss.length = n ∧ (∀ s ∈ ss, s.size ≤ maxLen) ∧ Reads W W.heap.size 1 A n (ss.map Value.string) ∧ n * 16 ≤ 140737488351232 := by
  obtain ⟨fuel, hf⟩ := h
  rcases open_strings ht he hc hf with ⟨hcs, hx⟩ | ⟨a, l, c, ss, hcs, _, hl, hm, hz, hx, hcell, hws⟩
  · simp [Value.cells] at hcs
    obtain ⟨rfl, rfl, rfl⟩ := hcs
    exact ⟨[], rfl, fun s hs => by simp at hs, Reads.none_, by omega⟩
  · simp [Value.cells] at hcs
    obtain ⟨rfl, rfl, rfl⟩ := hcs
    simp only [if_true] at hz
    simp only [Prod.mk.injEq] at hx
    obtain ⟨rfl, rfl⟩ := hx
    have hr := sized_slice hsz (j := j) hj hd ht
    rw [hb] at hr
    simp only [strs, List.length_map, List.length_take, List.length_drop, reachBytes] at hr
    refine ⟨ss.take n, by rw [List.length_take]; omega, fun s hs => hws s (List.mem_of_mem_take hs), ?_, by omega⟩
    rw [List.map_take]
    refine reads_of_cells (by rw [List.length_map]; omega) (fun i u hu => ?_)
    rw [List.getElem?_map] at hu
    cases hi : ss[i]? with
    | none => rw [hi] at hu; cases hu
    | some s =>
      rw [hi] at hu
      rw [hcell i (List.getElem?_eq_some_iff.1 hi).1, List.getD_eq_getElem?_getD, hi]
      exact hu

theorem open_reads_ints {t e : TypeId} {k : IntKind} {A : Option Addr} {n c : Nat} {d : DataW H} {p : List MemPlace} (ht : P.underlying t = some (.slice e)) (he : P.underlying e = some (.int k)) (hc : P.cellsOf e = 1)
    (h : ∃ fuel, DataW.trod enc P W 0 (fun _ => true) true fuel t (Value.slice A n c).cells.toList = some (d, p)) :
    ∃ zs : List Int, zs.length = n ∧ (∀ z ∈ zs, (Lit.int k z).wf = true) ∧ Reads W W.heap.size 1 A n (zs.map (Value.int k)) ∧ n ≤ maxLen := by
  obtain ⟨fuel, hf⟩ := h
  rcases open_ints ht he hc hf with ⟨hcs, hx⟩ | ⟨a, l, c, zs, hcs, _, hl, hm, hz, hx, hcell, hws⟩
  · simp [Value.cells] at hcs
    obtain ⟨rfl, rfl, rfl⟩ := hcs
    exact ⟨[], rfl, fun s hs => by simp at hs, Reads.none_, Nat.zero_le _⟩
  · simp [Value.cells] at hcs
    obtain ⟨rfl, rfl, rfl⟩ := hcs
    simp only [if_true] at hz
    refine ⟨zs.take n, by rw [List.length_take]; omega, fun s hs => hws s (List.mem_of_mem_take hs), ?_, by omega⟩
    rw [List.map_take]
    refine reads_of_cells (by rw [List.length_map]; omega) (fun i u hu => ?_)
    rw [List.getElem?_map] at hu
    cases hi : zs[i]? with
    | none => rw [hi] at hu; cases hu
    | some s =>
      rw [hi] at hu
      rw [hcell i (List.getElem?_eq_some_iff.1 hi).1, List.getD_eq_getElem?_getD, hi]
      exact hu
end
end Go.Proofs.Ytekgdakkkbnpiaa
