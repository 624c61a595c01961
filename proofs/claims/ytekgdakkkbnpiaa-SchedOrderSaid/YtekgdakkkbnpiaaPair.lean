/- The law's own pair in memory: what its steps were told, and where its tasks are. No condition. -/
import Derived.Test.YtekgdakkkbnpiaaAbs
import Derived.Test.YtekgdakkkbnpiaaCalls
namespace Go.Proofs.Ytekgdakkkbnpiaa
set_option linter.unusedVariables false
set_option linter.unusedSimpArgs false
open Go Go.RowKit

structure Adr where
  w0 : World
  S : Nat
  P : Nat
  dv : Value
  nm : Nat → ByteArray
  A : Nat → Nat
  X : Nat → Nat
  Lx : Nat → Nat
  K : Nat → Nat
  sl : Nat → Value
  tg : Nat → Nat
def Adr.cp (a : Adr) (i : Nat) : Array Value := #[ptr (a.X i), ptr (a.A i), ptr (a.Lx i), ptr (a.K i)]
def sc (a : Adr) (b : Bool) (s : AS) : Sc := scA a.nm a.cp b s
def oP (P : Nat) : Obj := .cells #[ptr P] 37 (0, 0)
def oL (v : Value) : Obj := .cells #[v] 47 (0, 0)
def oI (v : Int) : Obj := .cells #[.int .i64 v] 3 (0, 0)
def pairCells (a : Adr) (tv : Value) : Array Value := #[ptr a.S, a.dv, tv, .bool false]
def Told (a : Adr) (told : List Int) (tv : Value) (m : Nat → Option Obj) : Prop :=
  (tv = .slice none 0 0 ∧ told = []) ∨ ∃ g cap cur, tv = .slice (some ⟨g, 0, none⟩) told.length cap ∧ a.tg g = 0 ∧ a.w0.heap.size ≤ g ∧ m g = some (.cells cur 3 (0, 0)) ∧ told.length ≤ cap ∧ cap ≤ maxLen ∧ cur.size = cap ∧ cur.toList.take told.length = told.map (Value.int .i64)

structure PM (a : Adr) (s : AS) (m : Nat → Option Obj) : Prop where
  base : ∀ k, k < a.w0.heap.size → m k = a.w0.heap[k]?
  pair : ∃ tv, m a.P = some (.cells (pairCells a tv) 41 (0, 0)) ∧ Told a s.told tv m
  task : ∀ i t, s.ts[i]? = some t → m (a.A i) = some (oI t.at_) ∧ m (a.X i) = some (oP a.P) ∧ m (a.Lx i) = some (oL (a.sl i)) ∧ m (a.K i) = some (oI i)
  tgP : a.tg a.P = 1
  tgT : ∀ i, i < s.ts.length → a.tg (a.A i) = 4 * i + 2 ∧ a.tg (a.X i) = 4 * i + 3 ∧ a.tg (a.Lx i) = 4 * i + 4 ∧ a.tg (a.K i) = 4 * i + 5
  tgIn : ∀ k, a.tg k ≠ 0 → a.w0.heap.size ≤ k ∧ (m k).isSome = true

def RP (a : Adr) (s : AS) (D : Nat → Prop) (w : World) : Prop := ∃ m, Has m D w ∧ PM a s m
theorem RP.local_ (a : Adr) (s : AS) : Local (RP a s) :=
  ⟨fun D E w w' ⟨m, h, hm⟩ hc hd => ⟨m, (Has.local_ m).chg D E w w' h hc hd, hm⟩, fun D w ⟨m, h, _⟩ => (Has.local_ m).size D w h⟩

section
variable {a : Adr} {s : AS} {m : Nat → Option Obj} {D : Nat → Prop} {w : World}
theorem PM.lt (h : PM a s m) (hm : Has m D w) {k : Nat} (hk : a.tg k ≠ 0) : k < w.heap.size := by
  obtain ⟨o, ho⟩ := Option.isSome_iff_exists.1 (h.tgIn k hk).2
  exact (Array.getElem?_eq_some_iff.1 (hm.2 k o ho)).1
theorem PM.own (h : PM a s m) (hm : Has m D w) : ∃ tv, w.heap[a.P]? = some (.cells (pairCells a tv) 41 (0, 0)) ∧ w.ownsRow 0 3 1 tv s.told.length (s.told.map (Value.int .i64)) ∧ ∀ k, tv.ownBlock = some k → D k ∧ a.tg k = 0 ∧ a.w0.heap.size ≤ k := by
  obtain ⟨tv, hp, ht⟩ := h.pair
  refine ⟨tv, hm.2 _ _ hp, ?_, ?_⟩
  · rcases ht with ⟨rfl, h0⟩ | ⟨g, cap, cur, rfl, -, -, hg, h1, h2, h3, h4⟩
    · rw [h0]; exact ⟨rfl, .inl ⟨rfl, rfl⟩⟩
    · exact ⟨by simp, .inr ⟨g, cap, cur, rfl, Nat.zero_le _, hm.2 _ _ hg, h1, h2, by omega, by rw [Nat.mul_one]; exact h4⟩⟩
  · intro k hk
    rcases ht with ⟨rfl, h0⟩ | ⟨g, cap, cur, rfl, e1, e2, hg, -⟩
    · simp [Value.ownBlock] at hk
    · obtain rfl : g = k := by simpa [Value.ownBlock] using hk
      exact ⟨(hm.1 _).2 (by rw [hg]; rfl), e1, e2⟩

/-- What was told is told: the row has one more. -/
theorem PM.tell (h : PM a s m) (hm : Has m D w) {tv tv' : Value} {w1 : World} (hP : w.heap[a.P]? = some (.cells (pairCells a tv) 41 (0, 0))) (v : Int)
    (hg : w.grownBy w1 tv.ownBlock) (how : w1.ownsRow 0 3 1 tv' (s.told.length + 1) (s.told.map (Value.int .i64) ++ [.int .i64 v])) (hat : tv'.ownBlock = tv.ownBlock ∨ ∃ z, w.heap.size ≤ z ∧ tv'.ownBlock = some z) (hw0 : a.w0.heap.size ≤ w.heap.size) :
    ∃ m' D', Has m' D' (w1.setCell ⟨a.P, 2, none⟩ tv') ∧ PM a (tellA s v) m' ∧ Chg D w (w1.setCell ⟨a.P, 2, none⟩ tv') ∧ ∀ k, D' k → D k ∨ w.heap.size ≤ k := by
  obtain ⟨tv0, hp, ht⟩ := h.pair
  obtain rfl : tv0 = tv := by
    have := Option.some.inj ((hm.2 _ _ hp).symm.trans hP)
    simp [pairCells] at this; exact this
  have hPl : a.P < w.heap.size := h.lt hm (by rw [h.tgP]; omega)
  -- the old row's block is none that is tagged
  have hrow : ∀ k, tv0.ownBlock = some k → D k ∧ a.tg k = 0 ∧ a.w0.heap.size ≤ k := by
    intro k hk
    rcases ht with ⟨rfl, h0⟩ | ⟨g, cap, cur, rfl, e1, e2, hg, -⟩
    · simp [Value.ownBlock] at hk
    · obtain rfl : g = k := by simpa [Value.ownBlock] using hk
      exact ⟨(hm.1 _).2 (by rw [hg]; rfl), e1, e2⟩
  have hnew : ∃ g cap cur, tv' = .slice (some ⟨g, 0, none⟩) (s.told.length + 1) cap ∧ w1.heap[g]? = some (.cells cur 3 (0, 0)) ∧ s.told.length + 1 ≤ cap ∧ cap ≤ maxLen ∧ cur.size = cap * 1 ∧ cur.toList.take ((s.told.length + 1) * 1) = s.told.map (Value.int .i64) ++ [.int .i64 v] := by
    rcases how.2 with ⟨_, h0⟩ | ⟨g, cap, cur, h1, -, h2, h3, h4, h5, h6⟩
    · omega
    · exact ⟨g, cap, cur, h1, h2, h3, h4, h5, h6⟩
  obtain ⟨g, cap, cur, rfl, hgb, hc1, hc2, hc3, hc4⟩ := hnew
  have hgg : (tv0.ownBlock = some g) ∨ w.heap.size ≤ g := by
    rcases hat with h1 | ⟨z, h1, h2⟩
    · left; rw [← h1]; rfl
    · right
      have : g = z := by simpa [Value.ownBlock] using h2
      omega
  have htgg : a.tg g = 0 ∧ a.w0.heap.size ≤ g := by
    rcases hgg with h1 | h1
    · exact (hrow g h1).2
    · refine ⟨?_, by omega⟩
      rcases Nat.eq_zero_or_pos (a.tg g) with h2 | h2
      · exact h2
      · have := h.lt hm (k := g) (by omega); omega
  have hgP : g ≠ a.P := fun e => by rw [e, h.tgP] at htgg; omega
  obtain ⟨m', hm'⟩ : ∃ m' : Nat → Option Obj, (fun k => if k = a.P then some (.cells (pairCells a (.slice (some ⟨g, 0, none⟩) (s.told.length + 1) cap)) 41 (0, 0)) else if k = g then some (.cells cur 3 (0, 0)) else if tv0.ownBlock = some k then none else m k) = m' := ⟨_, rfl⟩
  have mP : m' a.P = some (.cells (pairCells a (.slice (some ⟨g, 0, none⟩) (s.told.length + 1) cap)) 41 (0, 0)) := by rw [← hm']; simp
  have mg : m' g = some (.cells cur 3 (0, 0)) := by rw [← hm']; simp [hgP]
  have mo : ∀ k, k ≠ a.P → k ≠ g → tv0.ownBlock ≠ some k → m' k = m k := fun k h1 h2 h3 => by rw [← hm']; simp [h1, h2, h3]
  have mt : ∀ k, k ≠ a.P → a.tg k ≠ 0 → m' k = m k := fun k h1 h2 => mo k h1 (fun e => h2 (by rw [e]; exact htgg.1)) (fun e => h2 (hrow k e).2.1)
  have mold : ∀ k, tv0.ownBlock = some k → k ≠ g → m' k = none := fun k h1 h2 => by
    have h3 : k ≠ a.P := fun e => by have := (hrow k h1).2.1; rw [e, h.tgP] at this; omega
    rw [← hm']; simp [h1, h2, h3]
  have hD : ∀ k, (m' k).isSome = true → D k ∨ w.heap.size ≤ k := fun k hk => by
    by_cases e : k = a.P
    · left; rw [e]; exact (hm.1 _).2 (by rw [hp]; rfl)
    · by_cases e2 : k = g
      · rcases hgg with h1 | h1
        · left; rw [e2]; exact (hrow g h1).1
        · right; rw [e2]; exact h1
      · by_cases e3 : tv0.ownBlock = some k
        · rw [mold k e3 e2] at hk; cases hk
        · left; rw [mo k e e2 e3] at hk; exact (hm.1 k).2 hk
  have hchg : Chg D w (w1.setCell ⟨a.P, 2, none⟩ (.slice (some ⟨g, 0, none⟩) (s.told.length + 1) cap)) := by
    have c1 : Chg D w w1 := ⟨hg.os, hg.tape, hg.output, hg.size, fun k hk hC => hg.block k hk (fun e => hC (hrow k e.symm).1)⟩
    exact c1.setCell (p := ⟨a.P, 2, none⟩) (.inl ((hm.1 _).2 (by rw [hp]; rfl))) _
  refine ⟨m', fun k => (m' k).isSome = true, ⟨fun k => Iff.rfl, fun k o hk => ?_⟩, ⟨?_, ?_, ?_, h.tgP, h.tgT, ?_⟩, hchg, hD⟩
  · by_cases e : k = a.P
    · subst e
      rw [mP] at hk
      injection hk with hk; subst hk
      have h1 : w1.heap[a.P]? = some (.cells (pairCells a tv0) 41 (0, 0)) := (hg.block a.P hPl (fun e => by have := (hrow a.P e.symm).2.1; rw [h.tgP] at this; omega)).trans hP
      exact Blk.set_ (t := 41) h1 2 _
    · refine (Below.heap_setCell _ _ _ _ e).trans ?_
      by_cases e2 : k = g
      · subst e2; rw [mg] at hk; injection hk with hk; subst hk; exact hgb
      · by_cases e3 : tv0.ownBlock = some k
        · rw [mold k e3 e2] at hk; cases hk
        · rw [mo k e e2 e3] at hk
          have hk2 := hm.2 k o hk
          exact (hg.block k (Array.getElem?_eq_some_iff.1 hk2).1 (fun e4 => e3 e4.symm)).trans hk2
  · intro k hk
    have hkP : k ≠ a.P := fun e => by have := (h.tgIn a.P (by rw [h.tgP]; omega)).1; omega
    rw [mo k hkP (fun e => by have := htgg.2; omega) (fun e => by have := (hrow k e).2.2; omega)]
    exact h.base k hk
  · exact ⟨_, mP, .inr ⟨g, cap, cur, by simp [tellA], htgg.1, htgg.2, mg, by simp [tellA]; omega, hc2, by omega, by simp only [tellA]; rw [List.length_append, List.length_singleton, List.map_append]; simpa using hc4⟩⟩
  · intro i t ht
    obtain ⟨h1, h2, h3, h4⟩ := h.task i t ht
    obtain ⟨g1, g2, g3, g4⟩ := h.tgT i (List.getElem?_eq_some_iff.1 ht).1
    have ne : ∀ k, a.tg k ≠ 1 → k ≠ a.P := fun k hk e => hk (by rw [e]; exact h.tgP)
    exact ⟨(mt _ (ne _ (by omega)) (by omega)).trans h1, (mt _ (ne _ (by omega)) (by omega)).trans h2, (mt _ (ne _ (by omega)) (by omega)).trans h3, (mt _ (ne _ (by omega)) (by omega)).trans h4⟩
  · intro k hk
    refine ⟨(h.tgIn k hk).1, ?_⟩
    by_cases e : k = a.P
    · rw [e, mP]; rfl
    · rw [mt k e hk]; exact (h.tgIn k hk).2
end
end Go.Proofs.Ytekgdakkkbnpiaa
