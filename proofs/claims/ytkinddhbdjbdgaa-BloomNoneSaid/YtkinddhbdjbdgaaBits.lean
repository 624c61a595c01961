/- Bits that are set in a filter's bytes stay set, and are set by those who set them. No condition. -/
import Derived.Test.YtkinddhbdjbdgaaMay
import Derived.Laws.BitsLemmas
namespace Go.Proofs.Ytkinddhbdjbdgaa
open Go Go.RowKit

def AllB (xs : List Int) : Prop := ∀ j, ∃ n : Nat, n < 256 ∧ xs.getD j 0 = (n : Int)
def orAt (xs : List Int) (j b : Nat) : List Int := xs.set j (Go.bits .or .u8 (xs.getD j 0) (2 ^ b % 256))
def tb (xs : List Int) (bit : Nat) : Bool := ((xs.getD (bit / 8) 0).toNat).testBit (bit % 8)

theorem wrap_u8_of (n : Int) (h0 : 0 ≤ n) (h1 : n < 2 ^ 8) : IntKind.u8.wrap n = n := wraps_u8 n h0 h1
theorem or_nat (x y : Nat) (hx : x < 256) (hy : y < 256) : Go.bits .or .u8 (x : Int) (y : Int) = ((x ||| y : Nat) : Int) :=
  (bits_nat .u8 8 (by decide) (fun n h0 h1 => wraps_u8 n h0 h1) x y hx hy).2
theorem and_nat (x y : Nat) (hx : x < 256) (hy : y < 256) : Go.bits .and .u8 (x : Int) (y : Int) = ((x &&& y : Nat) : Int) :=
  (bits_nat .u8 8 (by decide) (fun n h0 h1 => wraps_u8 n h0 h1) x y hx hy).1
theorem pow_cast (b : Nat) (hb : b < 8) : ((2 : Int) ^ b % 256) = ((2 ^ b : Nat) : Int) ∧ 2 ^ b < 256 := by
  have h : 2 ^ b < 2 ^ 8 := Nat.pow_lt_pow_right (by omega) hb
  have h2 : (((2 ^ b : Nat)) : Int) = (2 : Int) ^ b := by simp
  constructor
  · rw [← h2]; exact Int.emod_eq_of_lt (Int.natCast_nonneg _) (Int.ofNat_lt.2 h)
  · exact h
theorem orAt_length (xs : List Int) (j b : Nat) : (orAt xs j b).length = xs.length := by simp [orAt]
theorem getD_set (xs : List Int) (j k : Nat) (v : Int) : (xs.set j v).getD k 0 = if j = k ∧ k < xs.length then v else xs.getD k 0 := by
  simp only [List.getD_eq_getElem?_getD, List.getElem?_set]
  by_cases h : j = k
  · subst h
    by_cases h2 : j < xs.length
    · simp [h2]
    · simp [h2]
  · simp [h]
theorem orAt_all (xs : List Int) (j b : Nat) (hb : b < 8) (h : AllB xs) : AllB (orAt xs j b) := by
  intro k
  unfold orAt
  rw [getD_set]
  by_cases hk : j = k ∧ k < xs.length
  · rw [if_pos hk]
    obtain ⟨n, hn, e⟩ := h j
    rw [e, (pow_cast b hb).1, or_nat _ _ hn (pow_cast b hb).2]
    exact ⟨_, Nat.or_lt_two_pow (n := 8) hn (pow_cast b hb).2, rfl⟩
  · rw [if_neg hk]; exact h k
theorem tb_up (xs : List Int) (j b bit : Nat) (hb : b < 8) (h : AllB xs) (ht : tb xs bit = true) : tb (orAt xs j b) bit = true := by
  unfold tb orAt at *
  rw [getD_set]
  by_cases hk : j = bit / 8 ∧ bit / 8 < xs.length
  · rw [if_pos hk]
    obtain ⟨n, hn, e⟩ := h j
    rw [← hk.1, e] at ht
    rw [e, (pow_cast b hb).1, or_nat _ _ hn (pow_cast b hb).2]
    simp only [Int.toNat_natCast] at ht ⊢
    rw [Nat.testBit_or, ht]; rfl
  · rw [if_neg hk]; exact ht
theorem tb_set (xs : List Int) (bit : Nat) (h : AllB xs) (hl : bit / 8 < xs.length) : tb (orAt xs (bit / 8) (bit % 8)) bit = true := by
  have hb : bit % 8 < 8 := Nat.mod_lt _ (by omega)
  unfold tb orAt
  rw [getD_set, if_pos ⟨rfl, hl⟩]
  obtain ⟨n, hn, e⟩ := h (bit / 8)
  rw [e, (pow_cast _ hb).1, or_nat _ _ hn (pow_cast _ hb).2]
  simp [Nat.testBit_or]
theorem bitSet_tb (xs : List Int) (bit : Nat) (h : AllB xs) : bitSet xs bit = tb xs bit := by
  unfold bitSet tb
  obtain ⟨n, hn, e⟩ := h (bit / 8)
  rw [e]
  have e1 : ((n : Int) / 2 ^ (bit % 8)) = ((n / 2 ^ (bit % 8) : Nat) : Int) := by simp
  have h2 : n / 2 ^ (bit % 8) < 256 := Nat.lt_of_le_of_lt (Nat.div_le_self _ _) hn
  rw [e1, show (1 : Int) = ((1 : Nat) : Int) from rfl, and_nat _ _ h2 (by omega), Int.toNat_natCast, Nat.testBit, Nat.shiftRight_eq_div_pow, Nat.and_comm]
  generalize 1 &&& n / 2 ^ (bit % 8) = m
  cases m with
  | zero => rfl
  | succ m =>
    have : ((((m + 1 : Nat)) : Int) == 0) = false := by rw [beq_eq_false_iff_ne]; omega
    rw [this]; rfl
theorem setBit_or (xs : List Int) (bit : Nat) : setBit xs bit = orAt xs (bit / 8) (bit % 8) := rfl

theorem addTo_all (h : Int) (sz : Nat) (xs : List Int) (hx : AllB xs) (i : Nat) : AllB (addTo h sz xs i) := by
  induction i with
  | zero => exact hx
  | succ i ih => rw [addTo, setBit_or]; exact orAt_all _ _ _ (Nat.mod_lt _ (by omega)) ih
theorem addTo_up (h : Int) (sz : Nat) (xs : List Int) (hx : AllB xs) (bit : Nat) (ht : tb xs bit = true) (i : Nat) : tb (addTo h sz xs i) bit = true := by
  induction i with
  | zero => exact ht
  | succ i ih => rw [addTo, setBit_or]; exact tb_up _ _ _ _ (Nat.mod_lt _ (by omega)) (addTo_all h sz xs hx i) ih
theorem bitAt_lt (h : Int) (sz i : Nat) (hs : 0 < sz) : bitAt h sz i < 8 * sz := by
  unfold bitAt
  have h1 := Int.emod_lt_of_pos (aAt h i) (b := 8 * (sz : Int)) (by omega)
  have h2 := Int.emod_nonneg (aAt h i) (b := 8 * (sz : Int)) (by omega)
  omega
theorem addTo_set (h : Int) (sz : Nat) (xs : List Int) (hx : AllB xs) (hl : xs.length = sz + 1) (hs : 0 < sz) (i : Nat) : ∀ j, j < i → tb (addTo h sz xs i) (bitAt h sz j) = true := by
  induction i with
  | zero => intro j hj; omega
  | succ i ih =>
    intro j hj
    rw [addTo, setBit_or]
    by_cases e : j = i
    · subst e
      exact tb_set _ _ (addTo_all h sz xs hx j) (by rw [addTo_length, hl]; have := bitAt_lt h sz j hs; omega)
    · exact tb_up _ _ _ _ (Nat.mod_lt _ (by omega)) (addTo_all h sz xs hx i) (ih j (by omega))
theorem keysTo_all (ss : List ByteArray) (sz n k : Nat) : AllB (keysTo ss sz n k) := by
  induction k with
  | zero =>
    intro j
    refine ⟨0, by omega, ?_⟩
    rw [keysTo, List.getD_eq_getElem?_getD, List.getElem?_replicate]
    split <;> rfl
  | succ k ih => exact addTo_all _ _ _ ih _
theorem keysTo_set (ss : List ByteArray) (sz n k : Nat) (hs : 0 < sz) : ∀ m, m < k → ∀ j, j < n → tb (keysTo ss sz n k) (bitAt (hashI (ss.getD m ByteArray.empty)) sz j) = true := by
  induction k with
  | zero => intro m hm; omega
  | succ k ih =>
    intro m hm j hj
    by_cases e : m = k
    · subst e
      exact addTo_set _ _ _ (keysTo_all ss sz n m) (keysTo_length ss sz n m) hs n j hj
    · exact addTo_up _ _ _ (keysTo_all ss sz n k) _ (ih m (by omega) j hj) n

/-- What a filter of keys keeps through whatever bits more are set. -/
structure Good (ss : List ByteArray) (sz n : Nat) (xs : List Int) : Prop where
  len : xs.length = sz + 1
  all : AllB xs
  last : xs.getD sz 0 = (n : Int)
  bits : ∀ m, m < ss.length → ∀ j, j < n → tb xs (bitAt (hashI (ss.getD m ByteArray.empty)) sz j) = true

theorem good_first (ss : List ByteArray) (sz n : Nat) (hs : 0 < sz) (hn : n < 256) : Good ss sz n ((keysTo ss sz n ss.length).set sz n) where
  len := by rw [List.length_set, keysTo_length]
  all := by
    intro j
    rw [getD_set]
    split
    · exact ⟨n, hn, rfl⟩
    · exact keysTo_all ss sz n _ j
  last := by rw [getD_set, if_pos ⟨rfl, by rw [keysTo_length]; omega⟩]
  bits := by
    intro m hm j hj
    have h := keysTo_set ss sz n ss.length hs m hm j hj
    have hb := bitAt_lt (hashI (ss.getD m ByteArray.empty)) sz j hs
    unfold tb at h ⊢
    rw [getD_set, if_neg (by omega)]
    exact h
theorem good_or {ss : List ByteArray} {sz n : Nat} {xs : List Int} (h : Good ss sz n xs) (j b : Nat) (hj : j < sz) (hb : b < 8) : Good ss sz n (orAt xs j b) where
  len := by rw [orAt_length, h.len]
  all := orAt_all _ _ _ hb h.all
  last := by rw [orAt, getD_set, if_neg (by omega), h.last]
  bits := fun m hm i hi => tb_up _ _ _ _ hb h.all (h.bits m hm i hi)
theorem good_may {ss : List ByteArray} {sz n : Nat} {xs : List Int} (h : Good ss sz n xs) (m : Nat) (hm : m < ss.length) : mayI xs (hashI (ss.getD m ByteArray.empty)) sz n = true := by
  unfold mayI
  rw [List.all_eq_true]
  intro i hi
  rw [bitSet_tb _ _ h.all]
  exact h.bits m hm i (List.mem_range.1 hi)
end Go.Proofs.Ytkinddhbdjbdgaa
