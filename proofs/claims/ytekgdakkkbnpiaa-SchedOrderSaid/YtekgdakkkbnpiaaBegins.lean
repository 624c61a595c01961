/- begins: a pair of given tasks. No condition. -/
import Derived.Test.YtekgdakkkbnpiaaBegin
import Derived.Deep.CutRange
namespace Go.Proofs.Ytekgdakkkbnpiaa
set_option linter.unusedVariables false
set_option linter.unusedSimpArgs false
open Go Go.RowKit

/-- a list of tasks, as it lies -/
abbrev TL := Option Addr × List (Int × Int) × Nat
def tlv (x : TL) : Value := .slice x.1 x.2.1.length x.2.2
def TLok (w0 : World) (x : TL) : Prop := Reads w0 w0.heap.size 2 x.1 x.2.1.length (flat x.2.1) ∧ (∀ d ∈ x.2.1, wfi d.1 ∧ wfi d.2) ∧ x.2.1.length ≤ 100000000

theorem as0_succ (k : Nat) : as0 (k + 1) = addA (as0 k) := by
  unfold as0 addA; simp only; rw [List.replicate_succ']
theorem as0_len (k : Nat) : (as0 k).ts.length = k := by simp [as0]
theorem begin_step {w0 W wr w4 w5 : World} {a : Adr} {S k n z : Nat} {F F5 : Nat → Prop} {Ts : List Nat} {T5 : Nat} {m : Nat → Option Obj} {ls : List TL} {Ax : Option Addr} {lx : List (Int × Int)} {cx : Nat}
    (hz : wr.drew.heap.size = z) (hb : Below w0.heap.size w0 W) (E1 : a.w0 = w0 ∧ a.P = n ∧ a.S = S ∧ a.nm = fun _ => ⟨#[116]⟩) (E3 : ∀ (i : Nat) (x : TL), i < k → ls[i]? = some x → LRead a i x.2.1) (E4 : ∀ j, F j → j < w0.heap.size ∨ W.heap.size ≤ j) (E5 : Below W.heap.size W wr)
    (hx : ls[k]? = some (Ax, lx, cx)) (hL : ∀ x ∈ ls, TLok w0 x) (hpm : PM a (as0 k) m) (hm : ∀ j, (m j).isSome = true → j < wr.heap.size) (hW0 : w0.heap.size ≤ W.heap.size)
    (hw4 : Below wr.heap.size wr w4) (hful : Full F5 S (Ts ++ [T5]) (spawned (sc a false (as0 k)) ⟨#[116]⟩ 56 #[ptr z, ptr (z + 3), ptr (z + 2), ptr (z + 1)]) (Has (mset (mset (mset (mset m z (oP n)) (z + 1) (oI k)) (z + 2) (oL (.slice Ax lx.length cx))) (z + 3) (oI 0))) w5)
    (hown : Owned (fun j => F j ∨ z ≤ j ∧ j < z + 4) w4 F5 w5) :
    ∃ a' : Adr, (a'.w0 = w0 ∧ a'.P = n ∧ a'.S = S ∧ a'.nm = fun _ => ⟨#[116]⟩) ∧ Full F5 S (Ts ++ [T5]) (sc a' false (as0 (k + 1))) (RP a' (as0 (k + 1))) w5 ∧ (∀ (i : Nat) (x : TL), i < k + 1 → ls[i]? = some x → LRead a' i x.2.1) ∧ (∀ j, F5 j → j < w0.heap.size ∨ W.heap.size ≤ j) ∧ Below W.heap.size W w5 := by
  obtain ⟨q1, q2, q3, q4⟩ := E1
  have hzw : wr.heap.size = z := hz
  have hWz := E5.size
  have h1 := sc_add (a := a) (s := as0 k) (z := z) false (.slice Ax lx.length cx)
  have h2 := hpm.more (z := z) (fun j hj => by rw [← hzw]; exact hm j hj) (by rw [q1]; omega) (.slice Ax lx.length cx)
  rw [as0_len] at h1 h2
  rw [q2] at h2
  have e4 : a.nm k = ⟨#[116]⟩ := by rw [q4]
  rw [e4] at h1
  refine ⟨a.more k z (.slice Ax lx.length cx), ⟨q1, q2, q3, q4⟩, ?_, fun i x hi hx2 => ?_, fun j hj => ?_, ?_⟩
  · rw [as0_succ, h1]
    exact full_forget hful h2
  · by_cases e : i = k
    · subst e
      obtain rfl : x = (Ax, lx, cx) := Option.some.inj (hx2.symm.trans hx)
      obtain ⟨g1, g2, g3⟩ := hL _ (List.mem_of_getElem? hx)
      refine ⟨Ax, cx, by unfold Adr.more; simp, ?_, g2, g3⟩
      show Reads a.w0 a.w0.heap.size 2 Ax lx.length (flat lx)
      rw [q1]; exact g1
    · obtain ⟨A', c', g1, g2⟩ := E3 i x (by omega) hx2
      exact ⟨A', c', by unfold Adr.more; simp [e]; exact g1, g2⟩
  · rcases hown.2 j hj with (h | h) | h
    · exact E4 j h
    · right; omega
    · right; have := hw4.size; omega
  · have hb4 : Below W.heap.size W w4 := E5.trans (hw4.mono hWz)
    refine ⟨hown.1.os.trans hb4.os, hown.1.tape.trans hb4.tape, hown.1.output.trans hb4.output, Nat.le_trans hb4.size hown.1.size, fun q hq => ?_⟩
    by_cases hF : F q ∨ z ≤ q ∧ q < z + 4
    · -- pinned
      rcases hF with h | h
      · rcases E4 q h with h3 | h3
        · -- below the start: the pin
          obtain ⟨C, D, -, hmm, -, -⟩ := hful
          have hqz : q < z := by omega
          have hpin := hpm.base q (by rw [q1]; exact h3)
          rw [q1] at hpin
          have hmq : mset (mset (mset (mset m z (oP n)) (z + 1) (oI k)) (z + 2) (oL (.slice Ax lx.length cx))) (z + 3) (oI 0) q = m q :=
            (mset_other _ _ (by omega)).trans ((mset_other _ _ (by omega)).trans ((mset_other _ _ (by omega)).trans (mset_other _ _ (by omega))))
          obtain ⟨o, ho⟩ : ∃ o, w0.heap[q]? = some o := ⟨_, Array.getElem?_eq_getElem h3⟩
          have hw5 : w5.heap[q]? = some o := hmm.2 q o (hmq.trans (hpin.trans ho))
          exact hw5.trans ((hb.block q h3).trans ho).symm
        · omega
      · omega
    · exact (hown.1.block q (by have := hb4.size; omega) hF).trans (hb4.block q hq)

set_option maxRecDepth 100000 in
set_option maxHeartbeats 8000000 in
theorem begins_any {w0 W : World} (hb : Below w0.heap.size w0 W) {A0 : Option Addr} {n c : Nat} {ls : List TL} (hT : Reads w0 w0.heap.size 1 A0 n (ls.map tlv)) (hL : ∀ x ∈ ls, TLok w0 x) (hn : n ≤ maxLen) :
    Calls Try.prog 15 #[.slice A0 n c] W fun e w' => ∃ (a : Adr) (F : Nat → Prop) (Ts : List Nat), e = .returned (ptr a.P) ∧ a.w0 = w0 ∧ Full F a.S Ts (sc a false (as0 (min n 64))) (RP a (as0 (min n 64))) w' ∧
      (∀ (i : Nat) (x : TL), i < min n 64 → ls[i]? = some x → LRead a i x.2.1) ∧ (∀ j, F j → j < w0.heap.size ∨ W.heap.size ≤ j) ∧ Below W.heap.size W w' := by
  have hmf : ∀ (fn : Fn) (first cap : Array Value) (w : World), (Instr.makeFunc fn first cap).run Try.prog w = .ok (.func fn first cap) w := fun _ _ _ _ => rfl
  unfold maxLen at hn
  go_enter Try.func15, Try.ntmps15
  go_wp2_with fail
  refine (new_any W).mono ?_
  rintro e w1 ⟨S, C, rfl, hrep, hC, hbe⟩
  unfold ptr
  go_wp2_with fail
  -- the pair is laid
  have hC2 : ∀ k, C k → W.heap.size ≤ k ∧ k < w1.heap.size := fun k hk => ⟨hC k hk, hrep.size k hk⟩
  have hW1 := hbe.size
  have hW0 := hb.size
  obtain ⟨w3, hw3⟩ : ∃ w3, ((w1.alloc (.cells #[.slice none 0 0, .slice none 0 0, .int .i64 0, .int .i64 0, .slice none 0 0] 61)).alloc (.cells #[.pointer (some ⟨S, 0, none⟩), .pointer (some ⟨w1.heap.size, 0, none⟩), .slice none 0 0, .bool false] 41)) = w3 := ⟨_, rfl⟩
  have hb13 : Below w1.heap.size w1 w3 := by rw [← hw3]; exact ((Below.refl _ w1).alloc (Nat.le_refl _) _).alloc (by simp) _
  have hz3 : w3.heap.size = w1.heap.size + 2 := by rw [← hw3]; simp
  have hP3 : w3.heap[w1.heap.size + 1]? = some (.cells #[.pointer (some ⟨S, 0, none⟩), .pointer (some ⟨w1.heap.size, 0, none⟩), .slice none 0 0, .bool false] 41 (0, 0)) := by
    rw [← hw3]
    have := World.alloc_heap_new (w1.alloc (.cells #[.slice none 0 0, .slice none 0 0, .int .i64 0, .int .i64 0, .slice none 0 0] 61)) (.cells #[.pointer (some ⟨S, 0, none⟩), .pointer (some ⟨w1.heap.size, 0, none⟩), .slice none 0 0, .bool false] 41)
    rw [World.size_alloc] at this; exact this
  have hb3 : Below W.heap.size W w3 := hbe.trans (hb13.mono hbe.size)
  let a0 : Adr := { w0 := w0, S := S, P := w1.heap.size + 1, dv := .pointer (some ⟨w1.heap.size, 0, none⟩), nm := fun _ => ⟨#[116]⟩, A := fun _ => 0, X := fun _ => 0, Lx := fun _ => 0, K := fun _ => 0, sl := fun _ => .slice none 0 0, tg := fun b => if b = w1.heap.size + 1 then 1 else 0 }
  let m0 : Nat → Option Obj := fun k => if k < w0.heap.size then w0.heap[k]? else if k = w1.heap.size + 1 then some (.cells (pairCells a0 (.slice none 0 0)) 41 (0, 0)) else none
  have hm0 : Has m0 (fun k => (m0 k).isSome = true) w3 := by
    refine ⟨fun _ => Iff.rfl, fun k o hk => ?_⟩
    by_cases h1 : k < w0.heap.size
    · have e : m0 k = w0.heap[k]? := if_pos h1
      rw [e] at hk
      exact (hb3.block k (by omega)).trans ((hb.block k h1).trans hk)
    · by_cases h2 : k = w1.heap.size + 1
      · have e : m0 k = some (.cells (pairCells a0 (.slice none 0 0)) 41 (0, 0)) := (if_neg h1).trans (if_pos h2)
        rw [e] at hk; injection hk with hk; subst hk; subst h2
        exact hP3
      · have e : m0 k = none := (if_neg h1).trans (if_neg h2)
        rw [e] at hk; cases hk
  have hpm0 : PM a0 (as0 0) m0 := by
    have hPn : ¬ (w1.heap.size + 1 < w0.heap.size) := by omega
    have eP : m0 (w1.heap.size + 1) = some (.cells (pairCells a0 (.slice none 0 0)) 41 (0, 0)) := (if_neg hPn).trans (if_pos rfl)
    refine ⟨fun k hk => if_pos hk, ⟨.slice none 0 0, eP, .inl ⟨rfl, rfl⟩⟩, fun i t h => by simp [as0] at h, if_pos rfl, fun i h => by simp [as0] at h, fun k hk => ?_⟩
    have e : k = w1.heap.size + 1 := by
      rcases Nat.decEq k (w1.heap.size + 1) with h | h
      · exact absurd (if_neg h) hk
      · exact h
    subst e
    exact ⟨by show w0.heap.size ≤ _; omega, by rw [eP]; rfl⟩
  have hsc : sc a0 false (as0 0) = sc0 := rfl
  have hful0 : Full (fun k => C k ∨ (m0 k).isSome = true) S [] (sc a0 false (as0 0)) (RP a0 (as0 0)) w3 := by
    rw [hsc]
    refine ⟨C, _, hrep.below hb13, ⟨m0, hm0, hpm0⟩, fun k hk h => ?_, fun k => Iff.rfl⟩
    have := hC2 k hk
    by_cases h1 : k < w0.heap.size
    · omega
    · have e : m0 k = none := (if_neg h1).trans (if_neg (by omega))
      rw [e] at h; cases h
  have hF0 : ∀ j, (C j ∨ (m0 j).isSome = true) → j < w0.heap.size ∨ W.heap.size ≤ j := fun j hj => by
    rcases hj with h | h
    · exact .inr (hC j h)
    · by_cases h1 : j < w0.heap.size
      · exact .inl h1
      · by_cases h2 : j = w1.heap.size + 1
        · right; omega
        · have e : m0 j = none := (if_neg h1).trans (if_neg h2)
          rw [e] at h; cases h
  have I1 : Hid (a0.w0 = w0 ∧ a0.P = w1.heap.size + 1 ∧ a0.S = S ∧ a0.nm = fun _ => ⟨#[116]⟩) := Lib.hid ⟨rfl, rfl, rfl, rfl⟩
  have I2 := Lib.hid hful0
  have I3 : Hid (∀ (i : Nat) (x : TL), i < 0 → ls[i]? = some x → LRead a0 i x.2.1) := Lib.hid (fun i x h => by omega)
  have I4 := Lib.hid hF0
  have I5 := Lib.hid hb3
  rw [hw3]
  clear hw3 hb13 hz3 hP3 hb3 hm0 hpm0 hsc hful0 hF0 hC2 hrep hC hbe
  clear_value a0 m0
  have HT := Lib.hid hT
  have HL := Lib.hid hL
  have HB := Lib.hid hb
  have HW := Lib.hid (And.intro hW0 hW1)
  clear hT hL hb hW0 hW1
  obtain ⟨k64, hk64⟩ : ∃ k64, min n 64 = k64 := ⟨_, rfl⟩
  go_loopw [4] (fun i wr => ∃ (k : Nat) (a : Adr) (F : Nat → Prop) (Ts : List Nat), i = .int .i64 k ∧ k ≤ k64 ∧ Hid (a.w0 = w0 ∧ a.P = w1.heap.size + 1 ∧ a.S = S ∧ a.nm = fun _ => ⟨#[116]⟩) ∧ Hid (Full F S Ts (sc a false (as0 k)) (RP a (as0 k)) wr) ∧
    Hid (∀ (i : Nat) (x : TL), i < k → ls[i]? = some x → LRead a i x.2.1) ∧ Hid (∀ j, F j → j < w0.heap.size ∨ W.heap.size ≤ j) ∧ Hid (Below W.heap.size W wr)) (fun i _ => k64 - (intOf i).toNat)
  case atStart => exact ⟨0, a0, _, [], rfl, Nat.zero_le _, I1, I2, I3, I4, I5⟩
  case round =>
    clear I1 I2 I3 I4 I5
    obtain ⟨k, a, F, Ts, rfl, hk, E1, E2, E3, E4, E5⟩ := hrel
    by_cases hlt : k < k64
    · have hc1 : decide ((k : Int) < (n : Int)) = true := by rw [decide_eq_true_iff]; omega
      have hc2 : decide ((k : Int) < 64) = true := by rw [decide_eq_true_iff]; omega
      obtain ⟨q1, q2, q3, q4⟩ := E1.out
      obtain ⟨C1, D1, hrep1, ⟨m, hm, hpm⟩, hdd, hf⟩ := id E2.out
      have hFm : Full F S Ts (sc a false (as0 k)) (Has m) wr := ⟨C1, D1, hrep1, hm, hdd, hf⟩
      obtain ⟨Ax0, cpx, hmP, hPb⟩ := pm_cells hpm hm
      have hz : ∀ j, (m j).isSome = true → j < wr.heap.size := fun j hj => (Has.local_ m).size D1 wr hm j ((hm.1 j).2 hj)
      have hPl : w1.heap.size + 1 < wr.heap.size := by rw [← q2]; exact (Array.getElem?_eq_some_iff.1 hPb).1
      have hPc : wr.cell? ⟨w1.heap.size + 1, 0, none⟩ = some (.pointer (some ⟨S, 0, none⟩)) := by
        have := Blk.cell (t := 41) hPb 0
        rw [q2] at this
        rw [this]; show some (ptr a.S) = _; rw [q3]; rfl
      obtain ⟨ad, u, rfl, hadb, hu, huc⟩ := HT.out.at_ (k := k) (by omega)
      rw [List.getElem?_map] at hu
      obtain ⟨⟨Ax, lx, cx⟩, hx, rfl⟩ := Option.map_eq_some_iff.1 hu
      have hxc : wr.cell? (ad.add k) = some (.slice Ax lx.length cx) := by
        have h1 := HB.out.cell (p := ad.add k) (by rw [block_of_add]; exact hadb)
        have h2 := E5.out.cell (p := ad.add k) (by rw [block_of_add]; have := HW.out.1; omega)
        exact h2.trans (h1.trans huc)
      have hlenk : (as0 k).ts.length = k := by simp [as0]
      have hbd : Below wr.heap.size wr wr.drew := ⟨rfl, rfl, rfl, Nat.le_refl _, fun _ _ => rfl⟩
      have f4 := four_more (hFm.below (Has.local_ m) hbd) (w1.heap.size + 1) (k : Int) (.slice Ax lx.length cx)
      have hsp := Lib.hid (spawn_any (Has.local_ _) f4 ⟨#[116]⟩ 56 #[ptr wr.heap.size, ptr (wr.heap.size + 3), ptr (wr.heap.size + 2), ptr (wr.heap.size + 1)] enters56 (by
        have : (sc a false (as0 k)).tks.length = k := by rw [show (sc a false (as0 k)).tks.length = (as0 k).ts.length from scA_length, hlenk]
        rw [this]; omega))
      have hmk := Lib.hid (mkstep_any wr.drew (w1.heap.size + 1) (k : Int) Ax lx.length cx)
      have hPc4 : ((((wr.drew.alloc (.cells #[.pointer (some ⟨w1.heap.size + 1, 0, none⟩)] 37)).alloc (.cells #[.int .i64 (k : Int)] 3)).alloc (.cells #[.slice Ax lx.length cx] 47)).alloc (.cells #[.int .i64 0] 3)).cell? ⟨w1.heap.size + 1, 0, none⟩ = some (.pointer (some ⟨S, 0, none⟩)) :=
        (World.cell?_alloc_lt _ _ ⟨w1.heap.size + 1, 0, none⟩ (by simp; omega)).trans ((World.cell?_alloc_lt _ _ ⟨w1.heap.size + 1, 0, none⟩ (by simp; omega)).trans ((World.cell?_alloc_lt _ _ ⟨w1.heap.size + 1, 0, none⟩ (by simp; omega)).trans ((World.cell?_alloc_lt _ _ ⟨w1.heap.size + 1, 0, none⟩ hPl).trans hPc)))
      have HX := Lib.hid hx
      have HPM := Lib.hid hpm
      have HZ := Lib.hid hz
      have HLN := Lib.hid hlenk
      have HQ := Lib.hid q2
      have HFM := Lib.hid hFm
      unfold ptr at hsp hmk
      clear q1 q2 q3 q4 hrep1 hm hpm hdd hf hFm hmP hPb hz hu huc hadb hx hlenk hbd f4
      go_wp2_with fail
      obtain ⟨w4, hw4⟩ : ∃ w4, ((((wr.drew.alloc (.cells #[.pointer (some ⟨w1.heap.size + 1, 0, none⟩)] 37)).alloc (.cells #[.int .i64 (k : Int)] 3)).alloc (.cells #[.slice Ax lx.length cx] 47)).alloc (.cells #[.int .i64 0] 3)) = w4 := ⟨_, rfl⟩
      have HW4 := Lib.hid hw4
      unfold ptr at *
      rw [hw4] at hsp hmk hPc4
      clear hw4
      go_region_with (first | (go_at_call 31; refine hmk.out.mono ?_; rintro e w' ⟨rfl, rfl⟩) | (go_at_call 10; refine hsp.out.mono ?_; rintro e w5 ⟨rfl, F5, T5, hful5, hown5⟩))
      all_goals
        have hb4 : Below wr.heap.size wr w' := by
          rw [← HW4.out]
          exact ((((⟨rfl, rfl, rfl, Nat.le_refl _, fun _ _ => rfl⟩ : Below wr.heap.size wr wr.drew).alloc (Nat.le_refl _) _).alloc (by simp) _).alloc (by simp; omega) _).alloc (by simp; omega) _
        obtain ⟨a', i1, i2, i3, i4, i5⟩ := begin_step (W := W) (z := wr.heap.size) rfl HB.out E1.out E3.out E4.out E5.out HX.out HL.out HPM.out HZ.out HW.out.1 hb4 hful5 hown5
        have J1 := Lib.hid i1
        have J2 := Lib.hid i2
        have J3 := Lib.hid i3
        have J4 := Lib.hid i4
        have J5 := Lib.hid i5
        clear i1 i2 i3 i4 i5 hful5 hown5 hsp hmk hb4 hPc hPc4 hxc HW4
        go_wp2
        go_roundw
        case rel => exact ⟨k + 1, a', F5, Ts ++ [T5], by go_num, by omega, J1, J2, J3, J4, J5⟩
        case measure => simp [intOf]; omega
    · have hkk : k = k64 := by omega
      have hfin : Hid (∃ (a : Adr) (F : Nat → Prop) (Ts : List Nat), ptr (w1.heap.size + 1) = ptr a.P ∧ a.w0 = w0 ∧ Full F a.S Ts (sc a false (as0 (min n 64))) (RP a (as0 (min n 64))) wr ∧ (∀ (i : Nat) (x : TL), i < min n 64 → ls[i]? = some x → LRead a i x.2.1) ∧ (∀ j, F j → j < w0.heap.size ∨ W.heap.size ≤ j) ∧ Below W.heap.size W wr) := Lib.hid (by
        obtain ⟨q1, q2, q3, q4⟩ := E1.out
        rw [hk64, ← hkk]
        exact ⟨a, F, Ts, by rw [q2], q1, by rw [q3]; exact E2.out, E3.out, E4.out, E5.out⟩)
      clear E1 E2 E3 E4 E5
      by_cases h64 : n ≤ 64
      · have hc1 : decide ((k : Int) < (n : Int)) = false := by rw [decide_eq_false_iff_not]; omega
        go_wp2_with fail
        go_ret
        obtain ⟨a, F, Ts, g1, g⟩ := hfin.out
        exact ⟨a, F, Ts, by rw [← g1]; rfl, g⟩
      · have hc1 : decide ((k : Int) < (n : Int)) = true := by rw [decide_eq_true_iff]; omega
        have hc2 : decide ((k : Int) < 64) = false := by rw [decide_eq_false_iff_not]; omega
        go_wp2_with fail
        go_ret
        obtain ⟨a, F, Ts, g1, g⟩ := hfin.out
        exact ⟨a, F, Ts, by rw [← g1]; rfl, g⟩
end Go.Proofs.Ytekgdakkkbnpiaa
