/- SchedOrder's walk. -/
import Derived.Test.YtekgdakkkbnpiaaHas
import Derived.Test.YtekgdakkkbnpiaaAgain
import Derived.Test.YtekgdakkkbnpiaaTasks
import Derived.Deep.CutBlock
namespace Go.Proofs.Ytekgdakkkbnpiaa
set_option linter.unusedVariables false
set_option linter.unusedSimpArgs false
open Go Go.RowKit

abbrev BL := Option Addr × List Int × Nat
def blv (x : BL) : Value := .slice x.1 x.2.1.length x.2.2
def BLok (w : World) (x : BL) : Prop := Reads w w.heap.size 1 x.1 x.2.1.length (x.2.1.map (Value.int .u8)) ∧ (∀ z ∈ x.2.1, 0 ≤ z ∧ z ≤ 255) ∧ x.2.1.length ≤ maxLen
def hsF (bs : List BL) (i : Nat) : List Nat := match bs[i]? with
  | some b => hsOf b.2.1
  | none => []
theorem hsF_rising (bs : List BL) : Rising (hsF bs) := by
  refine ⟨fun i => ?_, fun i => ?_⟩
  · unfold hsF; cases bs[i]? with
    | none => exact List.Pairwise.nil
    | some b => exact hsOf_up _
  · unfold hsF; cases bs[i]? with
    | none => intro x hx; cases hx
    | some b => exact hsOf_few _
def totF (bs : List BL) (k : Nat) : Nat := sumTo (fun i => (doA (hsF bs i)).length + 1) k
theorem totF_le (bs : List BL) (k : Nat) : totF bs k ≤ 25 * k := by
  induction k with
  | zero => exact Nat.le_refl _
  | succ k ih =>
    have h1 : (hsF bs k).length ≤ 8 := by
      unfold hsF; cases bs[k]? with
      | none => exact Nat.zero_le _
      | some b => exact hsOf_len _
    unfold totF at *
    have := doA_len (hsF bs k)
    simp only [sumTo]; omega
theorem totF_ge (bs : List BL) (k : Nat) : sumTo (fun i => 2 * (hsF bs i).length + 1) k ≤ totF bs k := sumTo_mono (fun i _ => by rw [doA_len]; omega)

/-- the lists that are made -/
def Made (w : World) (vl : Value) (bs : List BL) (ls : List TL) : Prop :=
  ∀ (i : Nat) x, ls[i]? = some x → x.2.1 = doA (hsF bs i) ∧ Reads w w.heap.size 2 x.1 x.2.1.length (flat x.2.1) ∧ ∀ ad, x.1 = some ad → vl.ownBlock ≠ some ad.block ∧ ad.block < w.heap.size
theorem own_addr {w : World} {base e size n cap : Nat} {A : Option Addr} {xs : List Value} (h : w.ownsRow base e size (.slice A n cap) n xs) : ∀ ad, A = some ad → base ≤ ad.block ∧ ad.block < w.heap.size := by
  intro ad hA
  rcases h.2 with ⟨e1, h0⟩ | ⟨g', cap', cur, e1, -, -, -, -⟩
  · obtain ⟨rfl, -⟩ : A = none ∧ n = 0 := by simp at e1; exact ⟨e1.1, e1.2.1⟩
    cases hA
  · obtain ⟨rfl, -⟩ : A = some ⟨g', 0, none⟩ ∧ cap = cap' := by simpa using e1
    injection hA with hA
    subst hA
    exact h.lt g' rfl
theorem reads_owned {w : World} {base e size n cap : Nat} {A : Option Addr} {xs : List Value} (h : w.ownsRow base e size (.slice A n cap) n xs) : Reads w w.heap.size size A n xs := by
  rcases h.2 with ⟨e1, h0⟩ | ⟨g', cap', cur, e1, -, -, -, -⟩
  · obtain ⟨rfl, rfl⟩ : A = none ∧ n = 0 := by simp at e1; exact ⟨e1.1, e1.2.1⟩
    obtain rfl : xs = [] := List.eq_nil_of_length_eq_zero (by have := h.1; simpa using this)
    exact ⟨by simp, fun h => absurd h (by omega)⟩
  · obtain ⟨rfl, -⟩ : A = some ⟨g', 0, none⟩ ∧ cap = cap' := by simpa using e1
    refine ⟨h.1, fun hn => ⟨_, rfl, (h.lt g' rfl).2, fun j u hu => ?_⟩⟩
    have hj : j < n * size := by have h1 := h.1; have := (List.getElem?_eq_some_iff.1 hu).1; omega
    rw [adp, Nat.zero_add, World.ownsRow.cellAt h j hj, hu]
theorem reads_block {w w' : World} {size n : Nat} {A : Option Addr} {xs : List Value} (h : Reads w w.heap.size size A n xs) (hb : ∀ ad, A = some ad → w'.heap[ad.block]? = w.heap[ad.block]?) (hs : w.heap.size ≤ w'.heap.size) : Reads w' w'.heap.size size A n xs := by
  refine ⟨h.1, fun hn => ?_⟩
  obtain ⟨ad, e, h1, h2⟩ := h.2 hn
  refine ⟨ad, e, Nat.lt_of_lt_of_le h1 hs, fun j u hu => ?_⟩
  refine Eq.trans (World.cell?_of_block (w := w) ?_) (h2 j u hu)
  rw [block_of_add]; exact hb ad e
theorem Made.more {wk wr w2 : World} {vl v2 : Value} {bs : List BL} {ls : List TL} {x : TL} {o : Obj} (h : Made wk vl bs ls) (hb : Below wk.heap.size wk wr) (hg : (wr.alloc o).grownBy w2 vl.ownBlock) (hat : v2.ownBlock = vl.ownBlock ∨ v2.ownBlock = some (wr.alloc o).heap.size) (hvl : ∀ j, vl.ownBlock = some j → j < wk.heap.size)
    (hx : x.2.1 = doA (hsF bs ls.length)) (hxr : Reads wr wr.heap.size 2 x.1 x.2.1.length (flat x.2.1)) (hxb : ∀ ad, x.1 = some ad → wk.heap.size ≤ ad.block ∧ ad.block < wr.heap.size) : Made w2 v2 bs (ls ++ [x]) := by
  have hsz : wr.heap.size + 1 ≤ w2.heap.size := by have := hg.size; rw [World.size_alloc] at this; exact this
  have two : ∀ (y : TL), Reads wr wr.heap.size 2 y.1 y.2.1.length (flat y.2.1) → (∀ ad, y.1 = some ad → vl.ownBlock ≠ some ad.block ∧ ad.block < wr.heap.size) →
      Reads w2 w2.heap.size 2 y.1 y.2.1.length (flat y.2.1) ∧ ∀ ad, y.1 = some ad → v2.ownBlock ≠ some ad.block ∧ ad.block < w2.heap.size := fun y h1 h2 => by
    refine ⟨reads_block h1 (fun ad e => ?_) (by omega), fun ad e => ⟨fun e2 => ?_, by have := (h2 ad e).2; omega⟩⟩
    · obtain ⟨g1, g2⟩ := h2 ad e
      exact (hg.block ad.block (by rw [World.size_alloc]; omega) (fun e3 => g1 e3.symm)).trans (Below.heap_alloc wr o ad.block g2)
    · obtain ⟨g1, g2⟩ := h2 ad e
      rcases hat with h3 | h3
      · exact g1 (h3.symm.trans e2)
      · rw [h3, World.size_alloc] at e2
        injection e2 with e2; omega
  intro i y hy
  by_cases hi : i < ls.length
  · rw [List.getElem?_append_left hi] at hy
    obtain ⟨g1, g2, g3⟩ := h i y hy
    obtain ⟨k1, k2⟩ := two y ((g2.below hb).more hb.size) (fun ad e => ⟨(g3 ad e).1, by have := (g3 ad e).2; have := hb.size; omega⟩)
    exact ⟨g1, k1, k2⟩
  · rw [List.getElem?_append_right (by omega)] at hy
    have h0 : i - ls.length = 0 := by have := (List.getElem?_eq_some_iff.1 hy).1; simp at this; omega
    rw [h0] at hy
    obtain rfl : x = y := by simpa using hy
    obtain ⟨k1, k2⟩ := two x hxr (fun ad e => ⟨fun e2 => by have := hvl _ e2; have := (hxb ad e).1; omega, (hxb ad e).2⟩)
    exact ⟨by rw [hx, show ls.length = i by omega], k1, k2⟩
theorem info50 : (Try.prog.info? 50).map (fun i => (i.zero, i.size, i.bytes)) = some (some (.agg #[.int .i64 0, .int .i64 0]), 2, 16) := by kernel_rfl
theorem info47 : (Try.prog.info? 47).map (fun i => (i.zero, i.size, i.bytes)) = some (some (.slice none 0 0), 1, 24) := by kernel_rfl

theorem own_dn {w : World} {base : Nat} {v : Value} {l : List (Int × Int)} {x : Int} (h : w.ownsRow base 50 2 v (l.length + 2) (flat l ++ [.int .i64 0, .int .i64 x, .int .i64 (-1), .int .i64 0])) : w.ownsRow base 50 2 v (l ++ [(0, x), (-1, 0)]).length (flat (l ++ [(0, x), (-1, 0)])) := by
  rw [flat_append, List.length_append]; exact h
theorem reads_new (w : World) (cs : List Value) (t : TypeId) (n sz : Nat) (h : cs.length = n * sz) : Reads (w.alloc (.cells cs.toArray t)) (w.heap.size + 1) sz (some ⟨w.heap.size, 0, none⟩) n cs := by
  refine ⟨h, fun _ => ⟨_, rfl, Nat.lt_succ_self _, fun j u hu => ?_⟩⟩
  rw [adp, Nat.zero_add, Blk.cell (t := t) (World.alloc_heap_new w _) j]
  simpa using hu

theorem doA_wf (h : List Nat) (hf : ∀ x ∈ h, x < 8) : ∀ d ∈ doA h, wfi d.1 ∧ wfi d.2 := by
  have w0 : ∀ z : Int, -10 ≤ z → z ≤ 10 → wfi z := fun z h1 h2 => by unfold wfi; simp [Lit.wf, IntKind.min, IntKind.max, IntKind.signed, IntKind.bits]; omega
  intro d hd
  unfold doA at hd
  rcases List.mem_append.1 hd with h1 | h1
  · obtain ⟨x, hx, rfl⟩ := List.mem_map.1 h1
    have := hf x hx
    exact ⟨w0 _ (by omega) (by omega), w0 _ (by show -10 ≤ (x : Int); omega) (by show (x : Int) ≤ 10; omega)⟩
  · unfold goA at h1
    obtain ⟨x, hx, hd⟩ := List.mem_flatMap.1 h1
    have := hf x (by simpa using hx)
    simp at hd
    rcases hd with rfl | rfl
    · exact ⟨w0 _ (by show (-10 : Int) ≤ 0; omega) (by show (0 : Int) ≤ 10; omega), w0 _ (by show -10 ≤ (x : Int); omega) (by show (x : Int) ≤ 10; omega)⟩
    · exact ⟨w0 _ (by show (-10 : Int) ≤ -1; omega) (by show (-1 : Int) ≤ 10; omega), w0 _ (by show (-10 : Int) ≤ 0; omega) (by show (0 : Int) ≤ 10; omega)⟩
theorem Made.ok {w : World} {vl : Value} {bs : List BL} {ls : List TL} (h : Made w vl bs ls) : ∀ x ∈ ls, TLok w x := by
  intro x hx
  obtain ⟨i, hi⟩ := List.getElem?_of_mem hx
  obtain ⟨h1, h2, -⟩ := h i x hi
  have h8 : (hsF bs i).length ≤ 8 := by
    unfold hsF; cases bs[i]? with
    | none => exact Nat.zero_le _
    | some b => exact hsOf_len _
  refine ⟨h2, ?_, ?_⟩
  · rw [h1]; exact doA_wf _ ((hsF_rising bs).few i)
  · rw [h1, doA_len]; omega
theorem Made.lof {w : World} {vl : Value} {bs : List BL} {ls : List TL} (h : Made w vl bs ls) : ∀ i, i < ls.length → Lof ls i = doA (hsF bs i) := by
  intro i hi
  unfold Lof
  rw [List.getElem?_eq_getElem hi]
  exact (h i _ (List.getElem?_eq_getElem hi)).1
theorem Going.alive_ {a : Adr} {w0 : World} {B : Nat} {L : Nat → List (Int × Int)} {k n : Nat} {s : AS} {F : Nat → Prop} {Ts : List Nat} {w : World} (h : Going a w0 B L k n s F Ts w) :
    Calls Try.prog 14 #[ptr a.S] w fun e w' => ∃ v, e = .returned v ∧ w'.ownsRow w.heap.size 3 1 v (aliveA s).length (nums (aliveA s)) ∧ Below w.heap.size w w' := by
  obtain ⟨C, hrep⟩ := h.ful.rep_
  have := Alive_any hrep
  rw [sc_alive] at this; exact this
theorem Going.dead_ {a : Adr} {w0 : World} {B : Nat} {L : Nat → List (Int × Int)} {k n : Nat} {s : AS} {F : Nat → Prop} {Ts : List Nat} {w : World} (h : Going a w0 B L k n s F Ts w) (hk : k < 3000000000000000000) :
    Calls Try.prog 20 #[ptr a.S] w fun e w' => ∃ v, e = .returned v ∧ w'.ownsRow w.heap.size 3 1 v (deadA s).length (nums (deadA s)) ∧ Below w.heap.size w w' := by
  obtain ⟨C, hrep⟩ := h.ful.rep_
  have := dead_any hrep (by show s.steps < _; have := h.steps; omega)
  rw [sc_dead] at this; exact this
theorem Going.bad {a : Adr} {w0 : World} {B : Nat} {L : Nat → List (Int × Int)} {k n : Nat} {s : AS} {F : Nat → Prop} {Ts : List Nat} {w : World} (h : Going a w0 B L k n s F Ts w) : w.cell? ⟨a.P, 3, none⟩ = some (.bool false) := by
  obtain ⟨C1, D1, hrep1, ⟨m, hm, hpm⟩, hdd, hf⟩ := h.ful
  obtain ⟨tv, hP, hrow, hb⟩ := hpm.own hm
  exact Blk.cell (t := 41) hP 3

set_option maxRecDepth 100000 in
set_option maxHeartbeats 8000000 in
theorem order_any {w : World} {A0 : Option Addr} {n c : Nat} {bs : List BL} (hT : Reads w w.heap.size 1 A0 n (bs.map blv)) (hB : ∀ x ∈ bs, BLok w x) (hn : n ≤ maxLen) {A1 : Option Addr} {len cp : Nat} {zs : List Int} (hz : Reads w w.heap.size 1 A1 len (zs.map (Value.int .u8))) (hzr : ∀ z ∈ zs, 0 ≤ z ∧ z ≤ 255) (hlen : len ≤ maxLen) :
    Calls Try.prog 5 #[.slice A0 n c, .slice A1 len cp] w fun e w' => e = .returned (.bool true) ∧ Below w.heap.size w w' := by
  obtain ⟨i0, hi0, hz0, hz1, hz2⟩ := info_parts info50
  obtain ⟨j0, hj0, hy0, hy1, hy2⟩ := info_parts info47
  have hnl : bs.length = n := by have := hT.1; simpa using this
  have HT := Lib.hid hT
  have HB := Lib.hid hB
  have HZ := Lib.hid hz
  have HZR := Lib.hid hzr
  have HNL := Lib.hid hnl
  unfold maxLen at hn hlen
  have HN := Lib.hid hn
  have HLEN := Lib.hid hlen
  clear hT hB hz hzr hnl hlen
  go_enter Try.func5, Try.ntmps5
  go_upto_block 0 with (go_at_call 8; refine (lives_any _).mono ?_; rintro e w1 ⟨rfl, hb1⟩)
  have HB1 := Lib.hid hb1
  clear hb1
  obtain ⟨k64, hk64⟩ : ∃ k64, min n 64 = k64 := ⟨_, rfl⟩
  go_cut [5, 6] from 7 (fun v t wx => ∃ ls : List TL, t = .int .i64 (totF bs k64 : Int) ∧ Hid (wx.ownsRow w1.heap.size 47 1 v k64 (ls.map tlv)) ∧ Hid (Made wx v bs ls) ∧ Hid (Below w1.heap.size w1 wx))
  case rest =>
    obtain ⟨ls, rfl, E1, E2, E3⟩ := hcut
    obtain ⟨Al, cl, gl, rfl, -⟩ := own_shape E1.out
    have hll : ls.length = k64 := by have := E1.out.1; simpa using this
    have hk64' : k64 ≤ 64 := by omega
    have hlof : ∀ i, i < k64 → Lof ls i = doA (hsF bs i) := fun i hi => E2.out.lof i (by omega)
    have hsum : sumTo (fun i => (Lof ls i).length) k64 < 400000000 := by
      have h1 : sumTo (fun i => (Lof ls i).length) k64 ≤ totF bs k64 := by
        unfold totF
        exact sumTo_mono (fun i hi => by rw [hlof i hi]; omega)
      have := totF_le bs k64; omega
    have htq := totF_le bs k64
    have hge := totF_ge bs k64
    have HGE := Lib.hid hge
    have HLOF := Lib.hid hlof
    have HS := Lib.hid hsum
    have HLL := Lib.hid hll
    have HW1 := Lib.hid (HB1.out.trans (E3.out.mono HB1.out.size))
    have hbg := Lib.hid (begins_any (c := cl) (Below.refl wc.heap.size wc) (reads_owned E1.out) E2.out.ok (by unfold maxLen; omega))
    clear hll hlof hsum hge hk64 E1 E2 E3 HB1
    go_wp2_with fail
    refine hbg.out.mono ?_
    rintro e w3 ⟨a, F, Ts, rfl, ha, hful, hlr, hF, hb3⟩
    rw [show min k64 64 = k64 by omega] at hful hlr
    have hLR : ∀ i, i < k64 → LRead a i (Lof ls i) := fun i hi => by
      obtain ⟨x, hx⟩ : ∃ x, ls[i]? = some x := ⟨_, List.getElem?_eq_getElem (by have := HLL.out; omega)⟩
      unfold Lof; rw [hx]; exact hlr i x hi hx
    have hgo : Going a wc wc.heap.size (Lof ls) 0 k64 (as0 k64) F Ts w3 := ⟨hful, as0_inv _ _, as0_len _, Nat.le_refl _, hF, hb3⟩
    have HGO := Lib.hid hgo
    have HORD := Lib.hid (ord_start (hsF bs) k64)
    have HLR := Lib.hid hLR
    have HA := Lib.hid ha
    have HS0 : Hid (sumTo (fun _ => 0) k64 = 0) := Lib.hid (by
      have : ∀ n, sumTo (fun _ => 0) n = 0 := fun n => by
        induction n with
        | zero => rfl
        | succ n ih => simp only [sumTo, ih]
      exact this k64)
    have HSZ3 := Lib.hid hb3.size
    clear hful hlr hF hb3 hLR hgo ha hbg
    unfold ptr
    go_wp2_with fail
    go_loopw [12] (fun i wr => ∃ (q : Nat) (s : AS) (p : Nat → Nat) (F : Nat → Prop), i = .int .i64 q ∧ q ≤ totF bs k64 ∧ Hid (Going a wc wc.heap.size (Lof ls) q k64 s F Ts wr) ∧ Hid (Ord (hsF bs) k64 p s) ∧ Hid (sumTo p k64 = q) ∧ Hid (wc.heap.size ≤ wr.heap.size)) (fun i _ => totF bs k64 + 1 - (intOf i).toNat)
    case atStart => exact ⟨0, _, _, F, rfl, Nat.zero_le _, HGO, HORD, HS0, HSZ3⟩
    case round =>
      clear HGO HORD HS0 HSZ3
      obtain ⟨q, s, p, F, rfl, hq, E1, E2, E3, E4⟩ := hrel
      have hal := Lib.hid E1.out.alive_
      have hcP := (E1.out.cells HA.out).1
      obtain ⟨A, hAl⟩ : ∃ A, (aliveA s).length = A := ⟨_, rfl⟩
      unfold ptr at hal
      rw [hAl] at hal
      have HAL := Lib.hid hAl
      clear hAl
      by_cases ha : 0 < A
      · have hct : decide ((0 : Int) < (A : Int)) = true := by rw [decide_eq_true_iff]; omega
        have hfree := ord_free E2.out (hsF_rising bs) (by rw [HAL.out]; exact ha)
        have hleft := ord_left E2.out (by rw [HAL.out]; exact ha)
        rw [E3.out] at hleft
        have hqt : q < totF bs k64 := by have := HGE.out; omega
        have hqd : decide ((totF bs k64 : Int) < (q : Int)) = false := by rw [decide_eq_false_iff_not]; omega
        have hdead := ord_dead E2.out (hsF_rising bs)
        have HDEAD : Hid (∀ W, Going a wc wc.heap.size (Lof ls) q k64 s F Ts W → Calls Try.prog 20 #[.pointer (some ⟨a.S, 0, none⟩)] W fun e w' => ∃ v, e = .returned v ∧ w'.ownsRow W.heap.size 3 1 v 0 [] ∧ Below W.heap.size W w') := Lib.hid (fun W hW => by
          have := hW.dead_ (by omega)
          rw [hdead] at this
          exact this)
        have hpick : ∀ z : Int, -9223372036854775808 ≤ z → z ≤ 9223372036854775807 → ∃ m, m < k64 ∧ Ord (hsF bs) k64 (stepP p m) (pickA (Lof ls) z s).1 ∧ sumTo (stepP p m) k64 = q + 1 ∧ ∀ W, Going a wc wc.heap.size (Lof ls) q k64 s F Ts W → wc.heap.size ≤ W.heap.size → Calls Try.prog 13 #[.pointer (some ⟨a.S, 0, none⟩), .int .i64 z] W fun e w' => ∃ m6 : Int, e = .returned (.tuple #[.int .i64 m6, .int .i64 0]) ∧ ∃ F', Going a wc wc.heap.size (Lof ls) (q + 1) k64 (pickA (Lof ls) z s).1 F' Ts w' ∧ wc.heap.size ≤ w'.heap.size := fun z h1 h2 => by
          obtain ⟨m, hm, he, ho⟩ := ord_pick E2.out (hsF_rising bs) (Lof ls) HLOF.out z hfree
          refine ⟨m, hm, ho, by rw [sum_stepP p hm, E3.out], fun W hW hs => ?_⟩
          have hp := hW.pick HA.out hs HLR.out HS.out (by omega) z h1 h2
          rw [he] at hp
          refine hp.mono ?_
          rintro e w' ⟨rfl, F', hgo, hown⟩
          exact ⟨_, rfl, F', hgo, Nat.le_trans hs hown.1.size⟩
        have HP := Lib.hid hpick
        clear hfree hleft hdead hpick
        by_cases hl0 : len = 0
        · have hct5 : decide ((0 : Int) < (len : Int)) = false := by rw [decide_eq_false_iff_not]; omega
          have hct5' : decide (0 < len) = false := by rw [decide_eq_false_iff_not]; omega
          clear hl0
          obtain ⟨m, -, ho, hsu, hpk⟩ := HP.out (q : Int) (by omega) (by omega)
          have HORD2 := Lib.hid ho
          have HSUM2 := Lib.hid hsu
          have HPICK := Lib.hid hpk
          clear ho hsu hpk
          go_wp2_with (first
            | (go_at_call 14; refine hal.out.mono ?_; rintro e w4 ⟨v, rfl, hown, hb4⟩; obtain ⟨A4, c4, g4, rfl, -⟩ := own_shape hown; have E5 := Lib.hid (E1.out.more hb4); have hcP4 := (E5.out.cells HA.out).1; have E6 := Lib.hid (Nat.le_trans E4.out hb4.size); clear hown hb4)
            | (go_at_call 20; refine (HDEAD.out w4 E5.out).mono ?_; rintro e w5 ⟨v5, rfl, hown5, hb5⟩; obtain ⟨A5, c5, g5, rfl, -⟩ := own_shape hown5; have E7 := Lib.hid (E5.out.more hb5); have hcP5 := (E7.out.cells HA.out).1; have E8 := Lib.hid (Nat.le_trans E6.out hb5.size); clear hown5 hb5)
            | (go_at_call 13; refine (HPICK.out w5 E7.out E8.out).mono ?_; rintro e w6 ⟨m6, rfl, F6, hgo6, hsz6⟩; have E9 := Lib.hid hgo6; have E10 := Lib.hid hsz6; clear hgo6 hsz6))
          go_roundw
          case rel => exact ⟨q + 1, _, _, F6, by go_num, by omega, E9, HORD2, HSUM2, E10⟩
          case measure => simp [intOf]; omega
        · have hct5 : decide ((0 : Int) < (len : Int)) = true := by rw [decide_eq_true_iff]; omega
          obtain ⟨j, hj⟩ : ∃ j, q % len = j := ⟨_, rfl⟩
          have hjl : j < len := by rw [← hj]; exact Nat.mod_lt _ (by omega)
          have hje : (q : Int) % (len : Int) = (j : Int) := by omega
          have hne : ((len : Int) == 0) = false := by rw [beq_eq_false_iff_ne]; omega
          obtain ⟨ad, u, rfl, hadb, hu, huc⟩ := HZ.out.at_ (k := j) hjl
          rw [List.getElem?_map] at hu
          obtain ⟨z, hzj, rfl⟩ := Option.map_eq_some_iff.1 hu
          have hz01 := HZR.out z (List.mem_of_getElem? hzj)
          have hz0 := hz01.1
          have hz1 := hz01.2
          have hwz : IntKind.i64.wrap z = z := by rw [IntKind.wrap_i64]; omega
          have HUC : Hid (∀ W, Below wc.heap.size wc W → W.cell? (ad.add j) = some (.int .u8 z)) := Lib.hid (fun W hW => (hW.cell (p := ad.add j) (by rw [block_of_add]; have := HW1.out.size; omega)).trans ((HW1.out.cell (p := ad.add j) (by rw [block_of_add]; exact hadb)).trans huc))
          obtain ⟨m, -, ho, hsu, hpk⟩ := HP.out z (by omega) (by omega)
          have HORD2 := Lib.hid ho
          have HSUM2 := Lib.hid hsu
          have HPICK := Lib.hid hpk
          clear ho hsu hpk hu hzj hz01 hadb huc hj
          go_wp2_with (first
            | (go_at_call 14; refine hal.out.mono ?_; rintro e w4 ⟨v, rfl, hown, hb4⟩; obtain ⟨A4, c4, g4, rfl, -⟩ := own_shape hown; have E5 := Lib.hid (E1.out.more hb4); have hcP4 := (E5.out.cells HA.out).1; have E6 := Lib.hid (Nat.le_trans E4.out hb4.size); have hcz4 := HUC.out w4 E5.out.below; clear hown hb4)
            | (go_at_call 20; refine (HDEAD.out w4 E5.out).mono ?_; rintro e w5 ⟨v5, rfl, hown5, hb5⟩; obtain ⟨A5, c5, g5, rfl, -⟩ := own_shape hown5; have E7 := Lib.hid (E5.out.more hb5); have hcP5 := (E7.out.cells HA.out).1; have E8 := Lib.hid (Nat.le_trans E6.out hb5.size); clear hown5 hb5)
            | (go_at_call 13; refine (HPICK.out w5 E7.out E8.out).mono ?_; rintro e w6 ⟨m6, rfl, F6, hgo6, hsz6⟩; have E9 := Lib.hid hgo6; have E10 := Lib.hid hsz6; clear hgo6 hsz6))
          go_roundw
          case rel => exact ⟨q + 1, _, _, F6, by go_num, by omega, E9, HORD2, HSUM2, E10⟩
          case measure => simp [intOf]; omega
      · have hct : decide ((0 : Int) < (A : Int)) = false := by rw [decide_eq_false_iff_not]; omega
        have hstop : Hid (∀ v ∈ s.told, v = 0) := Lib.hid E2.out.told
        obtain ⟨wo, rfl⟩ : ∃ wo : World, wo = wr := ⟨_, rfl⟩
        go_wp2_with (go_at_call 14; refine hal.out.mono ?_; rintro e w4 ⟨v, rfl, hown, hb4⟩; obtain ⟨A4, c4, g4, rfl, -⟩ := own_shape hown; have E5 := Lib.hid (E1.out.more hb4); clear hown hb4)
        obtain ⟨cP0, tv, cP2, hrow, -⟩ := E5.out.cells HA.out
        have cP3 := E5.out.bad
        obtain ⟨At, ct, gt, rfl, hAt⟩ := own_shape hrow
        have htl : s.told.length < 1000000000 := by
          have := E5.out.inv.bound
          rw [E5.out.len] at this
          have := HS.out; omega
        obtain ⟨N, hN⟩ : ∃ N, s.told.length = N := ⟨_, rfl⟩
        rw [hN] at hrow htl cP2 hAt
        have HROW := Lib.hid hrow
        have HAT := Lib.hid hAt
        have HNN := Lib.hid hN
        have FIN := Lib.hid (HW1.out.trans (E5.out.below.mono HW1.out.size))
        clear hrow hAt hN hcP
        go_loop [16] (fun i => ∃ j : Nat, i = .int .i64 j ∧ j ≤ N) (fun i => N - (intOf i).toNat)
        case atStart => exact ⟨0, rfl, Nat.zero_le _⟩
        case round =>
          obtain ⟨j, rfl, hj⟩ := hrel
          by_cases hlt : j < N
          · have hct6 : decide ((j : Int) < (N : Int)) = true := by rw [decide_eq_true_iff]; omega
            obtain ⟨rfl, -, -⟩ := HAT.out (by omega)
            have hcj : w4.cell? ⟨gt, j, none⟩ = some (.int .i64 0) := by
              obtain ⟨v, hv⟩ : ∃ v, s.told[j]? = some v := ⟨_, List.getElem?_eq_getElem (by have := HNN.out; omega)⟩
              have hv0 := hstop.out v (List.mem_of_getElem? hv)
              rw [World.ownsRow.cellAt HROW.out j (by omega), List.getElem?_map, hv, hv0]; rfl
            go_wp2
            go_round
            case rel => exact ⟨j + 1, by go_num, by omega⟩
            case measure => simp [intOf]; omega
          · have hct6 : decide ((j : Int) < (N : Int)) = false := by rw [decide_eq_false_iff_not]; omega
            go_wp2
            go_ret
            exact ⟨rfl, FIN.out⟩
  case first =>
  go_wp2_with fail
  go_loopw [5, 6, 7] (fun v t i wr => ∃ (k : Nat) (ls : List TL), i = .int .i64 k ∧ k ≤ k64 ∧ t = .int .i64 (totF bs k : Int) ∧ Hid (wr.ownsRow w1.heap.size 47 1 v k (ls.map tlv)) ∧ Hid (Made wr v bs ls) ∧ Hid (Below w1.heap.size w1 wr)) (fun _ _ i _ => k64 - (intOf i).toNat)
  case atStart => exact ⟨0, [], rfl, Nat.zero_le _, rfl, Lib.hid ⟨rfl, .inl ⟨rfl, rfl⟩⟩, Lib.hid (fun i x h => by simp at h), Lib.hid (Below.refl _ _)⟩
  case round =>
    obtain ⟨k, ls, rfl, hk, rfl, E1, E2, E3⟩ := hrel
    by_cases hlt : k < k64
    · have hct : decide ((k : Int) < (n : Int)) = true := by rw [decide_eq_true_iff]; omega
      have hct2 : decide ((k : Int) < 64) = true := by rw [decide_eq_true_iff]; omega
      obtain ⟨ad, u, rfl, hadb, hu, huc⟩ := HT.out.at_ (k := k) (by omega)
      rw [List.getElem?_map] at hu
      obtain ⟨⟨Ab, zb, cb⟩, hbk, rfl⟩ := Option.map_eq_some_iff.1 hu
      have HBK := Lib.hid hbk
      have HBO := Lib.hid (HB.out _ (List.mem_of_getElem? hbk))
      have hzbl := HBO.out.2.2
      unfold maxLen at hzbl
      have HWK : Hid (Below w.heap.size w wr) := Lib.hid (HB1.out.trans (E3.out.mono HB1.out.size))
      have HUC : Hid (w.cell? (ad.add k) = some (blv (Ab, zb, cb))) := Lib.hid huc
      have HADB := Lib.hid hadb
      have hh8 := hsOf_len zb
      have HTOT := totF_le bs k
      have hhas : ∀ (W : World), Below wr.heap.size wr W → ∀ q : Nat, q < 8 → Calls Try.prog 19 #[.slice Ab zb.length cb, .int .u8 (q : Int)] W fun e w' => e = .returned (.bool (hasB zb q)) ∧ W = w' := fun W hb q hq => by
        have h1 : Reads W w.heap.size 1 Ab zb.length (zb.map (Value.int .u8)) := HBO.out.1.below (HWK.out.trans (hb.mono HWK.out.size))
        exact has_any (h1.more (Nat.le_trans HWK.out.size hb.size)) HBO.out.2.1 HBO.out.2.2 q hq
      have HHAS := Lib.hid hhas
      clear hu huc hbk hadb hhas hzbl
      go_wp2_with fail
      obtain ⟨wk, rfl⟩ : ∃ wk : World, wk = wr := ⟨_, rfl⟩
      go_loopw [8, 9] (fun v i wr => ∃ q : Nat, i = .int .i64 q ∧ q ≤ 8 ∧ Hid (wr.ownsRow wk.heap.size 50 2 v (upA (hasB zb) q).length (flat (upA (hasB zb) q))) ∧ Hid (Below wk.heap.size wk wr)) (fun _ i _ => 8 - (intOf i).toNat)
      case atStart => exact ⟨0, rfl, Nat.zero_le _, Lib.hid ⟨rfl, .inl ⟨rfl, rfl⟩⟩, Lib.hid (Below.refl _ _)⟩
      case round =>
        obtain ⟨q, rfl, hq, G1, G2⟩ := hrel
        by_cases hlq : q < 8
        · have hct3 : decide ((q : Int) < 8) = true := by rw [decide_eq_true_iff]; omega
          have hw8 : IntKind.u8.wrap (q : Int) = (q : Int) := by rw [IntKind.wrap_u8]; omega
          have hcell : wr.cell? (ad.add k) = some (.slice Ab zb.length cb) := (G2.out.cell (p := ad.add k) (by rw [block_of_add]; have := HADB.out; have := HWK.out.size; omega)).trans ((HWK.out.cell (p := ad.add k) (by rw [block_of_add]; exact HADB.out)).trans HUC.out)
          have hcall := Lib.hid (HHAS.out wr G2.out q hlq)
          obtain ⟨b, hbb⟩ : ∃ b, hasB zb q = b := ⟨_, rfl⟩
          rw [hbb] at hcall
          have HUP := Lib.hid (upA_succ (hasB zb) q)
          have HBB := Lib.hid hbb
          have HUL := upA_len (hasB zb) q
          clear hbb
          go_wp2_with fail
          refine hcall.out.mono ?_
          rintro e w' ⟨rfl, rfl⟩
          cases b
          · go_wp2_with fail
            go_roundw
            case rel =>
              refine ⟨q + 1, by go_num, by omega, Lib.hid ?_, G2⟩
              rw [HUP.out, HBB.out]; simpa using G1.out
            case measure => simp [intOf]; omega
          · go_wp2_with (at_builtin; refine wpList_append_any _ rfl (.tmp 40) (.tmp 43) 47 rfl wk.heap.size 50 i0 (.agg #[.int .i64 0, .int .i64 0]) 2 16 Try.underlying47 hi0 hz0 hz1 hz2 rfl (by decide) u8 (upA (hasB zb) q).length (flat (upA (hasB zb) q)) rfl (G1.out.alloc _) (wr.heap.size + 1) (some ⟨wr.heap.size, 0, none⟩) 1 1 [.int .i64 (-2), .int .i64 q] rfl (reads_new wr [.int .i64 (-2), .int .i64 q] 50 1 2 rfl) (by simp [Value.oneCell']) (by unfold maxLen; omega) (by omega) (by have := G2.out.size; simp at this ⊢; omega) ?_; intro v2 w2 hown2 hg2 hat2)
            go_roundw
            case rel =>
              refine ⟨q + 1, by go_num, by omega, Lib.hid ?_, Lib.hid ?_⟩
              · rw [HUP.out, HBB.out, if_pos rfl, flat_append, List.length_append]; exact hown2
              · exact (G2.out.alloc G2.out.size _).grown hg2 (by have := G2.out.size; rw [World.size_alloc]; omega) (fun j hj => (G1.out.lt j hj).1)
            case measure => simp [intOf]; omega
        · have hct3 : decide ((q : Int) < 8) = false := by rw [decide_eq_false_iff_not]; omega
          rw [show q = 8 by omega] at G1
          go_wp2_with fail
          go_loopw [8, 10] (fun v i wr => ∃ r : Nat, i = .int .i64 (7 - (r : Int)) ∧ r ≤ 8 ∧ Hid (wr.ownsRow wk.heap.size 50 2 v (upA (hasB zb) 8 ++ dnA (hasB zb) 8 r).length (flat (upA (hasB zb) 8 ++ dnA (hasB zb) 8 r))) ∧ Hid (Below wk.heap.size wk wr)) (fun _ i _ => (intOf i + 1).toNat)
          case atStart => exact ⟨0, rfl, Nat.zero_le _, Lib.hid (by simpa [dnA] using G1.out), G2⟩
          case round =>
            obtain ⟨r, rfl, hr, G3, G4⟩ := hrel
            by_cases hlr : r < 8
            · have hct4 : decide ((0 : Int) ≤ 7 - (r : Int)) = true := by rw [decide_eq_true_iff]; omega
              obtain ⟨x, hx⟩ : ∃ x : Nat, 8 - 1 - r = x := ⟨_, rfl⟩
              have hxe : (7 - (r : Int)) = (x : Int) := by omega
              have hx8 : x < 8 := by omega
              have hw8 : IntKind.u8.wrap (x : Int) = (x : Int) := by rw [IntKind.wrap_u8]; omega
              have hcell : wr.cell? (ad.add k) = some (.slice Ab zb.length cb) := (G4.out.cell (p := ad.add k) (by rw [block_of_add]; have := HADB.out; have := HWK.out.size; omega)).trans ((HWK.out.cell (p := ad.add k) (by rw [block_of_add]; exact HADB.out)).trans HUC.out)
              have hcall := Lib.hid (HHAS.out wr G4.out x hx8)
              obtain ⟨b, hbb⟩ : ∃ b, hasB zb x = b := ⟨_, rfl⟩
              rw [hbb] at hcall
              have HDN : Hid (dnA (hasB zb) 8 (r + 1) = dnA (hasB zb) 8 r ++ if b then [(0, (x : Int)), (-1, 0)] else []) := Lib.hid (by rw [dnA, hx, hbb])
              have HUL := upA_len (hasB zb) 8
              have HDL := dnA_len (hasB zb) 8 r
              have hxr : (x : Int) - 1 = 7 - ((r + 1 : Nat) : Int) := by omega
              have HXR := Lib.hid hxr
              have HHX := Lib.hid hx
              rw [hxe]
              clear hbb hxe hxr hx
              go_wp2_with fail
              refine hcall.out.mono ?_
              rintro e w' ⟨rfl, rfl⟩
              cases b
              · go_wp2_with fail
                go_roundw
                case rel =>
                  refine ⟨r + 1, by rw [← HXR.out], by omega, Lib.hid ?_, G4⟩
                  rw [HDN.out]; simpa using G3.out
                case measure => simp [intOf] <;> omega
              · go_wp2_with (at_builtin; refine wpList_append_any _ rfl (.tmp 56) (.tmp 60) 47 rfl wk.heap.size 50 i0 (.agg #[.int .i64 0, .int .i64 0]) 2 16 Try.underlying47 hi0 hz0 hz1 hz2 rfl (by decide) u8 (upA (hasB zb) 8 ++ dnA (hasB zb) 8 r).length (flat (upA (hasB zb) 8 ++ dnA (hasB zb) 8 r)) rfl (G3.out.alloc _) (wr.heap.size + 1) (some ⟨wr.heap.size, 0, none⟩) 2 2 [.int .i64 0, .int .i64 x, .int .i64 (-1), .int .i64 0] rfl (reads_new wr [.int .i64 0, .int .i64 x, .int .i64 (-1), .int .i64 0] 50 2 2 rfl) (by simp [Value.oneCell']) (by unfold maxLen; rw [List.length_append]; omega) (by rw [List.length_append]; omega) (by have := G4.out.size; simp at this ⊢; omega) ?_; intro v2 w2 hown2 hg2 hat2)
                go_roundw
                case rel =>
                  refine ⟨r + 1, by rw [← HXR.out], by omega, Lib.hid ?_, Lib.hid ?_⟩
                  · rw [show dnA (hasB zb) 8 (r + 1) = dnA (hasB zb) 8 r ++ [(0, (x : Int)), (-1, 0)] from by rw [HDN.out]; rfl, ← List.append_assoc]; exact own_dn hown2
                  · exact (G4.out.alloc G4.out.size _).grown hg2 (by have := G4.out.size; rw [World.size_alloc]; omega) (fun j hj => (G3.out.lt j hj).1)
                case measure => simp [intOf] <;> omega
            · obtain rfl : r = 8 := by omega
              have hct4 : decide ((0 : Int) ≤ 7 - ((8 : Nat) : Int)) = false := by decide
              rw [do_all] at G3
              obtain ⟨Ad, cd, gd, rfl, -⟩ := own_shape G3.out
              have hlk : ls.length = k := by have := E1.out.1; simpa using this
              have hhs : hsF bs k = hsOf zb := by unfold hsF; rw [HBK.out]
              have OL := Lib.hid (own_below E1.out G4.out)
              have HLK := Lib.hid hlk
              have HHS := Lib.hid hhs
              have hdl : (doA (hsOf zb)).length ≤ 24 := by rw [doA_len]; omega
              have h1k : w1.heap.size ≤ wk.heap.size := E3.out.size
              have hkr : wk.heap.size ≤ wr.heap.size := G4.out.size
              have HTS : Hid ((totF bs (k + 1) : Nat) = totF bs k + (doA (hsOf zb)).length + 1) := Lib.hid (by unfold totF; simp only [sumTo]; rw [hhs]; omega)
              clear hlk hhs
              go_wp2_with (at_builtin; refine wpList_append_any _ rfl (.tmp 62) (.tmp 64) 36 rfl w1.heap.size 47 j0 (.slice none 0 0) 1 24 Try.underlying36 hj0 hy0 hy1 hy2 rfl (by decide) u5 k (ls.map tlv) rfl (OL.out.alloc _) (wr.heap.size + 1) (some ⟨wr.heap.size, 0, none⟩) 1 1 [tlv (Ad, doA (hsOf zb), cd)] rfl (reads_new wr [tlv (Ad, doA (hsOf zb), cd)] 47 1 1 rfl) (by simp [Value.oneCell', tlv]) (by unfold maxLen; omega) (by omega) (by simp; omega) ?_; intro v2 w2 hown2 hg2 hat2)
              go_roundw
              case rel =>
                refine ⟨k + 1, ls ++ [(Ad, doA (hsOf zb), cd)], by go_num, by omega, by rw [HTS.out]; go_num, Lib.hid (by rw [List.map_append]; exact hown2), Lib.hid ?_, Lib.hid ?_⟩
                · exact E2.out.more G4.out hg2 hat2 (fun j hj => (E1.out.lt j hj).2) (by rw [HLK.out, HHS.out]) (reads_owned G3.out) (own_addr G3.out)
                · exact ((E3.out.trans (G4.out.mono E3.out.size)).alloc (by omega) _).grown hg2 (by rw [World.size_alloc]; omega) (fun j hj => (E1.out.lt j hj).1)
              case measure => simp [intOf]; omega
    · obtain rfl : k = k64 := by omega
      by_cases h64 : n ≤ 64
      · have hct : decide ((k : Int) < (n : Int)) = false := by rw [decide_eq_false_iff_not]; omega
        go_wp2_with fail
        go_meet
        case rel => exact ⟨ls, rfl, E1, E2, E3⟩
      · have hct : decide ((k : Int) < (n : Int)) = true := by rw [decide_eq_true_iff]; omega
        have hct2 : decide ((k : Int) < 64) = false := by rw [decide_eq_false_iff_not]; omega
        go_wp2_with fail
        go_meet
        case rel => exact ⟨ls, rfl, E1, E2, E3⟩
end Go.Proofs.Ytekgdakkkbnpiaa
