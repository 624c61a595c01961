/- SchedTurns: with picks that rise by one nobody who may go all the time is left out. No condition. -/
import Derived.Test.YtekgdakkkbnpiaaTurnPick
import Derived.Test.YtekgdakkkbnpiaaOpen
import Derived.Test.YtekgdakkkbnpiaaRows
import Derived.Deep.Cut
import Derived.Deep.CutRange
import Derived.ProofKit
import Derived.OpenShut
import Derived.ChangeOld
namespace Go.Proofs.Ytekgdakkkbnpiaa
open Go Go.RowKit Go.ChangeShapes Go.WideShapes Go.ChangeAt

theorem cN_made (n : Nat) : Obj.cells (madeCells #[.int .i64 0] n) 3 = cN (List.replicate n 0) := by
  unfold cN
  rw [List.map_replicate]
  have : madeCells #[.int .i64 0] n = (List.replicate n (Value.int .i64 0)).toArray := by
    rw [← toList_madeCells_one]
  rw [this]; rfl
theorem made26 (n : Nat) (hn : n ≤ 64) (u : World) : (Instr.makeSlice 26 (.int .i64 (n : Int)) (.int .i64 (n : Int))).run Try.prog u = .ok (.slice (some ⟨u.heap.size, 0, none⟩) n n) (u.alloc (cN (List.replicate n 0))) := by
  obtain ⟨i0, hi, hz0, hz1, hz2⟩ := info_parts info3
  have h := run_make (P := Try.prog) u 26 3 i0 (.int .i64 0) Try.underlying26 hi hz0 .i64 .i64 (n : Int) (n : Int) (by omega) (Int.le_refl _) (by rw [hz2]; omega) (by omega)
  rw [← cN_made]
  simpa [hz1, Value.cells] using h

set_option maxRecDepth 100000 in
set_option maxHeartbeats 8000000 in
theorem turns_any {A0 : Option Addr} {len cp : Nat} {zs : List Int} {w : World} (hz : Reads w w.heap.size 1 A0 len (zs.map (Value.int .u8))) (hzr : ∀ z ∈ zs, 0 ≤ z ∧ z ≤ 255) (hlen : len ≤ maxLen) :
    Calls Try.prog 3 #[.slice A0 len cp] w fun e w' => e = .returned (.bool true) ∧ Below w.heap.size w w' := by
  have hmf : ∀ (fn : Fn) (first cap : Array Value) (w : World), (Instr.makeFunc fn first cap).run Try.prog w = .ok (.func fn first cap) w := fun _ _ _ _ => rfl
  obtain ⟨n, hn⟩ : ∃ n, min len 64 = n := ⟨_, rfl⟩
  unfold maxLen at hlen
  go_enter Try.func3, Try.ntmps3
  go_upto_if 25 with (first | (go_at_call 8; refine (lives_any _).mono ?_; rintro e w1 ⟨rfl, hb1⟩) | (go_at_call 9; refine (new_any _).mono ?_; unfold ptr; rintro e w2 ⟨S, C, rfl, hrep, hC, hb2⟩))
  have hfull : Full C S [] sc0 (Has fun _ => none) w2 := ⟨C, fun _ => False, hrep, Has.none_ w2, fun _ _ h => h, fun k => by simp⟩
  have HFU := Lib.hid hfull
  have HC := Lib.hid hC
  have HBE : Hid (Below w.heap.size w w2) := Lib.hid (hb1.trans (hb2.mono hb1.size))
  have HB1 : Hid (w.heap.size ≤ w1.heap.size) := Lib.hid hb1.size
  clear hrep hC hfull hb1 hb2
  go_cut [4] from 25 (fun v wr => v = .int .i64 n ∧ wr = w2)
  case first =>
    by_cases h64 : len ≤ 64
    · have hc : decide ((64 : Int) < (len : Int)) = false := by rw [decide_eq_false_iff_not]; omega
      obtain rfl : len = n := by omega
      go_wp2
      go_meet
      case rel => exact ⟨rfl, rfl⟩
    · have hc : decide ((64 : Int) < (len : Int)) = true := by rw [decide_eq_true_iff]; omega
      obtain rfl : 64 = n := by omega
      go_wp2
      go_meet
      case rel => exact ⟨rfl, rfl⟩
  case rest =>
    obtain ⟨rfl, rfl⟩ := hcut
    have hmk := made26 n (by omega)
    obtain ⟨ends, hends⟩ : ∃ ends : List Nat, (zs.take n).map Int.toNat = ends := ⟨_, rfl⟩
    have hzl : zs.length = len := by have := hz.1; simpa using this
    have hel : ends.length = n := by rw [← hends]; simp; omega
    have hee : ∀ e ∈ ends, e < 256 := by
      intro e he
      rw [← hends] at he
      obtain ⟨z, hz1, rfl⟩ := List.mem_map.1 he
      have := hzr z (List.mem_of_mem_take hz1)
      omega
    have hek : ∀ k, k < n → ∃ (e : Nat) (ad : Addr), ends[k]? = some e ∧ A0 = some ad ∧ ad.block < w.heap.size ∧ w.cell? (ad.add k) = some (.int .u8 (e : Int)) ∧ e < 256 := fun k hk => by
      obtain ⟨ad, u, e1, e2, e3, e4⟩ := hz.at_ (k := k) (by omega)
      rw [List.getElem?_map] at e3
      obtain ⟨z, hz1, rfl⟩ := Option.map_eq_some_iff.1 e3
      have h1 := hzr z (List.mem_of_getElem? hz1)
      have h2 : ends[k]? = some z.toNat := by rw [← hends, List.getElem?_map, List.getElem?_take, if_pos hk, hz1]; rfl
      refine ⟨z.toNat, ad, h2, e1, e2, ?_, by omega⟩
      rw [e4]; congr 2; omega
    have HEK := Lib.hid hek
    have hstart : Hid (Full (fun j => (C j ∨ j = wc.heap.size) ∨ j = wc.heap.size + 1) S [] sc0 (Has (mset (mset (fun _ => none) wc.heap.size (cN (List.replicate n 0))) (wc.heap.size + 1) (.cells #[.slice (some ⟨wc.heap.size, 0, none⟩) n n] 26))) ((wc.alloc (cN (List.replicate n 0))).alloc (.cells #[.slice (some ⟨wc.heap.size, 0, none⟩) n n] 26))) := by
      have hs := Full.size (Has.local_ _) HFU.out
      have h0 := HFU.out.below (Has.local_ _) (((Below.refl _ wc).alloc (Nat.le_refl _) (cN (List.replicate n 0))).alloc (by simp) (.cells #[.slice (some ⟨wc.heap.size, 0, none⟩) n n] 26))
      have h1 := full_more h0 (k := wc.heap.size) (o := cN (List.replicate n 0)) ((Below.heap_alloc _ _ _ (by simp)).trans (World.alloc_heap_new wc _)) (fun hF => by have := hs _ hF; omega)
      refine Lib.hid (full_more h1 (k := wc.heap.size + 1) ?_ (fun hF => by rcases hF with h | h; have := hs _ h; omega; omega))
      have := World.alloc_heap_new (wc.alloc (cN (List.replicate n 0))) (.cells #[.slice (some ⟨wc.heap.size, 0, none⟩) n n] 26)
      rw [World.size_alloc] at this
      exact this
    have hTI : Hid (TI n 0 0 ends (List.replicate n 0) (wc.heap.size + 1) wc.heap.size [] [] sc0 (mset (mset (fun _ => none) wc.heap.size (cN (List.replicate n 0))) (wc.heap.size + 1) (.cells #[.slice (some ⟨wc.heap.size, 0, none⟩) n n] 26))) := by
      refine Lib.hid ⟨by simp, hel, rfl, rfl, rfl, hee, fun i d e B C h1 h2 h3 h4 => by simp at h3, mset_same _ _ _, (mset_other _ _ (by omega)).trans (mset_same _ _ _), fun i B h => by simp at h, fun i C e h => by simp at h, by omega, rfl, rfl, rfl, rfl, fun i d e h1 h2 => ?_⟩
      have := (List.mem_replicate.1 (List.mem_of_getElem? h1)).2
      omega
    have hF0 : Hid (∀ j, ((C j ∨ j = wc.heap.size) ∨ j = wc.heap.size + 1) → w.heap.size ≤ j) := Lib.hid (fun j hj => by
      have h1 := HBE.out.size
      have h2 := HB1.out
      rcases hj with (h | h) | h
      · have := HC.out j h; omega
      · omega
      · omega)
    have hB0 : Hid (Below w.heap.size w ((wc.alloc (cN (List.replicate n 0))).alloc (.cells #[.slice (some ⟨wc.heap.size, 0, none⟩) n n] 26))) := Lib.hid ((HBE.out.alloc HBE.out.size _).alloc (by have := HBE.out.size; simp; omega) _)
    have hlen2 : (n : Int) ≤ (len : Int) := by omega
    have hn64 : n ≤ 64 := by omega
    clear hz hzr hends hzl hek hlen hn HFU HC
    go_wp2_with fail
    have HMK := Lib.hid hmk
    clear hmk
    go_loopw [6] (fun i wr => ∃ (k : Nat) (F : Nat → Prop) (Ts : List Nat) (σ : Sc) (m : Nat → Option Obj) (Bs Cs : List Nat), i = .int .i64 k ∧ k ≤ n ∧ Hid (Full F S Ts σ (Has m) wr) ∧ Hid (∀ j, F j → w.heap.size ≤ j) ∧ Hid (Below w.heap.size w wr) ∧ Hid (TI n k 0 ends (List.replicate n 0) (wc.heap.size + 1) wc.heap.size Bs Cs σ m)) (fun i _ => n - (intOf i).toNat)
    case atStart => exact ⟨0, _, [], sc0, _, [], [], rfl, Nat.zero_le _, hstart, hF0, hB0, hTI⟩
    case round =>
      obtain ⟨k, F, Ts, σ, m, Bs, Cs, rfl, hk, E1, E2, E3, E4⟩ := hrel
      by_cases hlt : k < n
      · obtain ⟨e, ad, g1, rfl, g2, g3, g4⟩ := HEK.out k hlt
        have g5 : wr.cell? (ad.add k) = some (.int .u8 (e : Int)) := (E3.out.cell (p := ad.add k) (by rw [block_of_add]; exact g2)).trans g3
        have hmlt : Hid (∀ j o, m j = some o → j < wr.heap.size) := Lib.hid (fun j o hj => (Array.getElem?_eq_some_iff.1 (full_known E1.out hj)).1)
        clear g3
        go_wp2_with fail
        have hd0 : (List.replicate n 0)[k]? = some 0 := by rw [List.getElem?_replicate, if_pos hlt]
        have f1 := two_more E1.out (e : Int) (k : Int)
        have hsp := Lib.hid (spawn_any (Has.local_ _) f1 ⟨#[116]⟩ 11 #[ptr (wc.heap.size + 1), ptr (wr.heap.size + 1), ptr wr.heap.size] enters11 (by rw [E4.out.tl]; omega))
        have hTI' := Lib.hid (E4.out.more hmlt.out g1 hd0)
        clear f1 hd0 g1 g5
        refine hsp.out.mono ?_
        rintro en w3 ⟨rfl, F3, T, hful, hown⟩
        have e1 := Lib.hid hful
        have e2 : Hid (∀ j, F3 j → w.heap.size ≤ j) := Lib.hid (fun j hj => by
          have := E3.out.size
          rcases hown.2 j hj with (h | h) | h
          · rcases h with h | h
            · exact E2.out j h
            · omega
          · omega
          · simp at h; omega)
        have e3 : Hid (Below w.heap.size w w3) := Lib.hid (((E3.out.alloc E3.out.size _).alloc (by have := E3.out.size; simp; omega) _).trans (hown.1.below (by have := E3.out.size; simp; omega) (fun q hq => by
          have := E3.out.size
          rcases hq with (h | h) | h
          · exact E2.out q h
          · omega
          · omega)))
        clear hful hown hsp E1 E2 E3 hmlt
        go_wp2
        go_roundw
        case rel => exact ⟨k + 1, F3, Ts ++ [T], _, _, _, _, by go_num, by omega, e1, e2, e3, hTI'⟩
        case measure => simp [intOf]; omega
      · obtain rfl : k = n := by omega
        have hmk := HMK.out
        clear HEK hstart hTI hF0 hB0
        have hsz1 := Full.size (Has.local_ m) E1.out
        obtain ⟨L, hLd⟩ : ∃ L, wr.heap.size = L := ⟨_, rfl⟩
        have i1 : Hid (Full F S Ts σ (Has m) (wr.alloc (cN (List.replicate k 0)))) := Lib.hid (E1.out.below (Has.local_ m) ((Below.refl _ _).alloc (Nat.le_refl _) _))
        have i2 : Hid (∀ j, F j → w.heap.size ≤ j ∧ j ≠ L) := Lib.hid (fun j hj => ⟨E2.out j hj, by have := hsz1 j hj; omega⟩)
        have i3 : Hid (Below w.heap.size w (wr.alloc (cN (List.replicate k 0)))) := Lib.hid (E3.out.alloc E3.out.size _)
        have i4 : Hid ((wr.alloc (cN (List.replicate k 0))).heap[L]? = some (cN (List.replicate k 0))) := Lib.hid (by rw [← hLd]; exact World.alloc_heap_new _ _)
        have i5 : Hid (Fair k 0 (liveL ends (List.replicate k 0) k) (List.replicate k 0)) := Lib.hid (by
          have : liveL ends (List.replicate k 0) k = List.range k := by
            unfold liveL fl
            rw [List.filter_eq_self]
            intro i hi
            rw [List.getD_eq_getElem?_getD, List.getElem?_replicate, if_pos (List.mem_range.1 hi)]
            simp
          rw [this]; exact Fair.begin k)
        have i6 : Hid (0 = sumTo (fun i => (List.replicate k 0).getD i 0) k) := Lib.hid (by
          have := sumTo_le_mul (f := fun i => (List.replicate k 0).getD i 0) (c := 0) (n := k) (fun i hi => by rw [List.getD_eq_getElem?_getD, List.getElem?_replicate, if_pos hi]; exact Nat.le_refl _)
          omega)
        have hwL : w.heap.size ≤ L := by have := E3.out.size; omega
        clear E1 E2 E3 hsz1
        go_wp2_with fail
        go_loopw [12] (fun i wr => ∃ (a : Nat) (F : Nat → Prop) (σ : Sc) (m : Nat → Option Obj) (did last : List Nat), i = .int .i64 a ∧ Hid (Full F S Ts σ (Has m) wr) ∧ Hid (∀ j, F j → w.heap.size ≤ j ∧ j ≠ L) ∧ Hid (Below w.heap.size w wr) ∧ Hid (TI k k a ends did (wc.heap.size + 1) wc.heap.size Bs Cs σ m) ∧ Hid (wr.heap[L]? = some (cN last)) ∧ Hid (Fair k a (liveL ends did k) last) ∧ Hid (a = sumTo (fun i => did.getD i 0) k)) (fun i _ => 20000 - (intOf i).toNat)
        case atStart => exact ⟨0, F, σ, m, _, _, rfl, i1, i2, i3, E4, i4, i5, i6⟩
        case round =>
          clear E4 i1 i2 i3 i4 i5 i6 hLd hmk HMK hlt
          obtain ⟨a, F, σ, m, did, last, rfl, E1, E2, E3, E4, E5, E6, E7⟩ := hrel
          have ha : a < 20000 := by
            have := sumTo_le_mul (f := fun i => did.getD i 0) (c := 256) (n := k) (fun i hi => by
              obtain ⟨d, e, B, C, s, o, h1, h2, -, -, h3, h4, -⟩ := E4.out.at_ hi
              have := E4.out.le i d e h1 h2
              have := E4.out.ee e (List.mem_of_getElem? h2)
              show did.getD i 0 ≤ 256
              omega)
            rw [E7.out]
            have : k * 256 ≤ 64 * 256 := Nat.mul_le_mul_right _ hn64
            omega
          have hen : Hid (Calls Try.prog 12 #[ptr S] wr fun e w' => ∃ v, e = .returned v ∧ w'.ownsRow wr.heap.size 3 1 v (liveL ends did k).length (nums (liveL ends did k)) ∧ Below wr.heap.size wr w') := Lib.hid (by
            obtain ⟨C0, D0, rep, -, -, -⟩ := E1.out
            have := Enabled_any rep (by rw [E4.out.steps]; omega)
            rw [E4.out.enabled] at this
            exact this)
          unfold ptr at hen
          go_wp2_with fail
          refine hen.out.mono ?_
          rintro en w2 ⟨v, rfl, hown, hbe2⟩
          obtain ⟨A2, cp2, g2, rfl, hA2⟩ := own_shape hown
          have f1 : Hid (Full F S Ts σ (Has m) w2) := Lib.hid (E1.out.below (Has.local_ m) hbe2)
          have f3 : Hid (Below w.heap.size w w2) := Lib.hid (E3.out.trans (hbe2.mono E3.out.size))
          have hLw : L < wr.heap.size := (Array.getElem?_eq_some_iff.1 E5.out).1
          have f5 : Hid (w2.heap[L]? = some (cN last)) := Lib.hid ((hbe2.block L hLw).trans E5.out)
          clear hown hA2 hbe2 hen E1 E3 E5 hLw
          by_cases hl : 0 < (liveL ends did k).length
          · have e1 : decide (0 < (((liveL ends did k).length : Nat) : Int)) = true := by rw [decide_eq_true_iff]; omega
            have e2 : decide ((a : Int) < 20000) = true := by rw [decide_eq_true_iff]; omega
            obtain ⟨x, σ', hxk, hxl, hTI', hpick⟩ := turn_pick E4.out f1.out hl ha
            have hpk := Lib.hid (pick_out (Q := fun _ _ => True) hpick)
            have t4 := Lib.hid hTI'
            have hxL := Lib.hid hxl
            clear hpick hTI' hxl
            unfold ptr at hpk
            go_wp2_with fail
            refine hpk.out.mono ?_
            rintro en w3 ⟨rfl, F3, hful3, hown3⟩
            have b1 : Hid (Full F3 S Ts σ' (Has (mset m wc.heap.size (cN (did.set x (did.getD x 0 + 1))))) w3) := Lib.hid hful3
            have hLw2 : L < w2.heap.size := (Array.getElem?_eq_some_iff.1 f5.out).1
            have b2 : Hid (∀ j, F3 j → w.heap.size ≤ j ∧ j ≠ L) := Lib.hid (fun j hj => by
              rcases hown3.2 j hj with h | h
              · exact E2.out j h
              · have := f3.out.size; omega)
            have b3 : Hid (Below w.heap.size w w3) := Lib.hid (f3.out.trans (hown3.1.below f3.out.size (fun q hq => (E2.out q hq).1)))
            have b5 : w3.heap[L]? = some (cN last) := (hown3.1.block L hLw2 (fun h => (E2.out L h).2 rfl)).trans f5.out
            obtain ⟨lx, hlx⟩ : ∃ lx, last[x]? = some lx := ⟨_, List.getElem?_eq_getElem (by rw [E6.out.ll]; exact hxk)⟩
            have hcL := cN_cell b5 hlx
            have hfL := Blk.frozen (t := 3) b5 x
            have B5 := Lib.hid b5
            have hxk1 : decide ((k : Int) ≤ (x : Int)) = false := by rw [decide_eq_false_iff_not]; omega
            have hxk0 : decide ((x : Int) < 0) = false := by rw [decide_eq_false_iff_not]; omega
            clear hful3 hown3 b5 hlx hpk
            go_wp2_with fail
            obtain ⟨W4, hW4⟩ : ∃ W4, w3.setCell ⟨L, x, none⟩ (.int .i64 (a : Int)) = W4 := ⟨_, rfl⟩
            have hc4 : Chg (fun j => j = L) w3 W4 := by rw [← hW4]; exact Chg.setCell (C := fun j => j = L) (Chg.refl _ w3) (p := ⟨L, x, none⟩) (.inl rfl) _
            have c1 : Hid (Full F3 S Ts σ' (Has (mset m wc.heap.size (cN (did.set x (did.getD x 0 + 1))))) W4) := Lib.hid (b1.out.chg (Has.local_ _) hc4 (fun j hj e => (b2.out j hj).2 e))
            have c3 : Hid (Below w.heap.size w W4) := Lib.hid (b3.out.trans (hc4.below b3.out.size (fun j e => by rw [e]; exact hwL)))
            have c5 : Hid (W4.heap[L]? = some (cN (last.set x a))) := Lib.hid (by
              rw [← hW4, ← cN_set]; exact Blk.set_ (t := 3) B5.out x (.int .i64 (a : Int)))
            have hlen1 : did.length = k := E4.out.dl
            have hnx := live_next (ends := ends) (did := did) (n := k) hxk hlen1
            have c6 : Hid (Fair k (a + 1) (liveL ends (did.set x (did.getD x 0 + 1)) k) (last.set x a)) := Lib.hid (by
              rw [hnx]
              split
              · exact E6.out.stay hl hxL.out
              · exact E6.out.drop hl hxL.out)
            have c7 : Hid (a + 1 = sumTo (fun i => (did.set x (did.getD x 0 + 1)).getD i 0) k) := Lib.hid (by
              rw [sumTo_set hlen1.symm hxk _ rfl, ← E7.out])
            obtain ⟨did', hdid'⟩ : ∃ did', did.set x (did.getD x 0 + 1) = did' := ⟨_, rfl⟩
            obtain ⟨last', hlast'⟩ : ∃ last', last.set x a = last' := ⟨_, rfl⟩
            rw [hdid'] at c1 c6 c7 t4
            rw [hlast'] at c5 c6
            rw [hW4]
            clear hW4 hc4 b1 b3 B5 hcL hfL hnx hdid' hlast' E4 E6 E7 f1 f3 f5 E2 hLw2 hxL e1 hl hlen1
            have hen2 : Hid (Calls Try.prog 12 #[ptr S] W4 fun e w' => ∃ v, e = .returned v ∧ w'.ownsRow W4.heap.size 3 1 v (liveL ends did' k).length (nums (liveL ends did' k)) ∧ Below W4.heap.size W4 w') := Lib.hid (by
              obtain ⟨C0, D0, rep, -, -, -⟩ := c1.out
              have := Enabled_any rep (by rw [t4.out.steps]; omega)
              rw [t4.out.enabled] at this
              exact this)
            unfold ptr at hen2
            refine hen2.out.mono ?_
            rintro en w5 ⟨v, rfl, hown, hbe5⟩
            obtain ⟨A5, cp5, g5, rfl, hA5⟩ := own_shape hown
            have hLw4 : L < W4.heap.size := (Array.getElem?_eq_some_iff.1 c5.out).1
            have d1 : Hid (Full F3 S Ts σ' (Has (mset m wc.heap.size (cN did'))) w5) := Lib.hid (c1.out.below (Has.local_ _) hbe5)
            have d3 : Hid (Below w.heap.size w w5) := Lib.hid (c3.out.trans (hbe5.mono c3.out.size))
            have d5 : Hid (w5.heap[L]? = some (cN last')) := Lib.hid ((hbe5.block L hLw4).trans c5.out)
            have hll : (liveL ends did' k).length ≤ 64 := Nat.le_trans (fl_le _ _) hn64
            have hread : Hid (∀ q, q < (liveL ends did' k).length → ∃ y z : Nat, A5 = some ⟨g5, 0, none⟩ ∧ w5.cell? ⟨g5, q, none⟩ = some (.int .i64 (y : Int)) ∧ y < k ∧ w5.cell? ⟨L, y, none⟩ = some (.int .i64 (z : Int)) ∧ z ≤ a + 1 ∧ a ≤ z + 2 * k * k) := Lib.hid (fun q hq => by
              obtain ⟨y, hy⟩ : ∃ y, (liveL ends did' k)[q]? = some y := ⟨_, List.getElem?_eq_getElem hq⟩
              have hyk : y < k := (fl_mem (k := k) hy).1
              obtain ⟨z, hz⟩ : ∃ z, last'[y]? = some z := ⟨_, List.getElem?_eq_getElem (by rw [c6.out.ll]; exact hyk)⟩
              have h1 := c6.out.ok (List.mem_of_getElem? hy)
              rw [List.getD_eq_getElem?_getD, hz] at h1
              refine ⟨y, z, (hA5 (by omega)).1, ?_, hyk, cN_cell d5.out hz, c6.out.past z (List.mem_of_getElem? hz), h1⟩
              obtain ⟨rfl, _⟩ := hA5 (by omega)
              rw [World.ownsRow.cellAt hown q (by omega), nums, List.getElem?_map, hy]; rfl)
            have hkk : (k : Int) * (k : Int) ≤ 4096 := by
              have : k * k ≤ 64 * 64 := Nat.mul_le_mul hn64 hn64
              exact_mod_cast this
            have hkk0 : 0 ≤ (k : Int) * (k : Int) := Int.mul_nonneg (by omega) (by omega)
            obtain ⟨kk, hkke⟩ : ∃ kk : Int, 2 * (k : Int) * (k : Int) = kk := ⟨_, rfl⟩
            have hkk2 : 0 ≤ kk ∧ kk ≤ 8192 := by
              rw [Int.mul_assoc] at hkke; omega
            have hkkn : ((2 * k * k : Nat) : Int) = kk := by rw [← hkke]; push_cast; rfl
            clear hown hA5 hbe5 hen2 c1 c3 c5 hLw4 hkk hkk0
            go_wp2_with fail
            go_loopw [16] (fun i wr => ∃ (q : Nat), i = .int .i64 q ∧ q ≤ (liveL ends did' k).length ∧ wr = w5) (fun i _ => (liveL ends did' k).length - (intOf i).toNat)
            case atStart => exact ⟨0, rfl, Nat.zero_le _, rfl⟩
            case round =>
              obtain ⟨q, rfl, hq, rfl⟩ := hrel
              by_cases hlt : q < (liveL ends did' k).length
              · obtain ⟨y, z, rfl, r1, r2, r3, r4, r5⟩ := hread.out q hlt
                have hck : decide (kk < (a : Int) - (z : Int)) = false := by rw [decide_eq_false_iff_not]; omega
                go_wp2_with fail
                go_roundw
                case rel => exact ⟨q + 1, by go_num, by omega, trivial⟩
                case measure => simp [intOf]; omega
              · go_wp2_with fail
                go_roundw
                case rel => exact ⟨a + 1, F3, σ', _, did', last', by go_num, d1, b2, d3, t4, d5, c6, c7⟩
                case measure => simp [intOf]; omega
          · have e1 : decide (0 < (((liveL ends did k).length : Nat) : Int)) = false := by rw [decide_eq_false_iff_not]; omega
            have hal : Hid (Calls Try.prog 14 #[ptr S] w2 fun e w' => ∃ v, e = .returned v ∧ w'.ownsRow w2.heap.size 3 1 v (liveL ends did k).length (nums (liveL ends did k)) ∧ Below w2.heap.size w2 w') := Lib.hid (by
              obtain ⟨C0, D0, rep, -, -, -⟩ := f1.out
              have := Alive_any rep
              rw [E4.out.alive] at this
              exact this)
            have hl0 : (liveL ends did k).length = 0 := by omega
            unfold ptr at hal
            clear hl
            go_wp2_with fail
            refine hal.out.mono ?_
            rintro en w4 ⟨v, rfl, hown, hbe4⟩
            obtain ⟨A4, cp4, g4, rfl, hA4⟩ := own_shape hown
            rw [hl0]
            clear hown hA4
            go_wp2
            go_ret
            exact ⟨by first | rfl | simp, f3.out.trans (hbe4.mono f3.out.size)⟩

namespace schedTurns
theorem own : ownKnob Try.prog.godebug = none := by kernel_rfl
theorem laidOut : laidOutB Try.prog = true := by kernel_rfl
set_option maxRecDepth 100000 in
theorem lifted (os : Os) (started : os.Started) (H : Type) (enc : TypeId × Value → H) :
    ReturnsInHanded {} Try.checked os 3 .any (Rows.schedTurnsSpec.pre6 enc Try.prog Try.f3 Rows.schedTurnsRow.domain false) (Rows.schedTurnsSpec.post enc Try.prog Try.f3 false true false false) := by
  refine returnsInHanded_of_change (C := Try.checked) own started (by kernel_rfl) Try.func3
    (ChangeSpec.witness6 (enc := enc) (C := Try.checked) false ⟨#[], #[.slice none 0 0], []⟩ 8 (by kernel_rfl) (by kernel_rfl) (by kernel_rfl) (by kernel_rfl)) ?_
  intro W base args ds gs before hval0 hW _ _
  have hval : ∀ (j : Nat) t v, Try.f3.params[j]? = some t → args[j]? = some v → Value.okWide Try.prog W .any base t v := hval0
  have hW' := hW
  obtain ⟨p, q, hA0, hV, rfl, hfz, hnd⟩ := hW
  have hA : DataW.TrodAll enc Try.prog W 0 (fun _ => true) true Try.f3.params.toList args.toList ds p := hA0
  rw [Try.params3] at hA hval
  obtain ⟨v0, vs0, d0, ds0, p0, q0, hargs, rfl, rfl, h0, r0⟩ := trodAll_cons hA
  obtain ⟨rfl, rfl, rfl⟩ := trodAll_nil r0
  obtain rfl : args = #[v0] := by cases args; simp_all
  obtain ⟨rfl, rfl⟩ := trodVars_none hV
  have k0 := h0
  have lt0 : ∀ x ∈ p0, x.block < W.heap.size := by obtain ⟨m, hm⟩ := k0; exact DataW.trod_lt m _ _ _ hm
  obtain ⟨A, n0, c0, rfl⟩ := okWide_slice Try.underlying22 (hval 0 22 v0 rfl rfl)
  obtain ⟨ms, rfl, hm2, hm3, hm4⟩ := open_reads_ints Try.underlying22 Try.underlying5 (by kernel_rfl) h0
  clear hA0 hval0
  refine (turns_any hm3 (fun m hm => by simpa [Lit.wf, IntKind.min, IntKind.max, IntKind.signed, IntKind.bits] using hm2 m hm) hm4).mono fun e W' ⟨he, bel⟩ => ?_
  subst he
  exact ⟨_, rfl, _, _, _, [], _, [], hW', trodAll_mk1 (shut_bool Try.underlying4 _), (trodAll_cons_mk (Below.trod laidOut (by kernel_rfl) (of_decide_eq_true (by kernel_rfl)) k0 bel lt0) trodAll_mk0), rfl, bel.frame _, fun h => by cases h⟩

theorem proved : Rows.SchedTurnsSaid :=
  OpenClaim.holds_of_wide 3 Try.f3 rfl rfl rfl rfl rfl rfl rfl ⟨rfl, rfl, rfl, rfl, rfl⟩ rfl rfl rfl rfl rfl (by kernel_rfl) Try.func3 (by kernel_rfl)
    (of_decide_eq_true (by kernel_rfl)) (by unfold Func.isWrapper; first | (rw [if_pos (by decide +kernel)]; kernel_rfl) | (rw [if_neg (by decide +kernel)]; exact ⟨rfl, rfl⟩))
    (fun os started H enc _ => lifted os started H enc)
end schedTurns
end Go.Proofs.Ytekgdakkkbnpiaa
