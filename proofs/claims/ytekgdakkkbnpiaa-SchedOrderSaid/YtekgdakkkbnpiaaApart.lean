/- SchedApart, where what it reads is of bulk at most 1048576: a lock has never two holders: who is picked with a wish for a lock holds it, and held it nobody before. -/
import Derived.Test.YtekgdakkkbnpiaaBegins
import Derived.Test.YtekgdakkkbnpiaaLives
import Derived.Deep.Cut
import Derived.Test.YtekgdakkkbnpiaaMid
namespace Go.Proofs.Ytekgdakkkbnpiaa
set_option linter.unusedVariables false
set_option linter.unusedSimpArgs false
open Go Go.RowKit

/-- What lay at the start lies as it lay. -/
theorem pin_below {w0 wr w' : World} {a : Adr} {s' : AS} {F F' : Nat → Prop} {S : Nat} {Ts : List Nat} {σ : Sc} (ha : a.w0 = w0) (hb : Below w0.heap.size w0 wr) (hown : Owned F wr F' w') (hful : Full F' S Ts σ (RP a s') w') : Below w0.heap.size w0 w' := by
  obtain ⟨C, D, -, ⟨m, hm, hpm⟩, -, -⟩ := hful
  refine ⟨hown.1.os.trans hb.os, hown.1.tape.trans hb.tape, hown.1.output.trans hb.output, Nat.le_trans hb.size hown.1.size, fun q hq => ?_⟩
  have hpin := hpm.base q (by rw [ha]; exact hq)
  rw [ha] at hpin
  obtain ⟨o, ho⟩ : ∃ o, w0.heap[q]? = some o := ⟨_, Array.getElem?_eq_getElem hq⟩
  exact (hm.2 q o (hpin.trans ho)).trans ho.symm
def Lof (ls : List TL) (i : Nat) : List (Int × Int) := match ls[i]? with
  | some x => x.2.1
  | none => []
theorem as0_inv (L : Nat → List (Int × Int)) (k : Nat) : TInv L (as0 k) := by
  have h : ∀ (i : Nat) (t : AT), (as0 k).ts[i]? = some t → t = at0 := fun i t ht => by
    have := List.mem_of_getElem? ht
    exact (List.mem_replicate.1 this).2
  refine ⟨fun i t ht => by rw [h i t ht]; exact Nat.zero_le _, fun i j t u ht hu h1 => ?_, fun t ht => ?_, Nat.le_refl _, Nat.zero_le _⟩
  · rw [h i t ht] at h1; simp [at0] at h1
  · rw [(List.mem_replicate.1 ht).2]; exact Nat.le_refl _

/-- What holds from pick to pick. -/
structure Going (a : Adr) (w0 : World) (B : Nat) (L : Nat → List (Int × Int)) (k n : Nat) (s : AS) (F : Nat → Prop) (Ts : List Nat) (w : World) : Prop where
  ful : Full F a.S Ts (sc a false s) (RP a s) w
  inv : TInv L s
  len : s.ts.length = n
  steps : s.steps ≤ k
  own : ∀ j, F j → j < w0.heap.size ∨ B ≤ j
  below : Below w0.heap.size w0 w

theorem Going.pick {a : Adr} {w0 : World} {B : Nat} {L : Nat → List (Int × Int)} {k n : Nat} {s : AS} {F : Nat → Prop} {Ts : List Nat} {w : World} (h : Going a w0 B L k n s F Ts w) (ha : a.w0 = w0) (hB : B ≤ w.heap.size) (hL : ∀ i, i < n → LRead a i (L i)) (hsum : sumTo (fun i => (L i).length) n < 400000000) (hk : k < 3000000000000000000)
    (i : Int) (hi1 : -9223372036854775808 ≤ i) (hi2 : i ≤ 9223372036854775807) :
    Calls Try.prog 13 #[ptr a.S, .int .i64 i] w fun e w' => e = .returned (.tuple #[.int .i64 (pickA L i s).2.1, .int .i64 (pickA L i s).2.2]) ∧ ∃ F', Going a w0 B L (k + 1) n (pickA L i s).1 F' Ts w' ∧ Owned F w F' w' := by
  have hb := h.inv.bound
  rw [h.len] at hb
  have hone : ∀ m, m < n → (L m).length ≤ sumTo (fun i => (L i).length) n := fun m hm => by
    have := sumTo_one (f := fun i => if i = m then 0 else (L i).length) (g := fun i => (L i).length) hm (fun i _ hne => if_neg hne)
    simp only [if_true] at this
    omega
  have hp := pick_abs h.ful (h.inv.p (fun i hi => hL i (by rw [← h.len]; exact hi))) i hi1 hi2 (by have := h.steps; omega) (fun m hm => by
    have := hone m (by rw [← h.len]; exact hm); omega)
  refine pick_out (Q := fun _ _ => True) (hp.mono ?_)
  rintro e w' ⟨rfl, F', hful, hown⟩
  obtain ⟨k1, k2, k3⟩ := pickA_keeps h.inv i
  refine ⟨rfl, F', ⟨hful, k1, by rw [k2, h.len], by have := h.steps; omega, fun j hj => ?_, pin_below ha h.below hown hful⟩, hown⟩
  rcases hown.2 j hj with h1 | h1
  · exact h.own j h1
  · right; omega

theorem pickA_who {L : Nat → List (Int × Int)} {s : AS} {z : Int} (h : (enabledA s).length ≠ 0) : (pickA L z s).2.1 = ((chosenA s z : Nat) : Int) := by
  obtain ⟨-, t, ht, -⟩ := chosenA_lt (i := z) h
  unfold pickA
  rw [if_neg h]
  dsimp only
  rw [ht]
  dsimp only
  split <;> rfl
/-- what is made leaves all as it was -/
theorem Going.more {a : Adr} {w0 : World} {B : Nat} {L : Nat → List (Int × Int)} {k n : Nat} {s : AS} {F : Nat → Prop} {Ts : List Nat} {w w' : World} (h : Going a w0 B L k n s F Ts w) (hb : Below w.heap.size w w') : Going a w0 B L k n s F Ts w' :=
  ⟨h.ful.below (RP.local_ a s) hb, h.inv, h.len, h.steps, h.own, h.below.trans (hb.mono h.below.size)⟩
theorem below_drew (w : World) : Below w.heap.size w w.drew := ⟨rfl, rfl, rfl, Nat.le_refl _, fun _ _ => rfl⟩
theorem below_new (w : World) (o : Obj) : Below w.heap.size w (w.alloc o) := (Below.refl _ w).alloc (Nat.le_refl _) o
theorem cell_more {w w' : World} (hb : Below w.heap.size w w') {p : Addr} {v : Value} (h : w.cell? p = some v) : w'.cell? p = some v := (hb.cell (p := p) (World.block_lt_of_cell? w _ h)).trans h

set_option maxRecDepth 100000 in
set_option maxHeartbeats 8000000 in
theorem apart_any {w : World} {A0 : Option Addr} {n c : Nat} {ls : List TL} (hT : Reads w w.heap.size 1 A0 n (ls.map tlv)) (hL : ∀ x ∈ ls, TLok w x) (hn : n ≤ maxLen) {A1 : Option Addr} {len cp : Nat} {zs : List Int} (hz : Reads w w.heap.size 1 A1 len (zs.map (Value.int .u8))) (hzr : ∀ z ∈ zs, 0 ≤ z ∧ z ≤ 255)
    (hlen : len ≤ 1000000000) (hsum : sumTo (fun i => (Lof ls i).length) (min n 64) < 400000000) :
    Calls Try.prog 6 #[.slice A0 n c, .slice A1 len cp] w fun e w' => e = .returned (.bool true) ∧ Below w.heap.size w w' := by
  have hnl : n = ls.length := by have := hT.1; simp at this; omega
  have HS := Lib.hid hsum
  have HT := Lib.hid hT
  have HL := Lib.hid hL
  have HN := Lib.hid hn
  have HZ := Lib.hid hz
  have HZR := Lib.hid hzr
  have HNL := Lib.hid hnl
  clear hsum hT hL hn hz hzr hnl
  go_enter Try.func6, Try.ntmps6
  go_wp2_with (go_at_call 8; refine (lives_any _).mono ?_; rintro e w1 ⟨rfl, hb1⟩)
  refine (begins_any hb1 HT.out HL.out HN.out).mono ?_
  rintro e w2 ⟨a, F, Ts, rfl, ha, hful, hlr, hF, hb2⟩
  have hB0 : Below w.heap.size w w2 := hb1.trans (hb2.mono hb1.size)
  have hLR : ∀ i, i < min n 64 → LRead a i (Lof ls i) := fun i hi => by
    obtain ⟨x, hx⟩ : ∃ x, ls[i]? = some x := ⟨_, List.getElem?_eq_getElem (by have := HNL.out; omega)⟩
    unfold Lof; rw [hx]; exact hlr i x hi hx
  have hgo : Going a w w1.heap.size (Lof ls) 0 (min n 64) (as0 (min n 64)) F Ts w2 := ⟨hful, as0_inv _ _, as0_len _, Nat.le_refl _, hF, hB0⟩
  have hzl : zs.length = len := by have := HZ.out.1; simpa using this
  have hek : ∀ k, k < len → ∃ (z : Int) (ad : Addr), A1 = some ad ∧ ad.block < w.heap.size ∧ w.cell? (ad.add k) = some (.int .u8 z) ∧ 0 ≤ z ∧ z ≤ 255 := fun k hk => by
    obtain ⟨ad, u, e1, e2, e3, e4⟩ := HZ.out.at_ (k := k) hk
    rw [List.getElem?_map] at e3
    obtain ⟨z, hz1, rfl⟩ := Option.map_eq_some_iff.1 e3
    exact ⟨z, ad, e1, e2, e4, HZR.out z (List.mem_of_getElem? hz1)⟩
  have HEK := Lib.hid hek
  have HLR := Lib.hid hLR
  have HGO := Lib.hid hgo
  have HA := Lib.hid ha
  have HZ12 := Lib.hid hb2.size
  obtain ⟨k64, hk64⟩ : ∃ k64, min n 64 = k64 := ⟨_, rfl⟩
  rw [hk64] at HLR HGO HS
  clear hzl hek hLR hgo hful hlr hF hb1 hb2 hB0 ha hk64 HT HL HN HZ HZR HNL
  unfold ptr
  go_wp2_with fail
  go_loopw [6] (fun i wr => ∃ (k : Nat) (s : AS) (F : Nat → Prop) (Ts : List Nat), i = .int .i64 k ∧ k ≤ len ∧ Hid (Going a w w1.heap.size (Lof ls) k k64 s F Ts wr) ∧ Hid (w1.heap.size ≤ wr.heap.size)) (fun i _ => len - (intOf i).toNat)
  case atStart => exact ⟨0, _, F, Ts, rfl, Nat.zero_le _, HGO, HZ12⟩
  case round =>
    clear HGO HZ12
    obtain ⟨k, s, F, Ts, rfl, hk, E1, E2⟩ := hrel
    by_cases hlt : k < len
    · obtain ⟨z, ad, rfl, hadb, hzc, hz0, hz1⟩ := HEK.out k hlt
      obtain ⟨C1, D1, hrep1, ⟨m, hm, hpm⟩, hdd, hf⟩ := id E1.out.ful
      obtain ⟨Ax, cpx, hmP, hPb⟩ := pm_cells hpm hm
      have hcz : wr.cell? (ad.add k) = some (.int .u8 z) := (E1.out.below.cell (p := ad.add k) (by rw [block_of_add]; exact hadb)).trans hzc
      have hcP : wr.cell? ⟨a.P, 0, none⟩ = some (.pointer (some ⟨a.S, 0, none⟩)) := Blk.cell (t := 41) hPb 0
      have hen := Lib.hid (Enabled_any hrep1 (by show s.steps < _; have := E1.out.steps; omega))
      rw [sc_enabled] at hen
      clear hrep1 hm hpm hdd hf hmP hPb
      unfold ptr at hen
      go_wp2_with fail
      refine hen.out.mono ?_
      rintro e w3 ⟨v, rfl, hown, hb3⟩
      obtain ⟨A3, cp3, g3, rfl, hA3⟩ := own_shape hown
      have E3 : Hid (Going a w w1.heap.size (Lof ls) k k64 s F Ts w3) := Lib.hid ⟨E1.out.ful.below (RP.local_ a s) hb3, E1.out.inv, E1.out.len, E1.out.steps, E1.out.own, E1.out.below.trans (hb3.mono E1.out.below.size)⟩
      have E4 : Hid (w1.heap.size ≤ w3.heap.size) := Lib.hid (Nat.le_trans E2.out hb3.size)
      have hcz3 : w3.cell? (ad.add k) = some (.int .u8 z) := (E3.out.below.cell (p := ad.add k) (by rw [block_of_add]; exact hadb)).trans hzc
      have hcP3 : w3.cell? ⟨a.P, 0, none⟩ = some (.pointer (some ⟨a.S, 0, none⟩)) := (hb3.cell (p := ⟨a.P, 0, none⟩) (World.block_lt_of_cell? wr _ hcP)).trans hcP
      have hzi : z < 9223372036854775808 := by omega
      have E3d : Going a w w1.heap.size (Lof ls) k k64 s F Ts w3.drew := ⟨E3.out.ful.below (RP.local_ a s) ⟨rfl, rfl, rfl, Nat.le_refl _, fun _ _ => rfl⟩, E3.out.inv, E3.out.len, E3.out.steps, E3.out.own, E3.out.below.trans ⟨rfl, rfl, rfl, Nat.le_refl _, fun _ _ => rfl⟩⟩
      have hpk := Lib.hid (E3d.pick HA.out E4.out HLR.out HS.out (by omega) z (by omega) (by omega))
      have HOWN := Lib.hid hown
      clear hown hb3 hcz hcP E1 E2 hen E3d
      unfold ptr at hpk
      by_cases hl : (enabledA s).length = 0
      · rw [hl]
        have hpa : pickA (Lof ls) z s = (s, 0, 8) := by unfold pickA; rw [if_pos hl]
        rw [hpa] at hpk
        go_wp2_with fail
        have hwz : IntKind.i64.wrap z = z := by rw [IntKind.wrap_i64]; omega
        clear hlen hl hzi hadb hzc hA3 hk hpa
        refine wp_region_mid 9 (by kernel_rfl) (by kernel_rfl) rfl ?_
        simp only [List.take_succ_cons, List.take_zero]
        repeat still_step
        refine wpStill_nil ?_
        intro K hK
        go_simp
        refine hpk.out.mono ?_
        rintro e w4 ⟨rfl, F4, hgo4, -⟩
        refine hK _ _ ?_
        clear hK K
        repeat still_step
        refine wpStill_nil ?_
        have FIN := Lib.hid hgo4.below
        clear hgo4 hpk
        go_wp2
        go_ret
        exact ⟨rfl, FIN.out⟩
      · have hl0 : ((((enabledA s).length : Nat) : Int) == 0) = false := by rw [beq_eq_false_iff_ne]; omega
        obtain ⟨hnl, t, ht, hmay⟩ := chosenA_lt (i := z) hl
        obtain ⟨x, hx⟩ : ∃ x, chosenA s z = x := ⟨_, rfl⟩
        rw [hx] at hnl ht
        obtain ⟨j, hj⟩ : ∃ j, (z % ((enabledA s).length : Int)).toNat = j := ⟨_, rfl⟩
        have hL0 : 0 < (enabledA s).length := by omega
        have hm1 := Int.emod_lt_of_pos z (b := ((enabledA s).length : Int)) (by omega)
        have hm2 := Int.emod_nonneg z (b := ((enabledA s).length : Int)) (by omega)
        have hje : z % ((enabledA s).length : Int) = (j : Int) := by omega
        have hjl : j < (enabledA s).length := by omega
        have hxj : (enabledA s)[j]? = some x := by
          rw [← hx]
          unfold chosenA
          rw [if_neg (by omega), hj, List.getD_eq_getElem?_getD, List.getElem?_eq_getElem hjl]; rfl
        obtain ⟨rfl, hg3, -⟩ := hA3 hL0
        have hcj : w3.cell? ⟨g3, j, none⟩ = some (.int .i64 (x : Int)) := by
          rw [World.ownsRow.cellAt HOWN.out j (by omega), nums, List.getElem?_map, hxj]; rfl
        have hwish := Lib.hid (show Calls Try.prog 21 #[ptr a.S, .int .i64 (x : Int)] w3 fun e w' => e = .returned (.tuple #[.agg #[.int .i64 t.kind, .int .i64 t.on], .int .i64 0]) ∧ Below w3.heap.size w3 w' from by
          obtain ⟨C', hrep'⟩ := E3.out.ful.rep_
          exact wish_any hrep' (t := tkA a.nm a.cp x t) (by rw [sc_at, ht]; rfl))
        have hwz : IntKind.i64.wrap z = z := by rw [IntKind.wrap_i64]; omega
        obtain ⟨L, hL⟩ : ∃ L, (enabledA s).length = L := ⟨_, rfl⟩
        have HOWN2 := Lib.hid HOWN.out
        rw [hL] at hl0 hje hjl ⊢
        unfold ptr at hwish
        have HLEN : Hid (len ≤ 1000000000) := Lib.hid hlen
        clear hA3 hxj hm1 hm2 hj hL0 hl hlen hadb hzc hzi
        go_wp2_with fail
        refine hwish.out.mono ?_
        rintro e w4 ⟨rfl, hb4⟩
        have E5 : Hid (Going a w w1.heap.size (Lof ls) k k64 s F Ts w4) := Lib.hid ⟨E3.out.ful.below (RP.local_ a s) hb4, E3.out.inv, E3.out.len, E3.out.steps, E3.out.own, E3.out.below.trans (hb4.mono E3.out.below.size)⟩
        have E6 : Hid (w1.heap.size ≤ w4.heap.size) := Lib.hid (Nat.le_trans E4.out hb4.size)
        have hcz4 : w4.cell? (ad.add k) = some (.int .u8 z) := (hb4.cell (p := ad.add k) (World.block_lt_of_cell? w3 _ hcz3)).trans hcz3
        have hcP4 : w4.cell? ⟨a.P, 0, none⟩ = some (.pointer (some ⟨a.S, 0, none⟩)) := (hb4.cell (p := ⟨a.P, 0, none⟩) (World.block_lt_of_cell? w3 _ hcP3)).trans hcP3
        clear hcz3 hcP3 hcj hwish hb4
        have HWHO : Hid ((pickA (Lof ls) z s).2.1 = (x : Int)) := Lib.hid (by rw [pickA_who (by rw [hL]; intro h; simp [h] at hl0), hx])
        have HMAY := Lib.hid hmay
        clear hmay
        by_cases hk1 : t.kind = 1
        · have hkb : (t.kind == 1) = true := beq_iff_eq.mpr hk1
          have HK1 := Lib.hid hk1
          clear hk1
          go_wp2_with fail
          rw [HK1.out]
          have hon : wfi t.on := by
            obtain ⟨C', hrep'⟩ := E5.out.ful.rep_
            exact (hrep'.wf.tk (tkA a.nm a.cp x t) (List.mem_of_getElem? (i := x) (by rw [sc_at, ht]; rfl))).on
          have hlk : s.locks t.on = none := by
            have := HMAY.out
            unfold mayA at this
            rw [if_neg (by rw [HK1.out]; omega), if_pos HK1.out] at this
            simpa using this
          have hho := Lib.hid (show Calls Try.prog 22 #[ptr a.S, .int .i64 t.on] (w4.alloc (.cells #[.int .i64 1, .int .i64 t.on] 31)).drew fun e w' => e = .returned (.tuple #[.int .i64 0, .bool false]) ∧ (w4.alloc (.cells #[.int .i64 1, .int .i64 t.on] 31)).drew = w' from by
            obtain ⟨C', hrep'⟩ := ((E5.out.more (below_new _ _)).more (below_drew _)).ful.rep_
            have := holder_any hrep' t.on hon
            rw [show (sc a false s).locks t.on = none from hlk] at this
            exact this)
          have E7 := Lib.hid ((E5.out.more (below_new _ (.cells #[.int .i64 1, .int .i64 t.on] 31))).more (below_drew _))
          have E8 : Hid (w1.heap.size ≤ (w4.alloc (.cells #[.int .i64 1, .int .i64 t.on] 31)).drew.heap.size) := Lib.hid (Nat.le_trans E6.out (by simp [World.drew]))
          have hcz5 := cell_more (below_drew _) (cell_more (below_new w4 (.cells #[.int .i64 1, .int .i64 t.on] 31)) hcz4)
          have hcP5 := cell_more (below_drew _) (cell_more (below_new w4 (.cells #[.int .i64 1, .int .i64 t.on] 31)) hcP4)
          unfold ptr at hho
          clear hon hlk
          refine wp_region_mid 6 (by kernel_rfl) (by kernel_rfl) rfl ?_
          simp only [List.take_succ_cons, List.take_zero]
          repeat still_step
          refine wpStill_nil ?_
          intro K hK
          go_simp
          refine hho.out.mono ?_
          rintro e w5 ⟨rfl, rfl⟩
          refine hK _ _ ?_
          clear hK K hho
          repeat still_step
          refine wpStill_nil ?_
          have hpk := Lib.hid ((E7.out.more (below_drew _)).pick HA.out E8.out HLR.out HS.out (by have := HLEN.out; omega) z (by omega) (by omega))
          unfold ptr at hpk
          rw [HWHO.out] at hpk
          clear E5 E6 hcz4 hcP4 
          go_wp2_with fail
          refine wp_region_mid 9 (by kernel_rfl) (by kernel_rfl) rfl ?_
          simp only [List.take_succ_cons, List.take_zero]
          repeat still_step
          refine wpStill_nil ?_
          intro K hK
          go_simp
          refine hpk.out.mono ?_
          rintro e w6 ⟨rfl, F6, hgo6, hown6⟩
          refine hK _ _ ?_
          clear hK K
          repeat still_step
          refine wpStill_nil ?_
          obtain ⟨C6, D6, hrep6, ⟨m6, hm6, hpm6⟩, -, -⟩ := id hgo6.ful
          obtain ⟨A6, cp6, -, hPb6⟩ := pm_cells hpm6 hm6
          have hbad : w6.cell? ⟨a.P, 3, none⟩ = some (.bool false) := Blk.cell (t := 41) hPb6 3
          have E9 := Lib.hid hgo6
          have E10 : Hid (w1.heap.size ≤ w6.heap.size) := Lib.hid (Nat.le_trans E8.out hown6.1.size)
          clear hrep6 hm6 hpm6 hPb6 hgo6 hown6 hpk E7 E8
          have hlen := HLEN.out
          go_wp2
          go_roundw
          case rel => exact ⟨k + 1, _, F6, Ts, by have := HLEN.out; go_num, by omega, E9, E10⟩
          case measure => have := HLEN.out; simp [intOf]; omega
        · have hkb : (t.kind == 1) = false := beq_eq_false_iff_ne.mpr hk1
          have HK1 := Lib.hid hk1
          clear hk1
          go_wp2_with fail
          have E7 := Lib.hid (E5.out.more (below_new _ (.cells #[.int .i64 t.kind, .int .i64 t.on] 31)))
          have E8 : Hid (w1.heap.size ≤ (w4.alloc (.cells #[.int .i64 t.kind, .int .i64 t.on] 31)).heap.size) := Lib.hid (Nat.le_trans E6.out (by simp))
          have hcz5 := cell_more (below_new w4 (.cells #[.int .i64 t.kind, .int .i64 t.on] 31)) hcz4
          have hcP5 := cell_more (below_new w4 (.cells #[.int .i64 t.kind, .int .i64 t.on] 31)) hcP4
          have hpk := Lib.hid ((E7.out.more (below_drew _)).pick HA.out E8.out HLR.out HS.out (by have := HLEN.out; omega) z (by omega) (by omega))
          unfold ptr at hpk
          rw [HWHO.out] at hpk
          clear E5 E6 hcz4 hcP4 
          refine wp_region_mid 9 (by kernel_rfl) (by kernel_rfl) rfl ?_
          simp only [List.take_succ_cons, List.take_zero]
          repeat still_step
          refine wpStill_nil ?_
          intro K hK
          go_simp
          refine hpk.out.mono ?_
          rintro e w6 ⟨rfl, F6, hgo6, hown6⟩
          refine hK _ _ ?_
          clear hK K
          repeat still_step
          refine wpStill_nil ?_
          obtain ⟨C6, D6, hrep6, ⟨m6, hm6, hpm6⟩, -, -⟩ := id hgo6.ful
          obtain ⟨A6, cp6, -, hPb6⟩ := pm_cells hpm6 hm6
          have hbad : w6.cell? ⟨a.P, 3, none⟩ = some (.bool false) := Blk.cell (t := 41) hPb6 3
          have E9 := Lib.hid hgo6
          have E10 : Hid (w1.heap.size ≤ w6.heap.size) := Lib.hid (Nat.le_trans E8.out hown6.1.size)
          clear hrep6 hm6 hpm6 hPb6 hgo6 hown6 hpk E7 E8
          have hlen := HLEN.out
          go_wp2
          go_roundw
          case rel => exact ⟨k + 1, _, F6, Ts, by have := HLEN.out; go_num, by omega, E9, E10⟩
          case measure => have := HLEN.out; simp [intOf]; omega
    · go_wp2_with fail
      go_ret
      exact ⟨rfl, E1.out.below⟩
end Go.Proofs.Ytekgdakkkbnpiaa
