/- What a step does, one by one, and tells. No condition. -/
import Derived.Test.YtekgdakkkbnpiaaPair
import Derived.Deep.AppendLies
import Derived.Deep.RegionLaw
namespace Go.Proofs.Ytekgdakkkbnpiaa
set_option linter.unusedVariables false
set_option linter.unusedSimpArgs false
open Go Go.RowKit

section
variable {a : Adr} {s s' : AS} {m : Nat → Option Obj} {D : Nat → Prop} {w : World}
theorem PM.same (h : PM a s m) (e1 : s'.told = s.told) (e2 : ∀ i : Nat, (s'.ts[i]?).map AT.at_ = (s.ts[i]?).map AT.at_) : PM a s' m := by
  have hl : ∀ i, i < s'.ts.length → i < s.ts.length := fun i hi => by
    have := e2 i
    rw [List.getElem?_eq_getElem hi] at this
    cases hs : s.ts[i]? with
    | none => rw [hs] at this; cases this
    | some t => exact (List.getElem?_eq_some_iff.1 hs).1
  refine ⟨h.base, by obtain ⟨tv, h1, h2⟩ := h.pair; exact ⟨tv, h1, by rw [e1]; exact h2⟩, fun i t ht => ?_, h.tgP, fun i hi => h.tgT i (hl i hi), h.tgIn⟩
  have := e2 i
  rw [ht] at this
  cases hs : s.ts[i]? with
  | none => rw [hs] at this; cases this
  | some u =>
    rw [hs] at this
    have e3 : t.at_ = u.at_ := by simpa using this
    rw [e3]; exact h.task i u hs
theorem modT_at (s : AS) (n : Nat) (f : AT → AT) (hf : ∀ t, (f t).at_ = t.at_) (i : Nat) : ((modT s n f).ts[i]?).map AT.at_ = (s.ts[i]?).map AT.at_ := by
  show ((s.ts.modify n f)[i]?).map _ = _
  rw [List.getElem?_modify]
  cases s.ts[i]? with
  | none => rfl
  | some t => by_cases e : n = i <;> simp [hf, e]
theorem PM.bump (h : PM a s m) {n : Nat} {t : AT} (ht : s.ts[n]? = some t) : PM a (modT s n bumpT) (mset m (a.A n) (oI ((t.at_ + 1 : Nat) : Int))) := by
  have hn := (List.getElem?_eq_some_iff.1 ht).1
  obtain ⟨q1, q2, q3, q4⟩ := h.tgT n hn
  have hb := (h.tgIn (a.A n) (by omega)).1
  have hat := fun i => (show ((modT s n bumpT).ts[i]?) = (if n = i then bumpT else id) <$> s.ts[i]? from by show (s.ts.modify n bumpT)[i]? = _; rw [List.getElem?_modify]; by_cases e : n = i <;> simp [e])
  have hlen : (modT s n bumpT).ts.length = s.ts.length := by simp [modT]
  have oth : ∀ k, a.tg k ≠ 4 * n + 2 → mset m (a.A n) (oI ((t.at_ + 1 : Nat) : Int)) k = m k := fun k hk => mset_other _ _ (fun e => hk (by rw [e]; exact q1))
  refine ⟨fun k hk => ?_, ?_, fun i u hu => ?_, h.tgP, fun i hi => h.tgT i (by rw [hlen] at hi; exact hi), fun k hk => ⟨(h.tgIn k hk).1, ?_⟩⟩
  · rw [mset_other _ _ (by omega)]; exact h.base k hk
  · obtain ⟨tv, h1, h2⟩ := h.pair
    refine ⟨tv, (oth _ (by rw [h.tgP]; omega)).trans h1, ?_⟩
    rcases h2 with h2 | ⟨g, cap, cur, e1, e2, e3, e4, e5⟩
    · exact .inl h2
    · exact .inr ⟨g, cap, cur, e1, e2, e3, (oth g (by rw [e2]; omega)).trans e4, e5⟩
  · rw [hat i] at hu
    cases hs : s.ts[i]? with
    | none => rw [hs] at hu; cases hu
    | some t' =>
      rw [hs] at hu
      have hu' : u = (if n = i then bumpT else id) t' := (Option.some.inj hu).symm
      obtain ⟨p1, p2, p3, p4⟩ := h.task i t' hs
      obtain ⟨r1, r2, r3, r4⟩ := h.tgT i (List.getElem?_eq_some_iff.1 hs).1
      refine ⟨?_, (oth _ (by omega)).trans p2, (oth _ (by omega)).trans p3, (oth _ (by omega)).trans p4⟩
      by_cases e : n = i
      · subst e
        obtain rfl : t' = t := Option.some.inj (hs.symm.trans ht)
        rw [if_pos rfl] at hu'
        subst hu'
        exact mset_same _ _ _
      · rw [if_neg e] at hu'
        subst hu'
        exact (oth _ (by omega)).trans p1
  · by_cases e : k = a.A n
    · rw [e, mset_same]; rfl
    · rw [mset_other _ _ e]; exact (h.tgIn k hk).2

theorem sc_at (b : Bool) (s : AS) (i : Nat) : (sc a b s).tks[i]? = (s.ts[i]?).map (tkA a.nm a.cp i) := scA_at i
theorem sc_isP (b : Bool) (s : AS) (n : Nat) : isP (sc a b s) (n : Int) = decide (n < s.ts.length) := by
  have : (sc a b s).tks.length = s.ts.length := scA_length
  unfold isP; rw [this]; simp
theorem sc_unlockE (b : Bool) (s : AS) (n : Nat) (k : Int) : unlockE (sc a b s) (n : Int) k = unlockEA s n k := by
  unfold unlockE unlockEA
  rw [sc_isP]
  by_cases h : n < s.ts.length
  · rw [if_neg (by rw [decide_eq_true h]; simp), if_neg (show ¬ s.ts.length ≤ n by omega)]; rfl
  · rw [if_pos (by rw [decide_eq_false h]), if_pos (show s.ts.length ≤ n by omega)]
theorem sc_unlockP (b : Bool) (s : AS) (n : Nat) (k : Int) : unlockP (sc a b s) (n : Int) k = sc a b (unlockA s n k) := by
  unfold unlockP unlockA
  rw [sc_isP]
  by_cases h : n < s.ts.length ∧ s.locks k = some (n : Int)
  · rw [if_pos h, if_pos (by refine ⟨?_, h.2⟩; simp; exact h.1)]; rfl
  · rw [if_neg h, if_neg (fun h2 => h ⟨by simpa using h2.1, h2.2⟩)]
end
def errOk (e : Int) : Prop := 0 ≤ e ∧ e < 100

/-- What was told is told: all of it stands. -/
theorem full_tell {a : Adr} {s : AS} {b : Bool} {F : Nat → Prop} {S : Nat} {Ts : List Nat} {w w1 : World} {tv tv' : Value} (h : Full F S Ts (sc a b s) (RP a s) w) (hP : w.heap[a.P]? = some (.cells (pairCells a tv) 41 (0, 0))) (v : Int)
    (hg : w.grownBy w1 tv.ownBlock) (how : w1.ownsRow 0 3 1 tv' (s.told.length + 1) (s.told.map (Value.int .i64) ++ [.int .i64 v])) (hat : tv'.ownBlock = tv.ownBlock ∨ ∃ z, w.heap.size ≤ z ∧ tv'.ownBlock = some z) (hw0 : a.w0.heap.size ≤ w.heap.size) :
    ∃ F', Full F' S Ts (sc a b (tellA s v)) (RP a (tellA s v)) (w1.setCell ⟨a.P, 2, none⟩ tv') ∧ Owned F w F' (w1.setCell ⟨a.P, 2, none⟩ tv') := by
  obtain ⟨C, D, hrep, ⟨m, hm, hpm⟩, hd, hf⟩ := h
  obtain ⟨m', D', g1, g2, g3, g4⟩ := hpm.tell hm hP v hg how hat hw0
  refine ⟨fun k => C k ∨ D' k, ⟨C, D', hrep.chg g3 (fun k hk hD => hd k hk hD), ⟨m', g1, g2⟩, fun k hk hD' => ?_, fun k => Iff.rfl⟩, g3.mono (fun k hk => (hf k).2 (.inr hk)), fun k hk => ?_⟩
  · rcases g4 k hD' with h | h
    · exact hd k hk h
    · have := hrep.size k hk; omega
  · rcases hk with h | h
    · exact .inl ((hf k).2 (.inl h))
    · rcases g4 k h with h2 | h2
      · exact .inl ((hf k).2 (.inr h2))
      · exact .inr h2

theorem full_row {a : Adr} {s : AS} {F : Nat → Prop} {S : Nat} {Ts : List Nat} {σ : Sc} {m : Nat → Option Obj} {w : World} {tv : Value} (h : Full F S Ts σ (Has m) w) (hp : PM a s m) (hP : m a.P = some (.cells (pairCells a tv) 41 (0, 0))) :
    w.ownsRow 0 3 1 tv s.told.length (s.told.map (Value.int .i64)) := by
  obtain ⟨C, D, hrep, hm, hd, hf⟩ := h
  obtain ⟨tv', h1, h2, h3⟩ := hp.own hm
  have : tv' = tv := by
    have := Option.some.inj (h1.symm.trans (hm.2 _ _ hP))
    simp [pairCells] at this; exact this
  rw [← this]; exact h2
theorem full_forget {a : Adr} {s : AS} {F : Nat → Prop} {S : Nat} {Ts : List Nat} {σ : Sc} {m : Nat → Option Obj} {w : World} (h : Full F S Ts σ (Has m) w) (hp : PM a s m) : Full F S Ts σ (RP a s) w := by
  obtain ⟨C, D, hrep, hm, hd, hf⟩ := h
  exact ⟨C, D, hrep, ⟨m, hm, hp⟩, hd, hf⟩
theorem told_kept {a : Adr} {s : AS} {F : Nat → Prop} {S : Nat} {Ts : List Nat} {σ : Sc} {m : Nat → Option Obj} {w : World} {tv : Value} (h : Full F S Ts σ (Has m) w) (hp : PM a s m) (hP : m a.P = some (.cells (pairCells a tv) 41 (0, 0))) (o : Obj) :
    (∀ w1, (w.alloc o).grownBy w1 tv.ownBlock → w1.cell? ⟨a.P, 2, none⟩ = some tv) ∧ ∀ w1, (w.alloc o).grownBy w1 tv.ownBlock → w1.frozen? ⟨a.P, 2, none⟩ = false := by
  obtain ⟨C, D, hrep, hm, hd, hf⟩ := h
  obtain ⟨tv', h1, h2, h3⟩ := hp.own hm
  have : tv' = tv := by
    have := Option.some.inj (h1.symm.trans (hm.2 _ _ hP))
    simp [pairCells] at this; exact this
  subst this
  have hl : a.P < w.heap.size := (Array.getElem?_eq_some_iff.1 h1).1
  have key : ∀ w1, (w.alloc o).grownBy w1 tv'.ownBlock → w1.heap[a.P]? = some (.cells (pairCells a tv') 41 (0, 0)) := fun w1 hg =>
    (hg.block a.P (by simp; omega) (fun e => by have := (h3 a.P e.symm).2.1; rw [hp.tgP] at this; omega)).trans ((Below.heap_alloc _ _ _ hl).trans h1)
  exact ⟨fun w1 hg => Blk.cell (t := 41) (key w1 hg) 2, fun w1 hg => Blk.frozen (t := 41) (key w1 hg) 2⟩
theorem reads_one (w : World) (v : Value) (t : TypeId) : Reads (w.alloc (.cells #[v] t)) (w.heap.size + 1) 1 (some ⟨w.heap.size, 0, none⟩) 1 [v] := by
  refine ⟨rfl, fun _ => ⟨_, rfl, Nat.lt_succ_self _, fun j u hu => ?_⟩⟩
  exact cell_one_new w v t j u hu

theorem unlockA_told (s : AS) (n : Nat) (o : Int) : (unlockA s n o).told = s.told := by unfold unlockA; split <;> rfl
theorem unlockA_ts (s : AS) (n : Nat) (o : Int) : (unlockA s n o).ts = s.ts := by unfold unlockA; split <;> rfl
/-- Behind a call and what it told. -/
theorem acts_end {a : Adr} {s s2 : AS} {b : Bool} {F : Nat → Prop} {Ts : List Nat} {m : Nat → Option Obj} {w W w2 w3 : World} {tv tv' : Value} {v : Int} {o : Obj} (hF : ∀ k, F k → k < w.heap.size) (hB : Below w.heap.size w W) (hpm : PM a s m) (hP : m a.P = some (.cells (pairCells a tv) 41 (0, 0)))
    (e1 : s2.told = s.told) (e2 : ∀ i : Nat, (s2.ts[i]?).map AT.at_ = (s.ts[i]?).map AT.at_) (hful : Full F a.S Ts (sc a b s2) (Has m) w2) (hown : Owned F W.drew F w2)
    (hg : (w2.alloc o).grownBy w3 tv.ownBlock) (how : w3.ownsRow 0 3 1 tv' (s.told.length + 1) (s.told.map (Value.int .i64) ++ [.int .i64 v])) (hat : tv'.ownBlock = tv.ownBlock ∨ tv'.ownBlock = some (w2.alloc o).heap.size) (hw0 : a.w0.heap.size ≤ w.heap.size) :
    ∃ F', Full F' a.S Ts (sc a b (tellA s2 v)) (RP a (tellA s2 v)) (w3.setCell ⟨a.P, 2, none⟩ tv') ∧ Owned F w F' (w3.setCell ⟨a.P, 2, none⟩ tv') := by
  have hb2 : Below w2.heap.size w2 (w2.alloc o) := (Below.refl _ w2).alloc (Nat.le_refl _) o
  have hf2 := hful.below (Has.local_ m) hb2
  have hz : w.heap.size ≤ w2.heap.size := Nat.le_trans hB.size hown.1.size
  have hpm2 := hpm.same e1 e2
  obtain ⟨F', g1, g2⟩ := full_tell (full_forget hf2 hpm2) (full_known hf2 hP) v hg (by rw [e1]; exact how) (by
    rcases hat with h | h
    · exact .inl h
    · exact .inr ⟨_, Nat.le_refl _, h⟩) (by simp; omega)
  refine ⟨F', g1, Owned.trans (Owned.trans (Owned.trans (Owned.below hB) ?_) hown) (Owned.trans (Owned.below hb2) g2)⟩
  exact ⟨⟨rfl, rfl, rfl, Nat.le_refl _, fun _ _ _ => rfl⟩, fun _ h => .inl h⟩

set_option maxRecDepth 100000 in
set_option maxHeartbeats 4000000 in
theorem acts_unlock {a : Adr} {s : AS} {b : Bool} {F : Nat → Prop} {Ts : List Nat} {w : World} (h : Full F a.S Ts (sc a b s) (RP a s) w) (n : Nat) (o : Int) (ho : wfi o) (hw0 : a.w0.heap.size ≤ w.heap.size) (htl : s.told.length < 1000000000) :
    Calls Try.prog 57 #[ptr a.P, .int .i64 (n : Int), .agg #[.int .i64 0, .int .i64 o]] w fun e w' => e = .returned (.tuple #[]) ∧
      ∃ F', Full F' a.S Ts (sc a b (tellA (unlockA s n o) (unlockEA s n o))) (RP a (tellA (unlockA s n o) (unlockEA s n o))) w' ∧ Owned F w F' w' := by
  obtain ⟨i0, hi0, hz0, hz1, hz2⟩ := info_parts info3
  obtain ⟨C, D, hrep, ⟨m, hm, hpm⟩, hd, hf⟩ := h
  have hF : Full F a.S Ts (sc a b s) (Has m) w := ⟨C, D, hrep, hm, hd, hf⟩
  have hsz := Full.size (Has.local_ m) hF
  obtain ⟨tv, hP, hrow, hrb⟩ := hpm.own hm
  have hmP : m a.P = some (.cells (pairCells a tv) 41 (0, 0)) := by
    obtain ⟨tv', h1, -⟩ := hpm.pair
    rw [h1]
    have := (hm.2 _ _ h1).symm.trans hP
    exact congrArg _ (Option.some.inj this)
  have hPl : a.P < w.heap.size := (Array.getElem?_eq_some_iff.1 hP).1
  -- behind the box
  have hun : ∀ W, Below w.heap.size w W → Calls Try.prog 40 #[ptr a.S, .int .i64 (n : Int), .int .i64 o] W fun e w' => e = .returned (.int .i64 (unlockEA s n o)) ∧ Full F a.S Ts (sc a b (unlockA s n o)) (Has m) w' ∧ Owned F W F w' := fun W hb => by
    have := unlock_any (Has.local_ m) (hF.below (Has.local_ m) hb) (n : Int) o ho
    rw [sc_unlockE, sc_unlockP] at this; exact this
  have HUN := Lib.hid hun
  have HM := Lib.hid hmP
  have HF := Lib.hid hF
  have HPM := Lib.hid hpm
  have cP0 : ∀ ob, (w.alloc ob).cell? ⟨a.P, 0, none⟩ = some (ptr a.S) := fun ob => (World.cell?_alloc_lt w ob ⟨a.P, 0, none⟩ hPl).trans (Blk.cell (t := 41) hP 0)
  have cP2 : ∀ ob, (w.alloc ob).cell? ⟨a.P, 2, none⟩ = some tv := fun ob => (World.cell?_alloc_lt w ob ⟨a.P, 2, none⟩ hPl).trans (Blk.cell (t := 41) hP 2)
  obtain ⟨A, cp, g, rfl, -⟩ := own_shape hrow
  clear hrep hm hpm hd hf hP hrow hrb hun hF hmP
  unfold ptr at *
  go_enter Try.func57, Try.ntmps57
  go_wp2_with fail
  obtain ⟨W, hW⟩ : ∃ W, w.alloc (.cells #[.int .i64 0, .int .i64 o] 50) = W := ⟨_, rfl⟩
  have hWb : W.heap[w.heap.size]? = some (.cells #[.int .i64 0, .int .i64 o] 50 (0, 0)) := by rw [← hW]; exact World.alloc_heap_new w _
  have hB : Below w.heap.size w W := by rw [← hW]; exact (Below.refl _ w).alloc (Nat.le_refl _) _
  have c0 : W.cell? ⟨a.P, 0, none⟩ = some (.pointer (some ⟨a.S, 0, none⟩)) := by rw [← hW]; exact cP0 _
  have c2 : W.cell? ⟨a.P, 2, none⟩ = some (.slice A s.told.length cp) := by rw [← hW]; exact cP2 _
  have cb := Blk.cell (t := 50) hWb 1
  simp only [List.getElem?_toArray, List.getElem?_cons_zero, List.getElem?_cons_succ] at cb
  have hWl : w.heap.size < W.heap.size := (Array.getElem?_eq_some_iff.1 hWb).1
  rw [hW]
  have HB := Lib.hid hB
  have HWB := Lib.hid hWb
  clear hW cP0 cP2 hB hWb
  have H63 := Lib.hid htl
  have HU2 := Lib.hid (HUN.out W.drew (HB.out.trans ⟨rfl, rfl, rfl, Nat.le_refl _, fun _ _ => rfl⟩))
  clear HUN
  go_region_law (first
    | (refine step_append_any _ rfl (.tmp 17) (.tmp 26) 26 rfl 0 3 i0 (.int .i64 0) 1 8 Try.underlying26 hi0 hz0 hz1 hz2 rfl (by decide) (.slice A s.told.length cp) s.told.length (s.told.map (Value.int .i64)) (by simp [Act.eval, Act.put]) (ROW2.out.alloc _) (w2.heap.size + 1) (some ⟨w2.heap.size, 0, none⟩) 1 1 [.int .i64 (unlockEA s n o)] (by simp [Act.eval, Act.put]) (reads_one _ _ _) (by simp [Value.oneCell']) (by unfold maxLen; omega) (by omega) (by simp) ?_; intro v3 w3 hown3 hg3 hat3; obtain ⟨A3, cp3, g3, rfl, -⟩ := own_shape hown3; have f2 : w3.cell? ⟨a.P, 2, none⟩ = some (.slice A s.told.length cp) := (OWN3.out.1 w3 hg3); have f3 := OWN3.out.2 w3 hg3; have OW3 := Lib.hid hown3; have G3 := Lib.hid hg3; have AT3 := Lib.hid hat3; clear hown3 hg3 hat3)
    | (go_simp; go_at_call 40; refine HU2.out.mono ?_; rintro e w2 ⟨rfl, hful2, hown2⟩; have d2 : w2.cell? ⟨a.P, 2, none⟩ = some (.slice A s.told.length cp) := Blk.cell (t := 41) (full_known hful2 HM.out) 2; have d3 : ∀ ob, (w2.alloc ob).cell? ⟨a.P, 2, none⟩ = some (.slice A s.told.length cp) := fun ob => (World.cell?_alloc_lt w2 ob ⟨a.P, 2, none⟩ ((Array.getElem?_eq_some_iff.1 (full_known hful2 HM.out)).1)).trans d2; have ROW2 := Lib.hid (full_row hful2 HPM.out HM.out); have OWN3 := Lib.hid (told_kept hful2 HPM.out HM.out (.cells #[.int .i64 (unlockEA s n o)] 3)); have FUL2 := Lib.hid hful2; have OWN2 := Lib.hid hown2; clear hful2 hown2))
  all_goals (go_wp2; go_end0; exact ⟨rfl, acts_end hsz HB.out HPM.out HM.out (unlockA_told s n o) (fun i => by rw [unlockA_ts]) FUL2.out OWN2.out G3.out OW3.out AT3.out hw0⟩)
end Go.Proofs.Ytekgdakkkbnpiaa
