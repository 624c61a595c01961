/- A scheduler of no tasks; a further task. No condition. -/
import Derived.Test.YtekgdakkkbnpiaaPick
namespace Go.Proofs.Ytekgdakkkbnpiaa
set_option linter.unusedVariables false
set_option linter.unusedSimpArgs false
open Go Go.RowKit

theorem info72 : (Try.prog.info? 72).map (fun i => (i.zero, i.size, i.bytes)) = some (some (.pointer none), 1, 8) := by kernel_rfl
def sc0 : Sc := { tks := [], locks := fun _ => none, steps := 0, wishes := 0, within := false, cap := 0 }
def spawned (σ : Sc) (nm : ByteArray) (f : Nat) (caps : Array Value) : Sc := { σ with tks := σ.tks ++ [{ name := nm, f := f, caps := caps, kind := 0, on := 0, since := 0, order := 0, failed := false }] }

set_option maxHeartbeats 1000000 in
theorem new_any (w : World) : Calls Try.prog 9 #[] w fun e w' => ∃ S C, e = .returned (ptr S) ∧ Rep C S [] sc0 w' ∧ (∀ k, C k → w.heap.size ≤ k) ∧ Below w.heap.size w w' := by
  have hmm := @run_makeMap Try.prog
  go_enter Try.func9, Try.ntmps9
  go_wp2_with fail
  go_ret
  refine ⟨w.heap.size + 1, fun k => k = w.heap.size ∨ k = w.heap.size + 1, rfl, ?_, fun k hk => by omega, ((Below.refl _ w).alloc (Nat.le_refl _) _).alloc (by simp) _⟩
  refine ⟨⟨.slice none 0 0, w.heap.size, ?_, ⟨rfl, .inl ⟨rfl, rfl⟩⟩, (MapIs.made w).same ?_, .inl rfl, fun k hk => by simp [Value.ownBlock] at hk⟩, rfl, List.nodup_nil, (fun i t T ht => by simp [sc0] at ht), .inr rfl, (fun T hT => by cases hT), ⟨by simp [sc0], fun t ht => by simp [sc0] at ht, fun t ht => by simp [sc0] at ht⟩, fun k hk => by simp; omega⟩
  · have := World.alloc_heap_new (w.alloc (.map #[] 0)) (.cells (scCells (.slice none 0 0) w.heap.size sc0) 71)
    rw [World.size_alloc] at this
    exact this
  · exact Below.heap_alloc _ _ _ (by simp)

theorem spawn_end {F C D : Nat → Prop} {S M n : Nat} {Ts : List Nat} {σ : Sc} {R : (Nat → Prop) → World → Prop} {w w1 : World} {v v1 : Value} (hR : Local R) (hrep : Rep C S Ts σ w) (hr : R D w) (hd : ∀ k, C k → ¬ D k) (hf : ∀ k, F k ↔ C k ∨ D k)
    (nm : ByteArray) (f : Nat) (caps : Array Value) (he : ∀ args w, (callFunc f args).run Try.prog w = .ok (.enter f args) w) (hlt : σ.tks.length < 64)
    (g1 : w.heap[S]? = some (.cells (scCells v M σ) 71 (0, 0))) (g2 : w.ownsRow 0 72 1 v Ts.length (Ts.map ptr)) (hn : n = Ts.length + 1)
    (hs1 : w1.heap[S]? = some (.cells (scCells v M σ) 71 (0, 0))) (how : w1.ownsRow 0 72 1 v1 n (Ts.map ptr ++ [ptr w.heap.size]))
    (o : Obj) (hg : ((w.alloc (.cells (tkCells { name := nm, f := f, caps := caps, kind := 0, on := 0, since := 0, order := 0, failed := false }) 74)).alloc o).grownBy w1 v.ownBlock) (hat : v1.ownBlock = v.ownBlock ∨ v1.ownBlock = some (w.heap.size + 2)) :
    ∃ F', (∃ T, Full F' S (Ts ++ [T]) (spawned σ nm f caps) R (w1.setCell ⟨S, 0, none⟩ v1)) ∧ Owned F w F' (w1.setCell ⟨S, 0, none⟩ v1) := by
  obtain ⟨⟨tv, M', h1, h2, h3, h8, h9⟩, h4, h5, h6, h7, h10, hw, hs⟩ := id hrep
  obtain ⟨rfl, rfl⟩ : tv = v ∧ M' = M := by
    have := Option.some.inj (h1.symm.trans g1)
    simp [scCells] at this
    exact this
  have hz : w.heap.size + 2 ≤ w1.heap.size := by have := hg.size; simpa using this
  have hSl := hs S h7
  have hv : ∀ k, tv.ownBlock = some k → k < w.heap.size ∧ k ≠ S := fun k hk => ⟨hs k (h9 k hk), fun e => own_blk_ne h2 (t := 71) (cs := scCells tv M' σ) g1 (by decide) (by rw [hk, e])⟩
  have hv1 : ∀ k, v1.ownBlock = some k → (tv.ownBlock = some k ∨ k = w.heap.size + 2) := fun k hk => by
    rcases hat with h | h
    · exact .inl (h ▸ hk)
    · right; rw [h] at hk; injection hk with hk; exact hk.symm
  have old : ∀ k, k < w.heap.size → tv.ownBlock ≠ some k → k ≠ S → (w1.setCell ⟨S, 0, none⟩ v1).heap[k]? = w.heap[k]? := fun k hk h hS =>
    (Below.heap_setCell _ _ _ _ hS).trans ((hg.block k (by simp; omega) (Ne.symm h)).trans ((Below.heap_alloc _ _ _ (by simp; omega)).trans (Below.heap_alloc _ _ _ hk)))
  have row : ∀ k, tv.ownBlock = some k → ∃ cs, w.heap[k]? = some (.cells cs 72 (0, 0)) := fun k hk => by
    rcases h2.2 with ⟨rfl, h0⟩ | ⟨g, cap, cur, rfl, hb, hh, hr⟩
    · simp [Value.ownBlock] at hk
    · obtain rfl : g = k := by simpa [Value.ownBlock] using hk
      exact ⟨_, hh⟩
  have hchg : Chg F w (w1.setCell ⟨S, 0, none⟩ v1) := by
    have hFS : F S := (hf S).2 (.inl h7)
    have c1 : Chg F w w1 := ⟨hg.os, hg.tape, hg.output, by omega, fun k hk hF => (hg.block k (by simp; omega) (fun e => hF ((hf k).2 (.inl (h9 k e.symm))))).trans ((Below.heap_alloc _ _ _ (by simp; omega)).trans (Below.heap_alloc _ _ _ hk))⟩
    exact c1.setCell (p := ⟨S, 0, none⟩) (.inl hFS) _
  have hMS : M' ≠ S := by
    obtain ⟨D, ⟨es, clock, hb, _⟩, _⟩ := h3
    intro e; subst e; rw [h1] at hb; cases hb
  have hMv : tv.ownBlock ≠ some M' := fun e => by
    obtain ⟨cs, hcs⟩ := row M' e
    obtain ⟨D, ⟨es, clock, hb, _⟩, _⟩ := h3
    rw [hb] at hcs; cases hcs
  refine ⟨fun k => (C k ∨ k = w.heap.size ∨ v1.ownBlock = some k) ∨ D k, ⟨w.heap.size, fun k => C k ∨ k = w.heap.size ∨ v1.ownBlock = some k, D, ?_, ?_, ?_, fun k => Iff.rfl⟩, hchg, ?_⟩
  · refine ⟨⟨v1, M', Blk.set_ (t := 71) hs1 0 v1, ?_, h3.same (old M' (hs M' h8) hMv hMS), .inl h8, fun k hk => .inr (.inr hk)⟩, ?_, ?_, ?_, .inl h7, ?_, ?_, ?_⟩
    · have e1 : (Ts ++ [w.heap.size]).length = n := by rw [hn]; simp
      rw [e1, List.map_append]
      exact own_keep how (fun k hk => Below.heap_setCell _ _ _ _ (by rcases hv1 k hk with h | h; exact (hv k h).2; simp; omega))
    · simp [spawned, h4]
    · rw [List.nodup_append]
      refine ⟨h5, by simp, fun a ha b hb => ?_⟩
      simp at hb; subst hb
      exact Nat.ne_of_lt (hs a (h10 a ha))
    · intro i t T ht hT
      by_cases hi : i < Ts.length
      · have ht' : σ.tks[i]? = some t := by
          rw [spawned, List.getElem?_append_left (by omega)] at ht; exact ht
        have hT' : Ts[i]? = some T := by rw [List.getElem?_append_left hi] at hT; exact hT
        have hb := h6 i t T ht' hT'
        refine (old T (hs T (h10 T (List.mem_of_getElem? hT'))) (fun e => ?_) (fun e => ?_)).trans hb
        · obtain ⟨cs, hcs⟩ := row T e
          rw [hb] at hcs; injection hcs with hcs; injection hcs with _ hcs; simp at hcs
        · subst e; rw [g1] at hb; injection hb with hcs; injection hcs with _ hcs; simp at hcs
      · have hi' : i = Ts.length := by
          have := (List.getElem?_eq_some_iff.1 hT).1; simp at this; omega
        subst hi'
        have eT : T = w.heap.size := by simp at hT; exact hT.symm
        subst eT
        have et : t = { name := nm, f := f, caps := caps, kind := 0, on := 0, since := 0, order := 0, failed := false } := by
          rw [spawned, h4] at ht; simp at ht; exact ht.symm
        subst et
        refine (Below.heap_setCell _ _ _ _ (by simp; omega)).trans ((hg.block _ (by simp; omega) (fun e => ?_)).trans ((Below.heap_alloc _ _ _ (by simp)).trans (World.alloc_heap_new w _)))
        have := (hv _ e.symm).1; omega
    · intro T hT
      rcases List.mem_append.1 hT with h | h
      · exact .inl (h10 T h)
      · simp at h; exact .inr (.inl h)
    · refine ⟨by simp [spawned]; omega, fun t ht => ?_, fun t ht => ?_⟩
      · simp [spawned] at ht
        rcases ht with h | rfl
        · exact hw.tk t h
        · exact ⟨wfi_nat 0 (by omega), he⟩
      · simp [spawned] at ht
        rcases ht with h | rfl
        · exact hw.since t h
        · exact ⟨Nat.zero_le _, Nat.zero_le _⟩
    · intro k hk
      have h2z : (w1.setCell ⟨S, 0, none⟩ v1).heap.size = w1.heap.size := by simp [World.setCell]
      rw [h2z]
      rcases hk with h | rfl | h
      · have := hs k h; omega
      · omega
      · exact (how.lt k h).2
  · exact hR.chg D _ w _ hr (Chg.mono (D := fun k => C k) ⟨hchg.os, hchg.tape, hchg.output, hchg.size, fun k hk hC => old k hk (fun e => hC (h9 k e)) (fun e => hC (e ▸ h7))⟩ (fun k h => h)) (fun k hk hC => hd k hC hk)
  · intro k hk hD
    have := hR.size D w hr k hD
    rcases hk with h | rfl | h
    · exact hd k h hD
    · omega
    · rcases hv1 k h with h | h
      · exact hd k (h9 k h) hD
      · omega
  · intro k hk
    rcases hk with (h | rfl | h) | h
    · exact .inl ((hf k).2 (.inl h))
    · exact .inr (Nat.le_refl _)
    · rcases hv1 k h with h | h
      · exact .inl ((hf k).2 (.inl (h9 k h)))
      · right; omega
    · exact .inl ((hf k).2 (.inr h))

set_option maxRecDepth 100000 in
set_option maxHeartbeats 4000000 in
theorem spawn_any {F : Nat → Prop} {S : Nat} {Ts : List Nat} {σ : Sc} {R : (Nat → Prop) → World → Prop} {w : World} (hR : Local R) (h : Full F S Ts σ R w) (nm : ByteArray) (f : Nat) (caps : Array Value)
    (he : ∀ args w, (callFunc f args).run Try.prog w = .ok (.enter f args) w) (hlt : σ.tks.length < 64) :
    Calls Try.prog 10 #[ptr S, .string nm, .func (.func f) #[] caps] w fun e w' => e = .returned (.tuple #[.int .i64 (σ.tks.length : Int), .int .i64 0]) ∧
      ∃ F' T, Full F' S (Ts ++ [T]) (spawned σ nm f caps) R w' ∧ Owned F w F' w' := by
  obtain ⟨C, D, hrep, hr, hd, hf⟩ := id h
  have hFs : ∀ k, F k → k < w.heap.size := Full.size hR h
  obtain ⟨⟨tv, M, g1, g2, g3, g8, g9⟩, g4, g5, g6, g7, g10, gw, gs⟩ := id hrep
  obtain ⟨i0, hi0, hz0, hz1, hz2⟩ := info_parts info72
  obtain ⟨s0, s1, s2, s3, s4, sf⟩ := sc_cell g1
  obtain ⟨A, cp, g, rfl, hA⟩ := own_shape g2
  have hSl : S < w.heap.size := gs S g7
  have e64 : decide (64 ≤ (Ts.length : Int)) = false := by rw [g4]; simp; omega
  have hgt : (64 : Int) > Ts.length := by rw [g4]; omega
  have hSne : ∀ k, (Value.slice A Ts.length cp).ownBlock = some k → k ≠ S := fun k hk e => own_blk_ne g2 (t := 71) (cs := scCells (.slice A Ts.length cp) M σ) g1 (by decide) (by rw [hk, e])
  have HNE := Lib.hid hSne
  have G1 := Lib.hid g1
  have G2 := Lib.hid g2
  have G4 := Lib.hid g4
  have G9 := Lib.hid g9
  have HREP := Lib.hid hrep
  have HR := Lib.hid hr
  have HD := Lib.hid hd
  have HF := Lib.hid hf
  have hle : Ts.length < 64 := by omega
  have hnf : ∀ w, (binOp .eql 32 (.func (.func f) #[] caps) .nilFunc).run Try.prog w = .ok (.bool false) w := fun w => by kernel_rfl
  clear g1 g2 g3 g4 g5 g6 g9 g10 gw hrep hr hd hf h s1 s2 s3 s4 hSne
  have HE := Lib.hid he
  clear he
  unfold ptr
  go_enter Try.func10, Try.ntmps10
  go_wp2_with (at_builtin; refine wpList_append_own_at _ rfl (.tmp 20) (.tmp 25) 69 rfl 0 72 i0 (.pointer none) 1 8 Try.underlying69 hi0 hz0 hz1 hz2 rfl (by decide) (.slice A Ts.length cp) _ _ rfl ((G2.out.alloc _).alloc _) ⟨_, 0, none⟩ 1 1 [ptr w.heap.size] rfl rfl (by have := cell_one_new (w.alloc (.cells #[.string nm, .func (.func f) #[] caps, .int .i64 0, .int .i64 0, .int .i64 0, .int .i64 0, .bool false] 74)) (ptr w.heap.size) 72; rw [World.size_alloc] at this; exact this) (by simp [Value.oneCell', ptr]) (by unfold maxLen; omega) (by omega) (by simp) ?_; intro v1 w1 hown1 hg1 hnil1 hat1; clear s0 sf; obtain ⟨A1, cp1, g1, rfl, hA1⟩ := own_shape hown1; obtain ⟨rfl, hgl1, _⟩ := hA1 (by omega); have hS1 : w1.heap[S]? = some (.cells (scCells (.slice A Ts.length cp) M σ) 71 (0, 0)) := (hg1.block S (by simp; omega) (fun e => HNE.out S e.symm rfl)).trans ((Below.heap_alloc _ _ _ (by simp; omega)).trans ((Below.heap_alloc _ _ _ hSl).trans G1.out)); obtain ⟨s0, -, -, -, -, sf⟩ := sc_cell hS1; have HS1 := Lib.hid hS1; have HOW := Lib.hid hown1; have HG1 := Lib.hid hg1; have HAT := Lib.hid hat1; clear hS1 hown1 hg1 hnil1 hat1)
  clear s0 sf hA1
  go_ret2
  refine ⟨by rw [← G4.out]; rfl, ?_⟩
  obtain ⟨F', ⟨T, hT⟩, hO⟩ := spawn_end hR HREP.out HR.out HD.out HF.out nm f caps HE.out hlt G1.out G2.out rfl HS1.out HOW.out _ HG1.out (by have := HAT.out; simpa using this)
  exact ⟨F', ⟨T, hT⟩, hO⟩
end Go.Proofs.Ytekgdakkkbnpiaa
