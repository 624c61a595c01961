/- lives: two tasks that take two locks crosswise are dead. No condition. -/
import Derived.Test.YtekgdakkkbnpiaaMem
namespace Go.Proofs.Ytekgdakkkbnpiaa
set_option linter.unusedVariables false
set_option linter.unusedSimpArgs false
open Go Go.RowKit

def cI (a : Int) : Obj := .cells #[.int .i64 a] 3 (0, 0)
theorem enters27 : ∀ args w, (callFunc 27 args).run Try.prog w = .ok (.enter 27 args) w := Go.Proofs.enters_of Try.func27 (by kernel_rfl) rfl

set_option maxRecDepth 100000 in
set_option maxHeartbeats 1000000 in
theorem step27 {F : Nat → Prop} {S : Nat} {Ts : List Nat} {σ : Sc} {m : Nat → Option Obj} {W : World} {A B : Nat} {a f : Int} (h : Full F S Ts σ (Has m) W) (hA : m A = some (cI a)) (hB : m B = some (cI f)) (hAB : B ≠ A) (ha : 0 ≤ a) (ha2 : a < 1000) (hf : 0 ≤ f) (hf2 : f < 1000) :
    Calls Try.prog 27 #[ptr A, ptr B] W fun e W' => e = .returned (.agg #[.int .i64 1, .int .i64 ((f + (a + 1)) % 2)]) ∧ ∃ F', Full F' S Ts σ (Has (mset m A (cI (a + 1)))) W' ∧ Owned F W F' W' := by
  have hbA := full_known h hA
  have hbB := full_known h hB
  have hcA := Blk.cell (t := 3) hbA 0
  have hcB := Blk.cell (t := 3) hbB 0
  have hfA := Blk.frozen (t := 3) hbA 0
  simp only [List.getElem?_toArray, List.getElem?_cons_zero] at hcA hcB
  have hAl : A < W.heap.size := (Array.getElem?_eq_some_iff.1 hbA).1
  have hBl : B < W.heap.size := (Array.getElem?_eq_some_iff.1 hbB).1
  have HH := Lib.hid h
  have HA := Lib.hid hA
  clear h hA hB hbA hbB
  have cA : ∀ o, (W.alloc o).cell? ⟨A, 0, none⟩ = some (.int .i64 a) := fun o => (World.cell?_alloc_lt W o ⟨A, 0, none⟩ hAl).trans hcA
  have cB : ∀ o, (W.alloc o).cell? ⟨B, 0, none⟩ = some (.int .i64 f) := fun o => (World.cell?_alloc_lt W o ⟨B, 0, none⟩ hBl).trans hcB
  have fA : ∀ o, (W.alloc o).frozen? ⟨A, 0, none⟩ = false := fun o => ((Below.refl _ W).alloc (Nat.le_refl _) o).frozen (p := ⟨A, 0, none⟩) hAl |>.trans hfA
  unfold ptr
  go_enter Try.func27, Try.ntmps27
  go_wp2
  obtain ⟨hP, hC⟩ := full_put HH.out HA.out 0 (.int .i64 (a + 1))
  have hz : (W.setCell ⟨A, 0, none⟩ (.int .i64 (a + 1))).heap.size = W.heap.size := by simp [World.setCell]
  have hfin := hP.below (Has.local_ _) ((Below.refl _ _).alloc (Nat.le_refl _) (.cells #[.int .i64 1, .int .i64 ((f + (a + 1)) % 2)] 31))
  have how : Owned F W F ((W.setCell ⟨A, 0, none⟩ (.int .i64 (a + 1))).alloc (.cells #[.int .i64 1, .int .i64 ((f + (a + 1)) % 2)] 31)) := ⟨hC.alloc _, fun _ h => .inl h⟩
  have hb := World.alloc_heap_new (W.setCell ⟨A, 0, none⟩ (.int .i64 (a + 1))) (.cells #[.int .i64 1, .int .i64 ((f + (a + 1)) % 2)] 31)
  rw [hz] at hb
  have g0 := Blk.cell (t := 31) hb 0
  have g1 := Blk.cell (t := 31) hb 1
  simp only [List.getElem?_toArray, List.getElem?_cons_zero, List.getElem?_cons_succ] at g0 g1
  have HFIN := Lib.hid hfin
  have HOW := Lib.hid how
  clear hP hC hz hfin how hb hcA hcB cA cB fA hfA
  simp [bodyPost, settle, results, Try.results27, go_sem, g0, g1]
  exact ⟨F, HFIN.out, HOW.out⟩

def tkL (A B : Nat) (kind on : Int) (since order : Nat) : Tk := { name := ⟨#[116]⟩, f := 27, caps := #[ptr A, ptr B], kind := kind, on := on, since := since, order := order, failed := false }
structure LM (m : Nat → Option Obj) (A0 B0 A1 B1 : Nat) : Prop where
  a0 : m A0 = some (cI 0)
  b0 : m B0 = some (cI 0)
  a1 : m A1 = some (cI 0)
  b1 : m B1 = some (cI 1)
  n1 : A0 ≠ A1
  n2 : B0 ≠ A0
  n3 : B1 ≠ A0
  n4 : B0 ≠ A1
  n5 : B1 ≠ A1
def lm (m : Nat → Option Obj) (A0 A1 : Nat) : Nat → (Nat → Option Obj)
  | 0 => m
  | 1 => mset m A0 (cI 1)
  | 2 => mset (mset m A0 (cI 1)) A1 (cI 1)
  | 3 => mset (mset (mset m A0 (cI 1)) A1 (cI 1)) A0 (cI 2)
  | _ => mset (mset (mset (mset m A0 (cI 1)) A1 (cI 1)) A0 (cI 2)) A1 (cI 2)
def lsc (A0 B0 A1 B1 : Nat) : Nat → Sc
  | 0 => { tks := [tkL A0 B0 0 0 0 0, tkL A1 B1 0 0 0 0], locks := fun _ => none, steps := 0, wishes := 0, within := false, cap := 0 }
  | 1 => { tks := [tkL A0 B0 1 1 1 1, tkL A1 B1 0 0 0 0], locks := fun _ => none, steps := 1, wishes := 1, within := false, cap := 0 }
  | 2 => { tks := [tkL A0 B0 1 1 1 1, tkL A1 B1 1 0 2 2], locks := fun _ => none, steps := 2, wishes := 2, within := false, cap := 0 }
  | 3 => { tks := [tkL A0 B0 1 0 3 3, tkL A1 B1 1 0 2 2], locks := upd (fun _ => none) 1 (some 0), steps := 3, wishes := 3, within := false, cap := 1 }
  | _ => { tks := [tkL A0 B0 1 0 3 3, tkL A1 B1 1 1 4 4], locks := upd (upd (fun _ => none) 1 (some 0)) 0 (some 1), steps := 4, wishes := 4, within := false, cap := 2 }

theorem lives_picks {S : Nat} {Ts : List Nat} {m : Nat → Option Obj} {A0 B0 A1 B1 : Nat} (hm : LM m A0 B0 A1 B1) :
    Picks Nat S (fun _ => Ts) (lsc A0 B0 A1 B1) (fun k => Has (lm m A0 A1 k)) (pth [0, 1]) 9 (fun k x => x = k ∧ k ≤ 4) (fun _ k => k + 1) (fun _ k => ((k : Int) % 2, 0)) := by
  obtain ⟨a0, b0, a1, b1, n1, n2, n3, n4, n5⟩ := hm
  have one : ∀ (k : Nat) (n : Nat) (A B : Nat) (t : Tk) (a f : Int) (m m' : Nat → Option Obj) (σ : Sc) (F : Nat → Prop) (w : World) (i : Int), Full F S Ts σ (Has m) w → σ.within = false → 0 < (enabledP σ).length → n = chosen σ i → σ.tks[n]? = some t → t.f = 27 → t.caps = #[ptr A, ptr B] → m A = some (cI a) → m B = some (cI f) → B ≠ A → 0 ≤ a → a < 1000 → 0 ≤ f → f < 1000 → 0 ≤ i → i < 2 → σ.steps < 10 → σ.wishes < 10 → σ.cap < 10 → m' = mset m A (cI (a + 1)) →
      Calls Try.prog 29 #[ptr S, .int .i64 i] w fun e w' => e = .returned (.tuple #[.int .i64 (n : Int), .int .i64 0]) ∧ ∃ F', Full F' S Ts (finish (cleared σ n t) n (bare t) 1 ((f + (a + 1)) % 2)) (Has m') w' ∧ Owned F w F' w' := by
    intro k n A B t a f m m' σ F w i h hwi hen hn ht hf hc hA hB hBA ha ha2 hf0 hf2 hi0 hi2 hs hw hcp hm'
    subst hm'
    refine pick_plain i (Has.local_ _) (Has.local_ _) h hwi hen hn ht 1 _ (by omega) (by omega) (by omega) (by omega) (by omega) (fun F W τ hF => ?_) ?_
    · rw [hf, hc]
      exact step27 hF hA hB hBA ha ha2 hf0 hf2
    · have h1 := Int.emod_nonneg (f + (a + 1)) (b := 2) (by omega)
      have h2 := Int.emod_lt_of_pos (f + (a + 1)) (b := 2) (by omega)
      unfold wfi; simp [Lit.wf, IntKind.min, IntKind.max, IntKind.signed, IntKind.bits]; omega
  refine ⟨fun _ => Has.local_ _, fun k x hx => ?_, fun k x F w hk hx hen h => ?_⟩
  · obtain ⟨rfl, hx⟩ := hx
    match x, hx with
    | 0, _ => exact ⟨rfl, by simp [lsc]⟩
    | 1, _ => exact ⟨rfl, by simp [lsc]⟩
    | 2, _ => exact ⟨rfl, by simp [lsc]⟩
    | 3, _ => exact ⟨rfl, by simp [lsc]⟩
    | 4, _ => exact ⟨rfl, by simp [lsc]⟩
  · obtain ⟨rfl, hx⟩ := hx
    match x, hx with
    | 0, _ => exact ⟨⟨rfl, by omega⟩, one 0 0 A0 B0 (tkL A0 B0 0 0 0 0) 0 0 _ _ _ F w 0 h rfl hen rfl rfl rfl rfl a0 b0 n2 (by omega) (by omega) (by omega) (by omega) (by omega) (by omega) (by simp [lsc]) (by simp [lsc]) (by simp [lsc]) rfl⟩
    | 1, _ => exact ⟨⟨rfl, by omega⟩, one 1 1 A1 B1 (tkL A1 B1 0 0 0 0) 0 1 _ _ _ F w 1 h rfl hen rfl rfl rfl rfl ((mset_other _ _ (Ne.symm n1)).trans a1) ((mset_other _ _ n3).trans b1) n5 (by omega) (by omega) (by omega) (by omega) (by omega) (by omega) (by simp [lsc]) (by simp [lsc]) (by simp [lsc]) rfl⟩
    | 2, _ => exact ⟨⟨rfl, by omega⟩, one 2 0 A0 B0 (tkL A0 B0 1 1 1 1) 1 0 _ _ _ F w 0 h rfl hen rfl rfl rfl rfl ((mset_other _ _ n1).trans (mset_same _ _ _)) ((mset_other _ _ n4).trans ((mset_other _ _ n2).trans b0)) n2 (by omega) (by omega) (by omega) (by omega) (by omega) (by omega) (by simp [lsc]) (by simp [lsc]) (by simp [lsc]) rfl⟩
    | 3, _ => exact ⟨⟨rfl, by omega⟩, one 3 1 A1 B1 (tkL A1 B1 1 0 2 2) 1 1 _ _ _ F w 1 h rfl hen rfl rfl rfl rfl ((mset_other _ _ (Ne.symm n1)).trans (mset_same _ _ _)) ((mset_other _ _ n3).trans ((mset_other _ _ n5).trans ((mset_other _ _ n3).trans b1))) n5 (by omega) (by omega) (by omega) (by omega) (by omega) (by omega) (by simp [lsc]) (by simp [lsc]) (by simp [lsc]) rfl⟩
    | 4, _ => exact absurd (show (0 : Nat) < 0 from hen) (by omega)

theorem two_more {F : Nat → Prop} {S : Nat} {Ts : List Nat} {σ : Sc} {m : Nat → Option Obj} {w : World} (h : Full F S Ts σ (Has m) w) (a b : Int) :
    Full (fun j => (F j ∨ j = w.heap.size) ∨ j = w.heap.size + 1) S Ts σ (Has (mset (mset m w.heap.size (cI a)) (w.heap.size + 1) (cI b))) ((w.alloc (.cells #[.int .i64 a] 3)).alloc (.cells #[.int .i64 b] 3)) := by
  have hs := Full.size (Has.local_ m) h
  have h0 := h.below (Has.local_ m) (((Below.refl _ w).alloc (Nat.le_refl _) (.cells #[.int .i64 a] 3)).alloc (by simp) (.cells #[.int .i64 b] 3))
  have h1 := full_more h0 (k := w.heap.size) (o := cI a) ((Below.heap_alloc _ _ _ (by simp)).trans (World.alloc_heap_new w _)) (fun hF => by have := hs _ hF; omega)
  refine full_more h1 (k := w.heap.size + 1) (o := cI b) ?_ (fun hF => by rcases hF with h | h; have := hs _ h; omega; omega)
  have := World.alloc_heap_new (w.alloc (.cells #[.int .i64 a] 3)) (.cells #[.int .i64 b] 3)
  rw [World.size_alloc] at this
  exact this

def LRel (S k : Nat) (σ : Sc) (m : Nat → Option Obj) : Prop := match k with
  | 0 => σ = sc0
  | 1 => ∃ A0 B0, σ = spawned sc0 ⟨#[116]⟩ 27 #[ptr A0, ptr B0] ∧ m A0 = some (cI 0) ∧ m B0 = some (cI 0) ∧ B0 ≠ A0
  | _ => ∃ A0 B0 A1 B1, LM m A0 B0 A1 B1 ∧ σ = lsc A0 B0 A1 B1 0

theorem LRel.few {S k : Nat} {σ : Sc} {m : Nat → Option Obj} (h : LRel S k σ m) (hk : k < 2) : σ.tks.length < 64 := by
  match k, hk, h with
  | 0, _, h => cases (show σ = sc0 from h); simp [sc0]
  | 1, _, h => obtain ⟨A0, B0, rfl, -⟩ := h; simp [spawned, sc0]
theorem LRel.next {S k : Nat} {σ : Sc} {m : Nat → Option Obj} {w : World} (h : LRel S k σ m) (hk : k < 2) (hm : ∀ j o, m j = some o → j < w.heap.size) :
    LRel S (k + 1) (spawned σ ⟨#[116]⟩ 27 #[ptr w.heap.size, ptr (w.heap.size + 1)]) (mset (mset m w.heap.size (cI 0)) (w.heap.size + 1) (cI k)) := by
  match k, hk, h with
  | 0, _, h =>
    cases (show σ = sc0 from h)
    exact ⟨w.heap.size, w.heap.size + 1, rfl, (mset_other _ _ (by omega)).trans (mset_same _ _ _), mset_same _ _ _, by omega⟩
  | 1, _, h =>
    obtain ⟨A0, B0, rfl, hA, hB, hAB⟩ := h
    have hAl := hm _ _ hA
    have hBl := hm _ _ hB
    exact ⟨A0, B0, w.heap.size, w.heap.size + 1, ⟨(mset_other _ _ (by omega)).trans ((mset_other _ _ (by omega)).trans hA), (mset_other _ _ (by omega)).trans ((mset_other _ _ (by omega)).trans hB), (mset_other _ _ (by omega)).trans (mset_same _ _ _), mset_same _ _ _, by omega, by omega, by omega, by omega, by omega⟩, rfl⟩

set_option maxRecDepth 100000 in
set_option maxHeartbeats 4000000 in
theorem lives_any (w : World) : Calls Try.prog 8 #[] w fun e w' => e = .returned (.bool true) ∧ Below w.heap.size w w' := by
  have hmf : ∀ (fn : Fn) (first cap : Array Value) (w : World), (Instr.makeFunc fn first cap).run Try.prog w = .ok (.func fn first cap) w := fun _ _ _ _ => rfl
  go_enter Try.func8, Try.ntmps8
  go_wp2_with fail
  refine (new_any w).mono ?_
  rintro e w1 ⟨S, C, rfl, hrep, hC, hbe⟩
  have hfull : Full C S [] sc0 (Has fun _ => none) w1 := ⟨C, fun _ => False, hrep, Has.none_ w1, fun _ _ h => h, fun k => by simp⟩
  have HFU := Lib.hid hfull
  have HC := Lib.hid hC
  have HBE := Lib.hid hbe
  clear hrep hC hfull hbe
  unfold ptr
  go_wp2_with fail
  go_loopw [2] (fun i wr => ∃ (k : Nat) (F : Nat → Prop) (Ts : List Nat) (σ : Sc) (m : Nat → Option Obj), i = .int .i64 k ∧ k ≤ 2 ∧ Hid (Full F S Ts σ (Has m) wr) ∧ Hid (∀ j, F j → w.heap.size ≤ j) ∧ Hid (Below w.heap.size w wr) ∧ Hid (LRel S k σ m)) (fun i _ => 2 - (intOf i).toNat)
  case atStart => exact ⟨0, C, [], sc0, _, rfl, by omega, HFU, HC, HBE, Lib.hid rfl⟩
  case round =>
    obtain ⟨k, F, Ts, σ, m, rfl, hk, E1, E2, E3, E4⟩ := hrel
    by_cases hlt : k < 2
    · have hc : decide ((k : Int) < 2) = true := by rw [decide_eq_true_iff]; omega
      go_wp2_with fail
      have hsz : ∀ j, F j → j < wr.heap.size := Full.size (Has.local_ m) E1.out
      have hmlt : ∀ j o, m j = some o → j < wr.heap.size := fun j o hj => (Array.getElem?_eq_some_iff.1 (full_known E1.out hj)).1
      have f1 := two_more E1.out 0 (k : Int)
      have hsp := spawn_any (Has.local_ _) f1 ⟨#[116]⟩ 27 #[ptr wr.heap.size, ptr (wr.heap.size + 1)] enters27 (LRel.few E4.out hlt)
      have HSP := Lib.hid hsp
      clear hsp f1
      refine HSP.out.mono ?_
      rintro e w3 ⟨rfl, F3, T, hful, hown⟩
      have hF3 : ∀ j, F3 j → w.heap.size ≤ j := fun j hj => by
        rcases hown.2 j hj with (h | h) | h
        · rcases h with h | h
          · exact E2.out j h
          · have := E3.out.size; omega
        · have := E3.out.size; omega
        · have := E3.out.size; simp at h; omega
      have hB3 : Below w.heap.size w w3 := ((E3.out.alloc E3.out.size _).alloc (by have := E3.out.size; simp; omega) _).trans (hown.1.below (by have := E3.out.size; simp; omega) (fun q hq => by
        rcases hq with (h | h) | h
        · exact E2.out q h
        · have := E3.out.size; omega
        · have := E3.out.size; omega))
      have e1 := Lib.hid hful
      have e2 := Lib.hid hF3
      have e3 := Lib.hid hB3
      clear hful hF3 hB3 hown hsz
      go_wp2
      go_roundw
      case rel =>
        refine ⟨k + 1, F3, Ts ++ [T], _, _, by go_num, by omega, e1, e2, e3, Lib.hid ?_⟩
        exact LRel.next E4.out hlt hmlt
      case measure => simp [intOf]; omega
    · have hc : decide ((k : Int) < 2) = false := by rw [decide_eq_false_iff_not]; omega
      obtain rfl : k = 2 := by omega
      obtain ⟨A0, B0, A1, B1, hLM, rfl⟩ := (show ∃ A0 B0 A1 B1, LM m A0 B0 A1 B1 ∧ σ = lsc A0 B0 A1 B1 0 from E4.out)
      have hb2 : Below wr.heap.size wr (wr.alloc (.cells #[.int .i64 0, .int .i64 1] 3)) := (Below.refl _ wr).alloc (Nat.le_refl _) _
      have hcn : ∀ j u, [Value.int .i64 0, Value.int .i64 1][j]? = some u → (wr.alloc (.cells #[.int .i64 0, .int .i64 1] 3)).cell? ((⟨wr.heap.size, 0, none⟩ : Addr).add j) = some u := fun j u hu => by
        have hb := World.alloc_heap_new wr (.cells #[.int .i64 0, .int .i64 1] 3)
        match j, hu with
        | 0, hu => exact (Blk.cell (t := 3) hb 0).trans hu
        | 1, hu => exact (Blk.cell (t := 3) hb 1).trans hu
      have hread : Reads (wr.alloc (.cells #[.int .i64 0, .int .i64 1] 3)) (wr.alloc (.cells #[.int .i64 0, .int .i64 1] 3)).heap.size 1 (some ⟨wr.heap.size, 0, none⟩) 2 ([0, 1].map (Value.int .i64)) :=
        ⟨rfl, fun _ => ⟨_, rfl, by simp, hcn⟩⟩
      have hrun := run_any (zs := [0, 1]) (most := 9) (cp := 2) (x := 0) (lives_picks (S := S) (Ts := Ts) hLM) ⟨rfl, by omega⟩ (E1.out.below (Has.local_ m) hb2) hread (by intro z hz; simp at hz; rcases hz with rfl | rfl; exact wfi_nat 0 (by omega); exact wfi_nat 1 (by omega)) (by omega) (by omega) (by omega)
      have hrr : runs (lsc A0 B0 A1 B1) (fun _ k => k + 1) (pth [0, 1]) (9 : Int).toNat 0 0 = (4, 4) := rfl
      rw [hrr] at hrun
      have HRUN := Lib.hid hrun
      clear hrun hrr hread hcn
      go_wp2_with fail
      refine HRUN.out.mono ?_
      rintro e w4 ⟨rfl, F4, hful4, -, hown4⟩
      have h4 := Lib.hid hful4
      have o4 : Below w.heap.size w w4 := (E3.out.alloc E3.out.size _).trans (hown4.1.below (by have := E3.out.size; simp; omega) (fun q hq => E2.out q hq))
      have hF4 : ∀ j, F4 j → w.heap.size ≤ j := fun j hj => by
        rcases hown4.2 j hj with h | h
        · exact E2.out j h
        · have := E3.out.size; simp at h; omega
      obtain ⟨C4, D4, rep4, -, -, -⟩ := id hful4
      have hdead := Lib.hid (dead_any rep4 (by simp [lsc]))
      have REP4 := Lib.hid rep4
      clear hful4 hown4 rep4
      go_wp2_with fail
      refine hdead.out.mono ?_
      rintro e w5 ⟨v, rfl, hown5, hbe5⟩
      obtain ⟨A5, cp5, g5, rfl, -⟩ := own_shape hown5
      have hdl : (deadP (lsc A0 B0 A1 B1 4)).length = 2 := rfl
      rw [hdl]
      clear hown5 hdl
      have rep5 := REP4.out.below hbe5
      obtain ⟨⟨tv5, M5, g1, -, -, -, -⟩, -⟩ := id rep5
      have hst := Lib.hid (steps_any g1)
      clear g1 rep5
      go_wp2_with fail
      refine hst.out.mono ?_
      rintro e w6 ⟨rfl, rfl⟩
      go_wp2
      go_ret
      exact ⟨by first | rfl | simp [lsc], o4.trans (hbe5.mono o4.size)⟩
end Go.Proofs.Ytekgdakkkbnpiaa
