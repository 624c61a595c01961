/- A pair begins: its tasks are spawned. No condition. -/
import Derived.Test.YtekgdakkkbnpiaaPickC
import Derived.Test.YtekgdakkkbnpiaaOpen
namespace Go.Proofs.Ytekgdakkkbnpiaa
set_option linter.unusedVariables false
set_option linter.unusedSimpArgs false
open Go Go.RowKit

def oX (P : Nat) : Obj := .cells #[ptr P] 37 (0, 0)
set_option maxHeartbeats 1000000 in
theorem mkstep_any (w : World) (P : Nat) (task : Int) (A : Option Addr) (n c : Nat) :
    Calls Try.prog 31 #[ptr P, .int .i64 task, .slice A n c] w fun e w' => e = .returned (.func (.func 56) #[] #[ptr w.heap.size, ptr (w.heap.size + 3), ptr (w.heap.size + 2), ptr (w.heap.size + 1)]) ∧
      w' = (((w.alloc (.cells #[ptr P] 37)).alloc (.cells #[.int .i64 task] 3)).alloc (.cells #[.slice A n c] 47)).alloc (.cells #[.int .i64 0] 3) := by
  have hmf : ∀ (fn : Fn) (first cap : Array Value) (w : World), (Instr.makeFunc fn first cap).run Try.prog w = .ok (.func fn first cap) w := fun _ _ _ _ => rfl
  unfold ptr
  go_enter Try.func31, Try.ntmps31
  go_wp2_with fail
  go_ret
  exact ⟨rfl, rfl⟩

/-- Four boxes more. -/
theorem four_more {F : Nat → Prop} {S : Nat} {Ts : List Nat} {σ : Sc} {m : Nat → Option Obj} {w : World} (h : Full F S Ts σ (Has m) w) (P : Nat) (task : Int) (v : Value) :
    Full (fun j => F j ∨ (w.heap.size ≤ j ∧ j < w.heap.size + 4)) S Ts σ (Has (mset (mset (mset (mset m w.heap.size (oP P)) (w.heap.size + 1) (oI task)) (w.heap.size + 2) (oL v)) (w.heap.size + 3) (oI 0)))
      ((((w.alloc (.cells #[ptr P] 37)).alloc (.cells #[.int .i64 task] 3)).alloc (.cells #[v] 47)).alloc (.cells #[.int .i64 0] 3)) := by
  have hs := Full.size (Has.local_ m) h
  obtain ⟨w1, hw1⟩ : ∃ w1, w.alloc (.cells #[ptr P] 37) = w1 := ⟨_, rfl⟩
  obtain ⟨w2, hw2⟩ : ∃ w2, w1.alloc (.cells #[.int .i64 task] 3) = w2 := ⟨_, rfl⟩
  obtain ⟨w3, hw3⟩ : ∃ w3, w2.alloc (.cells #[v] 47) = w3 := ⟨_, rfl⟩
  obtain ⟨w4, hw4⟩ : ∃ w4, w3.alloc (.cells #[.int .i64 0] 3) = w4 := ⟨_, rfl⟩
  rw [hw1, hw2, hw3, hw4]
  have z1 : w1.heap.size = w.heap.size + 1 := by rw [← hw1]; simp
  have z2 : w2.heap.size = w.heap.size + 2 := by rw [← hw2]; simp; omega
  have z3 : w3.heap.size = w.heap.size + 3 := by rw [← hw3]; simp; omega
  have b1 : Below w.heap.size w w1 := by rw [← hw1]; exact (Below.refl _ w).alloc (Nat.le_refl _) _
  have b2 : Below w1.heap.size w1 w2 := by rw [← hw2]; exact (Below.refl _ w1).alloc (Nat.le_refl _) _
  have b3 : Below w2.heap.size w2 w3 := by rw [← hw3]; exact (Below.refl _ w2).alloc (Nat.le_refl _) _
  have b4 : Below w3.heap.size w3 w4 := by rw [← hw4]; exact (Below.refl _ w3).alloc (Nat.le_refl _) _
  have f1 := full_more (h.below (Has.local_ m) b1) (k := w.heap.size) (o := oP P) (by rw [← hw1]; exact World.alloc_heap_new w _) (fun hF => by have := hs _ hF; omega)
  have f2 := full_more (f1.below (Has.local_ _) b2) (k := w.heap.size + 1) (o := oI task) (by rw [← z1, ← hw2]; exact World.alloc_heap_new w1 _) (fun hF => by rcases hF with h | h; have := hs _ h; omega; omega)
  have f3 := full_more (f2.below (Has.local_ _) b3) (k := w.heap.size + 2) (o := oL v) (by rw [← z2, ← hw3]; exact World.alloc_heap_new w2 _) (fun hF => by rcases hF with (h | h) | h; have := hs _ h; omega; omega; omega)
  have f4 := full_more (f3.below (Has.local_ _) b4) (k := w.heap.size + 3) (o := oI 0) (by rw [← z3, ← hw4]; exact World.alloc_heap_new w3 _) (fun hF => by rcases hF with ((h | h) | h) | h; have := hs _ h; omega; omega; omega; omega)
  obtain ⟨C, D, g1, g2, g3, g4⟩ := f4
  refine ⟨C, D, g1, g2, g3, fun k => Iff.trans ?_ (g4 k)⟩
  constructor
  · rintro (h | ⟨h1, h2⟩)
    · exact .inl (.inl (.inl (.inl h)))
    · have : k = w.heap.size ∨ k = w.heap.size + 1 ∨ k = w.heap.size + 2 ∨ k = w.heap.size + 3 := by omega
      rcases this with h | h | h | h
      · exact .inl (.inl (.inl (.inr h)))
      · exact .inl (.inl (.inr h))
      · exact .inl (.inr h)
      · exact .inr h
  · rintro ((((h | h) | h) | h) | h)
    · exact .inl h
    · right; omega
    · right; omega
    · right; omega
    · right; omega

def at0 : AT := { kind := 0, on := 0, since := 0, order := 0, failed := false, at_ := 0 }
def as0 (k : Nat) : AS := { ts := List.replicate k at0, locks := fun _ => none, steps := 0, cap := 0, told := [] }
def Adr.more (a : Adr) (k z : Nat) (v : Value) : Adr :=
  { a with X := fun i => if i = k then z else a.X i, K := fun i => if i = k then z + 1 else a.K i, Lx := fun i => if i = k then z + 2 else a.Lx i, A := fun i => if i = k then z + 3 else a.A i, sl := fun i => if i = k then v else a.sl i,
           tg := fun b => if b = z then 4 * k + 3 else if b = z + 1 then 4 * k + 5 else if b = z + 2 then 4 * k + 4 else if b = z + 3 then 4 * k + 2 else a.tg b }
theorem more_cp (a : Adr) (k z : Nat) (v : Value) {i : Nat} (h : i ≠ k) : (a.more k z v).cp i = a.cp i := by
  unfold Adr.cp Adr.more; simp [h]
theorem more_cp_new (a : Adr) (k z : Nat) (v : Value) : (a.more k z v).cp k = #[ptr z, ptr (z + 3), ptr (z + 2), ptr (z + 1)] := by
  unfold Adr.cp Adr.more; simp

/-- a task more, in plain terms -/
def addA (s : AS) : AS := { s with ts := s.ts ++ [at0] }
theorem sc_add {a : Adr} {s : AS} {z : Nat} (b : Bool) (v : Value) : sc (a.more s.ts.length z v) b (addA s) = spawned (sc a b s) (a.nm s.ts.length) 56 #[ptr z, ptr (z + 3), ptr (z + 2), ptr (z + 1)] := by
  unfold sc scA spawned
  congr 1
  show (s.ts ++ [at0]).mapIdx _ = s.ts.mapIdx _ ++ _
  rw [List.mapIdx_append]
  congr 1
  · apply List.ext_getElem?
    intro i
    rw [List.getElem?_mapIdx, List.getElem?_mapIdx]
    cases hs : s.ts[i]? with
    | none => rfl
    | some t =>
      have hi := (List.getElem?_eq_some_iff.1 hs).1
      simp only [Option.map_some, tkA]
      rw [more_cp a _ z v (by omega : i ≠ s.ts.length)]; rfl
  · simp only [List.mapIdx_cons, List.mapIdx_nil, Nat.zero_add, tkA, at0]
    rw [more_cp_new]; rfl

theorem PM.more {a : Adr} {s : AS} {m : Nat → Option Obj} {z : Nat} (h : PM a s m) (hz : ∀ k, (m k).isSome = true → k < z) (hz0 : a.w0.heap.size ≤ z) (v : Value) :
    PM (a.more s.ts.length z v) (addA s) (mset (mset (mset (mset m z (oP a.P)) (z + 1) (oI s.ts.length)) (z + 2) (oL v)) (z + 3) (oI 0)) := by
  have old : ∀ k, k < z → mset (mset (mset (mset m z (oP a.P)) (z + 1) (oI s.ts.length)) (z + 2) (oL v)) (z + 3) (oI 0) k = m k := fun k hk =>
    (mset_other _ _ (by omega)).trans ((mset_other _ _ (by omega)).trans ((mset_other _ _ (by omega)).trans (mset_other _ _ (by omega))))
  have tgo : ∀ k, k < z → (a.more s.ts.length z v).tg k = a.tg k := fun k hk => by show (if k = z then _ else if k = z + 1 then _ else if k = z + 2 then _ else if k = z + 3 then _ else a.tg k) = a.tg k; rw [if_neg (by omega), if_neg (by omega), if_neg (by omega), if_neg (by omega)]
  have lt : ∀ k o, m k = some o → k < z := fun k o hk => hz k (by rw [hk]; rfl)
  obtain ⟨tv, hp, ht⟩ := h.pair
  have hP := lt _ _ hp
  refine ⟨fun k hk => (old k (by have : k < a.w0.heap.size := hk; omega)).trans (h.base k hk), ⟨tv, (old _ hP).trans hp, ?_⟩, fun i t hi => ?_, (tgo _ hP).trans h.tgP, fun i hi => ?_, fun k hk => ?_⟩
  · rcases ht with h1 | ⟨g, cap, cur, e1, e2, e3, e4, e5⟩
    · exact .inl h1
    · have hg := lt _ _ e4
      exact .inr ⟨g, cap, cur, e1, (tgo g hg).trans e2, e3, (old g hg).trans e4, e5⟩
  · change (s.ts ++ [at0])[i]? = some t at hi
    by_cases e : i < s.ts.length
    · rw [List.getElem?_append_left e] at hi
      obtain ⟨k1, k2, k3, k4⟩ := h.task i t hi
      have e1 : (a.more s.ts.length z v).A i = a.A i := by unfold Adr.more; simp; omega
      have e2 : (a.more s.ts.length z v).X i = a.X i := by unfold Adr.more; simp; omega
      have e3 : (a.more s.ts.length z v).Lx i = a.Lx i := by unfold Adr.more; simp; omega
      have e4 : (a.more s.ts.length z v).K i = a.K i := by unfold Adr.more; simp; omega
      have e5 : (a.more s.ts.length z v).sl i = a.sl i := by unfold Adr.more; simp; omega
      rw [e1, e2, e3, e4, e5]
      exact ⟨(old _ (lt _ _ k1)).trans k1, (old _ (lt _ _ k2)).trans k2, (old _ (lt _ _ k3)).trans k3, (old _ (lt _ _ k4)).trans k4⟩
    · have e2 : i = s.ts.length := by
        have := (List.getElem?_eq_some_iff.1 hi).1; rw [List.length_append, List.length_singleton] at this; omega
      subst e2
      have et : t = at0 := by simp at hi; exact hi.symm
      subst et
      have e1 : (a.more s.ts.length z v).A s.ts.length = z + 3 := by unfold Adr.more; simp
      have e2 : (a.more s.ts.length z v).X s.ts.length = z := by unfold Adr.more; simp
      have e3 : (a.more s.ts.length z v).Lx s.ts.length = z + 2 := by unfold Adr.more; simp
      have e4 : (a.more s.ts.length z v).K s.ts.length = z + 1 := by unfold Adr.more; simp
      have e5 : (a.more s.ts.length z v).sl s.ts.length = v := by unfold Adr.more; simp
      rw [e1, e2, e3, e4, e5]
      exact ⟨mset_same _ _ _, (mset_other _ _ (by omega)).trans ((mset_other _ _ (by omega)).trans ((mset_other _ _ (by omega)).trans (mset_same _ _ _))), (mset_other _ _ (by omega)).trans (mset_same _ _ _), (mset_other _ _ (by omega)).trans ((mset_other _ _ (by omega)).trans (mset_same _ _ _))⟩
  · change i < (s.ts ++ [at0]).length at hi
    rw [List.length_append, List.length_singleton] at hi
    by_cases e : i < s.ts.length
    · obtain ⟨q1, q2, q3, q4⟩ := h.tgT i e
      have l1 : a.A i < z := hz _ (h.tgIn _ (by omega)).2
      have l2 : a.X i < z := hz _ (h.tgIn _ (by omega)).2
      have l3 : a.Lx i < z := hz _ (h.tgIn _ (by omega)).2
      have l4 : a.K i < z := hz _ (h.tgIn _ (by omega)).2
      have e1 : (a.more s.ts.length z v).A i = a.A i := by unfold Adr.more; simp; omega
      have e2 : (a.more s.ts.length z v).X i = a.X i := by unfold Adr.more; simp; omega
      have e3 : (a.more s.ts.length z v).Lx i = a.Lx i := by unfold Adr.more; simp; omega
      have e4 : (a.more s.ts.length z v).K i = a.K i := by unfold Adr.more; simp; omega
      rw [e1, e2, e3, e4, tgo _ l1, tgo _ l2, tgo _ l3, tgo _ l4]
      exact ⟨q1, q2, q3, q4⟩
    · have e2 : i = s.ts.length := by omega
      subst e2
      unfold Adr.more
      simp
  · by_cases e : k < z
    · rw [tgo k e] at hk
      refine ⟨(h.tgIn k hk).1, ?_⟩
      rw [old k e]; exact (h.tgIn k hk).2
    · refine ⟨by show a.w0.heap.size ≤ k; omega, ?_⟩
      by_cases e0 : k = z + 3
      · rw [e0, mset_same]; rfl
      · rw [mset_other _ _ e0]
        by_cases e1 : k = z + 2
        · rw [e1, mset_same]; rfl
        · rw [mset_other _ _ e1]
          by_cases e2 : k = z + 1
          · rw [e2, mset_same]; rfl
          · rw [mset_other _ _ e2]
            by_cases e3 : k = z
            · rw [e3, mset_same]; rfl
            · exfalso
              unfold Adr.more at hk
              simp only [e0, e1, e2, e3, if_false] at hk
              have := hz k (h.tgIn k hk).2
              omega
end Go.Proofs.Ytekgdakkkbnpiaa
