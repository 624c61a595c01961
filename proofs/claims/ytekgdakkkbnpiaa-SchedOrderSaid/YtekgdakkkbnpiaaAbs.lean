/- What a scheduler of such tasks does, without memory: the plain form. No condition. -/
import Derived.Test.YtekgdakkkbnpiaaPanic
namespace Go.Proofs.Ytekgdakkkbnpiaa
set_option linter.unusedVariables false
set_option linter.unusedSimpArgs false

/-- A task without addresses. -/
structure AT where
  kind : Int
  on : Int
  since : Nat
  order : Nat
  failed : Bool
  at_ : Nat

/-- A scheduler without addresses, and what its steps were told. -/
structure AS where
  ts : List AT
  locks : Int → Option Int
  steps : Nat
  cap : Nat
  told : List Int

def tkA (nm : Nat → ByteArray) (cp : Nat → Array Value) (i : Nat) (a : AT) : Tk := { name := nm i, f := 56, caps := cp i, kind := a.kind, on := a.on, since := a.since, order := a.order, failed := a.failed }
def scA (nm : Nat → ByteArray) (cp : Nat → Array Value) (b : Bool) (s : AS) : Sc := { tks := s.ts.mapIdx (tkA nm cp), locks := s.locks, steps := s.steps, wishes := s.steps, within := b, cap := s.cap }

def mayA (s : AS) (t : AT) : Bool :=
  if t.kind = 0 then true else if t.kind = 1 then (s.locks t.on).isNone else if t.kind = 3 then decide (t.on ≤ (s.steps : Int) - t.since) else false
def thoseA (s : AS) (p : AT → Bool) : List Nat := fl (fun i => match s.ts[i]? with | some t => p t | none => false) s.ts.length
def enabledA (s : AS) : List Nat := thoseA s (mayA s)
def aliveA (s : AS) : List Nat := thoseA s (fun t => !(t.kind == 4))
def sleepA (s : AS) : List Nat := thoseA s (fun t => t.kind == 3)
def deadA (s : AS) : List Nat := if (enabledA s).length = 0 ∧ (sleepA s).length = 0 then aliveA s else []
def ordA (s : AS) (i : Nat) : Nat := match s.ts[i]? with | some t => t.order | none => 0
def waitA (s : AS) (on : Int) : List Nat := (thoseA s (fun t => t.kind == 2 && t.on == on)).mergeSort (fun x y => decide (ordA s x ≤ ordA s y))

def modT (s : AS) (n : Nat) (f : AT → AT) : AS := { s with ts := s.ts.modify n f }
def wakeT (t : AT) : AT := { t with kind := 0, on := 0 }
def wakeA (s : AS) (n : Nat) : AS := modT s n wakeT
def unlockEA (s : AS) (n : Nat) (k : Int) : Int := if s.ts.length ≤ n then 40 else if s.locks k = some (n : Int) then 0 else 41
def unlockA (s : AS) (n : Nat) (k : Int) : AS := if n < s.ts.length ∧ s.locks k = some (n : Int) then { s with locks := upd s.locks k none } else s
def tellA (s : AS) (v : Int) : AS := { s with told := s.told ++ [v] }
def signalA (s : AS) (on : Int) : AS := match waitA s on with
  | [] => tellA s (-1)
  | x :: _ => tellA (wakeA s x) (x : Int)
def broadA (s : AS) (on : Int) : AS := tellA ((waitA s on).foldl wakeA s) ((waitA s on).length : Int)

/-- One thing that a step does; none: it panics. -/
def actA (n : Nat) (s : AS) (d : Int × Int) : Option AS :=
  if d.1 = 0 then some (tellA (unlockA s n d.2) (unlockEA s n d.2)) else if d.1 = 1 then some (signalA s d.2) else if d.1 = 2 then some (broadA s d.2) else if d.1 = 3 then none else some s
def bumpT (t : AT) : AT := { t with at_ := t.at_ + 1 }

/-- The step of task n, of which l is left. -/
def stepA (n : Nat) : List (Int × Int) → AS → AS × Option (Int × Int)
  | [], s => (s, some (4, 0))
  | d :: r, s => if d.1 < 0 then (modT s n bumpT, some (-(d.1 + 1), d.2)) else match actA n (modT s n bumpT) d with
    | some s' => stepA n r s'
    | none => (modT s n bumpT, none)

def clearA (s : AS) (n : Nat) : AS := match s.ts[n]? with
  | some t => modT (if t.kind = 1 then { s with locks := upd s.locks t.on (some (n : Int)), cap := s.cap + 1 } else s) n wakeT
  | none => s
def finishA (s : AS) (n : Nat) (k o : Int) : AS := { modT s n (fun t => { t with kind := wishK k, on := wishO k o, since := s.steps + 1, order := s.steps + 1 }) with steps := s.steps + 1 }
def failA (s : AS) (n : Nat) : AS := { modT s n (fun t => { t with kind := 4, on := 0, since := s.steps + 1, order := s.steps + 1, failed := true }) with steps := s.steps + 1, locks := dropAll s.locks n }
def chosenA (s : AS) (i : Int) : Nat := (enabledA s).getD ((if i < 0 then 0 else i) % ((enabledA s).length : Int)).toNat 0

/-- A pick: what is then, who it was, and what came of it. -/
def pickA (L : Nat → List (Int × Int)) (i : Int) (s : AS) : AS × Int × Int :=
  if (enabledA s).length = 0 then (s, 0, 8) else
    let n := chosenA s i
    match s.ts[n]? with
    | none => (s, 0, 8)
    | some t => match stepA n ((L n).drop t.at_) (clearA s n) with
      | (s', some (k, o)) => (finishA s' n k o, (n : Int), 0)
      | (s', none) => (failA s' n, (n : Int), 9)

section
variable {nm : Nat → ByteArray} {cp : Nat → Array Value} {b : Bool} {s : AS}
theorem scA_at (i : Nat) : (scA nm cp b s).tks[i]? = (s.ts[i]?).map (tkA nm cp i) := by
  show (s.ts.mapIdx (tkA nm cp))[i]? = _
  rw [List.getElem?_mapIdx]
theorem scA_length : (scA nm cp b s).tks.length = s.ts.length := by simp [scA]
theorem scA_those (p : Tk → Bool) (q : AT → Bool) (h : ∀ i t, p (tkA nm cp i t) = q t) : fl (fun i => match (scA nm cp b s).tks[i]? with | some t => p t | none => false) (scA nm cp b s).tks.length = thoseA s q := by
  unfold thoseA
  rw [scA_length]
  unfold fl
  refine List.filter_congr fun i hi => ?_
  rw [scA_at]
  cases s.ts[i]? with
  | none => rfl
  | some t => exact h i t
theorem scA_enabled : enabledP (scA nm cp b s) = enabledA s := scA_those _ _ (fun _ _ => rfl)
theorem scA_alive : aliveP (scA nm cp b s) = aliveA s := scA_those (fun t => !(t.kind == 4)) _ (fun _ _ => rfl)
theorem scA_sleep : sleepP (scA nm cp b s) = sleepA s := scA_those (fun t => t.kind == 3) _ (fun _ _ => rfl)
theorem scA_chosen (i : Int) : chosen (scA nm cp b s) i = chosenA s i := by
  unfold chosen chosenA slot; rw [scA_enabled]
theorem mapIdx_modify {l : List AT} (n : Nat) (f : AT → AT) (g : Tk → Tk) (h : ∀ t, tkA nm cp n (f t) = g (tkA nm cp n t)) : (l.modify n f).mapIdx (tkA nm cp) = (l.mapIdx (tkA nm cp)).modify n g := by
  apply List.ext_getElem?
  intro i
  rw [List.getElem?_mapIdx, List.getElem?_modify, List.getElem?_modify, List.getElem?_mapIdx]
  by_cases e : n = i
  · subst e
    simp only [if_true, Option.map_map]
    cases l[n]? with
    | none => rfl
    | some t => simp [h]
  · simp [e]
theorem modify_eq_set {l : List Tk} {n : Nat} {t : Tk} (h : l[n]? = some t) (g : Tk → Tk) : l.modify n g = l.set n (g t) := by
  apply List.ext_getElem?
  intro i
  rw [List.getElem?_modify, List.getElem?_set]
  by_cases e : n = i
  · subst e
    obtain ⟨hl, rfl⟩ := List.getElem?_eq_some_iff.1 h
    simp [hl]
  · simp [e]
end
end Go.Proofs.Ytekgdakkkbnpiaa
