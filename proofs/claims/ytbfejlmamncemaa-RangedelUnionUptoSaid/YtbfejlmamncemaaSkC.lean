/- The operations over abstract values, one by one: those that leave memory as it is. No condition. -/
import Derived.Test.YtbfejlmamncemaaSkB
namespace Go.Proofs.Ytbfejlmamncemaa.Sk
open Go Go.RowKit

/-- what is known of a type: whether it is a struct or an array, its cells, bytes, elements, the places of its fields, its zero -/
structure TI where
  agg : Bool
  sz : Nat
  bytes : Nat
  desc : TypeDesc
  offs : List (Nat × Nat)
  zero : List Value

def isAggD : TypeDesc → Bool
  | .struct _ | .array _ _ => true
  | _ => false

structure TiOk (P : Program) (T : TypeId) (i : TI) : Prop where
  one : i.zero.all Value.oneCell' = true
  zsz : i.zero.length = i.sz
  und : P.underlying T = some i.desc
  agg : isAggD i.desc = i.agg
  info : ∃ z, (P.info? T).map (fun x => (x.size, x.bytes, x.zero)) = some (i.sz, i.bytes, some z) ∧ z.cells = i.zero.toArray
  flds : ∀ fs, i.desc = .struct fs → i.offs.length = fs.size ∧ ∀ (f : Nat) o s, i.offs[f]? = some (o, s) → 0 < s ∧ ∃ fd, fs[f]? = some fd ∧ fd.offset = o ∧ (P.info? fd.type).map (·.size) = some s

theorem TiOk.size {P : Program} {T : TypeId} {i : TI} (h : TiOk P T i) : ∃ inf, P.info? T = some inf ∧ inf.size = i.sz ∧ inf.bytes = i.bytes ∧ ∃ z, inf.zero = some z ∧ z.cells = i.zero.toArray := by
  obtain ⟨z, h1, h2⟩ := h.info
  cases hi : P.info? T with
  | none => rw [hi] at h1; cases h1
  | some inf =>
    rw [hi] at h1
    simp only [Option.map_some, Option.some.injEq, Prod.mk.injEq] at h1
    exact ⟨inf, rfl, h1.1, h1.2.1, z, h1.2.2, h2⟩

theorem TiOk.run_sizeOf {P : Program} {T : TypeId} {i : TI} (h : TiOk P T i) (w : World) : (sizeOf T).run P w = .ok i.sz w := by
  obtain ⟨inf, h1, h2, _⟩ := h.size
  simp [sizeOf, typeInfo, h1, h2]
theorem TiOk.run_isAgg {P : Program} {T : TypeId} {i : TI} (h : TiOk P T i) (w : World) : (isAgg T).run P w = .ok i.agg w := by
  have := h.agg
  unfold isAgg
  simp only [Sem.run_bind, run_underlying h.und, Result.andThen_ok]
  cases hd : i.desc <;> rw [hd] at this <;> simp [isAggD] at this <;> simp [this]
theorem TiOk.run_zero {P : Program} {T : TypeId} {i : TI} (h : TiOk P T i) (w : World) : ∃ z, (zeroValue T).run P w = .ok z w ∧ z.cells = i.zero.toArray := by
  obtain ⟨inf, h1, _, _, z, h4, h5⟩ := h.size
  exact ⟨z, by simp [zeroValue, typeInfo, h1, h4], h5⟩

abbrev Tab := TypeId → Option TI
def TabOk (P : Program) (tab : Tab) : Prop := ∀ T i, tab T = some i → TiOk P T i

def fldsB (P : Program) : List (Nat × Nat) → List Field → Bool
  | [], [] => true
  | (o, s) :: r, f :: fs => Nat.blt 0 s && Nat.beq f.offset o && (match P.info? f.type with | some i => Nat.beq i.size s | none => false) && fldsB P r fs
  | _, _ => false
theorem fldsB_spec {P : Program} : ∀ {offs : List (Nat × Nat)} {fs : List Field}, fldsB P offs fs = true → offs.length = fs.length ∧ ∀ (f : Nat) o s, offs[f]? = some (o, s) → 0 < s ∧ ∃ fd, fs[f]? = some fd ∧ fd.offset = o ∧ (P.info? fd.type).map (·.size) = some s
  | [], [], _ => ⟨rfl, fun f o s h => by simp at h⟩
  | (o, s) :: r, f :: fs, h => by
    simp only [fldsB, Bool.and_eq_true] at h
    obtain ⟨⟨⟨h1, h2⟩, h3⟩, h4⟩ := h
    obtain ⟨g1, g2⟩ := fldsB_spec h4
    refine ⟨by simp [g1], fun k o' s' hk => ?_⟩
    cases k with
    | zero =>
      simp only [List.getElem?_cons_zero, Option.some.injEq, Prod.mk.injEq] at hk
      obtain ⟨rfl, rfl⟩ := hk
      refine ⟨by simpa using h1, f, rfl, Nat.eq_of_beq_eq_true h2, ?_⟩
      cases hi : P.info? f.type with
      | none => rw [hi] at h3; cases h3
      | some i => rw [hi] at h3; exact congrArg some (Nat.eq_of_beq_eq_true h3)
    | succ k => exact g2 k o' s' hk
  | [], _ :: _, h => by cases h
  | _ :: _, [], h => by cases h
def fldsOf : TypeDesc → List Field
  | .struct fs => fs.toList
  | _ => []
theorem tiOk_of {P : Program} {T : TypeId} {i : TI} (h1 : i.zero.all Value.oneCell' = true) (h2 : Nat.beq i.zero.length i.sz = true) (h3 : P.underlying T = some i.desc) (h4 : isAggD i.desc = i.agg)
    (h6 : fldsB P i.offs (fldsOf i.desc) = true) (z : Value) (h5 : (match (P.info? T).map (fun x => (x.size, x.bytes, x.zero)) with | some (a, b, some c) => (some (a, b, some c), c.cells) | _ => (none, #[])) = (some (i.sz, i.bytes, some z), i.zero.toArray)) : TiOk P T i := by
  refine ⟨h1, Nat.eq_of_beq_eq_true h2, h3, h4, ⟨z, ?_, ?_⟩, fun fs hfs => ?_⟩
  · split at h5
    · rename_i h; rw [h]; exact (Prod.mk.inj h5).1
    · cases (Prod.mk.inj h5).1
  · split at h5
    · obtain ⟨h6, h7⟩ := Prod.mk.inj h5
      have h6 := (Prod.mk.inj (Prod.mk.inj (Option.some.inj h6)).2).2
      injection h6 with h6
      rw [← h6]; exact h7
    · cases (Prod.mk.inj h5).1
  · rw [hfs] at h6
    obtain ⟨g1, g2⟩ := fldsB_spec h6
    simp only [fldsOf] at g1 g2
    exact ⟨by simpa using g1, fun f o s h => by simpa using g2 f o s h⟩
def tabGet : List (Nat × TI) → Tab
  | [], _ => none
  | (k, i) :: r, T => match Nat.beq k T with | true => some i | false => tabGet r T
def AllOk (P : Program) : List (Nat × TI) → Prop
  | [] => True
  | (T, i) :: r => TiOk P T i ∧ AllOk P r
theorem tabOk_of {P : Program} {l : List (Nat × TI)} (h : AllOk P l) : TabOk P (tabGet l) := by
  intro T i hi
  induction l with
  | nil => cases hi
  | cons p r ih =>
    obtain ⟨k, j⟩ := p
    simp only [tabGet] at hi
    by_cases e : k = T
    · subst e; rw [Nat.beq_refl] at hi; injection hi with hi; rw [← hi]; exact h.1
    · rw [nbeq_ne e] at hi; exact ih h.2 hi

/-- Nothing that is frozen or owned has turned. -/
def Stay (F : Nat → Nat → Prop) (σ : List Res) (w w1 : World) : Prop := (∀ b o, F b o → w1.cell? ⟨b, o, none⟩ = w.cell? ⟨b, o, none⟩) ∧ ∀ k, k ∈ blks σ → w1.heap[k]? = w.heap[k]?
theorem Stay.refl (F : Nat → Nat → Prop) (σ : List Res) (w : World) : Stay F σ w w := ⟨fun _ _ _ => rfl, fun _ _ => rfl⟩

/-- An operation that yields this value and does nothing. -/
def QOp (P : Program) (o : Oper) (a : Fr) (σ : List Res) (d : Dat) : Prop :=
  ∀ F w (ca : Act), Inv F σ w → VL F w a ca.tmps → ∃ cv, V F w d cv ∧ ∀ w1, Stay F σ w w1 → (execOp ca.eval o).run P w1 = .ok (.value cv) w1

/-- whether an operation is carried out -/
def agd (ops : Array Oper) (a : Fr) (o : Oper) : Option Bool :=
  match o.guard with
  | none => some true
  | some (j, b) => match (ops[j]?).bind (·.dst) with
    | some t => match a.get t with
      | .raw (.bool x) => some (x == b)
      | .raw (.tuple _) => some false
      | _ => none
    | none => none

theorem agd_spec {ops : Array Oper} {a : Fr} {o : Oper} {F : Nat → Nat → Prop} {w : World} {ca : Act} (h : VL F w a ca.tmps) {r : Bool} (hg : agd ops a o = some r) : Region.wanted o (yielded ops ca.tmps) = r := by
  unfold agd at hg
  unfold Region.wanted
  cases hgd : o.guard with
  | none => rw [hgd] at hg; simpa using hg
  | some jb =>
    obtain ⟨j, b⟩ := jb
    rw [hgd] at hg
    simp only at hg ⊢
    cases ht : (ops[j]?).bind (·.dst) with
    | none => rw [ht] at hg; cases hg
    | some t =>
      rw [ht] at hg
      simp only at hg
      have hv := h t
      split at hg
      · rename_i x hx
        rw [hx] at hv
        have : ca.tmps.getD t undef = .bool x := by
          generalize ca.tmps.getD t undef = q at hv
          cases hv; rfl
        have hlt : ca.tmps[t]? = some (.bool x) := by
          rw [Array.getD_eq_getD_getElem?] at this
          cases h' : ca.tmps[t]? with
          | none => rw [h'] at this; cases this
          | some u => rw [h'] at this; exact congrArg some this
        have : yielded ops ca.tmps j = some x := by unfold yielded; rw [ht]; simp [hlt]
        rw [this]
        have hg := Option.some.inj hg
        subst hg
        cases x <;> cases b <;> decide
      · rename_i x hx
        rw [hx] at hv
        have : ca.tmps.getD t undef = .tuple x := by
          generalize ca.tmps.getD t undef = q at hv
          cases hv; rfl
        have : yielded ops ca.tmps j = none := by
          unfold yielded
          rw [ht]
          rw [Array.getD_eq_getD_getElem?] at this
          cases h' : ca.tmps[t]? with
          | none => simp [h']
          | some u => rw [h'] at this; have : u = .tuple x := this; simp [h', this]
        rw [this]
        have hg := Option.some.inj hg
        subst hg
        cases b <;> decide
      · cases hg

section
variable {P : Program} {n : Nat} {ds : List Deferred} {Q : Post} {a : Fr} {σ : List Res} {ops : Array Oper} {rest : List Oper} {o : Oper}

/-- A list of operations. -/
structure ALst (P : Program) (n : Nat) (ds : List Deferred) (ops : Array Oper) (rest : List Oper) (Q : Post) (a : Fr) (σ : List Res) : Prop where
  run : ∀ F w ca, ca.defers = ds → ca.tmps.size = n → Inv F σ w → VL F w a ca.tmps → wpList P ops (lift n ds F σ w Q) rest ca w

theorem awp_region {id : Nat} {l : List Oper} (h : ALst P n ds l.toArray l Q a σ) : AWP P n ds (.region id l.toArray false) Q a σ :=
  ⟨fun F w ca h1 h2 h3 h4 => wp_region_lit (h.run F w ca h1 h2 h3 h4)⟩

theorem alst_nil (h : Q .normal a σ) : ALst P n ds ops [] Q a σ := ⟨fun _ _ _ h1 h2 h3 h4 => lift_now h1 h2 h3 h4 h⟩

theorem wpList_mono {Q Q' : Exit → Act → World → Prop} (hq : ∀ e a w, Q e a w → Q' e a w) : ∀ (l : List Oper) (a : Act) (w : World), wpList P ops Q l a w → wpList P ops Q' l a w
  | [], a, w, h => hq _ _ _ h
  | o :: rest, a, w, h => by
    unfold wpList at h ⊢
    split
    · rename_i hw
      rw [if_pos hw] at h
      rcases h with h | ⟨h1, a', w', h2⟩
      · left
        unfold Oper.wp at h ⊢
        generalize (execOp a.eval o).run P w = r at *
        cases r with
        | ok x w' =>
          cases x <;> simp only [Oper.upon] at h ⊢
          case value => exact wpList_mono hq _ _ _ h
          case skip => exact wpList_mono hq _ _ _ h
          case defer => exact wpList_mono hq _ _ _ h
          case enter =>
            refine Calls.mono h fun e w'' he => ?_
            cases e with
            | returned v => exact wpList_mono hq _ _ _ he
            | panicked c => exact hq _ _ _ he
            | outgrown => obtain ⟨a', w', h⟩ := he; exact ⟨a', w', hq _ _ _ h⟩
          case row => exact Rows.mono h fun v w'' he => wpList_mono hq _ _ _ he
        | halt x w' => cases x <;> simp only [Oper.upon] at h ⊢ <;> first | exact h | exact hq _ _ _ h
      · exact .inr ⟨h1, a', w', hq _ _ _ h2⟩
    · rename_i hw
      rw [if_neg hw] at h
      exact wpList_mono hq _ _ _ h

theorem alst_skip {t : Nat} (hg : agd ops a o = some false) (hd : o.dst = some t) (ht : Nat.blt t n = true) (h : ALst P n ds ops rest Q ((t, .raw undef) :: a) σ) : ALst P n ds ops (o :: rest) Q a σ := by
  refine ⟨fun F w ca h1 h2 h3 h4 => ?_⟩
  unfold wpList
  rw [agd_spec h4 hg, if_neg (by simp), hd]
  refine h.run F w _ h1 ?_ h3 (h4.put ?_ (.raw _))
  · simp [Act.put, h2]
  · rw [h2]; simpa using ht
theorem alst_skip_none (hg : agd ops a o = some false) (hd : o.dst = none) (h : ALst P n ds ops rest Q a σ) : ALst P n ds ops (o :: rest) Q a σ := by
  refine ⟨fun F w ca h1 h2 h3 h4 => ?_⟩
  unfold wpList
  rw [agd_spec h4 hg, if_neg (by simp), hd]
  exact h.run F w ca h1 h2 h3 h4

theorem alst_q {t : Nat} {d : Dat} (hq : QOp P o a σ d) (hd : o.dst = some t) (hg : agd ops a o = some true) (ht : Nat.blt t n = true) (h : ALst P n ds ops rest Q ((t, d) :: a) σ) : ALst P n ds ops (o :: rest) Q a σ := by
  refine ⟨fun F w ca h1 h2 h3 h4 => ?_⟩
  obtain ⟨cv, hv, hr⟩ := hq F w ca h3 h4
  unfold wpList
  rw [agd_spec h4 hg, if_pos rfl]
  left
  unfold Oper.wp
  rw [hr w (Stay.refl _ _ _), Oper.upon_value, hd]
  refine h.run F w _ h1 ?_ h3 (h4.put ?_ hv)
  · simp [Act.put, h2]
  · rw [h2]; simpa using ht

/-- An operation of any kind. -/
def AOp (P : Program) (n : Nat) (ds : List Deferred) (o : Oper) (K : Fr → List Res → Prop) (Q : Post) (a : Fr) (σ : List Res) : Prop :=
  ∀ F w ca, ca.defers = ds → ca.tmps.size = n → Inv F σ w → VL F w a ca.tmps → o.wp P ca w (lift n ds F σ w (athen K Q) .normal) (lift n ds F σ w Q)

theorem Oper.wp_mono' {o : Oper} {a : Act} {w : World} {K K' : Act → World → Prop} {Q : Exit → Act → World → Prop} (h : ∀ a w, K a w → K' a w) (hh : o.wp P a w K Q) : o.wp P a w K' Q := by
  unfold Oper.wp at hh ⊢
  generalize (execOp a.eval o).run P w = r at *
  cases r with
  | ok x w' =>
    cases x <;> simp only [Oper.upon] at hh ⊢
    case value => exact h _ _ hh
    case skip => exact h _ _ hh
    case defer => exact h _ _ hh
    case enter =>
      refine Calls.mono hh fun e w'' he => ?_
      cases e with
      | returned v => exact h _ _ he
      | panicked c => exact he
      | outgrown => exact he
    case row => exact Rows.mono hh fun v w'' he => h _ _ he
  | halt x w' => cases x <;> simp only [Oper.upon] at hh ⊢ <;> exact hh

theorem alst_op (hg : agd ops a o = some true) (hq : AOp P n ds o (ALst P n ds ops rest Q) Q a σ) : ALst P n ds ops (o :: rest) Q a σ := by
  refine ⟨fun F w ca h1 h2 h3 h4 => ?_⟩
  unfold wpList
  rw [agd_spec h4 hg, if_pos rfl]
  left
  refine Oper.wp_mono' (fun ca' w' hl => ?_) (hq F w ca h1 h2 h3 h4)
  obtain ⟨g1, g2, F', a', σ', g3, g4, g5, g6⟩ := hl
  exact wpList_mono (fun e _ _ q => lift_trans g3 q) _ _ _ (g6.run F' w' ca' g1 g2 g4 g5)
end

/-! ### the operations that do nothing to memory -/
section
variable {P : Program} {a : Fr} {σ : List Res} {o : Oper}

theorem q_move {x : Operand} {d : Dat} (ho : o.op = .move x) (hx : ev a x = d) : QOp P o a σ d := by
  intro F w ca hi hv
  refine ⟨ca.eval x, hx ▸ ev_V hv x, fun w1 _ => ?_⟩
  simp [execOp, ho]
theorem q_assign {x : Operand} {d : Dat} (ho : o.op = .assign x) (hx : ev a x = d) : QOp P o a σ d := by
  intro F w ca hi hv
  refine ⟨ca.eval x, hx ▸ ev_V hv x, fun w1 _ => ?_⟩
  simp [execOp, ho]

/-- what an operator makes of two values, where it needs nothing of the program -/
def binv : BinOp → Value → Value → Option Value
  | .shl, .int k a, .int _ b => if 0 ≤ b then some (.int k (k.wrap (a * 2 ^ (min b.toNat k.bits)))) else none
  | .shr, .int k a, .int _ b => if 0 ≤ b then some (.int k (a.fdiv (2 ^ (min b.toNat k.bits)))) else none
  | .add, .int k a, .int k' b => if k = k' then some (.int k (k.wrap (a + b))) else none
  | .sub, .int k a, .int k' b => if k = k' then some (.int k (k.wrap (a - b))) else none
  | .mul, .int k a, .int k' b => if k = k' then some (.int k (k.wrap (a * b))) else none
  | .quo, .int k a, .int k' b => if k = k' then (if b = 0 then none else some (.int k (k.wrap (a.tdiv b)))) else none
  | .rem, .int k a, .int k' b => if k = k' then (if b = 0 then none else some (.int k (a.tmod b))) else none
  | .and, .int k a, .int k' b => if k = k' then some (.int k (k.wrap ((BitVec.ofInt k.bits a &&& BitVec.ofInt k.bits b).toNat : Int))) else none
  | .or, .int k a, .int k' b => if k = k' then some (.int k (k.wrap ((BitVec.ofInt k.bits a ||| BitVec.ofInt k.bits b).toNat : Int))) else none
  | .xor, .int k a, .int k' b => if k = k' then some (.int k (k.wrap ((BitVec.ofInt k.bits a ^^^ BitVec.ofInt k.bits b).toNat : Int))) else none
  | .eql, .int k a, .int k' b => if k = k' then some (.bool (decide (a = b))) else none
  | .neq, .int k a, .int k' b => if k = k' then some (.bool (!decide (a = b))) else none
  | .lss, .int k a, .int k' b => if k = k' then some (.bool (decide (a < b))) else none
  | .leq, .int k a, .int k' b => if k = k' then some (.bool (decide (a ≤ b))) else none
  | .gtr, .int k a, .int k' b => if k = k' then some (.bool (decide (b < a))) else none
  | .geq, .int k a, .int k' b => if k = k' then some (.bool (decide (b ≤ a))) else none
  | .eql, .string a, .string b => some (.bool (decide (a = b)))
  | .neq, .string a, .string b => some (.bool (!decide (a = b)))
  | .lss, .string a, .string b => some (.bool (Op.bytesLess a.toList b.toList))
  | _, _, _ => none

theorem toList_beq (a b : ByteArray) : (a.toList == b.toList) = decide (a = b) := by
  rw [Bool.eq_iff_iff, beq_iff_eq, decide_eq_true_iff]
  constructor
  · intro h
    have : a.data.toList = b.data.toList := by simpa [ByteArray.toList_eq] using h
    cases a; cases b
    simp only [ByteArray.mk.injEq]
    exact Array.toList_inj.1 this
  · rintro rfl; rfl

theorem run_binv {op : BinOp} {vx vy v : Value} (h : binv op vx vy = some v) (t : TypeId) (x y : Operand) (w : World) :
    (do eqGuard op t x y vx vy; binOp op t vx vy : Sem Value).run P w = .ok v w := by
  unfold binv at h
  split at h
  all_goals try (split at h)
  all_goals try (split at h)
  all_goals first
    | cases h; done
    | skip
  all_goals (injection h with h; subst h)
  all_goals (try (rename_i hk; subst hk))
  all_goals try (rename_i hk _; subst hk)
  all_goals simp_all [eqGuard, binOp, Op.shift, Op.intArith, Op.intDiv, Op.intBits, Op.intCmp, Op.stringOp, toList_beq]
  all_goals first | omega | (rw [Bool.eq_iff_iff]; simp)

theorem q_bin {op : BinOp} {t t' : TypeId} {x y : Operand} {vx vy v : Value} (ho : o.op = .binOp op t x y t') (hx : ev a x = .raw vx) (hy : ev a y = .raw vy) (h : binv op vx vy = some v) : QOp P o a σ (.raw v) := by
  intro F w ca hi hv
  refine ⟨v, .raw v, fun w1 _ => ?_⟩
  have h1 := run_binv (P := P) h t x y w1
  simp only [execOp, ho, Sem.run_bind, ev_raw hv hx, ev_raw hv hy, h1] at h1 ⊢
  simp [h1]

theorem raw_of {F : Nat → Nat → Prop} {w : World} {v cv : Value} (h : V F w (.raw v) cv) : cv = v := by cases h; rfl

theorem q_not {t : TypeId} {x : Operand} {b : Bool} (ho : o.op = .unOp .not t x) (hx : ev a x = .raw (.bool b)) : QOp P o a σ (.raw (.bool (!b))) := by
  intro F w ca hi hv
  refine ⟨_, .raw _, fun w1 _ => ?_⟩
  simp [execOp, ho, ev_raw hv hx, Op.unary]
theorem q_neg {t : TypeId} {x : Operand} {k : IntKind} {i : Int} (ho : o.op = .unOp .neg t x) (hx : ev a x = .raw (.int k i)) : QOp P o a σ (.raw (.int k (k.wrap (0 - i)))) := by
  intro F w ca hi hv
  refine ⟨_, .raw _, fun w1 _ => ?_⟩
  simp [execOp, ho, ev_raw hv hx, Op.unary, Op.intArith]

theorem q_pick {c x y : Operand} {b : Bool} {d : Dat} (ho : o.op = .pick c x y) (hc : ev a c = .raw (.bool b)) (hd : (match b with | true => ev a x | false => ev a y) = d) : QOp P o a σ d := by
  intro F w ca hi hv
  refine ⟨if b then ca.eval x else ca.eval y, ?_, fun w1 _ => ?_⟩
  · cases b
    · exact hd ▸ ev_V hv y
    · exact hd ▸ ev_V hv x
  · simp only [execOp, ho, ev_raw hv hc, asBool]; cases b <;> simp

theorem q_extract {x : Operand} {i : Nat} {l : List Dat} {d : Dat} (ho : o.op = .extract x i) (hx : ev a x = .tup l) (hd : l[i]? = some d) : QOp P o a σ d := by
  intro F w ca hi hv
  have h := ev_V hv x
  rw [hx] at h
  generalize he : ca.eval x = e at h
  cases h with
  | tup _ cs hl hV =>
    have hlt : i < cs.length := hl ▸ (List.getElem?_eq_some_iff.1 hd).1
    refine ⟨cs[i], hV i d _ hd (List.getElem?_eq_getElem hlt), fun w1 _ => ?_⟩
    simp [execOp, ho, he, Instr.extract, hlt]

/-- the length that a value shows -/
inductive HasLen : Dat → Nat → Prop
  | slm {α : Type} (sz : Nat) (xs : List α) (f : α → List Dat) : HasLen (.sl sz (xs.map f)) xs.length
  | oslm {α : Type} (k : Nat) (v : Value) (sz : Nat) (xs : List α) (f : α → List Dat) : HasLen (.osl k v sz (xs.map f)) xs.length
  | sl (sz : Nat) (l : List (List Dat)) : HasLen (.sl sz l) l.length
  | osl (k : Nat) (v : Value) (sz : Nat) (l : List (List Dat)) : HasLen (.osl k v sz l) l.length
  | msl (k : Nat) (v : Value) (n : Nat) : HasLen (.msl k v n) n
  | nil : HasLen (.raw (.slice none 0 0)) 0
theorem HasLen.slice {d : Dat} {n : Nat} (h : HasLen d n) {F : Nat → Nat → Prop} {w : World} {cv : Value} (hv : V F w d cv) : ∃ A c, cv = .slice A n c := by
  cases h with
  | slm sz l f => rw [show l.length = (l.map f).length by simp]; cases hv; exact ⟨_, _, rfl⟩
  | oslm k v sz l f =>
    rw [show l.length = (l.map f).length by simp]
    cases hv with
    | osl _ _ _ _ h => cases h; exact ⟨_, _, rfl⟩
  | sl sz l => cases hv; exact ⟨_, _, rfl⟩
  | osl k v sz l =>
    cases hv with
    | osl _ _ _ _ h => cases h; exact ⟨_, _, rfl⟩
  | msl k v n =>
    cases hv with
    | msl _ _ _ h => exact h
  | nil => exact ⟨none, 0, raw_of hv⟩

theorem q_len {t : TypeId} {x : Operand} {e : TypeId} {m : Nat} (ho : o.op = .call { callee := .builtin .len, args := #[x], argTypes := #[t] }) (hu : P.underlying t = some (.slice e)) (hx : HasLen (ev a x) m) : QOp P o a σ (.raw (.int .i64 m)) := by
  intro F w ca hi hv
  obtain ⟨A, c, he⟩ := hx.slice (ev_V hv x)
  refine ⟨_, .raw _, fun w1 _ => ?_⟩
  simp [execOp, ho, resolve, invoke, builtin, Builtin.len_, run_underlying hu, he, goInt]

theorem q_len_string {t : TypeId} {x : Operand} {s : ByteArray} (ho : o.op = .call { callee := .builtin .len, args := #[x], argTypes := #[t] }) (hu : P.underlying t = some .string) (hx : ev a x = .raw (.string s)) : QOp P o a σ (.raw (.int .i64 s.size)) := by
  intro F w ca hi hv
  refine ⟨_, .raw _, fun w1 _ => ?_⟩
  simp [execOp, ho, resolve, invoke, builtin, Builtin.len_, run_underlying hu, ev_raw hv hx, goInt]

theorem add_off (b o n : Nat) : (⟨b, o, none⟩ : Addr).add n = ⟨b, o + n, none⟩ := Addr.add_lit b o n

/-- frozen elements -/
inductive HasSl : Dat → Nat → List (List Dat) → Prop
  | sl (sz : Nat) (l : List (List Dat)) : HasSl (.sl sz l) sz l
  | osl (k : Nat) (v : Value) (sz : Nat) (l : List (List Dat)) : HasSl (.osl k v sz l) sz l
  | nil (sz : Nat) : HasSl (.raw (.slice none 0 0)) sz []
theorem HasSl.V {d : Dat} {sz : Nat} {l : List (List Dat)} (h : HasSl d sz l) {F : Nat → Nat → Prop} {w : World} {cv : Value} (hv : V F w d cv) : V F w (.sl sz l) cv := by
  cases h with
  | sl => exact hv
  | osl => cases hv; assumption
  | nil =>
    rw [raw_of hv]
    exact .sl sz [] none 0 0 0 (fun _ _ => undef) (fun h => absurd h (by decide)) (Nat.le_refl _) (by simp) (by simp) (by simp) (by simp)

theorem q_indexAddr {tab : Tab} (htab : TabOk P tab) {t e : TypeId} {x ix : Operand} {k : IntKind} {i : Int} {sz : Nat} {l : List (List Dat)} {y : List Dat} {ti : TI} (ho : o.op = .indexAddr t x ix) (hu : P.underlying t = some (.slice e)) (hte : tab e = some ti) (hsz : ti.sz = sz)
    (hi : ev a ix = .raw (.int k i)) (hx : HasSl (ev a x) sz l) (h0 : 0 ≤ i) (hy : l[i.toNat]? = some y) : QOp P o a σ (.el y 0) := by
  intro F w ca hinv hv
  have h := hx.V (ev_V hv x)
  have hz := (htab e ti hte).run_sizeOf
  generalize he : ca.eval x = ex at h
  cases h with
  | sl _ _ A b o' c f hA hc hm hz' hF hV =>
    have hlt : i.toNat < l.length := (List.getElem?_eq_some_iff.1 hy).1
    have hA := hA (by omega)
    refine ⟨.pointer (some ⟨b, o' + i.toNat * sz + 0, none⟩), .el y 0 b (o' + i.toNat * sz) (f i.toNat) (fun j d hd => by rw [Nat.add_assoc]; exact hF _ _ hy j d hd) (fun j d hd => hV _ _ hy j d hd), fun w1 _ => ?_⟩
    have hcond : 0 ≤ i ∧ i < (l.length : Int) := ⟨h0, by omega⟩
    simp [execOp, ho, he, Instr.indexAt, ev_raw hv hi, asIntOf, run_underlying hu, hA, hz, hcond, add_off, hsz]

theorem run_sizeOf_of {t : TypeId} {s : Nat} (h : (P.info? t).map (·.size) = some s) (w : World) : (sizeOf t).run P w = .ok s w := by
  cases hi : P.info? t with
  | none => rw [hi] at h; cases h
  | some inf => rw [hi] at h; simp only [Option.map_some, Option.some.injEq] at h; simp [sizeOf, typeInfo, hi, h]

theorem q_fieldAddr_el {tab : Tab} (htab : TabOk P tab) {t : TypeId} {x : Operand} {f fo fsz off : Nat} {y : List Dat} {ti : TI} {fs : Array Field} (ho : o.op = .fieldAddr t x f) (hte : tab t = some ti) (hdesc : ti.desc = .struct fs) (hf : ti.offs[f]? = some (fo, fsz))
    (hx : ev a x = .el y off) : QOp P o a σ (.el y (off + fo)) := by
  intro F w ca hinv hv
  have h := ev_V hv x
  rw [hx] at h
  obtain ⟨h0, fd, h1, h2, h3⟩ := ((htab t ti hte).flds fs hdesc).2 f fo fsz hf
  have hu := (htab t ti hte).und
  rw [hdesc] at hu
  generalize he : ca.eval x = ex at h
  cases h with
  | el _ _ b o' g hF hV =>
    refine ⟨.pointer (some ⟨b, o' + (off + fo), none⟩), .el y (off + fo) b o' g hF hV, fun w1 _ => ?_⟩
    have hs := run_sizeOf_of h3
    have h0' : fsz ≠ 0 := by omega
    simp [execOp, ho, he, Instr.fieldAt, run_underlying hu, h1, Instr.sureAddr, fieldPlace, hs, h0', h2, add_off, Nat.add_assoc]
theorem q_fieldAddr_ref {tab : Tab} (htab : TabOk P tab) {t : TypeId} {x : Operand} {f fo fsz k b off : Nat} {ti : TI} {fs : Array Field} (ho : o.op = .fieldAddr t x f) (hte : tab t = some ti) (hdesc : ti.desc = .struct fs) (hf : ti.offs[f]? = some (fo, fsz))
    (hx : ev a x = .ref k b off) : QOp P o a σ (.ref k b (off + fo)) := by
  intro F w ca hinv hv
  have h := ev_V hv x
  rw [hx] at h
  obtain ⟨h0, fd, h1, h2, h3⟩ := ((htab t ti hte).flds fs hdesc).2 f fo fsz hf
  have hu := (htab t ti hte).und
  rw [hdesc] at hu
  generalize he : ca.eval x = ex at h
  cases h with
  | ref =>
    refine ⟨.pointer (some ⟨b, off + fo, none⟩), .ref _ _ _, fun w1 _ => ?_⟩
    have hs := run_sizeOf_of h3
    have h0' : fsz ≠ 0 := by omega
    simp [execOp, ho, he, Instr.fieldAt, run_underlying hu, h1, Instr.sureAddr, fieldPlace, hs, h0', h2, add_off, Nat.add_assoc]

theorem run_loadVar_one {tab : Tab} (htab : TabOk P tab) {t : TypeId} {ti : TI} (hte : tab t = some ti) (hagg : ti.agg = false) {w : World} {ad : Addr} {v : Value} (h : w.cell? ad = some v) : (loadVar t ad).run P w = .ok v w := by
  simp [loadVar, (htab t ti hte).run_isAgg, hagg, run_load, h]

theorem q_load_el {tab : Tab} (htab : TabOk P tab) {t : TypeId} {x : Operand} {off : Nat} {y : List Dat} {d : Dat} {ti : TI} (ho : o.op = .load t x) (hx : ev a x = .el y off) (hte : tab t = some ti) (hagg : ti.agg = false) (hd : y[off]? = some d) : QOp P o a σ d := by
  intro F w ca hinv hv
  have h := ev_V hv x
  rw [hx] at h
  generalize he : ca.eval x = ex at h
  cases h with
  | el _ _ b o' g hF hV =>
    refine ⟨g off, hV _ _ hd, fun w1 hs => ?_⟩
    have h1 := run_loadVar_one htab hte hagg ((hs.1 _ _ (hF _ _ hd).1).trans (hF _ _ hd).2)
    simp [execOp, ho, he, Instr.loadAt, Instr.sureAddr, h1]

theorem run_loadCells_fun (w : World) (b o : Nat) (g : Nat → Value) (m : Nat) (h : ∀ j, j < m → w.cell? ⟨b, o + j, none⟩ = some (g j)) : (loadCells ⟨b, o, none⟩ m).run P w = .ok ((List.range m).map g).toArray w := by
  have := run_loadCells_list (P := P) (w := w) ⟨b, o, none⟩ ((List.range m).map g) (fun j v hj => by
    rw [List.getElem?_map] at hj
    rw [add_off]
    rcases Nat.lt_or_ge j m with hlt | hge
    · rw [List.getElem?_range hlt] at hj; injection hj with hj; rw [← hj]; exact h j hlt
    · rw [List.getElem?_eq_none (by simpa using hge)] at hj; cases hj)
  simpa using this

theorem q_load_el_agg {tab : Tab} (htab : TabOk P tab) {t : TypeId} {x : Operand} {off m : Nat} {y z : List Dat} {ti : TI} (ho : o.op = .load t x) (hx : ev a x = .el y off) (hte : tab t = some ti) (hagg : ti.agg = true) (hm : ti.sz = m) (hz : (y.drop off).take m = z) (hl : off + m ≤ y.length) : QOp P o a σ (.agg z) := by
  intro F w ca hinv hv
  have h := ev_V hv x
  rw [hx] at h
  generalize he : ca.eval x = ex at h
  cases h with
  | el _ _ b o' g hF hV =>
    have hzl : z.length = m := by rw [← hz, List.length_take, List.length_drop]; omega
    refine ⟨.agg ((List.range m).map fun j => g (off + j)).toArray, .agg z _ (by simp [hzl]) (fun j d v hd hv => ?_), fun w1 hs => ?_⟩
    · rw [List.getElem?_map] at hv
      have hj : j < m := hzl ▸ (List.getElem?_eq_some_iff.1 hd).1
      rw [List.getElem?_range hj] at hv
      injection hv with hv
      rw [← hv]
      refine hV _ _ ?_
      rw [← hz, List.getElem?_take, if_pos hj, List.getElem?_drop] at hd
      exact hd
    · have h1 := run_loadCells_fun (P := P) w1 b (o' + off) (fun j => g (off + j)) m (fun j hj => by
        have hd : y[off + j]? = some y[off + j] := List.getElem?_eq_getElem (by omega)
        rw [Nat.add_assoc]
        exact (hs.1 _ _ (hF _ _ hd).1).trans (hF _ _ hd).2)
      simp [execOp, ho, he, Instr.loadAt, Instr.sureAddr, loadVar, (htab t ti hte).run_isAgg, hagg, (htab t ti hte).run_sizeOf, hm, h1]

/-- what lies at an owned block -/
theorem Inv.box {F : Nat → Nat → Prop} {w : World} (h : Inv F σ w) {m k b : Nat} {T : TypeId} {cells : List Dat} (hm : σ[m]? = some (.box k b T cells)) : ResOk F w (.box k b T cells) := h.res _ (List.mem_of_getElem? hm)

theorem q_load_box {tab : Tab} (htab : TabOk P tab) {t : TypeId} {x : Operand} {k k' b off : Nat} {d : Dat} {ti : TI} {T : TypeId} {cells : List Dat} (m : Nat) (ho : o.op = .load t x) (hx : ev a x = .ref k b off) (hm : σ[m]? = some (.box k' b T cells)) (hte : tab t = some ti) (hagg : ti.agg = false) (hd : cells[off]? = some d) : QOp P o a σ d := by
  intro F w ca hinv hv
  have h := ev_V hv x
  rw [hx] at h
  obtain ⟨cur, hc, hs, h1, hvv, hf⟩ := hinv.box hm
  have hlt : off < cur.size := by rw [hs]; exact (List.getElem?_eq_some_iff.1 hd).1
  generalize he : ca.eval x = ex at h
  cases h with
  | ref =>
    refine ⟨cur[off], hvv _ _ _ hd (Array.getElem?_eq_getElem hlt), fun w1 hs => ?_⟩
    have hb : b ∈ blks σ := mem_blks (List.mem_of_getElem? hm) rfl
    have hcell : w1.cell? ⟨b, off, none⟩ = some cur[off] := by
      rw [cell_of_row w1 b off cur T (0, 0) ((hs.2 b hb).trans hc)]; exact Array.getElem?_eq_getElem hlt
    have h2 := run_loadVar_one htab hte hagg hcell
    simp [execOp, ho, he, Instr.loadAt, Instr.sureAddr, h2]

theorem q_load_box_agg {tab : Tab} (htab : TabOk P tab) {t : TypeId} {x : Operand} {k k' b off q : Nat} {z : List Dat} {ti : TI} {T : TypeId} {cells : List Dat} (m : Nat) (ho : o.op = .load t x) (hx : ev a x = .ref k b off) (hm : σ[m]? = some (.box k' b T cells)) (hte : tab t = some ti) (hagg : ti.agg = true) (hq : ti.sz = q) (hz : (cells.drop off).take q = z) (hl : off + q ≤ cells.length) : QOp P o a σ (.agg z) := by
  intro F w ca hinv hv
  have h := ev_V hv x
  rw [hx] at h
  obtain ⟨cur, hc, hs, h1, hvv, hf⟩ := hinv.box hm
  generalize he : ca.eval x = ex at h
  cases h with
  | ref =>
    have hzl : z.length = q := by rw [← hz, List.length_take, List.length_drop]; omega
    refine ⟨.agg ((List.range q).map fun j => cur.getD (off + j) undef).toArray, .agg z _ (by simp [hzl]) (fun j d v hd hv => ?_), fun w1 hs1 => ?_⟩
    · rw [List.getElem?_map] at hv
      have hj : j < q := hzl ▸ (List.getElem?_eq_some_iff.1 hd).1
      rw [List.getElem?_range hj] at hv
      injection hv with hv
      rw [← hv]
      have hlt : off + j < cur.size := by omega
      refine hvv (off + j) _ _ ?_ (by show cur[off + j]? = some (cur.getD (off + j) undef); rw [Array.getD_eq_getD_getElem?, Array.getElem?_eq_getElem hlt]; rfl)
      rw [← hz, List.getElem?_take, if_pos hj, List.getElem?_drop] at hd
      exact hd
    · have hb : b ∈ blks σ := mem_blks (List.mem_of_getElem? hm) rfl
      have h1 := run_loadCells_fun (P := P) w1 b off (fun j => cur.getD (off + j) undef) q (fun j hj => by
        rw [cell_of_row w1 b (off + j) cur T (0, 0) ((hs1.2 b hb).trans hc), Array.getD_eq_getD_getElem?, Array.getElem?_eq_getElem (by omega)]; rfl)
      simp [execOp, ho, he, Instr.loadAt, Instr.sureAddr, loadVar, (htab t ti hte).run_isAgg, hagg, (htab t ti hte).run_sizeOf, hq, h1]

/-- values without slices that are known -/
def conc : Dat → Option Value
  | .raw v => some v
  | .ref _ b off => some (.pointer (some ⟨b, off, none⟩))
  | _ => none
theorem conc_V {d : Dat} {v : Value} (h : conc d = some v) {F : Nat → Nat → Prop} {w : World} {cv : Value} (hv : V F w d cv) : cv = v := by
  cases hv <;> simp_all [conc]

theorem q_conv_int {t t' : TypeId} {x : Operand} {k k' : IntKind} {i : Int} {dd : TypeDesc} (ho : o.op = .convert t t' x) (hs : P.underlying t = some dd) (hu : P.underlying t' = some (.int k')) (hx : ev a x = .raw (.int k i)) : QOp P o a σ (.raw (.int k' (k'.wrap i))) := by
  intro F w ca hi hv
  refine ⟨_, .raw _, fun w1 _ => ?_⟩
  simp [execOp, ho, convert, run_underlying hs, run_underlying hu, ev_raw hv hx, Conv.intToInt]
theorem q_conv_string {t t' : TypeId} {x : Operand} {s : ByteArray} {dd : TypeDesc} (ho : o.op = .convert t t' x) (hs : P.underlying t = some dd) (hu : P.underlying t' = some .string) (hx : ev a x = .raw (.string s)) : QOp P o a σ (.raw (.string s)) := by
  intro F w ca hi hv
  refine ⟨_, .raw _, fun w1 _ => ?_⟩
  cases dd <;> simp [execOp, ho, convert, run_underlying hs, run_underlying hu, ev_raw hv hx]

def concL (a : Fr) : List Operand → Option (List Value)
  | [] => some []
  | x :: r => match conc (ev a x) with
    | none => none
    | some v => match concL a r with
      | none => none
      | some vs => some (v :: vs)
theorem concL_V {F : Nat → Nat → Prop} {w : World} {ca : Act} (hv : VL F w a ca.tmps) : ∀ (l : List Operand) (us : List Value), concL a l = some us → l.map ca.eval = us := by
  intro l
  induction l with
  | nil => intro us h; simp only [concL, Option.some.injEq] at h; subst h; rfl
  | cons x l ih =>
    intro us h
    simp only [concL] at h
    cases h1 : conc (ev a x) with
    | none => rw [h1] at h; cases h
    | some v =>
      rw [h1] at h
      simp only at h
      cases h2 : concL a l with
      | none => rw [h2] at h; cases h
      | some vs =>
        rw [h2] at h
        simp only [Option.some.injEq] at h
        subst h
        rw [List.map_cons, ih vs h2, conc_V h1 (ev_V hv x)]
theorem q_makeFunc {fn : Fn} {first captured : Array Operand} {vs us : List Value} (ho : o.op = .makeFunc fn first captured) (h1 : concL a first.toList = some us) (h2 : concL a captured.toList = some vs) : QOp P o a σ (.raw (.func fn us.toArray vs.toArray)) := by
  intro F w ca hi hv
  refine ⟨_, .raw _, fun w1 _ => ?_⟩
  have e1 : first.map ca.eval = us.toArray := by apply Array.toList_inj.1; rw [Array.toList_map, concL_V hv _ _ h1]
  have e2 : captured.map ca.eval = vs.toArray := by apply Array.toList_inj.1; rw [Array.toList_map, concL_V hv _ _ h2]
  simp [execOp, ho, Instr.makeFunc, e1, e2]

theorem q_makeIface {t : TypeId} {x : Operand} {v : Value} {dd : TypeDesc} (ho : o.op = .makeInterface t x) (hu : P.underlying t = some dd) (hd : (match dd with | .interface _ => false | _ => true) = true) (hx : ev a x = .raw v) : QOp P o a σ (.raw (.iface t v)) := by
  intro F w ca hi hv
  refine ⟨_, .raw _, fun w1 _ => ?_⟩
  cases dd <;> simp_all [execOp, ho, Instr.makeInterface, run_underlying hu, ev_raw hv hx]

def notNil : Dat → Bool
  | .ref _ _ _ | .el _ _ | .mel _ _ _ _ _ => true
  | .raw (.pointer (some _)) => true
  | .raw (.func (.func _) _ _) => true
  | _ => false
theorem q_nilCheck {x : Operand} {d : Dat} (ho : o.op = .nilCheck x) (hx : ev a x = d) (hd : notNil d = true) : QOp P o a σ d := by
  intro F w ca hi hv
  have h := ev_V hv x
  rw [hx] at h
  refine ⟨ca.eval x, h, fun w1 _ => ?_⟩
  generalize he : ca.eval x = ex at h
  clear hx hv
  cases h with
  | raw v =>
    unfold notNil at hd
    split at hd
    all_goals first | cases hd; done | skip
    all_goals (rename_i h; first | (injection h with h; subst h; simp [execOp, ho, he]) | cases h)
  | ref => simp [execOp, ho, he]
  | el => simp [execOp, ho, he]
  | mel => simp [execOp, ho, he]
  | _ => cases hd

theorem q_index_string {t : TypeId} {x ix : Operand} {k : IntKind} {i : Int} {s : ByteArray} {c : UInt8} (ho : o.op = .index t x ix) (hu : P.underlying t = some .string) (hx : ev a x = .raw (.string s)) (hi : ev a ix = .raw (.int k i)) (h0 : 0 ≤ i) (hc : s[i.toNat]? = some c) : QOp P o a σ (.raw (.int .u8 c.toNat)) := by
  intro F w ca hinv hv
  refine ⟨_, .raw _, fun w1 _ => ?_⟩
  simp [execOp, ho, Instr.index, run_underlying hu, ev_raw hv hx, ev_raw hv hi, asIntOf, h0, hc]

inductive Bnd (a : Fr) : Option Operand → Nat → Nat → Prop
  | no (d : Nat) : Bnd a none d d
  | yes {x : Operand} {k : IntKind} {i : Int} (d : Nat) (h : ev a x = .raw (.int k i)) (h0 : 0 ≤ i) : Bnd a (some x) d i.toNat

theorem Bnd.run {x : Option Operand} {d m y : Nat} (h : Bnd a x d m) {F : Nat → Nat → Prop} {w w1 : World} {ca : Act} (hv : VL F w a ca.tmps) (hm : m ≤ y) (code : BoundsCode) :
    (match x.map ca.eval with | some v => Instr.sliceBound v y code | none => pure d : Sem Nat).run P w1 = .ok m w1 := by
  cases h with
  | no => simp
  | yes _ h h0 => simp only [Option.map_some, ev_raw hv h]; exact run_sliceBound _ _ _ _ _ h0 (by omega)

/-- the three bounds -/
inductive Bnds (a : Fr) : Option Operand → Option Operand → Option Operand → Nat → Nat → Nat → Prop
  | two {x y : Option Operand} {n lo hi : Nat} (hl : Bnd a x 0 lo) (hh : Bnd a y n hi) (h1 : lo ≤ hi) (h2 : hi ≤ n) : Bnds a x y none n lo hi
  | three {x : Option Operand} {y z : Operand} {n lo hi m : Nat} (hl : Bnd a x 0 lo) (hh : Bnd a (some y) n hi) (hm : Bnd a (some z) n m) (h1 : lo ≤ hi) (h2 : hi ≤ m) (h3 : m ≤ n) : Bnds a x (some y) (some z) n lo hi

theorem Bnds.run {x y z : Option Operand} {n lo hi cap : Nat} (h : Bnds a x y z n lo hi) (hc : n ≤ cap) {F : Nat → Nat → Prop} {w : World} {ca : Act} (hv : VL F w a ca.tmps) :
    ∃ m, (hi ≤ m ∧ lo ≤ hi ∧ hi ≤ n) ∧ ∀ w1, (Instr.sliceBounds true n cap (x.map ca.eval) (y.map ca.eval) (z.map ca.eval)).run P w1 = .ok (lo, hi, m) w1 := by
  cases h with
  | two hl hh h1 h2 =>
    refine ⟨cap, ⟨by omega, h1, h2⟩, fun w1 => ?_⟩
    have r1 := fun code => hl.run (P := P) (w1 := w1) (y := hi) hv h1 code
    cases hh with
    | no =>
      simp only [Instr.sliceBounds, Option.map_none, Sem.run_bind, Sem.run_pure, Result.andThen_ok]
      have := r1 .sliceB
      cases hl <;> simp_all
    | yes _ h h0 =>
      have r2 := fun k => run_sliceBound (P := P) w1 k _ cap .sliceAcap h0 (by omega)
      have := r1 .sliceB
      cases hl <;> simp_all [Instr.sliceBounds, ev_raw hv h]
  | three hl hh hm h1 h2 h3 =>
    rename_i m
    refine ⟨m, ⟨h2, h1, by omega⟩, fun w1 => ?_⟩
    have r1 := hl.run (P := P) (w1 := w1) (y := hi) hv h1 .slice3C
    cases hh with
    | yes _ h h0 =>
    cases hm with
    | yes _ h' h0' =>
      rename_i k2 i2
      have r2 := fun k => run_sliceBound (P := P) w1 k _ cap .slice3Acap h0' (by omega)
      have r3 := fun k => run_sliceBound (P := P) w1 k _ i2.toNat .slice3B h0 (by omega)
      cases hl <;> simp_all [Instr.sliceBounds, ev_raw hv h, ev_raw hv h']

theorem q_slice {tab : Tab} (htab : TabOk P tab) {t e : TypeId} {x : Operand} {low high mx : Option Operand} {sz lo hi : Nat} {l l' : List (List Dat)} {ti : TI} (ho : o.op = .slice t x low high mx) (hu : P.underlying t = some (.slice e)) (hte : tab e = some ti) (hsz : ti.sz = sz)
    (hx : HasSl (ev a x) sz l) (hb : Bnds a low high mx l.length lo hi) (hl : (l.take hi).drop lo = l') : QOp P o a σ (.sl sz l') := by
  intro F w ca hinv hv
  have h := hx.V (ev_V hv x)
  have hz := (htab e ti hte).run_sizeOf
  generalize he : ca.eval x = ex at h
  cases h with
  | sl _ _ A b o' c f hA hc hm hz' hF hV =>
    obtain ⟨m, ⟨hm1, hm2, hm3⟩, hr⟩ := hb.run (P := P) (cap := c) hc hv
    have hlen : l'.length = hi - lo := by rw [← hl, List.length_drop, List.length_take]; omega
    have hget : ∀ i x, l'[i]? = some x → l[lo + i]? = some x := fun i x hx => by
      rw [← hl, List.getElem?_drop, List.getElem?_take] at hx
      split at hx
      · exact hx
      · cases hx
    refine ⟨.slice (if m = lo then A else A.map (·.add (lo * sz))) l'.length (m - lo), ?_, fun w1 hs => ?_⟩
    · refine .sl sz l' _ b (o' + lo * sz) _ (fun i j => f (lo + i) j) (fun hp => ?_) (by omega) (by omega) (fun x hx => ?_) (fun i x hx j d hd => ?_) (fun i x hx j d hd => hV _ _ (hget i x hx) j d hd)
      · rw [if_neg (by omega), hA (by omega)]; simp [add_off]
      · obtain ⟨i, hi⟩ := List.getElem?_of_mem hx
        exact hz' x (List.mem_of_getElem? (hget i x hi))
      · have := hF _ _ (hget i x hx) j d hd
        rw [Nat.add_mul] at this
        rw [show o' + lo * sz + (i * sz + j) = o' + (lo * sz + i * sz + j) by omega]; exact this
    · simp [execOp, ho, he, Instr.sliceAt, Instr.slice, run_underlying hu, hr, hz, hsz, hlen]

theorem q_slice_string {t : TypeId} {x : Operand} {low high : Option Operand} {lo hi : Nat} {s : ByteArray} (ho : o.op = .slice t x low high none) (hu : P.underlying t = some .string) (hx : ev a x = .raw (.string s)) (hb : Bnds a low high none s.size lo hi) : QOp P o a σ (.raw (.string (s.extract lo hi))) := by
  intro F w ca hinv hv
  refine ⟨_, .raw _, fun w1 hs => ?_⟩
  cases hb with
  | two hl hh h1 h2 =>
    have r1 := hl.run (P := P) (w1 := w1) (y := hi) hv h1 .sliceB
    cases hh with
    | no => cases hl <;> simp_all [execOp, ho, Instr.sliceAt, Instr.slice, run_underlying hu, ev_raw hv hx, Instr.sliceBounds]
    | yes _ h h0 =>
      have r2 := fun k => run_sliceBound (P := P) w1 k _ s.size .sliceAlen h0 (by omega)
      cases hl <;> simp_all [execOp, ho, Instr.sliceAt, Instr.slice, run_underlying hu, ev_raw hv hx, ev_raw hv h, Instr.sliceBounds]
end
end Go.Proofs.Ytbfejlmamncemaa.Sk
