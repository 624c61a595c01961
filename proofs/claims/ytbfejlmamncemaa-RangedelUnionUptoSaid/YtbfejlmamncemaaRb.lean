/- Keys and numbers sorted and freed of what stands twice: the library's functions over abstract values. No condition. -/
import Derived.Test.YtbfejlmamncemaaRa
import Derived.Test.YtbfejlmamncemaaSkG
namespace Go.Proofs.Ytbfejlmamncemaa.Sk
open Go Go.RowKit Go.Proofs
set_option linter.unusedVariables false

theorem lib_sortK (how : Int) (b k kb : Nat) (v : Value) (l : List ByteArray) (hl : l.length < 4611686018427387904) :
    ACalls Try.prog 41 [.msl k v l.length, .raw (.func (.func 39) #[] #[.pointer (some ⟨b, 0, none⟩)])] [.own k v 9 1 (l.map encS) false, .box kb b 3 [.raw (.int .i64 how)]]
      (RV (.tup []) [.own k v 9 1 ((sortK how l).map encS) false, .box kb b 3 [.raw (.int .i64 how)]]) := by
  refine acalls_row (more := [.func (.func 39) #[] #[.pointer (some ⟨b, 0, none⟩)]]) (fnOk Try.func41 (by decide) rfl) Value.string (fun _ => rfl) l fun F w hi hown => ?_
  obtain ⟨cur, hc, hs, _, hv, _⟩ := hi.res (.box kb b 3 [.raw (.int .i64 how)]) (by simp)
  have hcell : w.cell? ⟨b, 0, none⟩ = some (.int .i64 how) := by
    rw [cell_of_row w b 0 cur _ _ hc]
    have h0 : 0 < cur.size := by rw [hs]; exact Nat.zero_lt_one
    rw [Array.getElem?_eq_getElem h0, raw_of (hv 0 _ _ rfl (Array.getElem?_eq_getElem h0))]
  have hne : v.ownBlock ≠ some b := fun e => by
    have := hi.nodup
    rw [blks_cons, blks_cons] at this
    simp [Res.blk, e] at this
  refine (sort_keys how b l v l.length w rfl hl hown hcell hne).mono ?_
  rintro e w' ⟨rfl, h1, h2⟩
  have hlen : (sortK how l).length = l.length := by simp [sortK]
  exact ⟨v, .tup [], sortK how l, .tup [] [] rfl (fun j d v hd => by simp at hd), by rw [hlen]; exact h1, rfl, h2, rfl, rfl⟩

theorem lib_sortN (k : Nat) (v : Value) (l : List Int) (hl : l.length < 4611686018427387904) :
    ACalls Try.prog 43 [.msl k v l.length, .raw (.func (.func 44) #[] #[])] [.own k v 36 1 (l.map encN) false]
      (RV (.tup []) [.own k v 36 1 ((sortN l).map encN) false]) := by
  refine acalls_row (more := [.func (.func 44) #[] #[]]) (fnOk Try.func43 (by decide) rfl) (Value.int .u64) (fun _ => rfl) l fun F w hi hown => ?_
  refine (sort_nums l v l.length w rfl hl hown).mono ?_
  rintro e w' ⟨rfl, h1, h2⟩
  have hlen : (sortN l).length = l.length := by simp [sortN]
  exact ⟨v, .tup [], sortN l, .tup [] [] rfl (fun j d v hd => by simp at hd), by rw [hlen]; exact h1, rfl, h2, rfl, rfl⟩

/-- the slice that a row is handed back as -/
def RowBack (k : Nat) (T : TypeId) (cells : List (List Dat)) : Out → List Res → Prop := fun o τ => ∃ v, o = .ret (.msl k v cells.length) ∧ τ = [.own k v T 1 cells false]

theorem own_msl {w : World} {T : TypeId} {sz n : Nat} {v : Value} {xs : List Value} (h : w.ownsRow 0 T sz v n xs) (k : Nat) (F : Nat → Nat → Prop) : V F w (.msl k v n) v := by
  rcases h.2 with ⟨rfl, h0⟩ | ⟨g, cap, cur, rfl, _, _, hn, hm, _⟩
  · exact .msl k _ n ⟨none, 0, by rw [h0]⟩ (by rw [h0]; exact Nat.zero_le _)
  · exact .msl k _ n ⟨_, _, rfl⟩ (by omega)

theorem lib_compactK (k : Nat) (v : Value) (l : List ByteArray) :
    ACalls Try.prog 42 [.msl k v l.length] [.own k v 9 1 (l.map encS) false] (RowBack k 9 ((uniqK l).map encS)) := by
  refine acalls_row (more := []) (fnOk Try.func42 (by decide) rfl) Value.string (fun _ => rfl) l fun F w hi hown => ?_
  refine (compact_keys l v l.length w rfl hown).mono ?_
  rintro e w' ⟨v', rfl, h1, h2, h3⟩
  exact ⟨v', _, uniqK l, own_msl h1 k _, h1, h2, h3, v', by rw [List.length_map], rfl⟩

theorem lib_compactN (k : Nat) (v : Value) (l : List Int) :
    ACalls Try.prog 45 [.msl k v l.length] [.own k v 36 1 (l.map encN) false] (RowBack k 36 ((Lib.compact l).map encN)) := by
  refine acalls_row (more := []) (fnOk Try.func45 (by decide) rfl) (Value.int .u64) (fun _ => rfl) l fun F w hi hown => ?_
  refine (compact_nums l v l.length w rfl hown).mono ?_
  rintro e w' ⟨v', rfl, h1, h2, h3⟩
  exact ⟨v', _, Lib.compact l, own_msl h1 k _, h1, h2, h3, v', by rw [List.length_map], rfl⟩
theorem alst_callr {P : Program} {n : Nat} {ds : List Deferred} {Q : Post} {a : Fr} {σ : List Res} {ops : Array Oper} {rest : List Oper} {o : Oper} {t k : Nat} {x : Operand} {xs : Array Operand} {ats : Array TypeId} {f : FuncId} {first cap : Array Value} {args args' : List Dat} {σ1 σ1' σ2 : List Res} {T : TypeId} {cells : List (List Dat)}
    (hc : ACalls P f args' σ1' (RowBack k T cells)) (ho : o.op = .call { callee := .value x, args := xs, argTypes := ats }) (hd : o.dst = some t) (hg : agd ops a o = some true) (ht : Nat.blt t n = true)
    (hx : ev a x = .raw (.func (.func f) first cap)) (ha : first.toList.map Dat.raw ++ xs.toList.map (ev a) ++ cap.toList.map Dat.raw = args) (hs : SubL args args') (p : σ.Perm (σ1 ++ σ2)) (hσ : ResSubL σ1 σ1')
    (h : ∀ v, ALst P n ds ops rest Q ((t, .msl k v cells.length) :: a) (.own k v T 1 cells false :: σ2)) : ALst P n ds ops (o :: rest) Q a σ :=
  alst_call hc ho hd hg ht hx ha hs p hσ (fun d' τ' hR => by obtain ⟨v, h1, rfl⟩ := hR; injection h1 with h1; subst h1; exact h v) (fun v τ hR => by obtain ⟨v, h1, _⟩ := hR; cases h1)
end Go.Proofs.Ytbfejlmamncemaa.Sk
