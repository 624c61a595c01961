/- The law's own example. No condition. -/
import Derived.Test.YtbfejlmamncemaaRh
import Derived.Test.YtbfejlmamncemaaSkI
namespace Go.Proofs.Ytbfejlmamncemaa.Sk
open Go Go.RowKit Go.Proofs
set_option linter.unusedVariables false

def ka : ByteArray := { data := #[97] }
def kc : ByteArray := { data := #[99] }
def kd : ByteArray := { data := #[100] }
def ke : ByteArray := { data := #[101] }
def kg : ByteArray := { data := #[103] }
def l0 : List Tomb := [⟨ka, ke, 5⟩, ⟨kc, kg, 9⟩]
theorem ends0 : endsOf 0 l0 = [ka, kc, ke, kg] := by
  refine inc_eq (ends_inc 0 l0) (show Inc 0 [ka, kc, ke, kg] by unfold Inc; decide) fun x => ?_
  rw [ends_mem]
  constructor
  · rintro ⟨t, ht, _, hx⟩
    simp only [l0, List.mem_cons, List.not_mem_nil, or_false] at ht
    rcases ht with rfl | rfl <;> rcases hx with rfl | rfl <;> simp
  · intro hx
    simp only [List.mem_cons, List.not_mem_nil, or_false] at hx
    rcases hx with rfl | rfl | rfl | rfl
    · exact ⟨⟨ka, ke, 5⟩, by simp [l0], by decide, .inl rfl⟩
    · exact ⟨⟨kc, kg, 9⟩, by simp [l0], by decide, .inl rfl⟩
    · exact ⟨⟨ka, ke, 5⟩, by simp [l0], by decide, .inr rfl⟩
    · exact ⟨⟨kc, kg, 9⟩, by simp [l0], by decide, .inr rfl⟩
theorem live0 : liveOf 0 l0 = l0 := List.filter_eq_self.2 fun t ht => by
  simp only [l0, List.mem_cons, List.not_mem_nil, or_false] at ht
  rcases ht with rfl | rfl <;> decide
theorem seq0 {b e : ByteArray} {q : List Int} (hq : Dec q) (h : ∀ n, n ∈ q ↔ ∃ t, t ∈ l0 ∧ leK 0 t.b b ∧ leK 0 e t.e ∧ n = t.s) : seqsOf 0 l0 b e = q :=
  dec_eq (seqs_dec _ _ _ _) hq fun n => by rw [seqs_mem, h]
theorem sq1 : seqsOf 0 l0 ka kc = [5] := seq0 (by unfold Dec; decide) fun n => by
  constructor
  · intro h
    obtain rfl := List.mem_singleton.1 h
    exact ⟨⟨ka, ke, 5⟩, by simp [l0], by decide, by decide, rfl⟩
  · rintro ⟨t, ht, h1, h2, rfl⟩
    simp only [l0, List.mem_cons, List.not_mem_nil, or_false] at ht
    rcases ht with rfl | rfl
    · simp
    · exact absurd h1 (by decide)
theorem sq2 : seqsOf 0 l0 kc ke = [9, 5] := seq0 (by unfold Dec; decide) fun n => by
  constructor
  · intro h
    simp only [List.mem_cons, List.not_mem_nil, or_false] at h
    rcases h with rfl | rfl
    · exact ⟨⟨kc, kg, 9⟩, by simp [l0], by decide, by decide, rfl⟩
    · exact ⟨⟨ka, ke, 5⟩, by simp [l0], by decide, by decide, rfl⟩
  · rintro ⟨t, ht, h1, h2, rfl⟩
    simp only [l0, List.mem_cons, List.not_mem_nil, or_false] at ht
    rcases ht with rfl | rfl <;> simp
theorem sq3 : seqsOf 0 l0 ke kg = [9] := seq0 (by unfold Dec; decide) fun n => by
  constructor
  · intro h
    obtain rfl := List.mem_singleton.1 h
    exact ⟨⟨kc, kg, 9⟩, by simp [l0], by decide, by decide, rfl⟩
  · rintro ⟨t, ht, h1, h2, rfl⟩
    simp only [l0, List.mem_cons, List.not_mem_nil, or_false] at ht
    rcases ht with rfl | rfl
    · exact absurd h2 (by decide)
    · simp
theorem chk0 : chk 0 l0 = 0 := by decide
def f0 : List Fragm := [⟨ka, kc, [5]⟩, ⟨kc, ke, [9, 5]⟩, ⟨ke, kg, [9]⟩]
theorem split0 : splitF 0 l0 = f0 := by
  unfold splitF fragL
  rw [if_pos chk0, live0, ends0]
  rw [show [ka, kc, ke, kg].length - 1 = 0 + 1 + 1 + 1 from rfl, frN_succ, frN_succ, frN_succ]
  rw [show kAt [ka, kc, ke, kg] 0 = ka from rfl, show kAt [ka, kc, ke, kg] (0 + 1) = kc from rfl, show kAt [ka, kc, ke, kg] (0 + 1 + 1) = ke from rfl, show kAt [ka, kc, ke, kg] (0 + 1 + 1 + 1) = kg from rfl]
  simp only [fr1, sq1, sq2, sq3]
  rfl
theorem most0 : mostF 0 f0 kd 8 = 5 := by decide +kernel
theorem whole0 : wholeF 0 f0 ka kg 4 9 = true := by decide +kernel
theorem law_lives : ACalls Try.prog 11 [] [] (RV (.raw (.bool true)) []) := by
  refine acalls_bodyq Try.func11 rfl (by decide) (n := 43) rfl rfl fun _ => ?_
  have h1 := rd_Split 0 l0
  have h2 := rd_New 0 l0
  have hok := split_ok 0 l0
  rw [split0] at h1 hok
  rw [show newD 0 l0 = setD 0 f0 by unfold newD; rw [if_pos chk0, split0]] at h2
  rw [chk0] at h1 h2
  have h3 := rd_Most hok kd 8
  have h4 := rd_Whole hok ka kg 4 9
  rw [most0] at h3
  rw [whole0] at h4
  unfold setD at h2 h3 h4
  repeat' (first | refine alst_q (q_neq_ptr rfl (tabOk.und rfl rfl) rfl rfl) rfl rfl rfl ?_ | refine alst_call0 h1 rfl rfl rfl rfl rfl rfl (.cons (.refl _) (.cons (.refl _) .nil)) ?_ | refine alst_call0 h2 rfl rfl rfl rfl rfl rfl (.cons (.refl _) (.cons (.refl _) .nil)) ?_ | refine alst_call0 h3 rfl rfl rfl rfl rfl rfl (by repeat (first | exact SubL.nil | refine SubL.cons (Sub.refl _) ?_ | refine SubL.cons (Sub.ptr _ _ _) ?_ | refine SubL.cons (Sub.ref _ _ _ _) ?_ | refine SubL.cons (Sub.osl _ _ _ _) ?_ | refine SubL.cons (Sub.nil _) ?_)) ?_ | refine alst_call0 h4 rfl rfl rfl rfl rfl rfl (by repeat (first | exact SubL.nil | refine SubL.cons (Sub.refl _) ?_ | refine SubL.cons (Sub.ptr _ _ _) ?_ | refine SubL.cons (Sub.ref _ _ _ _) ?_ | refine SubL.cons (Sub.osl _ _ _ _) ?_ | refine SubL.cons (Sub.nil _) ?_)) ?_ | (refine is_gd ?_; (first | refine alst_skip rfl rfl rfl ?_ | refine alst_g rfl rfl rfl (fun _ => ?_) (fun _ => ?_) | refine alst_gn rfl rfl rfl (fun _ => ?_) (fun _ => ?_))) | (refine is_move ?_; refine alst_q (q_move rfl (by conv => lhs; whnf)) rfl rfl rfl ?_) | (refine is_assign ?_; refine alst_q (q_assign rfl (by conv => lhs; whnf)) rfl rfl rfl ?_) | (refine is_load ?_; (first | refine alst_q (q_load_el tabOk rfl rfl rfl rfl rfl) rfl rfl rfl ?_ | refine alst_q (q_load_el_all tabOk rfl rfl rfl rfl rfl) rfl rfl rfl ?_ | refine alst_q (q_load_box tabOk 0 rfl rfl rfl rfl rfl rfl) rfl rfl rfl ?_ | refine alst_q (q_load_box tabOk 1 rfl rfl rfl rfl rfl rfl) rfl rfl rfl ?_ | refine alst_q (q_load_box tabOk 2 rfl rfl rfl rfl rfl rfl) rfl rfl rfl ?_ | refine alst_q (q_load_box tabOk 3 rfl rfl rfl rfl rfl rfl) rfl rfl rfl ?_ | refine alst_q (q_load_box tabOk 4 rfl rfl rfl rfl rfl rfl) rfl rfl rfl ?_ | refine alst_q (q_load_box_all tabOk 0 rfl rfl rfl rfl rfl rfl) rfl rfl rfl ?_ | refine alst_q (q_load_box_all tabOk 1 rfl rfl rfl rfl rfl rfl) rfl rfl rfl ?_ | refine alst_q (q_load_box_all tabOk 2 rfl rfl rfl rfl rfl rfl) rfl rfl rfl ?_ | refine alst_q (q_load_box_all tabOk 3 rfl rfl rfl rfl rfl rfl) rfl rfl rfl ?_ | refine alst_q (q_load_box_all tabOk 4 rfl rfl rfl rfl rfl rfl) rfl rfl rfl ?_)) | (refine is_bin ?_; (first | refine alst_q (q_addi rfl rfl rfl (by omega)) rfl rfl rfl ?_ | refine alst_q (q_subi rfl rfl rfl (by omega)) rfl rfl rfl ?_ | refine alst_q (q_bin rfl rfl rfl rfl) rfl rfl rfl ?_)) | (refine is_fieldAddr ?_; (first | refine alst_q (q_fieldAddr_ref tabOk rfl rfl rfl rfl rfl) rfl rfl rfl ?_ | refine alst_q (q_fieldAddr_el tabOk rfl rfl rfl rfl rfl) rfl rfl rfl ?_)) | (refine is_indexAddr ?_; refine alst_q (q_indexAddr tabOk rfl (tabOk.und rfl rfl) rfl rfl rfl (by constructor) (by omega) (idx_nat (by omega))) rfl rfl rfl ?_) | (refine is_store ?_; (first | refine alst_store_one tabOk 0 rfl rfl rfl rfl rfl (by conv => lhs; whnf) rfl rfl rfl rfl (by conv => lhs; simp only [List.set]) ?_ | refine alst_store_one tabOk 1 rfl rfl rfl rfl rfl (by conv => lhs; whnf) rfl rfl rfl rfl (by conv => lhs; simp only [List.set]) ?_ | refine alst_store_one tabOk 2 rfl rfl rfl rfl rfl (by conv => lhs; whnf) rfl rfl rfl rfl (by conv => lhs; simp only [List.set]) ?_ | refine alst_store_one tabOk 3 rfl rfl rfl rfl rfl (by conv => lhs; whnf) rfl rfl rfl rfl (by conv => lhs; simp only [List.set]) ?_ | refine alst_store_one tabOk 4 rfl rfl rfl rfl rfl (by conv => lhs; whnf) rfl rfl rfl rfl (by conv => lhs; simp only [List.set]) ?_ | refine alst_store_all tabOk 0 rfl rfl rfl rfl rfl rfl rfl rfl rfl ?_ | refine alst_store_all tabOk 1 rfl rfl rfl rfl rfl rfl rfl rfl rfl ?_ | refine alst_store_all tabOk 2 rfl rfl rfl rfl rfl rfl rfl rfl rfl ?_ | refine alst_store_all tabOk 3 rfl rfl rfl rfl rfl rfl rfl rfl rfl ?_ | refine alst_store_all tabOk 4 rfl rfl rfl rfl rfl rfl rfl rfl rfl ?_)) | (refine is_call ?_; (first | (refine alst_len rfl rfl rfl rfl (tabOk.und rfl rfl) (by constructor) ?_; intro _) | refine alst_q (q_len_string rfl (tabOk.und rfl rfl) rfl) rfl rfl rfl ?_)) | (refine is_op ?_; (first | refine alst_q (q_pick rfl rfl (by conv => lhs; whnf)) rfl rfl rfl ?_ | refine alst_q (q_extract rfl rfl rfl) rfl rfl rfl ?_ | (refine alst_alloc tabOk rfl rfl rfl rfl rfl ?_; intro _) | refine alst_q (q_nilCheck rfl (by conv => lhs; whnf) rfl) rfl rfl rfl ?_ | refine alst_q (q_not rfl rfl) rfl rfl rfl ?_ | refine alst_q (q_build tabOk rfl rfl rfl rfl) rfl rfl rfl ?_ | (refine alst_box rfl rfl rfl rfl rfl ?_; intro _) | refine alst_q (q_conv_int rfl (tabOk.und rfl rfl) (tabOk.und rfl rfl) rfl) rfl rfl rfl ?_ | refine alst_q (q_makeFunc rfl rfl rfl) rfl rfl rfl ?_ | refine alst_q (q_neg rfl rfl) rfl rfl rfl ?_ | refine alst_q (q_conv_string rfl (tabOk.und rfl rfl) (tabOk.und rfl rfl) rfl) rfl rfl rfl ?_ | refine alst_buildSlice tabOk rfl rfl rfl rfl (tabOk.und rfl rfl) rfl rfl rfl (by decide) (by decide) ?_)) | refine alst_nil ?_ | (refine is_awp ?_; (first | refine awp_k (fun _ => ?_) | refine awp_region ?_ | refine awp_block ?_ | refine awp_skip ?_ | refine awp_exit ?_ | refine awp_ret ?_ | refine awp_t rfl ?_ | refine awp_f rfl ?_ | refine awp_d rfl (fun _ => ?_) (fun _ => ?_) | refine awp_nd rfl (fun _ => ?_) (fun _ => ?_) | refine awp_cond rfl (fun _ => ?_) (fun _ => ?_))) | refine kgo _ ?_ | refine qgo _ ?_)
  · exact ret1 rfl rfl (Sub.refl _)
  · exact absurd rfl ‹¬ (5 : Int) = 5›
  · exact absurd rfl ‹¬ (0 : Int) = 0›
  · exact absurd rfl ‹¬ ((f0.length : Nat) : Int) = 3›
  · exact absurd rfl ‹¬ (0 : Int) = 0›
end Go.Proofs.Ytbfejlmamncemaa.Sk
