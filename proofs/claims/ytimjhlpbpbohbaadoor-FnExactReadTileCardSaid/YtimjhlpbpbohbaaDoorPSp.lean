/-
  Texts cut at a byte: the pieces, as the reference and the library find them.
-/
import Derived.Test.YtimjhlpbpbohbaaDoorP0
import Derived.Test.YtimjhlpbpbohbaaDoorPL
namespace Go.Proofs.YtimjhlpbpbohbaaDoor
open Ai
open Go.Lib (splitK splitB index count countB)
set_option linter.unusedSimpArgs false
set_option linter.unusedVariables false
def sp (c : UInt8) : List UInt8 → List (List UInt8)
  | [] => [[]]
  | b :: s => if b = c then [] :: sp c s else match sp c s with
    | [] => [[b]]
    | r :: rs => (b :: r) :: rs
theorem sp_ne (c : UInt8) : ∀ s, ∃ r rs, sp c s = r :: rs
  | [] => ⟨_, _, rfl⟩
  | b :: s => by
    obtain ⟨r, rs, h⟩ := sp_ne c s
    unfold sp
    split
    · exact ⟨_, _, rfl⟩
    · rw [h]; exact ⟨_, _, rfl⟩
theorem sp_hit (c : UInt8) (s : List UInt8) : sp c (c :: s) = [] :: sp c s := by rw [sp, if_pos rfl]
theorem sp_miss {c b : UInt8} (h : b ≠ c) {s r : List UInt8} {rs : List (List UInt8)} (e : sp c s = r :: rs) : sp c (b :: s) = (b :: r) :: rs := by rw [sp, if_neg h, e]
theorem sp_len (c : UInt8) : ∀ s, (sp c s).length ≤ s.length + 1
  | [] => Nat.le_refl _
  | b :: s => by
    obtain ⟨r, rs, h⟩ := sp_ne c s
    have ih := sp_len c s
    by_cases e : b = c
    · subst e; rw [sp_hit]; simp only [List.length_cons]; omega
    · rw [sp_miss e h]; rw [h] at ih; simp only [List.length_cons] at ih ⊢; omega
theorem sp_bytes (c : UInt8) : ∀ s, (sp c s).flatten.length ≤ s.length
  | [] => Nat.le_refl _
  | b :: s => by
    obtain ⟨r, rs, h⟩ := sp_ne c s
    have ih := sp_bytes c s
    by_cases e : b = c
    · subst e; rw [sp_hit, List.flatten_cons, List.nil_append]; simp only [List.length_cons]; omega
    · rw [sp_miss e h]; rw [h] at ih; simp only [List.flatten_cons, List.length_append, List.length_cons] at ih ⊢; omega
theorem sp_join (c : UInt8) : ∀ s, (sp c s).flatMap (fun r => r ++ [c]) = s ++ [c]
  | [] => rfl
  | b :: s => by
    obtain ⟨r, rs, h⟩ := sp_ne c s
    have ih := sp_join c s
    by_cases e : b = c
    · subst e; rw [sp_hit, List.flatMap_cons, ih]; rfl
    · rw [sp_miss e h]
      rw [h] at ih
      simp only [List.flatMap_cons, List.cons_append] at ih ⊢
      rw [ih]
theorem sp_end (c : UInt8) : ∀ s, sp c (s ++ [c]) = sp c s ++ [[]]
  | [] => by rw [List.nil_append, sp_hit]; rfl
  | b :: s => by
    obtain ⟨r, rs, h⟩ := sp_ne c s
    have ih := sp_end c s
    by_cases e : b = c
    · subst e; rw [List.cons_append, sp_hit, ih, sp_hit]; rfl
    · rw [h] at ih
      rw [List.cons_append, sp_miss e (by rw [ih]; rfl), sp_miss e h]; rfl
theorem sp_line (c : UInt8) (s : List UInt8) : ∀ r, c ∉ r → sp c (r ++ c :: s) = r :: sp c s
  | [], _ => by rw [List.nil_append, sp_hit]
  | b :: r, h => by
    have h1 : b ≠ c := fun e => h (by rw [e]; exact List.mem_cons_self ..)
    have h2 : c ∉ r := fun e => h (List.mem_cons_of_mem _ e)
    rw [List.cons_append, sp_miss h1 (sp_line c s r h2)]
theorem sp_lines (c : UInt8) : ∀ L : List (List UInt8), (∀ r ∈ L, c ∉ r) → sp c (L.flatMap fun r => r ++ [c]) = L ++ [[]]
  | [], _ => rfl
  | r :: L, h => by
    rw [List.flatMap_cons, List.append_assoc, List.singleton_append, sp_line c _ r (h r (List.mem_cons_self ..)), sp_lines c L fun q hq => h q (List.mem_cons_of_mem _ hq)]
    rfl
/-! ### The library's pieces -/
theorem index_cons (b c : UInt8) (l : List UInt8) : index (b :: l) [c] = if b = c then 0 else if index l [c] = -1 then -1 else index l [c] + 1 := by
  rw [index]
  by_cases h : b = c
  · subst h
    simp [List.isPrefixOf]
  · have h2 : ¬ c = b := fun e => h e.symm
    simp [List.isPrefixOf, h, h2]
theorem index_nil (c : UInt8) : index [] [c] = -1 := rfl
theorem count_cons9 (b c : UInt8) (l : List UInt8) : count (b :: l) [c] = if b = c then 1 + count l [c] else count l [c] := by
  have hi := index_cons b c l
  have hg := Go.Lib.index_ge l [c]
  by_cases h : b = c
  · rw [if_pos h] at hi ⊢
    rw [Go.Lib.count_hit (i := 0) (by simp) hi]
    rfl
  · rw [if_neg h] at hi ⊢
    by_cases h1 : index l [c] = -1
    · rw [if_pos h1] at hi
      rw [Go.Lib.count_miss hi, Go.Lib.count_miss h1]
    · rw [if_neg h1] at hi
      obtain ⟨i, hi'⟩ : ∃ i : Nat, index l [c] = i := ⟨(index l [c]).toNat, by omega⟩
      rw [Go.Lib.count_hit (i := i + 1) (by simp) (by rw [hi, hi']; rfl), Go.Lib.count_hit (i := i) (by simp) hi']
      rfl
theorem splitK_sp (c : UInt8) : ∀ s, splitK [c] 0 (count s [c]) s = sp c s
  | [] => by rw [Go.Lib.count_miss (index_nil c)]; rfl
  | b :: l => by
    have ih := splitK_sp c l
    have hi := index_cons b c l
    have hg := Go.Lib.index_ge l [c]
    rw [count_cons9]
    by_cases h : b = c
    · subst h
      rw [if_pos rfl] at hi
      rw [if_pos rfl, Nat.add_comm, splitK, hi, sp_hit, ← ih]
      simp
    · rw [if_neg h] at hi
      rw [if_neg h]
      obtain ⟨r, rs, hr⟩ := sp_ne c l
      rw [sp_miss h hr]
      cases hk : count l [c] with
      | zero =>
        rw [hk, splitK, hr] at ih
        rw [splitK]
        have := List.cons_eq_cons.1 ih
        rw [← this.1, ← this.2]
      | succ k =>
        have hne : ¬ index l [c] = -1 := fun e => by rw [Go.Lib.count_miss e] at hk; cases hk
        rw [if_neg hne] at hi
        obtain ⟨i, hi'⟩ : ∃ i : Nat, index l [c] = i := ⟨(index l [c]).toNat, by omega⟩
        rw [hk, splitK, hr, hi'] at ih
        rw [splitK, hi, hi']
        have e1 : ¬ (((i : Int) + 1 == -1) = true) := by simp; omega
        have e2 : ¬ (((i : Int) == -1) = true) := by simp
        rw [if_neg e2] at ih
        rw [if_neg e1]
        have e3 : ((i : Int) + 1).toNat = i + 1 := by omega
        have e4 : ((i : Int)).toNat = i := by omega
        rw [e4] at ih
        rw [e3]
        obtain ⟨h1, h2⟩ := List.cons_eq_cons.1 ih
        rw [← h1, ← h2]
        simp only [Nat.add_zero, List.length_singleton, List.take_succ_cons, List.drop_succ_cons]
theorem pieces_sp (s : List UInt8) (c : UInt8) : pieces s [c] = sp c s := by
  unfold pieces
  rw [Go.Lib.splitB_data]
  exact splitK_sp c s
theorem splX_v (s : List UInt8) (c : UInt8) (h : s.length ≤ 1048576) : splX (s, [c]) = some (sp c s) := by
  unfold splX
  rw [if_pos ⟨by simp only; omega, by simp⟩, pieces_sp]
/-! ### The reference's pieces -/
def glue (cur : List UInt8) : List (List UInt8) → List (List UInt8)
  | [] => [cur]
  | r :: rs => (cur ++ r) :: rs
theorem cut_more {s : List UInt8} {a i : Nat} (h1 : a ≤ i) (h2 : i < s.length) : cut a (i + 1) s = cut a i s ++ [s[i]] := by
  unfold cut
  rw [List.take_add_one, List.getElem?_eq_getElem h2, List.drop_append_of_le_length (by rw [List.length_take]; omega)]
  rfl
theorem cut_none (s : List UInt8) (a : Nat) : cut a a s = [] := by
  unfold cut
  rw [List.drop_eq_nil_of_le]
  rw [List.length_take]; omega
theorem split_loop (s : List UInt8) (c : UInt8) (hn : s.length ≤ 1048576) : ∀ (d i a : Nat) (out : List (List UInt8)), i + d = s.length → a ≤ i → out.length ≤ i →
    spec_l01Split_l0 s (c.toNat : Int) out (a : Int) (i : Int) = some (out ++ glue (cut a i s) (sp c (s.drop i)))
  | 0, i, a, out, hi, ha, ho => by
    have e1 : (decide (0 ≤ (i : Int)) && decide ((i : Int) ≤ (s.length : Int))) = true := by rw [Bool.and_eq_true, decide_eq_true_iff, decide_eq_true_iff]; omega
    have e2 : (decide (0 ≤ (a : Int)) && decide ((a : Int) ≤ (i : Int))) = true := by rw [Bool.and_eq_true, decide_eq_true_iff, decide_eq_true_iff]; omega
    rw [spec_l01Split_l0_eq, decide_eq_true (p := (i : Int) ≤ (s.length : Int)) (by omega), decide_eq_true (p := (i : Int) = (s.length : Int)) (by omega), decide_eq_true (p := out.length + [_].length ≤ LIM) (by unfold LIM; simp only [List.length_singleton]; omega), decide_eq_true (p := 0 ≤ (i : Int)) (by omega), e2]
    simp only [cond_true, Bool.and_true, Option.bind_fun_some, Int.toNat_natCast]
    rw [w64 (x := (i : Int) + 1) (by omega) (by omega), spec_l01Split_l0_eq, decide_eq_false (p := (i : Int) + 1 ≤ (s.length : Int)) (by omega), cond_false, List.drop_eq_nil_of_le (by omega)]
    simp [sp, glue]
  | d + 1, i, a, out, hi, ha, ho => by
    have hlt : i < s.length := by omega
    obtain ⟨r, rs, hr⟩ := sp_ne c (s.drop (i + 1))
    have e1 : (decide (0 ≤ (i : Int)) && decide ((i : Int) ≤ (s.length : Int))) = true := by rw [Bool.and_eq_true, decide_eq_true_iff, decide_eq_true_iff]; omega
    have e2 : (decide (0 ≤ (a : Int)) && decide ((a : Int) ≤ (i : Int))) = true := by rw [Bool.and_eq_true, decide_eq_true_iff, decide_eq_true_iff]; omega
    rw [spec_l01Split_l0_eq, decide_eq_true (p := (i : Int) ≤ (s.length : Int)) (by omega), decide_eq_false (p := (i : Int) = (s.length : Int)) (by omega), rd_lt hlt, decide_eq_true (p := out.length + [_].length ≤ LIM) (by unfold LIM; simp only [List.length_singleton]; omega), decide_eq_true (p := 0 ≤ (i : Int)) (by omega), e2, List.drop_eq_getElem_cons hlt]
    simp only [cond_true, cond_false, Bool.and_true, Option.bind_some, Option.bind_fun_some, Int.toNat_natCast]
    rw [wnext hlt (by omega)]
    by_cases e : s[i] = c
    · rw [decide_eq_true (by rw [e]), cond_true, split_loop s c hn d (i + 1) (i + 1) _ (by omega) (Nat.le_refl _) (by rw [List.length_append]; simp only [List.length_singleton]; omega), cut_none, e, sp_hit, hr]
      simp [glue]
    · rw [decide_eq_false (fun h => e (UInt8.toNat_inj.1 (by omega))), cond_false, split_loop s c hn d (i + 1) a out (by omega) (by omega) (by omega), cut_more ha hlt, sp_miss e hr, hr]
      simp [glue]
theorem spec_split_v (s : List UInt8) (c : UInt8) (hn : s.length ≤ 1048576) : spec_l01Split s (c.toNat : Int) = some (sp c s) := by
  have h := split_loop s c hn s.length 0 0 [] (by omega) (Nat.le_refl _) (by simp)
  obtain ⟨r, rs, hr⟩ := sp_ne c s
  rw [spec_l01Split_eq, show spec_l01Split_l0 s (c.toNat : Int) [] 0 0 = _ from h]
  simp only [Option.bind_some, List.nil_append, List.drop_zero, cut_none, hr]
  rfl
end Go.Proofs.YtimjhlpbpbohbaaDoor
