/-
  Plain meanings: which lists of motions are groups.
-/
import Derived.Test.YtpboclokodgnlaaGreatP34
namespace Go.Proofs.YtpboclokodgnlaaGreat
open Pre Ai
set_option linter.unusedSimpArgs false
set_option linter.unusedVariables false
set_option linter.unusedSectionVars false
section prods
variable {f : Int} (hf : f = 0 ∨ f = 1) {l : Lat} (hl : isLat l = true) {xs : List Mot} (hg : goodL f l xs = true)
include hf hl hg
theorem prod_sm {m n : Mot} (hm : m ∈ xs) (hn : n ∈ xs) : Sm (wap m n.2) := by
  obtain ⟨h1, _⟩ := goodL_inc hg
  have hn' := h1 n hn
  unfold allM at hn'
  obtain ⟨a, _, ht⟩ := List.mem_flatMap.1 hn'
  obtain ⟨t, ht1, rfl⟩ := List.mem_map.1 ht
  exact allM_suit hf hl (h1 m hm) t ht1
theorem spec_prod {m n : Mot} (hm : m ∈ xs) (hn : n ∈ xs) : (Option.bind (spec_l05Compose m n) fun y => spec_l06Reduce l y) = some (prodM l m n) := by
  have hs := prod_sm hf hl hg hm hn
  rw [spec_l05Compose_eq, spec_l02Multiply_eq, spec_l02Apply_eq]
  simp only [Option.bind_some, spec_l01Add_v]
  rw [spec_l06Reduce_eq]
  have := spec_l03Reduce_v l (wap m n.2) hl hs
  unfold wap at this
  simp only
  rw [this]
  rfl
theorem impl_prod {m n : Mot} (hm : m ∈ xs) (hn : n ∈ xs) : (Option.bind (impl_Motion_times m n) fun y => impl_Lattice_reduceMotion l y) = some (prodM l m n) := by
  have hs := prod_sm hf hl hg hm hn
  rw [impl_Motion_times_eq, impl_Mat_times_eq, impl_Mat_apply_eq]
  simp only [Option.bind_some, impl_Vec_add_v]
  rw [impl_Lattice_reduceMotion_eq]
  have := impl_Lattice_reduce_v l (wap m n.2) hl hs
  unfold wap at this
  simp only
  rw [this]
  rfl
theorem spec_close_inner {i : Nat} (hi : i < xs.length) : spec_IsGroup_l2 xs (i : Int) 0 l.1 l.2.1 l.2.2 = some (if (xs.all fun n => decide (prodM l xs[i] n ∈ xs)) = true then .inl (xs, (i : Int), l.1, l.2.1, l.2.2) else .inr false) := by
  have hlen := good_len hf hl hg
  obtain ⟨_, hinc⟩ := goodL_inc hg
  refine loop_all (L := fun k => spec_IsGroup_l2 xs (i : Int) k l.1 l.2.1 l.2.2) xs (fun n => decide (prodM l xs[i] n ∈ xs)) (.inl (xs, (i : Int), l.1, l.2.1, l.2.2)) (.inr false) (fun k hk => ?_) ?_
  · show spec_IsGroup_l2 xs (i : Int) (k : Int) l.1 l.2.1 l.2.2 = _
    have hp := spec_prod hf hl hg (List.getElem_mem hi) (List.getElem_mem hk)
    obtain ⟨y, hy1, hy2⟩ := Option.bind_eq_some_iff.1 hp
    rw [spec_IsGroup_l2_eq, decide_eq_true (by omega), rd_lt hi, rd_lt hk]
    simp only [cond_true, Option.bind_some, hy1]
    rw [show spec_l06Reduce (l.1, l.2.1, l.2.2) y = some (prodM l xs[i] xs[k]) from hy2, wnext hk (by omega)]
    simp only [Option.bind_some, spec_l06Has_v (show xs.length ≤ 1000000 by omega) hinc, Option.bind_fun_some]
    cases decide (prodM l xs[i] xs[k] ∈ xs) <;> rfl
  · show spec_IsGroup_l2 xs (i : Int) (xs.length : Int) l.1 l.2.1 l.2.2 = _
    rw [spec_IsGroup_l2_eq, decide_eq_false (by omega)]
    rfl
theorem spec_close : spec_IsGroup_l1 xs 0 l.1 l.2.1 l.2.2 = some (if (xs.all fun m => xs.all fun n => decide (prodM l m n ∈ xs)) = true then .inl () else .inr false) := by
  have hlen := good_len hf hl hg
  refine loop_all (L := fun k => spec_IsGroup_l1 xs k l.1 l.2.1 l.2.2) xs (fun m => xs.all fun n => decide (prodM l m n ∈ xs)) (.inl ()) (.inr false) (fun k hk => ?_) ?_
  · show spec_IsGroup_l1 xs (k : Int) l.1 l.2.1 l.2.2 = _
    rw [spec_IsGroup_l1_eq, decide_eq_true (by omega), spec_close_inner hf hl hg hk]
    simp only [cond_true, Option.bind_some]
    cases (xs.all fun n => decide (prodM l xs[k] n ∈ xs)) with
    | false => rfl
    | true =>
      simp only [if_true, Option.bind_fun_some]
      rw [wnext hk (by omega)]
  · show spec_IsGroup_l1 xs (xs.length : Int) l.1 l.2.1 l.2.2 = _
    rw [spec_IsGroup_l1_eq, decide_eq_false (by omega)]
    rfl
theorem impl_close_inner {i : Nat} (hi : i < xs.length) : impl_isGroup_l2 xs xs (xs.length : Int) (i : Int) xs (xs.length : Int) 0 l.1 l.2.1 l.2.2 xs[i].1.1 xs[i].1.2.1 xs[i].1.2.2.1 xs[i].1.2.2.2 xs[i].2.1 xs[i].2.2 (setM xs) =
    some (if (xs.all fun n => decide (prodM l xs[i] n ∈ xs)) = true then .inl (xs, xs, (xs.length : Int), (i : Int), l.1, l.2.1, l.2.2, setM xs) else .inr false) := by
  have hlen := good_len hf hl hg
  refine loop_all (L := fun k => impl_isGroup_l2 xs xs (xs.length : Int) (i : Int) xs (xs.length : Int) k l.1 l.2.1 l.2.2 xs[i].1.1 xs[i].1.2.1 xs[i].1.2.2.1 xs[i].1.2.2.2 xs[i].2.1 xs[i].2.2 (setM xs)) xs (fun n => decide (prodM l xs[i] n ∈ xs)) (.inl (xs, xs, (xs.length : Int), (i : Int), l.1, l.2.1, l.2.2, setM xs)) (.inr false) (fun k hk => ?_) ?_
  · show impl_isGroup_l2 xs xs (xs.length : Int) (i : Int) xs (xs.length : Int) (k : Int) l.1 l.2.1 l.2.2 xs[i].1.1 xs[i].1.2.1 xs[i].1.2.2.1 xs[i].1.2.2.2 xs[i].2.1 xs[i].2.2 (setM xs) = _
    have hp := impl_prod hf hl hg (List.getElem_mem hi) (List.getElem_mem hk)
    obtain ⟨y, hy1, hy2⟩ := Option.bind_eq_some_iff.1 hp
    have hm : Option.getD (mfind cM .bool (prodM l xs[i] xs[k]) (setM xs)) false = decide (prodM l xs[i] xs[k] ∈ xs) := by
      have := setM_has (prodM l xs[i] xs[k]) xs []
      rw [show mfind cM .bool (prodM l xs[i] xs[k]) [] = none from rfl] at this
      simpa [setM] using this
    rw [impl_isGroup_l2_eq, decide_eq_true (by omega), rd_lt hk]
    simp only [cond_true, Option.bind_some]
    rw [show impl_Motion_times ((xs[i].1.1, xs[i].1.2.1, xs[i].1.2.2.1, xs[i].1.2.2.2), xs[i].2.1, xs[i].2.2) xs[k] = some y from hy1]
    simp only [Option.bind_some]
    rw [show impl_Lattice_reduceMotion (l.1, l.2.1, l.2.2) y = some (prodM l xs[i] xs[k]) from hy2, wnext hk (by omega)]
    simp only [Option.bind_some, Option.bind_fun_some, hm]
    cases decide (prodM l xs[i] xs[k] ∈ xs) <;> rfl
  · show impl_isGroup_l2 xs xs (xs.length : Int) (i : Int) xs (xs.length : Int) (xs.length : Int) l.1 l.2.1 l.2.2 xs[i].1.1 xs[i].1.2.1 xs[i].1.2.2.1 xs[i].1.2.2.2 xs[i].2.1 xs[i].2.2 (setM xs) = _
    rw [impl_isGroup_l2_eq, decide_eq_false (by omega)]
    rfl
theorem impl_close : impl_isGroup_l1 xs xs (xs.length : Int) 0 l.1 l.2.1 l.2.2 (setM xs) = some (if (xs.all fun m => xs.all fun n => decide (prodM l m n ∈ xs)) = true then .inl () else .inr false) := by
  have hlen := good_len hf hl hg
  refine loop_all (L := fun k => impl_isGroup_l1 xs xs (xs.length : Int) k l.1 l.2.1 l.2.2 (setM xs)) xs (fun m => xs.all fun n => decide (prodM l m n ∈ xs)) (.inl ()) (.inr false) (fun k hk => ?_) ?_
  · show impl_isGroup_l1 xs xs (xs.length : Int) (k : Int) l.1 l.2.1 l.2.2 (setM xs) = _
    rw [impl_isGroup_l1_eq, decide_eq_true (by omega), rd_lt hk]
    simp only [cond_true, Option.bind_some]
    rw [impl_close_inner hf hl hg hk]
    simp only [Option.bind_some]
    cases (xs.all fun n => decide (prodM l xs[k] n ∈ xs)) with
    | false => rfl
    | true =>
      simp only [if_true, Option.bind_fun_some]
      rw [wnext hk (by omega)]
  · show impl_isGroup_l1 xs xs (xs.length : Int) (xs.length : Int) l.1 l.2.1 l.2.2 (setM xs) = _
    rw [impl_isGroup_l1_eq, decide_eq_false (by omega)]
    rfl
end prods
theorem spec_IsGroup_v {f : Int} (hf : f = 0 ∨ f = 1) {l : Lat} (hl : isLat l = true) (xs : List Mot) (hn : xs.length ≤ 1048576) : spec_IsGroup f l xs = some (isGroupB f l xs) := by
  have hff : isFrame f = true := isFrame_iff.2 hf
  have h0 : spec_l04Code f l = some 0 := by rw [spec_l04Code_eq, spec_IsFrame_v, hff, spec_IsLattice_v, hl]; rfl
  rw [spec_IsGroup_eq, h0, spec_good_loop hf hl hn]
  unfold isGroupB
  simp only [Option.bind_some, decide_true, Bool.not_true, cond_false]
  cases hg : goodL f l xs with
  | false =>
    simp only [Bool.false_and]
    cases decide ((768 : Int) < (xs.length : Int)) <;> rfl
  | true =>
    have hlen := good_len hf hl hg
    obtain ⟨_, hinc⟩ := goodL_inc hg
    rw [decide_eq_false (by omega), spec_l06Unit_eq, spec_l02Unit_eq]
    simp only [cond_false, if_true, Option.bind_some, Bool.true_and, spec_l06Has_v (show xs.length ≤ 1000000 by omega) hinc]
    rw [show (((1, 0, 0, 1), 0, 0) : Mot) = unitM from rfl]
    cases decide (unitM ∈ xs) with
    | false => rfl
    | true =>
      simp only [cond_true, Bool.true_and, spec_close hf hl hg, Option.bind_some]
      cases (xs.all fun m => xs.all fun n => decide (prodM l m n ∈ xs)) <;> rfl
theorem impl_isGroup_v {f : Int} (hf : f = 0 ∨ f = 1) {l : Lat} (hl : isLat l = true) (xs : List Mot) (hn : xs.length ≤ 1048576) : impl_isGroup f l xs = some (isGroupB f l xs) := by
  rw [impl_isGroup_eq, impl_latticeMats_v hf hl]
  simp only [Option.bind_some]
  rw [impl_good_loop hf hl hn]
  unfold isGroupB
  cases hg : goodL f l xs with
  | false => rfl
  | true =>
    have hm : Option.getD (mfind cM .bool unitM (setM xs)) false = decide (unitM ∈ xs) := by
      have := setM_has unitM xs []
      rw [show mfind cM .bool unitM [] = none from rfl] at this
      simpa [setM] using this
    simp only [if_true, Option.bind_some, impl_unit_eq, Bool.true_and]
    rw [show (((1, 0, 0, 1), 0, 0) : Mot) = unitM from rfl, hm]
    cases decide (unitM ∈ xs) with
    | false => rfl
    | true =>
      simp only [cond_true, Bool.true_and, impl_close hf hl hg, Option.bind_some]
      cases (xs.all fun m => xs.all fun n => decide (prodM l m n ∈ xs)) <;> rfl
end Go.Proofs.YtpboclokodgnlaaGreat
