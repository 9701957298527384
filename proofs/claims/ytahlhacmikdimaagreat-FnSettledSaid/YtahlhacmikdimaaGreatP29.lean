/-
  Plain meanings: all lattices with an index.
-/
import Derived.Test.YtahlhacmikdimaaGreatP10
import Derived.Test.YtahlhacmikdimaaGreatPL
import Derived.Test.YtahlhacmikdimaaGreatPM
namespace Go.Proofs.YtahlhacmikdimaaGreat
open Ai
set_option linter.unusedSimpArgs false
set_option linter.unusedVariables false
def rowL (n j : Nat) : List Lat := if n % (j + 1) = 0 then (List.range (j + 1)).map (fun (b : Nat) => (((j + 1 : Nat) : Int), (b : Int), ((n / (j + 1) : Nat) : Int))) else []
def subL (n : Nat) : List Lat := (List.range n).flatMap (rowL n)
theorem rowL_len (n j : Nat) (h : j < 64) : (rowL n j).length ≤ 64 := by
  unfold rowL
  split
  · simp; omega
  · simp
theorem tmod_nat (n a : Nat) : Int.tmod (n : Int) (a : Int) = ((n % a : Nat) : Int) := by
  rw [Int.tmod_eq_emod_of_nonneg (by omega)]
  omega
theorem tdiv_nat (n a : Nat) : Int.tdiv (n : Int) (a : Int) = ((n / a : Nat) : Int) := by
  rw [Int.tdiv_eq_ediv_of_nonneg (by omega)]
  rfl
theorem subL_lat {n : Nat} (h1 : 1 ≤ n) (h2 : n ≤ 64) : ∀ l ∈ subL n, isLat l = true := by
  intro l hl
  unfold subL rowL at hl
  obtain ⟨j, hj, hl⟩ := List.mem_flatMap.1 hl
  rw [List.mem_range] at hj
  split at hl
  · rename_i hd
    obtain ⟨b, hb, rfl⟩ := List.mem_map.1 hl
    rw [List.mem_range] at hb
    have hm := Nat.div_add_mod n (j + 1)
    rw [hd, Nat.add_zero] at hm
    have hq : 1 ≤ n / (j + 1) := (Nat.one_le_div_iff (by omega)).2 (by omega)
    have hq2 : n / (j + 1) ≤ n := Nat.div_le_self _ _
    have hi : ((j + 1 : Nat) : Int) * ((n / (j + 1) : Nat) : Int) = (n : Int) := by rw [← Int.natCast_mul, hm]
    rw [isLat_iff]
    refine ⟨by dsimp only; omega, by dsimp only; omega, by dsimp only; omega, ?_⟩
    show ((j + 1 : Nat) : Int) * ((n / (j + 1) : Nat) : Int) ≤ 64
    omega
  · cases hl
theorem spec_row (n j : Nat) (hj : j < n) (hn : n ≤ 64) (s : List Lat) (hs : s.length ≤ 100000) :
    spec_SublatticesOf_l1 (n : Int) s ((j + 1 : Nat) : Int) 0 = some ((n : Int), s ++ rowL n j, ((j + 1 : Nat) : Int)) := by
  by_cases hd : n % (j + 1) = 0
  · have key := loop_filter (L := fun s k => spec_SublatticesOf_l1 (n : Int) s ((j + 1 : Nat) : Int) k) ((List.range (j + 1)).map (fun (b : Nat) => ((((j + 1 : Nat) : Int), (b : Int), ((n / (j + 1) : Nat) : Int)) : Lat))) (fun _ => true) s (fun k hk s' hs' => by
      have hk' : k < j + 1 := by simpa using hk
      show spec_SublatticesOf_l1 (n : Int) s' ((j + 1 : Nat) : Int) (k : Int) = _
      have hdl := Nat.div_le_self n (j + 1)
      have hdi : ((n / (j + 1) : Nat) : Int) ≤ 64 ∧ 0 ≤ ((n / (j + 1) : Nat) : Int) := by generalize n / (j + 1) = z at *; omega
      rw [spec_SublatticesOf_l1_eq, decide_eq_false (by omega), tmod_nat, hd, decide_eq_true (show (((0 : Nat) : Int) = 0) from rfl), tdiv_nat, w64 (x := ((n / (j + 1) : Nat) : Int)) (Int.le_trans (by decide) hdi.2) (Int.le_trans hdi.1 (by decide)), decide_eq_true (show ((k : Int) < ((j + 1 : Nat) : Int)) by omega), wnext hk' (by omega), decide_eq_true (p := s'.length + List.length [((((j + 1 : Nat) : Int), (k : Int), ((n / (j + 1) : Nat) : Int)) : Lat)] ≤ LIM) (by unfold LIM; simp only [List.length_singleton]; omega), List.getElem_map, List.getElem_range]
      simp only [cond_true, cond_false, Option.bind_fun_some]
      rfl)
    rw [key, List.filter_eq_self.2 (fun _ _ => rfl), List.length_map, List.length_range]
    show spec_SublatticesOf_l1 _ _ _ _ = _
    rw [spec_SublatticesOf_l1_eq, decide_eq_false (by omega), tmod_nat, hd, decide_eq_true (show (((0 : Nat) : Int) = 0) from rfl), decide_eq_false (show ¬ (((j + 1 : Nat) : Int) < ((j + 1 : Nat) : Int)) by omega)]
    unfold rowL
    rw [if_pos hd]
    rfl
  · rw [spec_SublatticesOf_l1_eq, decide_eq_false (by omega), tmod_nat, decide_eq_false (by omega)]
    unfold rowL
    rw [if_neg hd, List.append_nil]
    rfl
theorem impl_row (n j : Nat) (hj : j < n) (hn : n ≤ 64) (s : List Lat) (hs : s.length ≤ 100000) :
    impl_sublattices_l1 (n : Int) s ((j + 1 : Nat) : Int) ((j + 1 : Nat) : Int) 0 = some ((n : Int), s ++ rowL n j, ((j + 1 : Nat) : Int)) := by
  have key := loop_filter (L := fun s k => impl_sublattices_l1 (n : Int) s ((j + 1 : Nat) : Int) ((j + 1 : Nat) : Int) k) ((List.range (j + 1)).map (fun (b : Nat) => ((((j + 1 : Nat) : Int), (b : Int), ((n / (j + 1) : Nat) : Int)) : Lat))) (fun _ => decide (n % (j + 1) = 0)) s (fun k hk s' hs' => by
    have hk' : k < j + 1 := by simpa using hk
    show impl_sublattices_l1 (n : Int) s' ((j + 1 : Nat) : Int) ((j + 1 : Nat) : Int) (k : Int) = _
    have hdl := Nat.div_le_self n (j + 1)
    have hdi : ((n / (j + 1) : Nat) : Int) ≤ 64 ∧ 0 ≤ ((n / (j + 1) : Nat) : Int) := by generalize n / (j + 1) = z at *; omega
    rw [impl_sublattices_l1_eq, decide_eq_true (show ((k : Int) < ((j + 1 : Nat) : Int)) by omega), decide_eq_false (show ¬ (((j + 1 : Nat) : Int) = 0) by omega), tmod_nat, tdiv_nat, w64 (x := ((n / (j + 1) : Nat) : Int)) (Int.le_trans (by decide) hdi.2) (Int.le_trans hdi.1 (by decide)), wnext hk' (by omega), decide_eq_true (p := s'.length + List.length [((((j + 1 : Nat) : Int), (k : Int), ((n / (j + 1) : Nat) : Int)) : Lat)] ≤ LIM) (by unfold LIM; simp only [List.length_singleton]; omega), List.getElem_map, List.getElem_range]
    simp only [cond_true, cond_false, Option.bind_fun_some]
    by_cases hd : n % (j + 1) = 0
    · rw [hd]; rfl
    · rw [decide_eq_false (show ¬ (((n % (j + 1) : Nat) : Int) = 0) by omega), decide_eq_false hd]; rfl)
  rw [key, List.length_map, List.length_range]
  show impl_sublattices_l1 _ _ _ _ _ = _
  rw [impl_sublattices_l1_eq, decide_eq_false (show ¬ (((j + 1 : Nat) : Int) < ((j + 1 : Nat) : Int)) by omega)]
  unfold rowL
  by_cases hd : n % (j + 1) = 0
  · rw [if_pos hd, List.filter_eq_self.2 (fun _ _ => by rw [decide_eq_true hd])]
    rfl
  · rw [if_neg hd, List.filter_eq_nil_iff.2 (fun _ _ => by rw [decide_eq_false hd]; simp)]
    rfl
theorem spec_SublatticesOf_v (n : Nat) (h1 : 1 ≤ n) (h2 : n ≤ 64) : spec_SublatticesOf (n : Int) = some (subL n, 0) := by
  rw [spec_SublatticesOf_eq, spec_l01In_v]
  have hw : within (n : Int) 1 64 = true := by rw [within_iff]; omega
  have key := loop_flat (L := fun s k => spec_SublatticesOf_l0 (n : Int) s (k + 1)) (List.range n) (rowL n) 64 (fun j hj => rowL_len n j (by rw [List.mem_range] at hj; omega)) (fun k hk s hs => by
    have hk' : k < n := by simpa using hk
    show spec_SublatticesOf_l0 (n : Int) s ((k : Int) + 1) = spec_SublatticesOf_l0 (n : Int) (s ++ rowL n (List.range n)[k]) (((k + 1 : Nat) : Int) + 1)
    rw [List.getElem_range, show ((k : Int) + 1) = ((k + 1 : Nat) : Int) by omega, spec_SublatticesOf_l0_eq, decide_eq_true (by omega), spec_row n k hk' h2 s (by omega)]
    simp only [cond_true, Option.bind_some, Option.bind_fun_some]
    rw [w64 (by omega) (by omega)])
  have e : spec_SublatticesOf_l0 (n : Int) [] 1 = some (subL n) := by
    have k' : spec_SublatticesOf_l0 (n : Int) [] 1 = spec_SublatticesOf_l0 (n : Int) (subL n) (((List.range n).length : Int) + 1) := key
    rw [k', List.length_range, spec_SublatticesOf_l0_eq, decide_eq_false (by omega)]
    rfl
  rw [hw]
  simp only [Option.bind_some, cond_true, e]
theorem impl_sublattices_v (n : Nat) (h1 : 1 ≤ n) (h2 : n ≤ 64) : impl_sublattices (n : Int) = some (subL n) := by
  rw [impl_sublattices_eq]
  have key := loop_flat (L := fun s k => impl_sublattices_l0 (n : Int) s (k + 1)) (List.range n) (rowL n) 64 (fun j hj => rowL_len n j (by rw [List.mem_range] at hj; omega)) (fun k hk s hs => by
    have hk' : k < n := by simpa using hk
    show impl_sublattices_l0 (n : Int) s ((k : Int) + 1) = impl_sublattices_l0 (n : Int) (s ++ rowL n (List.range n)[k]) (((k + 1 : Nat) : Int) + 1)
    rw [List.getElem_range, show ((k : Int) + 1) = ((k + 1 : Nat) : Int) by omega, impl_sublattices_l0_eq, decide_eq_true (by omega), impl_row n k hk' h2 s (by omega)]
    simp only [cond_true, Option.bind_some, Option.bind_fun_some]
    rw [w64 (by omega) (by omega)])
  have e : impl_sublattices_l0 (n : Int) [] 1 = some (subL n) := by
    have k' : impl_sublattices_l0 (n : Int) [] 1 = impl_sublattices_l0 (n : Int) (subL n) (((List.range n).length : Int) + 1) := key
    rw [k', List.length_range, impl_sublattices_l0_eq, decide_eq_false (by omega)]
    rfl
  rw [e]
  rfl
theorem subL_len {n : Nat} (h2 : n ≤ 64) : (subL n).length ≤ 4096 := by
  have h1 := flat_len_le (rowL n) 64 (List.range n) (fun j hj => rowL_len n j (by rw [List.mem_range] at hj; omega))
  rw [List.length_range] at h1
  unfold subL
  omega
end Go.Proofs.YtahlhacmikdimaaGreat
