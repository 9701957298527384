/-
  SettledLattices: program and reference agree.
-/
import Derived.Test.YtjnfbemiondekaaP16
import Derived.Test.YtjnfbemiondekaaP24
import Derived.Test.YtjnfbemiondekaaW
namespace Go.Proofs.Ytjnfbemiondekaa
open Ai
set_option linter.unusedSimpArgs false
set_option linter.unusedVariables false

def rowL (n j : Nat) : List Lat := if n % (j + 1) = 0 then (List.range (j + 1)).map (fun (b : Nat) => (((j + 1 : Nat) : Int), (b : Int), ((n / (j + 1) : Nat) : Int))) else []

def subL (n : Nat) : List Lat := (List.range n).flatMap (rowL n)

theorem rowL_len (n j : Nat) (h : j < 64) : (rowL n j).length ≤ 64 := by
  unfold rowL
  split
  · simp; omega
  · simp

theorem tmod_nat (n a : Nat) : Int.tmod (n : Int) (a : Int) = ((n % a : Nat) : Int) := by
  rw [Int.tmod_eq_emod_of_nonneg (by omega)]
  omega

theorem tdiv_nat (n a : Nat) : Int.tdiv (n : Int) (a : Int) = ((n / a : Nat) : Int) := by
  rw [Int.tdiv_eq_ediv_of_nonneg (by omega)]
  rfl

theorem subL_lat {n : Nat} (h1 : 1 ≤ n) (h2 : n ≤ 64) : ∀ l ∈ subL n, isLat l = true := by
  intro l hl
  unfold subL rowL at hl
  obtain ⟨j, hj, hl⟩ := List.mem_flatMap.1 hl
  rw [List.mem_range] at hj
  split at hl
  · rename_i hd
    obtain ⟨b, hb, rfl⟩ := List.mem_map.1 hl
    rw [List.mem_range] at hb
    have hm := Nat.div_add_mod n (j + 1)
    rw [hd, Nat.add_zero] at hm
    have hq : 1 ≤ n / (j + 1) := (Nat.one_le_div_iff (by omega)).2 (by omega)
    have hq2 : n / (j + 1) ≤ n := Nat.div_le_self _ _
    have hi : ((j + 1 : Nat) : Int) * ((n / (j + 1) : Nat) : Int) = (n : Int) := by rw [← Int.natCast_mul, hm]
    rw [isLat_iff]
    refine ⟨by dsimp only; omega, by dsimp only; omega, by dsimp only; omega, ?_⟩
    show ((j + 1 : Nat) : Int) * ((n / (j + 1) : Nat) : Int) ≤ 64
    omega
  · cases hl

theorem spec_row (n j : Nat) (hj : j < n) (hn : n ≤ 64) (s : List Lat) (hs : s.length ≤ 100000) :
    spec_SublatticesOf_l1 (n : Int) s ((j + 1 : Nat) : Int) 0 = some ((n : Int), s ++ rowL n j, ((j + 1 : Nat) : Int)) := by
  by_cases hd : n % (j + 1) = 0
  · have key := loop_filter (L := fun s k => spec_SublatticesOf_l1 (n : Int) s ((j + 1 : Nat) : Int) k) ((List.range (j + 1)).map (fun (b : Nat) => ((((j + 1 : Nat) : Int), (b : Int), ((n / (j + 1) : Nat) : Int)) : Lat))) (fun _ => true) s (fun k hk s' hs' => by
      have hk' : k < j + 1 := by simpa using hk
      show spec_SublatticesOf_l1 (n : Int) s' ((j + 1 : Nat) : Int) (k : Int) = _
      have hdl := Nat.div_le_self n (j + 1)
      have hdi : ((n / (j + 1) : Nat) : Int) ≤ 64 ∧ 0 ≤ ((n / (j + 1) : Nat) : Int) := by generalize n / (j + 1) = z at *; omega
      rw [spec_SublatticesOf_l1_eq, decide_eq_false (by omega), tmod_nat, hd, decide_eq_true (show (((0 : Nat) : Int) = 0) from rfl), tdiv_nat, w64 (x := ((n / (j + 1) : Nat) : Int)) (Int.le_trans (by decide) hdi.2) (Int.le_trans hdi.1 (by decide)), decide_eq_true (show ((k : Int) < ((j + 1 : Nat) : Int)) by omega), wnext hk' (by omega), decide_eq_true (p := s'.length + List.length [((((j + 1 : Nat) : Int), (k : Int), ((n / (j + 1) : Nat) : Int)) : Lat)] ≤ LIM) (by unfold LIM; simp only [List.length_singleton]; omega), List.getElem_map, List.getElem_range]
      simp only [cond_true, cond_false, Option.bind_fun_some]
      rfl)
    rw [key, List.filter_eq_self.2 (fun _ _ => rfl), List.length_map, List.length_range]
    show spec_SublatticesOf_l1 _ _ _ _ = _
    rw [spec_SublatticesOf_l1_eq, decide_eq_false (by omega), tmod_nat, hd, decide_eq_true (show (((0 : Nat) : Int) = 0) from rfl), decide_eq_false (show ¬ (((j + 1 : Nat) : Int) < ((j + 1 : Nat) : Int)) by omega)]
    unfold rowL
    rw [if_pos hd]
    rfl
  · rw [spec_SublatticesOf_l1_eq, decide_eq_false (by omega), tmod_nat, decide_eq_false (by omega)]
    unfold rowL
    rw [if_neg hd, List.append_nil]
    rfl

theorem impl_row (n j : Nat) (hj : j < n) (hn : n ≤ 64) (s : List Lat) (hs : s.length ≤ 100000) :
    impl_sublattices_l1 (n : Int) s ((j + 1 : Nat) : Int) ((j + 1 : Nat) : Int) 0 = some ((n : Int), s ++ rowL n j, ((j + 1 : Nat) : Int)) := by
  have key := loop_filter (L := fun s k => impl_sublattices_l1 (n : Int) s ((j + 1 : Nat) : Int) ((j + 1 : Nat) : Int) k) ((List.range (j + 1)).map (fun (b : Nat) => ((((j + 1 : Nat) : Int), (b : Int), ((n / (j + 1) : Nat) : Int)) : Lat))) (fun _ => decide (n % (j + 1) = 0)) s (fun k hk s' hs' => by
    have hk' : k < j + 1 := by simpa using hk
    show impl_sublattices_l1 (n : Int) s' ((j + 1 : Nat) : Int) ((j + 1 : Nat) : Int) (k : Int) = _
    have hdl := Nat.div_le_self n (j + 1)
    have hdi : ((n / (j + 1) : Nat) : Int) ≤ 64 ∧ 0 ≤ ((n / (j + 1) : Nat) : Int) := by generalize n / (j + 1) = z at *; omega
    rw [impl_sublattices_l1_eq, decide_eq_true (show ((k : Int) < ((j + 1 : Nat) : Int)) by omega), decide_eq_false (show ¬ (((j + 1 : Nat) : Int) = 0) by omega), tmod_nat, tdiv_nat, w64 (x := ((n / (j + 1) : Nat) : Int)) (Int.le_trans (by decide) hdi.2) (Int.le_trans hdi.1 (by decide)), wnext hk' (by omega), decide_eq_true (p := s'.length + List.length [((((j + 1 : Nat) : Int), (k : Int), ((n / (j + 1) : Nat) : Int)) : Lat)] ≤ LIM) (by unfold LIM; simp only [List.length_singleton]; omega), List.getElem_map, List.getElem_range]
    simp only [cond_true, cond_false, Option.bind_fun_some]
    by_cases hd : n % (j + 1) = 0
    · rw [hd]; rfl
    · rw [decide_eq_false (show ¬ (((n % (j + 1) : Nat) : Int) = 0) by omega), decide_eq_false hd]; rfl)
  rw [key, List.length_map, List.length_range]
  show impl_sublattices_l1 _ _ _ _ _ = _
  rw [impl_sublattices_l1_eq, decide_eq_false (show ¬ (((j + 1 : Nat) : Int) < ((j + 1 : Nat) : Int)) by omega)]
  unfold rowL
  by_cases hd : n % (j + 1) = 0
  · rw [if_pos hd, List.filter_eq_self.2 (fun _ _ => by rw [decide_eq_true hd])]
    rfl
  · rw [if_neg hd, List.filter_eq_nil_iff.2 (fun _ _ => by rw [decide_eq_false hd]; simp)]
    rfl

theorem spec_SublatticesOf_v (n : Nat) (h1 : 1 ≤ n) (h2 : n ≤ 64) : spec_SublatticesOf (n : Int) = some (subL n, 0) := by
  rw [spec_SublatticesOf_eq, spec_l01In_v]
  have hw : within (n : Int) 1 64 = true := by rw [within_iff]; omega
  have key := loop_flat (L := fun s k => spec_SublatticesOf_l0 (n : Int) s (k + 1)) (List.range n) (rowL n) 64 (fun j hj => rowL_len n j (by rw [List.mem_range] at hj; omega)) (fun k hk s hs => by
    have hk' : k < n := by simpa using hk
    show spec_SublatticesOf_l0 (n : Int) s ((k : Int) + 1) = spec_SublatticesOf_l0 (n : Int) (s ++ rowL n (List.range n)[k]) (((k + 1 : Nat) : Int) + 1)
    rw [List.getElem_range, show ((k : Int) + 1) = ((k + 1 : Nat) : Int) by omega, spec_SublatticesOf_l0_eq, decide_eq_true (by omega), spec_row n k hk' h2 s (by omega)]
    simp only [cond_true, Option.bind_some, Option.bind_fun_some]
    rw [w64 (by omega) (by omega)])
  have e : spec_SublatticesOf_l0 (n : Int) [] 1 = some (subL n) := by
    have k' : spec_SublatticesOf_l0 (n : Int) [] 1 = spec_SublatticesOf_l0 (n : Int) (subL n) (((List.range n).length : Int) + 1) := key
    rw [k', List.length_range, spec_SublatticesOf_l0_eq, decide_eq_false (by omega)]
    rfl
  rw [hw]
  simp only [Option.bind_some, cond_true, e]

theorem impl_sublattices_v (n : Nat) (h1 : 1 ≤ n) (h2 : n ≤ 64) : impl_sublattices (n : Int) = some (subL n) := by
  rw [impl_sublattices_eq]
  have key := loop_flat (L := fun s k => impl_sublattices_l0 (n : Int) s (k + 1)) (List.range n) (rowL n) 64 (fun j hj => rowL_len n j (by rw [List.mem_range] at hj; omega)) (fun k hk s hs => by
    have hk' : k < n := by simpa using hk
    show impl_sublattices_l0 (n : Int) s ((k : Int) + 1) = impl_sublattices_l0 (n : Int) (s ++ rowL n (List.range n)[k]) (((k + 1 : Nat) : Int) + 1)
    rw [List.getElem_range, show ((k : Int) + 1) = ((k + 1 : Nat) : Int) by omega, impl_sublattices_l0_eq, decide_eq_true (by omega), impl_row n k hk' h2 s (by omega)]
    simp only [cond_true, Option.bind_some, Option.bind_fun_some]
    rw [w64 (by omega) (by omega)])
  have e : impl_sublattices_l0 (n : Int) [] 1 = some (subL n) := by
    have k' : impl_sublattices_l0 (n : Int) [] 1 = impl_sublattices_l0 (n : Int) (subL n) (((List.range n).length : Int) + 1) := key
    rw [k', List.length_range, impl_sublattices_l0_eq, decide_eq_false (by omega)]
    rfl
  rw [e]
  rfl

theorem impl_Settled_1_v {p : Patch} (hp : isPatch p = true) {l : Lat} (hl : isLat l = true) : impl_SettledLattices_1 l p = some (!settlesB p l) := by
  rw [impl_SettledLattices_1_eq, impl_Patch_settles_v p l hp hl]
  simp only [Option.bind_some]
  cases settlesB p l <;> rfl

theorem impl_del_lats {p : Patch} (hp : isPatch p = true) (xs : List Lat) (hx : ∀ l ∈ xs, isLat l = true) (hn : xs.length ≤ 100000) : slices_DeleteFunc_SLattice_Lattice_o__impl_SettledLattices_1 xs p = some (xs.filter (settlesB p)) := by
  have hidx : slices_IndexFunc_SLattice_Lattice__impl_SettledLattices_1 xs p = some (match xs.findIdx? (fun x => !settlesB p x) with | none => -1 | some i => (i : Int)) := by
    rw [slices_IndexFunc_SLattice_Lattice__impl_SettledLattices_1_eq]
    have := find_loop (L := fun k => slices_IndexFunc_SLattice_Lattice__impl_SettledLattices_1_l0 xs p (xs.length : Int) k) (xs := xs) (p := fun x => !settlesB p x) (good := .inl ()) (bad := fun i => .inr (i : Int)) (by unfold MAXN; omega) (fun k hk => by
      show slices_IndexFunc_SLattice_Lattice__impl_SettledLattices_1_l0 xs _ _ k = _
      rw [slices_IndexFunc_SLattice_Lattice__impl_SettledLattices_1_l0_eq, decide_eq_true (by omega), rd_lt hk]
      simp only [cond_true, Option.bind_some, Option.bind_fun_some]
      rw [impl_Settled_1_v hp (hx _ (List.getElem_mem hk))]
      simp only [Option.bind_some]
      cases settlesB p xs[k] <;> rfl) (by
      show slices_IndexFunc_SLattice_Lattice__impl_SettledLattices_1_l0 xs _ _ _ = _
      rw [slices_IndexFunc_SLattice_Lattice__impl_SettledLattices_1_l0_eq, decide_eq_false (by omega)]; rfl)
    rw [this]
    cases xs.findIdx? (fun x => !settlesB p x) <;> rfl
  rw [slices_DeleteFunc_SLattice_Lattice_o__impl_SettledLattices_1_eq, hidx]
  cases hfi : xs.findIdx? (fun x => !settlesB p x) with
  | none =>
    simp only [Option.bind_some, decide_true, cond_true]
    congr 1
    symm
    rw [List.filter_eq_self]
    intro a ha
    rw [List.findIdx?_eq_none_iff] at hfi
    simpa using hfi a ha
  | some i =>
    obtain ⟨hi, ht⟩ := first_out xs (settlesB p) hfi
    simp only [Option.bind_some]
    rw [decide_eq_false (by omega), wN (by omega)]
    simp only [cond_false]
    obtain ⟨s', i', e1, e2, e3, e4⟩ := del_loop (L := fun s i j => slices_DeleteFunc_SLattice_Lattice_o__impl_SettledLattices_1_l0 s p i j) xs (settlesB p) (fun s i j hj hxj hsl hij he => by
      show slices_DeleteFunc_SLattice_Lattice_o__impl_SettledLattices_1_l0 s p (i : Int) (j : Int) = _
      have hq : impl_SettledLattices_1 (xs[j].1, xs[j].2) p = some (!settlesB p xs[j]) := impl_Settled_1_v hp (hx _ (List.getElem_mem hxj))
      rw [slices_DeleteFunc_SLattice_Lattice_o__impl_SettledLattices_1_l0_eq, inb hj, decide_eq_true (by omega), gd hj, he]
      simp only [cond_true, Option.bind_fun_some]
      rw [hq, wN (by omega), wN (by omega), decide_eq_true (by omega), decide_eq_true (by omega)]
      simp only [Option.bind_some, Bool.and_true, cond_true, Int.toNat_natCast]
      cases settlesB p xs[j] <;> rfl) (xs.length - (i + 1)) (i + 1) xs i (by omega) rfl (by omega) rfl ht.symm
    have e1' : slices_DeleteFunc_SLattice_Lattice_o__impl_SettledLattices_1_l0 xs p (i : Int) ((i + 1 : Nat) : Int) = slices_DeleteFunc_SLattice_Lattice_o__impl_SettledLattices_1_l0 s' p (i' : Int) (xs.length : Int) := e1
    rw [e1', slices_DeleteFunc_SLattice_Lattice_o__impl_SettledLattices_1_l0_eq, decide_eq_false (by omega)]
    simp only [cond_false, Option.bind_some, Int.toNat_natCast]
    have hol : (overL s' (List.replicate (s'.length - i') ((0, 0, 0) : Int × Int × Int)) i').length = s'.length := by
      unfold overL
      simp
      omega
    rw [decide_eq_true (show (0 : Int) ≤ (i' : Int) by omega), decide_eq_true (show (i' : Int) ≤ (s'.length : Int) by omega), decide_eq_true (by rw [hol]; omega)]
    simp only [Bool.and_true, cond_true]
    rw [cut_over _ _ _ (by omega), e4]

theorem subL_len {n : Nat} (h2 : n ≤ 64) : (subL n).length ≤ 4096 := by
  have h1 := flat_len_le (rowL n) 64 (List.range n) (fun j hj => rowL_len n j (by rw [List.mem_range] at hj; omega))
  rw [List.length_range] at h1
  unfold subL
  omega

theorem spec_settled_row {p : Patch} (hp : isPatch p = true) (z : Int) (xs : List Lat) (hx : ∀ l ∈ xs, isLat l = true) (hn : xs.length ≤ 100000) :
    spec_SettledLattices_l1 z xs [] 0 p.1 p.2.1 p.2.2 = some (z, xs.filter (settlesB p), p.1, p.2.1, p.2.2) := by
  have key := loop_filter (L := fun s k => spec_SettledLattices_l1 z xs s k p.1 p.2.1 p.2.2) xs (settlesB p) [] (fun k hk s hs => by
    show spec_SettledLattices_l1 z xs s (k : Int) p.1 p.2.1 p.2.2 = _
    have hq : spec_l20Settles (p.1, p.2.1, p.2.2) (xs[k].1, xs[k].2) = some (settlesB p xs[k]) := spec_l20Settles_v p _ hp (hx _ (List.getElem_mem hk))
    rw [spec_SettledLattices_l1_eq, inb hk, decide_eq_true (by omega), gd hk, hq, wnext hk (by omega), decide_eq_true (by unfold LIM; simp only [List.length_nil, List.length_singleton] at hs ⊢; omega)]
    simp only [cond_true, Option.bind_some, Option.bind_fun_some]
    cases settlesB p xs[k] <;> rfl)
  rw [key]
  show spec_SettledLattices_l1 _ _ _ _ _ _ _ = _
  rw [spec_SettledLattices_l1_eq, decide_eq_false (by omega)]
  rfl

def setG (p : Patch) (j : Nat) : Option (List Lat) := if 0 < ((subL (j + 1)).filter (settlesB p)).length then some ((subL (j + 1)).filter (settlesB p)) else none

def resS : Option (List Lat) → Unit ⊕ ((List (Int × Int × Int)) × Int)
  | none => .inl ()
  | some l => .inr (l, 0)

theorem spec_settled {p : Patch} (hp : isPatch p = true) : spec_SettledLattices_l0 1 p.1 p.2.1 p.2.2 = some (resS ((List.range 64).findSome? (setG p))) := by
  have key := loop_some (L := fun k => spec_SettledLattices_l0 (k + 1) p.1 p.2.1 p.2.2) (List.range 64) (setG p) resS (fun k hk => by
    have hk' : k < 64 := by simpa using hk
    have hx := subL_lat (n := k + 1) (by omega) (by omega)
    have hl := subL_len (n := k + 1) (by omega)
    have e : spec_SettledLattices_l0 ((k : Int) + 1) p.1 p.2.1 p.2.2 = (cond (decide (0 < (((subL (k + 1)).filter (settlesB p)).length : Int))) (some (.inr ((subL (k + 1)).filter (settlesB p), 0))) (spec_SettledLattices_l0 (((k + 1 : Nat) : Int) + 1) p.1 p.2.1 p.2.2)) := by
      rw [show ((k : Int) + 1) = ((k + 1 : Nat) : Int) by omega, spec_SettledLattices_l0_eq, decide_eq_true (by omega), spec_SublatticesOf_v (k + 1) (by omega) (by omega)]
      simp only [cond_true, Option.bind_some, Option.bind_fun_some, spec_settled_row hp _ _ hx (by omega)]
      rw [w64 (by omega) (by omega)]
    rw [List.getElem_range]
    unfold setG
    constructor
    · intro h
      show spec_SettledLattices_l0 ((k : Int) + 1) p.1 p.2.1 p.2.2 = _
      rw [e]
      split at h
      · cases h
      · rw [decide_eq_false (by omega)]; rfl
    · intro r h
      show spec_SettledLattices_l0 ((k : Int) + 1) p.1 p.2.1 p.2.2 = _
      rw [e]
      split at h
      · cases h
        rw [decide_eq_true (by omega)]; rfl
      · cases h) (by
    show spec_SettledLattices_l0 (((List.range 64).length : Int) + 1) p.1 p.2.1 p.2.2 = _
    rw [List.length_range, spec_SettledLattices_l0_eq, decide_eq_false (by omega)]; rfl)
  exact key

theorem impl_settled {p : Patch} (hp : isPatch p = true) : impl_SettledLattices_l0 1 p.1 p.2.1 p.2.2 = some (resS ((List.range 64).findSome? (setG p))) := by
  have key := loop_some (L := fun k => impl_SettledLattices_l0 (k + 1) p.1 p.2.1 p.2.2) (List.range 64) (setG p) resS (fun k hk => by
    have hk' : k < 64 := by simpa using hk
    have hx := subL_lat (n := k + 1) (by omega) (by omega)
    have hl := subL_len (n := k + 1) (by omega)
    have hd : slices_DeleteFunc_SLattice_Lattice_o__impl_SettledLattices_1 (subL (k + 1)) (p.1, p.2.1, p.2.2) = some ((subL (k + 1)).filter (settlesB p)) := impl_del_lats hp _ hx (by omega)
    have e : impl_SettledLattices_l0 ((k : Int) + 1) p.1 p.2.1 p.2.2 = (cond (decide (0 < (((subL (k + 1)).filter (settlesB p)).length : Int))) (some (.inr ((subL (k + 1)).filter (settlesB p), 0))) (impl_SettledLattices_l0 (((k + 1 : Nat) : Int) + 1) p.1 p.2.1 p.2.2)) := by
      rw [show ((k : Int) + 1) = ((k + 1 : Nat) : Int) by omega, impl_SettledLattices_l0_eq, decide_eq_true (by omega), impl_sublattices_v (k + 1) (by omega) (by omega)]
      simp only [cond_true, Option.bind_some, Option.bind_fun_some, hd]
      rw [w64 (by omega) (by omega)]
    rw [List.getElem_range]
    unfold setG
    constructor
    · intro h
      show impl_SettledLattices_l0 ((k : Int) + 1) p.1 p.2.1 p.2.2 = _
      rw [e]
      split at h
      · cases h
      · rw [decide_eq_false (by omega)]; rfl
    · intro r h
      show impl_SettledLattices_l0 ((k : Int) + 1) p.1 p.2.1 p.2.2 = _
      rw [e]
      split at h
      · cases h
        rw [decide_eq_true (by omega)]; rfl
      · cases h) (by
    show impl_SettledLattices_l0 (((List.range 64).length : Int) + 1) p.1 p.2.1 p.2.2 = _
    rw [List.length_range, impl_SettledLattices_l0_eq, decide_eq_false (by omega)]; rfl)
  exact key

theorem setG_len {p : Patch} {l : List Lat} (h : (List.range 64).findSome? (setG p) = some l) : l.length ≤ 1048576 := by
  obtain ⟨j, hj, he⟩ := List.exists_of_findSome?_eq_some h
  rw [List.mem_range] at hj
  have hl := subL_len (n := j + 1) (by omega)
  have h2 := List.length_filter_le (settlesB p) (subL (j + 1))
  unfold setG at he
  split at he
  · cases he; omega
  · cases he

theorem SettledLattices_agree (p : Patch) (h : p.2.2.length ≤ 1048576) : ∃ r, spec_SettledLattices p = some r ∧ impl_SettledLattices p = some r ∧ r.1.length ≤ 1048576 := by
  rw [spec_SettledLattices_eq, impl_SettledLattices_eq, spec_IsPatch_v p (leM h), impl_IsPatch_v p (leM h)]
  simp only [Option.bind_some]
  cases hp : isPatch p
  · exact ⟨_, rfl, rfl, by simp⟩
  · simp only [cond_true, spec_settled hp, impl_settled hp, Option.bind_some]
    cases hf : (List.range 64).findSome? (setG p) with
    | none => exact ⟨_, rfl, rfl, by simp⟩
    | some l => exact ⟨_, rfl, rfl, setG_len hf⟩

theorem FnExactSettledLattices_true (p : Patch) (h : wfE (.pair (.i .i64) (.pair (.i .i64) (.list (.i .i64)))) p) : laws_FnExactSettledLattices p = some true := by
  rw [laws_FnExactSettledLattices_eq, laws_szPatch_v p _ h.2.2.1 (by omega) (by omega)]
  simp only [Option.bind_some]
  rw [szl_neg (by omega)]
  by_cases hc : (p.2.2.length : Int) ≤ 1048576
  · have hc' : p.2.2.length ≤ 1048576 := by omega
    obtain ⟨r, hs, hi, hl⟩ := SettledLattices_agree p hc'
    obtain ⟨m, zs, d1, mx⟩ := laws_markPatch_m ((p.1, p.2.1), p.2.2) hc'
    have m1 : laws_markPatch ((p.1, p.2.1), p.2.2) 1 = some (m, zs) := by first | exact mx | exact mx.1
    obtain ⟨m', ys, d2, m2, m3⟩ := laws_markLatticeS_r_m r.1 hl
    simp only [decide_eq_true hc, Bool.not_true, cond_false, laws_toPatch_v p hc', Option.bind_some, hs, hi, laws_eqPatch_v _ _ (leM hc'), laws_eqLatticeS_v _ _ (leM hl), m1, m2, m3, d1, d2, decide_true, cond_true]
  · simp [hc]

end Go.Proofs.Ytjnfbemiondekaa
