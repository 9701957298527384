/-
  Unbroken: program and reference agree.
-/
import Derived.Test.YtahkbhmhaddbpaaGreatP34
import Derived.Test.YtahkbhmhaddbpaaGreatW
namespace Go.Proofs.YtahkbhmhaddbpaaGreat
open Ai
set_option linter.unusedSimpArgs false
set_option linter.unusedVariables false
set_option linter.unusedSectionVars false

theorem slices_Clone_v (xs : List Mot) (hn : xs.length ≤ 1048576) : slices_Clone_SMotion_Motion xs = some xs := by
  have h : decide (([] : List Mot).length + xs.length ≤ LIM) = true := decide_eq_true (by unfold LIM; simp only [List.length_nil]; omega)
  rw [slices_Clone_SMotion_Motion_eq, h]
  cases xs with
  | nil => exact both_self
  | cons a r => rfl

theorem impl_del_unbroken (p : Pat) (xs : List ((Int × Int × Int × Int) × Int × Int)) (hn : xs.length ≤ 1048576) (hq : ∀ x ∈ xs, impl_Unbroken_1 x (p.1, p.2.1.1, p.2.1.2.1, p.2.1.2.2, p.2.2) = some (!(keepsB p) x)) : slices_DeleteFunc_SMotion_Motion_o__impl_Unbroken_1 xs (p.1, p.2.1.1, p.2.1.2.1, p.2.1.2.2, p.2.2) = some (xs.filter ((keepsB p))) := by
  have hidx : slices_IndexFunc_SMotion_Motion__impl_Unbroken_1 xs (p.1, p.2.1.1, p.2.1.2.1, p.2.1.2.2, p.2.2) = some (match xs.findIdx? (fun x => !(keepsB p) x) with | none => -1 | some i => (i : Int)) := by
    rw [slices_IndexFunc_SMotion_Motion__impl_Unbroken_1_eq]
    have := find_loop (L := fun k => slices_IndexFunc_SMotion_Motion__impl_Unbroken_1_l0 xs (p.1, p.2.1.1, p.2.1.2.1, p.2.1.2.2, p.2.2) (xs.length : Int) k) (xs := xs) (p := fun x => !(keepsB p) x) (good := .inl ()) (bad := fun i => .inr (i : Int)) (by unfold MAXN; omega) (fun k hk => by
      show slices_IndexFunc_SMotion_Motion__impl_Unbroken_1_l0 xs _ _ k = _
      rw [slices_IndexFunc_SMotion_Motion__impl_Unbroken_1_l0_eq, decide_eq_true (by omega), rd_lt hk]
      simp only [cond_true, Option.bind_some, Option.bind_fun_some]
      rw [hq _ (List.getElem_mem hk)]
      simp only [Option.bind_some]
      cases (keepsB p) xs[k] <;> rfl) (by
      show slices_IndexFunc_SMotion_Motion__impl_Unbroken_1_l0 xs _ _ _ = _
      rw [slices_IndexFunc_SMotion_Motion__impl_Unbroken_1_l0_eq, decide_eq_false (by omega)]; rfl)
    rw [this]
    cases xs.findIdx? (fun x => !(keepsB p) x) <;> rfl
  rw [slices_DeleteFunc_SMotion_Motion_o__impl_Unbroken_1_eq, hidx]
  cases hfi : xs.findIdx? (fun x => !(keepsB p) x) with
  | none =>
    simp only [Option.bind_some, decide_true, cond_true]
    congr 1
    symm
    rw [List.filter_eq_self]
    intro a ha
    rw [List.findIdx?_eq_none_iff] at hfi
    simpa using hfi a ha
  | some i =>
    obtain ⟨hi, ht⟩ := first_out xs ((keepsB p)) hfi
    simp only [Option.bind_some]
    rw [decide_eq_false (by omega), wN (by omega)]
    simp only [cond_false]
    obtain ⟨s', i', e1, e2, e3, e4⟩ := del_loop (L := fun s i j => slices_DeleteFunc_SMotion_Motion_o__impl_Unbroken_1_l0 s (p.1, p.2.1.1, p.2.1.2.1, p.2.1.2.2, p.2.2) i j) xs ((keepsB p)) (fun s i j hj hx hsl hij he => by
      show slices_DeleteFunc_SMotion_Motion_o__impl_Unbroken_1_l0 s (p.1, p.2.1.1, p.2.1.2.1, p.2.1.2.2, p.2.2) (i : Int) (j : Int) = _
      have hq' : impl_Unbroken_1 (((xs[j].1.1, xs[j].1.2.1, xs[j].1.2.2), xs[j].2)) (p.1, p.2.1.1, p.2.1.2.1, p.2.1.2.2, p.2.2) = some (!(keepsB p) xs[j]) := hq _ (List.getElem_mem hx)
      rw [slices_DeleteFunc_SMotion_Motion_o__impl_Unbroken_1_l0_eq, inb hj, decide_eq_true (by omega), gd hj, he]
      simp only [cond_true, Option.bind_fun_some]
      rw [hq', wN (by omega), wN (by omega), decide_eq_true (by omega), decide_eq_true (by omega)]
      simp only [Option.bind_some, Bool.and_true, cond_true, Int.toNat_natCast]
      cases (keepsB p) xs[j] <;> rfl) (xs.length - (i + 1)) (i + 1) xs i (by omega) rfl (by omega) rfl ht.symm
    have e1' : slices_DeleteFunc_SMotion_Motion_o__impl_Unbroken_1_l0 xs (p.1, p.2.1.1, p.2.1.2.1, p.2.1.2.2, p.2.2) (i : Int) ((i + 1 : Nat) : Int) = slices_DeleteFunc_SMotion_Motion_o__impl_Unbroken_1_l0 s' (p.1, p.2.1.1, p.2.1.2.1, p.2.1.2.2, p.2.2) (i' : Int) (xs.length : Int) := e1
    rw [e1', slices_DeleteFunc_SMotion_Motion_o__impl_Unbroken_1_l0_eq, decide_eq_false (by omega)]
    simp only [cond_false, Option.bind_some, Int.toNat_natCast]
    have hol : (overL s' (List.replicate (s'.length - i') (((0, 0, 0, 0), 0, 0) : (Int × Int × Int × Int) × Int × Int)) i').length = s'.length := by
      unfold overL
      simp
      omega
    rw [decide_eq_true (show (0 : Int) ≤ (i' : Int) by omega), decide_eq_true (show (i' : Int) ≤ (s'.length : Int) by omega), decide_eq_true (by rw [hol]; omega)]
    simp only [Bool.and_true, cond_true]
    rw [cut_over _ _ _ (by omega), e4]

section
variable {q : Pat} (hq : isPat q = true) {xs : List Mot} (hn : xs.length ≤ 1048576)
include hq hn

theorem suit_keeps {m : Mot} (hm : suitB q.1 q.2.1 m = true) : spec_l09Keeps q m = some (keepsB q m) ∧ impl_Pattern_keeps q m = some (keepsB q m) := by
  have hs := suit_sm hq hm
  exact ⟨spec_l09Keeps_v q m hq hs, impl_Pattern_keeps_v q m hq hs⟩

theorem vec_sm {v : V} (hv : isVec v = true) : Sm v := by
  have := isVec_sv hv
  unfold Sv at this
  unfold Sm
  omega

theorem red_pair (v : V) : (decide ((red q.2.1 v).1 = v.1) && (decide ((red q.2.1 v).2 = v.2) && true)) = decide (v ∈ cells q.2.1) := by
  rw [← red_self (isPat_iff.1 hq).2.1]
  by_cases h : red q.2.1 v = v
  · rw [h]; simp
  · rw [decide_eq_false h]
    by_cases h1 : (red q.2.1 v).1 = v.1
    · have h2 : (red q.2.1 v).2 ≠ v.2 := fun h2 => h (Prod.ext h1 h2)
      simp [h1, h2]
    · simp [h1]

theorem spec_unbroken_loop : spec_Unbroken_l0 xs [] 0 q.1 q.2.1.1 q.2.1.2.1 q.2.1.2.2 q.2.2 = some (if goodL q.1 q.2.1 xs = true then .inl (xs.filter (keepsB q)) else .inr 2) := by
  have hff := (isPat_iff.1 hq).1
  have hf := isFrame_iff.1 hff
  have hl := (isPat_iff.1 hq).2.1
  have key := loop_all_st (L := fun (s : List Mot) k => spec_Unbroken_l0 xs s k q.1 q.2.1.1 q.2.1.2.1 q.2.1.2.2 q.2.2) (fun k => (xs.take k).filter (keepsB q)) xs.length (goodK q.1 q.2.1 xs) (.inl (xs.filter (keepsB q))) (.inr 2) (fun k hk => by
    show spec_Unbroken_l0 xs ((xs.take k).filter (keepsB q)) (k : Int) q.1 q.2.1.1 q.2.1.2.1 q.2.1.2.2 q.2.2 = _
    have hget : ∀ k (hk : k < xs.length), xs.getD k ((0, 0, 0, 0), 0, 0) = xs[k] := fun k hk => by simp [List.getD, hk]
    have hlen : ((xs.take k).filter (keepsB q)).length ≤ 1048576 := Nat.le_trans (List.length_filter_le _ _) (by simp; omega)
    have hF : (xs.take (k + 1)).filter (keepsB q) = if keepsB q xs[k] = true then (xs.take k).filter (keepsB q) ++ [xs[k]] else (xs.take k).filter (keepsB q) := by
      rw [List.take_add_one, List.getElem?_eq_getElem hk, List.filter_append]
      cases hk : keepsB q xs[k] <;> simp [hk]
    have e1 : spec_IsSuitable q.1 (q.2.1.1, q.2.1.2.1, q.2.1.2.2) xs[k] = some (suitB q.1 q.2.1 xs[k]) := spec_IsSuitable_v hff hl _
    rw [spec_Unbroken_l0_eq, decide_eq_true (by omega), rd_lt hk]
    simp only [cond_true, Option.bind_some, e1]
    unfold goodK
    rw [hget k hk, ← suit_reduced hf hl hn]
    cases hsu : suitB q.1 q.2.1 xs[k] with
    | false => rfl
    | true =>
      have hv : isVec xs[k].2 = true := by
        unfold suitB at hsu
        rw [Bool.and_eq_true] at hsu
        exact hsu.1
      have e2 : spec_l06Reduce (q.2.1.1, q.2.1.2.1, q.2.1.2.2) xs[k] = some (xs[k].1, red q.2.1 xs[k].2) := by
        have := spec_l03Reduce_v q.2.1 xs[k].2 hl (vec_sm hq hn hv)
        rw [spec_l06Reduce_eq, show spec_l03Reduce (q.2.1.1, q.2.1.2.1, q.2.1.2.2) xs[k].2 = _ from this]
        rfl
      have e4 : spec_l09Keeps (q.1, (q.2.1.1, q.2.1.2.1, q.2.1.2.2), q.2.2) xs[k] = some (keepsB q xs[k]) := (suit_keeps hq hn hsu).1
      simp only [cond_true, e2, Option.bind_some, decide_true, Bool.true_and]
      rw [red_pair hq hn]
      cases decide (xs[k].2 ∈ cells q.2.1) with
      | false => rfl
      | true =>
        simp only [Bool.not_true, cond_false, Bool.and_true, Bool.true_and, e4, Option.bind_some]
        rw [decide_eq_true (show ((xs.take k).filter (keepsB q)).length + ([xs[k]] : List Mot).length ≤ LIM by unfold LIM; simp only [List.length_singleton]; omega), hF, wnext hk (by omega)]
        by_cases h0 : k = 0
        · subst h0
          rw [show decide ((0 : Int) < ((0 : Nat) : Int)) = false from rfl]
          simp only [cond_false, cond_true, Option.bind_fun_some, decide_true, Bool.true_or, if_true]
          cases keepsB q xs[0] <;> rfl
        · rw [decide_eq_true (show (0 : Int) < (k : Int) by omega), show IntKind.i64.wrap ((k : Int) - 1) = ((k - 1 : Nat) : Int) by rw [w64 (by omega) (by omega)]; omega, rd_lt (show k - 1 < xs.length by omega)]
          simp only [cond_true, Option.bind_some, spec_l05Less_v, Option.bind_fun_some]
          rw [hget (k - 1) (by omega), decide_eq_false h0, Bool.false_or]
          cases mless xs[k - 1] xs[k] with
          | false => rfl
          | true => cases keepsB q xs[k] <;> rfl) (by
    show spec_Unbroken_l0 xs ((xs.take xs.length).filter (keepsB q)) (xs.length : Int) q.1 q.2.1.1 q.2.1.2.1 q.2.1.2.2 q.2.2 = _
    rw [spec_Unbroken_l0_eq, decide_eq_false (by omega), List.take_length]
    rfl) xs.length 0 (by omega)
  exact key

theorem impl_areReduced_v : impl_areReduced q.1 q.2.1 xs = some (goodL q.1 q.2.1 xs) := by
  have hff := (isPat_iff.1 hq).1
  have hf := isFrame_iff.1 hff
  have hl := (isPat_iff.1 hq).2.1
  rw [impl_areReduced_eq]
  have key := loop_all_st (L := fun (_ : Unit) k => impl_areReduced_l0 q.1 xs xs (xs.length : Int) k q.2.1.1 q.2.1.2.1 q.2.1.2.2) (fun _ => ()) xs.length (goodK q.1 q.2.1 xs) (.inl ()) (.inr false) (fun k hk => by
    show impl_areReduced_l0 q.1 xs xs (xs.length : Int) (k : Int) q.2.1.1 q.2.1.2.1 q.2.1.2.2 = _
    have hget : ∀ k (hk : k < xs.length), xs.getD k ((0, 0, 0, 0), 0, 0) = xs[k] := fun k hk => by simp [List.getD, hk]
    have e1 : impl_isSuitable q.1 (q.2.1.1, q.2.1.2.1, q.2.1.2.2) xs[k] = some (suitB q.1 q.2.1 xs[k]) := impl_isSuitable_v hf hl _
    rw [impl_areReduced_l0_eq, decide_eq_true (by omega), rd_lt hk]
    simp only [cond_true, Option.bind_some, e1]
    unfold goodK
    rw [hget k hk, ← suit_reduced hf hl hn]
    cases hsu : suitB q.1 q.2.1 xs[k] with
    | false => rfl
    | true =>
      have hv : isVec xs[k].2 = true := by
        unfold suitB at hsu
        rw [Bool.and_eq_true] at hsu
        exact hsu.1
      have e2 : impl_Lattice_reduceMotion (q.2.1.1, q.2.1.2.1, q.2.1.2.2) xs[k] = some (xs[k].1, red q.2.1 xs[k].2) := by
        have := impl_Lattice_reduce_v q.2.1 xs[k].2 hl (vec_sm hq hn hv)
        rw [impl_Lattice_reduceMotion_eq, show impl_Lattice_reduce (q.2.1.1, q.2.1.2.1, q.2.1.2.2) xs[k].2 = _ from this]
        rfl
      simp only [cond_true, e2, Option.bind_some, decide_true, Bool.true_and]
      rw [red_pair hq hn]
      cases decide (xs[k].2 ∈ cells q.2.1) with
      | false => rfl
      | true =>
        simp only [Bool.not_true, cond_false, Bool.and_true, Bool.true_and]
        rw [wnext hk (by omega)]
        by_cases h0 : k = 0
        · subst h0
          rw [show decide ((0 : Int) < ((0 : Nat) : Int)) = false from rfl]
          simp only [cond_false, Option.bind_fun_some, decide_true, Bool.true_or, if_true]
        · obtain ⟨c, hc1, hc2⟩ := impl_compareMotions_v (xs[k - 1]'(by omega)) xs[k]
          rw [decide_eq_true (show (0 : Int) < (k : Int) by omega), show IntKind.i64.wrap ((k : Int) - 1) = ((k - 1 : Nat) : Int) by rw [w64 (by omega) (by omega)]; omega, rd_lt (show k - 1 < xs.length by omega)]
          simp only [cond_true, Option.bind_some, hc1, hc2, Option.bind_fun_some]
          rw [hget (k - 1) (by omega), decide_eq_false h0, Bool.false_or]
          cases mless xs[k - 1] xs[k] <;> rfl) (by
    show impl_areReduced_l0 q.1 xs xs (xs.length : Int) (xs.length : Int) q.2.1.1 q.2.1.2.1 q.2.1.2.2 = _
    rw [impl_areReduced_l0_eq, decide_eq_false (by omega)]
    rfl) xs.length 0 (by omega)
  rw [show impl_areReduced_l0 q.1 xs xs (xs.length : Int) 0 q.2.1.1 q.2.1.2.1 q.2.1.2.2 = _ from key]
  show Option.bind (some (if goodL q.1 q.2.1 xs = true then _ else _)) _ = _
  cases goodL q.1 q.2.1 xs <;> rfl
end

theorem Unbroken_agree (p : Pat) (xs : List Mot) (h : p.2.2.length ≤ 1048576) (hn : xs.length ≤ 1048576) : ∃ r, spec_Unbroken p xs = some r ∧ impl_Unbroken p xs = some r ∧ r.1.length ≤ 1048576 := by
  rw [spec_Unbroken_eq, impl_Unbroken_eq, spec_IsPattern_v p (leM h), impl_IsPattern_v p (leM h)]
  simp only [Option.bind_some]
  cases hp : isPat p
  · exact ⟨_, rfl, rfl, by simp⟩
  · have hq := isPat_onLat hp (isLat_fullOf hp)
    simp only [cond_true, spec_l09Lean_v p hp, impl_Pattern_lean_v p hp, Option.bind_some]
    generalize onLat p (fullOf p) = q at hq ⊢
    rw [spec_unbroken_loop hq hn, impl_areReduced_v hq hn]
    cases hg : goodL q.1 q.2.1 xs with
    | false => exact ⟨_, rfl, rfl, by simp⟩
    | true =>
      have hl := (isPat_iff.1 hq).2.1
      have hf := isFrame_iff.1 (isPat_iff.1 hq).1
      have hsm : ∀ m ∈ xs, ∀ v ∈ cells q.2.1, Sm (wap m v) := fun m hm => allM_suit hf hl ((goodL_inc hg).1 m hm)
      have hd := impl_del_unbroken q xs hn fun m hm => by
        have e1 : impl_Pattern_keeps (q.1, (q.2.1.1, q.2.1.2.1, q.2.1.2.2), q.2.2) m = some (keepsB q m) := impl_Pattern_keeps_v q m hq (hsm m hm)
        rw [impl_Unbroken_1_eq, e1]
        cases keepsB q m <;> rfl
      simp only [if_true, cond_true, Option.bind_some, slices_Clone_v xs hn, hd]
      exact ⟨_, rfl, rfl, Nat.le_trans (List.length_filter_le _ _) hn⟩

theorem two_marks (p : Pat) (xs : List Mot) (h : p.2.2.length + xs.length ≤ 1048576) : ∃ (m : Int) (zs : List Int) (m' : Int) (zs' : List Mot), laws_markPattern ((p.1, p.2.1), p.2.2) 1 = some (m, zs) ∧ laws_markMotionS_r xs m = some (m', zs') ∧ decide (m' < 0) = false := by
  obtain ⟨zs, h1⟩ := laws_markPattern_v ((p.1, p.2.1), p.2.2) 1 (by simp only; omega) (by omega)
  simp only at h1
  cases xs with
  | nil =>
    refine ⟨_, zs, ((1 + 1 * p.2.2.length : Nat) : Int), [], h1, ?_, ?_⟩
    · rw [laws_markMotionS_r_eq, laws_markMotionS_r_l0_eq, decide_eq_false (by simp)]
      rfl
    · exact decide_eq_false (by omega)
  | cons a r =>
    obtain ⟨zs', h2, _⟩ := laws_markMotionS_r_v (a :: r) (1 + 1 * p.2.2.length) (by omega) (by simp only [List.length_cons] at h; omega)
    exact ⟨_, zs, _, zs', h1, h2, decide_eq_false (by omega)⟩

theorem FnExactUnbroken_true (p : Pat) (xs : List Mot) (h : wfE (.pair (.i .i64) (.pair (.pair (.i .i64) (.pair (.i .i64) (.i .i64))) (.list (.i .i64)))) p) (hx : wfE (.list (.pair (.pair (.i .i64) (.pair (.i .i64) (.pair (.i .i64) (.i .i64)))) (.pair (.i .i64) (.i .i64)))) xs) : laws_FnExactUnbroken p xs = some true := by
  rw [laws_FnExactUnbroken_eq, laws_szPattern_v p _ h.2.2.1 (by omega) (by omega)]
  simp only [Option.bind_some]
  rw [szl_neg (by omega)]
  by_cases hc : (p.2.2.length : Int) ≤ 1048576
  · have hc' : p.2.2.length ≤ 1048576 := by omega
    have hz : 0 ≤ szl p.2.2.length 1048576 := by unfold szl; omega
    have hz2 := szl_lo (n := p.2.2.length) (l := 1048576) (by omega)
    simp only [decide_eq_true hc, Bool.not_true, cond_false]
    rw [laws_szMotionS_v xs _ hx.1 hz hz2]
    simp only [Option.bind_some]
    rw [szl_neg hz]
    by_cases hd : (xs.length : Int) ≤ szl p.2.2.length 1048576
    · have hd' : xs.length ≤ 1048576 := by omega
      obtain ⟨r, hs, hi, hl⟩ := Unbroken_agree p xs hc' hd'
      have hsum : p.2.2.length + xs.length ≤ 1048576 := by
        unfold szl at hd
        rw [if_pos hc] at hd
        omega
      obtain ⟨m1, z1, m2, z2, k1, k2, k3⟩ := two_marks p xs hsum
      obtain ⟨m', ys, d2, m3, m4⟩ := laws_markMotionS_r_m r.1 hl
      simp only [decide_eq_true hd, Bool.not_true, cond_false, laws_toPattern_v p hc', laws_toMotionS_v xs hd', Option.bind_some, hs, hi, laws_eqPattern_v _ _ (leM hc'), laws_eqMotionS_v _ _ (leM hd'), laws_eqMotionS_v _ _ (leM hl), k1, k2, k3, m3, m4, d2, decide_true, cond_true]
    · simp [hd]
  · simp [hc]

end Go.Proofs.YtahkbhmhaddbpaaGreat
