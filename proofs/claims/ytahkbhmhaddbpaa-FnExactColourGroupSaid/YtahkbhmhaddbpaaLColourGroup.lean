/-
  ColourGroup: program and reference agree.
-/
import Derived.Test.YtahkbhmhaddbpaaP30
import Derived.Test.YtahkbhmhaddbpaaP31
import Derived.Test.YtahkbhmhaddbpaaW
namespace Go.Proofs.Ytahkbhmhaddbpaa
open Ai
set_option linter.unusedSimpArgs false
set_option linter.unusedVariables false

def hasRule (p : Pat) (m : Mot) : Bool := (ruleOf p m).isSome

theorem impl_del_rules (p : Pat) (xs : List ((Int × Int × Int × Int) × Int × Int)) (hn : xs.length ≤ 100000) (hq : ∀ x ∈ xs, impl_ColourGroup_1 x (p.1, p.2.1.1, p.2.1.2.1, p.2.1.2.2, p.2.2) = some (!(hasRule p) x)) : slices_DeleteFunc_SMotion_Motion_o__impl_ColourGroup_1 xs (p.1, p.2.1.1, p.2.1.2.1, p.2.1.2.2, p.2.2) = some (xs.filter ((hasRule p))) := by
  have hidx : slices_IndexFunc_SMotion_Motion__impl_ColourGroup_1 xs (p.1, p.2.1.1, p.2.1.2.1, p.2.1.2.2, p.2.2) = some (match xs.findIdx? (fun x => !(hasRule p) x) with | none => -1 | some i => (i : Int)) := by
    rw [slices_IndexFunc_SMotion_Motion__impl_ColourGroup_1_eq]
    have := find_loop (L := fun k => slices_IndexFunc_SMotion_Motion__impl_ColourGroup_1_l0 xs (p.1, p.2.1.1, p.2.1.2.1, p.2.1.2.2, p.2.2) (xs.length : Int) k) (xs := xs) (p := fun x => !(hasRule p) x) (good := .inl ()) (bad := fun i => .inr (i : Int)) (by unfold MAXN; omega) (fun k hk => by
      show slices_IndexFunc_SMotion_Motion__impl_ColourGroup_1_l0 xs _ _ k = _
      rw [slices_IndexFunc_SMotion_Motion__impl_ColourGroup_1_l0_eq, decide_eq_true (by omega), rd_lt hk]
      simp only [cond_true, Option.bind_some, Option.bind_fun_some]
      rw [hq _ (List.getElem_mem hk)]
      simp only [Option.bind_some]
      cases (hasRule p) xs[k] <;> rfl) (by
      show slices_IndexFunc_SMotion_Motion__impl_ColourGroup_1_l0 xs _ _ _ = _
      rw [slices_IndexFunc_SMotion_Motion__impl_ColourGroup_1_l0_eq, decide_eq_false (by omega)]; rfl)
    rw [this]
    cases xs.findIdx? (fun x => !(hasRule p) x) <;> rfl
  rw [slices_DeleteFunc_SMotion_Motion_o__impl_ColourGroup_1_eq, hidx]
  cases hfi : xs.findIdx? (fun x => !(hasRule p) x) with
  | none =>
    simp only [Option.bind_some, decide_true, cond_true]
    congr 1
    symm
    rw [List.filter_eq_self]
    intro a ha
    rw [List.findIdx?_eq_none_iff] at hfi
    simpa using hfi a ha
  | some i =>
    obtain ⟨hi, ht⟩ := first_out xs ((hasRule p)) hfi
    simp only [Option.bind_some]
    rw [decide_eq_false (by omega), wN (by omega)]
    simp only [cond_false]
    obtain ⟨s', i', e1, e2, e3, e4⟩ := del_loop (L := fun s i j => slices_DeleteFunc_SMotion_Motion_o__impl_ColourGroup_1_l0 s (p.1, p.2.1.1, p.2.1.2.1, p.2.1.2.2, p.2.2) i j) xs ((hasRule p)) (fun s i j hj hx hsl hij he => by
      show slices_DeleteFunc_SMotion_Motion_o__impl_ColourGroup_1_l0 s (p.1, p.2.1.1, p.2.1.2.1, p.2.1.2.2, p.2.2) (i : Int) (j : Int) = _
      have hq' : impl_ColourGroup_1 (((xs[j].1.1, xs[j].1.2.1, xs[j].1.2.2), xs[j].2)) (p.1, p.2.1.1, p.2.1.2.1, p.2.1.2.2, p.2.2) = some (!(hasRule p) xs[j]) := hq _ (List.getElem_mem hx)
      rw [slices_DeleteFunc_SMotion_Motion_o__impl_ColourGroup_1_l0_eq, inb hj, decide_eq_true (by omega), gd hj, he]
      simp only [cond_true, Option.bind_fun_some]
      rw [hq', wN (by omega), wN (by omega), decide_eq_true (by omega), decide_eq_true (by omega)]
      simp only [Option.bind_some, Bool.and_true, cond_true, Int.toNat_natCast]
      cases (hasRule p) xs[j] <;> rfl) (xs.length - (i + 1)) (i + 1) xs i (by omega) rfl (by omega) rfl ht.symm
    have e1' : slices_DeleteFunc_SMotion_Motion_o__impl_ColourGroup_1_l0 xs (p.1, p.2.1.1, p.2.1.2.1, p.2.1.2.2, p.2.2) (i : Int) ((i + 1 : Nat) : Int) = slices_DeleteFunc_SMotion_Motion_o__impl_ColourGroup_1_l0 s' (p.1, p.2.1.1, p.2.1.2.1, p.2.1.2.2, p.2.2) (i' : Int) (xs.length : Int) := e1
    rw [e1', slices_DeleteFunc_SMotion_Motion_o__impl_ColourGroup_1_l0_eq, decide_eq_false (by omega)]
    simp only [cond_false, Option.bind_some, Int.toNat_natCast]
    have hol : (overL s' (List.replicate (s'.length - i') (((0, 0, 0, 0), 0, 0) : (Int × Int × Int × Int) × Int × Int)) i').length = s'.length := by
      unfold overL
      simp
      omega
    rw [decide_eq_true (show (0 : Int) ≤ (i' : Int) by omega), decide_eq_true (show (i' : Int) ≤ (s'.length : Int) by omega), decide_eq_true (by rw [hol]; omega)]
    simp only [Bool.and_true, cond_true]
    rw [cut_over _ _ _ (by omega), e4]

theorem impl_ColourGroup_1_v {p : Pat} (hp : isPat p = true) {m : Mot} (hm : ∀ v ∈ cells p.2.1, Sm (wap m v)) : impl_ColourGroup_1 m (p.1, p.2.1.1, p.2.1.2.1, p.2.1.2.2, p.2.2) = some (!hasRule p m) := by
  have h1 : impl_Pattern_permutation (p.1, (p.2.1.1, p.2.1.2.1, p.2.1.2.2), p.2.2) m = some ((ruleOf p m).getD []) := impl_Pattern_permutation_v hp hm
  rw [impl_ColourGroup_1_eq, h1]
  unfold hasRule
  cases hr : ruleOf p m with
  | none => rfl
  | some z =>
    have hz := ruleOf_len hp hm hr
    have : z.isEmpty = false := by
      cases z with
      | nil => simp at hz
      | cons => rfl
    simp [this]

theorem ColourGroup_agree (p : Pat) (h : p.2.2.length ≤ 1048576) : ∃ r, spec_ColourGroup p = some r ∧ impl_ColourGroup p = some r ∧ r.1.length ≤ 1048576 := by
  rw [spec_ColourGroup_eq, impl_ColourGroup_eq, spec_IsPattern_v p (leM h), impl_IsPattern_v p (leM h)]
  simp only [Option.bind_some]
  cases hp : isPat p
  · exact ⟨_, rfl, rfl, by simp⟩
  · have hl := (isPat_iff.1 hp).2.1
    have hf := isFrame_iff.1 (isPat_iff.1 hp).1
    have hal := allM_len p.1 hl
    have hsm : ∀ m ∈ allM p.1 p.2.1, ∀ v ∈ cells p.2.1, Sm (wap m v) := fun m hm => allM_suit hf hl hm
    simp only [cond_true, Option.bind_some, impl_allMotions_v hf hl, spec_l16All_v hf hl]
    rw [impl_del_rules p (allM p.1 p.2.1) (by omega) fun m hm => impl_ColourGroup_1_v hp (hsm m hm)]
    have key := loop_filter (L := fun s k => spec_ColourGroup_l0 (allM p.1 p.2.1) s k p.1 p.2.1.1 p.2.1.2.1 p.2.1.2.2 p.2.2) (allM p.1 p.2.1) (hasRule p) [] (fun k hk s hs => by
      show spec_ColourGroup_l0 (allM p.1 p.2.1) s (k : Int) p.1 p.2.1.1 p.2.1.2.1 p.2.1.2.2 p.2.2 = _
      have hmem : (allM p.1 p.2.1)[k] ∈ allM p.1 p.2.1 := List.getElem_mem hk
      rw [spec_ColourGroup_l0_eq, inb hk, decide_eq_true (by omega), gd hk]
      simp only [cond_true, Option.bind_fun_some]
      have e1 : spec_l16Rule (p.1, (p.2.1.1, p.2.1.2.1, p.2.1.2.2), p.2.2) (((allM p.1 p.2.1)[k].1.1, (allM p.1 p.2.1)[k].1.2.1, (allM p.1 p.2.1)[k].1.2.2), (allM p.1 p.2.1)[k].2) = _ := spec_l16Rule_v hp (hsm _ hmem)
      rw [e1, wnext hk (by omega), decide_eq_true (by unfold LIM; simp only [List.length_nil, List.length_singleton] at hs ⊢; omega)]
      simp only [Option.bind_some]
      unfold hasRule
      cases ruleOf p (allM p.1 p.2.1)[k] <;> rfl)
    rw [key]
    have hend : spec_ColourGroup_l0 (allM p.1 p.2.1) ([] ++ (allM p.1 p.2.1).filter (hasRule p)) ((allM p.1 p.2.1).length : Int) p.1 p.2.1.1 p.2.1.2.1 p.2.1.2.2 p.2.2 = some ((allM p.1 p.2.1).filter (hasRule p)) := by
      rw [spec_ColourGroup_l0_eq, decide_eq_false (by omega), List.nil_append]
      rfl
    rw [hend]
    exact ⟨_, rfl, rfl, Nat.le_trans (List.length_filter_le _ _) (by omega)⟩

theorem FnExactColourGroup_true (p : Pat) (h : wfE (.pair (.i .i64) (.pair (.pair (.i .i64) (.pair (.i .i64) (.i .i64))) (.list (.i .i64)))) p) : laws_FnExactColourGroup p = some true := by
  rw [laws_FnExactColourGroup_eq, laws_szPattern_v p _ h.2.2.1 (by omega) (by omega)]
  simp only [Option.bind_some]
  rw [szl_neg (by omega)]
  by_cases hc : (p.2.2.length : Int) ≤ 1048576
  · have hc' : p.2.2.length ≤ 1048576 := by omega
    obtain ⟨r, hs, hi, hl⟩ := ColourGroup_agree p hc'
    obtain ⟨m, zs, d1, m1⟩ := laws_markPattern_m ((p.1, p.2.1), p.2.2) hc'
    obtain ⟨m', ys, d2, m2, m3⟩ := laws_markMotionS_r_m r.1 hl
    simp only [decide_eq_true hc, Bool.not_true, cond_false, laws_toPattern_v p hc', Option.bind_some, hs, hi, laws_eqPattern_v _ _ (leM hc'), laws_eqMotionS_v _ _ (leM hl), m1, m2, m3, d1, d2, decide_true, cond_true]
  · simp [hc]

end Go.Proofs.Ytahkbhmhaddbpaa
