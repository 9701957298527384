/-
  Plain meanings, part 5.
-/
import Derived.Test.YtopigbmamejklaaGreatDoorMPt4
namespace Go.Proofs.YtopigbmamejklaaGreatDoor
open Ai
set_option linter.unusedSimpArgs false
set_option linter.unusedVariables false
def cutR (p : Pat) (v : V) (w h : Int) : Patch × Int := if isPat p = true then (if (isVec v && (within w 1 16 && within h 1 16)) = true then ((w, h, cutC p v w h), 0) else ((0, 0, []), 2)) else ((0, 0, []), 1)
theorem cut_v (p : Pat) (v : V) (w h : Int) (hl : p.2.2.length ≤ 1048576) : spec_CutPatch p v w h = some (cutR p v w h) ∧ impl_CutPatch p v w h = some (cutR p v w h) := by
  unfold cutR
  rw [spec_CutPatch_eq, impl_CutPatch_eq, spec_IsPattern_v p (leM hl), impl_IsPattern_v p (leM hl), spec_IsVec_v, impl_IsVec_v]
  simp only [Option.bind_some, spec_l01In_v, impl_isSide_v]
  cases hp : isPat p
  · exact ⟨rfl, rfl⟩
  · cases hv : isVec v
    · exact ⟨rfl, rfl⟩
    · cases hw : within w 1 16
      · exact ⟨rfl, rfl⟩
      · cases hh : within h 1 16
        · exact ⟨rfl, rfl⟩
        · rw [within_iff] at hw hh
          simp only [cond_true, spec_l20Cut_v p v w h hp (vec_cut hv) hw hh, impl_Pattern_cut_v p v w h hp (vec_cut hv) hw hh, Option.bind_some]
          exact ⟨rfl, rfl⟩
theorem cutR_len (p : Pat) (v : V) (w h : Int) : (cutR p v w h).1.2.2.length ≤ 256 := by
  unfold cutR
  split
  · split
    · rename_i h2
      simp only [Bool.and_eq_true, within_iff] at h2
      have := wh_lim h2.2.1 h2.2.2
      simp [cutC]; omega
    · simp
  · simp
theorem getD_ltF {xs : List V} {k : Nat} (h : k < xs.length) : xs.getD k (dflt (.pair (.i .i64) (.i .i64))) = xs[k] := by
  rw [List.getD_eq_getElem?_getD, List.getElem?_eq_getElem h]; rfl
def findR (p : Pat) (q : Patch) : V × Int := if (isPat p && isPatch q) = true then (match (cells p.2.1).findIdx? (fun v => decide (cutC p v q.1 q.2.1 = q.2.2)) with
  | none => ((0, 0), 4)
  | some i => ((cells p.2.1).getD i (0, 0), 0)) else ((0, 0), 1)
theorem find_v (p : Pat) (q : Patch) (hl : p.2.2.length ≤ 1048576) (hq : q.2.2.length ≤ 1048576) : spec_FindPatch p q = some (findR p q) ∧ impl_FindPatch p q = some (findR p q) := by
  unfold findR
  rw [spec_FindPatch_eq, impl_FindPatch_eq, spec_IsPattern_v p (leM hl), impl_IsPattern_v p (leM hl), spec_IsPatch_v q (leM hq), impl_IsPatch_v q (leM hq)]
  simp only [Option.bind_some]
  cases hp : isPat p
  · exact ⟨rfl, rfl⟩
  · cases hpq : isPatch q
    · exact ⟨rfl, rfl⟩
    · have hlat := (isPat_iff.1 hp).2.1
      simp only [isPatch, Bool.and_eq_true, within_iff] at hpq
      have hw := hpq.1.1.1
      have hh := hpq.1.1.2
      simp only [cond_true, spec_l03Cells_v _ hlat, impl_Lattice_cells_v _ hlat, Option.bind_some, Bool.and_self, if_true]
      have hcl : (cells p.2.1).length ≤ MAXN := leM (Nat.le_trans (cells_len' hlat).2 (by omega))
      have hcut : ∀ k (hk : k < (cells p.2.1).length), Sm (cells p.2.1)[k] ∧ (cells p.2.1)[k].1 ≤ 1099511620000 ∧ (cells p.2.1)[k].2 ≤ 1099511620000 := fun k hk => vec_cut (cells_sm hlat (List.getElem_mem hk)).2
      have e1 := find_loop (L := fun k => spec_FindPatch_l0 (cells p.2.1) k p.1 p.2.1.1 p.2.1.2.1 p.2.1.2.2 p.2.2 q.1 q.2.1 q.2.2 0 0) (xs := cells p.2.1) (p := fun v => decide (cutC p v q.1 q.2.1 = q.2.2)) (good := .inl ((0 : Int), (0 : Int))) (bad := fun i => .inr ((0 : Int), (cells p.2.1).getD i (0, 0))) hcl (fun k hk => by
        show spec_FindPatch_l0 (cells p.2.1) k p.1 p.2.1.1 p.2.1.2.1 p.2.1.2.2 p.2.2 q.1 q.2.1 q.2.2 0 0 = _
        rw [spec_FindPatch_l0_eq, decide_eq_true (by omega), decide_eq_true (by omega)]
        simp only [Bool.and_true, cond_true, Int.toNat_natCast, getD_ltF hk]
        have e : spec_l20Cut (p.1, (p.2.1.1, p.2.1.2.1, p.2.1.2.2), p.2.2) (cells p.2.1)[k] q.1 q.2.1 = _ := spec_l20Cut_v p _ q.1 q.2.1 hp (hcut k hk) hw hh
        rw [e]
        simp only [Option.bind_some, Option.bind_fun_some]
        rw [spec_l01Same_v _ _ (leM (by have := wh_lim hw hh; simp [cutC]; omega))]
        have eg : (cells p.2.1).getD k (0, 0) = (cells p.2.1)[k] := getD_ltF hk
        rw [eg]
        cases decide (cutC p (cells p.2.1)[k] q.1 q.2.1 = q.2.2) <;> rfl) (by
        show spec_FindPatch_l0 (cells p.2.1) _ p.1 p.2.1.1 p.2.1.2.1 p.2.1.2.2 p.2.2 q.1 q.2.1 q.2.2 0 0 = _
        rw [spec_FindPatch_l0_eq, decide_eq_false (by omega)]; rfl)
      have e2 := find_loop (L := fun k => impl_FindPatch_l0 (cells p.2.1) ((cells p.2.1).length : Int) k p.1 p.2.1.1 p.2.1.2.1 p.2.1.2.2 p.2.2 q.1 q.2.1 q.2.2 0 0) (xs := cells p.2.1) (p := fun v => decide (cutC p v q.1 q.2.1 = q.2.2)) (good := .inl ((0 : Int), (0 : Int))) (bad := fun i => .inr ((0 : Int), (cells p.2.1).getD i (0, 0))) hcl (fun k hk => by
        show impl_FindPatch_l0 (cells p.2.1) _ k p.1 p.2.1.1 p.2.1.2.1 p.2.1.2.2 p.2.2 q.1 q.2.1 q.2.2 0 0 = _
        rw [impl_FindPatch_l0_eq, decide_eq_true (by omega), decide_eq_true (by omega)]
        simp only [Bool.and_true, cond_true, Int.toNat_natCast, getD_ltF hk]
        have e : impl_Pattern_cut (p.1, (p.2.1.1, p.2.1.2.1, p.2.1.2.2), p.2.2) (cells p.2.1)[k] q.1 q.2.1 = _ := impl_Pattern_cut_v p _ q.1 q.2.1 hp (hcut k hk) hw hh
        rw [e]
        simp only [Option.bind_some, Option.bind_fun_some]
        rw [slices_Equal_v _ _ (leM (by have := wh_lim hw hh; simp [cutC]; omega))]
        have eg : (cells p.2.1).getD k (0, 0) = (cells p.2.1)[k] := getD_ltF hk
        rw [eg]
        cases decide (cutC p (cells p.2.1)[k] q.1 q.2.1 = q.2.2) <;> rfl) (by
        show impl_FindPatch_l0 (cells p.2.1) _ _ p.1 p.2.1.1 p.2.1.2.1 p.2.1.2.2 p.2.2 q.1 q.2.1 q.2.2 0 0 = _
        rw [impl_FindPatch_l0_eq, decide_eq_false (by omega)]; rfl)
      have e1' : spec_FindPatch_l0 (cells p.2.1) 0 p.1 p.2.1.1 p.2.1.2.1 p.2.1.2.2 p.2.2 q.1 q.2.1 q.2.2 0 0 = _ := e1
      have e2' : impl_FindPatch_l0 (cells p.2.1) ((cells p.2.1).length : Int) 0 p.1 p.2.1.1 p.2.1.2.1 p.2.1.2.2 p.2.2 q.1 q.2.1 q.2.2 0 0 = _ := e2
      rw [e1', e2']
      cases (cells p.2.1).findIdx? (fun v => decide (cutC p v q.1 q.2.1 = q.2.2)) with
      | none => exact ⟨rfl, rfl⟩
      | some i => exact ⟨rfl, rfl⟩
theorem found_cut {p : Pat} {q : Patch} (h : (findR p q).2 = 0) : cutR p (findR p q).1 q.1 q.2.1 = (q, 0) := by
  unfold findR at h ⊢
  by_cases hb : (isPat p && isPatch q) = true
  · rw [if_pos hb] at h ⊢
    rw [Bool.and_eq_true] at hb
    cases hf : (cells p.2.1).findIdx? (fun v => decide (cutC p v q.1 q.2.1 = q.2.2)) with
    | none => rw [hf] at h; cases h
    | some i =>
      simp only
      obtain ⟨hi, hd, _⟩ := List.findIdx?_eq_some_iff_getElem.1 hf
      have hd := of_decide_eq_true hd
      have eg : (cells p.2.1).getD i (0, 0) = (cells p.2.1)[i] := getD_ltF hi
      have hlat := (isPat_iff.1 hb.1).2.1
      have hv := (cells_sm hlat (List.getElem_mem hi)).2
      have hpq := hb.2
      simp only [isPatch, Bool.and_eq_true] at hpq
      unfold cutR
      rw [eg, if_pos hb.1, if_pos (by rw [hv, hpq.1.1.1, hpq.1.1.2]; rfl), hd]
  · rw [if_neg hb] at h; cases h
end Go.Proofs.YtopigbmamejklaaGreatDoor
