/-
  The group of a pattern has exactly the suitable motions against which there is no witness; it has a name with as many motions; a moved pattern has the same name and the same canonical pattern.
-/
import Derived.Test.YtckjefjkedlmbaaGreatDoorMb6
namespace Go.Proofs.YtckjefjkedlmbaaGreatDoor
open Ai
set_option linter.unusedSimpArgs false
set_option linter.unusedVariables false
theorem getD_mem9 {α : Type} (xs : List α) (D : α) {i : Int} (h0 : 0 ≤ i) (h1 : i < (xs.length : Int)) : xs.getD (Int.toNat i) D ∈ xs := by
  have hlt : i.toNat < xs.length := by omega
  simp only [List.getD, List.getElem?_eq_getElem hlt, Option.getD_some]
  exact List.getElem_mem hlt
theorem all_bounds {p : Pat} (hp : isPat p = true) : 1 ≤ ((allM p.1 (fullOf p)).length : Int) ∧ ((allM p.1 (fullOf p)).length : Int) ≤ 1000000 := by
  have hf := isFrame_iff.1 (isPat_iff.1 hp).1
  have h1 := good_len hf (isLat_fullOf hp) (inc_goodL (allM_inc hf (fullOf p)) fun m hm => hm)
  have h2 := List.length_pos_of_mem (unit_allM hf (isLat_fullOf hp))
  omega
theorem top_loop {p : Pat} (hp : isPat p = true) (name : List UInt8) (c : Pat) : ∀ (d k : Nat) (s : Src), k + d = 12 → DiceOk s →
    Ok1 (laws_FnTop_l0 (groupG (onLat p (fullOf p))) name (allM p.1 (fullOf p)) (k : Int) p.1 p.2.1.1 p.2.1.2.1 p.2.1.2.2 p.2.2 c.1 c.2.1.1 c.2.1.2.1 c.2.1.2.2 c.2.2 s.1 s.2.1 s.2.2) fun y => ∃ t : Src, DiceOk t ∧ y = .inl (name, p.1, p.2.1.1, p.2.1.2.1, p.2.1.2.2, p.2.2, c.1, c.2.1.1, c.2.1.2.1, c.2.1.2.2, c.2.2, t.1, t.2.1, t.2.2)
  | 0, k, s, hk, hs => by
    rw [laws_FnTop_l0_eq, decide_eq_false (by omega)]
    exact Ok1.some ⟨s, hs, rfl⟩
  | d + 1, k, s, hk, hs => by
    obtain ⟨a1, a2⟩ := all_bounds hp
    have gl := grp_len9 hp
    rw [laws_FnTop_l0_eq, decide_eq_true (by omega), cond_true]
    refine (below_d hs _ a1 a2).bind fun y ⟨h1, h2, h3⟩ => Ok1.chk (by rw [decide_eq_true h2, decide_eq_true h3]; rfl) ?_
    have ih := fun s' hs' => top_loop hp name c d (k + 1) s' (by omega) hs'
    have hmem := getD_mem9 (allM p.1 (fullOf p)) (dflt (.pair (.pair (.i .i64) (.pair (.i .i64) (.pair (.i .i64) (.i .i64)))) (.pair (.i .i64) (.i .i64)))) h2 h3
    obtain ⟨m, hm⟩ : ∃ m, (allM p.1 (fullOf p)).getD (Int.toNat y.1) (dflt (.pair (.pair (.i .i64) (.pair (.i .i64) (.pair (.i .i64) (.i .i64)))) (.pair (.i .i64) (.i .i64)))) = m := ⟨_, rfl⟩
    rw [hm] at hmem
    simp only [hm]
    obtain ⟨v, e, w1, w2, w3⟩ := wit_group hp hmem
    have w1' : impl_WitnessAgainst (p.1, (p.2.1.1, p.2.1.2.1, p.2.1.2.2), p.2.2) ((m.1.1, m.1.2.1, m.1.2.2), m.2) = some (v, e) := w1
    have w4 : laws_hasMotion9 (groupG (onLat p (fullOf p))) ((m.1.1, m.1.2.1, m.1.2.2), m.2) = some (decide (e = 4)) := by rw [← w3]; exact laws_hasMotion9_v _ m gl
    rw [w1']
    simp only [Option.bind_some, w4, Option.bind_fun_some]
    rw [w64 (x := (k : Int) + 1) (by omega) (by omega)]
    rcases w2 with rfl | rfl
    · exact ih y.2 h1
    · exact ih y.2 h1
theorem FnTop_true (x : List Int) (h : wfE (.list (.i .u8)) x) : laws_FnTop x = some true := by
  rw [laws_FnTop_eq, laws_big_eq]
  by_cases hb : 4096 < (x.length : Int)
  · rw [decide_eq_true hb]; rfl
  · rw [decide_eq_false hb]
    have hd : Ok1 (spec_DrawGroupOfPattern x) fun y => y.2.2.length ≤ 65 := by
      rw [spec_DrawGroupOfPattern_eq]
      exact (from_d (code_bytes h) (by omega)).bind fun s hs => (pattern_d hs).bind fun y ⟨_, h1⟩ => Ok1.some h1
    obtain ⟨p, e1, hy⟩ := hd
    have hM : p.2.2.length ≤ MAXN := leM (by omega)
    simp only [Option.bind_some, cond_false, e1]
    cases hp : isPat p with
    | false =>
      have g1 : impl_GroupOfPattern p = some ([], 1) := by rw [impl_GroupOfPattern_eq, impl_IsPattern_v p hM, hp]; rfl
      have g2 : spec_GroupOfPattern p = some ([], 1) := by rw [spec_GroupOfPattern_eq, spec_IsPattern_v p hM, hp]; rfl
      have n1 : impl_NameOfPattern p = some ([], 1) := by rw [impl_NameOfPattern_eq, impl_IsPattern_v p hM, hp]; rfl
      have n2 : spec_NameOfPattern p = some ([], 1) := by rw [spec_NameOfPattern_eq, spec_IsPattern_v p hM, hp]; rfl
      have c1 : impl_CanonicalPattern p = some ((0, (0, 0, 0), []), 1) := by rw [impl_CanonicalPattern_eq, impl_IsPattern_v p hM, hp]; rfl
      have c2 : spec_CanonicalPattern p = some ((0, (0, 0, 0), []), 1) := by rw [spec_CanonicalPattern_eq, spec_IsPattern_v p hM, hp]; rfl
      have l1 := laws_likeMotions9_s [] (by simp)
      have l2 := likeP_self (p := (0, (0, 0, 0), [])) (by simp)
      simp only [g1, g2, n1, n2, c1, c2, Option.bind_some, l1, l2, decide_true, Bool.not_true, cond_true, cond_false]
      rfl
    | true =>
      have hf := isFrame_iff.1 (isPat_iff.1 hp).1
      obtain ⟨g1, g2⟩ := val_group hp
      obtain ⟨w, n1, n2, po, nm⟩ := nameP9 hp
      have c1 := val_canon hp
      have c2 := val_canonS hp
      have hcl := pat_len (canon_both p hp).2.2.1
      have gl := grp_len9 hp
      have l1 := laws_likeMotions9_s _ gl
      have l2 := likeP_self (p := canonOf p) (by omega)
      have l2' : laws_likePatterns9 (canonOf p) ((canonOf p).1, ((canonOf p).2.1.1, (canonOf p).2.1.2.1, (canonOf p).2.1.2.2), (canonOf p).2.2) = some true := l2
      have fl := val_full hp
      have al := val_all hp
      have ig := val_isGroup hp
      have pm : impl_PointMats p.1 = some (pmats p.1, 0) := by
        rw [impl_PointMats_eq, impl_IsFrame_v, isFrame_iff.2 hf]
        simp only [Option.bind_some, cond_true, impl_pointMats_v hf]
      obtain ⟨s, e2, hs⟩ := roll_d (code_bytes h) (by omega) 9001
      obtain ⟨r, e3, t, ht, rfl⟩ := top_loop hp w (canonOf p) 12 0 s rfl hs
      simp only [Int.natCast_zero] at e3
      have hpl := pmats_12 hf
      have hpp : 1 ≤ ((pmats p.1).length : Int) := by rcases hf with e | e <;> rw [e] <;> decide +kernel
      obtain ⟨y1, e4, k1, k2, k3⟩ := below_d ht ((pmats p.1).length : Int) hpp (by omega)
      obtain ⟨y2, e5, k4, k5, k6⟩ := below_d k1 9 (by omega) (by omega)
      obtain ⟨y3, e6, k7, k8, k9⟩ := below_d k4 9 (by omega) (by omega)
      have e4' : laws_dice_below (t.1, t.2.1, t.2.2) ((pmats p.1).length : Int) = some y1 := e4
      have hmem := getD_mem9 (pmats p.1) (dflt (.pair (.i .i64) (.pair (.i .i64) (.pair (.i .i64) (.i .i64))))) k2 k3
      obtain ⟨R, hR⟩ : ∃ R, (pmats p.1).getD (Int.toNat y1.1) (dflt (.pair (.i .i64) (.pair (.i .i64) (.pair (.i .i64) (.i .i64))))) = R := ⟨_, rfl⟩
      rw [hR] at hmem
      have v1 : IntKind.i64.wrap (y2.1 - 4) = y2.1 - 4 := w64 (by omega) (by omega)
      have v2 : IntKind.i64.wrap (y3.1 - 4) = y3.1 - 4 := w64 (by omega) (by omega)
      have hv : isVec (y2.1 - 4, y3.1 - 4) = true := isVec_of (by simp only; omega) (by simp only; omega)
      have mv := val_move hp (R, (y2.1 - 4, y3.1 - 4))
      rw [(pm_iff hp).2 hmem, hv] at mv
      have mv' : impl_MovePattern (p.1, (p.2.1.1, p.2.1.2.1, p.2.1.2.2), p.2.2) ((R.1, R.2.1, R.2.2), y2.1 - 4, y3.1 - 4) = some (moved p R (y2.1 - 4, y3.1 - 4), 0) := mv
      have hq := isPat_moved hp (pmats_pm hf hmem) (y2.1 - 4, y3.1 - 4)
      have d1 := val_canon hq
      rw [canon_mv hp hmem] at d1
      have chk : (decide (0 ≤ y1.1) && decide (y1.1 < ((pmats p.1).length : Int))) = true := by rw [decide_eq_true k2, decide_eq_true k3]; rfl
      simp only [g1, g2, n1, n2, c1, c2, Option.bind_some, l1, l2, decide_true, Bool.not_true, cond_true, cond_false, fl, al, po, ig, e2, e3, pm, e4', chk, e5, e6, hR, v1, v2, mv', nm R hmem, d1, l2']
end Go.Proofs.YtckjefjkedlmbaaGreatDoor
