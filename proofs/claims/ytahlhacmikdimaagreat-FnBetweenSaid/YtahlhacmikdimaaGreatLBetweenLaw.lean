/-
  There is a motion between two patterns exactly if they are equivalent, and it takes one to the other one.
-/
import Derived.Test.YtahlhacmikdimaaGreatPW
namespace Go.Proofs.YtahlhacmikdimaaGreat
open Ai
set_option linter.unusedSimpArgs false
set_option linter.unusedVariables false

def endM (r : Mot) : (Int × Int × Int × Int × Int × Int) ⊕ (Int × Int × Int × Int × Int × Int × Int) := .inr (0, r.1.1, r.1.2.1, r.1.2.2.1, r.1.2.2.2, r.2.1, r.2.2)

def resM : Option Mot → (Int × Int × Int × Int × Int × Int) ⊕ (Int × Int × Int × Int × Int × Int × Int)
  | none => .inl (0, 0, 0, 0, 0, 0)
  | some r => endM r

theorem spec_between_inner (a b : Pat) (ha : isPat a = true) (hb : isPat b = true) (ms : List Mat4) {i : Nat} (hi : i < ms.length) (hm : Pm ms[i]) :
    spec_MotionBetween_l1 ms (cells b.2.1) (i : Int) 0 0 0 0 0 0 0 a.1 a.2.1.1 a.2.1.2.1 a.2.1.2.2 a.2.2 b.1 b.2.1.1 b.2.1.2.1 b.2.1.2.2 b.2.2 =
      some (match hitM a b ms[i] with | none => .inl (ms, cells b.2.1, (i : Int), 0, 0, 0, 0, 0, 0, a.1, a.2.1.1, a.2.1.2.1, a.2.1.2.2, a.2.2, b.1, b.2.1.1, b.2.1.2.1, b.2.1.2.2, b.2.2) | some r => .inr (0, r.1.1, r.1.2.1, r.1.2.2.1, r.1.2.2.2, r.2.1, r.2.2)) := by
  have hl := (isPat_iff.1 hb).2.1
  have hn := (cells_len' hl).2
  have key := loop_find (L := fun k => spec_MotionBetween_l1 ms (cells b.2.1) (i : Int) k 0 0 0 0 0 0 a.1 a.2.1.1 a.2.1.2.1 a.2.1.2.2 a.2.2 b.1 b.2.1.1 b.2.1.2.1 b.2.1.2.2 b.2.2) (cells b.2.1) (fun t => sameP (moved a ms[i] t) b) (.inl (ms, cells b.2.1, (i : Int), 0, 0, 0, 0, 0, 0, a.1, a.2.1.1, a.2.1.2.1, a.2.1.2.2, a.2.2, b.1, b.2.1.1, b.2.1.2.1, b.2.1.2.2, b.2.2)) (fun t => .inr (0, ms[i].1, ms[i].2.1, ms[i].2.2.1, ms[i].2.2.2, t.1, t.2)) (fun k hk => by
    have hmem : (cells b.2.1)[k] ∈ cells b.2.1 := List.getElem_mem hk
    rw [spec_MotionBetween_l1_eq, inb hi, inb hk, decide_eq_true (by omega), gd hi, gd hk]
    simp only [cond_true, Option.bind_fun_some]
    have e1 : spec_l09Move (a.1, (a.2.1.1, a.2.1.2.1, a.2.1.2.2), a.2.2) ((ms[i].1, ms[i].2.1, ms[i].2.2), (cells b.2.1)[k]) = some (moved a ms[i] (cells b.2.1)[k]) := spec_l09Move_v a _ ha hm (cells_ss hl hmem)
    have e2 : spec_l09Same (moved a ms[i] (cells b.2.1)[k]) (b.1, (b.2.1.1, b.2.1.2.1, b.2.1.2.2), b.2.2) = some (sameP (moved a ms[i] (cells b.2.1)[k]) b) := spec_l09Same_p _ b (leM (Nat.le_trans (moved_len a _ ha hm) (by omega)))
    rw [e1]
    simp only [Option.bind_some]
    rw [e2, wnext hk (by omega)]
    simp only [Option.bind_some]
    cases sameP (moved a ms[i] (cells b.2.1)[k]) b <;> rfl) (by
    rw [spec_MotionBetween_l1_eq, decide_eq_false (by omega)]; rfl)
  rw [key]
  unfold hitM
  cases (cells b.2.1).find? (fun t => sameP (moved a ms[i] t) b) <;> rfl

theorem spec_between (a b : Pat) (ha : isPat a = true) (hb : isPat b = true) :
    spec_MotionBetween_l0 (pmats a.1) (cells b.2.1) 0 0 0 0 0 0 0 a.1 a.2.1.1 a.2.1.2.1 a.2.1.2.2 a.2.2 b.1 b.2.1.1 b.2.1.2.1 b.2.1.2.2 b.2.2 = some (resM ((pmats a.1).findSome? (hitM a b))) := by
  have hf := isFrame_iff.1 (isPat_iff.1 ha).1
  have hn := pmats_len a.1
  have hstep : ∀ (k : Nat) (hk : k < (pmats a.1).length), (hitM a b (pmats a.1)[k] = none → spec_MotionBetween_l0 (pmats a.1) (cells b.2.1) (k : Int) 0 0 0 0 0 0 a.1 a.2.1.1 a.2.1.2.1 a.2.1.2.2 a.2.2 b.1 b.2.1.1 b.2.1.2.1 b.2.1.2.2 b.2.2 = spec_MotionBetween_l0 (pmats a.1) (cells b.2.1) ((k + 1 : Nat) : Int) 0 0 0 0 0 0 a.1 a.2.1.1 a.2.1.2.1 a.2.1.2.2 a.2.2 b.1 b.2.1.1 b.2.1.2.1 b.2.1.2.2 b.2.2) ∧ ∀ r, hitM a b (pmats a.1)[k] = some r → spec_MotionBetween_l0 (pmats a.1) (cells b.2.1) (k : Int) 0 0 0 0 0 0 a.1 a.2.1.1 a.2.1.2.1 a.2.1.2.2 a.2.2 b.1 b.2.1.1 b.2.1.2.1 b.2.1.2.2 b.2.2 = some (resM (some r)) := fun k hk => by
    have hm : Pm (pmats a.1)[k] := pmB_pm hf ((mem_pmats hf _).1 (List.getElem_mem hk))
    rw [spec_MotionBetween_l0_eq, decide_eq_true (by omega), spec_between_inner a b ha hb (pmats a.1) hk hm]
    simp only [cond_true, Option.bind_some]
    constructor
    · intro h
      rw [h]
      simp only [Option.bind_fun_some]
      rw [wnext hk (by omega)]
    · intro r h
      rw [h]
      rfl
  exact (loop_some (L := fun k => spec_MotionBetween_l0 (pmats a.1) (cells b.2.1) k 0 0 0 0 0 0 a.1 a.2.1.1 a.2.1.2.1 a.2.1.2.2 a.2.2 b.1 b.2.1.1 b.2.1.2.1 b.2.1.2.2 b.2.2) (pmats a.1) (hitM a b) resM hstep (by
    rw [spec_MotionBetween_l0_eq, decide_eq_false (by omega)]; rfl))

theorem impl_between_inner (a b : Pat) (ha : isPat a = true) (hb : isPat b = true) (ms : List Mat4) (n i : Int) {m : Mat4} (hm : Pm m) (hlat : imgL m a.2.1 = b.2.1) :
    impl_MotionBetween_l1 ms n i (cells b.2.1) ((cells b.2.1).length : Int) 0 0 0 0 0 0 0 a.1 a.2.1.1 a.2.1.2.1 a.2.1.2.2 a.2.2 b.1 b.2.1.1 b.2.1.2.1 b.2.1.2.2 b.2.2 m.1 m.2.1 m.2.2.1 m.2.2.2 (moved a m (0, 0)).1 (moved a m (0, 0)).2.1.1 (moved a m (0, 0)).2.1.2.1 (moved a m (0, 0)).2.1.2.2 (moved a m (0, 0)).2.2 =
      some (match hitM a b m with | none => .inl (ms, n, i, 0, 0, 0, 0, 0, 0, a.1, a.2.1.1, a.2.1.2.1, a.2.1.2.2, a.2.2, b.1, b.2.1.1, b.2.1.2.1, b.2.1.2.2, b.2.2) | some r => .inr (0, r.1.1, r.1.2.1, r.1.2.2.1, r.1.2.2.2, r.2.1, r.2.2)) := by
  have hl := (isPat_iff.1 hb).2.1
  have hn := (cells_len' hl).2
  have hmv := isPat_moved ha hm (0, 0)
  have key := loop_find (L := fun k => impl_MotionBetween_l1 ms n i (cells b.2.1) ((cells b.2.1).length : Int) k 0 0 0 0 0 0 a.1 a.2.1.1 a.2.1.2.1 a.2.1.2.2 a.2.2 b.1 b.2.1.1 b.2.1.2.1 b.2.1.2.2 b.2.2 m.1 m.2.1 m.2.2.1 m.2.2.2 (moved a m (0, 0)).1 (moved a m (0, 0)).2.1.1 (moved a m (0, 0)).2.1.2.1 (moved a m (0, 0)).2.1.2.2 (moved a m (0, 0)).2.2) (cells b.2.1) (fun t => sameP (moved a m t) b) (.inl (ms, n, i, 0, 0, 0, 0, 0, 0, a.1, a.2.1.1, a.2.1.2.1, a.2.1.2.2, a.2.2, b.1, b.2.1.1, b.2.1.2.1, b.2.1.2.2, b.2.2)) (fun t => .inr (0, m.1, m.2.1, m.2.2.1, m.2.2.2, t.1, t.2)) (fun k hk => by
    have hmem : (cells b.2.1)[k] ∈ cells b.2.1 := List.getElem_mem hk
    rw [impl_MotionBetween_l1_eq, inb hk, decide_eq_true (by omega), gd hk, impl_unit_eq]
    simp only [cond_true, Option.bind_some, Option.bind_fun_some]
    have e1 : impl_Pattern_move ((moved a m (0, 0)).1, ((moved a m (0, 0)).2.1.1, (moved a m (0, 0)).2.1.2.1, (moved a m (0, 0)).2.1.2.2), (moved a m (0, 0)).2.2) ((1, 0, 0, 1), (cells b.2.1)[k]) = some (moved a m (cells b.2.1)[k]) := by
      rw [← moved_shift ha hm (cells b.2.1)[k]]
      exact impl_Pattern_move_v (moved a m (0, 0)) _ hmv pm_unit (cells_sv hl hmem)
    have e2 : impl_samePattern (moved a m (cells b.2.1)[k]) (b.1, (b.2.1.1, b.2.1.2.1, b.2.1.2.2), b.2.2) = some (sameP (moved a m (cells b.2.1)[k]) b) := impl_samePattern_p _ b (leM (Nat.le_trans (moved_len a _ ha hm) (by omega)))
    rw [e1]
    simp only [Option.bind_some]
    rw [e2, wnext hk (by omega)]
    simp only [Option.bind_some]
    cases sameP (moved a m (cells b.2.1)[k]) b <;> rfl) (by
    rw [impl_MotionBetween_l1_eq, decide_eq_false (by omega)]; rfl)
  rw [key]
  unfold hitM
  cases (cells b.2.1).find? (fun t => sameP (moved a m t) b) <;> rfl

theorem hit_lat {a b : Pat} {m : Mat4} (h : ¬ (imgL m a.2.1 = b.2.1)) : hitM a b m = none := by
  unfold hitM
  rw [Option.map_eq_none_iff, List.find?_eq_none]
  intro t _
  unfold sameP
  show ¬ ((decide _ && decide (imgL m a.2.1 = b.2.1) && decide _) = true)
  rw [decide_eq_false h]
  simp

theorem hit_frame {a b : Pat} {m : Mat4} (h : ¬ (a.1 = b.1)) : hitM a b m = none := by
  unfold hitM
  rw [Option.map_eq_none_iff, List.find?_eq_none]
  intro t _
  unfold sameP
  show ¬ ((decide (a.1 = b.1) && decide _ && decide _) = true)
  rw [decide_eq_false h]
  simp

theorem impl_between (a b : Pat) (ha : isPat a = true) (hb : isPat b = true) :
    impl_MotionBetween_l0 (pmats a.1) ((pmats a.1).length : Int) 0 0 0 0 0 0 0 a.1 a.2.1.1 a.2.1.2.1 a.2.1.2.2 a.2.2 b.1 b.2.1.1 b.2.1.2.1 b.2.1.2.2 b.2.2 = some (resM ((pmats a.1).findSome? (hitM a b))) := by
  have hf := isFrame_iff.1 (isPat_iff.1 ha).1
  have hn := pmats_len a.1
  have hl := (isPat_iff.1 hb).2.1
  have hz : Sv ((0 : Int), (0 : Int)) := by unfold Sv; simp
  have hstep : ∀ (k : Nat) (hk : k < (pmats a.1).length), (hitM a b (pmats a.1)[k] = none → impl_MotionBetween_l0 (pmats a.1) ((pmats a.1).length : Int) (k : Int) 0 0 0 0 0 0 a.1 a.2.1.1 a.2.1.2.1 a.2.1.2.2 a.2.2 b.1 b.2.1.1 b.2.1.2.1 b.2.1.2.2 b.2.2 = impl_MotionBetween_l0 (pmats a.1) ((pmats a.1).length : Int) ((k + 1 : Nat) : Int) 0 0 0 0 0 0 a.1 a.2.1.1 a.2.1.2.1 a.2.1.2.2 a.2.2 b.1 b.2.1.1 b.2.1.2.1 b.2.1.2.2 b.2.2) ∧ ∀ r, hitM a b (pmats a.1)[k] = some r → impl_MotionBetween_l0 (pmats a.1) ((pmats a.1).length : Int) (k : Int) 0 0 0 0 0 0 a.1 a.2.1.1 a.2.1.2.1 a.2.1.2.2 a.2.2 b.1 b.2.1.1 b.2.1.2.1 b.2.1.2.2 b.2.2 = some (resM (some r)) := fun k hk => by
    have hm : Pm (pmats a.1)[k] := pmB_pm hf ((mem_pmats hf _).1 (List.getElem_mem hk))
    have e1 : impl_Pattern_move (a.1, (a.2.1.1, a.2.1.2.1, a.2.1.2.2), a.2.2) (((pmats a.1)[k].1, (pmats a.1)[k].2.1, (pmats a.1)[k].2.2), 0, 0) = some (moved a (pmats a.1)[k] (0, 0)) := impl_Pattern_move_v a (0, 0) ha hm hz
    rw [impl_MotionBetween_l0_eq, inb hk, decide_eq_true (by omega), gd hk, e1]
    simp only [cond_true, Option.bind_some]
    have hb' : (decide ((moved a (pmats a.1)[k] (0, 0)).2.1.1 = b.2.1.1) && (decide ((moved a (pmats a.1)[k] (0, 0)).2.1.2.1 = b.2.1.2.1) && (decide ((moved a (pmats a.1)[k] (0, 0)).2.1.2.2 = b.2.1.2.2) && true))) = decide (imgL (pmats a.1)[k] a.2.1 = b.2.1) := lat_beq (imgL (pmats a.1)[k] a.2.1) b.2.1
    rw [hb', wnext hk (by omega)]
    have hc : impl_Lattice_cells (b.2.1.1, b.2.1.2.1, b.2.1.2.2) = some (cells b.2.1) := impl_Lattice_cells_v _ hl
    by_cases hlat : imgL (pmats a.1)[k] a.2.1 = b.2.1
    · rw [decide_eq_true hlat, hc]
      simp only [Bool.not_true, cond_false, Option.bind_some]
      have e2 := impl_between_inner a b ha hb (pmats a.1) ((pmats a.1).length : Int) (k : Int) hm hlat
      rw [e2]
      simp only [Option.bind_some]
      constructor
      · intro h
        rw [h]
        simp only [Option.bind_fun_some]
        rw [wnext hk (by omega)]
      · intro r h
        rw [h]
        rfl
    · rw [decide_eq_false hlat, hit_lat hlat]
      simp only [Bool.not_false, cond_true, Option.bind_fun_some]
      first | exact ⟨trivial, fun r h => by cases h⟩ | exact ⟨fun _ => rfl, fun r h => by cases h⟩ | simp
  exact (loop_some (L := fun k => impl_MotionBetween_l0 (pmats a.1) ((pmats a.1).length : Int) k 0 0 0 0 0 0 a.1 a.2.1.1 a.2.1.2.1 a.2.1.2.2 a.2.2 b.1 b.2.1.1 b.2.1.2.1 b.2.1.2.2 b.2.2) (pmats a.1) (hitM a b) resM hstep (by
    rw [impl_MotionBetween_l0_eq, decide_eq_false (by omega)]; rfl))

def btw (p q : Pat) : Mot × Int := match (pmats p.1).findSome? (hitM (onLat p (fullOf p)) (onLat q (fullOf q))) with
  | none => (((0, 0, 0, 0), 0, 0), 4)
  | some r => (r, 0)

theorem between_v (p q : Pat) (h : p.2.2.length ≤ 1048576) (h2 : q.2.2.length ≤ 1048576) : impl_MotionBetween p q = some (if (isPat p && isPat q) = true then btw p q else (((0, 0, 0, 0), 0, 0), 1)) ∧ spec_MotionBetween p q = some (if (isPat p && isPat q) = true then btw p q else (((0, 0, 0, 0), 0, 0), 1)) := by
  rw [spec_MotionBetween_eq, impl_MotionBetween_eq, spec_IsPattern_v p (leM h), impl_IsPattern_v p (leM h), spec_IsPattern_v q (leM h2), impl_IsPattern_v q (leM h2)]
  simp only [Option.bind_some]
  cases hp : isPat p
  · exact ⟨rfl, rfl⟩
  · cases hq : isPat q
    · exact ⟨rfl, rfl⟩
    · have ha := isPat_onLat hp (isLat_fullOf hp)
      have hb := isPat_onLat hq (isLat_fullOf hq)
      have hf := isFrame_iff.1 (isPat_iff.1 ha).1
      simp only [cond_true, spec_l09Lean_v p hp, impl_Pattern_lean_v p hp, spec_l09Lean_v q hq, impl_Pattern_lean_v q hq, Option.bind_some, spec_l04Mats_v hf, impl_pointMats_v hf, spec_l03Cells_v _ (isPat_iff.1 hb).2.1, Bool.and_self, if_true]
      have hpa : (onLat p (fullOf p)).1 = p.1 := rfl
      unfold btw
      rw [← hpa]
      generalize onLat p (fullOf p) = a at *
      generalize onLat q (fullOf q) = b at *
      rw [spec_between a b ha hb, impl_between a b ha hb]
      by_cases hfr : a.1 = b.1
      · rw [decide_eq_true hfr]
        simp only [Bool.not_true, cond_false, Option.bind_some]
        cases (pmats a.1).findSome? (hitM a b) with
        | none => exact ⟨rfl, rfl⟩
        | some r => exact ⟨rfl, rfl⟩
      · rw [decide_eq_false hfr]
        have : (pmats a.1).findSome? (hitM a b) = none := by
          rw [List.findSome?_eq_none_iff]
          exact fun m _ => hit_frame hfr
        rw [this]
        exact ⟨rfl, rfl⟩

theorem equiv_v (p q : Pat) (h : p.2.2.length ≤ 1048576) (h2 : q.2.2.length ≤ 1048576) (hp : isPat p = true) (hq : isPat q = true) : impl_AreEquivalent p q = some (decide (canonOf p = canonOf q), 0) := by
  obtain ⟨_, c1, c2, _⟩ := canon_both p hp
  obtain ⟨_, d1, d2, _⟩ := canon_both q hq
  have hl := pat_len c2
  rw [impl_AreEquivalent_eq, impl_IsPattern_v p (leM h), impl_IsPattern_v q (leM h2), hp, hq]
  simp only [Option.bind_some, cond_true, c1, d1, impl_samePattern_p _ _ (leM (show (canonOf p).2.2.length ≤ 1048576 by omega))]
  have e : decide (canonOf p = canonOf q) = sameP (canonOf p) (canonOf q) := by
    rw [Bool.eq_iff_iff, decide_eq_true_iff, sameP_iff]
  rw [e]
  cases sameP (canonOf p) (canonOf q) <;> rfl

theorem drawBetween_d {x : List Int} (hb : ∀ c ∈ x, 0 ≤ c ∧ c ≤ 255) (hn : x.length ≤ 4096) : Ok1 (spec_DrawMotionBetween x) fun y => y.1.2.2.length ≤ 65 ∧ y.2.2.2.length ≤ 65 := by
  rw [spec_DrawMotionBetween_eq]
  exact (from_d hb hn).bind fun s hs => (pair_d hs).bind fun y ⟨h1, h2, _⟩ => Ok1.some ⟨h1, h2⟩

theorem mot_self (m : Mot) : (decide (m.1.1 = m.1.1) && (decide (m.1.2.1 = m.1.2.1) && (decide (m.1.2.2.1 = m.1.2.2.1) && (decide (m.1.2.2.2 = m.1.2.2.2) && (decide (m.2.1 = m.2.1) && (decide (m.2.2 = m.2.2) && true)))))) = true := by
  simp

theorem FnBetween_true (x : List Int) (h : wfE (.list (.i .u8)) x) : laws_FnBetween x = some true := by
  rw [laws_FnBetween_eq, laws_big_eq]
  by_cases hb : 4096 < (x.length : Int)
  · rw [decide_eq_true hb]; rfl
  · rw [decide_eq_false hb]
    obtain ⟨y, e1, hy1, hy2⟩ := drawBetween_d (code_bytes h) (by omega)
    obtain ⟨p, q⟩ := y
    simp only at hy1 hy2
    obtain ⟨a1, a2⟩ := between_v p q (by omega) (by omega)
    simp only [cond_false, Option.bind_some, cond_true, e1, a1, a2, mot_self, decide_true, Bool.not_true]
    cases hpq : (isPat p && isPat q) with
    | false => rfl
    | true =>
      rw [Bool.and_eq_true] at hpq
      obtain ⟨hp, hq⟩ := hpq
      have hf := isFrame_iff.1 (isPat_iff.1 hp).1
      have ha := isPat_lean hp
      simp only [if_true, equiv_v p q (by omega) (by omega) hp hq, Option.bind_some]
      have hci := canon_iff hp hq
      have hhit := hit_iff (b := onLat q (fullOf q)) ha hf
      unfold btw
      cases hfs : (pmats p.1).findSome? (hitM (onLat p (fullOf p)) (onLat q (fullOf q))) with
      | none =>
        have : canonOf p ≠ canonOf q := fun e => by
          have := hhit.2 (hci.1 e).2
          rw [hfs] at this; cases this
        rw [decide_eq_false this]
        rfl
      | some r =>
        obtain ⟨r1, r2, r3⟩ := hit_some hfs
        have h1 : p.1 = q.1 := by have := congrArg (fun z : Pat => z.1) r3; exact this
        have hpm := pmats_pm hf r1
        rw [decide_eq_true (hci.2 ⟨h1, r.1, r1, r.2, r3⟩)]
        have hv := (cells_sm (isLat_fullOf hq) r2).2
        have hmv := isPat_moved hp hpm r.2
        have em : impl_MovePattern p r = some (moved p r.1 r.2, 0) := by
          rw [(move_v p r (by omega)).1, if_pos hp, if_pos (by rw [(isPm_iff hf).2 r1, hv]; rfl)]
        have es : impl_ArePatternsSame (moved p r.1 r.2) q = some (true, 0) := by
          have hml := pat_len hmv
          rw [(same_v _ q (by omega) (by omega)).1, hmv, hq, Bool.and_self, if_pos rfl]
          rw [decide_eq_true (lean_same hmv hq h1 fun v => ?_)]
          rw [← patAt_moved_lean hp hpm, r3, patAt_lean hq]
        simp only [cond_true, cond_false, decide_true, Bool.not_true, Option.bind_some, em, es]
        simp

end Go.Proofs.YtahlhacmikdimaaGreat
