/-
  Motions one after the other; canonical forms of two patterns are equal exactly if a motion takes one to the other.
-/
import Derived.Test.YtahlhacmikdimaaGreatDoorPF
import Derived.Test.YtahlhacmikdimaaGreatDoorP27
namespace Go.Proofs.YtahlhacmikdimaaGreatDoor
open Ai
set_option linter.unusedSimpArgs false
set_option linter.unusedVariables false
def mmul (m n : Mat4) : Mat4 := (m.1 * n.1 + m.2.1 * n.2.2.1, m.1 * n.2.1 + m.2.1 * n.2.2.2, m.2.2.1 * n.1 + m.2.2.2 * n.2.2.1, m.2.2.1 * n.2.1 + m.2.2.2 * n.2.2.2)
theorem mapp_mmul (m n : Mat4) (v : V) : mapp (mmul m n) v = mapp m (mapp n v) := by
  unfold mapp mmul; ext <;> simp only <;> grind
theorem mapp_add (m : Mat4) (u v : V) : mapp m (vadd u v) = vadd (mapp m u) (mapp m v) := by
  unfold mapp vadd; ext <;> simp only <;> grind
theorem mmul_closed {f : Int} (hf : f = 0 ∨ f = 1) {m n : Mat4} (hm : m ∈ pmats f) (hn : n ∈ pmats f) : mmul m n ∈ pmats f := by
  have key : ∀ f : Int, (f = 0 ∨ f = 1) → (pmats f).all (fun m => (pmats f).all fun n => decide (mmul m n ∈ pmats f)) = true := by
    rintro f (rfl | rfl) <;> decide +kernel
  exact of_decide_eq_true (List.all_eq_true.1 (List.all_eq_true.1 (key f hf) m hm) n hn)
theorem minv_closed {f : Int} (hf : f = 0 ∨ f = 1) {m : Mat4} (hm : m ∈ pmats f) : minv m ∈ pmats f := by
  have key : ∀ f : Int, (f = 0 ∨ f = 1) → (pmats f).all (fun m => decide (minv m ∈ pmats f)) = true := by
    rintro f (rfl | rfl) <;> decide +kernel
  exact of_decide_eq_true (List.all_eq_true.1 (key f hf) m hm)
theorem minv_mmul {m n : Mat4} (hm : Pm m) (hn : Pm n) (hk : Pm (mmul n m)) (w : V) : mapp (minv (mmul n m)) w = mapp (minv m) (mapp (minv n) w) := by
  have e : w = mapp (mmul n m) (mapp (minv m) (mapp (minv n) w)) := by
    rw [mapp_mmul, minv_right hm.det, minv_right hn.det]
  conv => lhs; rw [e]
  rw [minv_left hk.det]
theorem moved_moved {p : Pat} (hp : isPat p = true) {m n : Mat4} (hm : Pm m) (hn : Pm n) (hk : Pm (mmul n m)) (t u : V) : moved (moved p m t) n u = moved p (mmul n m) (vadd (mapp n t) u) := by
  have hl := (isPat_iff.1 hp).2.1
  have hq := isPat_moved hp hm t
  have hlm := (isLat_imgL hl hm).1
  refine pat_ext (isPat_moved hq hn u) (isPat_moved hp hk _) rfl ?_ fun v => ?_
  · show imgL n (imgL m p.2.1) = imgL (mmul n m) p.2.1
    refine lat_ext (isLat_imgL hlm hn).1 (isLat_imgL hl hk).1 fun w => ?_
    refine (inL_minv hlm hn w).trans ((inL_minv hl hm _).trans ?_)
    rw [← minv_mmul hm hn hk]
    exact (inL_minv hl hk w).symm
  · rw [patAt_moved hq hn, patAt_moved hp hm, patAt_moved hp hk, minv_mmul hm hn hk]
    have e : vsub v (vadd (mapp n t) u) = vsub (vsub v u) (mapp n t) := by unfold vsub vadd; ext <;> simp only <;> omega
    have e2 : mapp (minv n) (vsub (vsub v u) (mapp n t)) = vsub (mapp (minv n) (vsub v u)) t := by rw [mapp_sub (minv n) (vsub v u), minv_left hn.det]
    rw [e, e2]
theorem moved_unit {p : Pat} (hp : isPat p = true) : moved p m1 (0, 0) = p := by
  refine pat_ext (isPat_moved hp pm_unit _) hp rfl (imgL_unit (isPat_iff.1 hp).2.1) fun v => ?_
  rw [patAt_moved hp pm_unit, minv_unit, mapp_unit]
  congr 1
  unfold vsub; ext <;> simp
theorem mem_imgs2 {a : Pat} (ha : isPat a = true) {f : Int} (hf : f = 0 ∨ f = 1) (x : Pat) : x ∈ imgs2 a (pmats f) ↔ ∃ m ∈ pmats f, ∃ t, moved a m t = x := by
  unfold imgs2
  constructor
  · intro h
    obtain ⟨m, hm, h⟩ := List.mem_flatMap.1 h
    obtain ⟨t, _, h⟩ := List.mem_map.1 h
    exact ⟨m, hm, t, h⟩
  · rintro ⟨m, hm, t, rfl⟩
    have hpm := pmats_pm hf hm
    have hl := (isLat_imgL (isPat_iff.1 ha).2.1 hpm).1
    refine List.mem_flatMap.2 ⟨m, hm, List.mem_map.2 ⟨red (imgL m a.2.1) t, red_mem hl t, ?_⟩⟩
    refine moved_congr ha hpm ?_
    have := red_in hl t
    obtain ⟨i, j, h1, h2⟩ := this
    refine ⟨-i, -j, ?_, ?_⟩ <;> simp only [vsub] at h1 h2 ⊢ <;> grind
theorem imgs2_moved {a : Pat} (ha : isPat a = true) {f : Int} (hf : f = 0 ∨ f = 1) {m : Mat4} (hm : m ∈ pmats f) (t : V) (x : Pat) : x ∈ imgs2 (moved a m t) (pmats f) ↔ x ∈ imgs2 a (pmats f) := by
  have hpm := pmats_pm hf hm
  have hb := isPat_moved ha hpm t
  rw [mem_imgs2 hb hf, mem_imgs2 ha hf]
  constructor
  · rintro ⟨n, hn, u, rfl⟩
    have hk := mmul_closed hf hn hm
    exact ⟨_, hk, _, (moved_moved ha hpm (pmats_pm hf hn) (pmats_pm hf hk) t u).symm⟩
  · rintro ⟨n, hn, u, rfl⟩
    have hi := minv_closed hf hm
    have hk := mmul_closed hf hn hi
    have e := moved_moved hb (pmats_pm hf hi) (pmats_pm hf hn) (pmats_pm hf hk) (vneg (mapp (minv m) t)) u
    rw [moved_back ha hpm t] at e
    exact ⟨_, hk, _, e.symm⟩
theorem hit_iff {a b : Pat} (ha : isPat a = true) {f : Int} (hf : f = 0 ∨ f = 1) : ((pmats f).findSome? (hitM a b)).isSome = true ↔ ∃ m ∈ pmats f, ∃ t, moved a m t = b := by
  constructor
  · intro h
    obtain ⟨r, hr⟩ := Option.isSome_iff_exists.1 h
    obtain ⟨m, hm, h1⟩ := List.exists_of_findSome?_eq_some hr
    unfold hitM at h1
    obtain ⟨t, h2, _⟩ := Option.map_eq_some_iff.1 h1
    exact ⟨m, hm, t, sameP_iff.1 (List.find?_some (p := fun t => sameP (moved a m t) b) h2)⟩
  · rintro ⟨m, hm, t, rfl⟩
    cases h : (pmats f).findSome? (hitM a (moved a m t)) with
    | some r => rfl
    | none =>
      exfalso
      rw [List.findSome?_eq_none_iff] at h
      have h1 := h m hm
      unfold hitM at h1
      rw [Option.map_eq_none_iff, List.find?_eq_none] at h1
      have hpm := pmats_pm hf hm
      have hl := (isLat_imgL (isPat_iff.1 ha).2.1 hpm).1
      refine h1 _ (red_mem hl t) (sameP_iff.2 (moved_congr ha hpm ?_))
      obtain ⟨i, j, h1, h2⟩ := red_in hl t
      refine ⟨-i, -j, ?_, ?_⟩ <;> simp only [vsub] at h1 h2 ⊢ <;> grind
theorem hit_some {a b : Pat} {f : Int} {r : Mot} (h : (pmats f).findSome? (hitM a b) = some r) : r.1 ∈ pmats f ∧ r.2 ∈ cells b.2.1 ∧ moved a r.1 r.2 = b := by
  obtain ⟨m, hm, h1⟩ := List.exists_of_findSome?_eq_some h
  unfold hitM at h1
  obtain ⟨t, h2, h3⟩ := Option.map_eq_some_iff.1 h1
  subst h3
  exact ⟨hm, List.mem_of_find?_eq_some h2, sameP_iff.1 (List.find?_some (p := fun t => sameP (moved a m t) b) h2)⟩
theorem patAt_moved_lean {p : Pat} (hp : isPat p = true) {m : Mat4} (hm : Pm m) (t v : V) : patAt (moved (onLat p (fullOf p)) m t) v = patAt (moved p m t) v := by
  rw [patAt_moved (isPat_lean hp) hm, patAt_moved hp hm, patAt_lean hp]
end Go.Proofs.YtahlhacmikdimaaGreatDoor
