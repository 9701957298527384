/-
  IsKept: program and reference agree.
-/
import Derived.Test.YtahkbhmhaddbpaaGreatP35
import Derived.Test.YtahkbhmhaddbpaaGreatW
namespace Go.Proofs.YtahkbhmhaddbpaaGreat
open Ai
set_option linter.unusedSimpArgs false
set_option linter.unusedVariables false

def keptAll (p : Pat) (xs : List Mot) : Bool := xs.all (keepsB p)

theorem kept_sm {p : Pat} (hp : isPat p = true) {xs : List Mot} (hg : isGroupB p.1 p.2.1 xs = true) : ∀ m ∈ xs, ∀ v ∈ cells p.2.1, Sm (wap m v) := fun m hm => by
  unfold isGroupB at hg
  rw [Bool.and_eq_true] at hg
  exact allM_suit (isFrame_iff.1 (isPat_iff.1 hp).1) (isPat_iff.1 hp).2.1 ((goodL_inc hg.1).1 m hm)

theorem spec_l13Kept_v {p : Pat} (hp : isPat p = true) {xs : List Mot} (hn : xs.length ≤ 1048576) (hg : isGroupB p.1 p.2.1 xs = true) : spec_l13Kept p xs = some (keptAll p xs) := by
  have hs := kept_sm hp hg
  rw [spec_l13Kept_eq]
  have key := loop_all (L := fun k => spec_l13Kept_l0 xs k p.1 p.2.1.1 p.2.1.2.1 p.2.1.2.2 p.2.2) xs (keepsB p) (.inl ()) (.inr false) (fun k hk => by
    have e1 : spec_l09Keeps (p.1, (p.2.1.1, p.2.1.2.1, p.2.1.2.2), p.2.2) xs[k] = some (keepsB p xs[k]) := spec_l09Keeps_v p _ hp (hs _ (List.getElem_mem hk))
    rw [spec_l13Kept_l0_eq, decide_eq_true (by omega), rd_lt hk]
    simp only [cond_true, Option.bind_some, e1, Option.bind_fun_some]
    rw [wnext hk (by omega)]
    cases keepsB p xs[k] <;> rfl) (by
    rw [spec_l13Kept_l0_eq, decide_eq_false (by omega)]
    rfl)
  rw [key]
  unfold keptAll
  cases xs.all (keepsB p) <;> rfl

theorem impl_isKept_v {p : Pat} (hp : isPat p = true) {xs : List Mot} (hn : xs.length ≤ 1048576) (hg : isGroupB p.1 p.2.1 xs = true) : impl_isKept p xs = some (keptAll p xs) := by
  have hs := kept_sm hp hg
  rw [impl_isKept_eq]
  have key := loop_all (L := fun k => impl_isKept_l0 xs (xs.length : Int) k p.1 p.2.1.1 p.2.1.2.1 p.2.1.2.2 p.2.2) xs (keepsB p) (.inl ()) (.inr false) (fun k hk => by
    have e1 : impl_Pattern_keeps (p.1, (p.2.1.1, p.2.1.2.1, p.2.1.2.2), p.2.2) xs[k] = some (keepsB p xs[k]) := impl_Pattern_keeps_v p _ hp (hs _ (List.getElem_mem hk))
    rw [impl_isKept_l0_eq, decide_eq_true (by omega), rd_lt hk]
    simp only [cond_true, Option.bind_some, e1, Option.bind_fun_some]
    rw [wnext hk (by omega)]
    cases keepsB p xs[k] <;> rfl) (by
    rw [impl_isKept_l0_eq, decide_eq_false (by omega)]
    rfl)
  rw [key]
  unfold keptAll
  cases xs.all (keepsB p) <;> rfl

theorem impl_groupCode_v (p : Pat) (hp : isPat p = true) (xs : List Mot) (hn : xs.length ≤ 1048576) : impl_groupCode p.1 p.2.1 [xs] = some (if isGroupB p.1 p.2.1 xs = true then 0 else 2) := by
  have hff := (isPat_iff.1 hp).1
  have hf := isFrame_iff.1 hff
  have hl := (isPat_iff.1 hp).2.1
  have h0 : impl_frameCode p.1 p.2.1 = some 0 := by rw [impl_frameCode_v, hff, hl]; rfl
  rw [impl_groupCode_eq, h0]
  have hr0 : rd [xs] 0 = some xs := rfl
  have e1 : impl_isGroup p.1 (p.2.1.1, p.2.1.2.1, p.2.1.2.2) xs = some (isGroupB p.1 p.2.1 xs) := impl_isGroup_v hf hl xs hn
  have e2 : impl_groupCode_l0 p.1 [xs] ((1 : Nat) : Int) 1 p.2.1.1 p.2.1.2.1 p.2.1.2.2 = some (.inl ()) := by
    rw [impl_groupCode_l0_eq, decide_eq_false (by omega)]
    rfl
  simp only [Option.bind_some, decide_true, Bool.not_true, cond_false]
  rw [impl_groupCode_l0_eq, decide_eq_true (by simp), hr0]
  simp only [cond_true, Option.bind_some, e1, Option.bind_fun_some]
  rw [show IntKind.i64.wrap (0 + 1) = 1 from rfl, show (([xs] : List (List Mot)).length : Int) = ((1 : Nat) : Int) from rfl, e2]
  cases isGroupB p.1 p.2.1 xs <;> rfl

theorem IsKept_agree (p : Pat) (xs : List Mot) (h : p.2.2.length ≤ 1048576) (hn : xs.length ≤ 1048576) : ∃ r : Bool × Int, spec_IsKept p xs = some r ∧ impl_IsKept p xs = some r := by
  rw [spec_IsKept_eq, impl_IsKept_eq, spec_l13Code_eq, impl_keptCode_eq, spec_IsPattern_v p (leM h), impl_IsPattern_v p (leM h)]
  simp only [Option.bind_some]
  cases hp : isPat p
  · exact ⟨_, rfl, rfl⟩
  · have hff := (isPat_iff.1 hp).1
    have hf := isFrame_iff.1 hff
    have hl := (isPat_iff.1 hp).2.1
    simp only [cond_true, spec_IsGroup_v hf hl xs hn, impl_groupCode_v p hp xs hn, Option.bind_some]
    cases hg : isGroupB p.1 p.2.1 xs with
    | false => exact ⟨_, rfl, rfl⟩
    | true =>
      simp only [cond_true, if_true, Option.bind_some, decide_true, Bool.not_true, cond_false, spec_l13Kept_v hp hn hg, impl_isKept_v hp hn hg]
      cases keptAll p xs
      · exact ⟨_, rfl, rfl⟩
      · exact ⟨_, rfl, rfl⟩

theorem FnExactIsKept_true (p : Pat) (xs : List Mot) (h : wfE (.pair (.i .i64) (.pair (.pair (.i .i64) (.pair (.i .i64) (.i .i64))) (.list (.i .i64)))) p) (hx : wfE (.list (.pair (.pair (.i .i64) (.pair (.i .i64) (.pair (.i .i64) (.i .i64)))) (.pair (.i .i64) (.i .i64)))) xs) : laws_FnExactIsKept p xs = some true := by
  rw [laws_FnExactIsKept_eq, laws_szPattern_v p _ h.2.2.1 (by omega) (by omega)]
  simp only [Option.bind_some]
  rw [szl_neg (by omega)]
  by_cases hc : (p.2.2.length : Int) ≤ 1048576
  · have hc' : p.2.2.length ≤ 1048576 := by omega
    have hz : 0 ≤ szl p.2.2.length 1048576 := by unfold szl; omega
    have hz2 := szl_lo (n := p.2.2.length) (l := 1048576) (by omega)
    simp only [decide_eq_true hc, Bool.not_true, cond_false]
    rw [laws_szMotionS_v xs _ hx.1 hz hz2]
    simp only [Option.bind_some]
    rw [szl_neg hz]
    by_cases hd : (xs.length : Int) ≤ szl p.2.2.length 1048576
    · have hd' : xs.length ≤ 1048576 := by omega
      obtain ⟨r, hs, hi⟩ := IsKept_agree p xs hc' hd'
      cases hr : r.1 <;> simp [decide_eq_true hd, laws_toPattern_v p hc', laws_toMotionS_v xs hd', hs, hi, hr, laws_eqPattern_v _ _ (leM hc'), laws_eqMotionS_v _ _ (leM hd')]
    · simp [hd]
  · simp [hc]

end Go.Proofs.YtahkbhmhaddbpaaGreat
