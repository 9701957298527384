/-
  Plain meanings: the matrices of a frame and of a lattice, by both.
-/
import Derived.Test.YtpboclokodgnlaaGreatP17
import Derived.Test.YtpboclokodgnlaaGreatPL
namespace Go.Proofs.YtpboclokodgnlaaGreat
open Pre Ai
set_option linter.unusedSimpArgs false
set_option linter.unusedVariables false
set_option linter.unnecessarySimpa false
def Sn (v : V) : Prop := v.1.natAbs ≤ 4000 ∧ v.2.natAbs ≤ 4000
theorem mul_sn {x y : Int} (hx : x.natAbs ≤ 4000) (hy : y.natAbs ≤ 4000) : (x * y).natAbs ≤ 16000000 := by
  rw [Int.natAbs_mul]
  exact Nat.mul_le_mul hx hy
theorem impl_norm_v {f : Int} (hf : f = 0 ∨ f = 1) {v : V} (hv : Sn v) : impl_norm f v = some (normV f v) := by
  rw [impl_norm_eq]
  have h1 := mul_sn hv.1 hv.1
  have h2 := mul_sn hv.1 hv.2
  have h3 := mul_sn hv.2 hv.2
  have h4 := hv.1
  unfold normV
  rcases hf with h | h <;> subst h <;> simp only [Int.zero_mul, Int.one_mul]
  · rw [w64 (x := v.1 * v.1) (by omega) (by omega), w64 (x := 0) (by omega) (by omega), Int.zero_mul, w64 (x := 0) (by omega) (by omega), w64 (x := v.2 * v.2) (by omega) (by omega), w64 (x := v.1 * v.1 + 0) (by omega) (by omega), w64 (by omega) (by omega)]
  · rw [w64 (x := v.1 * v.1) (by omega) (by omega), w64 (x := v.1) (by omega) (by omega), w64 (x := v.1 * v.2) (by omega) (by omega), w64 (x := v.2 * v.2) (by omega) (by omega), w64 (x := v.1 * v.1 + v.1 * v.2) (by omega) (by omega), w64 (by omega) (by omega)]
theorem spec_l04Norm_v {f : Int} (hf : f = 0 ∨ f = 1) {v : V} (hv : Sn v) : spec_l04Norm f v = some (normV f v) := by
  rw [spec_l04Norm_eq]
  have h1 := mul_sn hv.1 hv.1
  have h2 := mul_sn hv.1 hv.2
  have h3 := mul_sn hv.2 hv.2
  unfold normV
  rw [w64 (x := v.1 * v.1) (by omega) (by omega), w64 (x := v.1 * v.2) (by omega) (by omega), w64 (x := v.2 * v.2) (by omega) (by omega), w64 (x := v.1 * v.1 + v.2 * v.2) (by omega) (by omega)]
  rcases hf with h | h <;> subst h <;> simp only [Int.zero_mul, Int.one_mul]
  · show some (v.1 * v.1 + v.2 * v.2) = _
    rw [Int.add_zero]
  · show some (IntKind.i64.wrap (v.1 * v.1 + v.2 * v.2 + v.1 * v.2)) = _
    rw [w64 (by omega) (by omega)]
    congr 1
    omega
def Me (m : Mat4) : Prop := (m.1.natAbs ≤ 1000 ∧ m.2.1.natAbs ≤ 1000) ∧ m.2.2.1.natAbs ≤ 1000 ∧ m.2.2.2.natAbs ≤ 1000
theorem spec_l04Keeps_v {f : Int} (hf : f = 0 ∨ f = 1) {m : Mat4} (hm : Me m) : spec_l04Keeps f m = some (pmB f m) := by
  obtain ⟨⟨a, b⟩, c, d⟩ := hm
  rw [spec_l04Keeps_eq, spec_l04Norm_v hf (by unfold Sn; dsimp only; omega), spec_l04Norm_v hf (by unfold Sn; dsimp only; omega), spec_l01Add_v]
  simp only [Option.bind_some]
  have hw : wadd (m.1, m.2.2.1) (m.2.1, m.2.2.2) = (m.1 + m.2.1, m.2.2.1 + m.2.2.2) := by
    unfold wadd
    rw [w64 (by dsimp only; omega) (by dsimp only; omega), w64 (by dsimp only; omega) (by dsimp only; omega)]
  rw [hw, spec_l04Norm_v hf (by unfold Sn; dsimp only; omega), w64 (by omega) (by omega)]
  simp only [Option.bind_some]
  unfold pmB
  cases decide (normV f (m.1, m.2.2.1) = 1) <;> cases decide (normV f (m.2.1, m.2.2.2) = 1) <;> cases decide (normV f (m.1 + m.2.1, m.2.2.1 + m.2.2.2) = 2 + f) <;> rfl
theorem dec_eq : ∀ k : Fin 81, ((IntKind.i64.wrap (IntKind.i64.wrap (Int.tdiv (k.val : Int) 27) - 1), IntKind.i64.wrap (Int.tmod (IntKind.i64.wrap (Int.tdiv (k.val : Int) 9)) 3 - 1), IntKind.i64.wrap (Int.tmod (IntKind.i64.wrap (Int.tdiv (k.val : Int) 3)) 3 - 1), IntKind.i64.wrap (Int.tmod (k.val : Int) 3 - 1)) : Mat4) = dec81 k.val := by decide +kernel
theorem dec_unit (k : Nat) (hk : k < 81) : Unit1 (dec81 k).1 ∧ Unit1 (dec81 k).2.1 ∧ Unit1 (dec81 k).2.2.1 ∧ Unit1 (dec81 k).2.2.2 := by
  unfold dec81 Unit1
  dsimp only
  omega
theorem unit_me {m : Mat4} (h : Unit1 m.1 ∧ Unit1 m.2.1 ∧ Unit1 m.2.2.1 ∧ Unit1 m.2.2.2) : Me m := by
  unfold Unit1 at h
  unfold Me
  omega
theorem app_small {m : Mat4} (h : Unit1 m.1 ∧ Unit1 m.2.1 ∧ Unit1 m.2.2.1 ∧ Unit1 m.2.2.2) : impl_Mat_apply m (1, 0) = some (m.1, m.2.2.1) ∧ impl_Mat_apply m (0, 1) = some (m.2.1, m.2.2.2) ∧ impl_Mat_apply m (1, 1) = some (m.1 + m.2.1, m.2.2.1 + m.2.2.2) := by
  unfold Unit1 at h
  simp only [impl_Mat_apply_eq, Int.mul_one, Int.mul_zero]
  rw [w64 (x := m.1) (by omega) (by omega), w64 (x := m.2.1) (by omega) (by omega), w64 (x := m.2.2.1) (by omega) (by omega), w64 (x := m.2.2.2) (by omega) (by omega), w64 (x := 0) (by omega) (by omega),
    w64 (x := m.1 + 0) (by omega) (by omega), w64 (x := m.2.2.1 + 0) (by omega) (by omega), w64 (x := 0 + m.2.1) (by omega) (by omega), w64 (x := 0 + m.2.2.2) (by omega) (by omega), w64 (x := m.1 + m.2.1) (by omega) (by omega), w64 (x := m.2.2.1 + m.2.2.2) (by omega) (by omega), Int.add_zero, Int.add_zero, Int.zero_add, Int.zero_add]
  exact ⟨rfl, rfl, rfl⟩
theorem len81 : ((List.range 81).map dec81).length = 81 := by simp
theorem get81 {k : Nat} (hk : k < ((List.range 81).map dec81).length) : ((List.range 81).map dec81)[k] = dec81 k := by simp
theorem impl_pointMats_v {f : Int} (hf : f = 0 ∨ f = 1) : impl_pointMats f = some (pmats f) := by
  rw [impl_pointMats_eq]
  have key := loop_filter (L := fun s k => impl_pointMats_l0 f s k) ((List.range 81).map dec81) (pmB f) [] (fun k hk s hs => by
    have hk' : k < 81 := by rw [len81] at hk; exact hk
    have e := dec_eq ⟨k, hk'⟩
    simp only [Prod.mk.injEq] at e
    have hu := dec_unit k hk'
    have hme := unit_me hu
    obtain ⟨⟨m1', m2'⟩, m3', m4'⟩ := hme
    obtain ⟨a1, a2, a3⟩ := app_small hu
    rw [get81]
    show impl_pointMats_l0 f s (k : Int) = _
    rw [impl_pointMats_l0_eq, decide_eq_true (by omega)]
    have e' : ((IntKind.i64.wrap (IntKind.i64.wrap (Int.tdiv (k : Int) 27) - 1), IntKind.i64.wrap (Int.tmod (IntKind.i64.wrap (Int.tdiv (k : Int) 9)) 3 - 1), IntKind.i64.wrap (Int.tmod (IntKind.i64.wrap (Int.tdiv (k : Int) 3)) 3 - 1), IntKind.i64.wrap (Int.tmod (k : Int) 3 - 1)) : Mat4) = dec81 k := dec_eq ⟨k, hk'⟩
    rw [e', wnext hk' (by omega)]
    simp only [cond_true, cond_false, Option.bind_some, Option.bind_fun_some, a1, a2, a3, show decide ((27 : Int) = 0) = false from rfl, show decide ((9 : Int) = 0) = false from rfl, show decide ((3 : Int) = 0) = false from rfl]
    rw [impl_norm_v hf (v := ((dec81 k).1, (dec81 k).2.2.1)) (by unfold Sn; dsimp only; omega), impl_norm_v hf (v := ((dec81 k).2.1, (dec81 k).2.2.2)) (by unfold Sn; dsimp only; omega), impl_norm_v hf (v := ((dec81 k).1 + (dec81 k).2.1, (dec81 k).2.2.1 + (dec81 k).2.2.2)) (by unfold Sn; dsimp only; omega), w64 (x := 2 + f) (by omega) (by omega), decide_eq_true (p := s.length + [dec81 k].length ≤ LIM) (by unfold LIM; simp only [List.length_nil, List.length_singleton] at hs ⊢; omega)]
    simp only [Option.bind_some]
    unfold pmB
    cases decide (normV f ((dec81 k).1, (dec81 k).2.2.1) = 1) <;> cases decide (normV f ((dec81 k).2.1, (dec81 k).2.2.2) = 1) <;> cases decide (normV f ((dec81 k).1 + (dec81 k).2.1, (dec81 k).2.2.1 + (dec81 k).2.2.2) = 2 + f) <;> rfl)
  rw [key, len81]
  show Option.bind (impl_pointMats_l0 f _ _) _ = _
  rw [impl_pointMats_l0_eq, decide_eq_false (by omega)]
  rfl
theorem pmats_len (f : Int) : (pmats f).length ≤ 81 := by
  have := List.length_filter_le (pmB f) ((List.range 81).map dec81)
  rw [len81] at this
  exact this
theorem mat_beq (c x : Mat4) : (decide (c.1 = x.1) && (decide (c.2.1 = x.2.1) && (decide (c.2.2.1 = x.2.2.1) && (decide (c.2.2.2 = x.2.2.2) && true)))) = decide (x = c) := by
  obtain ⟨a, b, d, e⟩ := c
  obtain ⟨a', b', d', e'⟩ := x
  simp only [Prod.mk.injEq, Bool.and_true, ← Bool.decide_and, decide_eq_decide]
  constructor
  · rintro ⟨h1, h2, h3, h4⟩; exact ⟨h1.symm, h2.symm, h3.symm, h4.symm⟩
  · rintro ⟨h1, h2, h3, h4⟩; exact ⟨h1.symm, h2.symm, h3.symm, h4.symm⟩
theorem slices_Contains_SMat_v (xs : List Mat4) (c : Mat4) (h : xs.length ≤ 1048576) : slices_Contains_SMat_Mat xs c = some (decide (c ∈ xs)) := by
  rw [slices_Contains_SMat_Mat_eq, slices_Index_SMat_Mat_eq]
  have hm : (xs.all fun x => !decide (x = c)) = !decide (c ∈ xs) := by
    rw [Bool.eq_iff_iff]
    simp only [List.all_eq_true, Bool.not_eq_true', decide_eq_false_iff_not]
    exact ⟨fun h hc => h c hc rfl, fun h x hx he => h (he ▸ hx)⟩
  rcases loop_idx (L := fun k => slices_Index_SMat_Mat_l0 xs (xs.length : Int) k c.1 c.2.1 c.2.2.1 c.2.2.2) xs (fun x => !decide (x = c)) (.inl ()) (fun k => .inr (k : Int)) (fun k hk => by
    rw [slices_Index_SMat_Mat_l0_eq, decide_eq_true (by omega), rd_lt hk, wnext hk (by omega)]
    simp only [cond_true, Option.bind_some, Option.bind_fun_some]
    rw [mat_beq]
    cases decide (xs[k] = c) <;> rfl) (by
    rw [slices_Index_SMat_Mat_l0_eq, decide_eq_false (by omega)]; rfl) with ⟨h1, h2⟩ | ⟨h1, k, hk, h2⟩
  · rw [hm] at h1
    rw [h2]
    have : decide (c ∈ xs) = false := by simpa using h1
    rw [this]; rfl
  · rw [hm] at h1
    rw [h2]
    have : decide (c ∈ xs) = true := by simpa using h1
    rw [this]
    simp only [Option.bind_some]
    rw [decide_eq_true (by omega)]; rfl
def isPm (f : Int) (m : Mat4) : Bool := isFrame f && pmB f m
def isMatB (m : Mat4) : Bool := isVec (m.1, m.2.1) && isVec m.2.2 && (decide (mdet m = 1) || decide (mdet m = -1))
theorem spec_IsMat_v (m : Mat4) : spec_IsMat m = some (isMatB m) := by
  rw [spec_IsMat_eq, spec_l02Small_eq, spec_IsVec_v, spec_IsVec_v]
  unfold isMatB
  simp only [Option.bind_some]
  cases h1 : isVec (m.1, m.2.1)
  · rfl
  · cases h2 : isVec m.2.2
    · rfl
    · simp only [isVec, Bool.and_eq_true, within_iff] at h1 h2
      have q1 := mul_sn (x := m.1) (y := m.2.2.2) (by omega) (by omega)
      have q2 := mul_sn (x := m.2.1) (y := m.2.2.1) (by omega) (by omega)
      simp only [cond_true, Option.bind_some, spec_l02Det_eq]
      rw [w64 (x := m.1 * m.2.2.2) (by omega) (by omega), w64 (x := m.2.1 * m.2.2.1) (by omega) (by omega), w64 (by omega) (by omega)]
      show (cond (decide (mdet m = 1)) _ (cond (decide (mdet m = -1)) _ _)) = _
      cases decide (mdet m = 1) <;> cases decide (mdet m = -1) <;> rfl
theorem spec_IsPointMat_v (f : Int) (m : Mat4) : spec_IsPointMat f m = some (isPm f m) := by
  rw [spec_IsPointMat_eq, spec_IsFrame_v, spec_IsMat_v]
  unfold isPm
  simp only [Option.bind_some]
  cases hf : isFrame f
  · rfl
  · have hf' := isFrame_iff.1 hf
    cases hm : isMatB m
    · cases hp : pmB f m
      · rfl
      · exfalso
        have hpm := pmB_pm hf' hp
        have : isMatB m = true := by
          have ha := hpm.a
          have hb := hpm.b
          have hc := hpm.c
          have hd := hpm.d
          unfold Unit1 at ha hb hc hd
          unfold isMatB
          simp only [isVec, Bool.and_eq_true, Bool.or_eq_true, within_iff, decide_eq_true_iff]
          exact ⟨⟨by omega, by omega⟩, hpm.det⟩
        rw [hm] at this; cases this
    · have hme : Me m := by
        unfold isMatB at hm
        simp only [isVec, Bool.and_eq_true, within_iff] at hm
        unfold Me
        omega
      simp only [cond_true, Option.bind_some, spec_l04Keeps_v hf' hme]
      cases pmB f m <;> rfl
end Go.Proofs.YtpboclokodgnlaaGreat
