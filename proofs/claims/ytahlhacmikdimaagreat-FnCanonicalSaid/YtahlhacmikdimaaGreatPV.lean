/-
  The words of the laws over drawn inputs: dice, likeness, patterns.
-/
import Derived.Test.YtahlhacmikdimaaGreatPE
namespace Go.Proofs.YtahlhacmikdimaaGreat
open Ai
set_option linter.unusedSimpArgs false
set_option linter.unusedVariables false
theorem code_bytes {x : List Int} (h : wfE (.list (.i .u8)) x) : ∀ c ∈ x, 0 ≤ c ∧ c ≤ 255 := fun c hc => by
  have h1 : (decide (IntKind.u8.min ≤ c) && decide (c ≤ IntKind.u8.max)) = true := h.2 c hc
  rw [Bool.and_eq_true, decide_eq_true_iff, decide_eq_true_iff, show IntKind.u8.min = 0 from rfl, show IntKind.u8.max = 255 from rfl] at h1
  exact h1
theorem laws_likeInts_v (xs ys : List Int) (h : xs.length ≤ MAXN) : laws_likeInts xs ys = some (decide (xs = ys)) := by
  rw [laws_likeInts_eq]; exact eq_all fun hl => eq_loop_int laws_likeInts_l0_eq xs ys h hl
theorem laws_likePatterns9_v (p q : Pat) (h : p.2.2.length ≤ MAXN) : laws_likePatterns9 p q = some (decide (p = q)) := by
  rw [laws_likePatterns9_eq, laws_likeInts_v _ _ h]
  obtain ⟨f, ⟨a, b, c⟩, xs⟩ := p
  obtain ⟨f', ⟨a', b', c'⟩, ys⟩ := q
  simp only [Option.bind_some, Prod.mk.injEq]
  by_cases h1 : f = f' <;> by_cases h2 : a = a' <;> by_cases h3 : b = b' <;> by_cases h4 : c = c' <;> by_cases h5 : xs = ys <;> simp [h1, h2, h3, h4, h5]
theorem likeP_self {p : Pat} (h : p.2.2.length ≤ 1048576) : laws_likePatterns9 p p = some true := by
  rw [laws_likePatterns9_v p p (leM h), decide_eq_true rfl]
structure DiceOk (d : Src) : Prop where
  b : ∀ c ∈ d.1, 0 ≤ c ∧ c ≤ 255
  n : d.1.length ≤ 4096
  p : 0 ≤ d.2.1 ∧ d.2.1 ≤ (d.1.length : Int)
theorem u64_small {z : Int} (h0 : 0 ≤ z) (h1 : z ≤ 16777215) : IntKind.u64.wrap z = z := by
  simp only [IntKind.wrap, IntKind.signed, IntKind.bits]
  simp
  omega
/-! ### Two drawn patterns -/
theorem mat_d {s : Src} (h : SrcOk s) (f : Int) : Ok1 (spec_l04DrawMat s f) fun y => Sk s y.2 ∧ (isFrame f = true → y.1 ∈ pmats f) := by
  rw [spec_l04DrawMat_eq, spec_IsFrame_v]
  simp only [Option.bind_some]
  cases hf : isFrame f with
  | false =>
    rw [cond_false, spec_l02Unit_eq]
    exact Ok1.some ⟨Sk.refl h, fun e => by cases e⟩
  | true =>
    have hf' := isFrame_iff.1 hf
    have hn := pmats_len f
    have hp : 1 ≤ (pmats f).length := List.length_pos_of_mem (unit_mem hf')
    rw [cond_true, spec_l04Mats_v hf']
    simp only [Option.bind_some]
    refine (next_d h ((pmats f).length : Int) (by omega)).bind fun a ⟨ha, a1, a2⟩ => Ok1.chk ?_ (Ok1.some ⟨ha, fun _ => ?_⟩)
    · rw [decide_eq_true a1, decide_eq_true (a2 (by omega))]; rfl
    · have := a2 (by omega)
      have hlt : a.1.toNat < (pmats f).length := by omega
      show (pmats f).getD a.1.toNat _ ∈ pmats f
      rw [List.getD_eq_getElem?_getD, List.getElem?_eq_getElem hlt]
      exact List.getElem_mem hlt
theorem pair_d {s : Src} (h : SrcOk s) : Ok1 (spec_l18DrawPair s) fun y => y.1.2.2.length ≤ 65 ∧ y.2.1.2.2.length ≤ 65 ∧ Sk s y.2.2 := by
  rw [spec_l18DrawPair_eq]
  refine (pattern_d h).bind fun a ⟨ha, a1⟩ => ?_
  rw [spec_IsPattern_v a.1 (leM (by omega))]
  simp only [Option.bind_some]
  refine Ok1.cond (fun hp => ?_) fun _ => (pattern_d ha.1).bind fun b ⟨hb, b1⟩ => Ok1.some ⟨a1, b1, ha.trans hb⟩
  have hf := (isPat_iff.1 hp).1
  have hf' := isFrame_iff.1 hf
  refine (next_d ha.1 4 (by omega)).bind fun b ⟨hb, _⟩ => Ok1.cond (fun _ => (pattern_d hb.1).bind fun c ⟨hc, c1⟩ => Ok1.some ⟨a1, c1, ha.trans (hb.trans hc)⟩) fun _ => ?_
  refine (mat_d hb.1 a.1.1).bind fun c ⟨hc, c1⟩ => (next_d hc.1 9 (by omega)).bind fun d ⟨hd, d1, d2⟩ => (next_d hd.1 9 (by omega)).bind fun e ⟨he, e1, e2⟩ => ?_
  have := d2 (by omega)
  have := e2 (by omega)
  have hv : Ss (IntKind.i64.wrap (d.1 - 4), IntKind.i64.wrap (e.1 - 4)) := by
    unfold Ss
    rw [w64 (by omega) (by omega), w64 (by omega) (by omega)]
    simp only
    omega
  have hpm := pmats_pm hf' (c1 hf)
  rw [spec_l09Move_v a.1 _ hp hpm hv]
  simp only [Option.bind_some]
  have hml := moved_len a.1 (IntKind.i64.wrap (d.1 - 4), IntKind.i64.wrap (e.1 - 4)) hp hpm
  have hmp := isPat_moved hp hpm (IntKind.i64.wrap (d.1 - 4), IntKind.i64.wrap (e.1 - 4))
  generalize moved a.1 c.1 (IntKind.i64.wrap (d.1 - 4), IntKind.i64.wrap (e.1 - 4)) = q at hml hmp
  obtain ⟨w, m1, m2⟩ := mul64 (isPat_iff.1 hmp).2.1
  have hq := (isPat_iff.1 hmp).2.2.1
  refine (next_d he.1 3 (by omega)).bind fun g ⟨hg, _⟩ => Ok1.cond (fun _ => ?_) fun _ => Ok1.some ⟨a1, by show q.2.2.length ≤ 65; omega, ha.trans (hb.trans (hc.trans (hd.trans (he.trans hg))))⟩
  refine (next_d hg.1 _ (by omega)).bind fun i ⟨hi, i1, i2⟩ => (next_d hi.1 3 (by omega)).bind fun j ⟨hj, _⟩ => Ok1.chk ?_ (Ok1.some ⟨a1, by simp only [List.length_set]; omega, ha.trans (hb.trans (hc.trans (hd.trans (he.trans (hg.trans (hi.trans hj))))))⟩)
  rw [decide_eq_true i1, decide_eq_true (i2 (by omega))]; rfl
end Go.Proofs.YtahlhacmikdimaaGreat
