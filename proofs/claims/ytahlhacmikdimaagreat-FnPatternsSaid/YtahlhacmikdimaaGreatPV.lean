/-
  The words of the laws over drawn inputs: dice, likeness, patterns.
-/
import Derived.Test.YtahlhacmikdimaaGreatPE
namespace Go.Proofs.YtahlhacmikdimaaGreat
open Ai
set_option linter.unusedSimpArgs false
set_option linter.unusedVariables false

theorem code_bytes {x : List Int} (h : wfE (.list (.i .u8)) x) : ∀ c ∈ x, 0 ≤ c ∧ c ≤ 255 := fun c hc => by
  have h1 : (decide (IntKind.u8.min ≤ c) && decide (c ≤ IntKind.u8.max)) = true := h.2 c hc
  rw [Bool.and_eq_true, decide_eq_true_iff, decide_eq_true_iff, show IntKind.u8.min = 0 from rfl, show IntKind.u8.max = 255 from rfl] at h1
  exact h1

theorem laws_likeInts_v (xs ys : List Int) (h : xs.length ≤ MAXN) : laws_likeInts xs ys = some (decide (xs = ys)) := by
  rw [laws_likeInts_eq]; exact eq_all fun hl => eq_loop_int laws_likeInts_l0_eq xs ys h hl

theorem laws_likePatterns9_v (p q : Pat) (h : p.2.2.length ≤ MAXN) : laws_likePatterns9 p q = some (decide (p = q)) := by
  rw [laws_likePatterns9_eq, laws_likeInts_v _ _ h]
  obtain ⟨f, ⟨a, b, c⟩, xs⟩ := p
  obtain ⟨f', ⟨a', b', c'⟩, ys⟩ := q
  simp only [Option.bind_some, Prod.mk.injEq]
  by_cases h1 : f = f' <;> by_cases h2 : a = a' <;> by_cases h3 : b = b' <;> by_cases h4 : c = c' <;> by_cases h5 : xs = ys <;> simp [h1, h2, h3, h4, h5]

theorem likeP_self {p : Pat} (h : p.2.2.length ≤ 1048576) : laws_likePatterns9 p p = some true := by
  rw [laws_likePatterns9_v p p (leM h), decide_eq_true rfl]

structure DiceOk (d : Src) : Prop where
  b : ∀ c ∈ d.1, 0 ≤ c ∧ c ≤ 255
  n : d.1.length ≤ 4096
  p : 0 ≤ d.2.1 ∧ d.2.1 ≤ (d.1.length : Int)

theorem roll_d {code : List Int} (hb : ∀ c ∈ code, 0 ≤ c ∧ c ≤ 255) (hn : code.length ≤ 4096) (seed : Int) : Ok1 (laws_roll code seed) DiceOk := by
  have key : ∀ (d k : Nat) (h : Int), k + d = code.length → Ok1 (laws_roll_l0 code (k : Int) code 0 h) DiceOk := by
    intro d
    induction d with
    | zero =>
      intro k h hk
      rw [laws_roll_l0_eq, decide_eq_false (by omega)]
      exact Ok1.some ⟨hb, hn, by simp, by simp⟩
    | succ d ih =>
      intro k h hk
      have hlt : k < code.length := by omega
      rw [laws_roll_l0_eq, decide_eq_true (by omega), rd_lt hlt]
      simp only [cond_true, Option.bind_some, Option.bind_fun_some]
      rw [wnext hlt (by omega)]
      exact ih (k + 1) _ (by omega)
  rw [laws_roll_eq]
  exact (key code.length 0 _ (by omega)).bind fun a ha => Ok1.some ha

theorem u64_small {z : Int} (h0 : 0 ≤ z) (h1 : z ≤ 16777215) : IntKind.u64.wrap z = z := by
  simp only [IntKind.wrap, IntKind.signed, IntKind.bits]
  simp
  omega

theorem below_d {d : Src} (h : DiceOk d) (n : Int) (h1 : 1 ≤ n) (h2 : n ≤ 1000000) : Ok1 (laws_dice_below d n) fun y => DiceOk y.2 ∧ 0 ≤ y.1 ∧ y.1 < n := by
  obtain ⟨hb, hn, p1, p2⟩ := h
  rw [laws_dice_below_eq]
  rw [show decide (33 < 0) = false from rfl, cond_false, decide_eq_false (show ¬ n = 0 by omega)]
  have hand : ∀ a : Int, 0 ≤ ((BitVec.ofInt IntKind.u64.bits a &&& BitVec.ofInt IntKind.u64.bits 16777215).toNat : Int) ∧ ((BitVec.ofInt IntKind.u64.bits a &&& BitVec.ofInt IntKind.u64.bits 16777215).toNat : Int) ≤ 16777215 := by
    intro a
    refine ⟨by omega, ?_⟩
    rw [BitVec.toNat_and]
    have := @Nat.and_le_right (BitVec.ofInt IntKind.u64.bits a).toNat (BitVec.ofInt IntKind.u64.bits 16777215).toNat
    have e : (BitVec.ofInt IntKind.u64.bits 16777215).toNat = 16777215 := by decide
    rw [e] at this ⊢
    omega
  generalize Int.fdiv (IntKind.u64.wrap ((IntKind.u64.wrap (d.2.2 * 6364136223846793005)) + 1442695040888963407)) (2 ^ (min (Int.toNat 33) IntKind.u64.bits)) = a
  obtain ⟨z1, z2⟩ := hand a
  generalize ((BitVec.ofInt IntKind.u64.bits a &&& BitVec.ofInt IntKind.u64.bits 16777215).toNat : Int) = z at z1 z2
  rw [u64_small z1 z2, w64 (x := z) (by omega) (by omega)]
  simp only [cond_false]
  refine Ok1.cond (fun hc => ?_) fun hc => ?_
  · have hc := of_decide_eq_true hc
    have hlt : d.2.1.toNat < d.1.length := by omega
    have hrd : rd d.1 d.2.1 = some d.1[d.2.1.toNat] := by
      have := rd_lt hlt
      rwa [Int.toNat_of_nonneg p1] at this
    have hcb := hb _ (List.getElem_mem hlt)
    rw [hrd]
    simp only [Option.bind_some]
    rw [w64 (x := d.1[d.2.1.toNat]) (by omega) (by omega), w64 (x := z + d.1[d.2.1.toNat]) (by omega) (by omega), w64 (x := d.2.1 + 1) (by omega) (by omega)]
    obtain ⟨t1, t2⟩ := tmod_pos (a := z + d.1[d.2.1.toNat]) (n := n) (by omega) (by omega)
    exact Ok1.some ⟨⟨hb, hn, by simp only; omega, by simp only; omega⟩, t1, t2⟩
  · obtain ⟨t1, t2⟩ := tmod_pos (a := z) (n := n) (by omega) (by omega)
    exact Ok1.some ⟨⟨hb, hn, p1, p2⟩, t1, t2⟩

/-! ### Two drawn patterns -/

theorem mat_d {s : Src} (h : SrcOk s) (f : Int) : Ok1 (spec_l04DrawMat s f) fun y => Sk s y.2 ∧ (isFrame f = true → y.1 ∈ pmats f) := by
  rw [spec_l04DrawMat_eq, spec_IsFrame_v]
  simp only [Option.bind_some]
  cases hf : isFrame f with
  | false =>
    rw [cond_false, spec_l02Unit_eq]
    exact Ok1.some ⟨Sk.refl h, fun e => by cases e⟩
  | true =>
    have hf' := isFrame_iff.1 hf
    have hn := pmats_len f
    have hp : 1 ≤ (pmats f).length := List.length_pos_of_mem (unit_mem hf')
    rw [cond_true, spec_l04Mats_v hf']
    simp only [Option.bind_some]
    refine (next_d h ((pmats f).length : Int) (by omega)).bind fun a ⟨ha, a1, a2⟩ => Ok1.chk ?_ (Ok1.some ⟨ha, fun _ => ?_⟩)
    · rw [decide_eq_true a1, decide_eq_true (a2 (by omega))]; rfl
    · have := a2 (by omega)
      have hlt : a.1.toNat < (pmats f).length := by omega
      show (pmats f).getD a.1.toNat _ ∈ pmats f
      rw [List.getD_eq_getElem?_getD, List.getElem?_eq_getElem hlt]
      exact List.getElem_mem hlt

theorem pair_d {s : Src} (h : SrcOk s) : Ok1 (spec_l18DrawPair s) fun y => y.1.2.2.length ≤ 65 ∧ y.2.1.2.2.length ≤ 65 ∧ Sk s y.2.2 := by
  rw [spec_l18DrawPair_eq]
  refine (pattern_d h).bind fun a ⟨ha, a1⟩ => ?_
  rw [spec_IsPattern_v a.1 (leM (by omega))]
  simp only [Option.bind_some]
  refine Ok1.cond (fun hp => ?_) fun _ => (pattern_d ha.1).bind fun b ⟨hb, b1⟩ => Ok1.some ⟨a1, b1, ha.trans hb⟩
  have hf := (isPat_iff.1 hp).1
  have hf' := isFrame_iff.1 hf
  refine (next_d ha.1 4 (by omega)).bind fun b ⟨hb, _⟩ => Ok1.cond (fun _ => (pattern_d hb.1).bind fun c ⟨hc, c1⟩ => Ok1.some ⟨a1, c1, ha.trans (hb.trans hc)⟩) fun _ => ?_
  refine (mat_d hb.1 a.1.1).bind fun c ⟨hc, c1⟩ => (next_d hc.1 9 (by omega)).bind fun d ⟨hd, d1, d2⟩ => (next_d hd.1 9 (by omega)).bind fun e ⟨he, e1, e2⟩ => ?_
  have := d2 (by omega)
  have := e2 (by omega)
  have hv : Ss (IntKind.i64.wrap (d.1 - 4), IntKind.i64.wrap (e.1 - 4)) := by
    unfold Ss
    rw [w64 (by omega) (by omega), w64 (by omega) (by omega)]
    simp only
    omega
  have hpm := pmats_pm hf' (c1 hf)
  rw [spec_l09Move_v a.1 _ hp hpm hv]
  simp only [Option.bind_some]
  have hml := moved_len a.1 (IntKind.i64.wrap (d.1 - 4), IntKind.i64.wrap (e.1 - 4)) hp hpm
  have hmp := isPat_moved hp hpm (IntKind.i64.wrap (d.1 - 4), IntKind.i64.wrap (e.1 - 4))
  generalize moved a.1 c.1 (IntKind.i64.wrap (d.1 - 4), IntKind.i64.wrap (e.1 - 4)) = q at hml hmp
  obtain ⟨w, m1, m2⟩ := mul64 (isPat_iff.1 hmp).2.1
  have hq := (isPat_iff.1 hmp).2.2.1
  refine (next_d he.1 3 (by omega)).bind fun g ⟨hg, _⟩ => Ok1.cond (fun _ => ?_) fun _ => Ok1.some ⟨a1, by show q.2.2.length ≤ 65; omega, ha.trans (hb.trans (hc.trans (hd.trans (he.trans hg))))⟩
  refine (next_d hg.1 _ (by omega)).bind fun i ⟨hi, i1, i2⟩ => (next_d hi.1 3 (by omega)).bind fun j ⟨hj, _⟩ => Ok1.chk ?_ (Ok1.some ⟨a1, by simp only [List.length_set]; omega, ha.trans (hb.trans (hc.trans (hd.trans (he.trans (hg.trans (hi.trans hj))))))⟩)
  rw [decide_eq_true i1, decide_eq_true (i2 (by omega))]; rfl

end Go.Proofs.YtahlhacmikdimaaGreat
