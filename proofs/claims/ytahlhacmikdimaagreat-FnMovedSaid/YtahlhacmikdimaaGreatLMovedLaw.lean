/-
  Moving a pattern back restores it, and moved colours are where the motion takes them.
-/
import Derived.Test.YtahlhacmikdimaaGreatPW
namespace Go.Proofs.YtahlhacmikdimaaGreat
open Ai
set_option linter.unusedSimpArgs false
set_option linter.unusedVariables false

theorem mat02_d {s : Src} (h : SrcOk s) : Ok1 (spec_l02DrawFinite s) fun y => Sk s y.2 := by
  have loop : ∀ (d : Nat) (n : Int) (s : Src) (z4 z5 z6 z7 a b c e : Int), n ≤ (d : Int) → n ≤ 1000 → SrcOk s → Ok1 (spec_l02DrawFinite_l0 n s.1 s.2.1 s.2.2 z4 z5 z6 z7 a b c e) fun r => Sk s (r.1, r.2.1, r.2.2.1) := by
    intro d
    induction d with
    | zero =>
      intro n s z4 z5 z6 z7 a b c e hn hn2 hs
      rw [spec_l02DrawFinite_l0_eq, decide_eq_false (show ¬ 0 < n by omega)]
      exact Ok1.some (Sk.refl hs)
    | succ d ih =>
      intro n s z4 z5 z6 z7 a b c e hn hn2 hs
      rw [spec_l02DrawFinite_l0_eq]
      refine Ok1.cond (fun hc => ?_) fun _ => Ok1.some (Sk.refl hs)
      have hc := of_decide_eq_true hc
      have w : IntKind.i64.wrap (n - 1) = n - 1 := w64 (by omega) (by omega)
      rw [w]
      have h1 : Ok1 (spec_l01Next (s.1, s.2.1, s.2.2) 5) fun y => Sk s y.2 ∧ 0 ≤ y.1 ∧ (1 ≤ (5 : Int) → y.1 < 5) := next_d hs 5 (by omega)
      refine h1.bind fun y ⟨hy, _⟩ => (next_d hy.1 2 (by omega)).bind fun u ⟨hu, _⟩ => Ok1.cond (fun _ => ?_) fun _ => ?_
      · refine (next_d hu.1 5 (by omega)).bind fun v ⟨hv, _⟩ => ?_
        simp only [spec_l02Multiply_eq, spec_l02Inverse_eq, spec_l02Det_eq, Option.bind_some, Option.bind_fun_some]
        exact (ih (n - 1) v.2 _ _ _ _ _ _ _ _ (by omega) (by omega) hv.1).mono fun r hr => hy.trans (hu.trans (hv.trans hr))
      · simp only [spec_l02Multiply_eq, spec_l02Inverse_eq, spec_l02Det_eq, Option.bind_some, Option.bind_fun_some]
        exact (ih (n - 1) u.2 _ _ _ _ _ _ _ _ (by omega) (by omega) hu.1).mono fun r hr => hy.trans (hu.trans hr)
  rw [spec_l02DrawFinite_eq]
  refine (next_d h 8 (by omega)).bind fun a ⟨ha, a1, a2⟩ => Ok1.chk ?_ ?_
  · have := a2 (by omega)
    rw [decide_eq_true a1, Bool.true_and]
    exact decide_eq_true this
  · refine (next_d ha.1 3 (by omega)).bind fun b ⟨hb, b1, b2⟩ => ?_
    have := b2 (by omega)
    exact (loop 3 b.1 b.2 _ _ _ _ _ _ _ _ (by omega) (by omega) hb.1).bind fun r hr => Ok1.some (ha.trans (hb.trans hr))

theorem mat2_d {s : Src} (h : SrcOk s) : Ok1 (spec_l02Draw s) fun y => Sk s y.2 := by
  have loop : ∀ (d : Nat) (n : Int) (s : Src) (z4 z5 z6 z7 a b c e : Int), n ≤ (d : Int) → n ≤ 1000 → SrcOk s → Ok1 (spec_l02Draw_l0 n s.1 s.2.1 s.2.2 z4 z5 z6 z7 a b c e) fun r => Sk s (r.1, r.2.1, r.2.2.1) := by
    intro d
    induction d with
    | zero =>
      intro n s z4 z5 z6 z7 a b c e hn hn2 hs
      rw [spec_l02Draw_l0_eq, decide_eq_false (show ¬ 0 < n by omega)]
      exact Ok1.some (Sk.refl hs)
    | succ d ih =>
      intro n s z4 z5 z6 z7 a b c e hn hn2 hs
      rw [spec_l02Draw_l0_eq]
      refine Ok1.cond (fun hc => ?_) fun _ => Ok1.some (Sk.refl hs)
      have hc := of_decide_eq_true hc
      have w : IntKind.i64.wrap (n - 1) = n - 1 := w64 (by omega) (by omega)
      rw [w]
      have h1 : Ok1 (spec_l01Next (s.1, s.2.1, s.2.2) 5) fun y => Sk s y.2 ∧ 0 ≤ y.1 ∧ (1 ≤ (5 : Int) → y.1 < 5) := next_d hs 5 (by omega)
      refine h1.bind fun y ⟨hy, y1, y2⟩ => Ok1.chk ?_ ?_
      · have := y2 (by omega)
        rw [decide_eq_true y1, Bool.true_and]
        exact decide_eq_true this
      · simp only [spec_l02Multiply_eq, Option.bind_some, Option.bind_fun_some]
        exact (ih (n - 1) y.2 _ _ _ _ _ _ _ _ (by omega) (by omega) hy.1).mono fun r hr => hy.trans hr
  rw [spec_l02Draw_eq]
  refine (next_d h 3 (by omega)).bind fun a ⟨ha, _⟩ => Ok1.cond (fun _ => ?_) fun _ => ?_
  · exact (mat02_d ha.1).bind fun b hb => Ok1.some (ha.trans hb)
  · rw [spec_l02Unit_eq]
    simp only [Option.bind_some]
    refine (next_d ha.1 5 (by omega)).bind fun b ⟨hb, b1, b2⟩ => ?_
    have := b2 (by omega)
    refine (loop 5 b.1 b.2 _ _ _ _ _ _ _ _ (by omega) (by omega) hb.1).bind fun r hr => ?_
    refine (next_d (s := (r.1, r.2.1, r.2.2.1)) hr.1 20 (by omega)).bind fun c ⟨hc, _⟩ => Ok1.cond (fun _ => ?_) fun _ => Ok1.cond (fun _ => ?_) fun _ => ?_
    · exact Ok1.some (ha.trans (hb.trans (hr.trans hc)))
    · exact (pick_d hc.1 _ (by decide) (by decide)).bind fun d ⟨hd, _⟩ => Ok1.some (ha.trans (hb.trans (hr.trans (hc.trans hd))))
    · exact Ok1.some (ha.trans (hb.trans (hr.trans hc)))

theorem mot5_d {s : Src} (h : SrcOk s) : Ok1 (spec_l05Draw s) fun y => Sk s y.2 := by
  rw [spec_l05Draw_eq]
  refine (next_d h 2 (by omega)).bind fun a ⟨ha, _⟩ => (mat_d ha.1 a.1).bind fun b ⟨hb, _⟩ => (next_d hb.1 12 (by omega)).bind fun c ⟨hc, _⟩ => ?_
  have hs := ha.trans (hb.trans hc)
  refine Ok1.cond (fun _ => ?_) fun _ => Ok1.cond (fun _ => ?_) fun _ => Ok1.cond (fun _ => ?_) fun _ => ?_
  · refine (mat2_d hc.1).bind fun d hd => (next_d hd.1 5 (by omega)).bind fun e ⟨he, _⟩ => Ok1.cond (fun _ => Ok1.some (hs.trans (hd.trans he))) fun _ => (draw_d he.1).bind fun g hg => Ok1.some (hs.trans (hd.trans (he.trans hg)))
  · rw [spec_l02Unit_eq]
    simp only [Option.bind_some]
    exact (next_d hc.1 5 (by omega)).bind fun e ⟨he, _⟩ => Ok1.cond (fun _ => Ok1.some (hs.trans he)) fun _ => (draw_d he.1).bind fun g hg => Ok1.some (hs.trans (he.trans hg))
  · refine (mat02_d hc.1).bind fun d hd => (next_d hd.1 5 (by omega)).bind fun e ⟨he, _⟩ => Ok1.cond (fun _ => Ok1.some (hs.trans (hd.trans he))) fun _ => (draw_d he.1).bind fun g hg => Ok1.some (hs.trans (hd.trans (he.trans hg)))
  · exact (next_d hc.1 5 (by omega)).bind fun e ⟨he, _⟩ => Ok1.cond (fun _ => Ok1.some (hs.trans he)) fun _ => (draw_d he.1).bind fun g hg => Ok1.some (hs.trans (he.trans hg))

theorem drawMove_d {x : List Int} (hb : ∀ c ∈ x, 0 ≤ c ∧ c ≤ 255) (hn : x.length ≤ 4096) : Ok1 (spec_DrawMovePattern x) fun y => y.1.2.2.length ≤ 65 := by
  rw [spec_DrawMovePattern_eq]
  refine (from_d hb hn).bind fun s hs => (pattern_d hs).bind fun y ⟨hy, h⟩ => (next_d hy.1 12 (by omega)).bind fun a ⟨ha, _⟩ => Ok1.cond (fun _ => ?_) fun _ => ?_
  · exact (mot5_d ha.1).bind fun b hb => Ok1.some h
  · exact (mat_d ha.1 _).bind fun b ⟨hb, _⟩ => (next_d hb.1 15 (by omega)).bind fun c ⟨hc, _⟩ => (next_d hc.1 15 (by omega)).bind fun d ⟨hd, _⟩ => Ok1.some h

theorem drawSpread_d {x : List Int} (hb : ∀ c ∈ x, 0 ≤ c ∧ c ≤ 255) (hn : x.length ≤ 4096) : Ok1 (spec_DrawSpreadPattern x) fun y => y.1.2.2.length ≤ 65 := by
  rw [spec_DrawSpreadPattern_eq]
  refine (from_d hb hn).bind fun s hs => (pattern_d hs).bind fun y ⟨hy, h⟩ => (next_d hy.1 3 (by omega)).bind fun a ⟨ha, _⟩ => Ok1.cond (fun _ => ?_) fun _ => ?_
  · exact (lat_d ha.1).bind fun b hb => Ok1.some h
  · exact (next_d ha.1 2 (by omega)).bind fun b ⟨hb, _⟩ => Ok1.some h

def spreadR (p : Pat) (l : Lat) : Pat × Int := if (isPat p && isLat l) = true then (if (decide (red (fullOf p) (l.1, 0) = (0, 0)) && decide (red (fullOf p) l.2 = (0, 0))) = true then (onLat p l, 0) else (zeroP, 5)) else (zeroP, 1)

theorem spread_v (p : Pat) (l : Lat) (h : p.2.2.length ≤ 1048576) : impl_SpreadPattern p l = some (spreadR p l) ∧ spec_SpreadPattern p l = some (spreadR p l) := by
  unfold spreadR
  rw [spec_SpreadPattern_eq, impl_SpreadPattern_eq, spec_IsPattern_v p (leM h), impl_IsPattern_v p (leM h), spec_IsLattice_v, impl_IsLattice_v]
  simp only [Option.bind_some]
  cases hp : isPat p
  · exact ⟨rfl, rfl⟩
  · cases hl : isLat l
    · exact ⟨rfl, rfl⟩
    · have hf := isLat_fullOf hp
      have s1 := (isLat_sm hl).1
      have s2 := (isLat_sm hl).2
      simp only [cond_true, spec_l09Full_v p hp, impl_Pattern_fullLattice_v p hp, Option.bind_some, spec_l03Basis_eq, impl_Lattice_contains_v _ l hf hl]
      have e1 : spec_l03Has (fullOf p) (([(l.1, 0), l.2] : List (Int × Int)).getD (Int.toNat 0) (dflt (.pair (.i .i64) (.i .i64)))) = some (decide (red (fullOf p) (l.1, 0) = (0, 0))) := spec_l03Has_v _ _ hf s1
      have e2 : spec_l03Has (fullOf p) (([(l.1, 0), l.2] : List (Int × Int)).getD (Int.toNat 1) (dflt (.pair (.i .i64) (.i .i64)))) = some (decide (red (fullOf p) l.2 = (0, 0))) := spec_l03Has_v _ _ hf s2
      rw [e1]
      simp only [Option.bind_some]
      rw [e2]
      cases decide (red (fullOf p) (l.1, 0) = (0, 0))
      · exact ⟨rfl, rfl⟩
      · cases decide (red (fullOf p) l.2 = (0, 0))
        · exact ⟨rfl, rfl⟩
        · simp only [Bool.and_self, cond_true, spec_l09On_v p l hp hl, impl_Pattern_spread_v p l hp hl, Option.bind_some]
          exact ⟨rfl, rfl⟩

theorem pmats0 : pmats 0 = ([(-1, 0, 0, -1), (-1, 0, 0, 1), (0, -1, -1, 0), (0, -1, 1, 0), (0, 1, -1, 0), (0, 1, 1, 0), (1, 0, 0, -1), (1, 0, 0, 1)] : List Mat4) := by decide +kernel
theorem pmats1 : pmats 1 = ([(-1, -1, 0, 1), (-1, -1, 1, 0), (-1, 0, 0, -1), (-1, 0, 1, 1), (0, -1, -1, 0), (0, -1, 1, 1), (0, 1, -1, -1), (0, 1, 1, 0), (1, 0, -1, -1), (1, 0, 0, 1), (1, 1, -1, 0), (1, 1, 0, -1)] : List Mat4) := by decide +kernel

theorem turn_all : ∀ m ∈ ([(-1, 0, 0, -1), (-1, 0, 0, 1), (0, -1, -1, 0), (0, -1, 1, 0), (0, 1, -1, 0), (0, 1, 1, 0), (1, 0, 0, -1), (1, 0, 0, 1)] ++ [(-1, -1, 0, 1), (-1, -1, 1, 0), (-1, 0, 0, -1), (-1, 0, 1, 1), (0, -1, -1, 0), (0, -1, 1, 1), (0, 1, -1, -1), (0, 1, 1, 0), (1, 0, -1, -1), (1, 0, 0, 1), (1, 1, -1, 0), (1, 1, 0, -1)] : List Mat4), impl_IsMat m = some true ∧ impl_Mat_isTurn m = some true := by
  simp only [List.cons_append, List.nil_append, List.forall_mem_cons, impl_IsMat_eq, impl_Mat_isSmall_eq, impl_isCoordinate_v, impl_Mat_isTurn_eq, impl_Mat_isRotation_eq, impl_Mat_isReflection_eq, impl_Mat_order_eq, impl_Mat_det_eq, impl_unit_eq, Option.bind_some]
  decide

theorem isMotion_v {f : Int} (hf : f = 0 ∨ f = 1) {m : Mot} (hm : m.1 ∈ pmats f) : impl_IsMotion m = some (isVec m.2) := by
  have h : impl_IsMat m.1 = some true ∧ impl_Mat_isTurn m.1 = some true := by
    refine turn_all m.1 (List.mem_append.2 ?_)
    rcases hf with rfl | rfl
    · exact .inl (pmats0 ▸ hm)
    · exact .inr (pmats1 ▸ hm)
  rw [impl_IsMotion_eq, h.1]
  simp only [Option.bind_some, cond_true, h.2, impl_IsVec_v]
  cases isVec m.2 <;> rfl

theorem inverse_v {f : Int} (hf : f = 0 ∨ f = 1) {m : Mot} (hm : m.1 ∈ pmats f) (hv : isVec m.2 = true) : impl_InverseMotion m = some (if isVec (vneg (mapp (minv m.1) m.2)) = true then ((minv m.1, vneg (mapp (minv m.1) m.2)), 0) else (((0, 0, 0, 0), 0, 0), 3)) := by
  have hpm := pmats_pm hf hm
  rw [impl_InverseMotion_eq, isMotion_v hf hm, hv]
  simp only [Option.bind_some, cond_true]
  rw [show impl_Motion_inverse m = some (minv m.1, vneg (mapp (minv m.1) m.2)) from impl_Motion_inverse_v hpm (isVec_sv hv)]
  simp only [Option.bind_some, impl_IsVec_v]
  cases isVec (vneg (mapp (minv m.1) m.2)) <;> rfl

theorem apply_v {f : Int} (hf : f = 0 ∨ f = 1) {m : Mot} (hm : m.1 ∈ pmats f) (hv : isVec m.2 = true) {v : V} (h2 : isVec v = true) : impl_ApplyMotion m v = some (if isVec (vadd (mapp m.1 v) m.2) = true then (vadd (mapp m.1 v) m.2, 0) else ((0, 0), 3)) := by
  have hpm := pmats_pm hf hm
  have e : wap m v = vadd (mapp m.1 v) m.2 := (wap_pm hpm (isVec_ss h2) (isVec_ss hv)).1
  rw [impl_ApplyMotion_eq, isMotion_v hf hm, hv]
  simp only [Option.bind_some, cond_true, impl_IsVec_v, h2, impl_Motion_apply_v, e, impl_limited_eq]
  cases isVec (vadd (mapp m.1 v) m.2) <;> rfl

theorem lat_self (l : Lat) : (decide (l.1 = l.1) && (decide (l.2.1 = l.2.1) && (decide (l.2.2 = l.2.2) && true))) = true := by simp

/-- A pattern that is spread is the same. -/
theorem spread_same {r : Pat} {l : Lat} (h : (spreadR r l).2 = 0) : isPat r = true ∧ isPat (spreadR r l).1 = true ∧ (spreadR r l).1.2.1 = l ∧ onLat r (fullOf r) = onLat (spreadR r l).1 (fullOf (spreadR r l).1) := by
  unfold spreadR at h ⊢
  by_cases h1 : (isPat r && isLat l) = true
  · rw [if_pos h1] at h ⊢
    rw [Bool.and_eq_true] at h1
    by_cases h2 : (decide (red (fullOf r) (l.1, 0) = (0, 0)) && decide (red (fullOf r) l.2 = (0, 0))) = true
    · rw [if_pos h2] at h ⊢
      rw [Bool.and_eq_true, decide_eq_true_iff, decide_eq_true_iff, inL_iff (isLat_fullOf h1.1), inL_iff (isLat_fullOf h1.1)] at h2
      have hq := isPat_onLat h1.1 h1.2
      refine ⟨h1.1, hq, rfl, lean_same h1.1 hq rfl fun v => (patAt_onLat h1.1 h1.2 (fun t ht => ?_) v).symm⟩
      obtain ⟨i, j, e1, e2⟩ := ht
      have h3 := h2.1.lin h2.2 i j
      have e : ((i * l.1 + j * l.2.1, i * 0 + j * l.2.2) : V) = t := by ext <;> simp only <;> omega
      exact (inL_full h1.1 t).1 (e ▸ h3)
    · rw [if_neg h2] at h; simp at h
  · rw [if_neg h1] at h; simp at h

theorem vec21 {a : Int} (h : 0 ≤ a ∧ a < 21) : -10 ≤ IntKind.i64.wrap (a - 10) ∧ IntKind.i64.wrap (a - 10) ≤ 10 := by
  rw [w64 (by omega) (by omega)]; omega

theorem isVec_of {v : V} (h1 : -100 ≤ v.1 ∧ v.1 ≤ 100) (h2 : -100 ≤ v.2 ∧ v.2 ≤ 100) : isVec v = true := by
  unfold isVec
  rw [Bool.and_eq_true, within_iff, within_iff]; omega

theorem FnMoved_true (x : List Int) (h : wfE (.list (.i .u8)) x) : laws_FnMoved x = some true := by
  rw [laws_FnMoved_eq, laws_big_eq]
  by_cases hb : 4096 < (x.length : Int)
  · rw [decide_eq_true hb]; rfl
  · rw [decide_eq_false hb]
    obtain ⟨y, e1, hy⟩ := drawMove_d (code_bytes h) (by omega)
    obtain ⟨p, m⟩ := y
    obtain ⟨z, e2, hz⟩ := drawSpread_d (code_bytes h) (by omega)
    obtain ⟨r, l⟩ := z
    simp only at hy hz
    obtain ⟨a1, a2⟩ := move_v p m (by omega)
    obtain ⟨b1, b2⟩ := spread_v r l (by omega)
    have hsl : (spreadR r l).1.2.2.length ≤ 64 := by
      unfold spreadR
      split
      · rename_i h1
        rw [Bool.and_eq_true] at h1
        split
        · exact onLat_len r h1.2
        · simp [zeroP]
      · simp [zeroP]
    have ls := likeP_self (p := (spreadR r l).1) (by omega)
    simp only [cond_false, Option.bind_some, cond_true, e1, a1, a2, e2, b1, b2, decide_true, Bool.not_true, ls]
    have hS : Option.bind (impl_ArePatternsSame r (spreadR r l).1) some = some (if (isPat r && isPat (spreadR r l).1) = true then (decide (onLat r (fullOf r) = onLat (spreadR r l).1 (fullOf (spreadR r l).1)), 0) else (false, 1)) := by
      rw [(same_v r (spreadR r l).1 (by omega) (by omega)).1]; rfl
    have hsame := (same_v r (spreadR r l).1 (by omega) (by omega)).1
    obtain ⟨d, e3, hd⟩ := roll_d (code_bytes h) (by omega) 902
    obtain ⟨⟨a, d1⟩, e4, hd1, a1', a2'⟩ := below_d hd 21 (by omega) (by omega)
    obtain ⟨⟨b, d2⟩, e5, hd2, b1', b2'⟩ := below_d hd1 21 (by omega) (by omega)
    simp only at a1' a2' b1' b2' e5
    cases hp : isPat p with
    | false =>
      have lz := likeP_self (p := zeroP) (by simp [zeroP])
      simp only [Bool.false_eq_true, if_false, lz, Option.bind_some, cond_true, e3, e4, e5, hsame]
      by_cases hs0 : (spreadR r l).2 = 0
      · obtain ⟨s1, s2, s3, s4⟩ := spread_same hs0
        simp [hs0, s1, s2, s3, s4]
      · simp [hs0]
    | true =>
      simp only [if_true]
      cases hmv : (isPm p.1 m.1 && isVec m.2) with
      | false =>
        have lz := likeP_self (p := zeroP) (by simp [zeroP])
        simp only [Bool.false_eq_true, if_false, lz, Option.bind_some, cond_true, e3, e4, e5, hsame]
        by_cases hs0 : (spreadR r l).2 = 0
        · obtain ⟨s1, s2, s3, s4⟩ := spread_same hs0
          simp [hs0, s1, s2, s3, s4]
        · simp [hs0]
      | true =>
        rw [Bool.and_eq_true] at hmv
        have hf := isFrame_iff.1 (isPat_iff.1 hp).1
        have hmm := (isPm_iff hf).1 hmv.1
        have hpm := pmats_pm hf hmm
        have hq := isPat_moved hp hpm m.2
        have hql := pat_len hq
        have lq := likeP_self (p := moved p m.1 m.2) (by omega)
        have lp := likeP_self (p := p) (by omega)
        have hv : isVec (IntKind.i64.wrap (a - 10), IntKind.i64.wrap (b - 10)) = true := by
          have := vec21 ⟨a1', a2'⟩
          have := vec21 ⟨b1', b2'⟩
          exact isVec_of (by simp only; omega) (by simp only; omega)
        have hap := apply_v hf hmm hmv.2 hv
        have hin := inverse_v hf hmm hmv.2
        generalize hV : ((IntKind.i64.wrap (a - 10), IntKind.i64.wrap (b - 10)) : V) = v at hv hap
        have c1 : impl_ColourAt p v = some (patAt p v, 0) := by rw [(colourAt_v p v (by omega)).1, hp, hv]; rfl
        have c2 : isVec (vadd (mapp m.1 v) m.2) = true → impl_ColourAt (moved p m.1 m.2) (vadd (mapp m.1 v) m.2) = some (patAt p v, 0) := fun hw => by
          rw [(colourAt_v _ _ (by omega)).1, hq, hw, patAt_moved hp hpm]
          have h3 : vsub (vadd (mapp m.1 v) m.2) m.2 = mapp m.1 v := by unfold vsub vadd; ext <;> simp only <;> omega
          rw [h3, minv_left hpm.det]
          rfl
        have c3 : isVec (vneg (mapp (minv m.1) m.2)) = true → impl_MovePattern (moved p m.1 m.2) (minv m.1, vneg (mapp (minv m.1) m.2)) = some (p, 0) := fun hw => by
          rw [(move_v _ _ (by omega)).1, hq, if_pos rfl, if_pos, moved_back hp hpm]
          rw [hw, (isPm_iff (f := (moved p m.1 m.2).1) hf).2 (minv_closed hf hmm)]
          rfl
        simp only [if_true, lq, Option.bind_some, cond_true, e3, e4, e5, hsame, decide_true, Bool.not_true, cond_false, hV, hap, hin]
        by_cases hw : isVec (vadd (mapp m.1 v) m.2) = true
        · by_cases hi : isVec (vneg (mapp (minv m.1) m.2)) = true
          · by_cases hs0 : (spreadR r l).2 = 0
            · obtain ⟨s1, s2, s3, s4⟩ := spread_same hs0
              simp [hs0, s1, s2, s3, s4, hw, hi, c1, c2 hw, c3 hi, lp]
            · simp [hs0, hw, hi, c1, c2 hw, c3 hi, lp]
          · by_cases hs0 : (spreadR r l).2 = 0
            · obtain ⟨s1, s2, s3, s4⟩ := spread_same hs0
              simp [hs0, s1, s2, s3, s4, hw, hi, c1, c2 hw, lp]
            · simp [hs0, hw, hi, c1, c2 hw, lp]
        · by_cases hi : isVec (vneg (mapp (minv m.1) m.2)) = true
          · by_cases hs0 : (spreadR r l).2 = 0
            · obtain ⟨s1, s2, s3, s4⟩ := spread_same hs0
              simp [hs0, s1, s2, s3, s4, hw, hi, c1, c3 hi, lp]
            · simp [hs0, hw, hi, c1, c3 hi, lp]
          · by_cases hs0 : (spreadR r l).2 = 0
            · obtain ⟨s1, s2, s3, s4⟩ := spread_same hs0
              simp [hs0, s1, s2, s3, s4, hw, hi, c1, lp]
            · simp [hs0, hw, hi, c1, lp]

end Go.Proofs.YtahlhacmikdimaaGreat
