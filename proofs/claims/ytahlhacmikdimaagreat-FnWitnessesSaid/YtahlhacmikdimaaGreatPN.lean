/-
  Drawn motions; what motions do, as the public functions tell it; lists of motions.
-/
import Derived.Test.YtahlhacmikdimaaGreatPW
namespace Go.Proofs.YtahlhacmikdimaaGreat
open Ai
set_option linter.unusedSimpArgs false
set_option linter.unusedVariables false
theorem mat02_d {s : Src} (h : SrcOk s) : Ok1 (spec_l02DrawFinite s) fun y => Sk s y.2 := by
  have loop : ∀ (d : Nat) (n : Int) (s : Src) (z4 z5 z6 z7 a b c e : Int), n ≤ (d : Int) → n ≤ 1000 → SrcOk s → Ok1 (spec_l02DrawFinite_l0 n s.1 s.2.1 s.2.2 z4 z5 z6 z7 a b c e) fun r => Sk s (r.1, r.2.1, r.2.2.1) := by
    intro d
    induction d with
    | zero =>
      intro n s z4 z5 z6 z7 a b c e hn hn2 hs
      rw [spec_l02DrawFinite_l0_eq, decide_eq_false (show ¬ 0 < n by omega)]
      exact Ok1.some (Sk.refl hs)
    | succ d ih =>
      intro n s z4 z5 z6 z7 a b c e hn hn2 hs
      rw [spec_l02DrawFinite_l0_eq]
      refine Ok1.cond (fun hc => ?_) fun _ => Ok1.some (Sk.refl hs)
      have hc := of_decide_eq_true hc
      have w : IntKind.i64.wrap (n - 1) = n - 1 := w64 (by omega) (by omega)
      rw [w]
      have h1 : Ok1 (spec_l01Next (s.1, s.2.1, s.2.2) 5) fun y => Sk s y.2 ∧ 0 ≤ y.1 ∧ (1 ≤ (5 : Int) → y.1 < 5) := next_d hs 5 (by omega)
      refine h1.bind fun y ⟨hy, _⟩ => (next_d hy.1 2 (by omega)).bind fun u ⟨hu, _⟩ => Ok1.cond (fun _ => ?_) fun _ => ?_
      · refine (next_d hu.1 5 (by omega)).bind fun v ⟨hv, _⟩ => ?_
        simp only [spec_l02Multiply_eq, spec_l02Inverse_eq, spec_l02Det_eq, Option.bind_some, Option.bind_fun_some]
        exact (ih (n - 1) v.2 _ _ _ _ _ _ _ _ (by omega) (by omega) hv.1).mono fun r hr => hy.trans (hu.trans (hv.trans hr))
      · simp only [spec_l02Multiply_eq, spec_l02Inverse_eq, spec_l02Det_eq, Option.bind_some, Option.bind_fun_some]
        exact (ih (n - 1) u.2 _ _ _ _ _ _ _ _ (by omega) (by omega) hu.1).mono fun r hr => hy.trans (hu.trans hr)
  rw [spec_l02DrawFinite_eq]
  refine (next_d h 8 (by omega)).bind fun a ⟨ha, a1, a2⟩ => Ok1.chk ?_ ?_
  · have := a2 (by omega)
    rw [decide_eq_true a1, Bool.true_and]
    exact decide_eq_true this
  · refine (next_d ha.1 3 (by omega)).bind fun b ⟨hb, b1, b2⟩ => ?_
    have := b2 (by omega)
    exact (loop 3 b.1 b.2 _ _ _ _ _ _ _ _ (by omega) (by omega) hb.1).bind fun r hr => Ok1.some (ha.trans (hb.trans hr))
theorem mat2_d {s : Src} (h : SrcOk s) : Ok1 (spec_l02Draw s) fun y => Sk s y.2 := by
  have loop : ∀ (d : Nat) (n : Int) (s : Src) (z4 z5 z6 z7 a b c e : Int), n ≤ (d : Int) → n ≤ 1000 → SrcOk s → Ok1 (spec_l02Draw_l0 n s.1 s.2.1 s.2.2 z4 z5 z6 z7 a b c e) fun r => Sk s (r.1, r.2.1, r.2.2.1) := by
    intro d
    induction d with
    | zero =>
      intro n s z4 z5 z6 z7 a b c e hn hn2 hs
      rw [spec_l02Draw_l0_eq, decide_eq_false (show ¬ 0 < n by omega)]
      exact Ok1.some (Sk.refl hs)
    | succ d ih =>
      intro n s z4 z5 z6 z7 a b c e hn hn2 hs
      rw [spec_l02Draw_l0_eq]
      refine Ok1.cond (fun hc => ?_) fun _ => Ok1.some (Sk.refl hs)
      have hc := of_decide_eq_true hc
      have w : IntKind.i64.wrap (n - 1) = n - 1 := w64 (by omega) (by omega)
      rw [w]
      have h1 : Ok1 (spec_l01Next (s.1, s.2.1, s.2.2) 5) fun y => Sk s y.2 ∧ 0 ≤ y.1 ∧ (1 ≤ (5 : Int) → y.1 < 5) := next_d hs 5 (by omega)
      refine h1.bind fun y ⟨hy, y1, y2⟩ => Ok1.chk ?_ ?_
      · have := y2 (by omega)
        rw [decide_eq_true y1, Bool.true_and]
        exact decide_eq_true this
      · simp only [spec_l02Multiply_eq, Option.bind_some, Option.bind_fun_some]
        exact (ih (n - 1) y.2 _ _ _ _ _ _ _ _ (by omega) (by omega) hy.1).mono fun r hr => hy.trans hr
  rw [spec_l02Draw_eq]
  refine (next_d h 3 (by omega)).bind fun a ⟨ha, _⟩ => Ok1.cond (fun _ => ?_) fun _ => ?_
  · exact (mat02_d ha.1).bind fun b hb => Ok1.some (ha.trans hb)
  · rw [spec_l02Unit_eq]
    simp only [Option.bind_some]
    refine (next_d ha.1 5 (by omega)).bind fun b ⟨hb, b1, b2⟩ => ?_
    have := b2 (by omega)
    refine (loop 5 b.1 b.2 _ _ _ _ _ _ _ _ (by omega) (by omega) hb.1).bind fun r hr => ?_
    refine (next_d (s := (r.1, r.2.1, r.2.2.1)) hr.1 20 (by omega)).bind fun c ⟨hc, _⟩ => Ok1.cond (fun _ => ?_) fun _ => Ok1.cond (fun _ => ?_) fun _ => ?_
    · exact Ok1.some (ha.trans (hb.trans (hr.trans hc)))
    · exact (pick_d hc.1 _ (by decide) (by decide)).bind fun d ⟨hd, _⟩ => Ok1.some (ha.trans (hb.trans (hr.trans (hc.trans hd))))
    · exact Ok1.some (ha.trans (hb.trans (hr.trans hc)))
theorem mot5_d {s : Src} (h : SrcOk s) : Ok1 (spec_l05Draw s) fun y => Sk s y.2 := by
  rw [spec_l05Draw_eq]
  refine (next_d h 2 (by omega)).bind fun a ⟨ha, _⟩ => (mat_d ha.1 a.1).bind fun b ⟨hb, _⟩ => (next_d hb.1 12 (by omega)).bind fun c ⟨hc, _⟩ => ?_
  have hs := ha.trans (hb.trans hc)
  refine Ok1.cond (fun _ => ?_) fun _ => Ok1.cond (fun _ => ?_) fun _ => Ok1.cond (fun _ => ?_) fun _ => ?_
  · refine (mat2_d hc.1).bind fun d hd => (next_d hd.1 5 (by omega)).bind fun e ⟨he, _⟩ => Ok1.cond (fun _ => Ok1.some (hs.trans (hd.trans he))) fun _ => (draw_d he.1).bind fun g hg => Ok1.some (hs.trans (hd.trans (he.trans hg)))
  · rw [spec_l02Unit_eq]
    simp only [Option.bind_some]
    exact (next_d hc.1 5 (by omega)).bind fun e ⟨he, _⟩ => Ok1.cond (fun _ => Ok1.some (hs.trans he)) fun _ => (draw_d he.1).bind fun g hg => Ok1.some (hs.trans (he.trans hg))
  · refine (mat02_d hc.1).bind fun d hd => (next_d hd.1 5 (by omega)).bind fun e ⟨he, _⟩ => Ok1.cond (fun _ => Ok1.some (hs.trans (hd.trans he))) fun _ => (draw_d he.1).bind fun g hg => Ok1.some (hs.trans (hd.trans (he.trans hg)))
  · exact (next_d hc.1 5 (by omega)).bind fun e ⟨he, _⟩ => Ok1.cond (fun _ => Ok1.some (hs.trans he)) fun _ => (draw_d he.1).bind fun g hg => Ok1.some (hs.trans (he.trans hg))
theorem pmats0 : pmats 0 = ([(-1, 0, 0, -1), (-1, 0, 0, 1), (0, -1, -1, 0), (0, -1, 1, 0), (0, 1, -1, 0), (0, 1, 1, 0), (1, 0, 0, -1), (1, 0, 0, 1)] : List Mat4) := by decide +kernel
theorem pmats1 : pmats 1 = ([(-1, -1, 0, 1), (-1, -1, 1, 0), (-1, 0, 0, -1), (-1, 0, 1, 1), (0, -1, -1, 0), (0, -1, 1, 1), (0, 1, -1, -1), (0, 1, 1, 0), (1, 0, -1, -1), (1, 0, 0, 1), (1, 1, -1, 0), (1, 1, 0, -1)] : List Mat4) := by decide +kernel
theorem turn_all : ∀ m ∈ ([(-1, 0, 0, -1), (-1, 0, 0, 1), (0, -1, -1, 0), (0, -1, 1, 0), (0, 1, -1, 0), (0, 1, 1, 0), (1, 0, 0, -1), (1, 0, 0, 1)] ++ [(-1, -1, 0, 1), (-1, -1, 1, 0), (-1, 0, 0, -1), (-1, 0, 1, 1), (0, -1, -1, 0), (0, -1, 1, 1), (0, 1, -1, -1), (0, 1, 1, 0), (1, 0, -1, -1), (1, 0, 0, 1), (1, 1, -1, 0), (1, 1, 0, -1)] : List Mat4), impl_IsMat m = some true ∧ impl_Mat_isTurn m = some true := by
  simp only [List.cons_append, List.nil_append, List.forall_mem_cons, impl_IsMat_eq, impl_Mat_isSmall_eq, impl_isCoordinate_v, impl_Mat_isTurn_eq, impl_Mat_isRotation_eq, impl_Mat_isReflection_eq, impl_Mat_order_eq, impl_Mat_det_eq, impl_unit_eq, Option.bind_some]
  decide
theorem isMotion_v {f : Int} (hf : f = 0 ∨ f = 1) {m : Mot} (hm : m.1 ∈ pmats f) : impl_IsMotion m = some (isVec m.2) := by
  have h : impl_IsMat m.1 = some true ∧ impl_Mat_isTurn m.1 = some true := by
    refine turn_all m.1 (List.mem_append.2 ?_)
    rcases hf with rfl | rfl
    · exact .inl (pmats0 ▸ hm)
    · exact .inr (pmats1 ▸ hm)
  rw [impl_IsMotion_eq, h.1]
  simp only [Option.bind_some, cond_true, h.2, impl_IsVec_v]
  cases isVec m.2 <;> rfl
theorem apply_v {f : Int} (hf : f = 0 ∨ f = 1) {m : Mot} (hm : m.1 ∈ pmats f) (hv : isVec m.2 = true) {v : V} (h2 : isVec v = true) : impl_ApplyMotion m v = some (if isVec (vadd (mapp m.1 v) m.2) = true then (vadd (mapp m.1 v) m.2, 0) else ((0, 0), 3)) := by
  have hpm := pmats_pm hf hm
  have e : wap m v = vadd (mapp m.1 v) m.2 := (wap_pm hpm (isVec_ss h2) (isVec_ss hv)).1
  rw [impl_ApplyMotion_eq, isMotion_v hf hm, hv]
  simp only [Option.bind_some, cond_true, impl_IsVec_v, h2, impl_Motion_apply_v, e, impl_limited_eq]
  cases isVec (vadd (mapp m.1 v) m.2) <;> rfl
theorem isVec_of {v : V} (h1 : -100 ≤ v.1 ∧ v.1 ≤ 100) (h2 : -100 ≤ v.2 ∧ v.2 ≤ 100) : isVec v = true := by
  unfold isVec
  rw [Bool.and_eq_true, within_iff, within_iff]; omega
theorem colourAtI_v (p : Pat) (v : V) (h : p.2.2.length ≤ 1048576) : impl_ColourAt p v = some (if (isPat p && isVec v) = true then (patAt p v, 0) else (0, 1)) := by
  rw [impl_ColourAt_eq, impl_IsPattern_v p (leM h), impl_IsVec_v]
  simp only [Option.bind_some]
  cases hp : isPat p
  · rfl
  · cases hv : isVec v
    · rfl
    · simp only [cond_true, impl_Pattern_at_v p v hp (isVec_sm hv), Option.bind_some]
      rfl
theorem laws_hasMotion9_v (xs : List Mot) (m : Mot) (hn : xs.length ≤ 1048576) : laws_hasMotion9 xs m = some (decide (m ∈ xs)) := by
  have key := loop_find (L := fun k => laws_hasMotion9_l0 xs k m.1.1 m.1.2.1 m.1.2.2.1 m.1.2.2.2 m.2.1 m.2.2) xs (fun y => decide (y = m)) (.inl ()) (fun _ => .inr true) (fun k hk => by
    show laws_hasMotion9_l0 xs (k : Int) m.1.1 m.1.2.1 m.1.2.2.1 m.1.2.2.2 m.2.1 m.2.2 = _
    rw [laws_hasMotion9_l0_eq, decide_eq_true (by omega), rd_lt hk]
    simp only [cond_true, Option.bind_some, Option.bind_fun_some]
    rw [mot_beq, wnext hk (by omega)]
    cases decide (xs[k] = m) <;> rfl) (by
    show laws_hasMotion9_l0 xs (xs.length : Int) m.1.1 m.1.2.1 m.1.2.2.1 m.1.2.2.2 m.2.1 m.2.2 = _
    rw [laws_hasMotion9_l0_eq, decide_eq_false (by omega)]; rfl)
  have key' : laws_hasMotion9_l0 xs 0 m.1.1 m.1.2.1 m.1.2.2.1 m.1.2.2.2 m.2.1 m.2.2 = _ := key
  rw [laws_hasMotion9_eq, key']
  simp only [Option.bind_some]
  cases h : xs.find? (fun y => decide (y = m)) with
  | none =>
    rw [List.find?_eq_none] at h
    have : m ∉ xs := fun hm => h m hm (decide_eq_true rfl)
    rw [decide_eq_false this]
  | some y =>
    have h1 := List.find?_some (p := fun y => decide (y = m)) h
    have h2 := List.mem_of_find?_eq_some h
    simp only [decide_eq_true_eq] at h1
    rw [← h1, decide_eq_true h2]
theorem laws_likeMotions9_s (xs : List Mot) (hn : xs.length ≤ 1048576) : laws_likeMotions9 xs xs = some true := by
  have key := loop_all (L := fun k => laws_likeMotions9_l0 xs xs k) xs (fun _ => true) (.inl ()) (.inr false) (fun k hk => by
    show laws_likeMotions9_l0 xs xs (k : Int) = _
    rw [laws_likeMotions9_l0_eq, decide_eq_true (by omega), rd_lt hk]
    simp only [cond_true, Option.bind_some, decide_true, Bool.and_self, Bool.not_true, cond_false, Option.bind_fun_some, if_true]
    rw [wnext hk (by omega)]) (by
    show laws_likeMotions9_l0 xs xs (xs.length : Int) = _
    rw [laws_likeMotions9_l0_eq, decide_eq_false (by omega)]; rfl)
  have key' : laws_likeMotions9_l0 xs xs 0 = _ := key
  rw [laws_likeMotions9_eq, decide_eq_true rfl, key', List.all_eq_true.2 fun _ _ => rfl]
  rfl
end Go.Proofs.YtahlhacmikdimaaGreat
