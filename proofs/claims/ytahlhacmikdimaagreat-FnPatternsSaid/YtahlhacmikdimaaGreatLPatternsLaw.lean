/-
  Lean patterns are equal exactly if patterns are the same, and the full lattice keeps a pattern.
-/
import Derived.Test.YtahlhacmikdimaaGreatPW
import Derived.Test.YtahlhacmikdimaaGreatP33
namespace Go.Proofs.YtahlhacmikdimaaGreat
open Ai
set_option linter.unusedSimpArgs false
set_option linter.unusedVariables false

theorem drawSame_d {x : List Int} (hb : ∀ c ∈ x, 0 ≤ c ∧ c ≤ 255) (hn : x.length ≤ 4096) : Ok1 (spec_DrawArePatternsSame x) fun y => y.1.2.2.length ≤ 65 ∧ y.2.2.2.length ≤ 65 := by
  rw [spec_DrawArePatternsSame_eq]
  refine (from_d hb hn).bind fun s hs => (pattern_d hs).bind fun a ⟨ha, a1⟩ => ?_
  rw [spec_IsPattern_v a.1 (leM (by omega))]
  simp only [Option.bind_some]
  refine Ok1.cond (fun hp => ?_) fun _ => (pattern_d ha.1).bind fun b ⟨hb, b1⟩ => Ok1.some ⟨a1, b1⟩
  refine (next_d ha.1 4 (by omega)).bind fun b ⟨hb, _⟩ => Ok1.cond (fun _ => (pattern_d hb.1).bind fun c ⟨hc, c1⟩ => Ok1.some ⟨a1, c1⟩) fun _ => ?_
  rw [spec_l09Lean_v a.1 hp]
  simp only [Option.bind_some]
  have hq := isPat_lean hp
  have hql := pat_len hq
  obtain ⟨w, m1, m2⟩ := mul64 (isPat_iff.1 hq).2.1
  have hqn := (isPat_iff.1 hq).2.2.1
  generalize onLat a.1 (fullOf a.1) = q at hq hql w m1 m2 hqn
  refine (next_d hb.1 3 (by omega)).bind fun c ⟨hc, _⟩ => Ok1.cond (fun _ => ?_) fun _ => Ok1.some ⟨a1, by show q.2.2.length ≤ 65; omega⟩
  refine (next_d hc.1 _ (by omega)).bind fun d ⟨hd, d1, d2⟩ => ?_
  have hd2 := d2 (by omega)
  rw [decide_eq_true d1, decide_eq_true hd2, show decide (3 = 0) = false from rfl]
  simp only [Bool.and_self, cond_true, cond_false]
  exact Ok1.some ⟨a1, by simp only [List.length_set]; omega⟩

theorem drawAt_d {x : List Int} (hb : ∀ c ∈ x, 0 ≤ c ∧ c ≤ 255) (hn : x.length ≤ 4096) : Ok1 (spec_DrawColourAt x) fun y => y.1.2.2.length ≤ 65 := by
  rw [spec_DrawColourAt_eq]
  exact (from_d hb hn).bind fun s hs => (pattern_d hs).bind fun a ⟨ha, a1⟩ => (draw_d ha.1).bind fun b hb => Ok1.some a1

/-! ### Colours counted -/

def cntG : List Int → List Int → List Int
  | [], x => x
  | c :: r, x => cntG r (x.set c.toNat (x.getD c.toNat 0 + 1))

structure CntOk (x : List Int) (k : Nat) : Prop where
  n : x.length = 10
  e : ∀ e ∈ x, 0 ≤ e ∧ e ≤ (k : Int)

theorem CntOk.get {x : List Int} {k : Nat} (h : CntOk x k) {c : Int} (hc : 0 ≤ c ∧ c ≤ 9) : 0 ≤ x.getD c.toNat 0 ∧ x.getD c.toNat 0 ≤ (k : Int) := by
  have hlt : c.toNat < x.length := by have := h.n; omega
  rw [List.getD_eq_getElem?_getD, List.getElem?_eq_getElem hlt]
  exact h.e _ (List.getElem_mem hlt)

theorem CntOk.step {x : List Int} {k : Nat} (h : CntOk x k) {c : Int} (hc : 0 ≤ c ∧ c ≤ 9) : CntOk (x.set c.toNat (x.getD c.toNat 0 + 1)) (k + 1) := by
  refine ⟨by rw [List.length_set]; exact h.n, fun e he => ?_⟩
  rcases List.mem_or_eq_of_mem_set he with h1 | h1
  · have := h.e e h1; omega
  · have := h.get hc; omega

theorem cnt_ok : ∀ (r x : List Int) (k : Nat), CntOk x k → (∀ c ∈ r, 0 ≤ c ∧ c ≤ 9) → CntOk (cntG r x) (k + r.length)
  | [], x, k, h, _ => h
  | c :: r, x, k, h, hr => by
    have := cnt_ok r _ (k + 1) (h.step (hr c (List.mem_cons_self ..))) fun d hd => hr d (List.mem_cons_of_mem _ hd)
    rw [List.length_cons, show k + (r.length + 1) = k + 1 + r.length by omega]
    exact this

theorem sum_set : ∀ (x : List Int) (i : Nat), i < x.length → (x.set i (x.getD i 0 + 1)).sum = x.sum + 1
  | [], i, h => by simp at h
  | a :: r, 0, h => by simp; omega
  | a :: r, i + 1, h => by
    have := sum_set r i (by simpa using h)
    simp only [List.set_cons_succ, List.sum_cons, List.getD_cons_succ]
    rw [this]; omega

theorem cnt_sum : ∀ (r x : List Int), x.length = 10 → (∀ c ∈ r, 0 ≤ c ∧ c ≤ 9) → (cntG r x).sum = x.sum + (r.length : Int)
  | [], x, _, _ => by simp [cntG]
  | c :: r, x, h, hr => by
    have hc := hr c (List.mem_cons_self ..)
    have := cnt_sum r (x.set c.toNat (x.getD c.toNat 0 + 1)) (by rw [List.length_set]; exact h) fun d hd => hr d (List.mem_cons_of_mem _ hd)
    show (cntG r _).sum = _
    rw [this, sum_set _ _ (by omega), List.length_cons]
    omega

theorem impl_count_loop (cs : List Int) (hn : cs.length ≤ 64) (hc : ∀ c ∈ cs, 0 ≤ c ∧ c ≤ 9) : ∀ (r : List Int) (i : Nat) (x : List Int), cs.drop i = r → i ≤ cs.length → CntOk x i → impl_CountColours_l0 x cs (cs.length : Int) (i : Int) = some (cntG r x)
  | [], i, x, hr, hi, h => by
    have : cs.length ≤ i := by rw [← List.drop_eq_nil_iff]; exact hr
    rw [impl_CountColours_l0_eq, decide_eq_false (by omega)]
    rfl
  | c :: r, i, x, hr, hi, h => by
    have hlt : i < cs.length := by
      rcases Nat.lt_or_ge i cs.length with h | h
      · exact h
      · rw [List.drop_eq_nil_of_le h] at hr; cases hr
    rw [List.drop_eq_getElem_cons hlt] at hr
    injection hr with h1 h2
    have hc1 := hc _ (List.getElem_mem hlt)
    have hg := h.get hc1
    rw [impl_CountColours_l0_eq, decide_eq_true (by omega), rd_lt hlt]
    simp only [cond_true, Option.bind_some]
    rw [decide_eq_true hc1.1, decide_eq_true (show cs[i] < (x.length : Int) by have := h.n; omega)]
    simp only [Bool.and_self, cond_true, Option.bind_fun_some]
    rw [show List.getD x (Int.toNat cs[i]) (dflt (.i .i64)) = x.getD cs[i].toNat 0 from rfl, w64 (x := x.getD cs[i].toNat 0 + 1) (by omega) (by omega), wnext hlt (by omega)]
    rw [impl_count_loop cs hn hc r (i + 1) _ h2 (by omega) (h.step hc1), ← h1]
    rfl

theorem spec_count_loop (cs : List Int) (hn : cs.length ≤ 64) (hc : ∀ c ∈ cs, 0 ≤ c ∧ c ≤ 9) (z2 z3 z4 z5 : Int) : ∀ (r : List Int) (i : Nat) (x : List Int), cs.drop i = r → i ≤ cs.length → CntOk x i → spec_CountColours_l0 x (i : Int) z2 z3 z4 z5 cs = some (cntG r x)
  | [], i, x, hr, hi, h => by
    have : cs.length ≤ i := by rw [← List.drop_eq_nil_iff]; exact hr
    rw [spec_CountColours_l0_eq, decide_eq_false (by omega)]
    rfl
  | c :: r, i, x, hr, hi, h => by
    have hlt : i < cs.length := by
      rcases Nat.lt_or_ge i cs.length with h | h
      · exact h
      · rw [List.drop_eq_nil_of_le h] at hr; cases hr
    rw [List.drop_eq_getElem_cons hlt] at hr
    injection hr with h1 h2
    have hc1 := hc _ (List.getElem_mem hlt)
    have hg := h.get hc1
    rw [spec_CountColours_l0_eq, decide_eq_true (by omega), rd_lt hlt]
    simp only [cond_true, Option.bind_some]
    rw [decide_eq_true hc1.1, decide_eq_true (show cs[i] < (x.length : Int) by have := h.n; omega)]
    simp only [Bool.and_self, cond_true, Option.bind_fun_some]
    rw [show List.getD x (Int.toNat cs[i]) (dflt (.i .i64)) = x.getD cs[i].toNat 0 from rfl, w64 (x := x.getD cs[i].toNat 0 + 1) (by omega) (by omega), wnext hlt (by omega)]
    rw [spec_count_loop cs hn hc z2 z3 z4 z5 r (i + 1) _ h2 (by omega) (h.step hc1), ← h1]
    rfl

theorem cnt0 : CntOk (List.replicate 10 0) 0 := ⟨by simp, fun e he => by rw [List.eq_of_mem_replicate he]; omega⟩

def countR (p : Pat) : List Int × Int := if isPat p = true then (cntG p.2.2 (List.replicate 10 0), 0) else ([], 1)

theorem count_v (p : Pat) (h : p.2.2.length ≤ 1048576) : impl_CountColours p = some (countR p) ∧ spec_CountColours p = some (countR p) := by
  unfold countR
  rw [impl_CountColours_eq, spec_CountColours_eq, impl_IsPattern_v p (leM h), spec_IsPattern_v p (leM h)]
  simp only [Option.bind_some]
  cases hp : isPat p
  · exact ⟨rfl, rfl⟩
  · have hn := pat_len hp
    have hc := pat_cols hp
    have e1 : impl_CountColours_l0 (List.replicate (Int.toNat 10) 0) p.2.2 (p.2.2.length : Int) 0 = _ := impl_count_loop p.2.2 hn hc p.2.2 0 (List.replicate 10 0) rfl (by omega) cnt0
    have e2 : spec_CountColours_l0 (List.replicate (Int.toNat 10) 0) 0 p.1 p.2.1.1 p.2.1.2.1 p.2.1.2.2 p.2.2 = _ := spec_count_loop p.2.2 hn hc _ _ _ _ p.2.2 0 (List.replicate 10 0) rfl (by omega) cnt0
    rw [e1, e2]
    exact ⟨rfl, rfl⟩

theorem countR_len (p : Pat) : (countR p).1.length ≤ 10 := by
  unfold countR
  split
  · rename_i hp
    have := (cnt_ok p.2.2 _ 0 cnt0 (pat_cols hp)).n
    simp only; omega
  · simp

theorem sum_loop (xs : List Int) (hn : xs.length ≤ 10) (hx : ∀ e ∈ xs, 0 ≤ e ∧ e ≤ 64) : ∀ (r : List Int) (i : Nat) (s : Int), xs.drop i = r → i ≤ xs.length → 0 ≤ s → s ≤ 64 * (i : Int) → laws_sum_l0 xs s (i : Int) = some (s + r.sum)
  | [], i, s, hr, hi, h0, h1 => by
    have : xs.length ≤ i := by rw [← List.drop_eq_nil_iff]; exact hr
    rw [laws_sum_l0_eq, decide_eq_false (by omega)]
    simp
  | c :: r, i, s, hr, hi, h0, h1 => by
    have hlt : i < xs.length := by
      rcases Nat.lt_or_ge i xs.length with h | h
      · exact h
      · rw [List.drop_eq_nil_of_le h] at hr; cases hr
    rw [List.drop_eq_getElem_cons hlt] at hr
    injection hr with h2 h3
    have hc := hx _ (List.getElem_mem hlt)
    rw [laws_sum_l0_eq, decide_eq_true (by omega), rd_lt hlt]
    simp only [cond_true, Option.bind_some, Option.bind_fun_some]
    rw [w64 (x := s + xs[i]) (by omega) (by omega), wnext hlt (by omega), sum_loop xs hn hx r (i + 1) _ h3 (by omega) (by omega) (by omega), List.sum_cons, ← h2]
    congr 1
    omega

theorem sum_v {p : Pat} (hp : isPat p = true) : laws_sum (cntG p.2.2 (List.replicate 10 0)) = some (p.2.1.1 * p.2.1.2.2) := by
  have hok := cnt_ok p.2.2 _ 0 cnt0 (pat_cols hp)
  have hn := pat_len hp
  have h3 := (isPat_iff.1 hp).2.2.1
  have hs := cnt_sum p.2.2 (List.replicate 10 0) (by simp) (pat_cols hp)
  rw [show (List.replicate 10 (0 : Int)).sum = 0 from by decide] at hs
  rw [laws_sum_eq, show laws_sum_l0 (cntG p.2.2 (List.replicate 10 0)) 0 0 = _ from sum_loop _ (by have := hok.n; omega) (fun e he => by have := hok.e e he; omega) _ 0 0 rfl (by omega) (by omega) (by omega)]
  simp only [Option.bind_some]
  rw [List.drop_zero, hs]
  congr 1
  omega

theorem lat_self (l : Lat) : (decide (l.1 = l.1) && (decide (l.2.1 = l.2.1) && (decide (l.2.2 = l.2.2) && true))) = true := by simp

theorem vec41 {a : Int} (h : 0 ≤ a ∧ a < 41) : -20 ≤ IntKind.i64.wrap (a - 20) ∧ IntKind.i64.wrap (a - 20) ≤ 20 := by
  rw [w64 (by omega) (by omega)]; omega

theorem isVec_of {v : V} (h1 : -100 ≤ v.1 ∧ v.1 ≤ 100) (h2 : -100 ≤ v.2 ∧ v.2 ≤ 100) : isVec v = true := by
  unfold isVec
  rw [Bool.and_eq_true, within_iff, within_iff]; omega

theorem FnPatterns_true (x : List Int) (h : wfE (.list (.i .u8)) x) : laws_FnPatterns x = some true := by
  rw [laws_FnPatterns_eq, laws_big_eq]
  by_cases hb : 4096 < (x.length : Int)
  · rw [decide_eq_true hb]; rfl
  · rw [decide_eq_false hb]
    obtain ⟨y, e1, hy, hz⟩ := drawSame_d (code_bytes h) (by omega)
    obtain ⟨p, q⟩ := y
    obtain ⟨z, e2, hu⟩ := drawAt_d (code_bytes h) (by omega)
    obtain ⟨u, v⟩ := z
    simp only at hy hz hu
    obtain ⟨a1, a2⟩ := same_v p q (by omega) (by omega)
    obtain ⟨b1, b2⟩ := lean_v p (by omega)
    obtain ⟨c1, c2⟩ := colourAt_v u v (by omega)
    obtain ⟨d1, d2⟩ := fullLattice_v p (by omega)
    obtain ⟨n1, n2⟩ := count_v p (by omega)
    have hcl := countR_len p
    have li : laws_likeInts (countR p).1 (countR p).1 = some true := by rw [laws_likeInts_v _ _ (leM (by omega)), decide_eq_true rfl]
    obtain ⟨g, e3, hg⟩ := roll_d (code_bytes h) (by omega) 901
    obtain ⟨⟨a, g1⟩, e4, hg1, ha1, ha2⟩ := below_d hg 41 (by omega) (by omega)
    obtain ⟨⟨b, g2⟩, e5, hg2, hb1, hb2⟩ := below_d hg1 41 (by omega) (by omega)
    simp only at ha1 ha2 hb1 hb2 e5
    have i1 := impl_IsPattern_v p (leM (by omega))
    have i2 := spec_IsPattern_v p (leM (by omega))
    simp only [cond_false, Option.bind_some, cond_true, e1, a1, a2, b1, b2, e2, c1, c2, d1, d2, n1, n2, li, e3, e4, e5, i1, i2, decide_true, Bool.not_true]
    cases hp : isPat p with
    | false =>
      have lz := likeP_self (p := zeroP) (by simp [zeroP])
      simp [lz, li]
    | true =>
      have hl := isPat_lean hp
      have hll := pat_len hl
      have ll := likeP_self (p := onLat p (fullOf p)) (by omega)
      have hv : isVec (IntKind.i64.wrap (a - 20), IntKind.i64.wrap (b - 20)) = true := by
        have := vec41 ⟨ha1, ha2⟩
        have := vec41 ⟨hb1, hb2⟩
        exact isVec_of (by simp only; omega) (by simp only; omega)
      generalize hV : ((IntKind.i64.wrap (a - 20), IntKind.i64.wrap (b - 20)) : V) = w at hv
      have k1 : impl_ColourAt p w = some (patAt p w, 0) := by rw [(colourAt_v p w (by omega)).1, hp, hv]; rfl
      have k2 : impl_ColourAt (onLat p (fullOf p)) w = some (patAt p w, 0) := by rw [(colourAt_v _ w (by omega)).1, hl, hv, patAt_lean hp]; rfl
      have k3 : impl_LeanPattern (onLat p (fullOf p)) = some (onLat p (fullOf p), 0) := by rw [(lean_v _ (by omega)).1, hl, if_pos rfl, lean_lean hp]
      have k4 : (onLat p (fullOf p)).2.1 = fullOf p := rfl
      have k5 : laws_sum (countR p).1 = some (p.2.1.1 * p.2.1.2.2) := by unfold countR; rw [if_pos hp]; exact sum_v hp
      have k6 := (mul64 (isPat_iff.1 hp).2.1).1
      cases hq : isPat q with
      | false => simp [ll, li, hV, k1, k2, k3, k4, k5, k6]
      | true =>
        have k7 : impl_LeanPattern q = some (onLat q (fullOf q), 0) := by rw [(lean_v _ (by omega)).1, hq, if_pos rfl]
        have k8 := laws_likePatterns9_v (onLat p (fullOf p)) (onLat q (fullOf q)) (leM (by omega))
        by_cases he : onLat p (fullOf p) = onLat q (fullOf q)
        · rw [decide_eq_true he] at k8 ⊢
          simp [ll, li, hV, k1, k2, k3, k4, k5, k6, k7, k8]
        · rw [decide_eq_false he] at k8 ⊢
          simp [ll, li, hV, k1, k2, k3, k4, k5, k6, k7, k8]

end Go.Proofs.YtahlhacmikdimaaGreat
