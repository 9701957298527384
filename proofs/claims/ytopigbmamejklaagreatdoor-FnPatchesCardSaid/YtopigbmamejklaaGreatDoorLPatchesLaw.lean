/-
  A patch is found where it was cut, and from its text.
-/
import Derived.Test.YtopigbmamejklaaGreatDoorMPt5
import Derived.Test.YtopigbmamejklaaGreatDoorLPatchText
import Derived.Test.YtopigbmamejklaaGreatDoorLParsePatch
namespace Go.Proofs.YtopigbmamejklaaGreatDoor
open Ai
set_option linter.unusedSimpArgs false
set_option linter.unusedVariables false
theorem patP_3 : isPat (0, (1, 0, 1), [3]) = true := by decide
theorem cutC_len (p : Pat) (v : V) (w h : Int) : (cutC p v w h).length = (w * h).toNat := by unfold cutC; rw [List.length_map, List.length_range]
/-! ### What is drawn -/
theorem cutP_d {s : Src} (h : SrcOk s) {p : Pat} (hp : isPat p = true) {k : Int × Int × List Int → Src → Option ((Int × Int × List Int) × Src)} {P : (Int × Int × List Int) × Src → Prop} (hk : ∀ q s', SrcOk s' → s'.1 = s.1 → q.2.2.length ≤ 64 → 1 ≤ q.2.2.length → Ok1 (k q s') P) :
    Ok1 (Option.bind (spec_l01Next s 9) fun (y3 : Int × List Int × Int × Int) => (Option.bind (spec_l01Next y3.2 9) fun (y4 : Int × List Int × Int × Int) => (Option.bind (spec_l01Next y4.2 8) fun (y5 : Int × List Int × Int × Int) => (Option.bind (spec_l01Next y5.2 8) fun (y6 : Int × List Int × Int × Int) => (Option.bind (spec_l20Cut p (y3.1, y4.1) (IntKind.i64.wrap (1 + y5.1)) (IntKind.i64.wrap (1 + y6.1))) fun (y7 : Int × Int × List Int) => k y7 y6.2))))) P := by
  refine (next_d h 9 (by omega)).bind fun a ⟨ha, a1, a2⟩ => (next_d ha.1 9 (by omega)).bind fun b ⟨hb, b1, b2⟩ => (next_d hb.1 8 (by omega)).bind fun c ⟨hc, c1, c2⟩ => (next_d hc.1 8 (by omega)).bind fun d ⟨hd, d1, d2⟩ => ?_
  have := a2 (by omega)
  have := b2 (by omega)
  have := c2 (by omega)
  have := d2 (by omega)
  have hs := ha.trans (hb.trans (hc.trans hd))
  rw [w64 (x := 1 + c.1) (by omega) (by omega), w64 (x := 1 + d.1) (by omega) (by omega)]
  rw [spec_l20Cut_v p (a.1, b.1) (1 + c.1) (1 + d.1) hp ⟨by unfold Sm; simp only; omega, by simp only; omega, by simp only; omega⟩ (by omega) (by omega)]
  simp only [Option.bind_some]
  have hm := mul_lim (a := 1 + c.1) (b := 1 + d.1) (m := 8) (n := 8) (by omega) (by omega) (by omega) (by omega)
  have hm2 : 1 * 1 ≤ (1 + c.1) * (1 + d.1) := Int.mul_le_mul (by omega) (by omega) (by omega) (by omega)
  have hlen := cutC_len p (a.1, b.1) (1 + c.1) (1 + d.1)
  exact hk _ _ hs.1 hs.2 (by show (cutC p (a.1, b.1) (1 + c.1) (1 + d.1)).length ≤ 64; omega) (by show 1 ≤ (cutC p (a.1, b.1) (1 + c.1) (1 + d.1)).length; omega)
theorem patchP_d {s : Src} (h : SrcOk s) : Ok1 (spec_l20Draw s) fun y => y.1.2.2.length ≤ 64 ∧ Sk s y.2 := by
  rw [spec_l20Draw_eq]
  refine (pattern_d h).bind fun a ⟨ha, a1⟩ => ?_
  rw [spec_IsPattern_v a.1 (leM (by omega))]
  simp only [Option.bind_some]
  have tail : ∀ (q : Int × Int × List Int) (t : Src), SrcOk t → t.1 = a.2.1 → q.2.2.length ≤ 64 → 1 ≤ q.2.2.length → Ok1 ((Option.bind (spec_l01Next t 24) fun (y8 : Int × List Int × Int × Int) => (cond (decide (y8.1 = 0)) (Option.bind (spec_l01Next y8.2 (List.length q.2.2 : Int)) fun (y9 : Int × List Int × Int × Int) => (Option.bind (spec_l01Pick y9.2 ([0, 1, (-1), 10])) fun (y10 : Int × List Int × Int × Int) => (cond (decide (0 ≤ y9.1) && decide (y9.1 < (List.length q.2.2 : Int))) (some ((q.1, q.2.1, (List.set q.2.2 (Int.toNat y9.1) y10.1)), y10.2)) none))) (cond (decide (y8.1 = 1)) (Option.bind (spec_l01Next y8.2 2) fun (y11 : Int × List Int × Int × Int) => (cond (decide (y11.1 = 0)) (Option.bind (spec_l01Pick y11.2 ([0, (IntKind.i64.wrap (q.1 + 1)), 17])) fun (y12 : Int × List Int × Int × Int) => (some ((y12.1, q.2), y12.2))) (some (q, y11.2)))) (some (q, y8.2)))))) fun y => y.1.2.2.length ≤ 64 ∧ Sk s y.2 := by
    intro q t ht hts h1 h2
    have hst : Sk s t := ha.trans ⟨ht, hts⟩
    refine (next_d ht 24 (by omega)).bind fun b ⟨hb, _⟩ => Ok1.cond (fun _ => ?_) fun _ => Ok1.cond (fun _ => ?_) fun _ => Ok1.some ⟨h1, hst.trans hb⟩
    · refine (next_d hb.1 _ (by omega)).bind fun c ⟨hc, c1, c2⟩ => (pick_d hc.1 _ (by decide) (by decide)).bind fun d ⟨hd, _⟩ => Ok1.chk ?_ (Ok1.some ⟨by simp only [List.length_set]; exact h1, hst.trans (hb.trans (hc.trans hd))⟩)
      rw [decide_eq_true c1, decide_eq_true (c2 (by omega))]; rfl
    · refine (next_d hb.1 2 (by omega)).bind fun c ⟨hc, _⟩ => Ok1.cond (fun _ => ?_) fun _ => Ok1.some ⟨h1, hst.trans (hb.trans hc)⟩
      exact (pick_d hc.1 _ (by simp) (by simp)).bind fun d ⟨hd, _⟩ => Ok1.some ⟨h1, hst.trans (hb.trans (hc.trans hd))⟩
  refine Ok1.cond (fun hp => ?_) fun _ => ?_
  · exact cutP_d ha.1 hp fun q t ht hts h1 h2 => tail q t ht hts h1 h2
  · exact cutP_d ha.1 patP_3 fun q t ht hts h1 h2 => tail q t ht hts h1 h2
theorem drawCut_d {x : List Int} (hb : ∀ c ∈ x, 0 ≤ c ∧ c ≤ 255) (hn : x.length ≤ 4096) : Ok1 (spec_DrawCutPatch x) fun y => y.1.2.2.length ≤ 65 := by
  rw [spec_DrawCutPatch_eq]
  refine (from_d hb hn).bind fun s hs => (pattern_d hs).bind fun a ⟨ha, a1⟩ => (next_d ha.1 16 (by omega)).bind fun b ⟨hb, _⟩ => Ok1.cond (fun _ => ?_) fun _ => ?_
  · exact (draw_d hb.1).bind fun c hc => (pick_d hc.1 _ (by decide) (by decide)).bind fun d ⟨hd, _⟩ => (pick_d hd.1 _ (by decide) (by decide)).bind fun e _ => Ok1.some a1
  · exact (draw_d hb.1).bind fun c hc => (next_d hc.1 9 (by omega)).bind fun d ⟨hd, _⟩ => (next_d hd.1 9 (by omega)).bind fun e _ => Ok1.some a1
theorem drawFind_d {x : List Int} (hb : ∀ c ∈ x, 0 ≤ c ∧ c ≤ 255) (hn : x.length ≤ 4096) : Ok1 (spec_DrawFindPatch x) fun y => y.1.2.2.length ≤ 65 ∧ y.2.2.2.length ≤ 64 := by
  rw [spec_DrawFindPatch_eq]
  refine (from_d hb hn).bind fun s hs => (pattern_d hs).bind fun a ⟨ha, a1⟩ => ?_
  rw [spec_IsPattern_v a.1 (leM (by omega))]
  simp only [Option.bind_some]
  refine Ok1.cond (fun hp => ?_) fun _ => (patchP_d ha.1).bind fun b ⟨b1, _⟩ => Ok1.some ⟨a1, b1⟩
  refine (next_d ha.1 4 (by omega)).bind fun b ⟨hb, _⟩ => Ok1.cond (fun _ => (patchP_d hb.1).bind fun c ⟨c1, _⟩ => Ok1.some ⟨a1, c1⟩) fun _ => ?_
  refine (next_d hb.1 20 (by omega)).bind fun c ⟨hc, c1, c2⟩ => (next_d hc.1 20 (by omega)).bind fun d ⟨hd, d1, d2⟩ => (next_d hd.1 5 (by omega)).bind fun e ⟨he, e1, e2⟩ => (next_d he.1 5 (by omega)).bind fun f ⟨hf, f1, f2⟩ => ?_
  have := c2 (by omega)
  have := d2 (by omega)
  have := e2 (by omega)
  have := f2 (by omega)
  rw [w64 (x := c.1 - 9) (by omega) (by omega), w64 (x := d.1 - 9) (by omega) (by omega), w64 (x := 1 + e.1) (by omega) (by omega), w64 (x := 1 + f.1) (by omega) (by omega)]
  rw [spec_l20Cut_v a.1 (c.1 - 9, d.1 - 9) (1 + e.1) (1 + f.1) hp ⟨by unfold Sm; simp only; omega, by simp only; omega, by simp only; omega⟩ (by omega) (by omega)]
  have hm := mul_lim (a := 1 + e.1) (b := 1 + f.1) (m := 8) (n := 8) (by omega) (by omega) (by omega) (by omega)
  have hlen := cutC_len a.1 (c.1 - 9, d.1 - 9) (1 + e.1) (1 + f.1)
  exact Ok1.some ⟨a1, by show (cutC a.1 (c.1 - 9, d.1 - 9) (1 + e.1) (1 + f.1)).length ≤ 64; omega⟩
theorem drawText_d {x : List Int} (hb : ∀ c ∈ x, 0 ≤ c ∧ c ≤ 255) (hn : x.length ≤ 4096) : Ok1 (spec_DrawPatchText x) fun y => y.2.2.length ≤ 64 := by
  rw [spec_DrawPatchText_eq]
  exact (from_d hb hn).bind fun s hs => (patchP_d hs).bind fun y ⟨h, _⟩ => Ok1.some h
theorem rowsT_len {w : Nat} : ∀ (R : List (List Int)), (∀ r ∈ R, r.length = w) → ((R.map fun r => r.map bz).flatMap fun r => r ++ [10]).length = R.length * (w + 1)
  | [], _ => by simp
  | r :: R, h => by
    have ih := rowsT_len R fun q hq => h q (List.mem_cons_of_mem _ hq)
    have hr := h r (List.mem_cons_self ..)
    rw [List.map_cons, List.flatMap_cons, List.length_append, ih, List.length_append, List.length_map, hr, List.length_singleton, show (r :: R).length = R.length + 1 from rfl, Nat.add_mul R.length 1]
    omega
theorem flat_lenT {w : Nat} : ∀ (R : List (List Int)), (∀ r ∈ R, r.length = w) → R.flatten.length = R.length * w
  | [], _ => by simp
  | r :: R, h => by
    have ih := flat_lenT R fun q hq => h q (List.mem_cons_of_mem _ hq)
    have hr := h r (List.mem_cons_self ..)
    rw [List.flatten_cons, List.length_append, ih, hr, List.length_cons, Nat.add_mul]
    omega
theorem text_parse {p : Patch} (hp : isPatch p = true) : ∃ t, spec_l20Text p = some t ∧ t.length ≤ 272 ∧ impl_ParsePatch t = some (p, 0) := by
  obtain ⟨R, r1, r2, r3, r4⟩ := text_v hp
  obtain ⟨⟨w1, w2⟩, ⟨h1, h2⟩, hl, h9⟩ := isPatch_iff.1 hp
  obtain ⟨w, hw⟩ : ∃ w : Nat, p.1 = w := ⟨p.1.toNat, by omega⟩
  obtain ⟨H, hH⟩ : ∃ H : Nat, p.2.1 = H := ⟨p.2.1.toNat, by omega⟩
  have hrw : ∀ r ∈ R, r.length = w := fun r hr => by have := r3 r hr; omega
  have hfl := flat_lenT R hrw
  rw [r4] at hfl
  have hlN : R.length * w = w * H := by rw [← hfl]; rw [hw, hH] at hl; exact_mod_cast hl
  have hRH : R.length = H := by
    rw [Nat.mul_comm] at hlN
    exact Nat.eq_of_mul_eq_mul_left (by omega) hlN
  refine ⟨_, r1, ?_, ?_⟩
  · rw [rowsT_len R hrw, hRH]
    have : H * (w + 1) ≤ 16 * 17 := Nat.mul_le_mul (by omega) (by omega)
    omega
  · have hlen : ((R.map fun r => r.map bz).flatMap fun r => r ++ [10]).length ≤ 1048576 := by
      rw [rowsT_len R hrw, hRH]
      have : H * (w + 1) ≤ 16 * 17 := Nat.mul_le_mul (by omega) (by omega)
      omega
    obtain ⟨r, hs, hi, _⟩ := ParsePatch_agree _ hlen
    have hdig : ∀ r ∈ R.map fun r => r.map bz, r.all isDig = true := fun r hr => by
      obtain ⟨q, hq, rfl⟩ := List.mem_map.1 hr
      refine List.all_eq_true.2 fun b hb => ?_
      obtain ⟨c, hc, rfl⟩ := List.mem_map.1 hb
      have hm : c ∈ p.2.2 := by rw [← r4]; exact List.mem_flatten.2 ⟨q, hq, hc⟩
      exact (dz_bz (h9 c hm).1 (h9 c hm).2).2
    have hsp := sp_lines 10 (R.map fun r => r.map bz) (no_line hdig)
    have hS := spec_parse_v _ hlen (R.map fun r => r.map bz) [] hsp
    have hpat : patS (R.map fun r => r.map bz) = p := by
      unfold patS
      have e1 : lastW 0 (R.map fun r => r.map bz) = p.1 := by
        rw [lastW_all w _ 0 (fun e => r2 (List.map_eq_nil_iff.1 e)) (fun r hr => by
          obtain ⟨q, hq, rfl⟩ := List.mem_map.1 hr
          rw [List.length_map]; exact hrw q hq), hw]
      have e2 : (((R.map fun r => r.map bz).length : Nat) : Int) = p.2.1 := by rw [List.length_map, hRH, hH]
      have e3 : (R.map fun r => r.map bz).flatten.map dz = p.2.2 := by
        rw [← List.map_flatten, r4, List.map_map]
        conv => rhs; rw [← List.map_id p.2.2]
        exact List.map_congr_left fun c hc => (dz_bz (h9 c hc).1 (h9 c hc).2).1
      rw [e1, e2, e3]
    rw [hpat, if_pos hp, r1] at hS
    simp only [Option.bind_some, if_true] at hS
    rw [hi, ← hs, hS]
noncomputable def textR (p : Patch) : List UInt8 × Int := if isPatch p = true then ((spec_l20Text p).getD [], 0) else ([], 1)
theorem textR_v (p : Patch) (h : p.2.2.length ≤ MAXN) : spec_PatchText p = some (textR p) ∧ impl_PatchText p = some (textR p) := by
  rw [impl_PatchText_v p h, spec_PatchText_eq, spec_IsPatch_v p h]
  unfold textR
  simp only [Option.bind_some]
  cases hp : isPatch p with
  | false => exact ⟨rfl, rfl⟩
  | true =>
    obtain ⟨t, ht, _⟩ := text_parse hp
    rw [ht]
    exact ⟨rfl, rfl⟩
theorem textR_len (p : Patch) : (textR p).1.length ≤ 272 := by
  unfold textR
  split
  · rename_i hp
    obtain ⟨t, ht, hl, _⟩ := text_parse hp
    rw [ht]; exact hl
  · simp
theorem cut_le (i j : Nat) (x : List UInt8) : (cut i j x).length ≤ x.length := by
  unfold cut
  simp only [List.length_drop, List.length_take]
  omega
theorem pieces_len (i : Nat) : (List.getD ([([48] : List UInt8), ([49] : List UInt8), ([32] : List UInt8), ([45] : List UInt8), ([44] : List UInt8), ([59] : List UInt8), ([10] : List UInt8), ([97] : List UInt8)]) i (dflt .str)).length ≤ 1 := by
  have h : ∀ e ∈ [([48] : List UInt8), ([49] : List UInt8), ([32] : List UInt8), ([45] : List UInt8), ([44] : List UInt8), ([59] : List UInt8), ([10] : List UInt8), ([97] : List UInt8)], e.length ≤ 1 := by decide
  rw [List.getD_eq_getElem?_getD]
  cases hx : [([48] : List UInt8), ([49] : List UInt8), ([32] : List UInt8), ([45] : List UInt8), ([44] : List UInt8), ([59] : List UInt8), ([10] : List UInt8), ([97] : List UInt8)][i]? with
  | none => exact Nat.zero_le _
  | some e => exact h e (List.mem_of_getElem? hx)
theorem damage_d {s : Src} (h : SrcOk s) (x : List UInt8) (hn : x.length ≤ 5000) : Ok1 (spec_l01Damage s x) fun y => y.1.length ≤ 20000 := by
  rw [spec_l01Damage_eq, w64 (x := (x.length : Int) + 1) (by omega) (by omega)]
  refine (next_d h _ (by omega)).bind fun a ⟨ha, a1, a2⟩ => (next_d ha.1 8 (by omega)).bind fun b ⟨hb, b1, b2⟩ => ?_
  have a3 := a2 (by omega)
  have ec : (decide (0 ≤ a.1) && decide (a.1 ≤ (x.length : Int))) = true := by rw [decide_eq_true a1, decide_eq_true (by omega)]; rfl
  have c1 := cut_le 0 a.1.toNat x
  have c2 := cut_le a.1.toNat x.length x
  refine Ok1.cond (fun _ => Ok1.chk ec (Ok1.some ?_)) fun _ => Ok1.cond (fun _ => Ok1.chk ec ?_) fun _ => Ok1.cond (fun _ => Ok1.cond (fun h0 => Ok1.chk ec ?_) fun _ => Ok1.some ?_) fun _ => Ok1.some ?_
  · show (cut 0 a.1.toNat x).length ≤ 20000; omega
  · refine (next_d hb.1 8 (by omega)).bind fun c ⟨hc, k1, k2⟩ => ?_
    have hp := pieces_len c.1.toNat
    have k3 := k2 (by omega)
    refine Ok1.chk ?_ (Ok1.chk (decide_eq_true (by omega)) (Ok1.chk ec (Ok1.chk (decide_eq_true (by rw [List.length_append]; omega)) (Ok1.some ?_))))
    · rw [decide_eq_true k1, decide_eq_true (show c.1 < ((List.length ([([48] : List UInt8), ([49] : List UInt8), ([32] : List UInt8), ([45] : List UInt8), ([44] : List UInt8), ([59] : List UInt8), ([10] : List UInt8), ([97] : List UInt8)]) : Nat) : Int) from k3)]; rfl
    · simp only [List.length_append]; omega
  · have h0 := of_decide_eq_true h0
    have c3 := cut_le (a.1 + 1).toNat x.length x
    rw [w64 (x := a.1 + 1) (by omega) (by omega)]
    refine Ok1.chk ?_ (Ok1.chk (decide_eq_true (by omega)) (Ok1.some ?_))
    · rw [decide_eq_true (show 0 ≤ a.1 + 1 by omega), decide_eq_true (show a.1 + 1 ≤ (x.length : Int) by omega)]; rfl
    · simp only [List.length_append]; omega
  · show x.length ≤ 20000; omega
  · show x.length ≤ 20000; omega
theorem drawParse_d {x : List Int} (hb : ∀ c ∈ x, 0 ≤ c ∧ c ≤ 255) (hn : x.length ≤ 4096) : Ok1 (spec_DrawParsePatch x) fun y => y.length ≤ 20000 := by
  rw [spec_DrawParsePatch_eq]
  refine (from_d hb hn).bind fun s hs => (patchP_d hs).bind fun a ⟨a1, ha⟩ => ?_
  rw [(textR_v a.1 (leM (by omega))).1]
  simp only [Option.bind_some]
  have hl := textR_len a.1
  refine (next_d ha.1 3 (by omega)).bind fun b ⟨hb, _⟩ => Ok1.cond (fun _ => ?_) fun _ => Ok1.some (by omega)
  exact (damage_d hb.1 _ (by omega)).bind fun c hc => Ok1.some hc
theorem likeP_patch (p : Patch) (hn : p.2.2.length ≤ 1048576) : laws_likePatches9 p p = some true := by
  rw [laws_likePatches9_eq, laws_likeInts_v p.2.2 p.2.2 (leM hn)]
  simp
/-! ### Found where it was cut -/
theorem cutC_red {p : Pat} (hp : isPat p = true) (v : V) (w h : Int) : cutC p (red p.2.1 v) w h = cutC p v w h := by
  have hl := (isPat_iff.1 hp).2.1
  have hper : Per p (vsub v (red p.2.1 v)) := per_lat hp (vsub_red hl v)
  unfold cutC
  refine List.map_congr_left fun i _ => ?_
  rw [← hper]
  congr 1
  unfold vadd vsub
  ext
  · simp only; omega
  · simp only; omega
theorem cut_found {p : Pat} {v : V} {w h : Int} (h0 : (cutR p v w h).2 = 0) : (findR p (cutR p v w h).1).2 = 0 := by
  unfold cutR at h0 ⊢
  by_cases hp : isPat p = true
  · rw [if_pos hp] at h0 ⊢
    by_cases hc : (isVec v && (within w 1 16 && within h 1 16)) = true
    · rw [if_pos hc]
      simp only [Bool.and_eq_true] at hc
      have hw := within_iff.1 hc.2.1
      have hh := within_iff.1 hc.2.2
      have hwh := wh_lim hw hh
      have hlen := cutC_len p v w h
      obtain ⟨_, hl, hpl, h9⟩ := isPat_iff.1 hp
      have hq : isPatch (w, h, cutC p v w h) = true := by
        rw [isPatch_iff]
        refine ⟨hw, hh, by simp only; omega, fun c hcm => ?_⟩
        obtain ⟨i, _, rfl⟩ := List.mem_map.1 hcm
        have hr := patAt_rd hp (vadd v (place w i))
        have hm : patAt p (vadd v (place w i)) ∈ p.2.2 := by
          unfold rd at hr
          rw [decide_eq_true (by omega), cond_true] at hr
          exact List.mem_of_getElem? hr
        exact within_iff.1 (List.all_eq_true.1 h9 _ hm)
      unfold findR
      rw [if_pos (by rw [hp, hq]; rfl)]
      cases hf : (cells p.2.1).findIdx? (fun u => decide (cutC p u w h = cutC p v w h)) with
      | some i => rfl
      | none =>
        exfalso
        have hall := List.findIdx?_eq_none_iff.1 hf
        have hmem : red p.2.1 v ∈ cells p.2.1 := red_mem hl v
        have := hall _ hmem
        rw [decide_eq_true (cutC_red hp v w h)] at this
        cases this
    · rw [if_neg hc] at h0; cases h0
  · rw [if_neg hp] at h0; cases h0
/-! ### The law -/
theorem FnPatches_true (x : List Int) (h : wfE (.list (.i .u8)) x) : laws_FnPatches x = some true := by
  rw [laws_FnPatches_eq, laws_big_eq]
  by_cases hb : 4096 < (x.length : Int)
  · rw [decide_eq_true hb]; rfl
  · rw [decide_eq_false hb]
    obtain ⟨a, e1, ha⟩ := drawCut_d (code_bytes h) (by omega)
    obtain ⟨p1, v1, w1, h1⟩ := a
    obtain ⟨b, e2, hb1, hb2⟩ := drawFind_d (code_bytes h) (by omega)
    obtain ⟨p2, q2⟩ := b
    obtain ⟨q3, e3, h3⟩ := drawText_d (code_bytes h) (by omega)
    obtain ⟨s4, e4, h4⟩ := drawParse_d (code_bytes h) (by omega)
    simp only at ha hb1 hb2
    obtain ⟨c1, c2⟩ := cut_v p1 v1 w1 h1 (by omega)
    obtain ⟨f1, f2⟩ := find_v p2 q2 (by omega) (by omega)
    obtain ⟨t1, t2⟩ := textR_v q3 (leM (by omega))
    obtain ⟨r4, k1, k2, k3⟩ := ParsePatch_agree s4 (by omega)
    have hcl := cutR_len p1 v1 w1 h1
    have lc := likeP_patch (cutR p1 v1 w1 h1).1 (by omega)
    have lr := likeP_patch r4.1 k3
    have l2 := likeP_patch q2 (by omega)
    have l3 := likeP_patch q3 (by omega)
    have hI := impl_IsPatch_v q3 (leM (by omega))
    have hB : (findR p2 q2).2 = 0 → impl_CutPatch p2 (findR p2 q2).1 q2.1 q2.2.1 = some (q2, 0) := fun h0 => by
      rw [(cut_v p2 _ q2.1 q2.2.1 (by omega)).2, found_cut h0]
    have hA : (cutR p1 v1 w1 h1).2 = 0 → ∃ u, impl_FindPatch p1 (cutR p1 v1 w1 h1).1 = some (u, 0) := fun h0 => by
      refine ⟨(findR p1 (cutR p1 v1 w1 h1).1).1, ?_⟩
      rw [(find_v p1 _ (by omega) (by omega)).2]
      have := cut_found h0
      congr 1
      exact Prod.ext rfl this
    have hC : isPatch q3 = true → impl_ParsePatch (textR q3).1 = some (q3, 0) ∧ (textR q3).2 = 0 := fun hp => by
      obtain ⟨t, ht, _, hpp⟩ := text_parse hp
      unfold textR
      rw [if_pos hp, ht]
      exact ⟨hpp, rfl⟩
    have hC' : isPatch q3 = false → (textR q3).2 = 1 := fun hp => by
      unfold textR
      rw [hp]; rfl
    simp only [cond_false, Option.bind_some, cond_true, e1, e2, e3, e4, c1, c2, f1, f2, t1, t2, k1, k2, lc, lr, l2, l3, hI, decide_true, Bool.not_true, Bool.and_true]
    cases hp : isPatch q3 with
    | true =>
      obtain ⟨d1, d2⟩ := hC hp
      by_cases hf : (findR p2 q2).2 = 0
      · by_cases hc : (cutR p1 v1 w1 h1).2 = 0
        · obtain ⟨u, hu⟩ := hA hc
          simp [hf, hc, hB hf, d1, d2, hu, l2, l3]
        · simp [hf, hc, hB hf, d1, d2, l2, l3]
      · by_cases hc : (cutR p1 v1 w1 h1).2 = 0
        · obtain ⟨u, hu⟩ := hA hc
          simp [hf, hc, d1, d2, hu, l2, l3]
        · simp [hf, hc, d1, d2, l2, l3]
    | false =>
      have d2 := hC' hp
      by_cases hf : (findR p2 q2).2 = 0
      · by_cases hc : (cutR p1 v1 w1 h1).2 = 0
        · obtain ⟨u, hu⟩ := hA hc
          simp [hf, hc, hB hf, d2, hu, l2, l3]
        · simp [hf, hc, hB hf, d2, l2, l3]
      · by_cases hc : (cutR p1 v1 w1 h1).2 = 0
        · obtain ⟨u, hu⟩ := hA hc
          simp [hf, hc, d2, hu, l2, l3]
        · simp [hf, hc, d2, l2, l3]
end Go.Proofs.YtopigbmamejklaaGreatDoor
