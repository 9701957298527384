/-
  A pattern that is read from a patch has the patch at 0,0, and all settled lattices fit.
-/
import Derived.Test.YtahlhacmikdimaaGreatPW
import Derived.Test.YtahlhacmikdimaaGreatPU
import Derived.Test.YtahlhacmikdimaaGreatP29
namespace Go.Proofs.YtahlhacmikdimaaGreat
open Ai
set_option linter.unusedSimpArgs false
set_option linter.unusedVariables false
theorem impl_Settled_1_v {p : Patch} (hp : isPatch p = true) {l : Lat} (hl : isLat l = true) : impl_SettledLattices_1 l p = some (!settlesB p l) := by
  rw [impl_SettledLattices_1_eq, impl_Patch_settles_v p l hp hl]
  simp only [Option.bind_some]
  cases settlesB p l <;> rfl
theorem impl_del_lats {p : Patch} (hp : isPatch p = true) (xs : List Lat) (hx : ∀ l ∈ xs, isLat l = true) (hn : xs.length ≤ 100000) : slices_DeleteFunc_SLattice_Lattice_o__impl_SettledLattices_1 xs p = some (xs.filter (settlesB p)) := by
  have hidx : slices_IndexFunc_SLattice_Lattice__impl_SettledLattices_1 xs p = some (match xs.findIdx? (fun x => !settlesB p x) with | none => -1 | some i => (i : Int)) := by
    rw [slices_IndexFunc_SLattice_Lattice__impl_SettledLattices_1_eq]
    have := find_loop (L := fun k => slices_IndexFunc_SLattice_Lattice__impl_SettledLattices_1_l0 xs p (xs.length : Int) k) (xs := xs) (p := fun x => !settlesB p x) (good := .inl ()) (bad := fun i => .inr (i : Int)) (by unfold MAXN; omega) (fun k hk => by
      show slices_IndexFunc_SLattice_Lattice__impl_SettledLattices_1_l0 xs _ _ k = _
      rw [slices_IndexFunc_SLattice_Lattice__impl_SettledLattices_1_l0_eq, decide_eq_true (by omega), rd_lt hk]
      simp only [cond_true, Option.bind_some, Option.bind_fun_some]
      rw [impl_Settled_1_v hp (hx _ (List.getElem_mem hk))]
      simp only [Option.bind_some]
      cases settlesB p xs[k] <;> rfl) (by
      show slices_IndexFunc_SLattice_Lattice__impl_SettledLattices_1_l0 xs _ _ _ = _
      rw [slices_IndexFunc_SLattice_Lattice__impl_SettledLattices_1_l0_eq, decide_eq_false (by omega)]; rfl)
    rw [this]
    cases xs.findIdx? (fun x => !settlesB p x) <;> rfl
  rw [slices_DeleteFunc_SLattice_Lattice_o__impl_SettledLattices_1_eq, hidx]
  cases hfi : xs.findIdx? (fun x => !settlesB p x) with
  | none =>
    simp only [Option.bind_some, decide_true, cond_true]
    congr 1
    symm
    rw [List.filter_eq_self]
    intro a ha
    rw [List.findIdx?_eq_none_iff] at hfi
    simpa using hfi a ha
  | some i =>
    obtain ⟨hi, ht⟩ := first_out xs (settlesB p) hfi
    simp only [Option.bind_some]
    rw [decide_eq_false (by omega), wN (by omega)]
    simp only [cond_false]
    obtain ⟨s', i', e1, e2, e3, e4⟩ := del_loop (L := fun s i j => slices_DeleteFunc_SLattice_Lattice_o__impl_SettledLattices_1_l0 s p i j) xs (settlesB p) (fun s i j hj hxj hsl hij he => by
      show slices_DeleteFunc_SLattice_Lattice_o__impl_SettledLattices_1_l0 s p (i : Int) (j : Int) = _
      have hq : impl_SettledLattices_1 (xs[j].1, xs[j].2) p = some (!settlesB p xs[j]) := impl_Settled_1_v hp (hx _ (List.getElem_mem hxj))
      rw [slices_DeleteFunc_SLattice_Lattice_o__impl_SettledLattices_1_l0_eq, inb hj, decide_eq_true (by omega), gd hj, he]
      simp only [cond_true, Option.bind_fun_some]
      rw [hq, wN (by omega), wN (by omega), decide_eq_true (by omega), decide_eq_true (by omega)]
      simp only [Option.bind_some, Bool.and_true, cond_true, Int.toNat_natCast]
      cases settlesB p xs[j] <;> rfl) (xs.length - (i + 1)) (i + 1) xs i (by omega) rfl (by omega) rfl ht.symm
    have e1' : slices_DeleteFunc_SLattice_Lattice_o__impl_SettledLattices_1_l0 xs p (i : Int) ((i + 1 : Nat) : Int) = slices_DeleteFunc_SLattice_Lattice_o__impl_SettledLattices_1_l0 s' p (i' : Int) (xs.length : Int) := e1
    rw [e1', slices_DeleteFunc_SLattice_Lattice_o__impl_SettledLattices_1_l0_eq, decide_eq_false (by omega)]
    simp only [cond_false, Option.bind_some, Int.toNat_natCast]
    have hol : (overL s' (List.replicate (s'.length - i') ((0, 0, 0) : Int × Int × Int)) i').length = s'.length := by
      unfold overL
      simp
      omega
    rw [decide_eq_true (show (0 : Int) ≤ (i' : Int) by omega), decide_eq_true (show (i' : Int) ≤ (s'.length : Int) by omega), decide_eq_true (by rw [hol]; omega)]
    simp only [Bool.and_true, cond_true]
    rw [cut_over _ _ _ (by omega), e4]
theorem spec_settled_row {p : Patch} (hp : isPatch p = true) (z : Int) (xs : List Lat) (hx : ∀ l ∈ xs, isLat l = true) (hn : xs.length ≤ 100000) :
    spec_SettledLattices_l1 z xs [] 0 p.1 p.2.1 p.2.2 = some (z, xs.filter (settlesB p), p.1, p.2.1, p.2.2) := by
  have key := loop_filter (L := fun s k => spec_SettledLattices_l1 z xs s k p.1 p.2.1 p.2.2) xs (settlesB p) [] (fun k hk s hs => by
    show spec_SettledLattices_l1 z xs s (k : Int) p.1 p.2.1 p.2.2 = _
    have hq : spec_l20Settles (p.1, p.2.1, p.2.2) (xs[k].1, xs[k].2) = some (settlesB p xs[k]) := spec_l20Settles_v p _ hp (hx _ (List.getElem_mem hk))
    rw [spec_SettledLattices_l1_eq, inb hk, decide_eq_true (by omega), gd hk, hq, wnext hk (by omega), decide_eq_true (by unfold LIM; simp only [List.length_nil, List.length_singleton] at hs ⊢; omega)]
    simp only [cond_true, Option.bind_some, Option.bind_fun_some]
    cases settlesB p xs[k] <;> rfl)
  rw [key]
  show spec_SettledLattices_l1 _ _ _ _ _ _ _ = _
  rw [spec_SettledLattices_l1_eq, decide_eq_false (by omega)]
  rfl
def setG (p : Patch) (j : Nat) : Option (List Lat) := if 0 < ((subL (j + 1)).filter (settlesB p)).length then some ((subL (j + 1)).filter (settlesB p)) else none
def resS : Option (List Lat) → Unit ⊕ ((List (Int × Int × Int)) × Int)
  | none => .inl ()
  | some l => .inr (l, 0)
theorem spec_settled {p : Patch} (hp : isPatch p = true) : spec_SettledLattices_l0 1 p.1 p.2.1 p.2.2 = some (resS ((List.range 64).findSome? (setG p))) := by
  have key := loop_some (L := fun k => spec_SettledLattices_l0 (k + 1) p.1 p.2.1 p.2.2) (List.range 64) (setG p) resS (fun k hk => by
    have hk' : k < 64 := by simpa using hk
    have hx := subL_lat (n := k + 1) (by omega) (by omega)
    have hl := subL_len (n := k + 1) (by omega)
    have e : spec_SettledLattices_l0 ((k : Int) + 1) p.1 p.2.1 p.2.2 = (cond (decide (0 < (((subL (k + 1)).filter (settlesB p)).length : Int))) (some (.inr ((subL (k + 1)).filter (settlesB p), 0))) (spec_SettledLattices_l0 (((k + 1 : Nat) : Int) + 1) p.1 p.2.1 p.2.2)) := by
      rw [show ((k : Int) + 1) = ((k + 1 : Nat) : Int) by omega, spec_SettledLattices_l0_eq, decide_eq_true (by omega), spec_SublatticesOf_v (k + 1) (by omega) (by omega)]
      simp only [cond_true, Option.bind_some, Option.bind_fun_some, spec_settled_row hp _ _ hx (by omega)]
      rw [w64 (by omega) (by omega)]
    rw [List.getElem_range]
    unfold setG
    constructor
    · intro h
      show spec_SettledLattices_l0 ((k : Int) + 1) p.1 p.2.1 p.2.2 = _
      rw [e]
      split at h
      · cases h
      · rw [decide_eq_false (by omega)]; rfl
    · intro r h
      show spec_SettledLattices_l0 ((k : Int) + 1) p.1 p.2.1 p.2.2 = _
      rw [e]
      split at h
      · cases h
        rw [decide_eq_true (by omega)]; rfl
      · cases h) (by
    show spec_SettledLattices_l0 (((List.range 64).length : Int) + 1) p.1 p.2.1 p.2.2 = _
    rw [List.length_range, spec_SettledLattices_l0_eq, decide_eq_false (by omega)]; rfl)
  exact key
theorem impl_settled {p : Patch} (hp : isPatch p = true) : impl_SettledLattices_l0 1 p.1 p.2.1 p.2.2 = some (resS ((List.range 64).findSome? (setG p))) := by
  have key := loop_some (L := fun k => impl_SettledLattices_l0 (k + 1) p.1 p.2.1 p.2.2) (List.range 64) (setG p) resS (fun k hk => by
    have hk' : k < 64 := by simpa using hk
    have hx := subL_lat (n := k + 1) (by omega) (by omega)
    have hl := subL_len (n := k + 1) (by omega)
    have hd : slices_DeleteFunc_SLattice_Lattice_o__impl_SettledLattices_1 (subL (k + 1)) (p.1, p.2.1, p.2.2) = some ((subL (k + 1)).filter (settlesB p)) := impl_del_lats hp _ hx (by omega)
    have e : impl_SettledLattices_l0 ((k : Int) + 1) p.1 p.2.1 p.2.2 = (cond (decide (0 < (((subL (k + 1)).filter (settlesB p)).length : Int))) (some (.inr ((subL (k + 1)).filter (settlesB p), 0))) (impl_SettledLattices_l0 (((k + 1 : Nat) : Int) + 1) p.1 p.2.1 p.2.2)) := by
      rw [show ((k : Int) + 1) = ((k + 1 : Nat) : Int) by omega, impl_SettledLattices_l0_eq, decide_eq_true (by omega), impl_sublattices_v (k + 1) (by omega) (by omega)]
      simp only [cond_true, Option.bind_some, Option.bind_fun_some, hd]
      rw [w64 (by omega) (by omega)]
    rw [List.getElem_range]
    unfold setG
    constructor
    · intro h
      show impl_SettledLattices_l0 ((k : Int) + 1) p.1 p.2.1 p.2.2 = _
      rw [e]
      split at h
      · cases h
      · rw [decide_eq_false (by omega)]; rfl
    · intro r h
      show impl_SettledLattices_l0 ((k : Int) + 1) p.1 p.2.1 p.2.2 = _
      rw [e]
      split at h
      · cases h
        rw [decide_eq_true (by omega)]; rfl
      · cases h) (by
    show impl_SettledLattices_l0 (((List.range 64).length : Int) + 1) p.1 p.2.1 p.2.2 = _
    rw [List.length_range, impl_SettledLattices_l0_eq, decide_eq_false (by omega)]; rfl)
  exact key
theorem setG_len {p : Patch} {l : List Lat} (h : (List.range 64).findSome? (setG p) = some l) : l.length ≤ 1048576 := by
  obtain ⟨j, hj, he⟩ := List.exists_of_findSome?_eq_some h
  rw [List.mem_range] at hj
  have hl := subL_len (n := j + 1) (by omega)
  have h2 := List.length_filter_le (settlesB p) (subL (j + 1))
  unfold setG at he
  split at he
  · cases he; omega
  · cases he
def setR (p : Patch) : List Lat × Int := if isPatch p = true then (match (List.range 64).findSome? (setG p) with | none => ([], 4) | some l => (l, 0)) else ([], 1)
theorem settled_v (p : Patch) (h : p.2.2.length ≤ 1048576) : spec_SettledLattices p = some (setR p) ∧ impl_SettledLattices p = some (setR p) ∧ (setR p).1.length ≤ 1048576 := by
  unfold setR
  rw [spec_SettledLattices_eq, impl_SettledLattices_eq, spec_IsPatch_v p (leM h), impl_IsPatch_v p (leM h)]
  simp only [Option.bind_some]
  cases hp : isPatch p
  · exact ⟨rfl, rfl, by simp⟩
  · simp only [cond_true, spec_settled hp, impl_settled hp, Option.bind_some, if_true]
    cases hf : (List.range 64).findSome? (setG p) with
    | none => exact ⟨rfl, rfl, by simp⟩
    | some l => exact ⟨rfl, rfl, setG_len hf⟩
theorem set_some {p : Patch} {ls : List Lat} (h : (List.range 64).findSome? (setG p) = some ls) : 1 ≤ ls.length ∧ ∃ n : Nat, 1 ≤ n ∧ n ≤ 64 ∧ ∀ l ∈ ls, isLat l = true ∧ l.1 * l.2.2 = (n : Int) ∧ settlesB p l = true := by
  obtain ⟨j, hj, he⟩ := List.exists_of_findSome?_eq_some h
  rw [List.mem_range] at hj
  unfold setG at he
  split at he
  · rename_i h0
    cases he
    refine ⟨h0, j + 1, by omega, by omega, fun l hl => ?_⟩
    obtain ⟨h1, h2⟩ := List.mem_filter.1 hl
    obtain ⟨h3, h4⟩ := (mem_subL (n := j + 1) (by omega) (by omega)).1 h1
    exact ⟨h3, h4, h2⟩
  · cases he
def readR (p : Patch) (f : Int) (l : Lat) : Pat × Int := if isPatch p = true then (if (isFrame f && isLat l) = true then (if settlesB p l = true then ((f, l, (resC (tellOf p l)).1), 0) else (zeroP, 5)) else (zeroP, 1)) else (zeroP, 1)
theorem read_v (p : Patch) (f : Int) (l : Lat) (h : p.2.2.length ≤ 1048576) : spec_ReadPatch p f l = some (readR p f l) ∧ impl_ReadPatch p f l = some (readR p f l) ∧ (readR p f l).1.2.2.length ≤ 64 := by
  unfold readR
  rw [spec_ReadPatch_eq, impl_ReadPatch_eq, spec_IsPatch_v p (leM h), impl_IsPatch_v p (leM h), spec_l04Code_v, impl_frameCode_v]
  simp only [Option.bind_some]
  cases hp : isPatch p
  · exact ⟨rfl, rfl, by simp [zeroP]⟩
  · cases hl : (isFrame f && isLat l)
    · exact ⟨rfl, rfl, by simp [zeroP]⟩
    · have hl' : isLat l = true := by rw [Bool.and_eq_true] at hl; exact hl.2
      simp only [if_true, decide_true, Bool.not_true, cond_true, cond_false, spec_l20Settles_v p l hp hl', impl_Patch_settles_v p l hp hl', spec_l20Colours_v p l hp hl', impl_Patch_read_v p l hp hl', Option.bind_some]
      have hn := resC_len p l hl'
      cases settlesB p l
      · exact ⟨rfl, rfl, by simp [zeroP]⟩
      · cases (resC (tellOf p l)).2
        · exact ⟨rfl, rfl, hn⟩
        · exact ⟨rfl, rfl, hn⟩
def fitsR (p : Patch) (l : Lat) : Bool × Int := if (isPatch p && isLat l) = true then ((resC (tellOf p l)).2, 0) else (false, 1)
theorem fits_v (p : Patch) (l : Lat) (h : p.2.2.length ≤ 1048576) : spec_FitsPatch p l = some (fitsR p l) ∧ impl_FitsPatch p l = some (fitsR p l) := by
  unfold fitsR
  rw [spec_FitsPatch_eq, impl_FitsPatch_eq, spec_IsPatch_v p (leM h), impl_IsPatch_v p (leM h), spec_IsLattice_v, impl_IsLattice_v]
  simp only [Option.bind_some]
  cases hp : isPatch p
  · exact ⟨rfl, rfl⟩
  · cases hl : isLat l
    · exact ⟨rfl, rfl⟩
    · simp only [cond_true, spec_l20Colours_v p l hp hl, impl_Patch_read_v p l hp hl, Option.bind_some, Bool.and_self, if_true]
      cases (resC (tellOf p l)).2 <;> exact ⟨rfl, rfl⟩
theorem isPat_3 : isPat (0, (1, 0, 1), [3]) = true := by decide
/-! ### Drawn patches -/
theorem cut_d {s : Src} (h : SrcOk s) {p : Pat} (hp : isPat p = true) {k : Int × Int × List Int → Src → Option ((Int × Int × List Int) × Src)} {P : (Int × Int × List Int) × Src → Prop} (hk : ∀ q s', SrcOk s' → s'.1 = s.1 → q.2.2.length ≤ 64 → 1 ≤ q.2.2.length → Ok1 (k q s') P) :
    Ok1 (Option.bind (spec_l01Next s 9) fun (y3 : Int × List Int × Int × Int) => (Option.bind (spec_l01Next y3.2 9) fun (y4 : Int × List Int × Int × Int) => (Option.bind (spec_l01Next y4.2 8) fun (y5 : Int × List Int × Int × Int) => (Option.bind (spec_l01Next y5.2 8) fun (y6 : Int × List Int × Int × Int) => (Option.bind (spec_l20Cut p (y3.1, y4.1) (IntKind.i64.wrap (1 + y5.1)) (IntKind.i64.wrap (1 + y6.1))) fun (y7 : Int × Int × List Int) => k y7 y6.2))))) P := by
  refine (next_d h 9 (by omega)).bind fun a ⟨ha, a1, a2⟩ => (next_d ha.1 9 (by omega)).bind fun b ⟨hb, b1, b2⟩ => (next_d hb.1 8 (by omega)).bind fun c ⟨hc, c1, c2⟩ => (next_d hc.1 8 (by omega)).bind fun d ⟨hd, d1, d2⟩ => ?_
  have := a2 (by omega)
  have := b2 (by omega)
  have := c2 (by omega)
  have := d2 (by omega)
  have hs := ha.trans (hb.trans (hc.trans hd))
  rw [w64 (x := 1 + c.1) (by omega) (by omega), w64 (x := 1 + d.1) (by omega) (by omega)]
  rw [spec_l20Cut_v p (a.1, b.1) (1 + c.1) (1 + d.1) hp ⟨by unfold Sm; simp only; omega, by simp only; omega, by simp only; omega⟩ (by omega) (by omega)]
  simp only [Option.bind_some]
  have hm := mul_lim (a := 1 + c.1) (b := 1 + d.1) (m := 8) (n := 8) (by omega) (by omega) (by omega) (by omega)
  have hm2 : 1 * 1 ≤ (1 + c.1) * (1 + d.1) := Int.mul_le_mul (by omega) (by omega) (by omega) (by omega)
  have hlen : (cutC p (a.1, b.1) (1 + c.1) (1 + d.1)).length = ((1 + c.1) * (1 + d.1)).toNat := by unfold cutC; rw [List.length_map, List.length_range]
  exact hk _ _ hs.1 hs.2 (by show (cutC p (a.1, b.1) (1 + c.1) (1 + d.1)).length ≤ 64; omega) (by show 1 ≤ (cutC p (a.1, b.1) (1 + c.1) (1 + d.1)).length; omega)
theorem patch_d {s : Src} (h : SrcOk s) : Ok1 (spec_l20Draw s) fun y => y.1.2.2.length ≤ 64 ∧ Sk s y.2 := by
  rw [spec_l20Draw_eq]
  refine (pattern_d h).bind fun a ⟨ha, a1⟩ => ?_
  rw [spec_IsPattern_v a.1 (leM (by omega))]
  simp only [Option.bind_some]
  have tail : ∀ (q : Int × Int × List Int) (t : Src), SrcOk t → t.1 = a.2.1 → q.2.2.length ≤ 64 → 1 ≤ q.2.2.length → Ok1 ((Option.bind (spec_l01Next t 24) fun (y8 : Int × List Int × Int × Int) => (cond (decide (y8.1 = 0)) (Option.bind (spec_l01Next y8.2 (List.length q.2.2 : Int)) fun (y9 : Int × List Int × Int × Int) => (Option.bind (spec_l01Pick y9.2 ([0, 1, (-1), 10])) fun (y10 : Int × List Int × Int × Int) => (cond (decide (0 ≤ y9.1) && decide (y9.1 < (List.length q.2.2 : Int))) (some ((q.1, q.2.1, (List.set q.2.2 (Int.toNat y9.1) y10.1)), y10.2)) none))) (cond (decide (y8.1 = 1)) (Option.bind (spec_l01Next y8.2 2) fun (y11 : Int × List Int × Int × Int) => (cond (decide (y11.1 = 0)) (Option.bind (spec_l01Pick y11.2 ([0, (IntKind.i64.wrap (q.1 + 1)), 17])) fun (y12 : Int × List Int × Int × Int) => (some ((y12.1, q.2), y12.2))) (some (q, y11.2)))) (some (q, y8.2))))) : Option ((Int × Int × List Int) × Src)) fun y => y.1.2.2.length ≤ 64 ∧ Sk s y.2 := by
    intro q t ht hts h1 h2
    have hst : Sk s t := ha.trans ⟨ht, hts⟩
    refine (next_d ht 24 (by omega)).bind fun b ⟨hb, _⟩ => Ok1.cond (fun _ => ?_) fun _ => Ok1.cond (fun _ => ?_) fun _ => Ok1.some ⟨h1, hst.trans hb⟩
    · refine (next_d hb.1 _ (by omega)).bind fun c ⟨hc, c1, c2⟩ => (pick_d hc.1 _ (by decide) (by decide)).bind fun d ⟨hd, _⟩ => Ok1.chk ?_ (Ok1.some ⟨by simp only [List.length_set]; exact h1, hst.trans (hb.trans (hc.trans hd))⟩)
      rw [decide_eq_true c1, decide_eq_true (c2 (by omega))]; rfl
    · refine (next_d hb.1 2 (by omega)).bind fun c ⟨hc, _⟩ => Ok1.cond (fun _ => ?_) fun _ => Ok1.some ⟨h1, hst.trans (hb.trans hc)⟩
      exact (pick_d hc.1 _ (by simp) (by simp)).bind fun d ⟨hd, _⟩ => Ok1.some ⟨h1, hst.trans (hb.trans (hc.trans hd))⟩
  refine Ok1.cond (fun hp => ?_) fun _ => ?_
  · exact cut_d ha.1 hp fun q t ht hts h1 h2 => tail q t ht hts h1 h2
  · exact cut_d ha.1 isPat_3 fun q t ht hts h1 h2 => tail q t ht hts h1 h2
theorem drawSettled_d {x : List Int} (hb : ∀ c ∈ x, 0 ≤ c ∧ c ≤ 255) (hn : x.length ≤ 4096) : Ok1 (spec_DrawSettledLattices x) fun p => p.2.2.length ≤ 64 := by
  rw [spec_DrawSettledLattices_eq]
  exact (from_d hb hn).bind fun s hs => (patch_d hs).bind fun y ⟨h, _⟩ => Ok1.some h
theorem drawFits_d {x : List Int} (hb : ∀ c ∈ x, 0 ≤ c ∧ c ≤ 255) (hn : x.length ≤ 4096) : Ok1 (spec_DrawFitsPatch x) fun y => y.1.2.2.length ≤ 64 := by
  rw [spec_DrawFitsPatch_eq]
  refine (from_d hb hn).bind fun s hs => (patch_d hs).bind fun a ⟨a1, ha⟩ => ?_
  rw [spec_IsPatch_v a.1 (leM (by omega))]
  simp only [Option.bind_some]
  refine Ok1.cond (fun hp => ?_) fun _ => (lat_d ha.1).bind fun b hb => Ok1.some a1
  refine (next_d ha.1 2 (by omega)).bind fun b ⟨hb, _⟩ => Ok1.cond (fun _ => ?_) fun _ => (lat_d hb.1).bind fun c hc => Ok1.some a1
  obtain ⟨k1, _, k3⟩ := settled_v a.1 (by omega)
  rw [k1]
  simp only [Option.bind_some]
  refine Ok1.cond (fun h0 => ?_) fun _ => (lat_d hb.1).bind fun c hc => Ok1.some a1
  have h0 := of_decide_eq_true h0
  have hpos : 1 ≤ (setR a.1).1.length := by
    unfold setR at h0 ⊢
    rw [if_pos hp] at h0 ⊢
    cases hf : (List.range 64).findSome? (setG a.1) with
    | none => rw [hf] at h0; simp at h0
    | some l => exact (set_some hf).1
  refine (next_d hb.1 _ (by omega)).bind fun c ⟨hc, c1, c2⟩ => Ok1.chk ?_ (Ok1.some a1)
  rw [decide_eq_true c1, decide_eq_true (c2 (by omega))]; rfl
theorem drawRead_d {x : List Int} (hb : ∀ c ∈ x, 0 ≤ c ∧ c ≤ 255) (hn : x.length ≤ 4096) : Ok1 (spec_DrawReadPatch x) fun y => y.1.2.2.length ≤ 64 := by
  rw [spec_DrawReadPatch_eq]
  exact (from_d hb hn).bind fun s hs => (drawFits_d hb hn).bind fun y h => (frame_d hs).bind fun z hz => Ok1.some h
theorem like_lats (xs : List Lat) (hn : xs.length ≤ 1048576) : laws_likeLattices9 xs xs = some true := by
  have key := loop_all (L := fun k => laws_likeLattices9_l0 xs xs k) xs (fun _ => true) (.inl ()) (.inr false) (fun k hk => by
    show laws_likeLattices9_l0 xs xs (k : Int) = _
    rw [laws_likeLattices9_l0_eq, decide_eq_true (by omega), rd_lt hk]
    simp only [cond_true, Option.bind_some, decide_true, Bool.and_self, Bool.not_true, cond_false, Option.bind_fun_some, if_true]
    rw [wnext hk (by omega)]) (by
    show laws_likeLattices9_l0 xs xs (xs.length : Int) = _
    rw [laws_likeLattices9_l0_eq, decide_eq_false (by omega)]; rfl)
  have key' : laws_likeLattices9_l0 xs xs 0 = _ := key
  rw [laws_likeLattices9_eq, decide_eq_true rfl, key', List.all_eq_true.2 fun _ _ => rfl]
  rfl
theorem like_patch (p : Patch) (hn : p.2.2.length ≤ 1048576) : laws_likePatches9 p p = some true := by
  rw [laws_likePatches9_eq, laws_likeInts_v p.2.2 p.2.2 (leM hn)]
  simp
theorem fit_loop (p : Patch) (hp : isPatch p = true) (hn : p.2.2.length ≤ 1048576) {ls : List Lat} {n : Nat} (h1 : 1 ≤ n ∧ n ≤ 64) (hne : 1 ≤ ls.length) (hlen : ls.length ≤ 1048576) (h : ∀ l ∈ ls, isLat l = true ∧ l.1 * l.2.2 = (n : Int) ∧ settlesB p l = true) : ∀ (d i : Nat), i + d = ls.length →
    laws_FnSettled_l0 ls 0 (i : Int) p.1 p.2.1 p.2.2 = some (.inl ())
  | 0, i, hi => by
    rw [laws_FnSettled_l0_eq, decide_eq_false (show ¬ (i : Int) < (ls.length : Int) by omega)]
    rfl
  | d + 1, i, hi => by
    have hlt : i < ls.length := by omega
    obtain ⟨h2, h3, h4⟩ := h _ (List.getElem_mem hlt)
    obtain ⟨g2, g3, g4⟩ := h _ (List.getElem_mem hne)
    have e1 : impl_FitsPatch (p.1, p.2.1, p.2.2) (ls[i].1, ls[i].2) = some (true, 0) := by
      refine (fits_v p ls[i] hn).2.trans ?_
      unfold fitsR
      rw [hp, h2]
      unfold settlesB at h4
      rw [Bool.and_eq_true] at h4
      rw [h4.1]; rfl
    have e0 : ls.getD (Int.toNat 0) (dflt (.pair (.i .i64) (.pair (.i .i64) (.i .i64)))) = ls[0] := by
      rw [show Int.toNat 0 = 0 from rfl, List.getD_eq_getElem?_getD, List.getElem?_eq_getElem hne]; rfl
    rw [laws_FnSettled_l0_eq, decide_eq_true rfl, inb hlt, decide_eq_true (p := (i : Int) < (ls.length : Int)) (by omega), gd hlt, e1, e0]
    simp only [cond_true, Option.bind_some]
    rw [show decide (0 ≤ 0) = true from rfl, decide_eq_true (show (0 : Int) < (ls.length : Int) by omega), h3, g3, decide_eq_true rfl, wnext hlt (by omega)]
    simp only [cond_true, cond_false, Bool.not_true, Bool.and_self, Option.bind_fun_some, decide_true]
    exact fit_loop p hp hn h1 hne hlen h d (i + 1) (by omega)
theorem FnSettled_true (x : List Int) (h : wfE (.list (.i .u8)) x) : laws_FnSettled x = some true := by
  rw [laws_FnSettled_eq, laws_big_eq]
  by_cases hb : 4096 < (x.length : Int)
  · rw [decide_eq_true hb]; rfl
  · rw [decide_eq_false hb]
    obtain ⟨p, e1, hp⟩ := drawSettled_d (code_bytes h) (by omega)
    obtain ⟨y, e2, hy⟩ := drawRead_d (code_bytes h) (by omega)
    obtain ⟨q, f, l⟩ := y
    obtain ⟨z, e3, hz⟩ := drawFits_d (code_bytes h) (by omega)
    obtain ⟨a, m⟩ := z
    simp only at hy hz
    obtain ⟨s1, s2, s3⟩ := settled_v p (by omega)
    obtain ⟨r1, r2, r3⟩ := read_v q f l (by omega)
    obtain ⟨t1, t2⟩ := fits_v a m (by omega)
    have ll := like_lats _ s3
    have lr := likeP_self (p := (readR q f l).1) (by omega)
    have lq := like_patch q (by omega)
    have hC : (readR q f l).2 = 0 → impl_CutPatch (readR q f l).1 (0, 0) q.1 q.2.1 = some (q, 0) := by
      intro h0
      unfold readR at h0 ⊢
      by_cases h1 : isPatch q = true
      · rw [if_pos h1] at h0 ⊢
        by_cases h2 : (isFrame f && isLat l) = true
        · rw [if_pos h2] at h0 ⊢
          by_cases h3 : settlesB q l = true
          · rw [if_pos h3] at h0 ⊢
            rw [Bool.and_eq_true] at h2
            obtain ⟨k1, k2⟩ := read_ok h1 h2.1 h2.2 h3
            obtain ⟨w1, w2, w3, w4⟩ := isPatch_iff.1 h1
            have hl64 : (resC (tellOf q l)).1.length ≤ 64 := pat_len k1
            rw [impl_CutPatch_eq, impl_IsPattern_v _ (leM (show (resC (tellOf q l)).1.length ≤ 1048576 by omega)), k1]
            simp only [Option.bind_some, cond_true, impl_IsVec_v, impl_isSide_v]
            rw [show isVec (0, 0) = true from by decide, within_iff.2 w1, within_iff.2 w2]
            simp only [cond_true]
            rw [impl_Pattern_cut_v _ (0, 0) q.1 q.2.1 k1 (vec_cut (by decide)) w1 w2, k2]
            rfl
          · rw [if_neg h3] at h0; simp at h0
        · rw [if_neg h2] at h0; simp at h0
      · rw [if_neg h1] at h0; simp at h0
    have hL : laws_FnSettled_l0 (setR p).1 (setR p).2 0 p.1 p.2.1 p.2.2 = some (.inl ()) := by
      by_cases h0 : (setR p).2 = 0
      · rw [h0]
        unfold setR at h0 s3 ⊢
        by_cases h1 : isPatch p = true
        · rw [if_pos h1] at h0 s3 ⊢
          cases hf : (List.range 64).findSome? (setG p) with
          | none => rw [hf] at h0; simp at h0
          | some ls =>
            rw [hf] at s3
            obtain ⟨k1, n, k2, k3, k4⟩ := set_some hf
            exact fit_loop p h1 (by omega) ⟨k2, k3⟩ k1 s3 k4 ls.length 0 (by omega)
        · rw [if_neg h1] at h0; simp at h0
      · rw [laws_FnSettled_l0_eq, decide_eq_false h0]; rfl
    simp only [cond_false, Option.bind_some, cond_true, e1, e2, e3, s1, s2, r1, r2, t1, t2, ll, lr, hL, decide_true, Bool.not_true]
    by_cases h0 : (readR q f l).2 = 0
    · cases (fitsR a m).1 <;> simp [h0, hC h0, lq, ll, lr]
    · cases (fitsR a m).1 <;> simp [h0, ll, lr]
end Go.Proofs.YtahlhacmikdimaaGreat
