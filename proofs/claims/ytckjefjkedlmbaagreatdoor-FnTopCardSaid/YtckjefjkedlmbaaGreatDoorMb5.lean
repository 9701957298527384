/-
  Plain meanings, part 5.
-/
import Derived.Test.YtckjefjkedlmbaaGreatDoorMb4
namespace Go.Proofs.YtckjefjkedlmbaaGreatDoor
open Ai
set_option linter.unusedSimpArgs false
set_option linter.unusedVariables false
def key4 (m : Mat4) : List Int := [m.1, m.2.1, m.2.2.1, m.2.2.2]
theorem pmats_inc {f : Int} (hf : f = 0 ∨ f = 1) : (pmats f).Pairwise fun a b => lexB (key4 a) (key4 b) = true := by
  rcases hf with rfl | rfl <;> decide +kernel
theorem lexB_app : ∀ (a b c d : List Int), a.length = b.length → lexB a b = true → lexB (a ++ c) (b ++ d) = true
  | [], [], c, d, _, h => by simp [lexB] at h
  | x :: a, y :: b, c, d, hl, h => by
    show (if x = y then lexB (a ++ c) (b ++ d) else decide (x < y)) = true
    have h' : (if x = y then lexB a b else decide (x < y)) = true := h
    by_cases e : x = y
    · rw [if_pos e] at h' ⊢
      exact lexB_app a b c d (by simpa using hl) h'
    · rw [if_neg e] at h' ⊢
      exact h'
  | [], y :: b, c, d, hl, h => by simp at hl
  | x :: a, [], c, d, hl, h => by simp at hl
theorem lexB_pre : ∀ (a c d : List Int), lexB (a ++ c) (a ++ d) = lexB c d
  | [], c, d => rfl
  | x :: a, c, d => by
    show (if x = x then lexB (a ++ c) (a ++ d) else decide (x < x)) = _
    rw [if_pos rfl, lexB_pre a c d]
theorem cells_inc (l : Lat) : (cells l).Pairwise fun u v => lexB [u.1, u.2] [v.1, v.2] = true := by
  unfold cells
  rw [List.pairwise_flatMap]
  refine ⟨fun x _ => List.pairwise_map.2 (List.pairwise_lt_range.imp fun {a b} hab => ?_), List.pairwise_lt_range.imp fun {a b} hab u hu v hv => ?_⟩
  · show (if (x : Int) = (x : Int) then (if (a : Int) = (b : Int) then _ else decide ((a : Int) < (b : Int))) else _) = true
    rw [if_pos rfl, if_neg (by omega)]
    exact decide_eq_true (by omega)
  · obtain ⟨i, _, rfl⟩ := List.mem_map.1 hu
    obtain ⟨j, _, rfl⟩ := List.mem_map.1 hv
    show (if (a : Int) = (b : Int) then _ else decide ((a : Int) < (b : Int))) = true
    rw [if_neg (by omega)]
    exact decide_eq_true (by omega)
theorem keyM_app (m : Mot) : keyM m = key4 m.1 ++ [m.2.1, m.2.2] := rfl
theorem allM_inc {f : Int} (hf : f = 0 ∨ f = 1) (l : Lat) : IncM (allM f l) := by
  unfold IncM allM
  rw [List.pairwise_flatMap]
  refine ⟨fun m _ => List.pairwise_map.2 ((cells_inc l).imp fun {a b} hab => ?_), ((pmats_inc hf).filter _).imp fun {a b} hab u hu v hv => ?_⟩
  · unfold mless
    rw [keyM_app, keyM_app, lexB_pre]; exact hab
  · obtain ⟨s, _, rfl⟩ := List.mem_map.1 hu
    obtain ⟨t, _, rfl⟩ := List.mem_map.1 hv
    unfold mless
    rw [keyM_app, keyM_app]
    exact lexB_app _ _ _ _ rfl hab
theorem mem_allM {f : Int} {l : Lat} {m : Mot} : m ∈ allM f l ↔ m.1 ∈ stableL f l ∧ m.2 ∈ cells l := by
  unfold allM
  constructor
  · intro h
    obtain ⟨a, ha, h⟩ := List.mem_flatMap.1 h
    obtain ⟨t, ht, rfl⟩ := List.mem_map.1 h
    exact ⟨ha, ht⟩
  · exact fun h => List.mem_flatMap.2 ⟨m.1, h.1, List.mem_map.2 ⟨m.2, h.2, rfl⟩⟩
theorem inc_goodL {f : Int} {l : Lat} {xs : List Mot} (hi : IncM xs) (hm : ∀ m ∈ xs, m ∈ allM f l) : goodL f l xs = true := by
  unfold goodL
  rw [List.all_eq_true]
  intro k hk
  rw [List.mem_range'_1] at hk
  have hk1 : k < xs.length := by omega
  have hget : ∀ k (hk : k < xs.length), xs.getD k ((0, 0, 0, 0), 0, 0) = xs[k] := fun k hk => by simp [List.getD, hk]
  unfold goodK okM
  rw [hget k hk1]
  obtain ⟨h1, h2⟩ := mem_allM.1 (hm _ (List.getElem_mem hk1))
  rw [decide_eq_true h1, decide_eq_true h2]
  simp only [Bool.and_self, Bool.true_and, Bool.or_eq_true, decide_eq_true_eq]
  by_cases h0 : k = 0
  · exact .inl h0
  · right
    rw [hget (k - 1) (by omega)]
    exact List.pairwise_iff_getElem.1 hi (k - 1) k (by omega) hk1 (by omega)
theorem filter_good {f : Int} (hf : f = 0 ∨ f = 1) (l : Lat) (q : Mot → Bool) : goodL f l ((allM f l).filter q) = true :=
  inc_goodL ((allM_inc hf l).filter q) fun m hm => (List.mem_filter.1 hm).1
/-! ### What a motion does -/
def act (m : Mot) (v : V) : V := vadd (mapp m.1 v) m.2
theorem stB_in {l : Lat} (hl : isLat l = true) {m : Mat4} (h : stB l m = true) {w : V} (hw : InL l w) : InL l (mapp m w) := by
  unfold stB at h
  rw [Bool.and_eq_true, decide_eq_true_iff, decide_eq_true_iff, inL_iff hl, inL_iff hl] at h
  obtain ⟨i, j, h1, h2⟩ := hw
  have h3 := h.1.lin h.2 i j
  have e : mapp m w = (i * (mapp m (l.1, 0)).1 + j * (mapp m l.2).1, i * (mapp m (l.1, 0)).2 + j * (mapp m l.2).2) := by
    rw [← mapp_lin]
    congr 1
    ext
    · simp only; exact h1
    · simp only; rw [h2]; simp
  rw [e]; exact h3
theorem stable_st {f : Int} {l : Lat} {m : Mat4} (h : m ∈ stableL f l) : m ∈ pmats f ∧ stB l m = true := List.mem_filter.1 h
theorem st_of {l : Lat} (hl : isLat l = true) {m : Mat4} (h : ∀ w, InL l w → InL l (mapp m w)) : stB l m = true := by
  unfold stB
  rw [Bool.and_eq_true, decide_eq_true_iff, decide_eq_true_iff, inL_iff hl, inL_iff hl]
  exact ⟨h _ (InL.fst l), h _ (InL.snd l)⟩
theorem stable_mul {f : Int} (hf : f = 0 ∨ f = 1) {l : Lat} (hl : isLat l = true) {m n : Mat4} (hm : m ∈ stableL f l) (hn : n ∈ stableL f l) : mmul m n ∈ stableL f l := by
  obtain ⟨m1, m2⟩ := stable_st hm
  obtain ⟨n1, n2⟩ := stable_st hn
  refine List.mem_filter.2 ⟨mmul_closed hf m1 n1, st_of hl fun w hw => ?_⟩
  rw [mapp_mmul]
  exact stB_in hl m2 (stB_in hl n2 hw)
theorem stable_unit {f : Int} (hf : f = 0 ∨ f = 1) {l : Lat} (hl : isLat l = true) : m1 ∈ stableL f l :=
  List.mem_filter.2 ⟨unit_mem hf, st_of hl fun w hw => by rw [mapp_unit]; exact hw⟩
theorem zero_cell {l : Lat} (hl : isLat l = true) : ((0, 0) : V) ∈ cells l := by
  obtain ⟨h1, h2, h3, h4⟩ := isLat_iff.1 hl
  exact mem_cells.2 ⟨⟨by simp, by show 0 < l.1; omega⟩, by simp, by show 0 < l.2.2; omega⟩
theorem unit_allM {f : Int} (hf : f = 0 ∨ f = 1) {l : Lat} (hl : isLat l = true) : unitM ∈ allM f l := mem_allM.2 ⟨stable_unit hf hl, zero_cell hl⟩
theorem wap_act {f : Int} (hf : f = 0 ∨ f = 1) {l : Lat} (hl : isLat l = true) {m : Mot} (hm : m ∈ allM f l) {v : V} (hv : Ss v) : wap m v = act m v := by
  obtain ⟨h1, h2⟩ := mem_allM.1 hm
  exact (wap_pm (stable_pm hf h1) hv (cells_ss hl h2)).1
theorem unit_prod {a b : Int} (ha : Unit1 a) (hb : Unit1 b) : Unit1 (a * b) := by
  unfold Unit1 at *
  rcases unit_mul (x := b) ha with h | h | h <;> rw [h] <;> omega
theorem prodM_eq {f : Int} (hf : f = 0 ∨ f = 1) {l : Lat} (hl : isLat l = true) {m n : Mot} (hm : m ∈ allM f l) (hn : n ∈ allM f l) : prodM l m n = (mmul m.1 n.1, red l (act m n.2)) := by
  have pm := stable_pm hf (mem_allM.1 hm).1
  have pn := stable_pm hf (mem_allM.1 hn).1
  have w : ∀ {a b c d : Int}, Unit1 a → Unit1 b → Unit1 c → Unit1 d → IntKind.i64.wrap (IntKind.i64.wrap (a * b) + IntKind.i64.wrap (c * d)) = a * b + c * d := by
    intro a b c d ha hb hc hd
    have h1 := unit_prod ha hb
    have h2 := unit_prod hc hd
    unfold Unit1 at h1 h2
    rw [w64 (x := a * b) (by omega) (by omega), w64 (x := c * d) (by omega) (by omega), w64 (by omega) (by omega)]
  unfold prodM
  rw [wap_act hf hl hm (cells_ss hl (mem_allM.1 hn).2), w pm.a pn.a pm.b pn.c, w pm.a pn.b pm.b pn.d, w pm.c pn.a pm.d pn.c, w pm.c pn.b pm.d pn.d]
  rfl
theorem prod_allM {f : Int} (hf : f = 0 ∨ f = 1) {l : Lat} (hl : isLat l = true) {m n : Mot} (hm : m ∈ allM f l) (hn : n ∈ allM f l) : prodM l m n ∈ allM f l := by
  rw [prodM_eq hf hl hm hn]
  exact mem_allM.2 ⟨stable_mul hf hl (mem_allM.1 hm).1 (mem_allM.1 hn).1, red_mem hl _⟩
theorem act_prod {f : Int} (hf : f = 0 ∨ f = 1) {l : Lat} (hl : isLat l = true) {m n : Mot} (hm : m ∈ allM f l) (hn : n ∈ allM f l) (v : V) : red l (act (prodM l m n) v) = red l (act m (act n v)) := by
  rw [prodM_eq hf hl hm hn, red_eq_iff hl]
  obtain ⟨i, j, h1, h2⟩ := red_in hl (act m n.2)
  refine ⟨-i, -j, ?_, ?_⟩ <;> simp only [act, vsub, vadd, mapp_mmul] at h1 h2 ⊢ <;> simp only [mapp] at h1 h2 ⊢ <;> grind
theorem act_red {f : Int} {l : Lat} (hl : isLat l = true) {m : Mot} (hm : m ∈ allM f l) (v : V) : red l (act m (red l v)) = red l (act m v) := by
  rw [red_eq_iff hl]
  have h := stB_in hl (stable_st (mem_allM.1 hm).1).2 (red_in hl v)
  obtain ⟨i, j, h1, h2⟩ := h
  refine ⟨-i, -j, ?_, ?_⟩ <;> simp only [act, vsub, vadd] at h1 h2 ⊢ <;> simp only [mapp] at h1 h2 ⊢ <;> grind
/-! ### Motions that keep a pattern -/
def KeepP (p : Pat) (m : Mot) : Prop := ∀ v, patAt p (act m v) = patAt p v
theorem keepsB_iff {p : Pat} (hp : isPat p = true) {m : Mot} (hm : m ∈ allM p.1 p.2.1) : keepsB p m = true ↔ KeepP p m := by
  have hl := (isPat_iff.1 hp).2.1
  have hf := isFrame_iff.1 (isPat_iff.1 hp).1
  unfold keepsB
  rw [List.all_eq_true]
  constructor
  · intro h v
    have hc := red_mem hl v
    have h1 := of_decide_eq_true (h _ hc)
    rw [wap_act hf hl hm (cells_ss hl hc)] at h1
    rw [← patAt_congr (act_red hl hm v), h1]
    exact patAt_congr (red_cell hl hc)
  · intro h v hv
    rw [wap_act hf hl hm (cells_ss hl hv), h v]
    exact decide_eq_true rfl
theorem KeepP.prod {p : Pat} (hp : isPat p = true) {m n : Mot} (hm : m ∈ allM p.1 p.2.1) (hn : n ∈ allM p.1 p.2.1) (h1 : KeepP p m) (h2 : KeepP p n) : KeepP p (prodM p.2.1 m n) := fun v => by
  have hl := (isPat_iff.1 hp).2.1
  have hf := isFrame_iff.1 (isPat_iff.1 hp).1
  rw [patAt_congr (act_prod hf hl hm hn v), h1, h2]
theorem act_unit (v : V) : act unitM v = v := by
  unfold act
  rw [show unitM.1 = m1 from rfl, mapp_unit]
  unfold vadd unitM; ext <;> simp
theorem group_of {f : Int} (hf : f = 0 ∨ f = 1) {l : Lat} (hl : isLat l = true) (q : Mot → Bool) (hu : q unitM = true) (hc : ∀ m n, m ∈ allM f l → n ∈ allM f l → q m = true → q n = true → q (prodM l m n) = true) : isGroupB f l ((allM f l).filter q) = true := by
  unfold isGroupB
  rw [filter_good hf l q, Bool.true_and, Bool.and_eq_true, decide_eq_true_iff, List.all_eq_true]
  refine ⟨List.mem_filter.2 ⟨unit_allM hf hl, hu⟩, fun m hm => ?_⟩
  rw [List.all_eq_true]
  intro n hn
  obtain ⟨a1, a2⟩ := List.mem_filter.1 hm
  obtain ⟨b1, b2⟩ := List.mem_filter.1 hn
  exact decide_eq_true (List.mem_filter.2 ⟨prod_allM hf hl a1 b1, hc m n a1 b1 a2 b2⟩)
theorem groupG_filter (p : Pat) : groupG p = (allM p.1 p.2.1).filter (keepsB p) := by
  unfold allM groupG keptM
  rw [List.filter_flatMap]
theorem group_keep {p : Pat} (hp : isPat p = true) : isGroupB p.1 p.2.1 (groupG p) = true := by
  have hl := (isPat_iff.1 hp).2.1
  have hf := isFrame_iff.1 (isPat_iff.1 hp).1
  rw [groupG_filter]
  refine group_of hf hl _ ((keepsB_iff hp (unit_allM hf hl)).2 fun v => by rw [act_unit]) fun m n hm hn h1 h2 => ?_
  exact (keepsB_iff hp (prod_allM hf hl hm hn)).2 (((keepsB_iff hp hm).1 h1).prod hp hm hn ((keepsB_iff hp hn).1 h2))
end Go.Proofs.YtckjefjkedlmbaaGreatDoor

namespace Go.Proofs.YtckjefjkedlmbaaGreatDoor
open Ai
set_option linter.unusedSimpArgs false
set_option linter.unusedVariables false
set_option linter.unusedSectionVars false
theorem lat_all (q : Lat → Bool) (h : ((List.range 64).all fun a => (List.range (64 / (a + 1))).all fun c => (List.range (a + 1)).all fun b => q (((a + 1 : Nat) : Int), ((b : Nat) : Int), ((c + 1 : Nat) : Int))) = true) {l : Lat} (hl : isLat l = true) : q l = true := by
  have hb := isLat_iff.1 hl
  have h1 := List.all_eq_true.1 h (l.1.toNat - 1) (List.mem_range.2 (by omega))
  have hc : l.2.2.toNat ≤ 64 / l.1.toNat := by
    rw [Nat.le_div_iff_mul_le (by omega)]
    have : ((l.2.2.toNat * l.1.toNat : Nat) : Int) = l.1 * l.2.2 := by
      rw [Int.natCast_mul, Int.toNat_of_nonneg (by omega), Int.toNat_of_nonneg (by omega), Int.mul_comm]
    omega
  have ea : l.1.toNat - 1 + 1 = l.1.toNat := by omega
  simp only [ea] at h1
  have h2 := List.all_eq_true.1 h1 (l.2.2.toNat - 1) (List.mem_range.2 (by omega))
  have h3 := List.all_eq_true.1 h2 l.2.1.toNat (List.mem_range.2 (by omega))
  have ec : l.2.2.toNat - 1 + 1 = l.2.2.toNat := by omega
  rw [ec, Int.toNat_of_nonneg (by omega), Int.toNat_of_nonneg (by omega), Int.toNat_of_nonneg (by omega)] at h3
  exact h3
def hasM (l : Lat) (m : Mat4) : Bool := hasF l (mapp m (l.1, 0)) && hasF l (mapp m l.2)
theorem hasM_eq {l : Lat} (hl : isLat l = true) (m : Mat4) : hasM l m = stB l m := by
  unfold hasM stB
  rw [Bool.eq_iff_iff, Bool.and_eq_true, Bool.and_eq_true, decide_eq_true_iff, decide_eq_true_iff, hasF_iff hl, hasF_iff hl]
def centF (l : Lat) (m : Mat4) : Bool :=
  let a := axT m
  let b := axT (mneg m)
  let n := (l.1 * l.2.2).toNat - 1
  let k := leastF l a n 1
  let j := leastF l b n 1
  let u : V := ((k : Int) * a.1, (k : Int) * a.2)
  let v : V := ((j : Int) * b.1, (j : Int) * b.2)
  !decide (max (vdet u v) (0 - vdet u v) = l.1 * l.2.2)
theorem centF_eq {l : Lat} (hl : isLat l = true) (m : Mat4) : centF l m = centB l m := by
  unfold centF centB lmV lmK
  simp only [leastF_eq hl]
def rot3 : List Mat4 := [(-1, -1, 1, 0), (0, 1, -1, -1)]
def refl1 : List Mat4 := [(0, 1, 1, 0), (0, -1, -1, 0), (1, 1, 0, -1), (-1, -1, 0, 1), (1, 0, -1, -1), (-1, 0, 1, 1)]
def refl0 : List Mat4 := [(1, 0, 0, -1), (-1, 0, 0, 1), (0, 1, 1, 0), (0, -1, -1, 0)]
def pairF (l : Lat) : Bool :=
  (!(hasM l (1, 0, 0, -1) && hasM l (0, 1, 1, 0)) || !(centF l (1, 0, 0, -1) == centF l (0, 1, 1, 0))) &&
  (rot3.all fun r => !hasM l r || refl1.all fun m => !hasM l m || centF l m)
theorem pair_all : ((List.range 64).all fun a => (List.range (64 / (a + 1))).all fun c => (List.range (a + 1)).all fun b => pairF (((a + 1 : Nat) : Int), ((b : Nat) : Int), ((c + 1 : Nat) : Int))) = true := by decide +kernel
theorem pair_v {l : Lat} (hl : isLat l = true) : (stB l (1, 0, 0, -1) = true → stB l (0, 1, 1, 0) = true → centB l (1, 0, 0, -1) = !centB l (0, 1, 1, 0)) ∧ ∀ r ∈ rot3, stB l r = true → ∀ m ∈ refl1, stB l m = true → centB l m = true := by
  have h := lat_all pairF pair_all hl
  unfold pairF at h
  rw [Bool.and_eq_true] at h
  obtain ⟨h1, h2⟩ := h
  simp only [hasM_eq hl, centF_eq hl] at h1 h2
  refine ⟨fun e1 e2 => ?_, fun r hr e m hm e2 => ?_⟩
  · rw [e1, e2] at h1
    revert h1
    cases centB l (1, 0, 0, -1) <;> cases centB l (0, 1, 1, 0) <;> decide
  · have := List.all_eq_true.1 h2 r hr
    rw [e] at this
    simp only [Bool.not_true, Bool.false_or] at this
    have := List.all_eq_true.1 this m hm
    rw [e2] at this
    simpa using this
theorem mneg_mneg (m : Mat4) : mneg (mneg m) = m := by
  obtain ⟨a, b, c, d⟩ := m
  simp [mneg]
theorem cent_neg (l : Lat) (m : Mat4) : centB l (mneg m) = centB l m := by
  unfold centB
  rw [mneg_mneg]
  have e : vdet (lmV l (axT (mneg m))) (lmV l (axT m)) = 0 - vdet (lmV l (axT m)) (lmV l (axT (mneg m))) := by unfold vdet; grind
  rw [e]
  generalize vdet (lmV l (axT m)) (lmV l (axT (mneg m))) = x
  rw [show max (0 - x) (0 - (0 - x)) = max x (0 - x) by omega]
/-! ### Conjugates -/
def cj (R m : Mat4) : Mat4 := mmul (mmul R m) (minv R)
def axOk (u v : V) : Prop := u = v ∨ u = (-v.1, -v.2)
instance (u v : V) : Decidable (axOk u v) := inferInstanceAs (Decidable (_ ∨ _))
theorem cj_all {f : Int} (hf : f = 0 ∨ f = 1) {R m : Mat4} (hR : R ∈ pmats f) (hm : m ∈ pmats f) : (mdet (cj R m) = mdet m) ∧ (mdet m = 1 ∨ (axOk (axT (cj R m)) (mapp R (axT m)) ∧ axOk (axT (mneg (cj R m))) (mapp R (axT (mneg m))))) := by
  have key : ∀ f : Int, (f = 0 ∨ f = 1) → (pmats f).all (fun R => (pmats f).all fun m => decide (mdet (cj R m) = mdet m) && (decide (mdet m = 1) || (decide (axOk (axT (cj R m)) (mapp R (axT m))) && decide (axOk (axT (mneg (cj R m))) (mapp R (axT (mneg m))))))) = true := by
    rintro f (rfl | rfl) <;> decide +kernel
  have := List.all_eq_true.1 (List.all_eq_true.1 (key f hf) R hR) m hm
  simpa using this
theorem mat_ext9 {m n : Mat4} (h : ∀ v, mapp m v = mapp n v) : m = n := by
  have h1 := h (1, 0)
  have h2 := h (0, 1)
  obtain ⟨a, b, c, d⟩ := m
  obtain ⟨a', b', c', d'⟩ := n
  simp only [mapp, Prod.mk.injEq] at h1 h2
  simp only [Prod.mk.injEq]
  omega
theorem cj_closed {f : Int} (hf : f = 0 ∨ f = 1) {R m : Mat4} (hR : R ∈ pmats f) (hm : m ∈ pmats f) : cj R m ∈ pmats f :=
  mmul_closed hf (mmul_closed hf hR hm) (minv_closed hf hR)
theorem cj_mapp {R : Mat4} (hR : Pm R) (m : Mat4) (v : V) : mapp (cj R m) (mapp R v) = mapp R (mapp m v) := by
  unfold cj
  rw [mapp_mmul, mapp_mmul, minv_left hR.det]
theorem cj_of {R : Mat4} (hR : Pm R) {m n : Mat4} (h : mmul n R = mmul R m) : n = cj R m := mat_ext9 fun v => by
  unfold cj
  rw [mapp_mmul, ← h, mapp_mmul, minv_right hR.det]
theorem norm_lin (f : Int) (R : Mat4) (v : V) : normV f (mapp R v) = v.1 * v.1 * normV f (R.1, R.2.2.1) + v.1 * v.2 * (normV f (R.1 + R.2.1, R.2.2.1 + R.2.2.2) - normV f (R.1, R.2.2.1) - normV f (R.2.1, R.2.2.2)) + v.2 * v.2 * normV f (R.2.1, R.2.2.2) := by
  unfold normV mapp
  grind
theorem norm_mapp {f : Int} (hf : f = 0 ∨ f = 1) {R : Mat4} (hR : R ∈ pmats f) (v : V) : normV f (mapp R v) = normV f v := by
  have h := (mem_pmats hf _).1 hR
  unfold pmB at h
  simp only [Bool.and_eq_true, decide_eq_true_iff] at h
  rw [norm_lin, h.1.1, h.1.2, h.2]
  unfold normV
  grind
theorem norm_neg (f : Int) (v : V) : normV f (-v.1, -v.2) = normV f v := by unfold normV; grind
theorem InL.neg {l : Lat} {v : V} (h : InL l v) : InL l (-v.1, -v.2) := by
  have := h.lin h (-1) 0
  simp only [Int.zero_mul, Int.add_zero, Int.neg_mul, Int.one_mul] at this
  exact this
theorem InL.add {l : Lat} {u v : V} (h : InL l u) (h2 : InL l v) : InL l (vadd u v) := by
  have := h.lin h2 1 1
  simp only [Int.one_mul] at this
  exact this
section conj
variable {f : Int} (hf : f = 0 ∨ f = 1) {l l' : Lat} (hl : isLat l = true) (hl' : isLat l' = true) {R : Mat4} (hR : R ∈ pmats f) (hLL : ∀ w, InL l' (mapp R w) ↔ InL l w)
include hl hl' hLL
theorem lmK_of {a a' : V} (ha : axOk a' (mapp R a)) : lmK l' a' = lmK l a := by
  have key : ∀ k : Int, red l' (k * a'.1, k * a'.2) = (0, 0) ↔ red l (k * a.1, k * a.2) = (0, 0) := fun k => by
    rw [inL_iff hl', inL_iff hl, ← hLL]
    have e : mapp R (k * a.1, k * a.2) = (k * (mapp R a).1, k * (mapp R a).2) := by unfold mapp; ext <;> simp only <;> grind
    rw [e]
    rcases ha with h | h
    · rw [h]
    · rw [h]
      simp only [Int.mul_neg]
      constructor
      · intro h2; have := h2.neg; simpa using this
      · intro h2; exact h2.neg
  have h1 : (lmK l' a' : Int) ∣ (lmK l a : Int) := lmK_dvd hl' ((key _).2 (lm_in hl a))
  have h2 : (lmK l a : Int) ∣ (lmK l' a' : Int) := lmK_dvd hl ((key _).1 (lm_in hl' a'))
  exact Nat.dvd_antisymm (Int.natCast_dvd_natCast.1 h1) (Int.natCast_dvd_natCast.1 h2)
theorem lmV_of {a a' : V} (ha : axOk a' (mapp R a)) : axOk (lmV l' a') (mapp R (lmV l a)) := by
  unfold lmV
  rw [lmK_of hl hl' hLL ha]
  have e : ∀ k : Int, mapp R (k * a.1, k * a.2) = (k * (mapp R a).1, k * (mapp R a).2) := fun k => by unfold mapp; ext <;> simp only <;> grind
  rw [e]
  rcases ha with h | h
  · exact .inl (by rw [h])
  · right; rw [h]; simp only [Int.mul_neg]
theorem centB_of {m : Mat4} (hidx : l'.1 * l'.2.2 = l.1 * l.2.2) (hd : mdet R = 1 ∨ mdet R = -1) {m' : Mat4} (h1 : axOk (axT m') (mapp R (axT m))) (h2 : axOk (axT (mneg m')) (mapp R (axT (mneg m)))) : centB l' m' = centB l m := by
  have q1 := lmV_of hl hl' hLL h1
  have q2 := lmV_of hl hl' hLL h2
  unfold centB
  rw [hidx]
  generalize lmV l' (axT m') = u' at *
  generalize lmV l' (axT (mneg m')) = v' at *
  generalize lmV l (axT m) = u at *
  generalize lmV l (axT (mneg m)) = v at *
  have e : vdet (mapp R u) (mapp R v) = mdet R * vdet u v := by unfold vdet mapp mdet; grind
  have e2 : vdet u' v' = vdet u v ∨ vdet u' v' = - vdet u v := by
    have e3 : vdet u' v' = vdet (mapp R u) (mapp R v) ∨ vdet u' v' = - vdet (mapp R u) (mapp R v) := by
      rcases q1 with rfl | rfl <;> rcases q2 with rfl | rfl
      · exact .inl rfl
      · right; unfold vdet; grind
      · right; unfold vdet; grind
      · left; unfold vdet; grind
    rw [e] at e3
    rcases hd with hd | hd <;> rw [hd] at e3 <;> omega
  have e4 : max (vdet u' v') (0 - vdet u' v') = max (vdet u v) (0 - vdet u v) := by omega
  rw [e4]
include hf hR
theorem norm_of {a a' : V} (ha : axOk a' (mapp R a)) : normV f (lmV l' a') = normV f (lmV l a) := by
  rcases lmV_of hl hl' hLL ha with h | h
  · rw [h, norm_mapp hf hR]
  · rw [h, norm_neg, norm_mapp hf hR]
theorem least_of {b b' : Int} (h : Least f l b) (h' : Least f l' b') : b = b' := by
  obtain ⟨p1, ⟨w, w1, w2⟩, p3⟩ := h
  obtain ⟨q1, ⟨v, v1, v2⟩, q3⟩ := h'
  have hRm := pmats_pm hf hR
  have e1 := q3 (mapp R w) ((hLL w).2 w1) (by rw [norm_mapp hf hR]; omega)
  rw [norm_mapp hf hR] at e1
  have e2 := (hLL (mapp (minv R) v)).1 (by rw [minv_right hRm.det]; exact v1)
  have e3 : normV f (mapp (minv R) v) = normV f v := norm_mapp hf (minv_closed hf hR) v
  have := p3 _ e2 (by omega)
  omega
theorem alV_of {m : Mat4} (hm : m ∈ pmats f) (hd : mdet m ≠ 1) {T S T' w : V} (hw : w = vsub T' (vsub (vadd (mapp R T) S) (mapp (cj R m) S))) : alV (cj R m) T' = alV m T + alV (cj R m) w ∨ alV (cj R m) T' = - alV m T + alV (cj R m) w := by
  have hr := refl_of hf hm hd
  have hRm := pmats_pm hf hR
  obtain ⟨k1, k2⟩ := cj_all hf hR hm
  obtain ⟨k3, _⟩ := k2.resolve_left hd
  have hm' := cj_closed hf hR hm
  have hr' := refl_of hf hm' (by rw [k1]; exact hd)
  have hp := axT_prim hr'
  have key : ∀ v, mapp (cj R m) (mapp (cj R m) v) = v := fun v => by
    have hk : refls.all (fun m => decide (mmul m m = m1)) = true := by decide +kernel
    have := of_decide_eq_true (List.all_eq_true.1 hk _ hr')
    rw [← mapp_mmul, this, mapp_unit]
  have t1 := twice_eq hr T
  have t2 := twice_eq hr' T'
  have t3 := twice_eq hr' w
  have hT' : T' = vadd w (vsub (vadd (mapp R T) S) (mapp (cj R m) S)) := by
    rw [hw]; unfold vadd vsub; ext <;> simp only <;> omega
  have e : vadd (mapp (cj R m) T') T' = vadd (mapp R (vadd (mapp m T) T)) (vadd (mapp (cj R m) w) w) := by
    conv => lhs; rw [hT']
    rw [mapp_add, mapp_sub, mapp_add, key, cj_mapp hRm, mapp_add]
    unfold vadd vsub; ext <;> simp only <;> omega
  rw [t1, t2, t3] at e
  have e5 : mapp R (alV m T * (axT m).1, alV m T * (axT m).2) = (alV m T * (mapp R (axT m)).1, alV m T * (mapp R (axT m)).2) := by unfold mapp; ext <;> simp only <;> grind
  rw [e5] at e
  unfold vadd at e
  simp only [Prod.mk.injEq] at e
  obtain ⟨g1, g2⟩ := e
  have hne : (axT (cj R m)).1 ≠ 0 ∨ (axT (cj R m)).2 ≠ 0 := by
    by_cases h1 : (axT (cj R m)).1 = 0
    · right; intro h2; rw [h1, h2] at hp; simp at hp
    · exact .inl h1
  rcases k3 with k3 | k3
  · left
    rw [← k3] at g1 g2
    rcases hne with h | h
    · exact Int.eq_of_mul_eq_mul_right h (by rw [g1]; grind)
    · exact Int.eq_of_mul_eq_mul_right h (by rw [g2]; grind)
  · right
    have k4 : (mapp R (axT m)).1 = -(axT (cj R m)).1 := by rw [k3]; simp
    have k5 : (mapp R (axT m)).2 = -(axT (cj R m)).2 := by rw [k3]; simp
    rw [k4] at g1
    rw [k5] at g2
    rcases hne with h | h
    · exact Int.eq_of_mul_eq_mul_right h (by rw [g1]; grind)
    · exact Int.eq_of_mul_eq_mul_right h (by rw [g2]; grind)
theorem reflB_of {m : Mat4} (hm : m ∈ pmats f) (hd : mdet m ≠ 1) (hidx : l'.1 * l'.2.2 = l.1 * l.2.2) (hst : stB l' (cj R m) = true) {T S T' : V} (hw : InL l' (vsub T' (vsub (vadd (mapp R T) S) (mapp (cj R m) S)))) : reflB l' (cj R m, T') = reflB l (m, T) := by
  have hRm := pmats_pm hf hR
  obtain ⟨k1, k2⟩ := cj_all hf hR hm
  obtain ⟨k3, k4⟩ := k2.resolve_left hd
  have hr' := refl_of hf (cj_closed hf hR hm) (by rw [k1]; exact hd)
  have hc := centB_of hl hl' hLL hidx hRm.det k3 k4
  have hk := lmK_of hl hl' hLL k3
  have ha := alV_of hf hl hl' hR hLL hm hd (T := T) (S := S) (T' := T') rfl
  have hg := gcd_cent hl' hr' hst
  unfold reflB
  simp only
  rw [hc, hk]
  rw [hc, hk] at hg
  generalize (if centB l m = true then lmK l (axT m) else 2 * lmK l (axT m)) = D at *
  have hD : (D : Int) ∣ alV (cj R m) (vsub T' (vsub (vadd (mapp R T) S) (mapp (cj R m) S))) := by
    obtain ⟨i, j, q1, q2⟩ := hw
    generalize vsub T' (vsub (vadd (mapp R T) S) (mapp (cj R m) S)) = w at *
    have d1 : (D : Int) ∣ (alT (cj R m)).1 * l'.1 := by rw [← hg]; exact Int.gcd_dvd_left ..
    have d2 : (D : Int) ∣ (alT (cj R m)).1 * l'.2.1 + (alT (cj R m)).2 * l'.2.2 := by rw [← hg]; exact Int.gcd_dvd_right ..
    have e : alV (cj R m) w = i * ((alT (cj R m)).1 * l'.1) + j * ((alT (cj R m)).1 * l'.2.1 + (alT (cj R m)).2 * l'.2.2) := by
      unfold alV
      rw [q1, q2]
      grind
    rw [e]
    exact Int.dvd_add (Int.dvd_mul_of_dvd_right d1) (Int.dvd_mul_of_dvd_right d2)
  have ht : ∀ x : Int, decide (Int.tmod x (D : Int) = 0) = decide ((D : Int) ∣ x) := fun x => by
    rw [Bool.eq_iff_iff, decide_eq_true_iff, decide_eq_true_iff]
    exact ⟨Int.dvd_of_tmod_eq_zero, Int.tmod_eq_zero_of_dvd⟩
  rw [ht, ht, Bool.eq_iff_iff, decide_eq_true_iff, decide_eq_true_iff]
  rcases ha with ha | ha
  · rw [ha, Int.dvd_add_left hD]
  · rw [ha, Int.dvd_add_left hD, Int.dvd_neg]
end conj
end Go.Proofs.YtckjefjkedlmbaaGreatDoor

namespace Go.Proofs.YtckjefjkedlmbaaGreatDoor
open Ai
set_option linter.unusedSimpArgs false
set_option linter.unusedVariables false
end Go.Proofs.YtckjefjkedlmbaaGreatDoor

namespace Go.Proofs.YtckjefjkedlmbaaGreatDoor
open Ai
set_option linter.unusedSimpArgs false
set_option linter.unusedVariables false
theorem nodup_mapOn {α β : Type} {f : α → β} : ∀ {xs : List α}, xs.Nodup → (∀ a ∈ xs, ∀ b ∈ xs, f a = f b → a = b) → (xs.map f).Nodup
  | [], _, _ => List.Pairwise.nil
  | x :: r, h, hi => by
    obtain ⟨h1, h2⟩ := List.nodup_cons.1 h
    rw [List.map_cons]
    refine List.nodup_cons.2 ⟨fun hm => ?_, nodup_mapOn h2 fun a ha b hb => hi a (List.mem_cons_of_mem _ ha) b (List.mem_cons_of_mem _ hb)⟩
    obtain ⟨b, hb, e⟩ := List.mem_map.1 hm
    have := hi b (List.mem_cons_of_mem _ hb) x (List.mem_cons_self ..) e
    subst this
    exact h1 hb
theorem pmats_nodup' {f : Int} (hf : f = 0 ∨ f = 1) : (pmats f).Nodup := (pmats_inc hf).imp fun {a b} h e => by
  subst e
  rw [lexB_irr] at h; cases h
theorem mem_group {q : Pat} (hq : isPat q = true) (g : Mot) : g ∈ groupG q ↔ g.1 ∈ pmats q.1 ∧ g.2 ∈ cells q.2.1 ∧ moved q g.1 g.2 = q := by
  have hf := isFrame_iff.1 (isPat_iff.1 hq).1
  have hl := (isPat_iff.1 hq).2.1
  rw [groupG_filter, List.mem_filter, mem_allM]
  constructor
  · rintro ⟨⟨h1, h2⟩, h3⟩
    obtain ⟨h4, h5⟩ := stable_st h1
    have hm := pmats_pm hf h4
    have hk := (keepsB_iff hq (mem_allM.2 ⟨h1, h2⟩)).1 h3
    rw [← stB_iff hl hm, decide_eq_true_iff] at h5
    refine ⟨h4, h2, pat_ext (isPat_moved hq hm _) hq rfl h5 fun v => ?_⟩
    rw [patAt_moved hq hm, ← hk]
    congr 1
    unfold act
    rw [minv_right hm.det]
    unfold vadd vsub; ext <;> simp only <;> omega
  · rintro ⟨h1, h2, h3⟩
    have hm := pmats_pm hf h1
    have h5 : imgL g.1 q.2.1 = q.2.1 := congrArg (fun z : Pat => z.2.1) h3
    have hs : g.1 ∈ stableL q.1 q.2.1 := List.mem_filter.2 ⟨h1, by rw [← stB_iff hl hm]; exact decide_eq_true h5⟩
    refine ⟨⟨hs, h2⟩, (keepsB_iff hq (mem_allM.2 ⟨hs, h2⟩)).2 fun v => ?_⟩
    have := patAt_moved hq hm g.2 (act g v)
    rw [h3] at this
    rw [this]
    congr 1
    have e : vsub (act g v) g.2 = mapp g.1 v := by unfold act vadd vsub; ext <;> simp only <;> omega
    rw [e, minv_left hm.det]
end Go.Proofs.YtckjefjkedlmbaaGreatDoor

namespace Go.Proofs.YtckjefjkedlmbaaGreatDoor
open Ai
set_option linter.unusedSimpArgs false
set_option linter.unusedVariables false
set_option linter.unusedSectionVars false
theorem gp_parts {f : Int} {l : Lat} {G : List Mot} (h : isGroupB f l G = true) : (∀ g ∈ G, g ∈ allM f l) ∧ G.Nodup ∧ unitM ∈ G ∧ ∀ m ∈ G, ∀ n ∈ G, prodM l m n ∈ G := by
  unfold isGroupB at h
  rw [Bool.and_eq_true, Bool.and_eq_true, decide_eq_true_iff] at h
  obtain ⟨h1, h2, h3⟩ := h
  obtain ⟨h4, h5⟩ := goodL_inc h1
  exact ⟨h4, h5.nodup, h2, fun m hm n hn => of_decide_eq_true (List.all_eq_true.1 (List.all_eq_true.1 h3 m hm) n hn)⟩
theorem inv_chain {f : Int} (hf : f = 0 ∨ f = 1) {m : Mat4} (hm : m ∈ pmats f) : mmul (mmul (mmul (mmul (mmul m m) m) (mmul m m)) (mmul (mmul (mmul m m) m) (mmul m m))) m = minv m := by
  have key : ∀ f : Int, (f = 0 ∨ f = 1) → (pmats f).all (fun m => decide (mmul (mmul (mmul (mmul (mmul m m) m) (mmul m m)) (mmul (mmul (mmul m m) m) (mmul m m))) m = minv m)) = true := by
    rintro f (rfl | rfl) <;> decide +kernel
  exact of_decide_eq_true (List.all_eq_true.1 (key f hf) m hm)
section gp
variable {f : Int} (hf : f = 0 ∨ f = 1) {l : Lat} (hl : isLat l = true) {G : List Mot} (hG : isGroupB f l G = true)
include hf hl hG
theorem gp_mat {g : Mot} (hg : g ∈ G) : g.1 ∈ pmats f ∧ stB l g.1 = true ∧ g.2 ∈ cells l := by
  have := mem_allM.1 ((gp_parts hG).1 g hg)
  exact ⟨(stable_st this.1).1, (stable_st this.1).2, this.2⟩
theorem gp_prod {g h : Mot} (hg : g ∈ G) (hh : h ∈ G) : (mmul g.1 h.1, red l (act g h.2)) ∈ G := by
  have := (gp_parts hG).2.2.2 g hg h hh
  rw [prodM_eq hf hl ((gp_parts hG).1 g hg) ((gp_parts hG).1 h hh)] at this
  exact this
theorem gp_inv {g : Mot} (hg : g ∈ G) : ∃ r ∈ G, r.1 = minv g.1 := by
  have a := gp_prod hf hl hG hg hg
  have b := gp_prod hf hl hG a hg
  have c := gp_prod hf hl hG b a
  have d := gp_prod hf hl hG c c
  have e := gp_prod hf hl hG d hg
  exact ⟨_, e, inv_chain hf (gp_mat hf hl hG hg).1⟩
theorem gp_LL {g : Mot} (hg : g ∈ G) (w : V) : InL l (mapp g.1 w) ↔ InL l w := by
  obtain ⟨g1, g2, g3⟩ := gp_mat hf hl hG hg
  obtain ⟨r, hr, hr1⟩ := gp_inv hf hl hG hg
  obtain ⟨r1, r2, r3⟩ := gp_mat hf hl hG hr
  constructor
  · intro h
    have := stB_in hl r2 h
    rw [hr1, minv_left (pmats_pm hf g1).det] at this
    exact this
  · exact stB_in hl g2
theorem gp_gd : Gd G ∧ G.length ≤ 100000 := by
  refine ⟨fun g hg => ?_, ?_⟩
  · obtain ⟨g1, g2, g3⟩ := gp_mat hf hl hG hg
    have hc := vs_cell hl g3
    refine ⟨pmats_pm hf g1, ⟨by have := hc.1; omega, by have := hc.2; omega⟩, ?_⟩
    by_cases hd : mdet g.1 = 1
    · exact .inl ⟨hd, rot_of hf g1 hd⟩
    · exact .inr ⟨hd, refl_of hf g1 hd⟩
  · have h := hG
    unfold isGroupB at h
    rw [Bool.and_eq_true] at h
    have := good_len hf hl h.1
    omega
variable (h0 : ∀ g ∈ G, g.1 = m1 → g.2 = (0, 0))
include h0
theorem gp_uniq {g h : Mot} (hg : g ∈ G) (hh : h ∈ G) (e : g.1 = h.1) : g = h := by
  obtain ⟨r, hr, hr1⟩ := gp_inv hf hl hG hg
  obtain ⟨g1, g2, g3⟩ := gp_mat hf hl hG hg
  obtain ⟨k1, k2, k3⟩ := gp_mat hf hl hG hh
  have hgm := pmats_pm hf g1
  have eu : mmul r.1 g.1 = m1 := mat_ext9 fun v => by rw [mapp_mmul, hr1, minv_left hgm.det, mapp_unit]
  have z1 := h0 _ (gp_prod hf hl hG hr hg) eu
  have z2 := h0 _ (gp_prod hf hl hG hr hh) (by simp only; rw [← e]; exact eu)
  simp only at z1 z2
  have z3 := (red_eq_iff hl).1 (z1.trans z2.symm)
  have z4 : vsub (act r g.2) (act r h.2) = mapp (minv g.1) (vsub g.2 h.2) := by
    rw [mapp_sub, ← hr1]; unfold act vadd vsub; ext <;> simp only <;> omega
  rw [z4] at z3
  have z5 := stB_in hl g2 z3
  rw [minv_right hgm.det] at z5
  have z6 := (red_eq_iff hl).2 z5
  rw [red_cell hl g3, red_cell hl k3] at z6
  exact Prod.ext e z6
theorem gp_cent {g : Mot} (hg : g ∈ G) (hd : mdet g.1 ≠ 1) (hc : centB l g.1 = true) : reflB l g = true := by
  obtain ⟨g1, g2, g3⟩ := gp_mat hf hl hG hg
  have hr := refl_of hf g1 hd
  have hk : refls.all (fun m => decide (mmul m m = m1)) = true := by decide +kernel
  have z := h0 _ (gp_prod hf hl hG hg hg) (of_decide_eq_true (List.all_eq_true.1 hk _ hr))
  simp only at z
  have z2 : act g g.2 = (alV g.1 g.2 * (axT g.1).1, alV g.1 g.2 * (axT g.1).2) := twice_eq hr g.2
  rw [z2] at z
  have z3 := lmK_dvd hl z
  unfold reflB
  rw [hc, if_pos rfl, decide_eq_true_iff]
  exact Int.tmod_eq_zero_of_dvd z3
theorem gp_conj {q g h : Mot} (hq : q ∈ G) (hg : g ∈ G) (hh : h ∈ G) (e : h.1 = cj q.1 g.1) : InL l (vsub h.2 (vsub (vadd (mapp q.1 g.2) q.2) (mapp (cj q.1 g.1) q.2))) := by
  obtain ⟨q1, q2, q3⟩ := gp_mat hf hl hG hq
  have hqm := pmats_pm hf q1
  have em : mmul q.1 g.1 = mmul h.1 q.1 := mat_ext9 fun v => by rw [mapp_mmul, mapp_mmul, e, cj_mapp hqm]
  have z := gp_uniq hf hl hG h0 (gp_prod hf hl hG hh hq) (gp_prod hf hl hG hq hg) em.symm
  have z2 := (red_eq_iff hl).1 (congrArg Prod.snd z)
  have z3 : vsub (act h q.2) (act q g.2) = vsub h.2 (vsub (vadd (mapp q.1 g.2) q.2) (mapp (cj q.1 g.1) q.2)) := by
    rw [← e]; unfold act vadd vsub; ext <;> simp only <;> omega
  rw [z3] at z2
  exact z2
theorem gp_conj_refl {q g h : Mot} (hq : q ∈ G) (hg : g ∈ G) (hh : h ∈ G) (e : h.1 = cj q.1 g.1) (hd : mdet g.1 ≠ 1) : reflB l h = reflB l g := by
  have z := reflB_of hf hl hl (gp_mat hf hl hG hq).1 (gp_LL hf hl hG hq) (gp_mat hf hl hG hg).1 hd rfl (by rw [← e]; exact (gp_mat hf hl hG hh).2.1) (gp_conj hf hl hG h0 hq hg hh e)
  rw [← e] at z
  exact z
theorem gp_count (s : Mat4 → Bool) : (G.filter fun g => s g.1).length = (((pmats f).filter fun m => G.any fun g => decide (g.1 = m)).filter s).length := by
  rw [show (G.filter fun g => s g.1).length = ((G.filter fun g => s g.1).map Prod.fst).length from (List.length_map _).symm]
  refine nodup_eq (nodup_mapOn ((gp_parts hG).2.1.filter _) fun a ha b hb e => gp_uniq hf hl hG h0 (List.mem_filter.1 ha).1 (List.mem_filter.1 hb).1 e) (((pmats_nodup' hf).filter _).filter _) fun m => ?_
  rw [List.mem_map, List.mem_filter, List.mem_filter, List.any_eq_true]
  constructor
  · rintro ⟨g, hg, rfl⟩
    obtain ⟨h1, h2⟩ := List.mem_filter.1 hg
    exact ⟨⟨(gp_mat hf hl hG h1).1, g, h1, decide_eq_true rfl⟩, h2⟩
  · rintro ⟨⟨h1, g, hg, h2⟩, h3⟩
    rw [decide_eq_true_iff] at h2
    subst h2
    exact ⟨g, List.mem_filter.2 ⟨hg, h3⟩, rfl⟩
end gp
/-! ### All groups of matrices -/
def allSubs : List Mat4 → (List Mat4 → Bool) → Bool
  | [], k => k []
  | x :: xs, k => allSubs xs k && allSubs xs fun ys => k (x :: ys)
theorem allSubs_v : ∀ (xs : List Mat4) (k : List Mat4 → Bool), allSubs xs k = true → ∀ q : Mat4 → Bool, k (xs.filter q) = true
  | [], k, h, q => h
  | x :: xs, k, h, q => by
    unfold allSubs at h
    rw [Bool.and_eq_true] at h
    cases hq : q x
    · rw [List.filter_cons_of_neg (by rw [hq]; decide)]; exact allSubs_v xs k h.1 q
    · rw [List.filter_cons_of_pos hq]; exact allSubs_v xs _ h.2 q
def closedP (P : List Mat4) : Bool := decide (m1 ∈ P) && P.all fun m => P.all fun n => decide (mmul m n ∈ P)
def maxO (P : List Mat4) : Int := rotF 1 (P.map fun m => (m, (0, 0)))
def isRM (m : Mat4) : Bool := !decide (mdet m = 1)
def shapeP (f : Int) (P : List Mat4) : Bool :=
  let r := maxO P
  let n : Int := (P.length : Int)
  let Q := P.filter isRM
  let c : Int := (Q.length : Int)
  (decide (c = 0) && decide (n = r) && (decide (r = 1) || decide (r = 2) || decide (r = 3) || decide (r = 4) || decide (r = 6))) ||
  (decide (c = r) && decide (n = 2 * r) &&
    (decide (r = 1) ||
     (decide (r = 2) && Q.all fun m => Q.all fun k => decide (k = m) || decide (k = mneg m)) ||
     (decide (r = 4) && refl0.all (fun m => decide (m ∈ P)) && Q.all (fun m => decide (m ∈ refl0)) && decide (((0, -1, 1, 0) : Mat4) ∈ P)) ||
     ((decide (r = 3) || decide (r = 6)) && (P.any fun m => decide (m ∈ rot3)) && Q.all (fun m => decide (m ∈ refl1)) && (decide (r = 6) || Q.all fun m => Q.all fun k => P.any fun R => decide (mmul k R = mmul R m)))))
def pm0 : List Mat4 := [(-1, 0, 0, -1), (-1, 0, 0, 1), (0, -1, -1, 0), (0, -1, 1, 0), (0, 1, -1, 0), (0, 1, 1, 0), (1, 0, 0, -1), (1, 0, 0, 1)]
def pm1 : List Mat4 := [(-1, -1, 0, 1), (-1, -1, 1, 0), (-1, 0, 0, -1), (-1, 0, 1, 1), (0, -1, -1, 0), (0, -1, 1, 1), (0, 1, -1, -1), (0, 1, 1, 0), (1, 0, -1, -1), (1, 0, 0, 1), (1, 1, -1, 0), (1, 1, 0, -1)]
theorem pm0_eq : pmats 0 = pm0 := by decide +kernel
theorem pm1_eq : pmats 1 = pm1 := by decide +kernel
theorem subs0 : allSubs pm0 (fun P => !closedP P || shapeP 0 P) = true := by decide +kernel
theorem subs1 : allSubs pm1 (fun P => !closedP P || shapeP 1 P) = true := by decide +kernel
theorem shape_v {f : Int} (hf : f = 0 ∨ f = 1) (q : Mat4 → Bool) (h : closedP ((pmats f).filter q) = true) : shapeP f ((pmats f).filter q) = true := by
  have key : (!closedP ((pmats f).filter q) || shapeP f ((pmats f).filter q)) = true := by
    rcases hf with rfl | rfl
    · rw [pm0_eq]; exact allSubs_v pm0 _ subs0 q
    · rw [pm1_eq]; exact allSubs_v pm1 _ subs1 q
  rw [h] at key
  exact key
theorem rotF_char : ∀ (G : List Mot) (r : Int), r ≤ rotF r G ∧ (∀ g ∈ G, mdet g.1 = 1 → ordT g.1 ≤ rotF r G) ∧ (rotF r G = r ∨ ∃ g ∈ G, mdet g.1 = 1 ∧ ordT g.1 = rotF r G)
  | [], r => ⟨Int.le_refl _, fun g hg => (by simp at hg), .inl rfl⟩
  | g :: G, r => by
    unfold rotF
    by_cases hd : mdet g.1 = 1
    · rw [if_pos hd]
      obtain ⟨h1, h2, h3⟩ := rotF_char G (max r (ordT g.1))
      refine ⟨by omega, fun k hk hkd => ?_, ?_⟩
      · rcases List.mem_cons.1 hk with rfl | hk
        · omega
        · exact h2 k hk hkd
      · rcases h3 with h3 | ⟨k, hk, h4, h5⟩
        · by_cases hm : ordT g.1 ≤ r
          · left; omega
          · right; exact ⟨g, List.mem_cons_self .., hd, by omega⟩
        · right; exact ⟨k, List.mem_cons_of_mem _ hk, h4, h5⟩
    · rw [if_neg hd]
      obtain ⟨h1, h2, h3⟩ := rotF_char G r
      refine ⟨h1, fun k hk hkd => ?_, h3.imp id fun ⟨k, hk, h4⟩ => ⟨k, List.mem_cons_of_mem _ hk, h4⟩⟩
      rcases List.mem_cons.1 hk with rfl | hk
      · exact (hd hkd).elim
      · exact h2 k hk hkd
theorem rotF_congr {G H : List Mot} (h1 : ∀ g ∈ G, ∃ k ∈ H, k.1 = g.1) (h2 : ∀ k ∈ H, ∃ g ∈ G, g.1 = k.1) : rotF 1 G = rotF 1 H := by
  obtain ⟨a1, a2, a3⟩ := rotF_char G 1
  obtain ⟨b1, b2, b3⟩ := rotF_char H 1
  have le1 : rotF 1 G ≤ rotF 1 H := by
    rcases a3 with a3 | ⟨g, hg, hd, ho⟩
    · omega
    · obtain ⟨k, hk, e⟩ := h1 g hg
      have := b2 k hk (by rw [e]; exact hd)
      rw [e] at this
      omega
  have le2 : rotF 1 H ≤ rotF 1 G := by
    rcases b3 with b3 | ⟨g, hg, hd, ho⟩
    · omega
    · obtain ⟨k, hk, e⟩ := h2 g hg
      have := a2 k hk (by rw [e]; exact hd)
      rw [e] at this
      omega
  omega
theorem filter_le {α : Type} {p q : α → Bool} : ∀ {xs : List α}, (∀ x ∈ xs, p x = true → q x = true) → (xs.filter p).length ≤ (xs.filter q).length
  | [], _ => Nat.le_refl _
  | x :: xs, h => by
    have ih := filter_le (xs := xs) fun y hy => h y (List.mem_cons_of_mem _ hy)
    have hx := h x (List.mem_cons_self ..)
    cases hp : p x
    · rw [List.filter_cons_of_neg (by rw [hp]; decide)]
      cases hq : q x
      · rw [List.filter_cons_of_neg (by rw [hq]; decide)]; exact ih
      · rw [List.filter_cons_of_pos hq, List.length_cons]; omega
    · rw [List.filter_cons_of_pos hp, List.filter_cons_of_pos (hx hp), List.length_cons, List.length_cons]; omega
def OkF (r c t cc n : Int) : Prop :=
  (Rt r ∧ c = 0 ∧ t = 0 ∧ cc = 0 ∧ n = r) ∨
  (r = 1 ∧ c = 1 ∧ ((t = 0 ∧ cc = 0) ∨ (t = 1 ∧ cc = 0) ∨ (t = 1 ∧ cc = 1)) ∧ n = 2) ∨
  (r = 2 ∧ c = 2 ∧ ((t = 0 ∧ cc = 0) ∨ (t = 1 ∧ cc = 0) ∨ (t = 2 ∧ cc = 0) ∨ (t = 2 ∧ cc = 2)) ∧ n = 4) ∨
  (r = 4 ∧ c = 4 ∧ cc = 2 ∧ (t = 2 ∨ t = 4) ∧ n = 8) ∨
  (r = 3 ∧ c = 3 ∧ t = 3 ∧ cc = 3 ∧ n = 6) ∨
  (r = 6 ∧ c = 6 ∧ t = 6 ∧ cc = 6 ∧ n = 12)
section gp2
variable {f : Int} (hf : f = 0 ∨ f = 1) {l : Lat} (hl : isLat l = true) {G : List Mot} (hG : isGroupB f l G = true) (h0 : ∀ g ∈ G, g.1 = m1 → g.2 = (0, 0))
include hf hl hG
theorem gp_mem (m : Mat4) : m ∈ ((pmats f).filter fun m => G.any fun g => decide (g.1 = m)) ↔ ∃ g ∈ G, g.1 = m := by
  rw [List.mem_filter, List.any_eq_true]
  constructor
  · rintro ⟨_, g, hg, h⟩
    exact ⟨g, hg, of_decide_eq_true h⟩
  · rintro ⟨g, hg, rfl⟩
    exact ⟨(gp_mat hf hl hG hg).1, g, hg, decide_eq_true rfl⟩
theorem gp_closed : closedP ((pmats f).filter fun m => G.any fun g => decide (g.1 = m)) = true := by
  unfold closedP
  rw [Bool.and_eq_true, decide_eq_true_iff]
  refine ⟨(gp_mem hf hl hG _).2 ⟨unitM, (gp_parts hG).2.2.1, rfl⟩, List.all_eq_true.2 fun m hm => List.all_eq_true.2 fun n hn => decide_eq_true ?_⟩
  obtain ⟨g, hg, rfl⟩ := (gp_mem hf hl hG m).1 hm
  obtain ⟨h, hh, rfl⟩ := (gp_mem hf hl hG n).1 hn
  exact (gp_mem hf hl hG _).2 ⟨_, gp_prod hf hl hG hg hh, rfl⟩
theorem gp_rot : rotF 1 G = maxO ((pmats f).filter fun m => G.any fun g => decide (g.1 = m)) := by
  unfold maxO
  refine rotF_congr (fun g hg => ?_) fun k hk => ?_
  · exact ⟨(g.1, 0, 0), List.mem_map.2 ⟨g.1, (gp_mem hf hl hG _).2 ⟨g, hg, rfl⟩, rfl⟩, rfl⟩
  · obtain ⟨m, hm, rfl⟩ := List.mem_map.1 hk
    exact (gp_mem hf hl hG _).1 hm
include h0
theorem gp_cM : nM G = ((((pmats f).filter fun m => G.any fun g => decide (g.1 = m)).filter isRM).length : Int) := by
  unfold nM
  rw [← gp_count hf hl hG h0 isRM]
  rfl
theorem gp_len : (G.length : Int) = (((pmats f).filter fun m => G.any fun g => decide (g.1 = m)).length : Int) := by
  have := gp_count hf hl hG h0 fun _ => true
  rw [List.filter_eq_self.2 fun _ _ => rfl, List.filter_eq_self.2 fun _ _ => rfl] at this
  omega
theorem gp_shape : (nM G = 0 ∧ (G.length : Int) = rotF 1 G ∧ Rt (rotF 1 G)) ∨ (nM G = rotF 1 G ∧ (G.length : Int) = 2 * rotF 1 G ∧
    (rotF 1 G = 1 ∨
     (rotF 1 G = 2 ∧ ∀ g ∈ G, ∀ k ∈ G, isR g = true → isR k = true → k.1 = g.1 ∨ k.1 = mneg g.1) ∨
     (rotF 1 G = 4 ∧ (∀ m ∈ refl0, ∃ g ∈ G, g.1 = m) ∧ (∀ g ∈ G, isR g = true → g.1 ∈ refl0) ∧ ∃ q ∈ G, q.1 = (0, -1, 1, 0)) ∨
     ((rotF 1 G = 3 ∨ rotF 1 G = 6) ∧ (∃ q ∈ G, q.1 ∈ rot3) ∧ (∀ g ∈ G, isR g = true → g.1 ∈ refl1) ∧ (rotF 1 G = 3 → ∀ g ∈ G, ∀ k ∈ G, isR g = true → isR k = true → ∃ q ∈ G, k.1 = cj q.1 g.1)))) := by
  have h := shape_v hf _ (gp_closed hf hl hG)
  unfold shapeP at h
  simp only at h
  rw [← gp_rot hf hl hG, ← gp_cM hf hl hG h0, ← gp_len hf hl hG h0] at h
  have hQ : ∀ g ∈ G, isR g = true → g.1 ∈ (((pmats f).filter fun m => G.any fun g => decide (g.1 = m)).filter isRM) := fun g hg hr =>
    List.mem_filter.2 ⟨(gp_mem hf hl hG _).2 ⟨g, hg, rfl⟩, hr⟩
  rw [Bool.or_eq_true] at h
  rcases h with h | h
  · left
    simp only [Bool.and_eq_true, Bool.or_eq_true, decide_eq_true_iff] at h
    exact ⟨h.1.1, h.1.2, by unfold Rt; omega⟩
  · right
    rw [Bool.and_eq_true, Bool.and_eq_true, decide_eq_true_iff, decide_eq_true_iff] at h
    obtain ⟨⟨e1, e2⟩, h⟩ := h
    refine ⟨e1, e2, ?_⟩
    rw [Bool.or_eq_true, Bool.or_eq_true, Bool.or_eq_true] at h
    rcases h with ((h | h) | h) | h
    · exact .inl (of_decide_eq_true h)
    · rw [Bool.and_eq_true, decide_eq_true_iff] at h
      refine .inr (.inl ⟨h.1, fun g hg k hk h1 h2 => ?_⟩)
      have := List.all_eq_true.1 (List.all_eq_true.1 h.2 _ (hQ g hg h1)) _ (hQ k hk h2)
      simpa using this
    · rw [Bool.and_eq_true, Bool.and_eq_true, Bool.and_eq_true, decide_eq_true_iff, decide_eq_true_iff] at h
      obtain ⟨⟨⟨h1, h2⟩, h3⟩, h4⟩ := h
      refine .inr (.inr (.inl ⟨h1, fun m hm => (gp_mem hf hl hG m).1 (of_decide_eq_true (List.all_eq_true.1 h2 m hm)), fun g hg hr => of_decide_eq_true (List.all_eq_true.1 h3 _ (hQ g hg hr)), (gp_mem hf hl hG _).1 h4⟩))
    · rw [Bool.and_eq_true, Bool.and_eq_true, Bool.and_eq_true] at h
      obtain ⟨⟨⟨h1, h2⟩, h3⟩, h4⟩ := h
      obtain ⟨m, hm, h5⟩ := List.any_eq_true.1 h2
      obtain ⟨q, hq, e⟩ := (gp_mem hf hl hG m).1 hm
      refine .inr (.inr (.inr ⟨by simpa using h1, ⟨q, hq, by rw [e]; exact of_decide_eq_true h5⟩, fun g hg hr => of_decide_eq_true (List.all_eq_true.1 h3 _ (hQ g hg hr)), fun h6 g hg k hk r1 r2 => ?_⟩))
      rw [decide_eq_false (by omega), Bool.false_or] at h4
      obtain ⟨R, hR, h7⟩ := List.any_eq_true.1 (List.all_eq_true.1 (List.all_eq_true.1 h4 _ (hQ g hg r1)) _ (hQ k hk r2))
      obtain ⟨q', hq', e'⟩ := (gp_mem hf hl hG R).1 hR
      rw [decide_eq_true_iff] at h7
      refine ⟨q', hq', cj_of (pmats_pm hf (gp_mat hf hl hG hq').1) ?_⟩
      rw [e']
      exact h7
theorem gp_facts : OkF (rotF 1 G) (nM G) (nT l G) (nC l G) (G.length : Int) := by
  have le1 : nC l G ≤ nT l G := by
    unfold nC nT
    refine Int.ofNat_le.2 (filter_le fun g hg h => ?_)
    rw [Bool.and_eq_true] at h ⊢
    refine ⟨h.1, gp_cent hf hl hG h0 hg (fun e => ?_) h.2⟩
    have := h.1
    unfold isR at this
    rw [decide_eq_true e] at this
    cases this
  have le2 : nT l G ≤ nM G := by
    unfold nT nM
    refine Int.ofNat_le.2 (filter_le fun g hg h => ?_)
    rw [Bool.and_eq_true] at h
    exact h.1
  have z1 : 0 ≤ nC l G := by unfold nC; omega
  have hall : (∀ g ∈ G, isR g = true → centB l g.1 = true) → nC l G = nM G := fun h => by
    unfold nC nM
    congr 2
    refine List.filter_congr fun g hg => ?_
    cases hr : isR g
    · rfl
    · rw [h g hg hr]; rfl
  have hnone : (∀ g ∈ G, isR g = true → centB l g.1 = false) → nC l G = 0 := fun h => by
    unfold nC
    rw [List.filter_eq_nil_iff.2 fun g hg => ?_]
    · rfl
    · cases hr : isR g
      · simp
      · rw [h g hg hr]; simp
  rcases gp_shape hf hl hG h0 with ⟨e1, e2, e3⟩ | ⟨e1, e2, h⟩
  · exact .inl ⟨e3, e1, by omega, by omega, e2⟩
  · rcases h with h | ⟨h, hp⟩ | ⟨h, p1, p2, q, hq, hq1⟩ | ⟨h, ⟨q, hq, hq3⟩, p1, p2⟩
    · right; left
      refine ⟨h, by omega, by omega, by omega⟩
    · right; right; left
      refine ⟨h, by omega, ?_, by omega⟩
      by_cases hx : ∃ g ∈ G, isR g = true ∧ centB l g.1 = true
      · obtain ⟨g, hg, r1, c1⟩ := hx
        have := hall fun k hk r2 => by
          rcases hp g hg k hk r1 r2 with e | e
          · rw [e]; exact c1
          · rw [e, cent_neg]; exact c1
        omega
      · have := hnone fun g hg r1 => by
          cases hc : centB l g.1
          · rfl
          · exact (hx ⟨g, hg, r1, hc⟩).elim
        omega
    · right; right; right; left
      have hst : ∀ m ∈ refl0, stB l m = true := fun m hm => by
        obtain ⟨g, hg, rfl⟩ := p1 m hm
        exact (gp_mat hf hl hG hg).2.1
      have hx := (pair_v hl).1 (hst (1, 0, 0, -1) (by simp [refl0])) (hst (0, 1, 1, 0) (by simp [refl0]))
      have n1 : centB l (-1, 0, 0, 1) = centB l (1, 0, 0, -1) := by
        have e : mneg (1, 0, 0, -1) = (-1, 0, 0, 1) := by decide
        rw [← e]; exact cent_neg l _
      have n2 : centB l (0, -1, -1, 0) = centB l (0, 1, 1, 0) := by
        have e : mneg (0, 1, 1, 0) = (0, -1, -1, 0) := by decide
        rw [← e]; exact cent_neg l _
      have hc : nC l G = 2 := by
        have e := gp_count hf hl hG h0 fun m => isRM m && centB l m
        have e' : nC l G = ((G.filter fun g => isRM g.1 && centB l g.1).length : Int) := rfl
        have e3 := nodup_eq (xs := ((pmats f).filter fun m => G.any fun g => decide (g.1 = m)).filter fun m => isRM m && centB l m) (ys := refl0.filter (centB l)) (((pmats_nodup' hf).filter _).filter _) ((show refl0.Nodup by decide).filter _) fun m => by
          rw [List.mem_filter, gp_mem hf hl hG, List.mem_filter, Bool.and_eq_true]
          constructor
          · rintro ⟨⟨g, hg, rfl⟩, r1, c1⟩
            exact ⟨p2 g hg r1, c1⟩
          · rintro ⟨h1, h2⟩
            obtain ⟨g, hg, e⟩ := p1 m h1
            refine ⟨⟨g, hg, e⟩, ?_, h2⟩
            have : refl0.all isRM = true := by decide
            exact List.all_eq_true.1 this m h1
        rw [e', e, e3]
        unfold refl0
        simp only [List.filter_cons, List.filter_nil, n1, n2, hx]
        cases centB l (0, 1, 1, 0) <;> rfl
      refine ⟨h, by omega, hc, ?_, by omega⟩
      by_cases ha : ∀ g ∈ G, isR g = true → reflB l g = true
      · right
        have : nT l G = nM G := by
          unfold nT nM
          congr 2
          refine List.filter_congr fun g hg => ?_
          cases hr : isR g
          · rfl
          · rw [ha g hg hr]; rfl
        omega
      · left
        have ⟨g, hg⟩ := Classical.not_forall.1 ha
        have ⟨g1, hg⟩ := Classical.not_imp.1 hg
        obtain ⟨g2, g3⟩ := Classical.not_imp.1 hg
        have hdet : ∀ k ∈ G, isR k = true → mdet k.1 ≠ 1 := fun k hk hr e => by
          unfold isR at hr
          rw [decide_eq_true e] at hr
          cases hr
        have g4 : centB l g.1 = false := by
          cases hc : centB l g.1
          · rfl
          · exact (g3 (gp_cent hf hl hG h0 g1 (hdet g g1 g2) hc)).elim
        have key : ∀ k ∈ G, isR k = true → centB l k.1 = false → reflB l k = false := fun k hk r2 c2 => by
          have hk0 := p2 k hk r2
          have hg0 := p2 g g1 g2
          have hor : k.1 = g.1 ∨ k.1 = cj (0, -1, 1, 0) g.1 := by
            have fin : ∀ a ∈ refl0, ∀ b ∈ refl0, b = a ∨ b = cj (0, -1, 1, 0) a ∨ (a ∈ [((1, 0, 0, -1) : Mat4), (-1, 0, 0, 1)] ∧ b ∈ [((0, 1, 1, 0) : Mat4), (0, -1, -1, 0)]) ∨ (b ∈ [((1, 0, 0, -1) : Mat4), (-1, 0, 0, 1)] ∧ a ∈ [((0, 1, 1, 0) : Mat4), (0, -1, -1, 0)]) := fun a ha b hb => by
              have key : (refl0.all fun a => refl0.all fun b => decide (b = a) || (decide (b = cj (0, -1, 1, 0) a) || ((decide (a ∈ [((1, 0, 0, -1) : Mat4), (-1, 0, 0, 1)]) && decide (b ∈ [((0, 1, 1, 0) : Mat4), (0, -1, -1, 0)])) || (decide (b ∈ [((1, 0, 0, -1) : Mat4), (-1, 0, 0, 1)]) && decide (a ∈ [((0, 1, 1, 0) : Mat4), (0, -1, -1, 0)]))))) = true := by decide +kernel
              have := List.all_eq_true.1 (List.all_eq_true.1 key a ha) b hb
              rw [Bool.or_eq_true, Bool.or_eq_true, Bool.or_eq_true, Bool.and_eq_true, Bool.and_eq_true, decide_eq_true_iff, decide_eq_true_iff, decide_eq_true_iff, decide_eq_true_iff, decide_eq_true_iff, decide_eq_true_iff] at this
              exact this
            have s1 : ∀ a ∈ [((1, 0, 0, -1) : Mat4), (-1, 0, 0, 1)], centB l a = centB l (1, 0, 0, -1) := fun a ha => by
              simp only [List.mem_cons, List.mem_nil_iff, or_false] at ha
              rcases ha with rfl | rfl
              · rfl
              · exact n1
            have s2 : ∀ a ∈ [((0, 1, 1, 0) : Mat4), (0, -1, -1, 0)], centB l a = centB l (0, 1, 1, 0) := fun a ha => by
              simp only [List.mem_cons, List.mem_nil_iff, or_false] at ha
              rcases ha with rfl | rfl
              · rfl
              · exact n2
            rcases fin g.1 hg0 k.1 hk0 with e | e | ⟨e, e'⟩ | ⟨e, e'⟩
            · exact .inl e
            · exact .inr e
            · exfalso
              rw [s1 _ e] at g4
              rw [s2 _ e'] at c2
              rw [g4, c2] at hx
              cases hx
            · exfalso
              rw [s2 _ e'] at g4
              rw [s1 _ e] at c2
              rw [g4, c2] at hx
              cases hx
          have g5 : reflB l g = false := by simpa using g3
          rcases hor with e | e
          · rw [gp_uniq hf hl hG h0 hk g1 e]; exact g5
          · rw [gp_conj_refl hf hl hG h0 hq g1 hk (by rw [hq1]; exact e) (hdet g g1 g2)]; exact g5
        have : nT l G = nC l G := by
          unfold nT nC
          congr 2
          refine List.filter_congr fun k hk => ?_
          cases hr : isR k
          · rfl
          · cases hc2 : centB l k.1
            · rw [key k hk hr hc2]
            · rw [gp_cent hf hl hG h0 hk (hdet k hk hr) hc2]
        omega
    · have hc := hall fun g hg r1 => (pair_v hl).2 q.1 hq3 (gp_mat hf hl hG hq).2.1 g.1 (p1 g hg r1) (gp_mat hf hl hG hg).2.1
      rcases h with h | h
      · right; right; right; right; left
        exact ⟨h, by omega, by omega, by omega, by omega⟩
      · right; right; right; right; right
        exact ⟨h, by omega, by omega, by omega, by omega⟩
theorem gp_along (h3 : rotF 1 G = 3) {g k : Mot} (hg : g ∈ G) (hk : k ∈ G) (r1 : isR g = true) (r2 : isR k = true) (b : Int) : AS f l b k.1 = AS f l b g.1 := by
  rcases gp_shape hf hl hG h0 with ⟨e1, e2, e3⟩ | ⟨e1, e2, h⟩
  · exfalso
    unfold nM at e1
    have : g ∈ G.filter isR := List.mem_filter.2 ⟨hg, r1⟩
    have := List.length_pos_of_mem this
    omega
  · rcases h with h | ⟨h, hp⟩ | ⟨h, _⟩ | ⟨h, _, p1, p2⟩
    · omega
    · omega
    · omega
    · obtain ⟨q, hq, e⟩ := p2 h3 g hg k hk r1 r2
      have hd : mdet g.1 ≠ 1 := fun e => by
        unfold isR at r1
        rw [decide_eq_true e] at r1
        cases r1
      obtain ⟨k1, k2⟩ := cj_all hf (gp_mat hf hl hG hq).1 (gp_mat hf hl hG hg).1
      have := norm_of hf hl hl (gp_mat hf hl hG hq).1 (gp_LL hf hl hG hq) (k2.resolve_left hd).1
      unfold AS
      rw [e, this]
end gp2
theorem fiA_mem (f : Int) (l : Lat) (b : Int) : ∀ (G : List Mot) (a : Bool), (nM G = 0 ∧ fiA f l b G a = a) ∨ ∃ g ∈ G, isR g = true ∧ fiA f l b G a = AS f l b g.1
  | [], a => .inl ⟨rfl, rfl⟩
  | g :: G, a => by
    rw [fiA]
    cases hr : isR g
    · rcases fiA_mem f l b G a with ⟨h1, h2⟩ | ⟨k, hk, h⟩
      · refine .inl ⟨?_, by simpa using h2⟩
        unfold nM at h1 ⊢
        rw [List.filter_cons_of_neg (by rw [hr]; decide)]
        exact h1
      · exact .inr ⟨k, List.mem_cons_of_mem _ hk, by simpa using h⟩
    · exact .inr ⟨g, List.mem_cons_self .., hr, rfl⟩
end Go.Proofs.YtckjefjkedlmbaaGreatDoor

namespace Go.Proofs.YtckjefjkedlmbaaGreatDoor
open Ai
set_option linter.unusedSimpArgs false
set_option linter.unusedVariables false
set_option linter.unusedSectionVars false
def LeanP (a : Pat) : Prop := isPat a = true ∧ fullOf a = a.2.1
theorem leanP_of {p : Pat} (hp : isPat p = true) : LeanP (onLat p (fullOf p)) := ⟨isPat_lean hp, full_lean hp⟩
theorem leanP_on {a : Pat} (h : LeanP a) : onLat a (fullOf a) = a := by
  rw [h.2]
  exact pat_ext (isPat_onLat h.1 (isPat_iff.1 h.1).2.1) h.1 rfl rfl fun v => patAt_onLat h.1 (isPat_iff.1 h.1).2.1 (fun t ht => per_lat h.1 ht) v
theorem leanP_moved {a : Pat} (h : LeanP a) {m : Mat4} (hm : Pm m) (t : V) : LeanP (moved a m t) := by
  have ha := h.1
  have hl := (isPat_iff.1 ha).2.1
  have hb := isPat_moved ha hm t
  have hlb := (isPat_iff.1 hb).2.1
  refine ⟨hb, lat_ext (isLat_fullOf hb) hlb fun w => ?_⟩
  rw [inL_full hb]
  constructor
  · intro h2
    refine (inL_minv hl hm w).2 ?_
    rw [← h.2, inL_full ha]
    intro v
    have := h2 (vadd (mapp m v) t)
    rw [patAt_moved ha hm, patAt_moved ha hm] at this
    have e1 : vsub (vadd (mapp m v) t) t = mapp m v := by unfold vsub vadd; ext <;> simp only <;> omega
    have e2 : vsub (vadd (vadd (mapp m v) t) w) t = vadd (mapp m v) w := by unfold vsub vadd; ext <;> simp only <;> omega
    rw [e1, e2, mapp_add, minv_left hm.det] at this
    exact this
  · exact per_lat hb
theorem leanP_shift {a : Pat} (h : LeanP a) : ∀ g ∈ groupG a, g.1 = m1 → g.2 = (0, 0) := fun g hg e => by
  have ha := h.1
  have hl := (isPat_iff.1 ha).2.1
  rw [groupG_filter, List.mem_filter, mem_allM] at hg
  obtain ⟨⟨h1, h2⟩, h3⟩ := hg
  have e2 : g = ((1, 0, 0, 1), g.2) := Prod.ext e rfl
  rw [e2] at h3
  have h4 := (inL_full ha g.2).2 ((keepsB_unit ha h2).1 h3)
  rw [h.2] at h4
  have h5 := (inL_iff hl _).2 h4
  rw [red_cell hl h2] at h5
  exact h5
theorem nodup_sub {α : Type} [DecidableEq α] {xs ys : List α} (h1 : xs.Nodup) (h : ∀ x ∈ xs, x ∈ ys) (hn : ys.length ≤ xs.length) : ∀ y ∈ ys, y ∈ xs := fun y hy => by
  by_cases hx : y ∈ xs
  · exact hx
  · exfalso
    have := nodup_le (y :: xs) ys (List.nodup_cons.2 ⟨hx, h1⟩) fun z hz => by
      rcases List.mem_cons.1 hz with rfl | hz
      · exact hy
      · exact h z hz
    simp only [List.length_cons] at this
    omega
def phi (R : Mat4) (S : V) (l : Lat) (g : Mot) : Mot := (cj R g.1, red l (vsub (vadd (mapp R g.2) S) (mapp (cj R g.1) S)))
section mv
variable {a : Pat} (ha : LeanP a) {R : Mat4} (hR : R ∈ pmats a.1) (S : V)
include ha hR
theorem phi_mem {g : Mot} (hg : g ∈ groupG a) : phi R S (imgL R a.2.1) g ∈ groupG (moved a R S) := by
  have hf := isFrame_iff.1 (isPat_iff.1 ha.1).1
  have hRm := pmats_pm hf hR
  obtain ⟨g1, g2, g3⟩ := (mem_group ha.1 g).1 hg
  have hgm := pmats_pm hf g1
  have hb := isPat_moved ha.1 hRm S
  have hlb := (isPat_iff.1 hb).2.1
  have hc := cj_closed hf hR g1
  have hcm := pmats_pm hf hc
  have em : mmul (cj R g.1) R = mmul R g.1 := mat_ext9 fun v => by rw [mapp_mmul, mapp_mmul, cj_mapp hRm]
  have hRg := pmats_pm hf (mmul_closed hf hR g1)
  have e : moved (moved a R S) (cj R g.1) (vsub (vadd (mapp R g.2) S) (mapp (cj R g.1) S)) = moved a R S := by
    rw [moved_moved ha.1 hRm hcm (by rw [em]; exact hRg), em]
    have e2 : vadd (mapp (cj R g.1) S) (vsub (vadd (mapp R g.2) S) (mapp (cj R g.1) S)) = vadd (mapp R g.2) S := by
      unfold vadd vsub; ext <;> simp only <;> omega
    rw [e2, ← moved_moved ha.1 hgm hRm hRg, g3]
  refine (mem_group hb _).2 ⟨hc, red_mem hlb _, ?_⟩
  have hlat : imgL (cj R g.1) (moved a R S).2.1 = (moved a R S).2.1 := congrArg (fun z : Pat => z.2.1) e
  refine Eq.trans (moved_congr hb hcm ?_).symm e
  rw [hlat]
  exact red_in hlb _
theorem phi_inj {g h : Mot} (hg : g ∈ groupG a) (hh : h ∈ groupG a) (e : phi R S (imgL R a.2.1) g = phi R S (imgL R a.2.1) h) : g = h := by
  have hf := isFrame_iff.1 (isPat_iff.1 ha.1).1
  have hRm := pmats_pm hf hR
  have e1 : cj R g.1 = cj R h.1 := congrArg Prod.fst e
  refine gp_uniq hf (isPat_iff.1 ha.1).2.1 (group_keep ha.1) (leanP_shift ha) hg hh (mat_ext9 fun v => ?_)
  have := congrArg (fun m => mapp (minv R) (mapp m (mapp R v))) e1
  simp only [cj_mapp hRm, minv_left hRm.det] at this
  exact this
theorem phi_nodup : ((groupG a).map (phi R S (imgL R a.2.1))).Nodup :=
  nodup_mapOn (gp_parts (group_keep ha.1)).2.1 fun _ hg _ hh e => phi_inj ha hR S hg hh e
theorem grp_le : (groupG a).length ≤ (groupG (moved a R S)).length := by
  have := nodup_le _ (groupG (moved a R S)) (phi_nodup ha hR S) fun x hx => by
    obtain ⟨g, hg, rfl⟩ := List.mem_map.1 hx
    exact phi_mem ha hR S hg
  rw [List.length_map] at this
  exact this
theorem grp_eq : (groupG (moved a R S)).length = (groupG a).length := by
  have hf := isFrame_iff.1 (isPat_iff.1 ha.1).1
  have hRm := pmats_pm hf hR
  have h1 := grp_le ha hR S
  have h2 := grp_le (leanP_moved ha hRm S) (R := minv R) (minv_closed hf hR) (vneg (mapp (minv R) S))
  rw [moved_back ha.1 hRm] at h2
  omega
theorem phi_onto {k : Mot} (hk : k ∈ groupG (moved a R S)) : ∃ g ∈ groupG a, phi R S (imgL R a.2.1) g = k := by
  have := nodup_sub (phi_nodup ha hR S) (ys := groupG (moved a R S)) (fun x hx => by
    obtain ⟨g, hg, rfl⟩ := List.mem_map.1 hx
    exact phi_mem ha hR S hg) (by rw [List.length_map, grp_eq ha hR S]; exact Nat.le_refl _) k hk
  obtain ⟨g, hg, e⟩ := List.mem_map.1 this
  exact ⟨g, hg, e⟩
theorem phi_count {q q' : Mot → Bool} (h : ∀ g ∈ groupG a, q' (phi R S (imgL R a.2.1) g) = q g) : ((groupG (moved a R S)).filter q').length = ((groupG a).filter q).length := by
  have hf := isFrame_iff.1 (isPat_iff.1 ha.1).1
  have hb := isPat_moved ha.1 (pmats_pm hf hR) S
  rw [show ((groupG a).filter q).length = (((groupG a).filter q).map (phi R S (imgL R a.2.1))).length from (List.length_map _).symm]
  refine nodup_eq ((gp_parts (group_keep hb)).2.1.filter _) (nodup_mapOn ((gp_parts (group_keep ha.1)).2.1.filter _) fun g hg h hh e => phi_inj ha hR S (List.mem_filter.1 hg).1 (List.mem_filter.1 hh).1 e) fun k => ?_
  rw [List.mem_filter, List.mem_map]
  constructor
  · rintro ⟨h1, h2⟩
    obtain ⟨g, hg, rfl⟩ := phi_onto ha hR S h1
    exact ⟨g, List.mem_filter.2 ⟨hg, by rw [← h g hg]; exact h2⟩, rfl⟩
  · rintro ⟨g, hg, rfl⟩
    obtain ⟨h1, h2⟩ := List.mem_filter.1 hg
    exact ⟨phi_mem ha hR S h1, by rw [h g h1]; exact h2⟩
theorem phi_isR {g : Mot} (hg : g ∈ groupG a) : isR (phi R S (imgL R a.2.1) g) = isR g := by
  have hf := isFrame_iff.1 (isPat_iff.1 ha.1).1
  unfold isR phi
  simp only
  rw [(cj_all hf hR ((mem_group ha.1 g).1 hg).1).1]
theorem idx_eq : (imgL R a.2.1).1 * (imgL R a.2.1).2.2 = a.2.1.1 * a.2.1.2.2 := by
  have hf := isFrame_iff.1 (isPat_iff.1 ha.1).1
  have hl := (isPat_iff.1 ha.1).2.1
  have h := isLat_imgL hl (pmats_pm hf hR)
  have c1 := (cells_len' h.1).1
  have c2 := (cells_len' hl).1
  rw [h.2] at c1
  omega
theorem isR_det {g : Mot} (h : isR g = true) : mdet g.1 ≠ 1 := fun e => by
  unfold isR at h
  rw [decide_eq_true e] at h
  cases h
theorem facts_moved {b b' : Int} (hb : Least a.1 a.2.1 b) (hb' : Least a.1 (imgL R a.2.1) b') :
    rotF 1 (groupG (moved a R S)) = rotF 1 (groupG a) ∧ nM (groupG (moved a R S)) = nM (groupG a) ∧ nT (imgL R a.2.1) (groupG (moved a R S)) = nT a.2.1 (groupG a) ∧ nC (imgL R a.2.1) (groupG (moved a R S)) = nC a.2.1 (groupG a) ∧
    (nM (groupG a) = 0 → fiA a.1 (imgL R a.2.1) b' (groupG (moved a R S)) false = false ∧ fiA a.1 a.2.1 b (groupG a) false = false) ∧
    (rotF 1 (groupG a) = 3 → fiA a.1 (imgL R a.2.1) b' (groupG (moved a R S)) false = fiA a.1 a.2.1 b (groupG a) false) := by
  have hf := isFrame_iff.1 (isPat_iff.1 ha.1).1
  have hl := (isPat_iff.1 ha.1).2.1
  have hRm := pmats_pm hf hR
  have hp' := isPat_moved ha.1 hRm S
  have hl' := (isPat_iff.1 hp').2.1
  have hl2 : isLat (imgL R a.2.1) = true := hl'
  have hLL : ∀ w, InL (imgL R a.2.1) (mapp R w) ↔ InL a.2.1 w := inL_mapp hl hRm
  have hG := group_keep ha.1
  have hG' := group_keep hp'
  have h0 := leanP_shift ha
  have h0' := leanP_shift (leanP_moved ha hRm S)
  have hidx := idx_eq ha hR
  have eM : nM (groupG (moved a R S)) = nM (groupG a) := by
    unfold nM
    rw [phi_count ha hR S fun g hg => phi_isR ha hR S hg]
  have hax : ∀ g ∈ groupG a, isR g = true → axOk (axT (cj R g.1)) (mapp R (axT g.1)) ∧ axOk (axT (mneg (cj R g.1))) (mapp R (axT (mneg g.1))) := fun g hg hr =>
    ((cj_all hf hR ((mem_group ha.1 g).1 hg).1).2).resolve_left (isR_det ha hR hr)
  have eC : nC (imgL R a.2.1) (groupG (moved a R S)) = nC a.2.1 (groupG a) := by
    unfold nC
    rw [phi_count ha hR S (q := fun g => isR g && centB a.2.1 g.1) fun g hg => ?_]
    rw [phi_isR ha hR S hg]
    cases hr : isR g
    · rfl
    · obtain ⟨x1, x2⟩ := hax g hg hr
      show (true && centB (imgL R a.2.1) (cj R g.1)) = _
      rw [centB_of hl hl2 hLL hidx hRm.det x1 x2]
  have eT : nT (imgL R a.2.1) (groupG (moved a R S)) = nT a.2.1 (groupG a) := by
    unfold nT
    rw [phi_count ha hR S (q := fun g => isR g && reflB a.2.1 g) fun g hg => ?_]
    rw [phi_isR ha hR S hg]
    cases hr : isR g
    · rfl
    · have hm := phi_mem ha hR S hg
      have hst := (gp_mat hf hl' hG' hm).2.1
      show (true && reflB (imgL R a.2.1) (cj R g.1, red (imgL R a.2.1) (vsub (vadd (mapp R g.2) S) (mapp (cj R g.1) S)))) = _
      rw [reflB_of hf hl hl2 hR hLL ((mem_group ha.1 g).1 hg).1 (isR_det ha hR hr) hidx hst (T := g.2) (S := S) ?_]
      have := (red_in hl2 (vsub (vadd (mapp R g.2) S) (mapp (cj R g.1) S))).neg
      have e : ∀ u v : V, (-(vsub u v).1, -(vsub u v).2) = vsub v u := fun u v => by unfold vsub; ext <;> simp only <;> omega
      rw [e] at this
      exact this
  have eL := grp_eq ha hR S
  have eR : rotF 1 (groupG (moved a R S)) = rotF 1 (groupG a) := by
    have r1 := (rotF_char (groupG a) 1).1
    have r2 := (rotF_char (groupG (moved a R S)) 1).1
    rcases gp_shape hf hl hG h0 with ⟨q1, q2, _⟩ | ⟨q1, q2, _⟩ <;> rcases gp_shape hf hl' hG' h0' with ⟨s1, s2, _⟩ | ⟨s1, s2, _⟩ <;> omega
  refine ⟨eR, eM, eT, eC, fun h => ?_, fun h3 => ?_⟩
  · constructor
    · rcases fiA_mem a.1 (imgL R a.2.1) b' (groupG (moved a R S)) false with ⟨_, h2⟩ | ⟨k, hk, hr, _⟩
      · exact h2
      · exfalso
        have : k ∈ (groupG (moved a R S)).filter isR := List.mem_filter.2 ⟨hk, hr⟩
        have := List.length_pos_of_mem this
        unfold nM at eM h
        omega
    · rcases fiA_mem a.1 a.2.1 b (groupG a) false with ⟨_, h2⟩ | ⟨k, hk, hr, _⟩
      · exact h2
      · exfalso
        have : k ∈ (groupG a).filter isR := List.mem_filter.2 ⟨hk, hr⟩
        have := List.length_pos_of_mem this
        unfold nM at h
        omega
  · rcases fiA_mem a.1 (imgL R a.2.1) b' (groupG (moved a R S)) false with ⟨q1, q2⟩ | ⟨k, hk, hr, q2⟩ <;> rcases fiA_mem a.1 a.2.1 b (groupG a) false with ⟨s1, s2⟩ | ⟨g, hg, gr, s2⟩
    · rw [q2, s2]
    · exfalso
      have : g ∈ (groupG a).filter isR := List.mem_filter.2 ⟨hg, gr⟩
      have := List.length_pos_of_mem this
      rw [eM] at q1
      unfold nM at q1
      omega
    · exfalso
      have : k ∈ (groupG (moved a R S)).filter isR := List.mem_filter.2 ⟨hk, hr⟩
      have := List.length_pos_of_mem this
      rw [← eM] at s1
      unfold nM at s1
      omega
    · rw [q2, s2]
      obtain ⟨g2, hg2, rfl⟩ := phi_onto ha hR S hk
      rw [phi_isR ha hR S hg2] at hr
      rw [← gp_along hf hl hG h0 h3 hg hg2 gr hr]
      have hn := norm_of hf hl hl2 hR hLL (hax g2 hg2 hr).1
      unfold AS
      show decide (normV a.1 (lmV (imgL R a.2.1) (axT (cj R g2.1))) = b') = _
      rw [hn, least_of hf hl hl2 hR hLL hb hb']
end mv
end Go.Proofs.YtckjefjkedlmbaaGreatDoor

namespace Go.Proofs.YtckjefjkedlmbaaGreatDoor
open Ai
set_option linter.unusedSimpArgs false
set_option linter.unusedVariables false
theorem sIndex_first (xs : List (List UInt8)) (hn : xs.length ≤ 1000) (c : List UInt8) (i : Nat) (hi : i < xs.length) (hc : xs[i] = c) : ∀ (d k : Nat), k + d = i → (∀ j (h : j < xs.length), k ≤ j → j < i → xs[j] ≠ c) → slices_Index_Sstring_string_l0 xs c (xs.length : Int) (k : Int) = some (.inr (i : Int))
  | 0, k, hk, h => by
    have : k = i := by omega
    subst this
    rw [slices_Index_Sstring_string_l0_eq, decide_eq_true (by omega), rd_lt hi]
    simp only [cond_true, Option.bind_some, Option.bind_fun_some]
    rw [decide_eq_true hc.symm]
    rfl
  | d + 1, k, hk, h => by
    have hlt : k < xs.length := by omega
    have ih := sIndex_first xs hn c i hi hc d (k + 1) (by omega) fun j hj h1 h2 => h j hj (by omega) h2
    rw [slices_Index_Sstring_string_l0_eq, decide_eq_true (by omega), rd_lt hlt]
    simp only [cond_true, Option.bind_some, Option.bind_fun_some]
    rw [wnext hlt (by omega), decide_eq_false fun e => h k hlt (Nat.le_refl _) (by omega) e.symm, cond_false]
    exact ih
def namesL : List (List UInt8) := [[112, 49], [112, 50], [112, 109], [112, 103], [99, 109], [112, 109, 109], [112, 109, 103], [112, 103, 103], [99, 109, 109], [112, 52], [112, 52, 109], [112, 52, 103], [112, 51], [112, 51, 109, 49], [112, 51, 49, 109], [112, 54], [112, 54, 109]]
theorem names_eq : impl_GroupNames = some namesL := by rw [impl_GroupNames_eq]; rfl
theorem names_ne : ∀ i j : Fin 17, j < i → namesL.getD j.val [] ≠ namesL.getD i.val [] := by decide
theorem index_at (i : Fin 17) : slices_Index_Sstring_string namesL (namesL[i.val]'(by have := i.2; show i.val < 17; omega)) = some (i.val : Int) := by
  have hl : namesL.length = 17 := rfl
  have hi : i.val < namesL.length := by rw [hl]; exact i.2
  rw [slices_Index_Sstring_string_eq]
  have := sIndex_first namesL (by rw [hl]; decide) _ i.val hi rfl i.val 0 (by omega) fun j hj _ h2 e => names_ne i ⟨j, by rw [hl] at hj; exact hj⟩ h2 (by
    simp only [List.getD, List.getElem?_eq_getElem hi, List.getElem?_eq_getElem hj, Option.getD_some]
    exact e)
  rw [show slices_Index_Sstring_string_l0 namesL (namesL[i.val]'hi) (namesL.length : Int) 0 = _ from this]
  rfl
theorem order_at (i : Fin 17) : impl_PointOrder (namesL[i.val]'(by have := i.2; show i.val < 17; omega)) = some (([1, 2, 2, 2, 2, 4, 4, 4, 4, 4, 8, 8, 3, 6, 6, 6, 12] : List Int)[i.val]'(by have := i.2; show i.val < 17; omega), 0) := by
  rw [impl_PointOrder_eq, names_eq]
  simp only [Option.bind_some, index_at i]
  revert i
  decide
theorem name_v {r c t cc n : Int} {a : Bool} (h : OkF r c t cc n) (ha : c = 0 → a = false) : ∃ w, impl_nameOfFacts (r, c, t, cc, a) = some w ∧ spec_l12Name (r, c, t, cc, a) = some w ∧ impl_PointOrder w = some (n, 0) := by
  rw [impl_nameOfFacts_eq, impl_nameWithMirrors_eq, spec_l12Name_eq, spec_l12Small_eq, spec_l12Plain_eq, names_eq]
  simp only [impl_within_eq, spec_l01In_eq]
  rcases h with ⟨hr, rfl, rfl, rfl, rfl⟩ | ⟨rfl, rfl, h, rfl⟩ | ⟨rfl, rfl, h, rfl⟩ | ⟨rfl, rfl, rfl, h, rfl⟩ | ⟨rfl, rfl, rfl, rfl, rfl⟩ | ⟨rfl, rfl, rfl, rfl, rfl⟩
  · rw [ha rfl]
    rcases hr with rfl | rfl | rfl | rfl | rfl
    · exact ⟨[112, 49], by simp [textE (r := 1) (n := 1) rfl (by decide), sContains_mem, namesL], by simp, order_at ⟨0, by decide⟩⟩
    · exact ⟨[112, 50], by simp [textE (r := 2) (n := 2) rfl (by decide), sContains_mem, namesL], by simp, order_at ⟨1, by decide⟩⟩
    · exact ⟨[112, 51], by simp [textE (r := 3) (n := 3) rfl (by decide), sContains_mem, namesL], by simp, order_at ⟨12, by decide⟩⟩
    · exact ⟨[112, 52], by simp [textE (r := 4) (n := 4) rfl (by decide), sContains_mem, namesL], by simp, order_at ⟨9, by decide⟩⟩
    · exact ⟨[112, 54], by simp [textE (r := 6) (n := 6) rfl (by decide), sContains_mem, namesL], by simp, order_at ⟨15, by decide⟩⟩
  · rcases h with ⟨rfl, rfl⟩ | ⟨rfl, rfl⟩ | ⟨rfl, rfl⟩
    · exact ⟨[112, 103], by simp, by simp, order_at ⟨3, by decide⟩⟩
    · exact ⟨[112, 109], by simp, by simp, order_at ⟨2, by decide⟩⟩
    · exact ⟨[99, 109], by simp, by simp, order_at ⟨4, by decide⟩⟩
  · rcases h with ⟨rfl, rfl⟩ | ⟨rfl, rfl⟩ | ⟨rfl, rfl⟩ | ⟨rfl, rfl⟩
    · exact ⟨[112, 103, 103], by simp, by simp, order_at ⟨7, by decide⟩⟩
    · exact ⟨[112, 109, 103], by simp, by simp, order_at ⟨6, by decide⟩⟩
    · exact ⟨[112, 109, 109], by simp, by simp, order_at ⟨5, by decide⟩⟩
    · exact ⟨[99, 109, 109], by simp, by simp, order_at ⟨8, by decide⟩⟩
  · rcases h with rfl | rfl
    · exact ⟨[112, 52, 103], by simp, by simp, order_at ⟨11, by decide⟩⟩
    · exact ⟨[112, 52, 109], by simp, by simp, order_at ⟨10, by decide⟩⟩
  · cases a
    · exact ⟨[112, 51, 109, 49], by simp, by simp, order_at ⟨13, by decide⟩⟩
    · exact ⟨[112, 51, 49, 109], by simp, by simp, order_at ⟨14, by decide⟩⟩
  · exact ⟨[112, 54, 109], by simp, by simp, order_at ⟨16, by decide⟩⟩
theorem name_same {r c t cc n : Int} {a a' : Bool} (h : OkF r c t cc n) (h0 : c = 0 → a' = a) (h3 : r = 3 → a' = a) : impl_nameOfFacts (r, c, t, cc, a') = impl_nameOfFacts (r, c, t, cc, a) := by
  rcases h with ⟨hr, rfl, rfl, rfl, rfl⟩ | ⟨rfl, rfl, h, rfl⟩ | ⟨rfl, rfl, h, rfl⟩ | ⟨rfl, rfl, rfl, h, rfl⟩ | ⟨rfl, rfl, rfl, rfl, rfl⟩ | ⟨rfl, rfl, rfl, rfl, rfl⟩
  · rw [h0 rfl]
  · rw [impl_nameOfFacts_eq, impl_nameWithMirrors_eq, impl_nameOfFacts_eq, impl_nameWithMirrors_eq]
    rcases h with ⟨rfl, rfl⟩ | ⟨rfl, rfl⟩ | ⟨rfl, rfl⟩ <;> simp
  · rw [impl_nameOfFacts_eq, impl_nameWithMirrors_eq, impl_nameOfFacts_eq, impl_nameWithMirrors_eq]
    rcases h with ⟨rfl, rfl⟩ | ⟨rfl, rfl⟩ | ⟨rfl, rfl⟩ | ⟨rfl, rfl⟩ <;> simp [impl_within_eq]
  · rw [impl_nameOfFacts_eq, impl_nameWithMirrors_eq, impl_nameOfFacts_eq, impl_nameWithMirrors_eq]
    rcases h with rfl | rfl <;> simp
  · rw [h3 rfl]
  · rw [impl_nameOfFacts_eq, impl_nameWithMirrors_eq, impl_nameOfFacts_eq, impl_nameWithMirrors_eq]
    simp
theorem nameL {a : Pat} (ha : LeanP a) : ∃ w, impl_Pattern_nameOf a = some w ∧ (∃ F, spec_l11Facts a.1 a.2.1 (groupG a) = some F ∧ spec_l12Name F = some w) ∧ impl_PointOrder w = some (((groupG a).length : Int), 0) ∧
    ∀ R ∈ pmats a.1, ∀ S : V, impl_Pattern_nameOf (moved a R S) = some w := by
  have hf := isFrame_iff.1 (isPat_iff.1 ha.1).1
  have hl := (isPat_iff.1 ha.1).2.1
  have hG := group_keep ha.1
  have h0 := leanP_shift ha
  obtain ⟨hgd, hn⟩ := gp_gd hf hl hG
  obtain ⟨b, hb, e1, e2⟩ := facts_eq hf hl hgd (fun g hg => (gp_mat hf hl hG hg).2.1) hn
  have hok := gp_facts hf hl hG h0
  have h00 : nM (groupG a) = 0 → fiA a.1 a.2.1 b (groupG a) false = false := fun h => by
    rcases fiA_mem a.1 a.2.1 b (groupG a) false with ⟨_, h2⟩ | ⟨k, hk, hr, _⟩
    · exact h2
    · exfalso
      have : k ∈ (groupG a).filter isR := List.mem_filter.2 ⟨hk, hr⟩
      have := List.length_pos_of_mem this
      unfold nM at h
      omega
  obtain ⟨w, w1, w2, w3⟩ := name_v hok h00
  refine ⟨w, ?_, ⟨_, e2, w2⟩, w3, fun R hR S => ?_⟩
  · rw [impl_Pattern_nameOf_eq, impl_Pattern_groupOf_v _ ha.1]
    simp only [Option.bind_some, e1, w1]
  · have hRm := pmats_pm hf hR
    have hb' := leanP_moved ha hRm S
    have hl' := (isPat_iff.1 hb'.1).2.1
    have hG' := group_keep hb'.1
    obtain ⟨hgd', hn'⟩ := gp_gd hf hl' hG'
    obtain ⟨b', hb2, f1, f2⟩ := facts_eq hf hl' hgd' (fun g hg => (gp_mat hf hl' hG' hg).2.1) hn'
    obtain ⟨m1, m2, m3, m4, m5, m6⟩ := facts_moved ha hR S hb hb2
    have m3' : nT (moved a R S).2.1 (groupG (moved a R S)) = nT a.2.1 (groupG a) := m3
    have m4' : nC (moved a R S).2.1 (groupG (moved a R S)) = nC a.2.1 (groupG a) := m4
    have f1' : impl_factsOf (moved a R S).1 (moved a R S).2.1 (groupG (moved a R S)) = _ := f1
    rw [m1, m2, m3', m4'] at f1'
    rw [impl_Pattern_nameOf_eq, impl_Pattern_groupOf_v _ hb'.1]
    simp only [Option.bind_some]
    rw [f1']
    simp only [Option.bind_some]
    have hs := name_same (a := fiA a.1 a.2.1 b (groupG a) false) (a' := fiA a.1 (imgL R a.2.1) b' (groupG (moved a R S)) false) hok (fun h => by rw [(m5 h).1, (m5 h).2]) m6
    have hs' : impl_nameOfFacts (rotF 1 (groupG a), nM (groupG a), nT a.2.1 (groupG a), nC a.2.1 (groupG a), fiA a.1 (moved a R S).2.1 b' (groupG (moved a R S)) false) = _ := hs
    rw [hs', w1]
    rfl
theorem lean_moved {p : Pat} (hp : isPat p = true) {m : Mat4} (hm : m ∈ pmats p.1) (t : V) : onLat (moved p m t) (fullOf (moved p m t)) = moved (onLat p (fullOf p)) m t := by
  have hpm := pmats_pm (isFrame_iff.1 (isPat_iff.1 hp).1) hm
  have hb := leanP_moved (leanP_of hp) hpm t
  rw [← leanP_on hb]
  exact (lean_eq_iff (isPat_moved hp hpm t) hb.1).2 ⟨rfl, fun v => (patAt_moved_lean hp hpm t v).symm⟩
theorem nameP9 {p : Pat} (hp : isPat p = true) : ∃ w, impl_NameOfPattern p = some (w, 0) ∧ spec_NameOfPattern p = some (w, 0) ∧ impl_PointOrder w = some (((groupG (onLat p (fullOf p))).length : Int), 0) ∧
    ∀ R ∈ pmats p.1, ∀ S : V, impl_NameOfPattern (moved p R S) = some (w, 0) := by
  have hlen := pat_len hp
  have ha := leanP_of hp
  obtain ⟨w, w1, ⟨F, w2, w3⟩, w4, w5⟩ := nameL ha
  refine ⟨w, ?_, ?_, w4, fun R hR S => ?_⟩
  · rw [impl_NameOfPattern_eq, impl_IsPattern_v p (leM (by omega)), hp]
    simp only [Option.bind_some, cond_true, impl_Pattern_lean_v p hp, w1]
  · rw [spec_NameOfPattern_eq, spec_IsPattern_v p (leM (by omega)), hp, spec_l12Pattern_eq]
    simp only [Option.bind_some, cond_true, spec_l09Lean_v p hp, spec_l10Group_v _ ha.1]
    rw [show spec_l11Facts (onLat p (fullOf p)).1 (onLat p (fullOf p)).2.1 (groupG (onLat p (fullOf p))) = _ from w2]
    simp only [Option.bind_some, w3]
  · have hpm := pmats_pm (isFrame_iff.1 (isPat_iff.1 hp).1) hR
    have hq := isPat_moved hp hpm S
    have hql := pat_len hq
    rw [impl_NameOfPattern_eq, impl_IsPattern_v _ (leM (by omega)), hq]
    simp only [Option.bind_some, cond_true, impl_Pattern_lean_v _ hq, lean_moved hp hR S]
    rw [w5 R hR S]
    rfl
end Go.Proofs.YtckjefjkedlmbaaGreatDoor

namespace Go.Proofs.YtckjefjkedlmbaaGreatDoor
open Ai
set_option linter.unusedSimpArgs false
set_option linter.unusedVariables false
abbrev Src := List Int × Int × Int
structure SrcOk (s : Src) : Prop where
  b : ∀ c ∈ s.1, 0 ≤ c ∧ c ≤ 255
  n : s.1.length ≤ 1048576
  p : 0 ≤ s.2.1 ∧ s.2.1 ≤ (s.1.length : Int)
  e : 0 ≤ s.2.2 ∧ s.2.2 < 2147483647
theorem tmod_pos {a n : Int} (ha : 0 ≤ a) (hn : 0 < n) : 0 ≤ Int.tmod a n ∧ Int.tmod a n < n := by
  rw [Int.tmod_eq_emod_of_nonneg ha]
  exact ⟨Int.emod_nonneg _ (by omega), Int.emod_lt_of_pos _ hn⟩
theorem spec_l01Next_v {s : Src} (h : SrcOk s) (n : Int) (hn : n ≤ 1099511627776) : ∃ (r : Int) (s' : Src), spec_l01Next s n = some (r, s') ∧ SrcOk s' ∧ s'.1 = s.1 ∧ 0 ≤ r ∧ (1 ≤ n → r < n) := by
  obtain ⟨cs, at', seed⟩ := s
  obtain ⟨hb, hl, ⟨p1, p2⟩, e1, e2⟩ := h
  simp only at hb hl p1 p2 e1 e2
  rw [spec_l01Next_eq]
  by_cases h1 : n ≤ 1
  · rw [decide_eq_true h1]
    exact ⟨0, _, rfl, ⟨hb, hl, ⟨p1, p2⟩, e1, e2⟩, rfl, by omega, fun h => by omega⟩
  · rw [decide_eq_false h1]
    simp only [cond_false]
    have w1 : IntKind.i64.wrap (seed * 48271) = seed * 48271 := w64 (by omega) (by omega)
    have w2 : IntKind.i64.wrap (seed * 48271 + 67) = seed * 48271 + 67 := w64 (by omega) (by omega)
    rw [w1, w2, show decide (2147483647 = 0) = false from rfl, show decide (37 = 0) = false from rfl, decide_eq_false (show ¬ n = 0 by omega)]
    simp only [cond_false]
    obtain ⟨t1, t2⟩ := tmod_pos (a := seed * 48271 + 67) (n := 2147483647) (by omega) (by omega)
    generalize Int.tmod (seed * 48271 + 67) 2147483647 = sd at t1 t2 ⊢
    have d0 : Int.tdiv sd 37 = sd / 37 := Int.tdiv_eq_ediv_of_nonneg t1
    have d1 : 0 ≤ sd / 37 ∧ sd / 37 ≤ 2147483647 := by omega
    rw [d0]
    by_cases h2 : at' < (cs.length : Int)
    · rw [decide_eq_true h2]
      have hlt : at'.toNat < cs.length := by omega
      have hrd : rd cs at' = some (cs[at'.toNat]) := by
        have := rd_lt hlt
        rwa [Int.toNat_of_nonneg p1] at this
      have hc := hb _ (List.getElem_mem hlt)
      have w3 : IntKind.i64.wrap (at' + 1) = at' + 1 := w64 (by omega) (by omega)
      have w4 : IntKind.i64.wrap (at' + 1 - 1) = at' := by rw [w64 (by omega) (by omega)]; omega
      have w5 : IntKind.i64.wrap cs[at'.toNat] = cs[at'.toNat] := w64 (by omega) (by omega)
      have w6 : IntKind.i64.wrap (sd / 37) = sd / 37 := w64 (by omega) (by omega)
      have w7 : IntKind.i64.wrap (sd / 37 + cs[at'.toNat]) = sd / 37 + cs[at'.toNat] := w64 (by omega) (by omega)
      have hok : SrcOk (cs, at' + 1, sd) := ⟨hb, hl, ⟨by show 0 ≤ at' + 1; omega, by show at' + 1 ≤ (cs.length : Int); omega⟩, t1, t2⟩
      obtain ⟨r1, r2⟩ := tmod_pos (a := cs[at'.toNat]) (n := n) hc.1 (by omega)
      obtain ⟨r3, r4⟩ := tmod_pos (a := sd / 37 + cs[at'.toNat]) (n := n) (by omega) (by omega)
      simp only [cond_true, hrd, Option.bind_some, w3, w4, w5, w6, w7]
      cases decide (n ≤ 256) with
      | false => exact ⟨_, _, rfl, hok, rfl, r3, fun _ => r4⟩
      | true =>
        rw [show decide (2 = 0) = false from rfl]
        simp only [cond_true, cond_false]
        cases decide (Int.tmod (at' + 1) 2 = 0) with
        | false => exact ⟨_, _, rfl, hok, rfl, r3, fun _ => r4⟩
        | true =>
          simp only [cond_true, hrd, Option.bind_some, w5]
          exact ⟨_, _, rfl, hok, rfl, r1, fun _ => r2⟩
    · rw [decide_eq_false h2]
      have w6 : IntKind.i64.wrap (sd / 37) = sd / 37 := w64 (by omega) (by omega)
      obtain ⟨r3, r4⟩ := tmod_pos (a := sd / 37) (n := n) (by omega) (by omega)
      simp only [cond_false, w6]
      exact ⟨_, _, rfl, ⟨hb, hl, ⟨p1, p2⟩, t1, t2⟩, rfl, r3, fun _ => r4⟩
theorem spec_l01Pick_v {s : Src} (h : SrcOk s) (xs : List Int) (h1 : 1 ≤ xs.length) (h2 : xs.length ≤ 1000) : ∃ (r : Int) (s' : Src), spec_l01Pick s xs = some (r, s') ∧ SrcOk s' ∧ s'.1 = s.1 ∧ r ∈ xs := by
  obtain ⟨k, s', e1, e2, e3, e4, e5⟩ := spec_l01Next_v h (xs.length : Int) (by omega)
  have hk := e5 (by omega)
  have hlt : k.toNat < xs.length := by omega
  have hrd : rd xs k = some xs[k.toNat] := by
    have := rd_lt hlt
    rwa [Int.toNat_of_nonneg e4] at this
  rw [spec_l01Pick_eq, e1]
  simp only [Option.bind_some, hrd]
  exact ⟨_, _, rfl, e2, e3, List.getElem_mem hlt⟩
end Go.Proofs.YtckjefjkedlmbaaGreatDoor

namespace Go.Proofs.YtckjefjkedlmbaaGreatDoor
open Ai
set_option linter.unusedSimpArgs false
set_option linter.unusedVariables false
set_option linter.unusedSectionVars false
section prods
variable {f : Int} (hf : f = 0 ∨ f = 1) {l : Lat} (hl : isLat l = true) {xs : List Mot} (hg : goodL f l xs = true)
include hf hl hg
theorem prod_sm {m n : Mot} (hm : m ∈ xs) (hn : n ∈ xs) : Sm (wap m n.2) := by
  obtain ⟨h1, _⟩ := goodL_inc hg
  have hn' := h1 n hn
  unfold allM at hn'
  obtain ⟨a, _, ht⟩ := List.mem_flatMap.1 hn'
  obtain ⟨t, ht1, rfl⟩ := List.mem_map.1 ht
  exact allM_suit hf hl (h1 m hm) t ht1
theorem spec_prod {m n : Mot} (hm : m ∈ xs) (hn : n ∈ xs) : (Option.bind (spec_l05Compose m n) fun y => spec_l06Reduce l y) = some (prodM l m n) := by
  have hs := prod_sm hf hl hg hm hn
  rw [spec_l05Compose_eq, spec_l02Multiply_eq, spec_l02Apply_eq]
  simp only [Option.bind_some, spec_l01Add_v]
  rw [spec_l06Reduce_eq]
  have := spec_l03Reduce_v l (wap m n.2) hl hs
  unfold wap at this
  simp only
  rw [this]
  rfl
theorem impl_prod {m n : Mot} (hm : m ∈ xs) (hn : n ∈ xs) : (Option.bind (impl_Motion_times m n) fun y => impl_Lattice_reduceMotion l y) = some (prodM l m n) := by
  have hs := prod_sm hf hl hg hm hn
  rw [impl_Motion_times_eq, impl_Mat_times_eq, impl_Mat_apply_eq]
  simp only [Option.bind_some, impl_Vec_add_v]
  rw [impl_Lattice_reduceMotion_eq]
  have := impl_Lattice_reduce_v l (wap m n.2) hl hs
  unfold wap at this
  simp only
  rw [this]
  rfl
theorem impl_close_inner {i : Nat} (hi : i < xs.length) : impl_isGroup_l2 xs xs (xs.length : Int) (i : Int) xs (xs.length : Int) 0 l.1 l.2.1 l.2.2 xs[i].1.1 xs[i].1.2.1 xs[i].1.2.2.1 xs[i].1.2.2.2 xs[i].2.1 xs[i].2.2 (setM xs) =
    some (if (xs.all fun n => decide (prodM l xs[i] n ∈ xs)) = true then .inl (xs, xs, (xs.length : Int), (i : Int), l.1, l.2.1, l.2.2, setM xs) else .inr false) := by
  have hlen := good_len hf hl hg
  refine loop_all (L := fun k => impl_isGroup_l2 xs xs (xs.length : Int) (i : Int) xs (xs.length : Int) k l.1 l.2.1 l.2.2 xs[i].1.1 xs[i].1.2.1 xs[i].1.2.2.1 xs[i].1.2.2.2 xs[i].2.1 xs[i].2.2 (setM xs)) xs (fun n => decide (prodM l xs[i] n ∈ xs)) (.inl (xs, xs, (xs.length : Int), (i : Int), l.1, l.2.1, l.2.2, setM xs)) (.inr false) (fun k hk => ?_) ?_
  · show impl_isGroup_l2 xs xs (xs.length : Int) (i : Int) xs (xs.length : Int) (k : Int) l.1 l.2.1 l.2.2 xs[i].1.1 xs[i].1.2.1 xs[i].1.2.2.1 xs[i].1.2.2.2 xs[i].2.1 xs[i].2.2 (setM xs) = _
    have hp := impl_prod hf hl hg (List.getElem_mem hi) (List.getElem_mem hk)
    obtain ⟨y, hy1, hy2⟩ := Option.bind_eq_some_iff.1 hp
    have hm : Option.getD (mfind cM .bool (prodM l xs[i] xs[k]) (setM xs)) false = decide (prodM l xs[i] xs[k] ∈ xs) := by
      have := setM_has (prodM l xs[i] xs[k]) xs []
      rw [show mfind cM .bool (prodM l xs[i] xs[k]) [] = none from rfl] at this
      simpa [setM] using this
    rw [impl_isGroup_l2_eq, decide_eq_true (by omega), rd_lt hk]
    simp only [cond_true, Option.bind_some]
    rw [show impl_Motion_times ((xs[i].1.1, xs[i].1.2.1, xs[i].1.2.2.1, xs[i].1.2.2.2), xs[i].2.1, xs[i].2.2) xs[k] = some y from hy1]
    simp only [Option.bind_some]
    rw [show impl_Lattice_reduceMotion (l.1, l.2.1, l.2.2) y = some (prodM l xs[i] xs[k]) from hy2, wnext hk (by omega)]
    simp only [Option.bind_some, Option.bind_fun_some, hm]
    cases decide (prodM l xs[i] xs[k] ∈ xs) <;> rfl
  · show impl_isGroup_l2 xs xs (xs.length : Int) (i : Int) xs (xs.length : Int) (xs.length : Int) l.1 l.2.1 l.2.2 xs[i].1.1 xs[i].1.2.1 xs[i].1.2.2.1 xs[i].1.2.2.2 xs[i].2.1 xs[i].2.2 (setM xs) = _
    rw [impl_isGroup_l2_eq, decide_eq_false (by omega)]
    rfl
theorem impl_close : impl_isGroup_l1 xs xs (xs.length : Int) 0 l.1 l.2.1 l.2.2 (setM xs) = some (if (xs.all fun m => xs.all fun n => decide (prodM l m n ∈ xs)) = true then .inl () else .inr false) := by
  have hlen := good_len hf hl hg
  refine loop_all (L := fun k => impl_isGroup_l1 xs xs (xs.length : Int) k l.1 l.2.1 l.2.2 (setM xs)) xs (fun m => xs.all fun n => decide (prodM l m n ∈ xs)) (.inl ()) (.inr false) (fun k hk => ?_) ?_
  · show impl_isGroup_l1 xs xs (xs.length : Int) (k : Int) l.1 l.2.1 l.2.2 (setM xs) = _
    rw [impl_isGroup_l1_eq, decide_eq_true (by omega), rd_lt hk]
    simp only [cond_true, Option.bind_some]
    rw [impl_close_inner hf hl hg hk]
    simp only [Option.bind_some]
    cases (xs.all fun n => decide (prodM l xs[k] n ∈ xs)) with
    | false => rfl
    | true =>
      simp only [if_true, Option.bind_fun_some]
      rw [wnext hk (by omega)]
  · show impl_isGroup_l1 xs xs (xs.length : Int) (xs.length : Int) l.1 l.2.1 l.2.2 (setM xs) = _
    rw [impl_isGroup_l1_eq, decide_eq_false (by omega)]
    rfl
end prods
theorem impl_isGroup_v {f : Int} (hf : f = 0 ∨ f = 1) {l : Lat} (hl : isLat l = true) (xs : List Mot) (hn : xs.length ≤ 1048576) : impl_isGroup f l xs = some (isGroupB f l xs) := by
  rw [impl_isGroup_eq, impl_latticeMats_v hf hl]
  simp only [Option.bind_some]
  rw [impl_good_loop hf hl hn]
  unfold isGroupB
  cases hg : goodL f l xs with
  | false => rfl
  | true =>
    have hm : Option.getD (mfind cM .bool unitM (setM xs)) false = decide (unitM ∈ xs) := by
      have := setM_has unitM xs []
      rw [show mfind cM .bool unitM [] = none from rfl] at this
      simpa [setM] using this
    simp only [if_true, Option.bind_some, impl_unit_eq, Bool.true_and]
    rw [show (((1, 0, 0, 1), 0, 0) : Mot) = unitM from rfl, hm]
    cases decide (unitM ∈ xs) with
    | false => rfl
    | true =>
      simp only [cond_true, Bool.true_and, impl_close hf hl hg, Option.bind_some]
      cases (xs.all fun m => xs.all fun n => decide (prodM l m n ∈ xs)) <;> rfl
end Go.Proofs.YtckjefjkedlmbaaGreatDoor
