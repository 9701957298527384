/-
  All suitable reduced motions in order; those that keep a pattern, and those that exchange its colours, are groups.
-/
import Derived.Test.YtahlhacmikdimaaGreatDoorPC
import Derived.Test.YtahlhacmikdimaaGreatDoorP34
namespace Go.Proofs.YtahlhacmikdimaaGreatDoor
open Ai
set_option linter.unusedSimpArgs false
set_option linter.unusedVariables false
def key4 (m : Mat4) : List Int := [m.1, m.2.1, m.2.2.1, m.2.2.2]
theorem pmats_inc {f : Int} (hf : f = 0 ∨ f = 1) : (pmats f).Pairwise fun a b => lexB (key4 a) (key4 b) = true := by
  rcases hf with rfl | rfl <;> decide +kernel
theorem lexB_app : ∀ (a b c d : List Int), a.length = b.length → lexB a b = true → lexB (a ++ c) (b ++ d) = true
  | [], [], c, d, _, h => by simp [lexB] at h
  | x :: a, y :: b, c, d, hl, h => by
    show (if x = y then lexB (a ++ c) (b ++ d) else decide (x < y)) = true
    have h' : (if x = y then lexB a b else decide (x < y)) = true := h
    by_cases e : x = y
    · rw [if_pos e] at h' ⊢
      exact lexB_app a b c d (by simpa using hl) h'
    · rw [if_neg e] at h' ⊢
      exact h'
  | [], y :: b, c, d, hl, h => by simp at hl
  | x :: a, [], c, d, hl, h => by simp at hl
theorem lexB_pre : ∀ (a c d : List Int), lexB (a ++ c) (a ++ d) = lexB c d
  | [], c, d => rfl
  | x :: a, c, d => by
    show (if x = x then lexB (a ++ c) (a ++ d) else decide (x < x)) = _
    rw [if_pos rfl, lexB_pre a c d]
theorem cells_inc (l : Lat) : (cells l).Pairwise fun u v => lexB [u.1, u.2] [v.1, v.2] = true := by
  unfold cells
  rw [List.pairwise_flatMap]
  refine ⟨fun x _ => List.pairwise_map.2 (List.pairwise_lt_range.imp fun {a b} hab => ?_), List.pairwise_lt_range.imp fun {a b} hab u hu v hv => ?_⟩
  · show (if (x : Int) = (x : Int) then (if (a : Int) = (b : Int) then _ else decide ((a : Int) < (b : Int))) else _) = true
    rw [if_pos rfl, if_neg (by omega)]
    exact decide_eq_true (by omega)
  · obtain ⟨i, _, rfl⟩ := List.mem_map.1 hu
    obtain ⟨j, _, rfl⟩ := List.mem_map.1 hv
    show (if (a : Int) = (b : Int) then _ else decide ((a : Int) < (b : Int))) = true
    rw [if_neg (by omega)]
    exact decide_eq_true (by omega)
theorem keyM_app (m : Mot) : keyM m = key4 m.1 ++ [m.2.1, m.2.2] := rfl
theorem allM_inc {f : Int} (hf : f = 0 ∨ f = 1) (l : Lat) : IncM (allM f l) := by
  unfold IncM allM
  rw [List.pairwise_flatMap]
  refine ⟨fun m _ => List.pairwise_map.2 ((cells_inc l).imp fun {a b} hab => ?_), ((pmats_inc hf).filter _).imp fun {a b} hab u hu v hv => ?_⟩
  · unfold mless
    rw [keyM_app, keyM_app, lexB_pre]; exact hab
  · obtain ⟨s, _, rfl⟩ := List.mem_map.1 hu
    obtain ⟨t, _, rfl⟩ := List.mem_map.1 hv
    unfold mless
    rw [keyM_app, keyM_app]
    exact lexB_app _ _ _ _ rfl hab
theorem mem_allM {f : Int} {l : Lat} {m : Mot} : m ∈ allM f l ↔ m.1 ∈ stableL f l ∧ m.2 ∈ cells l := by
  unfold allM
  constructor
  · intro h
    obtain ⟨a, ha, h⟩ := List.mem_flatMap.1 h
    obtain ⟨t, ht, rfl⟩ := List.mem_map.1 h
    exact ⟨ha, ht⟩
  · exact fun h => List.mem_flatMap.2 ⟨m.1, h.1, List.mem_map.2 ⟨m.2, h.2, rfl⟩⟩
theorem inc_goodL {f : Int} {l : Lat} {xs : List Mot} (hi : IncM xs) (hm : ∀ m ∈ xs, m ∈ allM f l) : goodL f l xs = true := by
  unfold goodL
  rw [List.all_eq_true]
  intro k hk
  rw [List.mem_range'_1] at hk
  have hk1 : k < xs.length := by omega
  have hget : ∀ k (hk : k < xs.length), xs.getD k ((0, 0, 0, 0), 0, 0) = xs[k] := fun k hk => by simp [List.getD, hk]
  unfold goodK okM
  rw [hget k hk1]
  obtain ⟨h1, h2⟩ := mem_allM.1 (hm _ (List.getElem_mem hk1))
  rw [decide_eq_true h1, decide_eq_true h2]
  simp only [Bool.and_self, Bool.true_and, Bool.or_eq_true, decide_eq_true_eq]
  by_cases h0 : k = 0
  · exact .inl h0
  · right
    rw [hget (k - 1) (by omega)]
    exact List.pairwise_iff_getElem.1 hi (k - 1) k (by omega) hk1 (by omega)
theorem filter_good {f : Int} (hf : f = 0 ∨ f = 1) (l : Lat) (q : Mot → Bool) : goodL f l ((allM f l).filter q) = true :=
  inc_goodL ((allM_inc hf l).filter q) fun m hm => (List.mem_filter.1 hm).1
/-! ### What a motion does -/
def act (m : Mot) (v : V) : V := vadd (mapp m.1 v) m.2
theorem stB_in {l : Lat} (hl : isLat l = true) {m : Mat4} (h : stB l m = true) {w : V} (hw : InL l w) : InL l (mapp m w) := by
  unfold stB at h
  rw [Bool.and_eq_true, decide_eq_true_iff, decide_eq_true_iff, inL_iff hl, inL_iff hl] at h
  obtain ⟨i, j, h1, h2⟩ := hw
  have h3 := h.1.lin h.2 i j
  have e : mapp m w = (i * (mapp m (l.1, 0)).1 + j * (mapp m l.2).1, i * (mapp m (l.1, 0)).2 + j * (mapp m l.2).2) := by
    rw [← mapp_lin]
    congr 1
    ext
    · simp only; exact h1
    · simp only; rw [h2]; simp
  rw [e]; exact h3
theorem stable_st {f : Int} {l : Lat} {m : Mat4} (h : m ∈ stableL f l) : m ∈ pmats f ∧ stB l m = true := List.mem_filter.1 h
theorem st_of {l : Lat} (hl : isLat l = true) {m : Mat4} (h : ∀ w, InL l w → InL l (mapp m w)) : stB l m = true := by
  unfold stB
  rw [Bool.and_eq_true, decide_eq_true_iff, decide_eq_true_iff, inL_iff hl, inL_iff hl]
  exact ⟨h _ (InL.fst l), h _ (InL.snd l)⟩
theorem stable_mul {f : Int} (hf : f = 0 ∨ f = 1) {l : Lat} (hl : isLat l = true) {m n : Mat4} (hm : m ∈ stableL f l) (hn : n ∈ stableL f l) : mmul m n ∈ stableL f l := by
  obtain ⟨m1, m2⟩ := stable_st hm
  obtain ⟨n1, n2⟩ := stable_st hn
  refine List.mem_filter.2 ⟨mmul_closed hf m1 n1, st_of hl fun w hw => ?_⟩
  rw [mapp_mmul]
  exact stB_in hl m2 (stB_in hl n2 hw)
theorem stable_unit {f : Int} (hf : f = 0 ∨ f = 1) {l : Lat} (hl : isLat l = true) : m1 ∈ stableL f l :=
  List.mem_filter.2 ⟨unit_mem hf, st_of hl fun w hw => by rw [mapp_unit]; exact hw⟩
theorem zero_cell {l : Lat} (hl : isLat l = true) : ((0, 0) : V) ∈ cells l := by
  obtain ⟨h1, h2, h3, h4⟩ := isLat_iff.1 hl
  exact mem_cells.2 ⟨⟨by simp, by show 0 < l.1; omega⟩, by simp, by show 0 < l.2.2; omega⟩
theorem unit_allM {f : Int} (hf : f = 0 ∨ f = 1) {l : Lat} (hl : isLat l = true) : unitM ∈ allM f l := mem_allM.2 ⟨stable_unit hf hl, zero_cell hl⟩
theorem wap_act {f : Int} (hf : f = 0 ∨ f = 1) {l : Lat} (hl : isLat l = true) {m : Mot} (hm : m ∈ allM f l) {v : V} (hv : Ss v) : wap m v = act m v := by
  obtain ⟨h1, h2⟩ := mem_allM.1 hm
  exact (wap_pm (stable_pm hf h1) hv (cells_ss hl h2)).1
theorem unit_prod {a b : Int} (ha : Unit1 a) (hb : Unit1 b) : Unit1 (a * b) := by
  unfold Unit1 at *
  rcases unit_mul (x := b) ha with h | h | h <;> rw [h] <;> omega
theorem prodM_eq {f : Int} (hf : f = 0 ∨ f = 1) {l : Lat} (hl : isLat l = true) {m n : Mot} (hm : m ∈ allM f l) (hn : n ∈ allM f l) : prodM l m n = (mmul m.1 n.1, red l (act m n.2)) := by
  have pm := stable_pm hf (mem_allM.1 hm).1
  have pn := stable_pm hf (mem_allM.1 hn).1
  have w : ∀ {a b c d : Int}, Unit1 a → Unit1 b → Unit1 c → Unit1 d → IntKind.i64.wrap (IntKind.i64.wrap (a * b) + IntKind.i64.wrap (c * d)) = a * b + c * d := by
    intro a b c d ha hb hc hd
    have h1 := unit_prod ha hb
    have h2 := unit_prod hc hd
    unfold Unit1 at h1 h2
    rw [w64 (x := a * b) (by omega) (by omega), w64 (x := c * d) (by omega) (by omega), w64 (by omega) (by omega)]
  unfold prodM
  rw [wap_act hf hl hm (cells_ss hl (mem_allM.1 hn).2), w pm.a pn.a pm.b pn.c, w pm.a pn.b pm.b pn.d, w pm.c pn.a pm.d pn.c, w pm.c pn.b pm.d pn.d]
  rfl
theorem prod_allM {f : Int} (hf : f = 0 ∨ f = 1) {l : Lat} (hl : isLat l = true) {m n : Mot} (hm : m ∈ allM f l) (hn : n ∈ allM f l) : prodM l m n ∈ allM f l := by
  rw [prodM_eq hf hl hm hn]
  exact mem_allM.2 ⟨stable_mul hf hl (mem_allM.1 hm).1 (mem_allM.1 hn).1, red_mem hl _⟩
theorem act_prod {f : Int} (hf : f = 0 ∨ f = 1) {l : Lat} (hl : isLat l = true) {m n : Mot} (hm : m ∈ allM f l) (hn : n ∈ allM f l) (v : V) : red l (act (prodM l m n) v) = red l (act m (act n v)) := by
  rw [prodM_eq hf hl hm hn, red_eq_iff hl]
  obtain ⟨i, j, h1, h2⟩ := red_in hl (act m n.2)
  refine ⟨-i, -j, ?_, ?_⟩ <;> simp only [act, vsub, vadd, mapp_mmul] at h1 h2 ⊢ <;> simp only [mapp] at h1 h2 ⊢ <;> grind
theorem act_red {f : Int} {l : Lat} (hl : isLat l = true) {m : Mot} (hm : m ∈ allM f l) (v : V) : red l (act m (red l v)) = red l (act m v) := by
  rw [red_eq_iff hl]
  have h := stB_in hl (stable_st (mem_allM.1 hm).1).2 (red_in hl v)
  obtain ⟨i, j, h1, h2⟩ := h
  refine ⟨-i, -j, ?_, ?_⟩ <;> simp only [act, vsub, vadd] at h1 h2 ⊢ <;> simp only [mapp] at h1 h2 ⊢ <;> grind
theorem act_congr {f : Int} {l : Lat} (hl : isLat l = true) {m : Mot} (hm : m ∈ allM f l) {u v : V} (h : red l u = red l v) : red l (act m u) = red l (act m v) := by
  rw [← act_red hl hm u, h, act_red hl hm v]
/-! ### Motions that keep a pattern -/
def KeepP (p : Pat) (m : Mot) : Prop := ∀ v, patAt p (act m v) = patAt p v
theorem keepsB_iff {p : Pat} (hp : isPat p = true) {m : Mot} (hm : m ∈ allM p.1 p.2.1) : keepsB p m = true ↔ KeepP p m := by
  have hl := (isPat_iff.1 hp).2.1
  have hf := isFrame_iff.1 (isPat_iff.1 hp).1
  unfold keepsB
  rw [List.all_eq_true]
  constructor
  · intro h v
    have hc := red_mem hl v
    have h1 := of_decide_eq_true (h _ hc)
    rw [wap_act hf hl hm (cells_ss hl hc)] at h1
    rw [← patAt_congr (act_red hl hm v), h1]
    exact patAt_congr (red_cell hl hc)
  · intro h v hv
    rw [wap_act hf hl hm (cells_ss hl hv), h v]
    exact decide_eq_true rfl
theorem KeepP.prod {p : Pat} (hp : isPat p = true) {m n : Mot} (hm : m ∈ allM p.1 p.2.1) (hn : n ∈ allM p.1 p.2.1) (h1 : KeepP p m) (h2 : KeepP p n) : KeepP p (prodM p.2.1 m n) := fun v => by
  have hl := (isPat_iff.1 hp).2.1
  have hf := isFrame_iff.1 (isPat_iff.1 hp).1
  rw [patAt_congr (act_prod hf hl hm hn v), h1, h2]
theorem act_unit (v : V) : act unitM v = v := by
  unfold act
  rw [show unitM.1 = m1 from rfl, mapp_unit]
  unfold vadd unitM; ext <;> simp
theorem group_of {f : Int} (hf : f = 0 ∨ f = 1) {l : Lat} (hl : isLat l = true) (q : Mot → Bool) (hu : q unitM = true) (hc : ∀ m n, m ∈ allM f l → n ∈ allM f l → q m = true → q n = true → q (prodM l m n) = true) : isGroupB f l ((allM f l).filter q) = true := by
  unfold isGroupB
  rw [filter_good hf l q, Bool.true_and, Bool.and_eq_true, decide_eq_true_iff, List.all_eq_true]
  refine ⟨List.mem_filter.2 ⟨unit_allM hf hl, hu⟩, fun m hm => ?_⟩
  rw [List.all_eq_true]
  intro n hn
  obtain ⟨a1, a2⟩ := List.mem_filter.1 hm
  obtain ⟨b1, b2⟩ := List.mem_filter.1 hn
  exact decide_eq_true (List.mem_filter.2 ⟨prod_allM hf hl a1 b1, hc m n a1 b1 a2 b2⟩)
theorem groupG_filter (p : Pat) : groupG p = (allM p.1 p.2.1).filter (keepsB p) := by
  unfold allM groupG keptM
  rw [List.filter_flatMap]
theorem group_keep {p : Pat} (hp : isPat p = true) : isGroupB p.1 p.2.1 (groupG p) = true := by
  have hl := (isPat_iff.1 hp).2.1
  have hf := isFrame_iff.1 (isPat_iff.1 hp).1
  rw [groupG_filter]
  refine group_of hf hl _ ((keepsB_iff hp (unit_allM hf hl)).2 fun v => by rw [act_unit]) fun m n hm hn h1 h2 => ?_
  exact (keepsB_iff hp (prod_allM hf hl hm hn)).2 (((keepsB_iff hp hm).1 h1).prod hp hm hn ((keepsB_iff hp hn).1 h2))
end Go.Proofs.YtahlhacmikdimaaGreatDoor
