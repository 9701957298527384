/-
  The full lattice of a pattern is the set of all shifts that keep it; patterns as functions of the plane.
-/
import Derived.Test.YtopigbmamejklaaGreatDoorP24
namespace Go.Proofs.YtopigbmamejklaaGreatDoor
open Ai
set_option linter.unusedSimpArgs false
set_option linter.unusedVariables false
theorem bezout : ∀ (n : Nat) (a b : Int), b.natAbs < n → ∃ x y : Int, (Int.gcd a b : Int) = a * x + b * y
  | 0, a, b, h => by omega
  | n + 1, a, b, h => by
    by_cases hb : b = 0
    · subst hb
      rcases Int.natAbs_eq a with h1 | h1
      · exact ⟨1, 0, by rw [Int.gcd_zero_right]; omega⟩
      · exact ⟨-1, 0, by rw [Int.gcd_zero_right]; omega⟩
    · obtain ⟨x, y, e⟩ := bezout n b (Int.tmod a b) (by
        have := Int.natAbs_tmod a b
        have h2 := Nat.mod_lt a.natAbs (show 0 < b.natAbs by omega)
        omega)
      rw [gcd_tmod] at e
      refine ⟨y, x - Int.tdiv a b * y, ?_⟩
      rw [e]
      have := Int.mul_tdiv_add_tmod a b
      grind
def Mod (s : Int × V) (w : V) : Prop := Sp s.2 (s.1, 0) w
theorem hStep_sp {s : Int × V} (i : HInv s) {v : V} (hv : Vs v) (w : V) : Mod (hStep s v) w ↔ ∃ k : Int, Mod s (vsub w (k * v.1, k * v.2)) := by
  have hz := (euc_gcd EU s.2 v (by have := hv.2; unfold EU; omega)).2
  have hsp := euc_sp EU s.2 v
  have ha := i.a
  unfold Mod hStep
  simp only
  generalize hE : euc EU s.2 v = e at hz hsp
  obtain ⟨g, hg⟩ : ∃ g : Int, g = (Int.gcd s.1 e.2.1 : Int) := ⟨_, rfl⟩
  have hgp : 0 < g := by
    have := (gcd_le_left s.1 e.2.1 ha.1).2
    omega
  obtain ⟨x, y, hb⟩ := bezout (e.2.1.natAbs + 1) s.1 e.2.1 (by omega)
  obtain ⟨c, hc⟩ : g ∣ s.1 := hg ▸ Int.gcd_dvd_left ..
  obtain ⟨d, hd⟩ : g ∣ e.2.1 := hg ▸ Int.gcd_dvd_right ..
  rw [← hg] at hb ⊢
  rw [if_pos hgp]
  have hm := Int.mul_ediv_add_emod e.1.1 g
  generalize e.1.1 / g = q at hm
  generalize e.1.1 % g = r at hm ⊢
  unfold Sp at hsp ⊢
  simp only [vsub]
  constructor
  · rintro ⟨a, b, h1, h2⟩
    obtain ⟨a', b', h3, h4⟩ := (hsp (a * e.1.1 + (b - a * q) * y * e.2.1, a * e.1.2 + (b - a * q) * y * e.2.2)).1 ⟨a, (b - a * q) * y, rfl, rfl⟩
    simp only at h3 h4 h1 h2
    refine ⟨b', a', (b - a * q) * x, ?_, ?_⟩ <;> grind
  · rintro ⟨k, a, b, h1, h2⟩
    obtain ⟨a', b', h3, h4⟩ := (hsp (a * s.2.1 + k * v.1, a * s.2.2 + k * v.2)).2 ⟨a, k, rfl, rfl⟩
    simp only at h3 h4 h1 h2
    refine ⟨a', a' * q + b' * d + b * c, ?_, ?_⟩ <;> grind
theorem fold_sp : ∀ (xs : List V) (s : Int × V), HInv s → (∀ v ∈ xs, Vs v) →
    (∀ w, Mod s w → Mod (xs.foldl hStep s) w) ∧ (∀ v ∈ xs, Mod (xs.foldl hStep s) v) ∧
    ∀ (Q : V → Prop), (∀ w, Mod s w → Q w) → (∀ v ∈ xs, ∀ (k : Int) w, Q (vsub w (k * v.1, k * v.2)) → Q w) → ∀ w, Mod (xs.foldl hStep s) w → Q w
  | [], s, _, _ => ⟨fun w h => h, fun v hv => (by cases hv), fun Q h1 _ w hw => h1 w hw⟩
  | v :: r, s, i, hx => by
    have hv := hx v (List.mem_cons_self ..)
    obtain ⟨h1, h2, h3⟩ := fold_sp r (hStep s v) (i.step hv).2 fun u hu => hx u (List.mem_cons_of_mem _ hu)
    have key := hStep_sp i hv
    refine ⟨fun w hw => h1 w ((key w).2 ⟨0, by simpa [vsub] using hw⟩), fun u hu => ?_, fun Q hq1 hq2 w hw => ?_⟩
    · rcases List.mem_cons.1 hu with rfl | hu
      · refine h1 u ((key u).2 ⟨1, 0, 0, ?_, ?_⟩) <;> simp [vsub]
      · exact h2 u hu
    · refine h3 Q (fun w hw => ?_) (fun u hu => hq2 u (List.mem_cons_of_mem _ hu)) w hw
      obtain ⟨k, hk⟩ := (key w).1 hw
      exact hq2 v (List.mem_cons_self ..) k w (hq1 _ hk)
theorem inL_mod {l : Lat} (w : V) : InL l w ↔ Mod (l.1, l.2) w := by
  unfold InL Mod Sp
  simp only [Int.mul_zero, Int.add_zero]
  constructor
  · rintro ⟨i, j, h1, h2⟩; exact ⟨j, i, by omega, h2⟩
  · rintro ⟨i, j, h1, h2⟩; exact ⟨j, i, by omega, h2⟩
theorem hinv_lat {l : Lat} (hl : isLat l = true) : HInv (l.1, l.2) := by
  obtain ⟨h1, h2, h3, h4⟩ := isLat_iff.1 hl
  exact ⟨⟨by show 0 < l.1; omega, by show l.1 ≤ 64; omega⟩, by show l.2.1.natAbs ≤ 64; omega, ⟨by show l.2.2 ≠ 0; omega, by show l.2.2.natAbs ≤ 64; omega⟩⟩
theorem latWith_in {l : Lat} (hl : isLat l = true) (xs : List V) (hx : ∀ v ∈ xs, Vs v) (w : V) : InL (latWith l xs) w ↔ Mod (xs.foldl hStep (l.1, l.2)) w := by
  have hi := (HInv.all xs _ (hinv_lat hl) hx).2
  unfold latWith
  generalize xs.foldl hStep (l.1, l.2) = s at hi ⊢
  have := latN_sp s.1 s.1 s.2 (by have := hi.a; omega) (by have := hi.a; omega) hi.y.1 w
  exact this
def Per (p : Pat) (t : V) : Prop := ∀ v, patAt p (vadd v t) = patAt p v
theorem per_lat {p : Pat} (hp : isPat p = true) {t : V} (h : InL p.2.1 t) : Per p t := fun v => by
  refine patAt_congr ((red_eq_iff (isPat_iff.1 hp).2.1).2 ?_)
  have : vsub (vadd v t) v = t := by unfold vsub vadd; ext <;> simp only <;> omega
  rw [this]; exact h
theorem Per.add {p : Pat} {s t : V} (h1 : Per p s) (h2 : Per p t) : Per p (vadd s t) := fun v => by
  have : vadd v (vadd s t) = vadd (vadd v s) t := by unfold vadd; ext <;> simp only <;> omega
  rw [this, h2, h1]
theorem Per.mul {p : Pat} {t : V} (h : Per p t) : ∀ k : Int, Per p (k * t.1, k * t.2) := by
  have hn : ∀ n : Nat, Per p ((n : Int) * t.1, (n : Int) * t.2) := by
    intro n
    induction n with
    | zero => intro v; congr 1; unfold vadd; ext <;> simp
    | succ n ih =>
      have := ih.add h
      have e : vadd ((n : Int) * t.1, (n : Int) * t.2) t = (((n + 1 : Nat) : Int) * t.1, ((n + 1 : Nat) : Int) * t.2) := by
        unfold vadd; ext <;> simp only <;> push_cast <;> grind
      rwa [e] at this
  intro k
  rcases Int.natAbs_eq k with e | e
  · rw [e]; exact hn _
  · intro v
    have := hn k.natAbs (vadd v (k * t.1, k * t.2))
    rw [← this]
    congr 1
    unfold vadd
    ext <;> simp only <;> grind
theorem vs_cell {l : Lat} (hl : isLat l = true) {t : V} (ht : t ∈ cells l) : Vs t := by
  obtain ⟨h1, h2⟩ := mem_cells.1 ht
  obtain ⟨h3, h4, h5, h6⟩ := isLat_iff.1 hl
  unfold Vs; omega
theorem keepsB_unit {p : Pat} (hp : isPat p = true) {t : V} (ht : t ∈ cells p.2.1) : keepsB p ((1, 0, 0, 1), t) = true ↔ Per p t := by
  have hl := (isPat_iff.1 hp).2.1
  unfold keepsB
  rw [List.all_eq_true]
  constructor
  · intro h v
    have hc := red_mem hl v
    have h1 := of_decide_eq_true (h _ hc)
    rw [wap_unit (cells_sm hl hc).1 (cells_sm hl ht).1] at h1
    have e1 : patAt p (red p.2.1 v) = patAt p v := patAt_congr (red_cell hl hc)
    have e2 : patAt p (vadd (red p.2.1 v) t) = patAt p (vadd v t) := by
      refine patAt_congr ((red_eq_iff hl).2 ?_)
      have := red_in hl v
      obtain ⟨i, j, h1, h2⟩ := this
      refine ⟨-i, -j, ?_, ?_⟩ <;> simp only [vsub, vadd] at h1 h2 ⊢ <;> grind
    rw [← e1, ← e2, h1]
  · intro h v hv
    rw [wap_unit (cells_sm hl hv).1 (cells_sm hl ht).1, h v]
    exact decide_eq_true rfl
theorem vsub_red {l : Lat} (hl : isLat l = true) (t : V) : InL l (vsub t (red l t)) := red_in hl t
theorem inL_full {p : Pat} (hp : isPat p = true) (t : V) : InL (fullOf p) t ↔ Per p t := by
  have hl := (isPat_iff.1 hp).2.1
  have hx := (fullOf_list hp).1
  unfold fullOf
  rw [latWith_in hl _ hx]
  obtain ⟨h1, h2, h3⟩ := fold_sp _ _ (hinv_lat hl) hx
  constructor
  · refine h3 (Per p) (fun w hw => per_lat hp ((inL_mod w).2 hw)) (fun v hv k w hw => ?_) t
    have hv' := List.mem_filter.1 hv
    have := hw.add (((keepsB_unit hp hv'.1).1 hv'.2).mul k)
    have e : vadd (vsub w (k * v.1, k * v.2)) (k * v.1, k * v.2) = w := by unfold vadd vsub; ext <;> simp only <;> omega
    rwa [e] at this
  · intro ht
    have hc := red_mem hl t
    have hr : Per p (red p.2.1 t) := fun v => by
      have h4 := per_lat hp (vsub_red hl t) (vadd v (red p.2.1 t))
      rw [← h4, ← ht v]
      congr 1
      unfold vadd vsub; ext <;> simp only <;> omega
    have h5 := h2 _ (List.mem_filter.2 ⟨hc, (keepsB_unit hp hc).2 hr⟩)
    rw [← latWith_in hl _ hx] at h5 ⊢
    have h6 := (latWith_in hl _ hx _).2 (h1 _ ((inL_mod _).1 (vsub_red hl t)))
    have := h5.lin h6 1 1
    have e : ((1 : Int) * (red p.2.1 t).1 + 1 * (vsub t (red p.2.1 t)).1, (1 : Int) * (red p.2.1 t).2 + 1 * (vsub t (red p.2.1 t)).2) = t := by
      unfold vsub; ext <;> simp only <;> omega
    rwa [e] at this
theorem lat_ext {l m : Lat} (hl : isLat l = true) (hm : isLat m = true) (h : ∀ w, InL l w ↔ InL m w) : l = m := by
  obtain ⟨l1, l2, l3, l4⟩ := isLat_iff.1 hl
  obtain ⟨m1, m2, m3, m4⟩ := isLat_iff.1 hm
  have dv : ∀ {a b i j k : Int}, 1 ≤ a → 1 ≤ b → a = i * b → b = j * a → a = b := by
    intro a b i j k ha hb h1 h2
    have d1 : b ∣ a := ⟨i, by rw [h1, Int.mul_comm]⟩
    have d2 : a ∣ b := ⟨j, by rw [h2, Int.mul_comm]⟩
    have := Int.le_of_dvd (by omega) d1
    have := Int.le_of_dvd (by omega) d2
    omega
  have one : ∀ {l m : Lat}, 1 ≤ l.2.2 → (∀ w, InL l w → InL m w) → 1 ≤ m.2.2 → (∃ i, l.1 = i * m.1) ∧ ∃ j, l.2.2 = j * m.2.2 := by
    intro l m hl h hm
    obtain ⟨i, j, h1, h2⟩ := h _ (InL.fst l)
    obtain ⟨i', j', h3, h4⟩ := h _ (InL.snd l)
    simp only at h1 h2 h3 h4
    have : j = 0 := by
      rcases Int.mul_eq_zero.1 h2.symm with h | h
      · exact h
      · omega
    subst this
    exact ⟨⟨i, by omega⟩, j', h4⟩
  obtain ⟨⟨i, hi⟩, j, hj⟩ := one (by omega) (fun w => (h w).1) (by omega)
  obtain ⟨⟨i', hi'⟩, j', hj'⟩ := one (by omega) (fun w => (h w).2) (by omega)
  have e1 : l.1 = m.1 := dv (k := 0) (by omega) (by omega) hi hi'
  have e3 : l.2.2 = m.2.2 := dv (k := 0) (by omega) (by omega) hj hj'
  have e2 : l.2.1 = m.2.1 := by
    obtain ⟨a, b, h3, h4⟩ := (h _).1 (InL.snd l)
    have hb : b = 1 := by
      rw [e3] at h4
      have : (b - 1) * m.2.2 = 0 := by rw [Int.sub_mul]; omega
      rcases Int.mul_eq_zero.1 this with h | h <;> omega
    subst hb
    have hd : m.1 ∣ (l.2.1 - m.2.1) := ⟨a, by rw [Int.mul_comm]; omega⟩
    have h0 : l.2.1 - m.2.1 = 0 := Int.eq_zero_of_dvd_of_natAbs_lt_natAbs hd (by omega)
    omega
  exact Prod.ext e1 (Prod.ext e2 e3)
theorem pat_ext {p q : Pat} (hp : isPat p = true) (hq : isPat q = true) (h1 : p.1 = q.1) (h2 : p.2.1 = q.2.1) (h : ∀ v, patAt p v = patAt q v) : p = q := by
  have cols : ∀ {p : Pat}, isPat p = true → p.2.2 = (cells p.2.1).map (patAt p) := by
    intro p hp
    have hl := (cells_len' (isPat_iff.1 hp).2.1).1
    have hn := (isPat_iff.1 hp).2.2.1
    apply List.ext_getElem
    · rw [List.length_map]; omega
    · intro i h1 h2
      rw [List.length_map] at h2
      have := patAt_cell hp h2
      rw [rd_lt h1, Option.some.injEq] at this
      rw [this, List.getElem_map]
  refine Prod.ext h1 (Prod.ext h2 ?_)
  rw [cols hp, cols hq, h2]
  exact List.map_congr_left fun v _ => h v
theorem patAt_onLat {p : Pat} (hp : isPat p = true) {l : Lat} (hl : isLat l = true) (h : ∀ t, InL l t → Per p t) (v : V) : patAt (onLat p l) v = patAt p v := by
  obtain ⟨hn, hc⟩ := cells_num hl v
  have : patAt (onLat p l) v = patAt p (red l v) := by
    unfold patAt
    show List.getD ((cells l).map (patAt p)) (num l v) 0 = _
    rw [List.getD_eq_getElem?_getD, List.getElem?_map, List.getElem?_eq_getElem hn, hc]
    rfl
  rw [this]
  have := h _ (red_in hl v) (red l v)
  rw [← this]
  congr 1
  unfold vadd vsub; ext <;> simp only <;> omega
theorem patAt_lean {p : Pat} (hp : isPat p = true) (v : V) : patAt (onLat p (fullOf p)) v = patAt p v :=
  patAt_onLat hp (isLat_fullOf hp) (fun t ht => (inL_full hp t).1 ht) v
theorem isPat_lean {p : Pat} (hp : isPat p = true) : isPat (onLat p (fullOf p)) = true := isPat_onLat hp (isLat_fullOf hp)
theorem full_congr {p q : Pat} (hp : isPat p = true) (hq : isPat q = true) (h : ∀ v, patAt p v = patAt q v) : fullOf p = fullOf q := by
  refine lat_ext (isLat_fullOf hp) (isLat_fullOf hq) fun w => ?_
  rw [inL_full hp, inL_full hq]
  unfold Per
  constructor <;> intro h1 v <;> have := h1 v <;> simp only [h] at this ⊢ <;> exact this
theorem full_lean {p : Pat} (hp : isPat p = true) : fullOf (onLat p (fullOf p)) = fullOf p := full_congr (isPat_lean hp) hp (patAt_lean hp)
theorem onLat_congr {p q : Pat} (h1 : p.1 = q.1) (h : ∀ v, patAt p v = patAt q v) (l : Lat) : onLat p l = onLat q l := by
  unfold onLat
  rw [h1, List.map_congr_left fun v _ => h v]
theorem lean_eq_iff {p q : Pat} (hp : isPat p = true) (hq : isPat q = true) : onLat p (fullOf p) = onLat q (fullOf q) ↔ p.1 = q.1 ∧ ∀ v, patAt p v = patAt q v := by
  constructor
  · intro h
    refine ⟨by have := congrArg (fun x : Pat => x.1) h; exact this, fun v => ?_⟩
    rw [← patAt_lean hp, ← patAt_lean hq, h]
  · rintro ⟨h1, h2⟩
    rw [full_congr hp hq h2]
    exact onLat_congr h1 h2 _
theorem lean_lean {p : Pat} (hp : isPat p = true) : onLat (onLat p (fullOf p)) (fullOf (onLat p (fullOf p))) = onLat p (fullOf p) :=
  (lean_eq_iff (isPat_lean hp) hp).2 ⟨rfl, patAt_lean hp⟩
theorem sameP_iff {p q : Pat} : sameP p q = true ↔ p = q := by
  unfold sameP
  simp only [Bool.and_eq_true, decide_eq_true_eq]
  constructor
  · rintro ⟨⟨h1, h2⟩, h3⟩; exact Prod.ext h1 (Prod.ext h2 h3)
  · rintro rfl; exact ⟨⟨rfl, rfl⟩, rfl⟩
theorem sameP_self (p : Pat) : sameP p p = true := sameP_iff.2 rfl
theorem moved_back {p : Pat} (hp : isPat p = true) {m : Mat4} (hm : Pm m) (t : V) : moved (moved p m t) (minv m) (vneg (mapp (minv m) t)) = p := by
  have hl := (isPat_iff.1 hp).2.1
  have hq := isPat_moved hp hm t
  have hi := minv_pm hm
  refine pat_ext (isPat_moved hq hi _) hp rfl ?_ fun v => ?_
  · show imgL (minv m) (imgL m p.2.1) = p.2.1
    refine lat_ext (isLat_imgL (isLat_imgL hl hm).1 hi).1 hl fun w => ?_
    have e : w = mapp (minv m) (mapp m w) := (minv_left hm.det w).symm
    have h1 : InL (imgL (minv m) (imgL m p.2.1)) (mapp (minv m) (mapp m w)) ↔ InL (imgL m p.2.1) (mapp m w) := inL_mapp (isLat_imgL hl hm).1 hi (mapp m w)
    rw [← e] at h1
    exact h1.trans (inL_mapp hl hm w)
  · rw [patAt_moved hq hi, patAt_moved hp hm]
    congr 1
    have e : mapp (minv (minv m)) (vsub v (vneg (mapp (minv m) t))) = vadd (mapp m v) t := by
      have h1 : vsub v (vneg (mapp (minv m) t)) = mapp (minv m) (vadd (mapp m v) t) := by
        have h2 := minv_left hm.det v
        rw [show vsub v (vneg (mapp (minv m) t)) = vadd v (mapp (minv m) t) by unfold vsub vneg vadd; ext <;> simp only <;> omega]
        conv => lhs; rw [← h2]
        unfold vadd mapp; ext <;> simp only <;> grind
      rw [h1, minv_left hi.det]
    rw [e]
    have h3 : vsub (vadd (mapp m v) t) t = mapp m v := by unfold vsub vadd; ext <;> simp only <;> omega
    rw [h3, minv_left hm.det]
end Go.Proofs.YtopigbmamejklaaGreatDoor
