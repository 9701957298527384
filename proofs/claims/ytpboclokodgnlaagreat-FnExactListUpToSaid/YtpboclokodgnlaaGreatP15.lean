/-
  Plain meanings: what keeps a pattern; its full lattice; a pattern on another lattice.
-/
import Derived.Test.YtpboclokodgnlaaGreatP12
import Derived.Test.YtpboclokodgnlaaGreatP11
import Derived.Test.YtpboclokodgnlaaGreatPL
namespace Go.Proofs.YtpboclokodgnlaaGreat
open Pre Ai
set_option linter.unusedSimpArgs false
set_option linter.unusedVariables false
set_option linter.unnecessarySimpa false
abbrev Mot := (Int × Int × Int × Int) × Int × Int
def wap (m : Mot) (v : V) : V := wadd (IntKind.i64.wrap (IntKind.i64.wrap (m.1.1 * v.1) + IntKind.i64.wrap (m.1.2.1 * v.2)), IntKind.i64.wrap (IntKind.i64.wrap (m.1.2.2.1 * v.1) + IntKind.i64.wrap (m.1.2.2.2 * v.2))) m.2
theorem spec_l05Apply_v (m : Mot) (v : V) : spec_l05Apply m v = some (wap m v) := by
  rw [spec_l05Apply_eq, spec_l02Apply_eq]
  simp only [Option.bind_some, spec_l01Add_v]
  rfl
theorem impl_Motion_apply_v (m : Mot) (v : V) : impl_Motion_apply m v = some (wap m v) := by
  rw [impl_Motion_apply_eq, impl_Mat_apply_eq]
  simp only [Option.bind_some, impl_Vec_add_v]
  rfl
theorem wap_unit {v t : V} (hv : Sm v) (ht : Sm t) : wap ((1, 0, 0, 1), t) v = vadd v t := by
  obtain ⟨⟨v1, v2⟩, v3, v4⟩ := hv
  obtain ⟨⟨t1, t2⟩, t3, t4⟩ := ht
  unfold wap wadd vadd
  simp only [Int.one_mul, Int.zero_mul]
  rw [w64 (x := v.1) (by omega) (by omega), w64 (x := v.2) (by omega) (by omega), w64 (x := 0) (by omega) (by omega), Int.add_zero, Int.zero_add,
    w64 (x := v.1) (by omega) (by omega), w64 (x := v.2) (by omega) (by omega), w64 (x := v.1 + t.1) (by omega) (by omega), w64 (x := v.2 + t.2) (by omega) (by omega)]
theorem red_cell {l : Lat} (h : isLat l = true) {v : V} (hv : v ∈ cells l) : red l v = v := by
  obtain ⟨⟨v1, v2⟩, v3, v4⟩ := mem_cells.1 hv
  unfold red
  rw [Int.ediv_eq_zero_of_lt v3 v4, Int.zero_mul, Int.sub_zero, Int.emod_eq_of_lt v1 v2, Int.emod_eq_of_lt v3 v4]
theorem num_cell {l : Lat} (h : isLat l = true) {i : Nat} (hi : i < (cells l).length) : num l (cells l)[i] = i := by
  have hl := isLat_iff.1 h
  have hm : (cells l)[i] ∈ cells l := List.getElem_mem hi
  have e : (cells l)[i]? = some (((i / l.2.2.toNat : Nat) : Int), ((i % l.2.2.toNat : Nat) : Int)) := cells_get (by rw [← cells_len]; exact hi)
  rw [List.getElem?_eq_getElem hi, Option.some.injEq] at e
  unfold num
  rw [red_cell h hm, e]
  have h1 := Nat.div_add_mod i l.2.2.toNat
  have h2 : ((l.2.2.toNat : Nat) : Int) = l.2.2 := by omega
  have h3 : (((i / l.2.2.toNat : Nat) : Int) * ((l.2.2.toNat : Nat) : Int) + ((i % l.2.2.toNat : Nat) : Int)) = (i : Int) := by
    rw [Int.mul_comm, ← Int.natCast_mul, ← Int.natCast_add, h1]
  rw [h2] at h3
  show (((i / l.2.2.toNat : Nat) : Int) * l.2.2 + ((i % l.2.2.toNat : Nat) : Int)).toNat = i
  rw [h3]
  rfl
theorem patAt_cell {p : Pat} (h : isPat p = true) {i : Nat} (hi : i < (cells p.2.1).length) : rd p.2.2 (i : Int) = some (patAt p (cells p.2.1)[i]) := by
  have hl := (isPat_iff.1 h).2.1
  rw [← patAt_rd h, num_cell hl hi]
def keepsB (p : Pat) (m : Mot) : Bool := (cells p.2.1).all fun v => decide (patAt p (wap m v) = patAt p v)
theorem cell_pair {l : Lat} (h : isLat l = true) {t : V} (ht : t ∈ cells l) : ∀ v ∈ cells l, Sm (wap ((1, 0, 0, 1), t) v) := by
  intro v hv
  obtain ⟨⟨a1, a2⟩, ⟨c1, c2⟩, _⟩ := isLat_iff.1 h
  rw [wap_unit (cells_sm h hv).1 (cells_sm h ht).1]
  have h1 := mem_cells.1 hv
  have h2 := mem_cells.1 ht
  unfold vadd Sm
  dsimp only
  omega
def fullOf (p : Pat) : Lat := latWith p.2.1 ((cells p.2.1).filter fun t => keepsB p ((1, 0, 0, 1), t))
theorem fullOf_list {p : Pat} (h : isPat p = true) : (∀ v ∈ (cells p.2.1).filter fun t => keepsB p ((1, 0, 0, 1), t), Vs v) ∧ ((cells p.2.1).filter fun t => keepsB p ((1, 0, 0, 1), t)).length ≤ 1048000 := by
  have hl := (isPat_iff.1 h).2.1
  obtain ⟨⟨a1, a2⟩, ⟨c1, c2⟩, _⟩ := isLat_iff.1 hl
  have hn := (cells_len' hl).2
  refine ⟨fun v hv => ?_, ?_⟩
  · have := mem_cells.1 (List.mem_filter.1 hv).1
    unfold Vs; omega
  · have := List.length_filter_le (fun t => keepsB p ((1, 0, 0, 1), t)) (cells p.2.1)
    omega
/-! ### The full lattice is a lattice -/
theorem HInv.down : ∀ (xs : List V) (s : Int × V), HInv s → (∀ v ∈ xs, Vs v) → (xs.foldl hStep s).1 ≤ s.1 ∧ (xs.foldl hStep s).2.2.natAbs ≤ s.2.2.natAbs
  | [], s, i, _ => ⟨Int.le_refl _, Nat.le_refl _⟩
  | v :: r, s, i, h => by
    obtain ⟨_, h2⟩ := i.step (h v (List.mem_cons_self ..))
    obtain ⟨h3, h4⟩ := HInv.down r _ h2 fun w hw => h w (List.mem_cons_of_mem _ hw)
    have g := gcd_le_left s.1 (euc EU s.2 v).2.1 i.a.1
    have st := euc_step (h v (List.mem_cons_self ..)) i.y.1 i.y.2
    rw [List.foldl_cons]
    have e1 : (hStep s v).1 ≤ s.1 := g.1
    have e2 : (hStep s v).2.2.natAbs ≤ s.2.2.natAbs := by
      show (euc EU s.2 v).1.2.natAbs ≤ _
      omega
    omega
theorem isLat_latWith {l : Lat} (hl : isLat l = true) (xs : List V) (hx : ∀ v ∈ xs, Vs v) : isLat (latWith l xs) = true := by
  obtain ⟨⟨a1, a2⟩, ⟨c1, c2⟩, ⟨b1, b2⟩, hp⟩ := isLat_iff.1 hl
  have ih : HInv (l.1, l.2) := ⟨by dsimp only; omega, by show l.2.1.natAbs ≤ 64; omega, by show l.2.2 ≠ 0 ∧ l.2.2.natAbs ≤ 64; omega⟩
  obtain ⟨_, h2⟩ := ih.all xs _ hx
  obtain ⟨d1, d2⟩ := ih.down xs _ hx
  unfold latWith
  generalize xs.foldl hStep (l.1, l.2) = s at h2 d1 d2 ⊢
  obtain ⟨⟨g1, g2⟩, gx, gy1, gy2⟩ := h2
  have d1' : s.1 ≤ l.1 := d1
  have d2' : s.2.2.natAbs ≤ l.2.2.natAbs := d2
  have m1 := Int.emod_nonneg (if s.2.2 < 0 then -s.2.1 else s.2.1) (show s.1 ≠ 0 by omega)
  have m2 := Int.emod_lt_of_pos (if s.2.2 < 0 then -s.2.1 else s.2.1) g1
  have hc : 1 ≤ (if s.2.2 < 0 then -s.2.2 else s.2.2) ∧ (if s.2.2 < 0 then -s.2.2 else s.2.2) ≤ l.2.2 := by split <;> omega
  rw [isLat_iff]
  unfold latN
  refine ⟨⟨by dsimp only; omega, by dsimp only; omega⟩, ⟨by dsimp only; omega, by dsimp only; omega⟩, ⟨m1, m2⟩, ?_⟩
  show s.1 * (if s.2.2 < 0 then -s.2.2 else s.2.2) ≤ 64
  have q1 := Int.mul_le_mul d1' hc.2 (by omega) (by omega)
  omega
theorem isLat_fullOf {p : Pat} (h : isPat p = true) : isLat (fullOf p) = true := isLat_latWith (isPat_iff.1 h).2.1 _ (fullOf_list h).1
/-! ### A pattern on another lattice -/
def onLat (p : Pat) (l : Lat) : Pat := (p.1, l, (cells l).map (patAt p))
theorem onLat_len (p : Pat) {l : Lat} (hl : isLat l = true) : (onLat p l).2.2.length ≤ 64 := by
  have hn := (cells_len' hl).2
  show ((cells l).map (patAt p)).length ≤ 64
  rw [List.length_map]; exact hn
theorem isPat_onLat {p : Pat} (h : isPat p = true) {l : Lat} (hl : isLat l = true) : isPat (onLat p l) = true := by
  obtain ⟨p1, p2, p3, p4⟩ := isPat_iff.1 h
  rw [isPat_iff]
  refine ⟨p1, hl, ?_, ?_⟩
  · show (((cells l).map (patAt p)).length : Int) = _
    rw [List.length_map]; exact (cells_len' hl).1
  · show ((cells l).map (patAt p)).all (within · 0 9) = true
    rw [List.all_eq_true]
    intro c hc
    obtain ⟨v, _, rfl⟩ := List.mem_map.1 hc
    have hr := patAt_rd h v
    rw [rd_nat] at hr
    exact List.all_eq_true.1 p4 _ (List.mem_of_getElem? hr)
/-! ### Vectors of a lattice -/
theorem impl_Lattice_has_v (l : Lat) (v : V) (h : isLat l = true) (hv : Sm v) : impl_Lattice_has l v = some (decide (red l v = (0, 0))) := by
  rw [impl_Lattice_has_eq, impl_Lattice_reduce_v l v h hv]
  simp only [Option.bind_some]
  by_cases h1 : (red l v).1 = 0 <;> by_cases h2 : (red l v).2 = 0 <;> simp [h1, h2, Prod.ext_iff]
theorem isLat_sm {l : Lat} (h : isLat l = true) : Sm (l.1, 0) ∧ Sm l.2 := by
  obtain ⟨⟨a1, a2⟩, ⟨c1, c2⟩, ⟨b1, b2⟩, _⟩ := isLat_iff.1 h
  unfold Sm
  dsimp only
  omega
end Go.Proofs.YtpboclokodgnlaaGreat
