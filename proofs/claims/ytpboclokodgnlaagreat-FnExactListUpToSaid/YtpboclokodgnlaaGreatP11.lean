/-
  Plain meanings: the cells of a lattice; patches that are cut out of a pattern.
-/
import Derived.Test.YtpboclokodgnlaaGreatP10
import Derived.Test.YtpboclokodgnlaaGreatPAdd
namespace Go.Proofs.YtpboclokodgnlaaGreat
open Pre Ai
set_option linter.unusedSimpArgs false
set_option linter.unusedVariables false
set_option linter.unnecessarySimpa false
theorem fold_push {α : Type} (g : Nat → α) (n : Nat) (s : List α) : (List.range' 0 n).foldl (fun s i => s ++ [g i]) s = s ++ (List.range n).map g := by
  rw [foldl_append, List.range_eq_range']
theorem fold_pushes {α : Type} (g : Nat → List α) : ∀ (xs : List Nat) (s : List α), xs.foldl (fun s i => s ++ g i) s = s ++ xs.flatMap g
  | [], s => by simp
  | x :: r, s => by rw [List.foldl_cons, fold_pushes g r]; simp
def cells (l : Lat) : List V := (List.range l.1.toNat).flatMap fun (x : Nat) => (List.range l.2.2.toNat).map fun (y : Nat) => ((x : Int), (y : Int))
theorem flat_len (a c : Nat) (f : Nat → Nat → V) : ((List.range a).flatMap fun x => (List.range c).map (f x)).length = a * c := by
  induction a with
  | zero => simp
  | succ a ih =>
    rw [List.range_succ, List.flatMap_append, List.length_append, ih]
    simp [Nat.add_mul]
theorem cells_len (l : Lat) : (cells l).length = l.1.toNat * l.2.2.toNat := flat_len _ _ _
theorem cells_len' {l : Lat} (h : isLat l = true) : ((cells l).length : Int) = l.1 * l.2.2 ∧ (cells l).length ≤ 64 := by
  rw [cells_len]
  rw [isLat_iff] at h
  have e : ((l.1.toNat * l.2.2.toNat : Nat) : Int) = l.1 * l.2.2 := by
    rw [Int.natCast_mul, Int.toNat_of_nonneg (by omega), Int.toNat_of_nonneg (by omega)]
  omega
theorem flat_get (a c : Nat) (f : Nat → Nat → V) : ∀ i, i < a * c → ((List.range a).flatMap fun x => (List.range c).map (f x))[i]? = some (f (i / c) (i % c)) := by
  induction a with
  | zero => intro i hi; omega
  | succ a ih =>
    intro i hi
    have hc : 0 < c := by
      rcases Nat.eq_zero_or_pos c with h | h
      · subst h; simp at hi
      · exact h
    rw [List.range_succ, List.flatMap_append, List.getElem?_append, flat_len]
    split
    · rename_i h; exact ih i h
    · rename_i h
      have h1 : i - a * c < c := by rw [Nat.add_mul] at hi; omega
      have h2 : i / c = a := by
        have := Nat.div_eq_of_lt_le (n := c) (m := i) (k := a) (by omega) (by rw [Nat.add_mul]; omega)
        exact this
      have h3 : i % c = i - a * c := by
        have := Nat.div_add_mod i c
        rw [h2, Nat.mul_comm] at this; omega
      simp [h1, h2, h3]
theorem cells_get {l : Lat} {i : Nat} (h : i < l.1.toNat * l.2.2.toNat) : (cells l)[i]? = some (((i / l.2.2.toNat : Nat) : Int), ((i % l.2.2.toNat : Nat) : Int)) := flat_get _ _ _ i h
theorem mem_cells {l : Lat} {v : V} : v ∈ cells l ↔ (0 ≤ v.1 ∧ v.1 < l.1) ∧ (0 ≤ v.2 ∧ v.2 < l.2.2) := by
  unfold cells
  rw [List.mem_flatMap]
  constructor
  · rintro ⟨x, hx, hv⟩
    obtain ⟨y, hy, rfl⟩ := List.mem_map.1 hv
    rw [List.mem_range] at hx hy
    show (0 ≤ (x : Int) ∧ (x : Int) < l.1) ∧ (0 ≤ (y : Int) ∧ (y : Int) < l.2.2)
    omega
  · rintro ⟨⟨h1, h2⟩, h3, h4⟩
    refine ⟨v.1.toNat, List.mem_range.2 (by omega), List.mem_map.2 ⟨v.2.toNat, List.mem_range.2 (by omega), ?_⟩⟩
    rw [Int.toNat_of_nonneg h1, Int.toNat_of_nonneg h3]
theorem cells_sm {l : Lat} (h : isLat l = true) {v : V} (hv : v ∈ cells l) : Sm v ∧ isVec v = true := by
  rw [mem_cells] at hv
  rw [isLat_iff] at h
  refine ⟨by unfold Sm; omega, ?_⟩
  simp only [isVec, Bool.and_eq_true, within_iff]
  omega
theorem spec_cells_inner (l : Lat) (h : isLat l = true) (s : List V) (x : Int) (hs : s.length ≤ 100000) :
    spec_l03Cells_l1 s x 0 l.1 l.2.1 l.2.2 = some (s ++ (List.range l.2.2.toNat).map (fun (y : Nat) => (x, (y : Int))), x, l.1, l.2.1, l.2.2) := by
  rw [isLat_iff] at h
  obtain ⟨h1, _⟩ := loop_fold (L := fun s k => spec_l03Cells_l1 s x k l.1 l.2.1 l.2.2) (n := l.2.2.toNat) (f := fun (i : Nat) (s : List V) => s ++ [(x, (i : Int))]) (P := fun k s' => s'.length = s.length + k) (fun k s' hk hp => by
    refine ⟨?_, by simp [hp]; omega⟩
    show spec_l03Cells_l1 s' x k l.1 l.2.1 l.2.2 = _
    rw [spec_l03Cells_l1_eq, decide_eq_true (by omega), wnext hk (by omega), decide_eq_true (by unfold LIM; simp; omega)]
    simp only [cond_true, Option.bind_fun_some]) l.2.2.toNat 0 s (by omega) (by omega)
  have h2 : spec_l03Cells_l1 s x ((0 : Nat) : Int) l.1 l.2.1 l.2.2 = _ := h1
  rw [show ((0 : Nat) : Int) = 0 from rfl] at h2
  rw [h2, fold_push]
  show spec_l03Cells_l1 _ x (l.2.2.toNat : Int) l.1 l.2.1 l.2.2 = _
  rw [spec_l03Cells_l1_eq, decide_eq_false (by omega)]
  rfl
theorem flat_le (c : Nat) (f : Nat → Nat → V) (k a : Nat) (hk : k ≤ a) (h : a * c ≤ 4096) : ((List.range k).flatMap fun x => (List.range c).map (f x)).length ≤ 4096 := by
  rw [flat_len]
  have := Nat.mul_le_mul_right c hk
  omega
theorem lat_small {l : Lat} (h : isLat l = true) : l.1.toNat * l.2.2.toNat ≤ 4096 := by
  have := cells_len' h
  rw [cells_len] at this
  omega
theorem spec_l03Cells_v (l : Lat) (h : isLat l = true) : spec_l03Cells l = some (cells l) := by
  have hl := isLat_iff.1 h
  have hsm := lat_small h
  rw [spec_l03Cells_eq]
  obtain ⟨h1, _⟩ := loop_fold (L := fun s k => spec_l03Cells_l0 s k l.1 l.2.1 l.2.2) (n := l.1.toNat) (f := fun (i : Nat) (s : List V) => s ++ (List.range l.2.2.toNat).map (fun (y : Nat) => ((i : Int), (y : Int)))) (P := fun k s' => s' = (List.range k).flatMap fun (x : Nat) => (List.range l.2.2.toNat).map fun (y : Nat) => ((x : Int), (y : Int))) (fun k s' hk hp => by
    refine ⟨?_, by rw [hp, List.range_succ, List.flatMap_append]; simp⟩
    have hle := flat_le l.2.2.toNat (fun x y => ((x : Int), (y : Int))) k l.1.toNat (by omega) hsm
    show spec_l03Cells_l0 s' k l.1 l.2.1 l.2.2 = _
    rw [spec_l03Cells_l0_eq, decide_eq_true (by omega), spec_cells_inner l h s' k (by rw [hp]; exact Nat.le_trans hle (by omega))]
    simp only [cond_true, Option.bind_some, Option.bind_fun_some]
    rw [wnext hk (by omega)]) l.1.toNat 0 [] (by omega) (by simp)
  have h2 : spec_l03Cells_l0 [] ((0 : Nat) : Int) l.1 l.2.1 l.2.2 = _ := h1
  rw [show ((0 : Nat) : Int) = 0 from rfl] at h2
  rw [h2, fold_pushes]
  show Option.bind (spec_l03Cells_l0 _ (l.1.toNat : Int) l.1 l.2.1 l.2.2) _ = _
  rw [spec_l03Cells_l0_eq, decide_eq_false (by omega)]
  simp [cells, List.range_eq_range']
theorem impl_cells_inner (l : Lat) (h : isLat l = true) (s : List V) (x a : Int) (hs : s.length ≤ 100000) :
    impl_Lattice_cells_l1 s x a x l.2.2 0 l.1 l.2.1 l.2.2 = some (s ++ (List.range l.2.2.toNat).map (fun (y : Nat) => (x, (y : Int))), a, x, l.1, l.2.1, l.2.2) := by
  rw [isLat_iff] at h
  obtain ⟨h1, _⟩ := loop_fold (L := fun s k => impl_Lattice_cells_l1 s x a x l.2.2 k l.1 l.2.1 l.2.2) (n := l.2.2.toNat) (f := fun (i : Nat) (s : List V) => s ++ [(x, (i : Int))]) (P := fun k s' => s'.length = s.length + k) (fun k s' hk hp => by
    refine ⟨?_, by simp [hp]; omega⟩
    show impl_Lattice_cells_l1 s' x a x l.2.2 k l.1 l.2.1 l.2.2 = _
    rw [impl_Lattice_cells_l1_eq, decide_eq_true (by omega), wnext hk (by omega), decide_eq_true (by unfold LIM; simp; omega)]
    simp only [cond_true, Option.bind_fun_some]) l.2.2.toNat 0 s (by omega) (by omega)
  have h2 : impl_Lattice_cells_l1 s x a x l.2.2 ((0 : Nat) : Int) l.1 l.2.1 l.2.2 = _ := h1
  rw [show ((0 : Nat) : Int) = 0 from rfl] at h2
  rw [h2, fold_push]
  show impl_Lattice_cells_l1 _ x a x l.2.2 (l.2.2.toNat : Int) l.1 l.2.1 l.2.2 = _
  rw [impl_Lattice_cells_l1_eq, decide_eq_false (by omega)]
  rfl
theorem impl_Lattice_cells_v (l : Lat) (h : isLat l = true) : impl_Lattice_cells l = some (cells l) := by
  have hl := isLat_iff.1 h
  have hsm := lat_small h
  rw [impl_Lattice_cells_eq]
  obtain ⟨h1, _⟩ := loop_fold (L := fun s k => impl_Lattice_cells_l0 s l.1 k l.1 l.2.1 l.2.2) (n := l.1.toNat) (f := fun (i : Nat) (s : List V) => s ++ (List.range l.2.2.toNat).map (fun (y : Nat) => ((i : Int), (y : Int)))) (P := fun k s' => s' = (List.range k).flatMap fun (x : Nat) => (List.range l.2.2.toNat).map fun (y : Nat) => ((x : Int), (y : Int))) (fun k s' hk hp => by
    refine ⟨?_, by rw [hp, List.range_succ, List.flatMap_append]; simp⟩
    have hle := flat_le l.2.2.toNat (fun x y => ((x : Int), (y : Int))) k l.1.toNat (by omega) hsm
    show impl_Lattice_cells_l0 s' l.1 k l.1 l.2.1 l.2.2 = _
    rw [impl_Lattice_cells_l0_eq, decide_eq_true (by omega), impl_cells_inner l h s' k l.1 (by rw [hp]; exact Nat.le_trans hle (by omega))]
    simp only [cond_true, Option.bind_some, Option.bind_fun_some]
    rw [wnext hk (by omega)]) l.1.toNat 0 [] (by omega) (by simp)
  have h2 : impl_Lattice_cells_l0 [] l.1 ((0 : Nat) : Int) l.1 l.2.1 l.2.2 = _ := h1
  rw [show ((0 : Nat) : Int) = 0 from rfl] at h2
  rw [h2, fold_pushes]
  show Option.bind (impl_Lattice_cells_l0 _ l.1 (l.1.toNat : Int) l.1 l.2.1 l.2.2) _ = _
  rw [impl_Lattice_cells_l0_eq, decide_eq_false (by omega)]
  simp [cells, List.range_eq_range']
/-! ### Patches -/
def place (w : Int) (i : Nat) : V := ((i : Int) % w, (i : Int) / w)
def vadd (u v : V) : V := (u.1 + v.1, u.2 + v.2)
theorem wadd_v {u v : V} (hu : Sm u) (hv : Sm v) : wadd u v = vadd u v := by
  obtain ⟨⟨a, b⟩, c, d⟩ := hu
  obtain ⟨⟨a', b'⟩, c', d'⟩ := hv
  unfold wadd vadd
  rw [w64 (by omega) (by omega), w64 (by omega) (by omega)]
def cutC (p : Pat) (c : V) (w h : Int) : List Int := (List.range (w * h).toNat).map fun i => patAt p (vadd c (place w i))
theorem place_lim {w h : Int} (hw : 1 ≤ w ∧ w ≤ 16) (hh : 1 ≤ h ∧ h ≤ 16) {i : Nat} (hi : i < (w * h).toNat) : (0 ≤ (place w i).1 ∧ (place w i).1 < w) ∧ (0 ≤ (place w i).2 ∧ (place w i).2 < h) := by
  unfold place
  have h1 : (i : Int) < w * h := by omega
  refine ⟨⟨Int.emod_nonneg _ (by omega), Int.emod_lt_of_pos _ (by omega)⟩, Int.ediv_nonneg (by omega) (by omega), ?_⟩
  exact Int.ediv_lt_of_lt_mul (by omega) (by rw [Int.mul_comm]; exact h1)
theorem place_eq {w : Int} (hw : 1 ≤ w ∧ w ≤ 16) (i : Nat) (hi : i ≤ 1048576) : (Int.tmod (i : Int) w, IntKind.i64.wrap (Int.tdiv (i : Int) w)) = place w i := by
  unfold place
  rw [Int.tmod_eq_emod_of_nonneg (by omega), Int.tdiv_eq_ediv_of_nonneg (by omega)]
  have h1 : 0 ≤ (i : Int) / w := Int.ediv_nonneg (by omega) (by omega)
  have h2 : (i : Int) / w ≤ i := Int.ediv_le_of_le_mul (by omega) (by
    have : (i : Int) * 1 ≤ i * w := Int.mul_le_mul_of_nonneg_left (by omega) (by omega)
    omega)
  rw [w64 (by omega) (by omega)]
theorem vadd_sm {c : V} (hc : Sm c ∧ c.1 ≤ 1099511620000 ∧ c.2 ≤ 1099511620000) {w h : Int} (hw : 1 ≤ w ∧ w ≤ 16) (hh : 1 ≤ h ∧ h ≤ 16) {i : Nat} (hi : i < (w * h).toNat) : Sm (vadd c (place w i)) ∧ Sm (place w i) := by
  have := place_lim hw hh hi
  obtain ⟨⟨⟨a, b⟩, c', d⟩, e, f⟩ := hc
  unfold Sm vadd
  omega
theorem wh_lim {w h : Int} (hw : 1 ≤ w ∧ w ≤ 16) (hh : 1 ≤ h ∧ h ≤ 16) : 0 ≤ w * h ∧ w * h ≤ 256 :=
  mul_lim (m := 16) (n := 16) (by omega) (by omega) (by omega) (by omega)
theorem set_take_map {α : Type} (g : Nat → α) {ys : List α} {k n : Nat} (hl : ys.length = n) (h : k < n) (ht : ys.take k = (List.range k).map g) : (ys.set k (g k)).take (k + 1) = (List.range (k + 1)).map g := by
  rw [List.take_add_one, List.take_set, List.set_eq_of_length_le (by simp; omega), ht, List.range_succ, List.map_append]
  simp [h, hl]
theorem vec_cut {c : V} (h : isVec c = true) : Sm c ∧ c.1 ≤ 1099511620000 ∧ c.2 ≤ 1099511620000 := by
  simp only [isVec, Bool.and_eq_true, within_iff] at h
  unfold Sm; omega
end Go.Proofs.YtpboclokodgnlaaGreat
