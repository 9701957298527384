/-
  Plain meanings, part 3.
-/
import Derived.Test.YtopigbmamejklaaGreatDoorMPt2
namespace Go.Proofs.YtopigbmamejklaaGreatDoor
open Ai
set_option linter.unusedSimpArgs false
set_option linter.unusedVariables false
set_option linter.unnecessarySimpa false
def InL (l : Lat) (w : V) : Prop := ∃ i j : Int, w.1 = i * l.1 + j * l.2.1 ∧ w.2 = j * l.2.2
theorem inL_iff {l : Lat} (hl : isLat l = true) (w : V) : red l w = (0, 0) ↔ InL l w := by
  obtain ⟨⟨a1, a2⟩, ⟨c1, c2⟩, ⟨b1, b2⟩, _⟩ := isLat_iff.1 hl
  unfold red InL
  rw [Prod.mk.injEq]
  constructor
  · rintro ⟨h1, h2⟩
    refine ⟨(w.1 - w.2 / l.2.2 * l.2.1) / l.1, w.2 / l.2.2, ?_, ?_⟩
    · have := Int.mul_ediv_add_emod (w.1 - w.2 / l.2.2 * l.2.1) l.1
      rw [Int.mul_comm] at this
      omega
    · have := Int.mul_ediv_add_emod w.2 l.2.2
      rw [Int.mul_comm] at this
      omega
  · rintro ⟨i, j, h1, h2⟩
    have h3 : w.2 / l.2.2 = j := by rw [h2]; exact Int.mul_ediv_cancel _ (by omega)
    refine ⟨?_, by rw [h2]; exact Int.mul_emod_left _ _⟩
    rw [h3, h1, Int.add_sub_cancel]
    exact Int.mul_emod_left _ _
theorem InL.lin {l : Lat} {u v : V} (hu : InL l u) (hv : InL l v) (p q : Int) : InL l (p * u.1 + q * v.1, p * u.2 + q * v.2) := by
  obtain ⟨i, j, h1, h2⟩ := hu
  obtain ⟨i', j', h3, h4⟩ := hv
  refine ⟨p * i + q * i', p * j + q * j', ?_, ?_⟩
  · show p * u.1 + q * v.1 = _
    rw [h1, h3]
    simp only [Int.mul_add, Int.add_mul, Int.mul_assoc]
    omega
  · show p * u.2 + q * v.2 = _
    rw [h2, h4]
    simp only [Int.mul_add, Int.add_mul, Int.mul_assoc]
theorem InL.fst (l : Lat) : InL l (l.1, 0) := ⟨1, 0, by simp, by simp⟩
theorem InL.snd (l : Lat) : InL l l.2 := ⟨0, 1, by simp, by simp⟩
theorem InL.zero (l : Lat) : InL l (0, 0) := ⟨0, 0, by simp, by simp⟩
def vsub (u v : V) : V := (u.1 - v.1, u.2 - v.2)
theorem red_congr {l : Lat} (hl : isLat l = true) {u v : V} (h : InL l (vsub u v)) : red l u = red l v := by
  obtain ⟨⟨a1, a2⟩, ⟨c1, c2⟩, ⟨b1, b2⟩, _⟩ := isLat_iff.1 hl
  obtain ⟨i, j, h1, h2⟩ := h
  unfold vsub at h1 h2
  dsimp only at h1 h2
  have e2 : u.2 = v.2 + j * l.2.2 := by omega
  have e3 : u.2 / l.2.2 = v.2 / l.2.2 + j := by rw [e2]; exact Int.add_mul_ediv_right _ _ (by omega)
  unfold red
  rw [e3, e2, Int.add_mul_emod_self_right, Int.add_mul]
  have e1 : u.1 - (v.2 / l.2.2 * l.2.1 + j * l.2.1) = v.1 - v.2 / l.2.2 * l.2.1 + i * l.1 := by omega
  rw [e1, Int.add_mul_emod_self_right]
theorem red_in {l : Lat} (hl : isLat l = true) (v : V) : InL l (vsub v (red l v)) := by
  obtain ⟨⟨a1, a2⟩, ⟨c1, c2⟩, ⟨b1, b2⟩, _⟩ := isLat_iff.1 hl
  refine ⟨(v.1 - v.2 / l.2.2 * l.2.1) / l.1, v.2 / l.2.2, ?_, ?_⟩
  · have := Int.mul_ediv_add_emod (v.1 - v.2 / l.2.2 * l.2.1) l.1
    rw [Int.mul_comm] at this
    unfold vsub red
    dsimp only
    omega
  · have := Int.mul_ediv_add_emod v.2 l.2.2
    rw [Int.mul_comm] at this
    unfold vsub red
    dsimp only
    omega
theorem red_eq_iff {l : Lat} (hl : isLat l = true) {u v : V} : red l u = red l v ↔ InL l (vsub u v) := by
  constructor
  · intro h
    have h1 := red_in hl u
    have h2 := red_in hl v
    rw [h] at h1
    have := h1.lin h2 1 (-1)
    unfold vsub at this ⊢
    dsimp only at this ⊢
    have e1 : 1 * (u.1 - (red l v).1) + -1 * (v.1 - (red l v).1) = u.1 - v.1 := by omega
    have e2 : 1 * (u.2 - (red l v).2) + -1 * (v.2 - (red l v).2) = u.2 - v.2 := by omega
    rw [e1, e2] at this
    exact this
  · exact red_congr hl
theorem red_mem {l : Lat} (hl : isLat l = true) (v : V) : red l v ∈ cells l := by
  have := red_lim hl v
  exact mem_cells.2 this
theorem cells_num {l : Lat} (hl : isLat l = true) (v : V) : ∃ h : num l v < (cells l).length, (cells l)[num l v] = red l v := by
  obtain ⟨i, hi, he⟩ := List.getElem_of_mem (red_mem hl v)
  have h1 := num_cell hl hi
  have h2 : num l (cells l)[i] = num l v := by
    rw [he]
    unfold num
    rw [red_cell hl (red_mem hl v)]
  rw [h2] at h1
  subst h1
  exact ⟨hi, he⟩
/-! ### The lattice of two vectors -/
def det2 (u v : V) : Int := u.1 * v.2 - v.1 * u.2
theorem euc_det : ∀ (n : Nat) (h v : V), (det2 (euc n h v).1 (euc n h v).2).natAbs = (det2 h v).natAbs
  | 0, _, _ => rfl
  | n + 1, h, v => by
    rw [euc]
    split
    · rfl
    · rw [euc_det n]
      have : det2 v (h.1 - Int.tdiv h.2 v.2 * v.1, h.2 - Int.tdiv h.2 v.2 * v.2) = -det2 h v := by
        unfold det2
        dsimp only
        generalize Int.tdiv h.2 v.2 = q
        rw [Int.mul_sub, Int.sub_mul, Int.mul_left_comm v.1 q v.2, Int.mul_assoc q v.1 v.2]
        omega
      rw [this, Int.natAbs_neg]
def Sp (u v w : V) : Prop := ∃ i j : Int, w.1 = i * u.1 + j * v.1 ∧ w.2 = i * u.2 + j * v.2
theorem Sp.swap {u v w : V} (h : Sp u v w) : Sp v u w := by
  obtain ⟨i, j, h1, h2⟩ := h
  exact ⟨j, i, by omega, by omega⟩
theorem euc_sp : ∀ (n : Nat) (h v w : V), Sp (euc n h v).1 (euc n h v).2 w ↔ Sp h v w
  | 0, _, _, _ => Iff.rfl
  | n + 1, h, v, w => by
    rw [euc]
    split
    · exact Iff.rfl
    · rw [euc_sp n]
      generalize Int.tdiv h.2 v.2 = q
      constructor
      · rintro ⟨i, j, h1, h2⟩
        refine ⟨j, i - j * q, ?_, ?_⟩
        · rw [h1]; dsimp only; rw [Int.mul_sub, Int.sub_mul, Int.mul_assoc]; omega
        · rw [h2]; dsimp only; rw [Int.mul_sub, Int.sub_mul, Int.mul_assoc]; omega
      · rintro ⟨i, j, h1, h2⟩
        refine ⟨j + i * q, i, ?_, ?_⟩
        · rw [h1]; dsimp only; rw [Int.mul_sub, Int.add_mul, Int.mul_assoc]; omega
        · rw [h2]; dsimp only; rw [Int.mul_sub, Int.add_mul, Int.mul_assoc]; omega
theorem euc_v1 : ∀ (n : Nat) (h v : V), (euc n h v).2.1.natAbs ≤ max v.1.natAbs (dd h v)
  | 0, h, v => by show v.1.natAbs ≤ _; omega
  | n + 1, h, v => by
    rw [euc]
    split
    · show v.1.natAbs ≤ _; omega
    · rename_i h0
      obtain ⟨s1, s2, _, _⟩ := dd_step h v h0
      have := euc_v1 n v (h.1 - Int.tdiv h.2 v.2 * v.1, h.2 - Int.tdiv h.2 v.2 * v.2)
      dsimp only at this
      omega
def Vm (v : V) : Prop := v.1.natAbs ≤ 512 ∧ v.2.natAbs ≤ 512
theorem dd_vm {u v : V} (hu : Vm u) (hv : Vm v) : dd u v ≤ 524288 := by
  unfold dd
  have h1 := Nat.mul_le_mul hu.1 hv.2
  have h2 := Nat.mul_le_mul hv.1 hu.2
  omega
def first (v : V) : Int × V := if v.2 = 0 then ((v.1.natAbs : Int), 0, 0) else (0, v)
theorem euc_zero (v : V) : euc EU (0, 0) v = if v.2 = 0 then ((0, 0), v) else (v, (0, 0)) := by
  by_cases h : v.2 = 0
  · rw [if_pos h]; exact euc_flat 1048576 _ _ h
  · rw [if_neg h, show EU = 1048575 + 1 + 1 from rfl, euc, if_neg h]
    have : Int.tdiv 0 v.2 = 0 := Int.zero_tdiv _
    simp only [this, Int.zero_mul, Int.sub_zero]
    rw [euc_flat _ _ _ rfl]
theorem gcd_z (a : Int) : ((Int.gcd 0 a : Nat) : Int) = (a.natAbs : Int) := by rw [Int.gcd_comm, Int.gcd_zero]
theorem hStep_first (v : V) : hStep (0, 0, 0) v = first v := by
  unfold hStep first
  dsimp only
  rw [euc_zero]
  by_cases h : v.2 = 0
  · rw [if_pos h, if_pos h]
    dsimp only
    rw [gcd_z]
    split
    · rw [Int.zero_emod]
    · rfl
  · rw [if_neg h, if_neg h]
    dsimp only
    rw [gcd_z]
    rfl
theorem lStep_first (v : V) : lStep (0, 0, 0) v = first v := by
  unfold lStep first
  dsimp only
  rw [euc_zero]
  by_cases h : v.2 = 0
  · rw [if_pos h, if_pos h]
    dsimp only
    rw [gcd_z]
  · rw [if_neg h, if_neg h]
    dsimp only
    rw [gcd_z]
    rfl
theorem two_end (u v : V) (hu : Vm u) (hv : Vm v) (hd : det2 u v ≠ 0) : ∃ (h : V) (r : Int), (lStep (first u) v).1 = (r.natAbs : Int) ∧ (lStep (first u) v).2 = h ∧ r ≠ 0 ∧ h.2 ≠ 0 ∧ (r * h.2).natAbs = (det2 u v).natAbs ∧ (∀ w, Sp h (r, 0) w ↔ Sp u v w) ∧
    h.1.natAbs ≤ 524288 ∧ r.natAbs ≤ 524288 := by
  unfold first
  by_cases h0 : u.2 = 0
  · rw [if_pos h0]
    have hu1 : u.1 ≠ 0 := by
      intro h1; apply hd; unfold det2; rw [h0, h1]; simp
    have hv2 : v.2 ≠ 0 := by
      intro h1; apply hd; unfold det2; rw [h0, h1]; simp
    have e : lStep ((u.1.natAbs : Int), 0, 0) v = ((u.1.natAbs : Int), v) := by
      unfold lStep
      dsimp only
      rw [euc_zero, if_neg hv2]
      dsimp only
      rw [Int.gcd_zero]
      rfl
    refine ⟨v, u.1, by rw [e], by rw [e], hu1, hv2, ?_, ?_, by have := hv.1; omega, by have := hu.1; omega⟩
    · unfold det2; rw [h0]; simp
    · intro w
      have hue : (u.1, (0 : Int)) = u := by rw [← h0]
      rw [hue]
      exact ⟨Sp.swap, Sp.swap⟩
  · rw [if_neg h0]
    have hvs : v.2.natAbs < EU := by have := hv.2; unfold EU; omega
    obtain ⟨g1, g2⟩ := euc_gcd EU u v hvs
    have gp : 0 < Int.gcd u.2 v.2 := Int.gcd_pos_of_ne_zero_left _ h0
    have hdet := euc_det EU u v
    have hdd := dd_vm hu hv
    have b1 := euc_h1 EU u v
    have b2 := euc_v1 EU u v
    have hu1 := hu.1
    have hv1 := hv.1
    have hdt : (det2 (euc EU u v).1 (euc EU u v).2) = -((euc EU u v).2.1 * (euc EU u v).1.2) := by
      unfold det2
      rw [g2]
      simp
    rw [hdt, Int.natAbs_neg] at hdet
    refine ⟨(euc EU u v).1, (euc EU u v).2.1, ?_, rfl, ?_, by omega, hdet, ?_, by omega, by omega⟩
    · unfold lStep
      exact gcd_z _
    · intro h1
      rw [h1] at hdet
      simp at hdet
      omega
    · intro w
      have he : ((euc EU u v).2.1, (0 : Int)) = (euc EU u v).2 := by rw [← g2]
      rw [he]
      exact euc_sp EU u v w
theorem first_ok (u v : V) (hu : Vm u) (hv : Vm v) : Ok (0, 0, 0) u ∧ Ok (first u) v := by
  have hu1 := hu.1
  have hu2 := hu.2
  have hv1 := hv.1
  have hv2 := hv.2
  constructor
  · refine ⟨⟨by simp [dd], by simp, by omega, by simp, by omega⟩, by simp, ?_⟩
    dsimp only
    rw [euc_zero, gcd_z]
    split
    · dsimp only; omega
    · simp
  · have hb : (first u).2.1.natAbs ≤ 512 ∧ (first u).2.2.natAbs ≤ 512 := by
      unfold first
      split
      · simp
      · exact hu
    have hdd := dd_vm (u := (first u).2) hb hv
    have ha : 0 ≤ (first u).1 ∧ (first u).1 ≤ 1024 := by
      unfold first
      split
      · dsimp only; omega
      · simp
    have b2 := euc_v1 EU (first u).2 v
    refine ⟨⟨by omega, by omega, by omega, by omega, by omega⟩, by omega, ?_⟩
    by_cases h0 : (first u).1 = 0
    · rw [h0, gcd_z]
      omega
    · have := (gcd_le_left (first u).1 (euc EU (first u).2 v).2.1 (by omega)).1
      omega
theorem latN_sp (a r : Int) (h : V) (ha : a = (r.natAbs : Int)) (hr : r ≠ 0) (hy : h.2 ≠ 0) (w : V) : InL (latN (a, h)) w ↔ Sp h (r, 0) w := by
  obtain ⟨q, hq⟩ : ∃ q, (if h.2 < 0 then -h.1 else h.1) % a = (if h.2 < 0 then -h.1 else h.1) - q * a :=
    ⟨(if h.2 < 0 then -h.1 else h.1) / a, by
      have := Int.mul_ediv_add_emod (if h.2 < 0 then -h.1 else h.1) a
      rw [Int.mul_comm] at this
      omega⟩
  unfold InL latN Sp
  dsimp only
  rw [hq]
  by_cases hn : h.2 < 0
  · simp only [if_pos hn, Int.mul_zero, Int.add_zero]
    rcases Int.natAbs_eq r with h1 | h1 <;> rw [← ha] at h1
    · constructor
      · rintro ⟨i, j, e1, e2⟩
        refine ⟨-j, i - j * q, ?_, by rw [e2, Int.mul_neg, Int.neg_mul]⟩
        rw [e1, h1, Int.mul_sub, Int.mul_neg, Int.neg_mul, Int.sub_mul, Int.mul_assoc]
        omega
      · rintro ⟨i, j, e1, e2⟩
        refine ⟨j - i * q, -i, ?_, by rw [e2, Int.neg_mul_neg]⟩
        rw [e1, h1, Int.mul_sub, Int.neg_mul_neg, Int.sub_mul, Int.mul_assoc, Int.neg_mul]
        omega
    · constructor
      · rintro ⟨i, j, e1, e2⟩
        refine ⟨-j, -(i - j * q), ?_, by rw [e2, Int.mul_neg, Int.neg_mul]⟩
        rw [e1, h1, Int.mul_sub, Int.mul_neg, Int.neg_mul_neg, Int.neg_mul, Int.sub_mul, Int.mul_assoc]
        omega
      · rintro ⟨i, j, e1, e2⟩
        refine ⟨-j - i * q, -i, ?_, by rw [e2, Int.neg_mul_neg]⟩
        rw [e1, h1, Int.mul_sub, Int.neg_mul_neg, Int.sub_mul, Int.mul_assoc, Int.neg_mul, Int.mul_neg, Int.neg_mul]
        omega
  · simp only [if_neg hn, Int.mul_zero, Int.add_zero]
    rcases Int.natAbs_eq r with h1 | h1 <;> rw [← ha] at h1
    · constructor
      · rintro ⟨i, j, e1, e2⟩
        refine ⟨j, i - j * q, ?_, e2⟩
        rw [e1, h1, Int.mul_sub, Int.sub_mul, Int.mul_assoc]
        omega
      · rintro ⟨i, j, e1, e2⟩
        refine ⟨j + i * q, i, ?_, e2⟩
        rw [e1, h1, Int.mul_sub, Int.add_mul, Int.mul_assoc]
        omega
    · constructor
      · rintro ⟨i, j, e1, e2⟩
        refine ⟨j, -(i - j * q), ?_, e2⟩
        rw [e1, h1, Int.mul_sub, Int.neg_mul_neg, Int.sub_mul, Int.mul_assoc]
        omega
      · rintro ⟨i, j, e1, e2⟩
        refine ⟨-j + i * q, i, ?_, e2⟩
        rw [e1, h1, Int.mul_sub, Int.add_mul, Int.mul_assoc, Int.neg_mul, Int.mul_neg]
        omega
def imgOf (u v : V) : Lat := latN (lStep (first u) v)
structure Two (u v : V) : Prop where
  uu : Vm u
  vv : Vm v
  d : det2 u v ≠ 0
  l : (det2 u v).natAbs ≤ 64
theorem inL_img {u v : V} (h : Two u v) (w : V) : InL (imgOf u v) w ↔ Sp u v w := by
  obtain ⟨k, r, e1, e2, hr, hy, hp, hs, _, _⟩ := two_end u v h.uu h.vv h.d
  unfold imgOf
  have : lStep (first u) v = ((r.natAbs : Int), k) := by rw [← e1, ← e2]
  rw [this, latN_sp _ r k rfl hr hy, hs]
theorem isLat_img {u v : V} (h : Two u v) : isLat (imgOf u v) = true ∧ (imgOf u v).1 * (imgOf u v).2.2 = ((det2 u v).natAbs : Int) := by
  obtain ⟨k, r, e1, e2, hr, hy, hp, hs, _, _⟩ := two_end u v h.uu h.vv h.d
  have hl := h.l
  have e : lStep (first u) v = ((r.natAbs : Int), k) := by rw [← e1, ← e2]
  have hc : (if k.2 < 0 then -k.2 else k.2) = (k.2.natAbs : Int) := by split <;> omega
  have hm : (r.natAbs : Int) * (k.2.natAbs : Int) = ((det2 u v).natAbs : Int) := by
    rw [← hp, Int.natAbs_mul, Int.natCast_mul]
  have r1 : 1 ≤ r.natAbs := by omega
  have k1 : 1 ≤ k.2.natAbs := by omega
  have m1 : r.natAbs * 1 ≤ r.natAbs * k.2.natAbs := Nat.mul_le_mul_left _ k1
  have m2 : 1 * k.2.natAbs ≤ r.natAbs * k.2.natAbs := Nat.mul_le_mul_right _ r1
  have hm' : r.natAbs * k.2.natAbs = (det2 u v).natAbs := by rw [← hp, Int.natAbs_mul]
  unfold imgOf
  rw [e]
  unfold latN
  dsimp only
  rw [hc]
  refine ⟨?_, hm⟩
  rw [isLat_iff]
  dsimp only
  have q1 := Int.emod_nonneg (if k.2 < 0 then -k.1 else k.1) (show (r.natAbs : Int) ≠ 0 by omega)
  have q2 := Int.emod_lt_of_pos (if k.2 < 0 then -k.1 else k.1) (show 0 < (r.natAbs : Int) by omega)
  refine ⟨by omega, by omega, ⟨q1, q2⟩, by omega⟩
theorem sim_refl (s : Int × V) : Sim s s := by
  refine ⟨rfl, ?_⟩
  split
  · rfl
  · exact ⟨rfl, 0, by simp⟩
theorem img_spec {u v : V} (h : Two u v) : spec_l03Hermite [u, v] = some (imgOf u v) := by
  obtain ⟨k, r, e1, e2, hr, hy, hp, hs, b1, b2⟩ := two_end u v h.uu h.vv h.d
  have hl := h.l
  have e : lStep (first u) v = ((r.natAbs : Int), k) := by rw [← e1, ← e2]
  obtain ⟨o1, o2⟩ := first_ok u v h.uu h.vv
  have r1 : 1 ≤ r.natAbs := by omega
  have m2 : 1 * k.2.natAbs ≤ r.natAbs * k.2.natAbs := Nat.mul_le_mul_right _ r1
  have hm' : r.natAbs * k.2.natAbs = (det2 u v).natAbs := by rw [← hp, Int.natAbs_mul]
  have ls : Small (lStep (first u) v) := by
    rw [e]
    exact ⟨by dsimp only; omega, by dsimp only; omega, by dsimp only; omega⟩
  have f0 : 0 ≤ (first u).1 := by unfold first; split <;> dsimp only <;> omega
  have sim := (sim_step (sim_refl (first u)) f0 v).1
  have hsm : Small (hStep (first u) v) := by
    obtain ⟨s1, s2⟩ := sim
    have ha : (hStep (first u) v).1 = (r.natAbs : Int) := by rw [s1, e]
    rw [if_neg (by omega)] at s2
    refine ⟨by omega, ?_, by rw [s2.1, e]; dsimp only; omega⟩
    have hx : (hStep (first u) v).2.1 = if 0 < (hStep (first u) v).1 then (euc EU (first u).2 v).1.1 % (hStep (first u) v).1 else (euc EU (first u).2 v).1.1 := rfl
    rw [hx, if_pos (by omega)]
    have q1 := Int.emod_nonneg (euc EU (first u).2 v).1.1 (show (hStep (first u) v).1 ≠ 0 by omega)
    have q2 := Int.emod_lt_of_pos (euc EU (first u).2 v).1.1 (show 0 < (hStep (first u) v).1 by omega)
    omega
  have hok : OkAll hStep (0, 0, 0) [u, v] := ⟨o1, by rw [hStep_first]; exact o2, trivial⟩
  have r1 := spec_Hermite_of [u, v] (by simp) hok (by simp only [List.foldl_cons, List.foldl_nil, hStep_first]; exact hsm)
  simp only [List.foldl_cons, List.foldl_nil, hStep_first] at r1
  rw [r1]
  show _ = some (latN (lStep (first u) v))
  rw [latN_sim sim hsm.a.1]
theorem lat_eq {l m : Lat} (hl : isLat l = true) (hm : isLat m = true) (hp : m.1 * m.2.2 = l.1 * l.2.2) (hi : ∀ w, InL m w → InL l w) : m = l := by
  obtain ⟨⟨a1, a2⟩, ⟨c1, c2⟩, ⟨b1, b2⟩, _⟩ := isLat_iff.1 hl
  obtain ⟨⟨a3, a4⟩, ⟨c3, c4⟩, ⟨b3, b4⟩, _⟩ := isLat_iff.1 hm
  obtain ⟨i, j, h1, h2⟩ := hi _ (InL.fst m)
  obtain ⟨i', j', h3, h4⟩ := hi _ (InL.snd m)
  dsimp only at h1 h2
  have hj : j = 0 := by
    rcases Int.mul_eq_zero.1 h2.symm with h | h
    · exact h
    · omega
  rw [hj, Int.zero_mul, Int.add_zero] at h1
  have i1 : 1 ≤ i := by
    rcases Int.lt_or_le i 1 with h | h
    · have := Int.mul_nonpos_of_nonpos_of_nonneg (show i ≤ 0 by omega) (show 0 ≤ l.1 by omega)
      omega
    · exact h
  have j1 : 1 ≤ j' := by
    rcases Int.lt_or_le j' 1 with h | h
    · have := Int.mul_nonpos_of_nonpos_of_nonneg (show j' ≤ 0 by omega) (show 0 ≤ l.2.2 by omega)
      omega
    · exact h
  have ha : l.1 ≤ m.1 := by
    have := Int.mul_le_mul_of_nonneg_right i1 (show 0 ≤ l.1 by omega)
    omega
  have hc : l.2.2 ≤ m.2.2 := by
    have := Int.mul_le_mul_of_nonneg_right j1 (show 0 ≤ l.2.2 by omega)
    omega
  have ea : m.1 = l.1 := by
    rcases Int.lt_or_le l.1 m.1 with h | h
    · have q1 := Int.mul_le_mul (show l.1 + 1 ≤ m.1 by omega) hc (by omega) (by omega)
      rw [Int.add_mul] at q1
      omega
    · omega
  have ec : m.2.2 = l.2.2 := by
    rw [ea] at hp
    exact Int.eq_of_mul_eq_mul_left (by omega) hp
  have j2 : j' = 1 := by
    rw [ec] at h4
    have : 1 * l.2.2 = j' * l.2.2 := by omega
    exact (Int.eq_of_mul_eq_mul_right (by omega) this).symm
  rw [j2, Int.one_mul] at h3
  have i2 : i' = 0 := by
    rcases Int.lt_trichotomy i' 0 with h | h | h
    · have := Int.mul_le_mul_of_nonneg_right (show i' ≤ -1 by omega) (show 0 ≤ l.1 by omega)
      omega
    · exact h
    · have := Int.mul_le_mul_of_nonneg_right (show 1 ≤ i' by omega) (show 0 ≤ l.1 by omega)
      omega
  rw [i2, Int.zero_mul, Int.zero_add] at h3
  rw [Prod.ext_iff, Prod.ext_iff]
  exact ⟨ea, h3, ec⟩
theorem img_eq_iff {l : Lat} (hl : isLat l = true) {u v : V} (h : Two u v) (hd : ((det2 u v).natAbs : Int) = l.1 * l.2.2) : imgOf u v = l ↔ InL l u ∧ InL l v := by
  constructor
  · intro e
    have hs := inL_img h
    rw [e] at hs
    exact ⟨(hs u).2 ⟨1, 0, by simp, by simp⟩, (hs v).2 ⟨0, 1, by simp, by simp⟩⟩
  · rintro ⟨h1, h2⟩
    obtain ⟨i1, i2⟩ := isLat_img h
    refine lat_eq hl i1 (by omega) fun w hw => ?_
    obtain ⟨i, j, e1, e2⟩ := (inL_img h w).1 hw
    have := h1.lin h2 i j
    rw [← e1, ← e2] at this
    exact this
/-! ### Matrices -/
abbrev Mat4 := Int × Int × Int × Int
def mdet (m : Mat4) : Int := m.1 * m.2.2.2 - m.2.1 * m.2.2.1
def mapp (m : Mat4) (v : V) : V := (m.1 * v.1 + m.2.1 * v.2, m.2.2.1 * v.1 + m.2.2.2 * v.2)
def Unit1 (x : Int) : Prop := -1 ≤ x ∧ x ≤ 1
structure Pm (m : Mat4) : Prop where
  a : Unit1 m.1
  b : Unit1 m.2.1
  c : Unit1 m.2.2.1
  d : Unit1 m.2.2.2
  det : mdet m = 1 ∨ mdet m = -1
theorem unit_mul {a x : Int} (h : Unit1 a) : a * x = x ∨ a * x = 0 ∨ a * x = -x := by
  have : a = 1 ∨ a = 0 ∨ a = -1 := by unfold Unit1 at h; omega
  rcases this with h | h | h <;> subst h
  · left; exact Int.one_mul _
  · right; left; exact Int.zero_mul _
  · right; right; rw [Int.neg_mul, Int.one_mul]
theorem mapp_lim {m : Mat4} (h : Pm m) (v : V) : (mapp m v).1.natAbs ≤ v.1.natAbs + v.2.natAbs ∧ (mapp m v).2.natAbs ≤ v.1.natAbs + v.2.natAbs := by
  have ha := unit_mul (x := v.1) h.a
  have hb := unit_mul (x := v.2) h.b
  have hc := unit_mul (x := v.1) h.c
  have hd := unit_mul (x := v.2) h.d
  unfold mapp
  dsimp only
  generalize m.1 * v.1 = p at *
  generalize m.2.1 * v.2 = q at *
  generalize m.2.2.1 * v.1 = r at *
  generalize m.2.2.2 * v.2 = s at *
  omega
theorem det_mapp (m : Mat4) (u v : V) : det2 (mapp m u) (mapp m v) = mdet m * det2 u v := by
  obtain ⟨a, b, c, d⟩ := m
  obtain ⟨x, y⟩ := u
  obtain ⟨z, w⟩ := v
  unfold det2 mapp mdet
  dsimp only
  simp only [Int.mul_add, Int.add_mul, Int.mul_sub, Int.sub_mul, Int.mul_assoc, Int.mul_comm, Int.mul_left_comm]
  omega
theorem two_img {l : Lat} (hl : isLat l = true) {m : Mat4} (hm : Pm m) : Two (mapp m (l.1, 0)) (mapp m l.2) ∧ ((det2 (mapp m (l.1, 0)) (mapp m l.2)).natAbs : Int) = l.1 * l.2.2 := by
  obtain ⟨⟨a1, a2⟩, ⟨c1, c2⟩, ⟨b1, b2⟩, hp⟩ := isLat_iff.1 hl
  have h1 := mapp_lim hm (l.1, 0)
  have h2 := mapp_lim hm l.2
  dsimp only at h1
  have hd : det2 (l.1, 0) l.2 = l.1 * l.2.2 := by unfold det2; simp
  have hpos : 1 ≤ l.1 * l.2.2 := by
    have := Int.mul_le_mul a1 c1 (by omega) (by omega)
    omega
  have hn : (det2 (mapp m (l.1, 0)) (mapp m l.2)).natAbs = (l.1 * l.2.2).natAbs := by
    rw [det_mapp, hd, Int.natAbs_mul]
    rcases hm.det with h | h <;> rw [h] <;> simp
  refine ⟨⟨by unfold Vm; omega, by unfold Vm; omega, ?_, by omega⟩, by omega⟩
  intro h0
  rw [h0] at hn
  simp only [Int.natAbs_zero] at hn
  omega
theorem stable_iff {l : Lat} (hl : isLat l = true) {m : Mat4} (hm : Pm m) : imgOf (mapp m (l.1, 0)) (mapp m l.2) = l ↔ red l (mapp m (l.1, 0)) = (0, 0) ∧ red l (mapp m l.2) = (0, 0) := by
  obtain ⟨h1, h2⟩ := two_img hl hm
  rw [img_eq_iff hl h1 h2, inL_iff hl, inL_iff hl]
theorem sets_get {β : Type} (f : Nat → β) : ∀ (ks : List Nat) (xs : List β) (j : Nat), j < xs.length → (∀ k ∈ ks, k < xs.length) →
    (ks.foldl (fun s k => s.set k (f k)) xs)[j]? = if j ∈ ks then some (f j) else xs[j]?
  | [], xs, j, hj, _ => by simp
  | k :: r, xs, j, hj, h => by
    rw [List.foldl_cons, sets_get f r _ j (by rw [List.length_set]; exact hj) (fun i hi => by rw [List.length_set]; exact h i (List.mem_cons_of_mem _ hi))]
    by_cases h1 : j ∈ r
    · rw [if_pos h1, if_pos (List.mem_cons_of_mem _ h1)]
    · rw [if_neg h1]
      by_cases h2 : k = j
      · subst h2
        rw [if_pos (List.mem_cons_self ..), List.getElem?_set_self hj]
      · rw [List.getElem?_set_ne h2, if_neg]
        intro h3
        rcases List.mem_cons.1 h3 with h4 | h4
        · exact h2 h4.symm
        · exact h1 h4
theorem sets_len {β : Type} (f : Nat → β) : ∀ (ks : List Nat) (xs : List β), (ks.foldl (fun s k => s.set k (f k)) xs).length = xs.length
  | [], xs => rfl
  | k :: r, xs => by rw [List.foldl_cons, sets_len f r, List.length_set]
theorem loop_sets {β R : Type} {L : List β → Int → Option R} (n m : Nat) (ix : Nat → Nat) (f : Nat → β) (s0 : List β) (h0 : s0.length = m)
    (hi : ∀ k, k < n → ix k < m) (hj : ∀ j, j < m → ∃ k, k < n ∧ ix k = j)
    (hs : ∀ (k : Nat) (s : List β), k < n → s.length = m → L s (k : Int) = L (s.set (ix k) (f (ix k))) ((k + 1 : Nat) : Int)) :
    L s0 0 = L ((List.range m).map f) (n : Int) := by
  have h : ∀ (d k : Nat) (s : List β), k + d = n → s.length = m → L s (k : Int) = L (((List.range' k d).map ix).foldl (fun s k => s.set k (f k)) s) (n : Int) := by
    intro d
    induction d with
    | zero => intro k s hk _; rw [show k = n by omega]; rfl
    | succ d ih =>
      intro k s hk hl
      rw [hs k s (by omega) hl, List.range'_succ, List.map_cons, List.foldl_cons]
      exact ih (k + 1) _ (by omega) (by rw [List.length_set]; exact hl)
  have := h n 0 s0 (by omega) h0
  rw [show ((0 : Nat) : Int) = 0 from rfl] at this
  rw [this]
  congr 1
  apply List.ext_getElem?
  intro j
  by_cases hjm : j < m
  · rw [sets_get f _ _ j (by omega) (fun k hk => by
      obtain ⟨i, hi1, rfl⟩ := List.mem_map.1 hk
      rw [List.mem_range'_1] at hi1
      rw [h0]; exact hi i (by omega))]
    obtain ⟨k, hk, e⟩ := hj j hjm
    rw [if_pos (List.mem_map.2 ⟨k, by rw [List.mem_range'_1]; omega, e⟩), List.getElem?_map, List.getElem?_range hjm]
    rfl
  · rw [List.getElem?_eq_none (by rw [sets_len]; omega), List.getElem?_eq_none (by simp; omega)]
/-! ### Matrices that lead back -/
def minv (m : Mat4) : Mat4 := (mdet m * m.2.2.2, -(mdet m) * m.2.1, -(mdet m) * m.2.2.1, mdet m * m.1)
theorem mapp_lin (m : Mat4) (i j : Int) (u v : V) : mapp m (i * u.1 + j * v.1, i * u.2 + j * v.2) = (i * (mapp m u).1 + j * (mapp m v).1, i * (mapp m u).2 + j * (mapp m v).2) := by
  obtain ⟨a, b, c, d⟩ := m
  obtain ⟨x, y⟩ := u
  obtain ⟨z, w⟩ := v
  unfold mapp
  dsimp only
  rw [Prod.mk.injEq]
  simp only [Int.mul_add, Int.add_mul, Int.mul_assoc, Int.mul_comm, Int.mul_left_comm]
  omega
theorem minv_left {m : Mat4} (h : mdet m = 1 ∨ mdet m = -1) (v : V) : mapp (minv m) (mapp m v) = v := by
  obtain ⟨a, b, c, d⟩ := m
  obtain ⟨x, y⟩ := v
  unfold mapp minv
  dsimp only
  unfold mdet at h ⊢
  dsimp only at h ⊢
  rw [Prod.mk.injEq]
  have h1 : (a * d - b * c) * x = a * d * x - b * c * x := Int.sub_mul ..
  have h2 : (a * d - b * c) * y = a * d * y - b * c * y := Int.sub_mul ..
  rcases h with h | h <;> rw [h] at h1 h2 ⊢ <;> simp only [Int.one_mul, Int.mul_one, Int.neg_mul, Int.mul_neg, Int.neg_neg, Int.mul_add, Int.add_mul, Int.mul_assoc, Int.mul_comm, Int.mul_left_comm] at h1 h2 ⊢ <;> omega
theorem minv_right {m : Mat4} (h : mdet m = 1 ∨ mdet m = -1) (v : V) : mapp m (mapp (minv m) v) = v := by
  obtain ⟨a, b, c, d⟩ := m
  obtain ⟨x, y⟩ := v
  unfold mapp minv
  dsimp only
  unfold mdet at h ⊢
  dsimp only at h ⊢
  rw [Prod.mk.injEq]
  have h1 : (a * d - b * c) * x = a * d * x - b * c * x := Int.sub_mul ..
  have h2 : (a * d - b * c) * y = a * d * y - b * c * y := Int.sub_mul ..
  rcases h with h | h <;> rw [h] at h1 h2 ⊢ <;> simp only [Int.one_mul, Int.mul_one, Int.neg_mul, Int.mul_neg, Int.neg_neg, Int.mul_add, Int.add_mul, Int.mul_assoc, Int.mul_comm, Int.mul_left_comm] at h1 h2 ⊢ <;> omega
theorem minv_pm {m : Mat4} (h : Pm m) : Pm (minv m) := by
  obtain ⟨ha, hb, hc, hd, he⟩ := h
  have hdet : mdet (minv m) = mdet m := by
    have e : mdet (minv m) = mdet m * mdet m * mdet m := by
      obtain ⟨a, b, c, d⟩ := m
      unfold minv
      dsimp only
      generalize hk : mdet (a, b, c, d) = k
      have : k = a * d - b * c := by rw [← hk]; rfl
      have h1 : k * d * (k * a) = k * k * (a * d) := by simp only [Int.mul_assoc, Int.mul_comm, Int.mul_left_comm]
      have h2 : -k * b * (-k * c) = k * k * (b * c) := by simp only [Int.neg_mul, Int.mul_neg, Int.neg_neg, Int.mul_assoc, Int.mul_comm, Int.mul_left_comm]
      show k * d * (k * a) - -k * b * (-k * c) = k * k * k
      rw [h1, h2, ← Int.mul_sub, ← this]
    rw [e]
    rcases he with h | h <;> rw [h] <;> rfl
  refine ⟨?_, ?_, ?_, ?_, by rw [hdet]; exact he⟩
  all_goals
    unfold minv Unit1 at *
    dsimp only
    rcases he with h | h <;> rw [h] <;> omega
theorem inL_mapp {l : Lat} (hl : isLat l = true) {m : Mat4} (hm : Pm m) (w : V) : InL (imgOf (mapp m (l.1, 0)) (mapp m l.2)) (mapp m w) ↔ InL l w := by
  rw [inL_img (two_img hl hm).1]
  constructor
  · rintro ⟨i, j, h1, h2⟩
    have e : mapp m w = mapp m (i * (l.1, (0 : Int)).1 + j * l.2.1, i * (l.1, (0 : Int)).2 + j * l.2.2) := by
      rw [mapp_lin m i j (l.1, 0) l.2, Prod.ext_iff]
      exact ⟨h1, h2⟩
    have e2 := congrArg (mapp (minv m)) e
    rw [minv_left hm.det, minv_left hm.det] at e2
    rw [e2]
    exact ⟨i, j, rfl, by simp⟩
  · rintro ⟨i, j, h1, h2⟩
    refine ⟨i, j, ?_⟩
    have e : w = (i * (l.1, (0 : Int)).1 + j * l.2.1, i * (l.1, (0 : Int)).2 + j * l.2.2) := by
      rw [Prod.ext_iff]
      exact ⟨h1, by simpa using h2⟩
    rw [e, mapp_lin m i j (l.1, 0) l.2]
    exact ⟨rfl, rfl⟩
theorem inL_minv {l : Lat} (hl : isLat l = true) {m : Mat4} (hm : Pm m) (w : V) : InL (imgOf (mapp m (l.1, 0)) (mapp m l.2)) w ↔ InL l (mapp (minv m) w) := by
  rw [← inL_mapp hl hm, minv_right hm.det]
theorem mapp_sub (m : Mat4) (u v : V) : mapp m (vsub u v) = vsub (mapp m u) (mapp m v) := by
  obtain ⟨a, b, c, d⟩ := m
  obtain ⟨x, y⟩ := u
  obtain ⟨z, w⟩ := v
  unfold mapp vsub
  dsimp only
  rw [Prod.mk.injEq]
  simp only [Int.mul_sub]
  omega
/-! ### Moving -/
def imgL (m : Mat4) (l : Lat) : Lat := imgOf (mapp m (l.1, 0)) (mapp m l.2)
theorem isLat_imgL {l : Lat} (hl : isLat l = true) {m : Mat4} (hm : Pm m) : isLat (imgL m l) = true ∧ (cells (imgL m l)).length = (cells l).length := by
  have h2 := two_img hl hm
  have h3 := isLat_img h2.1
  have c1 := cells_len' h3.1
  have c2 := cells_len' hl
  refine ⟨h3.1, ?_⟩
  have : ((cells (imgL m l)).length : Int) = (cells l).length := by
    rw [show ((cells (imgL m l)).length : Int) = _ from c1.1, c2.1, ← h2.2]
    exact h3.2
  omega
def movedC (p : Pat) (m : Mat4) (t : V) (y : V) : Int := patAt p (mapp (minv m) (vsub y t))
def moved (p : Pat) (m : Mat4) (t : V) : Pat := (p.1, imgL m p.2.1, (cells (imgL m p.2.1)).map (movedC p m t))
theorem patAt_congr {p : Pat} {u v : V} (h : red p.2.1 u = red p.2.1 v) : patAt p u = patAt p v := by
  unfold patAt num
  rw [h]
def movedIx (l : Lat) (m : Mat4) (t : V) (x : V) : Nat := num (imgL m l) (vadd (mapp m x) t)
theorem moved_at {p : Pat} (hp : isPat p = true) {m : Mat4} (hm : Pm m) (t : V) {i : Nat} (hi : i < (cells p.2.1).length) :
    ∃ h : movedIx p.2.1 m t (cells p.2.1)[i] < (cells (imgL m p.2.1)).length, movedC p m t (cells (imgL m p.2.1))[movedIx p.2.1 m t (cells p.2.1)[i]] = patAt p (cells p.2.1)[i] := by
  have hl := (isPat_iff.1 hp).2.1
  have hl' := (isLat_imgL hl hm).1
  obtain ⟨h1, h2⟩ := cells_num hl' (vadd (mapp m (cells p.2.1)[i]) t)
  refine ⟨h1, ?_⟩
  unfold movedIx
  rw [h2]
  unfold movedC
  apply patAt_congr
  rw [red_eq_iff hl]
  have h3 := red_in hl' (vadd (mapp m (cells p.2.1)[i]) t)
  have h4 := (inL_minv hl hm _).1 h3
  have h5 := h4.lin h4 (-1) 0
  have e : vsub (mapp (minv m) (vsub (red (imgL m p.2.1) (vadd (mapp m (cells p.2.1)[i]) t)) t)) (cells p.2.1)[i] = (-1 * (mapp (minv m) (vsub (vadd (mapp m (cells p.2.1)[i]) t) (red (imgL m p.2.1) (vadd (mapp m (cells p.2.1)[i]) t)))).1 + 0 * (mapp (minv m) (vsub (vadd (mapp m (cells p.2.1)[i]) t) (red (imgL m p.2.1) (vadd (mapp m (cells p.2.1)[i]) t)))).1, -1 * (mapp (minv m) (vsub (vadd (mapp m (cells p.2.1)[i]) t) (red (imgL m p.2.1) (vadd (mapp m (cells p.2.1)[i]) t)))).2 + 0 * (mapp (minv m) (vsub (vadd (mapp m (cells p.2.1)[i]) t) (red (imgL m p.2.1) (vadd (mapp m (cells p.2.1)[i]) t)))).2) := by
    generalize red (imgL m p.2.1) (vadd (mapp m (cells p.2.1)[i]) t) = y
    generalize (cells p.2.1)[i] = x
    have hx : x = mapp (minv m) (mapp m x) := (minv_left hm.det x).symm
    have q1 := mapp_sub (minv m) (vsub y t) (mapp m x)
    have q2 := mapp_sub (minv m) (vadd (mapp m x) t) y
    rw [← hx] at q1
    rw [← q1, ← mapp_lin (minv m) (-1) 0 (vsub (vadd (mapp m x) t) y) (vsub (vadd (mapp m x) t) y)]
    congr 1
    unfold vsub vadd
    dsimp only
    rw [Prod.mk.injEq]
    omega
  rw [e]
  exact h5
theorem moved_onto {l : Lat} (hl : isLat l = true) {m : Mat4} (hm : Pm m) (t : V) {j : Nat} (hj : j < (cells (imgL m l)).length) :
    ∃ i, ∃ h : i < (cells l).length, movedIx l m t (cells l)[i] = j := by
  have hl' := (isLat_imgL hl hm).1
  obtain ⟨h1, h2⟩ := cells_num hl (mapp (minv m) (vsub (cells (imgL m l))[j] t))
  refine ⟨_, h1, ?_⟩
  rw [h2]
  have h3 := num_cell hl' hj
  unfold movedIx
  refine Eq.trans ?_ h3
  generalize (cells (imgL m l))[j] = y
  have hr : red (imgL m l) (vadd (mapp m (red l (mapp (minv m) (vsub y t)))) t) = red (imgL m l) y := by
    rw [red_eq_iff hl']
    have h4 := red_in hl (mapp (minv m) (vsub y t))
    have h5 := (inL_mapp hl hm _).2 h4
    rw [mapp_sub, minv_right hm.det] at h5
    have h6 := h5.lin h5 (-1) 0
    generalize mapp m (red l (mapp (minv m) (vsub y t))) = z at *
    unfold vsub vadd at *
    dsimp only at *
    have e1 : -1 * (y.1 - t.1 - z.1) + 0 * (y.1 - t.1 - z.1) = z.1 + t.1 - y.1 := by omega
    have e2 : -1 * (y.2 - t.2 - z.2) + 0 * (y.2 - t.2 - z.2) = z.2 + t.2 - y.2 := by omega
    rw [e1, e2] at h6
    exact h6
  unfold num
  rw [hr]
theorem sq_nonneg (x : Int) : 0 ≤ x * x := by
  rcases Int.le_total 0 x with h | h
  · exact Int.mul_nonneg h h
  · have := Int.mul_nonneg (show 0 ≤ -x by omega) (show 0 ≤ -x by omega)
    rwa [Int.neg_mul_neg] at this
theorem sq_ge {x : Int} (h : 2 ≤ x.natAbs) : 4 ≤ x * x := by
  rcases Int.le_total 0 x with h1 | h1
  · exact Int.mul_le_mul (show 2 ≤ x by omega) (show 2 ≤ x by omega) (by omega) (by omega)
  · have := Int.mul_le_mul (show 2 ≤ -x by omega) (show 2 ≤ -x by omega) (by omega) (by omega)
    rw [Int.neg_mul_neg] at this
    omega
theorem sq_two (x y : Int) : (2 * x + y) * (2 * x + y) = 4 * (x * x) + 4 * (x * y) + y * y := by
  have h1 : 2 * x * (2 * x) = 4 * (x * x) := by rw [Int.mul_assoc, Int.mul_left_comm x 2 x]; omega
  have h2 : y * (2 * x) = 2 * (x * y) := by rw [Int.mul_left_comm, Int.mul_comm y x]
  have h3 : 2 * x * y = 2 * (x * y) := Int.mul_assoc ..
  rw [Int.mul_add, Int.add_mul, Int.add_mul, h1, h2, h3]
  omega
def normV (f : Int) (v : V) : Int := v.1 * v.1 + f * v.1 * v.2 + v.2 * v.2
theorem norm_unit {f : Int} (hf : f = 0 ∨ f = 1) {v : V} (h : normV f v = 1) : Unit1 v.1 ∧ Unit1 v.2 := by
  obtain ⟨x, y⟩ := v
  unfold normV at h
  dsimp only at h ⊢
  have hx := sq_nonneg x
  have hy := sq_nonneg y
  rcases hf with h0 | h0 <;> subst h0
  · rw [Int.zero_mul, Int.zero_mul] at h
    constructor
    · by_cases hh : 2 ≤ x.natAbs
      · have := sq_ge hh; omega
      · unfold Unit1; omega
    · by_cases hh : 2 ≤ y.natAbs
      · have := sq_ge hh; omega
      · unfold Unit1; omega
  · rw [Int.one_mul] at h
    have e1 := sq_two x y
    have e2 := sq_two y x
    rw [Int.mul_comm y x] at e2
    have n1 := sq_nonneg (2 * x + y)
    have n2 := sq_nonneg (2 * y + x)
    constructor
    · by_cases hh : 2 ≤ x.natAbs
      · have := sq_ge hh; omega
      · unfold Unit1; omega
    · by_cases hh : 2 ≤ y.natAbs
      · have := sq_ge hh; omega
      · unfold Unit1; omega
def pmB (f : Int) (m : Mat4) : Bool := decide (normV f (m.1, m.2.2.1) = 1) && decide (normV f (m.2.1, m.2.2.2) = 1) && decide (normV f (m.1 + m.2.1, m.2.2.1 + m.2.2.2) = 2 + f)
def dec81 (k : Nat) : Mat4 := ((k : Int) / 27 - 1, (k : Int) / 9 % 3 - 1, (k : Int) / 3 % 3 - 1, (k : Int) % 3 - 1)
def pmats (f : Int) : List Mat4 := ((List.range 81).map dec81).filter (pmB f)
theorem pmB_unit {f : Int} (hf : f = 0 ∨ f = 1) {m : Mat4} (h : pmB f m = true) : Unit1 m.1 ∧ Unit1 m.2.1 ∧ Unit1 m.2.2.1 ∧ Unit1 m.2.2.2 := by
  unfold pmB at h
  rw [Bool.and_eq_true, Bool.and_eq_true, decide_eq_true_iff, decide_eq_true_iff] at h
  obtain ⟨⟨h1, h2⟩, _⟩ := h
  obtain ⟨a, c⟩ := norm_unit hf h1
  obtain ⟨b, d⟩ := norm_unit hf h2
  exact ⟨a, b, c, d⟩
theorem dec81_all {m : Mat4} (h : Unit1 m.1 ∧ Unit1 m.2.1 ∧ Unit1 m.2.2.1 ∧ Unit1 m.2.2.2) : m ∈ (List.range 81).map dec81 := by
  obtain ⟨a, b, c, d⟩ := m
  unfold Unit1 at h
  dsimp only at h
  rw [List.mem_map]
  refine ⟨(27 * (a + 1) + 9 * (b + 1) + 3 * (c + 1) + (d + 1)).toNat, by rw [List.mem_range]; omega, ?_⟩
  unfold dec81
  simp only [Prod.mk.injEq]
  omega
theorem mem_pmats {f : Int} (hf : f = 0 ∨ f = 1) (m : Mat4) : m ∈ pmats f ↔ pmB f m = true := by
  unfold pmats
  rw [List.mem_filter]
  exact ⟨fun h => h.2, fun h => ⟨dec81_all (pmB_unit hf h), h⟩⟩
theorem pmats_det : ((List.range 81).map dec81).all (fun m => (!pmB 0 m && !pmB 1 m) || decide (mdet m = 1) || decide (mdet m = -1)) = true := by decide +kernel
theorem pmB_pm {f : Int} (hf : f = 0 ∨ f = 1) {m : Mat4} (h : pmB f m = true) : Pm m := by
  obtain ⟨a, b, c, d⟩ := pmB_unit hf h
  have hd := List.all_eq_true.1 pmats_det m (dec81_all ⟨a, b, c, d⟩)
  refine ⟨a, b, c, d, ?_⟩
  simp only [Bool.or_eq_true, Bool.and_eq_true, Bool.not_eq_true', decide_eq_true_iff] at hd
  rcases hd with (⟨h0, h1⟩ | h1) | h1
  · rcases hf with e | e <;> subst e
    · rw [h0] at h; cases h
    · rw [h1] at h; cases h
  · exact .inl h1
  · exact .inr h1
theorem isFrame_iff {f : Int} : isFrame f = true ↔ f = 0 ∨ f = 1 := by
  unfold isFrame
  rw [within_iff]
  omega
/-! ### The machine's numbers -/
def Ss (v : V) : Prop := v.1.natAbs ≤ 68719476736 ∧ v.2.natAbs ≤ 68719476736
theorem isVec_ss {v : V} (h : isVec v = true) : Ss v := by
  simp only [isVec, Bool.and_eq_true, within_iff] at h
  unfold Ss
  omega
theorem wmapp {m : Mat4} (hm : Pm m) {v : V} (hv : Ss v) : (IntKind.i64.wrap (IntKind.i64.wrap (m.1 * v.1) + IntKind.i64.wrap (m.2.1 * v.2)), IntKind.i64.wrap (IntKind.i64.wrap (m.2.2.1 * v.1) + IntKind.i64.wrap (m.2.2.2 * v.2))) = mapp m v := by
  obtain ⟨v1, v2⟩ := hv
  have ha := unit_mul (x := v.1) hm.a
  have hb := unit_mul (x := v.2) hm.b
  have hc := unit_mul (x := v.1) hm.c
  have hd := unit_mul (x := v.2) hm.d
  unfold mapp
  generalize m.1 * v.1 = p at *
  generalize m.2.1 * v.2 = q at *
  generalize m.2.2.1 * v.1 = r at *
  generalize m.2.2.2 * v.2 = s at *
  rw [w64 (x := p) (by omega) (by omega), w64 (x := q) (by omega) (by omega), w64 (x := r) (by omega) (by omega), w64 (x := s) (by omega) (by omega), w64 (x := p + q) (by omega) (by omega), w64 (x := r + s) (by omega) (by omega)]
theorem wap_pm {m : Mat4} (hm : Pm m) {v t : V} (hv : Ss v) (ht : Ss t) : wap (m, t) v = vadd (mapp m v) t ∧ Sm (wap (m, t) v) := by
  have hl := mapp_lim hm v
  obtain ⟨v1, v2⟩ := hv
  obtain ⟨t1, t2⟩ := ht
  have e : wap (m, t) v = vadd (mapp m v) t := by
    unfold wap
    rw [show (IntKind.i64.wrap (IntKind.i64.wrap (m.1 * v.1) + IntKind.i64.wrap (m.2.1 * v.2)), IntKind.i64.wrap (IntKind.i64.wrap (m.2.2.1 * v.1) + IntKind.i64.wrap (m.2.2.2 * v.2))) = mapp m v from wmapp hm ⟨v1, v2⟩]
    exact wadd_v (by unfold Sm; omega) (by unfold Sm; dsimp only; omega)
  refine ⟨e, ?_⟩
  rw [e]
  unfold vadd Sm
  dsimp only
  omega
theorem cells_ss {l : Lat} (h : isLat l = true) {v : V} (hv : v ∈ cells l) : Ss v := by
  obtain ⟨⟨a1, a2⟩, ⟨c1, c2⟩, _⟩ := isLat_iff.1 h
  have h1 := mem_cells.1 hv
  unfold Ss
  omega
theorem patAt_moved {p : Pat} (hp : isPat p = true) {m : Mat4} (hm : Pm m) (t y : V) : patAt (moved p m t) y = patAt p (mapp (minv m) (vsub y t)) := by
  have hl := (isPat_iff.1 hp).2.1
  have hl' := (isLat_imgL hl hm).1
  obtain ⟨h1, h2⟩ := cells_num hl' y
  unfold patAt
  show ((cells (imgL m p.2.1)).map (movedC p m t)).getD (num (imgL m p.2.1) y) 0 = _
  rw [List.getD_eq_getElem?_getD, List.getElem?_map, List.getElem?_eq_getElem h1, h2]
  show movedC p m t (red (imgL m p.2.1) y) = patAt p (mapp (minv m) (vsub y t))
  unfold movedC
  apply patAt_congr
  rw [red_eq_iff hl, ← mapp_sub]
  have h3 := red_in hl' y
  have h4 := ((inL_minv hl hm _).1 h3).lin ((inL_minv hl hm _).1 h3) (-1) 0
  rw [← mapp_lin (minv m) (-1) 0 (vsub y (red (imgL m p.2.1) y)) (vsub y (red (imgL m p.2.1) y))] at h4
  have e : vsub (vsub (red (imgL m p.2.1) y) t) (vsub y t) = (-1 * (vsub y (red (imgL m p.2.1) y)).1 + 0 * (vsub y (red (imgL m p.2.1) y)).1, -1 * (vsub y (red (imgL m p.2.1) y)).2 + 0 * (vsub y (red (imgL m p.2.1) y)).2) := by
    generalize red (imgL m p.2.1) y = z
    unfold vsub
    dsimp only
    rw [Prod.mk.injEq]
    omega
  rw [e]
  exact h4
theorem isPat_moved {p : Pat} (hp : isPat p = true) {m : Mat4} (hm : Pm m) (t : V) : isPat (moved p m t) = true := by
  obtain ⟨p1, p2, p3, p4⟩ := isPat_iff.1 hp
  have hl' := (isLat_imgL p2 hm).1
  rw [isPat_iff]
  refine ⟨p1, hl', ?_, ?_⟩
  · show (((cells (imgL m p.2.1)).map (movedC p m t)).length : Int) = _
    rw [List.length_map]; exact (cells_len' hl').1
  · show ((cells (imgL m p.2.1)).map (movedC p m t)).all (within · 0 9) = true
    rw [List.all_eq_true]
    intro c hc
    obtain ⟨v, _, rfl⟩ := List.mem_map.1 hc
    have hr := patAt_rd hp (mapp (minv m) (vsub v t))
    rw [rd_nat] at hr
    exact List.all_eq_true.1 p4 _ (List.mem_of_getElem? hr)
def m1 : Mat4 := (1, 0, 0, 1)
theorem pm_unit : Pm m1 := ⟨by unfold Unit1 m1; decide, by unfold Unit1 m1; decide, by unfold Unit1 m1; decide, by unfold Unit1 m1; decide, .inl (by decide)⟩
theorem mapp_unit (v : V) : mapp m1 v = v := by
  obtain ⟨x, y⟩ := v
  unfold mapp m1
  simp
theorem minv_unit : minv m1 = m1 := by decide
theorem imgL_unit {l : Lat} (hl : isLat l = true) : imgL m1 l = l := by
  unfold imgL
  rw [stable_iff hl pm_unit, mapp_unit, mapp_unit, inL_iff hl, inL_iff hl]
  exact ⟨InL.fst l, InL.snd l⟩
theorem moved_shift {p : Pat} (hp : isPat p = true) {m : Mat4} (hm : Pm m) (t : V) : moved (moved p m (0, 0)) m1 t = moved p m t := by
  have hl := (isPat_iff.1 hp).2.1
  have hl' := (isLat_imgL hl hm).1
  show (p.1, imgL m1 (imgL m p.2.1), (cells (imgL m1 (imgL m p.2.1))).map (movedC (moved p m (0, 0)) m1 t)) = (p.1, imgL m p.2.1, (cells (imgL m p.2.1)).map (movedC p m t))
  rw [imgL_unit hl']
  congr 2
  apply List.map_congr_left
  intro y _
  show patAt (moved p m (0, 0)) (mapp (minv m1) (vsub y t)) = patAt p (mapp (minv m) (vsub y t))
  rw [patAt_moved hp hm, minv_unit, mapp_unit]
  unfold vsub
  simp
theorem moved_congr {p : Pat} (hp : isPat p = true) {m : Mat4} (hm : Pm m) {t u : V} (h : InL (imgL m p.2.1) (vsub t u)) : moved p m t = moved p m u := by
  have hl := (isPat_iff.1 hp).2.1
  unfold moved
  congr 2
  apply List.map_congr_left
  intro y _
  unfold movedC
  apply patAt_congr
  rw [red_eq_iff hl, ← mapp_sub, ← inL_minv hl hm]
  have h4 := h.lin h (-1) 0
  have e : vsub (vsub y t) (vsub y u) = (-1 * (vsub t u).1 + 0 * (vsub t u).1, -1 * (vsub t u).2 + 0 * (vsub t u).2) := by
    unfold vsub
    dsimp only
    rw [Prod.mk.injEq]
    omega
  rw [e]
  exact h4
/-! ### Orders -/
def lexB : List Int → List Int → Bool
  | [], [] => false
  | [], _ :: _ => true
  | _ :: _, [] => false
  | a :: r, b :: s => if a = b then lexB r s else decide (a < b)
theorem lexB_irr : ∀ a : List Int, lexB a a = false
  | [] => rfl
  | a :: r => by rw [lexB, if_pos rfl]; exact lexB_irr r
theorem lexB_trans : ∀ a b c : List Int, lexB a b = true → lexB b c = true → lexB a c = true
  | [], [], _, h, _ => by cases h
  | [], _ :: _, [], _, h => by cases h
  | [], _ :: _, _ :: _, _, _ => rfl
  | _ :: _, [], _, h, _ => by cases h
  | _ :: _, _ :: _, [], _, h => by cases h
  | a :: r, b :: s, c :: t, h1, h2 => by
    rw [lexB] at h1 h2 ⊢
    by_cases e1 : a = b
    · subst e1
      rw [if_pos rfl] at h1
      by_cases e2 : a = c
      · subst e2
        rw [if_pos rfl] at h2 ⊢
        exact lexB_trans r s t h1 h2
      · rw [if_neg e2] at h2 ⊢
        exact h2
    · rw [if_neg e1] at h1
      have h1' := of_decide_eq_true h1
      by_cases e2 : b = c
      · subst e2
        rw [if_neg e1]; exact h1
      · rw [if_neg e2] at h2
        have h2' := of_decide_eq_true h2
        rw [if_neg (by omega)]
        exact decide_eq_true (by omega)
theorem lexB_total : ∀ a b : List Int, lexB a b = false → lexB b a = false → a = b
  | [], [], _, _ => rfl
  | [], _ :: _, h, _ => by cases h
  | _ :: _, [], _, h => by cases h
  | a :: r, b :: s, h1, h2 => by
    rw [lexB] at h1 h2
    by_cases e : a = b
    · subst e
      rw [if_pos rfl] at h1 h2
      rw [lexB_total r s h1 h2]
    · rw [if_neg e] at h1
      rw [if_neg (fun h => e h.symm)] at h2
      have h1' := of_decide_eq_false h1
      have h2' := of_decide_eq_false h2
      omega
def keyP (p : Pat) : List Int := p.1 :: p.2.1.1 :: p.2.1.2.1 :: p.2.1.2.2 :: p.2.2
theorem keyP_inj {p q : Pat} (h : keyP p = keyP q) : p = q := by
  obtain ⟨f, ⟨a, b, c⟩, xs⟩ := p
  obtain ⟨f', ⟨a', b', c'⟩, ys⟩ := q
  unfold keyP at h
  simp only [List.cons.injEq] at h
  obtain ⟨h1, h2, h3, h4, h5⟩ := h
  subst h1 h2 h3 h4 h5
  rfl
def ltP (p q : Pat) : Bool := lexB (keyP p) (keyP q)
def minP (b : Pat) (xs : List Pat) : Pat := xs.foldl (fun b x => if ltP x b = true then x else b) b
theorem minP_mem : ∀ (xs : List Pat) (b : Pat), minP b xs ∈ b :: xs
  | [], b => List.mem_cons_self ..
  | x :: r, b => by
    show minP (if ltP x b = true then x else b) r ∈ _
    have := minP_mem r (if ltP x b = true then x else b)
    rcases List.mem_cons.1 this with h | h
    · rw [h]
      split
      · exact List.mem_cons_of_mem _ (List.mem_cons_self ..)
      · exact List.mem_cons_self ..
    · exact List.mem_cons_of_mem _ (List.mem_cons_of_mem _ h)
theorem ltP_trans {p q r : Pat} (h1 : ltP p q = true) (h2 : ltP q r = true) : ltP p r = true := lexB_trans _ _ _ h1 h2
theorem minP_le : ∀ (xs : List Pat) (b : Pat), ∀ x ∈ b :: xs, ltP x (minP b xs) = false
  | [], b, x, hx => by
    rw [List.mem_singleton.1 hx]
    exact lexB_irr _
  | y :: r, b, x, hx => by
    show ltP x (minP (if ltP y b = true then y else b) r) = false
    have ih := minP_le r (if ltP y b = true then y else b)
    have hb := ih _ (List.mem_cons_self ..)
    rcases List.mem_cons.1 hx with h | h
    · subst h
      by_cases hy : ltP y x = true
      · rw [if_pos hy] at hb ⊢
        cases hc : ltP x (minP y r) with
        | false => rfl
        | true =>
          have := ltP_trans hy hc
          rw [hb] at this; cases this
      · rw [if_neg hy] at hb ⊢
        exact hb
    · rcases List.mem_cons.1 h with h | h
      · subst h
        by_cases hy : ltP x b = true
        · rw [if_pos hy] at hb ⊢
          exact hb
        · rw [if_neg hy] at hb ⊢
          cases hc : ltP x (minP b r) with
          | false => rfl
          | true =>
            exfalso
            cases hd : ltP b x with
            | true =>
              have := ltP_trans hd hc
              rw [hb] at this; cases this
            | false =>
              have hy' : ltP x b = false := by simpa using hy
              have e := keyP_inj (lexB_total _ _ hd hy')
              rw [← e, hb] at hc; cases hc
      · exact ih x (List.mem_cons_of_mem _ h)
theorem minP_eq {b c : Pat} {xs ys : List Pat} (h1 : ∀ x ∈ b :: xs, x ∈ c :: ys) (h2 : ∀ x ∈ c :: ys, x ∈ b :: xs) : minP b xs = minP c ys :=
  keyP_inj (lexB_total _ _ (minP_le ys c _ (h1 _ (minP_mem xs b))) (minP_le xs b _ (h2 _ (minP_mem ys c))))
/-! ### All images -/
def imgs1 (q : Pat) (ms : List Mat4) : List Pat := ms.flatMap fun m => (cells q.2.1).map fun x => moved q m (mapp m x)
def imgs2 (q : Pat) (ms : List Mat4) : List Pat := ms.flatMap fun m => (cells (imgL m q.2.1)).map fun t => moved q m t
theorem imgs_mem {q : Pat} (hq : isPat q = true) {ms : List Mat4} (hm : ∀ m ∈ ms, Pm m) (x : Pat) : x ∈ imgs1 q ms ↔ x ∈ imgs2 q ms := by
  have hl := (isPat_iff.1 hq).2.1
  unfold imgs1 imgs2
  simp only [List.mem_flatMap, List.mem_map]
  constructor
  · rintro ⟨m, h1, c, h2, rfl⟩
    refine ⟨m, h1, red (imgL m q.2.1) (mapp m c), red_mem (isLat_imgL hl (hm m h1)).1 _, ?_⟩
    symm
    exact moved_congr hq (hm m h1) (red_in (isLat_imgL hl (hm m h1)).1 _)
  · rintro ⟨m, h1, t, h2, rfl⟩
    refine ⟨m, h1, red q.2.1 (mapp (minv m) t), red_mem hl _, ?_⟩
    symm
    apply moved_congr hq (hm m h1)
    have h3 := (inL_mapp hl (hm m h1) _).2 (red_in hl (mapp (minv m) t))
    rw [mapp_sub, minv_right (hm m h1).det] at h3
    exact h3
def Sv (v : V) : Prop := v.1.natAbs ≤ 1073741824 ∧ v.2.natAbs ≤ 1073741824
theorem isVec_sv {v : V} (h : isVec v = true) : Sv v := by
  simp only [isVec, Bool.and_eq_true, within_iff] at h
  unfold Sv
  omega
theorem Sv.ss {v : V} (h : Sv v) : Ss v := by
  unfold Sv at h
  unfold Ss
  omega
theorem spec_l02Apply_v {m : Mat4} (hm : Pm m) {v : V} (hv : Ss v) : spec_l02Apply m v = some (mapp m v) := by
  rw [spec_l02Apply_eq, wmapp hm hv]
theorem lat_ss {l : Lat} (h : isLat l = true) : Ss (l.1, 0) ∧ Ss l.2 := by
  obtain ⟨⟨a1, a2⟩, ⟨c1, c2⟩, ⟨b1, b2⟩, _⟩ := isLat_iff.1 h
  unfold Ss
  dsimp only
  omega
theorem spec_l04Image_v {l : Lat} (hl : isLat l = true) {m : Mat4} (hm : Pm m) : spec_l04Image m l = some (imgL m l) := by
  rw [spec_l04Image_eq, spec_l03Basis_eq]
  simp only [Option.bind_some]
  have e1 : spec_l02Apply m (([(l.1, 0), l.2] : List (Int × Int)).getD (Int.toNat 0) (dflt (.pair (.i .i64) (.i .i64)))) = some (mapp m (l.1, 0)) := spec_l02Apply_v hm (lat_ss hl).1
  have e2 : spec_l02Apply m (([(l.1, 0), l.2] : List (Int × Int)).getD (Int.toNat 1) (dflt (.pair (.i .i64) (.i .i64)))) = some (mapp m l.2) := spec_l02Apply_v hm (lat_ss hl).2
  rw [e1]
  simp only [Option.bind_some]
  rw [e2]
  simp only [Option.bind_some]
  rw [img_spec (two_img hl hm).1]
  rfl
theorem wdet {m : Mat4} (hm : Pm m) : IntKind.i64.wrap (IntKind.i64.wrap (m.1 * m.2.2.2) - IntKind.i64.wrap (m.2.1 * m.2.2.1)) = mdet m := by
  have ha := unit_mul (x := m.2.2.2) hm.a
  have hb := unit_mul (x := m.2.2.1) hm.b
  have hc := hm.c
  have hd := hm.d
  unfold Unit1 at hc hd
  unfold mdet
  generalize m.1 * m.2.2.2 = p at *
  generalize m.2.1 * m.2.2.1 = q at *
  rw [w64 (x := p) (by omega) (by omega), w64 (x := q) (by omega) (by omega), w64 (by omega) (by omega)]
def vneg (v : V) : V := (-1 * v.1, -1 * v.2)
theorem wap_back {m : Mat4} (hm : Pm m) {t y : V} (ht : Sv t) (hy : Sv y) : wap (minv m, vneg (mapp (minv m) t)) y = mapp (minv m) (vsub y t) ∧ Sm (wap (minv m, vneg (mapp (minv m) t)) y) := by
  have hl := mapp_lim (minv_pm hm) t
  have hn : Ss (vneg (mapp (minv m) t)) := by
    unfold Sv at ht
    unfold Ss vneg
    dsimp only
    omega
  obtain ⟨h1, h2⟩ := wap_pm (minv_pm hm) hy.ss hn
  refine ⟨?_, h2⟩
  rw [h1, mapp_sub]
  unfold vadd vneg vsub
  dsimp only
  rw [Prod.mk.injEq]
  omega
theorem cells_sv {l : Lat} (h : isLat l = true) {v : V} (hv : v ∈ cells l) : Sv v := by
  obtain ⟨⟨a1, a2⟩, ⟨c1, c2⟩, _⟩ := isLat_iff.1 h
  have h1 := mem_cells.1 hv
  unfold Sv
  omega
theorem range_getD {β : Type} (xs : List V) (g : V → β) (d : V) : (List.range xs.length).map (fun j => g (xs.getD j d)) = xs.map g := by
  apply List.ext_getElem?
  intro j
  by_cases hj : j < xs.length
  · rw [List.getElem?_map, List.getElem?_range hj, List.getElem?_map, List.getElem?_eq_getElem hj]
    simp [List.getD, hj]
  · rw [List.getElem?_eq_none (by simp; omega), List.getElem?_eq_none (by simp; omega)]
theorem moved_len (p : Pat) {m : Mat4} (t : V) (h : isPat p = true) (hm : Pm m) : (moved p m t).2.2.length ≤ 64 := pat_len (isPat_moved h hm t)
end Go.Proofs.YtopigbmamejklaaGreatDoor

namespace Go.Proofs.YtopigbmamejklaaGreatDoor
open Ai
set_option linter.unusedSimpArgs false
set_option linter.unusedVariables false
set_option linter.unnecessarySimpa false
def Sn (v : V) : Prop := v.1.natAbs ≤ 4000 ∧ v.2.natAbs ≤ 4000
theorem mul_sn {x y : Int} (hx : x.natAbs ≤ 4000) (hy : y.natAbs ≤ 4000) : (x * y).natAbs ≤ 16000000 := by
  rw [Int.natAbs_mul]
  exact Nat.mul_le_mul hx hy
theorem spec_l04Norm_v {f : Int} (hf : f = 0 ∨ f = 1) {v : V} (hv : Sn v) : spec_l04Norm f v = some (normV f v) := by
  rw [spec_l04Norm_eq]
  have h1 := mul_sn hv.1 hv.1
  have h2 := mul_sn hv.1 hv.2
  have h3 := mul_sn hv.2 hv.2
  unfold normV
  rw [w64 (x := v.1 * v.1) (by omega) (by omega), w64 (x := v.1 * v.2) (by omega) (by omega), w64 (x := v.2 * v.2) (by omega) (by omega), w64 (x := v.1 * v.1 + v.2 * v.2) (by omega) (by omega)]
  rcases hf with h | h <;> subst h <;> simp only [Int.zero_mul, Int.one_mul]
  · show some (v.1 * v.1 + v.2 * v.2) = _
    rw [Int.add_zero]
  · show some (IntKind.i64.wrap (v.1 * v.1 + v.2 * v.2 + v.1 * v.2)) = _
    rw [w64 (by omega) (by omega)]
    congr 1
    omega
def Me (m : Mat4) : Prop := (m.1.natAbs ≤ 1000 ∧ m.2.1.natAbs ≤ 1000) ∧ m.2.2.1.natAbs ≤ 1000 ∧ m.2.2.2.natAbs ≤ 1000
theorem spec_l04Keeps_v {f : Int} (hf : f = 0 ∨ f = 1) {m : Mat4} (hm : Me m) : spec_l04Keeps f m = some (pmB f m) := by
  obtain ⟨⟨a, b⟩, c, d⟩ := hm
  rw [spec_l04Keeps_eq, spec_l04Norm_v hf (by unfold Sn; dsimp only; omega), spec_l04Norm_v hf (by unfold Sn; dsimp only; omega), spec_l01Add_v]
  simp only [Option.bind_some]
  have hw : wadd (m.1, m.2.2.1) (m.2.1, m.2.2.2) = (m.1 + m.2.1, m.2.2.1 + m.2.2.2) := by
    unfold wadd
    rw [w64 (by dsimp only; omega) (by dsimp only; omega), w64 (by dsimp only; omega) (by dsimp only; omega)]
  rw [hw, spec_l04Norm_v hf (by unfold Sn; dsimp only; omega), w64 (by omega) (by omega)]
  simp only [Option.bind_some]
  unfold pmB
  cases decide (normV f (m.1, m.2.2.1) = 1) <;> cases decide (normV f (m.2.1, m.2.2.2) = 1) <;> cases decide (normV f (m.1 + m.2.1, m.2.2.1 + m.2.2.2) = 2 + f) <;> rfl
theorem dec_eq : ∀ k : Fin 81, ((IntKind.i64.wrap (IntKind.i64.wrap (Int.tdiv (k.val : Int) 27) - 1), IntKind.i64.wrap (Int.tmod (IntKind.i64.wrap (Int.tdiv (k.val : Int) 9)) 3 - 1), IntKind.i64.wrap (Int.tmod (IntKind.i64.wrap (Int.tdiv (k.val : Int) 3)) 3 - 1), IntKind.i64.wrap (Int.tmod (k.val : Int) 3 - 1)) : Mat4) = dec81 k.val := by decide +kernel
theorem dec_unit (k : Nat) (hk : k < 81) : Unit1 (dec81 k).1 ∧ Unit1 (dec81 k).2.1 ∧ Unit1 (dec81 k).2.2.1 ∧ Unit1 (dec81 k).2.2.2 := by
  unfold dec81 Unit1
  dsimp only
  omega
theorem unit_me {m : Mat4} (h : Unit1 m.1 ∧ Unit1 m.2.1 ∧ Unit1 m.2.2.1 ∧ Unit1 m.2.2.2) : Me m := by
  unfold Unit1 at h
  unfold Me
  omega
theorem len81 : ((List.range 81).map dec81).length = 81 := by simp
theorem get81 {k : Nat} (hk : k < ((List.range 81).map dec81).length) : ((List.range 81).map dec81)[k] = dec81 k := by simp
theorem spec_l04Mats_v {f : Int} (hf : f = 0 ∨ f = 1) : spec_l04Mats f = some (pmats f) := by
  rw [spec_l04Mats_eq]
  have key := loop_filter (L := fun s k => spec_l04Mats_l0 f s k) ((List.range 81).map dec81) (pmB f) [] (fun k hk s hs => by
    have hk' : k < 81 := by rw [len81] at hk; exact hk
    have hu := dec_unit k hk'
    rw [get81]
    show spec_l04Mats_l0 f s (k : Int) = _
    rw [spec_l04Mats_l0_eq, decide_eq_true (by omega)]
    have e' : ((IntKind.i64.wrap (IntKind.i64.wrap (Int.tdiv (k : Int) 27) - 1), IntKind.i64.wrap (Int.tmod (IntKind.i64.wrap (Int.tdiv (k : Int) 9)) 3 - 1), IntKind.i64.wrap (Int.tmod (IntKind.i64.wrap (Int.tdiv (k : Int) 3)) 3 - 1), IntKind.i64.wrap (Int.tmod (k : Int) 3 - 1)) : Mat4) = dec81 k := dec_eq ⟨k, hk'⟩
    rw [e', wnext hk' (by omega), spec_l04Keeps_v hf (unit_me hu), decide_eq_true (p := s.length + [dec81 k].length ≤ LIM) (by unfold LIM; simp only [List.length_nil, List.length_singleton] at hs ⊢; omega)]
    simp only [cond_true, cond_false, Option.bind_some, Option.bind_fun_some, show decide ((27 : Int) = 0) = false from rfl, show decide ((9 : Int) = 0) = false from rfl, show decide ((3 : Int) = 0) = false from rfl]
    cases pmB f (dec81 k) <;> rfl)
  rw [key, len81]
  show Option.bind (spec_l04Mats_l0 f _ _) _ = _
  rw [spec_l04Mats_l0_eq, decide_eq_false (by omega)]
  rfl
theorem pmats_len (f : Int) : (pmats f).length ≤ 81 := by
  have := List.length_filter_le (pmB f) ((List.range 81).map dec81)
  rw [len81] at this
  exact this
theorem mat_beq (c x : Mat4) : (decide (c.1 = x.1) && (decide (c.2.1 = x.2.1) && (decide (c.2.2.1 = x.2.2.1) && (decide (c.2.2.2 = x.2.2.2) && true)))) = decide (x = c) := by
  obtain ⟨a, b, d, e⟩ := c
  obtain ⟨a', b', d', e'⟩ := x
  simp only [Prod.mk.injEq, Bool.and_true, ← Bool.decide_and, decide_eq_decide]
  constructor
  · rintro ⟨h1, h2, h3, h4⟩; exact ⟨h1.symm, h2.symm, h3.symm, h4.symm⟩
  · rintro ⟨h1, h2, h3, h4⟩; exact ⟨h1.symm, h2.symm, h3.symm, h4.symm⟩
def isPm (f : Int) (m : Mat4) : Bool := isFrame f && pmB f m
def isMatB (m : Mat4) : Bool := isVec (m.1, m.2.1) && isVec m.2.2 && (decide (mdet m = 1) || decide (mdet m = -1))
end Go.Proofs.YtopigbmamejklaaGreatDoor

namespace Go.Proofs.YtopigbmamejklaaGreatDoor
open Ai
set_option linter.unusedSimpArgs false
set_option linter.unusedVariables false
set_option linter.unnecessarySimpa false
def stB (l : Lat) (m : Mat4) : Bool := decide (red l (mapp m (l.1, 0)) = (0, 0)) && decide (red l (mapp m l.2) = (0, 0))
def stableL (f : Int) (l : Lat) : List Mat4 := (pmats f).filter (stB l)
theorem mapp_sm {m : Mat4} (hm : Pm m) {v : V} (hv : Sv v) : Sm (mapp m v) := by
  have := mapp_lim hm v
  unfold Sv at hv
  unfold Sm
  omega
theorem lat_sv {l : Lat} (h : isLat l = true) : Sv (l.1, 0) ∧ Sv l.2 := by
  obtain ⟨⟨a1, a2⟩, ⟨c1, c2⟩, ⟨b1, b2⟩, _⟩ := isLat_iff.1 h
  unfold Sv
  dsimp only
  omega
theorem stB_iff {l : Lat} (hl : isLat l = true) {m : Mat4} (hm : Pm m) : decide (imgL m l = l) = stB l m := by
  unfold stB
  rw [← Bool.decide_and, decide_eq_decide]
  exact stable_iff hl hm
theorem lat_beq (y l : Lat) : (decide (y.1 = l.1) && (decide (y.2.1 = l.2.1) && (decide (y.2.2 = l.2.2) && true))) = decide (y = l) := by
  obtain ⟨a, b, c⟩ := y
  obtain ⟨a', b', c'⟩ := l
  simp only [Prod.mk.injEq, Bool.and_true, ← Bool.decide_and]
theorem spec_l04Stable_v {f : Int} (hf : f = 0 ∨ f = 1) {l : Lat} (hl : isLat l = true) : spec_l04Stable f l = some (stableL f l) := by
  have hn := pmats_len f
  rw [spec_l04Stable_eq, spec_l04Mats_v hf]
  have key := loop_filter (L := fun s k => spec_l04Stable_l0 (pmats f) s k l.1 l.2.1 l.2.2) (pmats f) (stB l) [] (fun k hk s hs => by
    have hpm : Pm (pmats f)[k] := pmB_pm hf ((mem_pmats hf _).1 (List.getElem_mem hk))
    show spec_l04Stable_l0 (pmats f) s (k : Int) l.1 l.2.1 l.2.2 = _
    rw [spec_l04Stable_l0_eq, inb hk, decide_eq_true (by omega), gd hk]
    simp only [cond_true, Option.bind_fun_some]
    have e1 : spec_l04Image ((pmats f)[k].1, (pmats f)[k].2.1, (pmats f)[k].2.2) (l.1, l.2.1, l.2.2) = some (imgL (pmats f)[k] l) := spec_l04Image_v hl hpm
    rw [e1, wnext hk (by omega)]
    simp only [Option.bind_some]
    rw [lat_beq (imgL (pmats f)[k] l) l, stB_iff hl hpm, decide_eq_true (by unfold LIM; simp only [List.length_nil, List.length_singleton] at hs ⊢; omega)]
    cases stB l (pmats f)[k] <;> rfl)
  simp only [Option.bind_some]
  rw [key]
  show Option.bind (spec_l04Stable_l0 _ _ _ _ _ _) _ = _
  rw [spec_l04Stable_l0_eq, decide_eq_false (by omega)]
  rfl
def suitB (f : Int) (l : Lat) (m : Mot) : Bool := isVec m.2 && (pmB f m.1 && stB l m.1)
def keptM (q : Pat) (m : Mat4) : List Mot := ((cells q.2.1).map fun t => (m, t)).filter (keepsB q)
def groupG (q : Pat) : List Mot := (stableL q.1 q.2.1).flatMap (keptM q)
theorem stable_pm {f : Int} (hf : f = 0 ∨ f = 1) {l : Lat} {m : Mat4} (hm : m ∈ stableL f l) : Pm m := by
  unfold stableL at hm
  exact pmB_pm hf ((mem_pmats hf m).1 (List.mem_filter.1 hm).1)
theorem stable_len (f : Int) (l : Lat) : (stableL f l).length ≤ 81 := Nat.le_trans (List.length_filter_le (stB l) (pmats f)) (pmats_len f)
theorem keptM_len {q : Pat} (hq : isPat q = true) (m : Mat4) : (keptM q m).length ≤ 64 := by
  have h2 := (cells_len' (isPat_iff.1 hq).2.1).2
  unfold keptM
  exact Nat.le_trans (List.length_filter_le ..) (by rw [List.length_map]; exact h2)
theorem keeps_sm {q : Pat} (hq : isPat q = true) {m : Mat4} (hm : Pm m) {t : V} (ht : Ss t) : ∀ v ∈ cells q.2.1, Sm (wap (m, t) v) := fun v hv => (wap_pm hm (cells_ss (isPat_iff.1 hq).2.1 hv) ht).2
theorem group_len {q : Pat} (hq : isPat q = true) : (groupG q).length ≤ 5184 := by
  have h1 := flat_len_le (keptM q) 64 (stableL q.1 q.2.1) (fun m _ => keptM_len hq m)
  have h2 := stable_len q.1 q.2.1
  unfold groupG
  omega
theorem suit_sm {q : Pat} (hq : isPat q = true) {m : Mot} (hm : suitB q.1 q.2.1 m = true) : ∀ v ∈ cells q.2.1, Sm (wap m v) := by
  have hf := isFrame_iff.1 (isPat_iff.1 hq).1
  unfold suitB at hm
  simp only [Bool.and_eq_true] at hm
  intro v hv
  exact (wap_pm (pmB_pm hf hm.2.1) (cells_ss (isPat_iff.1 hq).2.1 hv) (isVec_ss hm.1)).2
def sameP (p q : Pat) : Bool := decide (p.1 = q.1) && decide (p.2.1 = q.2.1) && decide (p.2.2 = q.2.2)
def hitM (a b : Pat) (m : Mat4) : Option Mot := ((cells b.2.1).find? fun t => sameP (moved a m t) b).map fun t => (m, t)
end Go.Proofs.YtopigbmamejklaaGreatDoor

namespace Go.Proofs.YtopigbmamejklaaGreatDoor
open Ai
set_option linter.unusedSimpArgs false
set_option linter.unusedVariables false
def allM (f : Int) (l : Lat) : List Mot := (stableL f l).flatMap fun m => (cells l).map fun t => (m, t)
theorem allM_len (f : Int) {l : Lat} (hl : isLat l = true) : (allM f l).length ≤ 5184 := by
  have hn := (cells_len' hl).2
  have h1 := flat_len_le (fun m => (cells l).map fun t => ((m, t) : Mot)) 64 (stableL f l) (fun m _ => by rw [List.length_map]; exact hn)
  have h2 := stable_len f l
  unfold allM
  omega
theorem allM_suit {f : Int} (hf : f = 0 ∨ f = 1) {l : Lat} (hl : isLat l = true) {m : Mot} (hm : m ∈ allM f l) : ∀ v ∈ cells l, Sm (wap m v) := by
  unfold allM at hm
  obtain ⟨a, ha, ht⟩ := List.mem_flatMap.1 hm
  obtain ⟨t, ht1, rfl⟩ := List.mem_map.1 ht
  exact fun v hv => (wap_pm (stable_pm hf ha) (cells_ss hl hv) (cells_ss hl ht1)).2
end Go.Proofs.YtopigbmamejklaaGreatDoor

namespace Go.Proofs.YtopigbmamejklaaGreatDoor
open Ai
set_option linter.unusedSimpArgs false
set_option linter.unusedVariables false
set_option linter.unnecessarySimpa false
theorem vec_beq (u : V) (a b : Int) : (decide (u.1 = a) && (decide (u.2 = b) && true)) = decide (u = (a, b)) := by
  obtain ⟨x, y⟩ := u
  rw [Bool.and_true]
  by_cases h1 : x = a <;> by_cases h2 : y = b <;> simp [h1, h2]
theorem vec_beq' (u : V) (a b : Int) : (decide (a = u.1) && (decide (b = u.2) && true)) = decide (u = (a, b)) := by
  obtain ⟨x, y⟩ := u
  rw [Bool.and_true]
  by_cases h1 : x = a <;> by_cases h2 : y = b <;> simp [h1, h2, eq_comm]
theorem mem_any (xs : List V) (v : V) : xs.any (fun x => decide (x = v)) = decide (v ∈ xs) := by
  rw [Bool.eq_iff_iff]
  simp
end Go.Proofs.YtopigbmamejklaaGreatDoor

namespace Go.Proofs.YtopigbmamejklaaGreatDoor
open Ai
set_option linter.unusedSimpArgs false
set_option linter.unusedVariables false
/-! ### Increasing lists -/
def Inc (xs : List V) : Prop := xs.Pairwise fun a b => vless a b = true
theorem vless_irr (v : V) : vless v v = false := by simp [vless]
theorem vless_trans {u v w : V} (h1 : vless u v = true) (h2 : vless v w = true) : vless u w = true := by
  simp only [vless, Bool.or_eq_true, Bool.and_eq_true, decide_eq_true_eq] at *
  omega
theorem vless_tot {u v : V} (h1 : vless u v = false) (h2 : vless v u = false) : u = v := by
  simp only [vless, Bool.or_eq_false_iff, Bool.and_eq_false_iff, decide_eq_false_iff_not] at *
  apply Prod.ext <;> omega
theorem Inc.nodup {xs : List V} (h : Inc xs) : xs.Nodup := by
  refine List.Pairwise.imp ?_ h
  rintro a b hab rfl
  rw [vless_irr] at hab; cases hab
theorem inc_ext : ∀ {xs ys : List V}, Inc xs → Inc ys → (∀ v, v ∈ xs ↔ v ∈ ys) → xs = ys
  | [], [], _, _, _ => rfl
  | [], y :: s, _, _, h => by have := (h y).2 (List.mem_cons_self ..); simp at this
  | x :: r, [], _, _, h => by have := (h x).1 (List.mem_cons_self ..); simp at this
  | x :: r, y :: s, hx, hy, h => by
    obtain ⟨h1, h2⟩ := List.pairwise_cons.1 hx
    obtain ⟨h3, h4⟩ := List.pairwise_cons.1 hy
    have e : x = y := by
      rcases List.mem_cons.1 ((h x).1 (List.mem_cons_self ..)) with e | hm
      · exact e
      · rcases List.mem_cons.1 ((h y).2 (List.mem_cons_self ..)) with e | hn
        · exact e.symm
        · have a := h3 x hm
          have b := h1 y hn
          have := vless_trans a b
          rw [vless_irr] at this; cases this
    subst e
    rw [inc_ext h2 h4 fun v => ?_]
    constructor
    · intro hv
      rcases List.mem_cons.1 ((h v).1 (List.mem_cons_of_mem _ hv)) with e | hm
      · subst e
        have := h1 v hv
        rw [vless_irr] at this; cases this
      · exact hm
    · intro hv
      rcases List.mem_cons.1 ((h v).2 (List.mem_cons_of_mem _ hv)) with e | hm
      · subst e
        have := h3 v hv
        rw [vless_irr] at this; cases this
      · exact hm
def insV (v : V) : List V → List V
  | [] => [v]
  | x :: r => if vless x v = true then x :: insV v r else if x = v then x :: r else v :: x :: r
theorem mem_insV {v w : V} : ∀ {xs : List V}, w ∈ insV v xs ↔ w = v ∨ w ∈ xs
  | [] => by simp [insV]
  | x :: r => by
    unfold insV
    split
    · rw [List.mem_cons, mem_insV, List.mem_cons]
      constructor
      · rintro (h | h | h)
        · exact .inr (.inl h)
        · exact .inl h
        · exact .inr (.inr h)
      · rintro (h | h | h)
        · exact .inr (.inl h)
        · exact .inl h
        · exact .inr (.inr h)
    · split
      · rename_i e
        subst e
        simp
      · simp
theorem insV_inc {v : V} : ∀ {xs : List V}, Inc xs → Inc (insV v xs)
  | [], _ => List.pairwise_singleton ..
  | x :: r, h => by
    obtain ⟨h1, h2⟩ := List.pairwise_cons.1 h
    unfold insV
    split
    · rename_i hl
      refine List.pairwise_cons.2 ⟨fun y hy => ?_, insV_inc h2⟩
      rcases mem_insV.1 hy with rfl | hy
      · exact hl
      · exact h1 y hy
    · rename_i hl
      split
      · exact h
      · rename_i hne
        have hvx : vless v x = true := by
          cases hc : vless v x with
          | true => rfl
          | false => exact (hne (vless_tot (by simpa using hl) hc)).elim
        refine List.pairwise_cons.2 ⟨fun y hy => ?_, h⟩
        rcases List.mem_cons.1 hy with rfl | hy
        · exact hvx
        · exact vless_trans hvx (h1 y hy)
theorem insV_len (v : V) : ∀ (xs : List V), (insV v xs).length ≤ xs.length + 1
  | [] => by simp [insV]
  | x :: r => by
    unfold insV
    have := insV_len v r
    split
    · simp; omega
    · split <;> simp
theorem insV_split (v : V) : ∀ xs : List V, insV v xs = xs.takeWhile (fun x => vless x v) ++ (match xs.dropWhile (fun x => vless x v) with | [] => [v] | x :: r => if x = v then x :: r else v :: x :: r)
  | [] => rfl
  | x :: r => by
    unfold insV
    by_cases h : vless x v = true
    · rw [if_pos h, List.takeWhile_cons_of_pos (p := fun x => vless x v) h, List.dropWhile_cons_of_pos (p := fun x => vless x v) h, insV_split v r]; rfl
    · rw [if_neg h, List.takeWhile_cons_of_neg (p := fun x => vless x v) h, List.dropWhile_cons_of_neg (p := fun x => vless x v) h]
      rfl
theorem spec_ins_l0 (xs : List V) (v : V) (hn : xs.length ≤ 1000000) : ∀ (m k : Nat), xs.length - k = m → k ≤ xs.length →
    spec_l01Insert_o_l0 xs (k : Int) v.1 v.2 = some (xs, ((k + ((xs.drop k).takeWhile (fun x => vless x v)).length : Nat) : Int), v.1, v.2)
  | 0, k, hm, hk => by
    have : k = xs.length := by omega
    subst this
    rw [spec_l01Insert_o_l0_eq, decide_eq_false (by omega), List.drop_of_length_le (Nat.le_refl _)]
    rfl
  | m + 1, k, hm, hk => by
    have h1 : k < xs.length := by omega
    have hl : spec_l01Less xs[k] (v.1, v.2) = some (vless xs[k] v) := spec_l01Less_v _ _
    rw [spec_l01Insert_o_l0_eq, inb h1, decide_eq_true (by omega), gd h1, hl, List.drop_eq_getElem_cons h1]
    simp only [cond_true, Option.bind_some, Option.bind_fun_some]
    by_cases h : vless xs[k] v = true
    · rw [h, wnext h1 (by omega), spec_ins_l0 xs v hn m (k + 1) (by omega) (by omega), List.takeWhile_cons_of_pos (p := fun x => vless x v) h]
      simp only [cond_true, List.length_cons]
      rw [show k + 1 + ((xs.drop (k + 1)).takeWhile (fun x => vless x v)).length = k + (((xs.drop (k + 1)).takeWhile (fun x => vless x v)).length + 1) by omega]
    · rw [List.takeWhile_cons_of_neg (p := fun x => vless x v) h]
      have : vless xs[k] v = false := by simpa using h
      rw [this]
      rfl
theorem tw_len (p : V → Bool) (xs : List V) : (xs.takeWhile p).length ≤ xs.length := List.Sublist.length_le (List.takeWhile_sublist p)
theorem tw_take (p : V → Bool) : ∀ xs : List V, xs.take (xs.takeWhile p).length = xs.takeWhile p ∧ xs.drop (xs.takeWhile p).length = xs.dropWhile p
  | [] => ⟨rfl, rfl⟩
  | x :: r => by
    obtain ⟨h1, h2⟩ := tw_take p r
    by_cases h : p x = true
    · rw [List.takeWhile_cons_of_pos h, List.dropWhile_cons_of_pos h, List.length_cons, List.take_succ_cons, List.drop_succ_cons, h1, h2]
      exact ⟨rfl, rfl⟩
    · rw [List.takeWhile_cons_of_neg h, List.dropWhile_cons_of_neg h]
      exact ⟨rfl, rfl⟩
theorem spec_l01Insert_v (xs : List V) (v : V) (hn : xs.length ≤ 1000000) : spec_l01Insert_o xs v = some (insV v xs) := by
  have h0 := spec_ins_l0 xs v hn _ 0 rfl (Nat.zero_le _)
  rw [List.drop_zero, Nat.zero_add] at h0
  have h0' : spec_l01Insert_o_l0 xs 0 v.1 v.2 = some (xs, ((xs.takeWhile (fun x => vless x v)).length : Int), v.1, v.2) := h0
  rw [spec_l01Insert_o_eq, h0', insV_split]
  obtain ⟨h1, h2⟩ := tw_take (fun x => vless x v) xs
  have h3 := tw_len (fun x => vless x v) xs
  generalize (xs.takeWhile (fun x => vless x v)).length = k at *
  rw [← h1, ← h2]
  simp only [Option.bind_some]
  have hc1 : (decide ((0 : Int) ≤ (k : Int)) && decide ((k : Int) ≤ ((List.length xs) : Int))) = true := by rw [decide_eq_true (by omega), decide_eq_true (by omega)]; rfl
  have hcut : cut 0 (Int.toNat (k : Int)) xs = xs.take k := by simp [cut]
  have hcut2 : cut (Int.toNat (k : Int)) xs.length xs = xs.drop k := by simp [cut]
  have hlt : (xs.take k).length ≤ 1000000 := by simp; omega
  have hld : (xs.drop k).length ≤ 1000000 := by simp; omega
  have put : (cond (decide ((0 : Int) ≤ (k : Int)) && decide ((k : Int) ≤ ((List.length xs) : Int))) (cond (decide (List.length ([] : List (Int × Int)) + List.length (cut 0 (Int.toNat (k : Int)) xs) ≤ LIM)) (cond (decide (List.length (([] : List (Int × Int)) ++ (cut 0 (Int.toNat (k : Int)) xs)) + List.length ([v]) ≤ LIM)) (cond (decide ((0 : Int) ≤ (k : Int)) && decide ((k : Int) ≤ ((List.length xs) : Int))) (cond (decide (List.length ((([] : List (Int × Int)) ++ (cut 0 (Int.toNat (k : Int)) xs)) ++ [v]) + List.length (cut (Int.toNat (k : Int)) (List.length xs) xs) ≤ LIM)) (some (((([] : List (Int × Int)) ++ (cut 0 (Int.toNat (k : Int)) xs)) ++ [v]) ++ (cut (Int.toNat (k : Int)) (List.length xs) xs))) none) none) none) none) none) = some (xs.take k ++ v :: xs.drop k) := by
    rw [hc1, hcut, hcut2, decide_eq_true (by unfold LIM; simp only [List.length_nil]; omega), decide_eq_true (by unfold LIM; simp only [List.nil_append, List.length_singleton]; omega), decide_eq_true (by unfold LIM; simp only [List.nil_append, List.length_append, List.length_singleton]; omega)]
    simp
  by_cases hk : k < xs.length
  · rw [inb hk, decide_eq_true (by omega), gd hk, List.drop_eq_getElem_cons hk]
    simp only [cond_true]
    by_cases he : xs[k] = v
    · have e1 : (decide (xs[k].1 = v.1) && (decide (xs[k].2 = v.2) && true)) = true := by rw [he]; simp
      rw [e1, if_pos he, ← List.drop_eq_getElem_cons hk]
      simp
    · have e1 : (decide (xs[k].1 = v.1) && (decide (xs[k].2 = v.2) && true)) = false := by
        cases hb : (decide (xs[k].1 = v.1) && (decide (xs[k].2 = v.2) && true)) with
        | false => rfl
        | true =>
          simp only [Bool.and_eq_true, decide_eq_true_eq] at hb
          exact (he (Prod.ext hb.1 hb.2.1)).elim
      rw [e1, if_neg he, ← List.drop_eq_getElem_cons hk]
      simp only [cond_false]
      exact put
  · rw [decide_eq_false (by omega), List.drop_of_length_le (by omega)]
    simp only [cond_false]
    rw [show (xs.take k ++ [v]) = xs.take k ++ v :: xs.drop k by rw [List.drop_of_length_le (show xs.length ≤ k by omega)]]
    exact put
/-! ### As many -/
theorem nodup_le {α : Type} [DecidableEq α] : ∀ (xs ys : List α), xs.Nodup → (∀ x ∈ xs, x ∈ ys) → xs.length ≤ ys.length
  | [], _, _, _ => Nat.zero_le _
  | x :: r, ys, hn, hs => by
    obtain ⟨h1, h2⟩ := List.nodup_cons.1 hn
    have hx : x ∈ ys := hs x (List.mem_cons_self ..)
    have := nodup_le r (ys.erase x) h2 fun y hy => (List.mem_erase_of_ne (by rintro rfl; exact h1 hy)).2 (hs y (List.mem_cons_of_mem _ hy))
    rw [List.length_erase_of_mem hx] at this
    have hp : 0 < ys.length := List.length_pos_of_mem hx
    simp only [List.length_cons]
    omega
theorem nodup_eq {α : Type} [DecidableEq α] {xs ys : List α} (h1 : xs.Nodup) (h2 : ys.Nodup) (h : ∀ x, x ∈ xs ↔ x ∈ ys) : xs.length = ys.length :=
  Nat.le_antisymm (nodup_le _ _ h1 fun x hx => (h x).1 hx) (nodup_le _ _ h2 fun x hx => (h x).2 hx)
/-! ### Maps as sets -/
abbrev cV : Cd := .pair (.i .i64) (.i .i64)
theorem mset_keys {kc vc : Cd} (k : El kc) (v : El vc) : ∀ (es : List (El kc × El vc)) (a : El kc), a ∈ (mset kc vc k v es).map (·.1) ↔ a = k ∨ a ∈ es.map (·.1)
  | [], a => by simp [mset]
  | e :: r, a => by
    unfold mset
    cases hb : eqEl kc k e.1 with
    | true =>
      have := eqEl_iff.1 hb
      simp only [cond_true, List.map_cons, List.mem_cons]
      rw [← this]
      constructor
      · rintro (h | h)
        · exact .inl h
        · exact .inr (.inr h)
      · rintro (h | h | h)
        · exact .inl h
        · exact .inl h
        · exact .inr h
    | false =>
      simp only [cond_false, List.map_cons, List.mem_cons]
      rw [mset_keys k v r a]
      constructor
      · rintro (h | h | h)
        · exact .inr (.inl h)
        · exact .inl h
        · exact .inr (.inr h)
      · rintro (h | h | h)
        · exact .inr (.inl h)
        · exact .inl h
        · exact .inr (.inr h)
theorem mset_nodup {kc vc : Cd} (k : El kc) (v : El vc) : ∀ (es : List (El kc × El vc)), (es.map (·.1)).Nodup → ((mset kc vc k v es).map (·.1)).Nodup
  | [], _ => by simp [mset]
  | e :: r, h => by
    unfold mset
    simp only [List.map_cons] at h
    obtain ⟨h1, h2⟩ := List.nodup_cons.1 h
    cases hb : eqEl kc k e.1 with
    | true =>
      have := eqEl_iff.1 hb
      simp only [cond_true, List.map_cons]
      rw [this]
      exact List.nodup_cons.2 ⟨h1, h2⟩
    | false =>
      simp only [cond_false, List.map_cons]
      refine List.nodup_cons.2 ⟨fun hm => ?_, mset_nodup k v r h2⟩
      rcases (mset_keys k v r e.1).1 hm with e1 | hm
      · rw [eqEl_iff.2 e1.symm] at hb; cases hb
      · exact h1 hm
theorem mset_len {kc vc : Cd} (k : El kc) (v : El vc) : ∀ (es : List (El kc × El vc)), (mset kc vc k v es).length ≤ es.length + 1
  | [] => by simp [mset]
  | e :: r => by
    unfold mset
    have := mset_len k v r
    cases eqEl kc k e.1
    · simp; omega
    · simp
/-! ### The cells that a tile covers -/
def coverL (l : Lat) (xs : List V) : List V := xs.foldl (fun s v => insV (red l v) s) []
def coverM (l : Lat) (xs : List V) : List (El cV × El .bool) := xs.foldl (fun s v => mset cV .bool (red l v) true s) []
theorem coverL_ok (l : Lat) : ∀ (xs : List V) (s : List V), Inc s → Inc (xs.foldl (fun s v => insV (red l v) s) s) ∧ ∀ w, w ∈ xs.foldl (fun s v => insV (red l v) s) s ↔ w ∈ s ∨ ∃ v ∈ xs, w = red l v
  | [], s, h => ⟨h, fun w => by simp⟩
  | x :: r, s, h => by
    obtain ⟨h1, h2⟩ := coverL_ok l r (insV (red l x) s) (insV_inc h)
    refine ⟨h1, fun w => ?_⟩
    rw [List.foldl_cons, h2 w, mem_insV]
    constructor
    · rintro ((h | h) | ⟨v, hv, h⟩)
      · exact .inr ⟨x, List.mem_cons_self .., h⟩
      · exact .inl h
      · exact .inr ⟨v, List.mem_cons_of_mem _ hv, h⟩
    · rintro (h | ⟨v, hv, h⟩)
      · exact .inl (.inr h)
      · rcases List.mem_cons.1 hv with rfl | hv
        · exact .inl (.inl h)
        · exact .inr ⟨v, hv, h⟩
theorem coverM_ok (l : Lat) : ∀ (xs : List V) (s : List (El cV × El .bool)), (s.map (·.1)).Nodup → ((xs.foldl (fun s v => mset cV .bool (red l v) true s) s).map (·.1)).Nodup ∧ ∀ w, w ∈ (xs.foldl (fun s v => mset cV .bool (red l v) true s) s).map (·.1) ↔ w ∈ s.map (·.1) ∨ ∃ v ∈ xs, w = red l v
  | [], s, h => ⟨h, fun w => by simp⟩
  | x :: r, s, h => by
    obtain ⟨h1, h2⟩ := coverM_ok l r (mset cV .bool (red l x) true s) (mset_nodup _ _ _ h)
    refine ⟨h1, fun w => ?_⟩
    rw [List.foldl_cons, h2 w, mset_keys]
    constructor
    · rintro ((h | h) | ⟨v, hv, h⟩)
      · exact .inr ⟨x, List.mem_cons_self .., h⟩
      · exact .inl h
      · exact .inr ⟨v, List.mem_cons_of_mem _ hv, h⟩
    · rintro (h | ⟨v, hv, h⟩)
      · exact .inl (.inr h)
      · rcases List.mem_cons.1 hv with rfl | hv
        · exact .inl (.inl h)
        · exact .inr ⟨v, hv, h⟩
theorem cover_len (l : Lat) (xs : List V) : (coverM l xs).length = (coverL l xs).length := by
  obtain ⟨h1, h2⟩ := coverL_ok l xs [] List.Pairwise.nil
  obtain ⟨h3, h4⟩ := coverM_ok l xs [] (by simp)
  have := nodup_eq h3 h1.nodup fun w => by rw [h4 w, h2 w]; simp
  rw [List.length_map] at this
  exact this
theorem coverL_le (l : Lat) (xs : List V) : (coverL l xs).length ≤ xs.length := by
  have key : ∀ (xs : List V) (s : List V), (xs.foldl (fun s v => insV (red l v) s) s).length ≤ s.length + xs.length := by
    intro xs
    induction xs with
    | nil => intro s; simp
    | cons x r ih =>
      intro s
      rw [List.foldl_cons, List.length_cons]
      have h1 := ih (insV (red l x) s)
      have h2 := insV_len (red l x) s
      omega
  have := key xs []
  unfold coverL
  simpa using this
def tilesB (xs : List V) (l : Lat) : Bool := decide ((coverL l xs).length = xs.length) && decide ((xs.length : Int) = l.1 * l.2.2)
end Go.Proofs.YtopigbmamejklaaGreatDoor

namespace Go.Proofs.YtopigbmamejklaaGreatDoor
open Ai
set_option linter.unusedSimpArgs false
set_option linter.unusedVariables false
/-! ### Orders -/
def cmpS : List Int → List Int → Int
  | [], [] => 0
  | [], _ :: _ => -1
  | _ :: _, [] => 1
  | a :: r, b :: s => if a = b then cmpS r s else if a < b then -1 else 1
theorem cmpS_neg : ∀ a b : List Int, cmpS a b < 0 ↔ lexB a b = true
  | [], [] => by simp [cmpS, lexB]
  | [], _ :: _ => by simp [cmpS, lexB]
  | _ :: _, [] => by simp [cmpS, lexB]
  | a :: r, b :: s => by
    simp only [cmpS, lexB]
    by_cases h : a = b
    · simp only [if_pos h]; exact cmpS_neg r s
    · simp only [if_neg h]
      by_cases h2 : a < b
      · simp [h2]
      · simp [h2]
theorem cmpS_lt (a b : List Int) : decide (cmpS a b < 0) = lexB a b := by
  rw [Bool.eq_iff_iff, decide_eq_true_iff, cmpS_neg]
theorem cmpS_self : ∀ a : List Int, cmpS a a = 0
  | [] => rfl
  | a :: r => by simp only [cmpS, if_true]; exact cmpS_self r
theorem cmpS_zero : ∀ {a b : List Int}, cmpS a b = 0 → a = b
  | [], [], _ => rfl
  | [], _ :: _, h => by simp [cmpS] at h
  | _ :: _, [], h => by simp [cmpS] at h
  | a :: r, b :: s, h => by
    simp only [cmpS] at h
    split at h
    · rename_i e; rw [e, cmpS_zero h]
    · split at h <;> simp at h
def lexR : List Int → List Int → Option Bool
  | a :: r, b :: s => if a = b then lexR r s else some (decide (a < b))
  | _, _ => none
theorem lexR_B : ∀ a b : List Int, lexB a b = (match lexR a b with | none => decide (a.length < b.length) | some v => v)
  | [], [] => rfl
  | [], _ :: _ => by simp [lexB, lexR]
  | _ :: _, [] => by simp [lexB, lexR]
  | a :: r, b :: s => by
    simp only [lexB, lexR]
    by_cases h : a = b
    · rw [if_pos h, if_pos h, lexR_B r s]
      cases lexR r s with
      | none => simp
      | some v => rfl
    · rw [if_neg h, if_neg h]
theorem spec_l01LessList_l0_v (a b : List Int) (hn : a.length ≤ 1048576) : ∀ (m k : Nat), a.length - k = m → k ≤ a.length →
    spec_l01LessList_l0 a b (k : Int) = some (match lexR (a.drop k) (b.drop k) with | none => .inl (a, b) | some v => .inr v)
  | 0, k, hm, hk => by
    have : k = a.length := by omega
    subst this
    rw [spec_l01LessList_l0_eq, decide_eq_false (by omega), List.drop_of_length_le (Nat.le_refl _)]
    rfl
  | m + 1, k, hm, hk => by
    have h1 : k < a.length := by omega
    rw [spec_l01LessList_l0_eq, decide_eq_true (by omega)]
    by_cases h2 : k < b.length
    · rw [decide_eq_true (by omega), rd_lt h1, rd_lt h2, wnext h1 (by omega), spec_l01LessList_l0_v a b hn m (k + 1) (by omega) (by omega), List.drop_eq_getElem_cons h1, List.drop_eq_getElem_cons h2]
      simp only [cond_true, Option.bind_some, lexR, Option.bind_fun_some]
      by_cases h3 : a[k] = b[k]
      · rw [decide_eq_true h3, if_pos h3]; rfl
      · rw [decide_eq_false h3, if_neg h3]
        by_cases h4 : a[k] < b[k]
        · rw [decide_eq_true h4]; rfl
        · rw [decide_eq_false h4]; rfl
    · rw [decide_eq_false (by omega), List.drop_of_length_le (show b.length ≤ k by omega)]
      rw [List.drop_eq_getElem_cons h1]
      rfl
theorem spec_l01LessList_v (a b : List Int) (hn : a.length ≤ 1048576) : spec_l01LessList a b = some (lexB a b) := by
  rw [spec_l01LessList_eq, show (0 : Int) = ((0 : Nat) : Int) from rfl, spec_l01LessList_l0_v a b hn _ 0 rfl (Nat.zero_le _)]
  simp only [List.drop_zero, Option.bind_some]
  rw [lexR_B]
  cases lexR a b with
  | none =>
    by_cases h : a.length < b.length
    · simp [h]
    · simp [h]
  | some v => rfl
def cmpR : List Int → List Int → Option Int
  | a :: r, b :: s => if a = b then cmpR r s else some (if a < b then -1 else 1)
  | _ :: _, [] => some 1
  | [], _ => none
theorem cmpR_S : ∀ a b : List Int, cmpS a b = (match cmpR a b with | none => if a.length < b.length then -1 else 0 | some v => v)
  | [], [] => rfl
  | [], _ :: _ => by simp [cmpS, cmpR]
  | _ :: _, [] => by simp [cmpS, cmpR]
  | a :: r, b :: s => by
    simp only [cmpS, cmpR]
    by_cases h : a = b
    · rw [if_pos h, if_pos h, cmpR_S r s]
      cases cmpR r s with
      | none => simp
      | some v => rfl
    · rw [if_neg h, if_neg h]
/-! ### The least pattern -/
theorem minP_fold (b : Pat) (xs : List Pat) : minP b xs = xs.foldl (fun b x => if ltP x b = true then x else b) b := rfl
theorem foldl_inv {α β : Type} {I : α → Prop} {f : α → β → α} : ∀ (xs : List β) (a : α), I a → (∀ a x, x ∈ xs → I a → I (f a x)) → I (xs.foldl f a)
  | [], _, h, _ => h
  | x :: r, a, h, hs => foldl_inv r (f a x) (hs a x (List.mem_cons_self ..) h) fun a y hy => hs a y (List.mem_cons_of_mem _ hy)
/-! ### All images -/
theorem mapp_ss {m : Mat4} (hm : Pm m) {l : Lat} (hl : isLat l = true) {x : V} (hx : x ∈ cells l) : Ss (mapp m x) := by
  have h1 := mapp_lim hm x
  have h2 := cells_sv hl hx
  unfold Sv at h2
  unfold Ss
  omega
theorem pmats_pm {f : Int} (hf : f = 0 ∨ f = 1) {m : Mat4} (h : m ∈ pmats f) : Pm m := pmB_pm hf ((mem_pmats hf _).1 h)
theorem flatM_le {α β : Type} (g : α → List β) (c : Nat) : ∀ (xs : List α), (∀ x ∈ xs, (g x).length ≤ c) → (xs.flatMap g).length ≤ c * xs.length
  | [], _ => by simp
  | x :: r, h => by
    have h1 := h x (List.mem_cons_self ..)
    have h2 := flatM_le g c r fun y hy => h y (List.mem_cons_of_mem _ hy)
    rw [List.flatMap_cons, List.length_append, List.length_cons, Nat.mul_add]
    omega
theorem imgs_ok {q : Pat} (hq : isPat q = true) {f : Int} (hf : f = 0 ∨ f = 1) : (imgs1 q (pmats f)).length ≤ 100000 ∧ (imgs2 q (pmats f)).length ≤ 100000 ∧ (∀ x ∈ imgs1 q (pmats f), isPat x = true) ∧ ∀ x ∈ imgs2 q (pmats f), isPat x = true := by
  have hlq := (isPat_iff.1 hq).2.1
  have hms := pmats_len f
  refine ⟨?_, ?_, fun x hx => ?_, fun x hx => ?_⟩
  · have := flatM_le (fun m => (cells q.2.1).map fun x => moved q m (mapp m x)) 64 (pmats f) (fun m _ => by rw [List.length_map]; exact (cells_len' hlq).2)
    unfold imgs1; omega
  · have := flatM_le (fun m => (cells (imgL m q.2.1)).map fun t => moved q m t) 64 (pmats f) (fun m hm => by rw [List.length_map]; exact (cells_len' (isLat_imgL hlq (pmats_pm hf hm)).1).2)
    unfold imgs2; omega
  · unfold imgs1 at hx
    simp only [List.mem_flatMap, List.mem_map] at hx
    obtain ⟨m, h1, y, _, rfl⟩ := hx
    exact isPat_moved hq (pmats_pm hf h1) _
  · unfold imgs2 at hx
    simp only [List.mem_flatMap, List.mem_map] at hx
    obtain ⟨m, h1, y, _, rfl⟩ := hx
    exact isPat_moved hq (pmats_pm hf h1) _
theorem cells_ne {l : Lat} (hl : isLat l = true) : cells l ≠ [] := by
  have := (cells_num hl (0, 0)).1
  intro h
  rw [h] at this
  simp at this
theorem unit_mem {f : Int} (hf : f = 0 ∨ f = 1) : m1 ∈ pmats f := by
  rw [mem_pmats hf]
  rcases hf with rfl | rfl <;> decide
theorem imgs_ne {q : Pat} (hq : isPat q = true) {f : Int} (hf : f = 0 ∨ f = 1) : imgs1 q (pmats f) ≠ [] ∧ imgs2 q (pmats f) ≠ [] := by
  have hlq := (isPat_iff.1 hq).2.1
  constructor
  · intro h
    obtain ⟨c, r, hc⟩ := List.exists_cons_of_ne_nil (cells_ne hlq)
    have : moved q m1 (mapp m1 c) ∈ imgs1 q (pmats f) := by
      unfold imgs1
      simp only [List.mem_flatMap, List.mem_map]
      exact ⟨m1, unit_mem hf, c, by rw [hc]; simp, rfl⟩
    rw [h] at this; simp at this
  · intro h
    obtain ⟨c, r, hc⟩ := List.exists_cons_of_ne_nil (cells_ne (isLat_imgL hlq pm_unit).1)
    have : moved q m1 c ∈ imgs2 q (pmats f) := by
      unfold imgs2
      simp only [List.mem_flatMap, List.mem_map]
      exact ⟨m1, unit_mem hf, c, by rw [hc]; simp, rfl⟩
    rw [h] at this; simp at this
def canonOf (p : Pat) : Pat := match imgs2 (onLat p (fullOf p)) (pmats p.1) with
  | x :: r => minP x r
  | [] => p
end Go.Proofs.YtopigbmamejklaaGreatDoor
