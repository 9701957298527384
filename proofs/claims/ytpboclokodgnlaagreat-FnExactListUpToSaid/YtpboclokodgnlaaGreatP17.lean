/-
  Plain meanings: vectors of a lattice; the lattice of two vectors.
-/
import Derived.Test.YtpboclokodgnlaaGreatP15
namespace Go.Proofs.YtpboclokodgnlaaGreat
open Pre Ai
set_option linter.unusedSimpArgs false
set_option linter.unusedVariables false
set_option linter.unnecessarySimpa false
def InL (l : Lat) (w : V) : Prop := ∃ i j : Int, w.1 = i * l.1 + j * l.2.1 ∧ w.2 = j * l.2.2
theorem inL_iff {l : Lat} (hl : isLat l = true) (w : V) : red l w = (0, 0) ↔ InL l w := by
  obtain ⟨⟨a1, a2⟩, ⟨c1, c2⟩, ⟨b1, b2⟩, _⟩ := isLat_iff.1 hl
  unfold red InL
  rw [Prod.mk.injEq]
  constructor
  · rintro ⟨h1, h2⟩
    refine ⟨(w.1 - w.2 / l.2.2 * l.2.1) / l.1, w.2 / l.2.2, ?_, ?_⟩
    · have := Int.mul_ediv_add_emod (w.1 - w.2 / l.2.2 * l.2.1) l.1
      rw [Int.mul_comm] at this
      omega
    · have := Int.mul_ediv_add_emod w.2 l.2.2
      rw [Int.mul_comm] at this
      omega
  · rintro ⟨i, j, h1, h2⟩
    have h3 : w.2 / l.2.2 = j := by rw [h2]; exact Int.mul_ediv_cancel _ (by omega)
    refine ⟨?_, by rw [h2]; exact Int.mul_emod_left _ _⟩
    rw [h3, h1, Int.add_sub_cancel]
    exact Int.mul_emod_left _ _
theorem InL.lin {l : Lat} {u v : V} (hu : InL l u) (hv : InL l v) (p q : Int) : InL l (p * u.1 + q * v.1, p * u.2 + q * v.2) := by
  obtain ⟨i, j, h1, h2⟩ := hu
  obtain ⟨i', j', h3, h4⟩ := hv
  refine ⟨p * i + q * i', p * j + q * j', ?_, ?_⟩
  · show p * u.1 + q * v.1 = _
    rw [h1, h3]
    simp only [Int.mul_add, Int.add_mul, Int.mul_assoc]
    omega
  · show p * u.2 + q * v.2 = _
    rw [h2, h4]
    simp only [Int.mul_add, Int.add_mul, Int.mul_assoc]
theorem InL.fst (l : Lat) : InL l (l.1, 0) := ⟨1, 0, by simp, by simp⟩
theorem InL.snd (l : Lat) : InL l l.2 := ⟨0, 1, by simp, by simp⟩
theorem InL.zero (l : Lat) : InL l (0, 0) := ⟨0, 0, by simp, by simp⟩
def vsub (u v : V) : V := (u.1 - v.1, u.2 - v.2)
theorem red_congr {l : Lat} (hl : isLat l = true) {u v : V} (h : InL l (vsub u v)) : red l u = red l v := by
  obtain ⟨⟨a1, a2⟩, ⟨c1, c2⟩, ⟨b1, b2⟩, _⟩ := isLat_iff.1 hl
  obtain ⟨i, j, h1, h2⟩ := h
  unfold vsub at h1 h2
  dsimp only at h1 h2
  have e2 : u.2 = v.2 + j * l.2.2 := by omega
  have e3 : u.2 / l.2.2 = v.2 / l.2.2 + j := by rw [e2]; exact Int.add_mul_ediv_right _ _ (by omega)
  unfold red
  rw [e3, e2, Int.add_mul_emod_self_right, Int.add_mul]
  have e1 : u.1 - (v.2 / l.2.2 * l.2.1 + j * l.2.1) = v.1 - v.2 / l.2.2 * l.2.1 + i * l.1 := by omega
  rw [e1, Int.add_mul_emod_self_right]
theorem red_in {l : Lat} (hl : isLat l = true) (v : V) : InL l (vsub v (red l v)) := by
  obtain ⟨⟨a1, a2⟩, ⟨c1, c2⟩, ⟨b1, b2⟩, _⟩ := isLat_iff.1 hl
  refine ⟨(v.1 - v.2 / l.2.2 * l.2.1) / l.1, v.2 / l.2.2, ?_, ?_⟩
  · have := Int.mul_ediv_add_emod (v.1 - v.2 / l.2.2 * l.2.1) l.1
    rw [Int.mul_comm] at this
    unfold vsub red
    dsimp only
    omega
  · have := Int.mul_ediv_add_emod v.2 l.2.2
    rw [Int.mul_comm] at this
    unfold vsub red
    dsimp only
    omega
theorem red_eq_iff {l : Lat} (hl : isLat l = true) {u v : V} : red l u = red l v ↔ InL l (vsub u v) := by
  constructor
  · intro h
    have h1 := red_in hl u
    have h2 := red_in hl v
    rw [h] at h1
    have := h1.lin h2 1 (-1)
    unfold vsub at this ⊢
    dsimp only at this ⊢
    have e1 : 1 * (u.1 - (red l v).1) + -1 * (v.1 - (red l v).1) = u.1 - v.1 := by omega
    have e2 : 1 * (u.2 - (red l v).2) + -1 * (v.2 - (red l v).2) = u.2 - v.2 := by omega
    rw [e1, e2] at this
    exact this
  · exact red_congr hl
theorem red_mem {l : Lat} (hl : isLat l = true) (v : V) : red l v ∈ cells l := by
  have := red_lim hl v
  exact mem_cells.2 this
theorem cells_num {l : Lat} (hl : isLat l = true) (v : V) : ∃ h : num l v < (cells l).length, (cells l)[num l v] = red l v := by
  obtain ⟨i, hi, he⟩ := List.getElem_of_mem (red_mem hl v)
  have h1 := num_cell hl hi
  have h2 : num l (cells l)[i] = num l v := by
    rw [he]
    unfold num
    rw [red_cell hl (red_mem hl v)]
  rw [h2] at h1
  subst h1
  exact ⟨hi, he⟩
/-! ### The lattice of two vectors -/
def det2 (u v : V) : Int := u.1 * v.2 - v.1 * u.2
theorem euc_det : ∀ (n : Nat) (h v : V), (det2 (euc n h v).1 (euc n h v).2).natAbs = (det2 h v).natAbs
  | 0, _, _ => rfl
  | n + 1, h, v => by
    rw [euc]
    split
    · rfl
    · rw [euc_det n]
      have : det2 v (h.1 - Int.tdiv h.2 v.2 * v.1, h.2 - Int.tdiv h.2 v.2 * v.2) = -det2 h v := by
        unfold det2
        dsimp only
        generalize Int.tdiv h.2 v.2 = q
        rw [Int.mul_sub, Int.sub_mul, Int.mul_left_comm v.1 q v.2, Int.mul_assoc q v.1 v.2]
        omega
      rw [this, Int.natAbs_neg]
def Sp (u v w : V) : Prop := ∃ i j : Int, w.1 = i * u.1 + j * v.1 ∧ w.2 = i * u.2 + j * v.2
theorem Sp.swap {u v w : V} (h : Sp u v w) : Sp v u w := by
  obtain ⟨i, j, h1, h2⟩ := h
  exact ⟨j, i, by omega, by omega⟩
theorem euc_sp : ∀ (n : Nat) (h v w : V), Sp (euc n h v).1 (euc n h v).2 w ↔ Sp h v w
  | 0, _, _, _ => Iff.rfl
  | n + 1, h, v, w => by
    rw [euc]
    split
    · exact Iff.rfl
    · rw [euc_sp n]
      generalize Int.tdiv h.2 v.2 = q
      constructor
      · rintro ⟨i, j, h1, h2⟩
        refine ⟨j, i - j * q, ?_, ?_⟩
        · rw [h1]; dsimp only; rw [Int.mul_sub, Int.sub_mul, Int.mul_assoc]; omega
        · rw [h2]; dsimp only; rw [Int.mul_sub, Int.sub_mul, Int.mul_assoc]; omega
      · rintro ⟨i, j, h1, h2⟩
        refine ⟨j + i * q, i, ?_, ?_⟩
        · rw [h1]; dsimp only; rw [Int.mul_sub, Int.add_mul, Int.mul_assoc]; omega
        · rw [h2]; dsimp only; rw [Int.mul_sub, Int.add_mul, Int.mul_assoc]; omega
theorem euc_v1 : ∀ (n : Nat) (h v : V), (euc n h v).2.1.natAbs ≤ max v.1.natAbs (dd h v)
  | 0, h, v => by show v.1.natAbs ≤ _; omega
  | n + 1, h, v => by
    rw [euc]
    split
    · show v.1.natAbs ≤ _; omega
    · rename_i h0
      obtain ⟨s1, s2, _, _⟩ := dd_step h v h0
      have := euc_v1 n v (h.1 - Int.tdiv h.2 v.2 * v.1, h.2 - Int.tdiv h.2 v.2 * v.2)
      dsimp only at this
      omega
def Vm (v : V) : Prop := v.1.natAbs ≤ 512 ∧ v.2.natAbs ≤ 512
theorem dd_vm {u v : V} (hu : Vm u) (hv : Vm v) : dd u v ≤ 524288 := by
  unfold dd
  have h1 := Nat.mul_le_mul hu.1 hv.2
  have h2 := Nat.mul_le_mul hv.1 hu.2
  omega
def first (v : V) : Int × V := if v.2 = 0 then ((v.1.natAbs : Int), 0, 0) else (0, v)
theorem euc_zero (v : V) : euc EU (0, 0) v = if v.2 = 0 then ((0, 0), v) else (v, (0, 0)) := by
  by_cases h : v.2 = 0
  · rw [if_pos h]; exact euc_flat 1048576 _ _ h
  · rw [if_neg h, show EU = 1048575 + 1 + 1 from rfl, euc, if_neg h]
    have : Int.tdiv 0 v.2 = 0 := Int.zero_tdiv _
    simp only [this, Int.zero_mul, Int.sub_zero]
    rw [euc_flat _ _ _ rfl]
theorem gcd_z (a : Int) : ((Int.gcd 0 a : Nat) : Int) = (a.natAbs : Int) := by rw [Int.gcd_comm, Int.gcd_zero]
theorem hStep_first (v : V) : hStep (0, 0, 0) v = first v := by
  unfold hStep first
  dsimp only
  rw [euc_zero]
  by_cases h : v.2 = 0
  · rw [if_pos h, if_pos h]
    dsimp only
    rw [gcd_z]
    split
    · rw [Int.zero_emod]
    · rfl
  · rw [if_neg h, if_neg h]
    dsimp only
    rw [gcd_z]
    rfl
theorem lStep_first (v : V) : lStep (0, 0, 0) v = first v := by
  unfold lStep first
  dsimp only
  rw [euc_zero]
  by_cases h : v.2 = 0
  · rw [if_pos h, if_pos h]
    dsimp only
    rw [gcd_z]
  · rw [if_neg h, if_neg h]
    dsimp only
    rw [gcd_z]
    rfl
theorem two_end (u v : V) (hu : Vm u) (hv : Vm v) (hd : det2 u v ≠ 0) : ∃ (h : V) (r : Int), (lStep (first u) v).1 = (r.natAbs : Int) ∧ (lStep (first u) v).2 = h ∧ r ≠ 0 ∧ h.2 ≠ 0 ∧ (r * h.2).natAbs = (det2 u v).natAbs ∧ (∀ w, Sp h (r, 0) w ↔ Sp u v w) ∧
    h.1.natAbs ≤ 524288 ∧ r.natAbs ≤ 524288 := by
  unfold first
  by_cases h0 : u.2 = 0
  · rw [if_pos h0]
    have hu1 : u.1 ≠ 0 := by
      intro h1; apply hd; unfold det2; rw [h0, h1]; simp
    have hv2 : v.2 ≠ 0 := by
      intro h1; apply hd; unfold det2; rw [h0, h1]; simp
    have e : lStep ((u.1.natAbs : Int), 0, 0) v = ((u.1.natAbs : Int), v) := by
      unfold lStep
      dsimp only
      rw [euc_zero, if_neg hv2]
      dsimp only
      rw [Int.gcd_zero]
      rfl
    refine ⟨v, u.1, by rw [e], by rw [e], hu1, hv2, ?_, ?_, by have := hv.1; omega, by have := hu.1; omega⟩
    · unfold det2; rw [h0]; simp
    · intro w
      have hue : (u.1, (0 : Int)) = u := by rw [← h0]
      rw [hue]
      exact ⟨Sp.swap, Sp.swap⟩
  · rw [if_neg h0]
    have hvs : v.2.natAbs < EU := by have := hv.2; unfold EU; omega
    obtain ⟨g1, g2⟩ := euc_gcd EU u v hvs
    have gp : 0 < Int.gcd u.2 v.2 := Int.gcd_pos_of_ne_zero_left _ h0
    have hdet := euc_det EU u v
    have hdd := dd_vm hu hv
    have b1 := euc_h1 EU u v
    have b2 := euc_v1 EU u v
    have hu1 := hu.1
    have hv1 := hv.1
    have hdt : (det2 (euc EU u v).1 (euc EU u v).2) = -((euc EU u v).2.1 * (euc EU u v).1.2) := by
      unfold det2
      rw [g2]
      simp
    rw [hdt, Int.natAbs_neg] at hdet
    refine ⟨(euc EU u v).1, (euc EU u v).2.1, ?_, rfl, ?_, by omega, hdet, ?_, by omega, by omega⟩
    · unfold lStep
      exact gcd_z _
    · intro h1
      rw [h1] at hdet
      simp at hdet
      omega
    · intro w
      have he : ((euc EU u v).2.1, (0 : Int)) = (euc EU u v).2 := by rw [← g2]
      rw [he]
      exact euc_sp EU u v w
theorem first_ok (u v : V) (hu : Vm u) (hv : Vm v) : Ok (0, 0, 0) u ∧ Ok (first u) v := by
  have hu1 := hu.1
  have hu2 := hu.2
  have hv1 := hv.1
  have hv2 := hv.2
  constructor
  · refine ⟨⟨by simp [dd], by simp, by omega, by simp, by omega⟩, by simp, ?_⟩
    dsimp only
    rw [euc_zero, gcd_z]
    split
    · dsimp only; omega
    · simp
  · have hb : (first u).2.1.natAbs ≤ 512 ∧ (first u).2.2.natAbs ≤ 512 := by
      unfold first
      split
      · simp
      · exact hu
    have hdd := dd_vm (u := (first u).2) hb hv
    have ha : 0 ≤ (first u).1 ∧ (first u).1 ≤ 1024 := by
      unfold first
      split
      · dsimp only; omega
      · simp
    have b2 := euc_v1 EU (first u).2 v
    refine ⟨⟨by omega, by omega, by omega, by omega, by omega⟩, by omega, ?_⟩
    by_cases h0 : (first u).1 = 0
    · rw [h0, gcd_z]
      omega
    · have := (gcd_le_left (first u).1 (euc EU (first u).2 v).2.1 (by omega)).1
      omega
theorem latN_sp (a r : Int) (h : V) (ha : a = (r.natAbs : Int)) (hr : r ≠ 0) (hy : h.2 ≠ 0) (w : V) : InL (latN (a, h)) w ↔ Sp h (r, 0) w := by
  obtain ⟨q, hq⟩ : ∃ q, (if h.2 < 0 then -h.1 else h.1) % a = (if h.2 < 0 then -h.1 else h.1) - q * a :=
    ⟨(if h.2 < 0 then -h.1 else h.1) / a, by
      have := Int.mul_ediv_add_emod (if h.2 < 0 then -h.1 else h.1) a
      rw [Int.mul_comm] at this
      omega⟩
  unfold InL latN Sp
  dsimp only
  rw [hq]
  by_cases hn : h.2 < 0
  · simp only [if_pos hn, Int.mul_zero, Int.add_zero]
    rcases Int.natAbs_eq r with h1 | h1 <;> rw [← ha] at h1
    · constructor
      · rintro ⟨i, j, e1, e2⟩
        refine ⟨-j, i - j * q, ?_, by rw [e2, Int.mul_neg, Int.neg_mul]⟩
        rw [e1, h1, Int.mul_sub, Int.mul_neg, Int.neg_mul, Int.sub_mul, Int.mul_assoc]
        omega
      · rintro ⟨i, j, e1, e2⟩
        refine ⟨j - i * q, -i, ?_, by rw [e2, Int.neg_mul_neg]⟩
        rw [e1, h1, Int.mul_sub, Int.neg_mul_neg, Int.sub_mul, Int.mul_assoc, Int.neg_mul]
        omega
    · constructor
      · rintro ⟨i, j, e1, e2⟩
        refine ⟨-j, -(i - j * q), ?_, by rw [e2, Int.mul_neg, Int.neg_mul]⟩
        rw [e1, h1, Int.mul_sub, Int.mul_neg, Int.neg_mul_neg, Int.neg_mul, Int.sub_mul, Int.mul_assoc]
        omega
      · rintro ⟨i, j, e1, e2⟩
        refine ⟨-j - i * q, -i, ?_, by rw [e2, Int.neg_mul_neg]⟩
        rw [e1, h1, Int.mul_sub, Int.neg_mul_neg, Int.sub_mul, Int.mul_assoc, Int.neg_mul, Int.mul_neg, Int.neg_mul]
        omega
  · simp only [if_neg hn, Int.mul_zero, Int.add_zero]
    rcases Int.natAbs_eq r with h1 | h1 <;> rw [← ha] at h1
    · constructor
      · rintro ⟨i, j, e1, e2⟩
        refine ⟨j, i - j * q, ?_, e2⟩
        rw [e1, h1, Int.mul_sub, Int.sub_mul, Int.mul_assoc]
        omega
      · rintro ⟨i, j, e1, e2⟩
        refine ⟨j + i * q, i, ?_, e2⟩
        rw [e1, h1, Int.mul_sub, Int.add_mul, Int.mul_assoc]
        omega
    · constructor
      · rintro ⟨i, j, e1, e2⟩
        refine ⟨j, -(i - j * q), ?_, e2⟩
        rw [e1, h1, Int.mul_sub, Int.neg_mul_neg, Int.sub_mul, Int.mul_assoc]
        omega
      · rintro ⟨i, j, e1, e2⟩
        refine ⟨-j + i * q, i, ?_, e2⟩
        rw [e1, h1, Int.mul_sub, Int.add_mul, Int.mul_assoc, Int.neg_mul, Int.mul_neg]
        omega
def imgOf (u v : V) : Lat := latN (lStep (first u) v)
structure Two (u v : V) : Prop where
  uu : Vm u
  vv : Vm v
  d : det2 u v ≠ 0
  l : (det2 u v).natAbs ≤ 64
theorem inL_img {u v : V} (h : Two u v) (w : V) : InL (imgOf u v) w ↔ Sp u v w := by
  obtain ⟨k, r, e1, e2, hr, hy, hp, hs, _, _⟩ := two_end u v h.uu h.vv h.d
  unfold imgOf
  have : lStep (first u) v = ((r.natAbs : Int), k) := by rw [← e1, ← e2]
  rw [this, latN_sp _ r k rfl hr hy, hs]
theorem isLat_img {u v : V} (h : Two u v) : isLat (imgOf u v) = true ∧ (imgOf u v).1 * (imgOf u v).2.2 = ((det2 u v).natAbs : Int) := by
  obtain ⟨k, r, e1, e2, hr, hy, hp, hs, _, _⟩ := two_end u v h.uu h.vv h.d
  have hl := h.l
  have e : lStep (first u) v = ((r.natAbs : Int), k) := by rw [← e1, ← e2]
  have hc : (if k.2 < 0 then -k.2 else k.2) = (k.2.natAbs : Int) := by split <;> omega
  have hm : (r.natAbs : Int) * (k.2.natAbs : Int) = ((det2 u v).natAbs : Int) := by
    rw [← hp, Int.natAbs_mul, Int.natCast_mul]
  have r1 : 1 ≤ r.natAbs := by omega
  have k1 : 1 ≤ k.2.natAbs := by omega
  have m1 : r.natAbs * 1 ≤ r.natAbs * k.2.natAbs := Nat.mul_le_mul_left _ k1
  have m2 : 1 * k.2.natAbs ≤ r.natAbs * k.2.natAbs := Nat.mul_le_mul_right _ r1
  have hm' : r.natAbs * k.2.natAbs = (det2 u v).natAbs := by rw [← hp, Int.natAbs_mul]
  unfold imgOf
  rw [e]
  unfold latN
  dsimp only
  rw [hc]
  refine ⟨?_, hm⟩
  rw [isLat_iff]
  dsimp only
  have q1 := Int.emod_nonneg (if k.2 < 0 then -k.1 else k.1) (show (r.natAbs : Int) ≠ 0 by omega)
  have q2 := Int.emod_lt_of_pos (if k.2 < 0 then -k.1 else k.1) (show 0 < (r.natAbs : Int) by omega)
  refine ⟨by omega, by omega, ⟨q1, q2⟩, by omega⟩
theorem sim_refl (s : Int × V) : Sim s s := by
  refine ⟨rfl, ?_⟩
  split
  · rfl
  · exact ⟨rfl, 0, by simp⟩
theorem img_spec {u v : V} (h : Two u v) : spec_l03Hermite [u, v] = some (imgOf u v) := by
  obtain ⟨k, r, e1, e2, hr, hy, hp, hs, b1, b2⟩ := two_end u v h.uu h.vv h.d
  have hl := h.l
  have e : lStep (first u) v = ((r.natAbs : Int), k) := by rw [← e1, ← e2]
  obtain ⟨o1, o2⟩ := first_ok u v h.uu h.vv
  have r1 : 1 ≤ r.natAbs := by omega
  have m2 : 1 * k.2.natAbs ≤ r.natAbs * k.2.natAbs := Nat.mul_le_mul_right _ r1
  have hm' : r.natAbs * k.2.natAbs = (det2 u v).natAbs := by rw [← hp, Int.natAbs_mul]
  have ls : Small (lStep (first u) v) := by
    rw [e]
    exact ⟨by dsimp only; omega, by dsimp only; omega, by dsimp only; omega⟩
  have f0 : 0 ≤ (first u).1 := by unfold first; split <;> dsimp only <;> omega
  have sim := (sim_step (sim_refl (first u)) f0 v).1
  have hsm : Small (hStep (first u) v) := by
    obtain ⟨s1, s2⟩ := sim
    have ha : (hStep (first u) v).1 = (r.natAbs : Int) := by rw [s1, e]
    rw [if_neg (by omega)] at s2
    refine ⟨by omega, ?_, by rw [s2.1, e]; dsimp only; omega⟩
    have hx : (hStep (first u) v).2.1 = if 0 < (hStep (first u) v).1 then (euc EU (first u).2 v).1.1 % (hStep (first u) v).1 else (euc EU (first u).2 v).1.1 := rfl
    rw [hx, if_pos (by omega)]
    have q1 := Int.emod_nonneg (euc EU (first u).2 v).1.1 (show (hStep (first u) v).1 ≠ 0 by omega)
    have q2 := Int.emod_lt_of_pos (euc EU (first u).2 v).1.1 (show 0 < (hStep (first u) v).1 by omega)
    omega
  have hok : OkAll hStep (0, 0, 0) [u, v] := ⟨o1, by rw [hStep_first]; exact o2, trivial⟩
  have r1 := spec_Hermite_of [u, v] (by simp) hok (by simp only [List.foldl_cons, List.foldl_nil, hStep_first]; exact hsm)
  simp only [List.foldl_cons, List.foldl_nil, hStep_first] at r1
  rw [r1]
  show _ = some (latN (lStep (first u) v))
  rw [latN_sim sim hsm.a.1]
theorem img_both {u v : V} (h : Two u v) : spec_l03Hermite [u, v] = some (imgOf u v) ∧ impl_latticeOf [u, v] = some (imgOf u v) := by
  obtain ⟨k, r, e1, e2, hr, hy, hp, hs, b1, b2⟩ := two_end u v h.uu h.vv h.d
  have hl := h.l
  have e : lStep (first u) v = ((r.natAbs : Int), k) := by rw [← e1, ← e2]
  obtain ⟨o1, o2⟩ := first_ok u v h.uu h.vv
  have r1 : 1 ≤ r.natAbs := by omega
  have m2 : 1 * k.2.natAbs ≤ r.natAbs * k.2.natAbs := Nat.mul_le_mul_right _ r1
  have hm' : r.natAbs * k.2.natAbs = (det2 u v).natAbs := by rw [← hp, Int.natAbs_mul]
  have ls : Small (lStep (first u) v) := by
    rw [e]
    exact ⟨by dsimp only; omega, by dsimp only; omega, by dsimp only; omega⟩
  have f0 : 0 ≤ (first u).1 := by unfold first; split <;> dsimp only <;> omega
  have sim := (sim_step (sim_refl (first u)) f0 v).1
  have hsm : Small (hStep (first u) v) := by
    obtain ⟨s1, s2⟩ := sim
    have ha : (hStep (first u) v).1 = (r.natAbs : Int) := by rw [s1, e]
    rw [if_neg (by omega)] at s2
    refine ⟨by omega, ?_, by rw [s2.1, e]; dsimp only; omega⟩
    have hx : (hStep (first u) v).2.1 = if 0 < (hStep (first u) v).1 then (euc EU (first u).2 v).1.1 % (hStep (first u) v).1 else (euc EU (first u).2 v).1.1 := rfl
    rw [hx, if_pos (by omega)]
    have q1 := Int.emod_nonneg (euc EU (first u).2 v).1.1 (show (hStep (first u) v).1 ≠ 0 by omega)
    have q2 := Int.emod_lt_of_pos (euc EU (first u).2 v).1.1 (show 0 < (hStep (first u) v).1 by omega)
    omega
  have hok : OkAll hStep (0, 0, 0) [u, v] := ⟨o1, by rw [hStep_first]; exact o2, trivial⟩
  have lok : OkAll lStep (0, 0, 0) [u, v] := ⟨o1, by rw [lStep_first]; exact o2, trivial⟩
  have r1 := spec_Hermite_of [u, v] (by simp) hok (by simp only [List.foldl_cons, List.foldl_nil, hStep_first]; exact hsm)
  have r2 := impl_latticeOf_of [u, v] (by simp) lok (by simp only [List.foldl_cons, List.foldl_nil, lStep_first]; exact ls)
  simp only [List.foldl_cons, List.foldl_nil, hStep_first] at r1
  simp only [List.foldl_cons, List.foldl_nil, lStep_first] at r2
  refine ⟨?_, r2⟩
  rw [r1]
  show _ = some (latN (lStep (first u) v))
  rw [latN_sim sim hsm.a.1]
theorem lat_eq {l m : Lat} (hl : isLat l = true) (hm : isLat m = true) (hp : m.1 * m.2.2 = l.1 * l.2.2) (hi : ∀ w, InL m w → InL l w) : m = l := by
  obtain ⟨⟨a1, a2⟩, ⟨c1, c2⟩, ⟨b1, b2⟩, _⟩ := isLat_iff.1 hl
  obtain ⟨⟨a3, a4⟩, ⟨c3, c4⟩, ⟨b3, b4⟩, _⟩ := isLat_iff.1 hm
  obtain ⟨i, j, h1, h2⟩ := hi _ (InL.fst m)
  obtain ⟨i', j', h3, h4⟩ := hi _ (InL.snd m)
  dsimp only at h1 h2
  have hj : j = 0 := by
    rcases Int.mul_eq_zero.1 h2.symm with h | h
    · exact h
    · omega
  rw [hj, Int.zero_mul, Int.add_zero] at h1
  have i1 : 1 ≤ i := by
    rcases Int.lt_or_le i 1 with h | h
    · have := Int.mul_nonpos_of_nonpos_of_nonneg (show i ≤ 0 by omega) (show 0 ≤ l.1 by omega)
      omega
    · exact h
  have j1 : 1 ≤ j' := by
    rcases Int.lt_or_le j' 1 with h | h
    · have := Int.mul_nonpos_of_nonpos_of_nonneg (show j' ≤ 0 by omega) (show 0 ≤ l.2.2 by omega)
      omega
    · exact h
  have ha : l.1 ≤ m.1 := by
    have := Int.mul_le_mul_of_nonneg_right i1 (show 0 ≤ l.1 by omega)
    omega
  have hc : l.2.2 ≤ m.2.2 := by
    have := Int.mul_le_mul_of_nonneg_right j1 (show 0 ≤ l.2.2 by omega)
    omega
  have ea : m.1 = l.1 := by
    rcases Int.lt_or_le l.1 m.1 with h | h
    · have q1 := Int.mul_le_mul (show l.1 + 1 ≤ m.1 by omega) hc (by omega) (by omega)
      rw [Int.add_mul] at q1
      omega
    · omega
  have ec : m.2.2 = l.2.2 := by
    rw [ea] at hp
    exact Int.eq_of_mul_eq_mul_left (by omega) hp
  have j2 : j' = 1 := by
    rw [ec] at h4
    have : 1 * l.2.2 = j' * l.2.2 := by omega
    exact (Int.eq_of_mul_eq_mul_right (by omega) this).symm
  rw [j2, Int.one_mul] at h3
  have i2 : i' = 0 := by
    rcases Int.lt_trichotomy i' 0 with h | h | h
    · have := Int.mul_le_mul_of_nonneg_right (show i' ≤ -1 by omega) (show 0 ≤ l.1 by omega)
      omega
    · exact h
    · have := Int.mul_le_mul_of_nonneg_right (show 1 ≤ i' by omega) (show 0 ≤ l.1 by omega)
      omega
  rw [i2, Int.zero_mul, Int.zero_add] at h3
  rw [Prod.ext_iff, Prod.ext_iff]
  exact ⟨ea, h3, ec⟩
theorem img_eq_iff {l : Lat} (hl : isLat l = true) {u v : V} (h : Two u v) (hd : ((det2 u v).natAbs : Int) = l.1 * l.2.2) : imgOf u v = l ↔ InL l u ∧ InL l v := by
  constructor
  · intro e
    have hs := inL_img h
    rw [e] at hs
    exact ⟨(hs u).2 ⟨1, 0, by simp, by simp⟩, (hs v).2 ⟨0, 1, by simp, by simp⟩⟩
  · rintro ⟨h1, h2⟩
    obtain ⟨i1, i2⟩ := isLat_img h
    refine lat_eq hl i1 (by omega) fun w hw => ?_
    obtain ⟨i, j, e1, e2⟩ := (inL_img h w).1 hw
    have := h1.lin h2 i j
    rw [← e1, ← e2] at this
    exact this
/-! ### Matrices -/
abbrev Mat4 := Int × Int × Int × Int
def mdet (m : Mat4) : Int := m.1 * m.2.2.2 - m.2.1 * m.2.2.1
def mapp (m : Mat4) (v : V) : V := (m.1 * v.1 + m.2.1 * v.2, m.2.2.1 * v.1 + m.2.2.2 * v.2)
def Unit1 (x : Int) : Prop := -1 ≤ x ∧ x ≤ 1
structure Pm (m : Mat4) : Prop where
  a : Unit1 m.1
  b : Unit1 m.2.1
  c : Unit1 m.2.2.1
  d : Unit1 m.2.2.2
  det : mdet m = 1 ∨ mdet m = -1
theorem unit_mul {a x : Int} (h : Unit1 a) : a * x = x ∨ a * x = 0 ∨ a * x = -x := by
  have : a = 1 ∨ a = 0 ∨ a = -1 := by unfold Unit1 at h; omega
  rcases this with h | h | h <;> subst h
  · left; exact Int.one_mul _
  · right; left; exact Int.zero_mul _
  · right; right; rw [Int.neg_mul, Int.one_mul]
theorem mapp_lim {m : Mat4} (h : Pm m) (v : V) : (mapp m v).1.natAbs ≤ v.1.natAbs + v.2.natAbs ∧ (mapp m v).2.natAbs ≤ v.1.natAbs + v.2.natAbs := by
  have ha := unit_mul (x := v.1) h.a
  have hb := unit_mul (x := v.2) h.b
  have hc := unit_mul (x := v.1) h.c
  have hd := unit_mul (x := v.2) h.d
  unfold mapp
  dsimp only
  generalize m.1 * v.1 = p at *
  generalize m.2.1 * v.2 = q at *
  generalize m.2.2.1 * v.1 = r at *
  generalize m.2.2.2 * v.2 = s at *
  omega
theorem det_mapp (m : Mat4) (u v : V) : det2 (mapp m u) (mapp m v) = mdet m * det2 u v := by
  obtain ⟨a, b, c, d⟩ := m
  obtain ⟨x, y⟩ := u
  obtain ⟨z, w⟩ := v
  unfold det2 mapp mdet
  dsimp only
  simp only [Int.mul_add, Int.add_mul, Int.mul_sub, Int.sub_mul, Int.mul_assoc, Int.mul_comm, Int.mul_left_comm]
  omega
theorem two_img {l : Lat} (hl : isLat l = true) {m : Mat4} (hm : Pm m) : Two (mapp m (l.1, 0)) (mapp m l.2) ∧ ((det2 (mapp m (l.1, 0)) (mapp m l.2)).natAbs : Int) = l.1 * l.2.2 := by
  obtain ⟨⟨a1, a2⟩, ⟨c1, c2⟩, ⟨b1, b2⟩, hp⟩ := isLat_iff.1 hl
  have h1 := mapp_lim hm (l.1, 0)
  have h2 := mapp_lim hm l.2
  dsimp only at h1
  have hd : det2 (l.1, 0) l.2 = l.1 * l.2.2 := by unfold det2; simp
  have hpos : 1 ≤ l.1 * l.2.2 := by
    have := Int.mul_le_mul a1 c1 (by omega) (by omega)
    omega
  have hn : (det2 (mapp m (l.1, 0)) (mapp m l.2)).natAbs = (l.1 * l.2.2).natAbs := by
    rw [det_mapp, hd, Int.natAbs_mul]
    rcases hm.det with h | h <;> rw [h] <;> simp
  refine ⟨⟨by unfold Vm; omega, by unfold Vm; omega, ?_, by omega⟩, by omega⟩
  intro h0
  rw [h0] at hn
  simp only [Int.natAbs_zero] at hn
  omega
theorem stable_iff {l : Lat} (hl : isLat l = true) {m : Mat4} (hm : Pm m) : imgOf (mapp m (l.1, 0)) (mapp m l.2) = l ↔ red l (mapp m (l.1, 0)) = (0, 0) ∧ red l (mapp m l.2) = (0, 0) := by
  obtain ⟨h1, h2⟩ := two_img hl hm
  rw [img_eq_iff hl h1 h2, inL_iff hl, inL_iff hl]
theorem sets_get {β : Type} (f : Nat → β) : ∀ (ks : List Nat) (xs : List β) (j : Nat), j < xs.length → (∀ k ∈ ks, k < xs.length) →
    (ks.foldl (fun s k => s.set k (f k)) xs)[j]? = if j ∈ ks then some (f j) else xs[j]?
  | [], xs, j, hj, _ => by simp
  | k :: r, xs, j, hj, h => by
    rw [List.foldl_cons, sets_get f r _ j (by rw [List.length_set]; exact hj) (fun i hi => by rw [List.length_set]; exact h i (List.mem_cons_of_mem _ hi))]
    by_cases h1 : j ∈ r
    · rw [if_pos h1, if_pos (List.mem_cons_of_mem _ h1)]
    · rw [if_neg h1]
      by_cases h2 : k = j
      · subst h2
        rw [if_pos (List.mem_cons_self ..), List.getElem?_set_self hj]
      · rw [List.getElem?_set_ne h2, if_neg]
        intro h3
        rcases List.mem_cons.1 h3 with h4 | h4
        · exact h2 h4.symm
        · exact h1 h4
theorem sets_len {β : Type} (f : Nat → β) : ∀ (ks : List Nat) (xs : List β), (ks.foldl (fun s k => s.set k (f k)) xs).length = xs.length
  | [], xs => rfl
  | k :: r, xs => by rw [List.foldl_cons, sets_len f r, List.length_set]
theorem loop_sets {β R : Type} {L : List β → Int → Option R} (n m : Nat) (ix : Nat → Nat) (f : Nat → β) (s0 : List β) (h0 : s0.length = m)
    (hi : ∀ k, k < n → ix k < m) (hj : ∀ j, j < m → ∃ k, k < n ∧ ix k = j)
    (hs : ∀ (k : Nat) (s : List β), k < n → s.length = m → L s (k : Int) = L (s.set (ix k) (f (ix k))) ((k + 1 : Nat) : Int)) :
    L s0 0 = L ((List.range m).map f) (n : Int) := by
  have h : ∀ (d k : Nat) (s : List β), k + d = n → s.length = m → L s (k : Int) = L (((List.range' k d).map ix).foldl (fun s k => s.set k (f k)) s) (n : Int) := by
    intro d
    induction d with
    | zero => intro k s hk _; rw [show k = n by omega]; rfl
    | succ d ih =>
      intro k s hk hl
      rw [hs k s (by omega) hl, List.range'_succ, List.map_cons, List.foldl_cons]
      exact ih (k + 1) _ (by omega) (by rw [List.length_set]; exact hl)
  have := h n 0 s0 (by omega) h0
  rw [show ((0 : Nat) : Int) = 0 from rfl] at this
  rw [this]
  congr 1
  apply List.ext_getElem?
  intro j
  by_cases hjm : j < m
  · rw [sets_get f _ _ j (by omega) (fun k hk => by
      obtain ⟨i, hi1, rfl⟩ := List.mem_map.1 hk
      rw [List.mem_range'_1] at hi1
      rw [h0]; exact hi i (by omega))]
    obtain ⟨k, hk, e⟩ := hj j hjm
    rw [if_pos (List.mem_map.2 ⟨k, by rw [List.mem_range'_1]; omega, e⟩), List.getElem?_map, List.getElem?_range hjm]
    rfl
  · rw [List.getElem?_eq_none (by rw [sets_len]; omega), List.getElem?_eq_none (by simp; omega)]
/-! ### Matrices that lead back -/
def minv (m : Mat4) : Mat4 := (mdet m * m.2.2.2, -(mdet m) * m.2.1, -(mdet m) * m.2.2.1, mdet m * m.1)
theorem mapp_lin (m : Mat4) (i j : Int) (u v : V) : mapp m (i * u.1 + j * v.1, i * u.2 + j * v.2) = (i * (mapp m u).1 + j * (mapp m v).1, i * (mapp m u).2 + j * (mapp m v).2) := by
  obtain ⟨a, b, c, d⟩ := m
  obtain ⟨x, y⟩ := u
  obtain ⟨z, w⟩ := v
  unfold mapp
  dsimp only
  rw [Prod.mk.injEq]
  simp only [Int.mul_add, Int.add_mul, Int.mul_assoc, Int.mul_comm, Int.mul_left_comm]
  omega
theorem minv_left {m : Mat4} (h : mdet m = 1 ∨ mdet m = -1) (v : V) : mapp (minv m) (mapp m v) = v := by
  obtain ⟨a, b, c, d⟩ := m
  obtain ⟨x, y⟩ := v
  unfold mapp minv
  dsimp only
  unfold mdet at h ⊢
  dsimp only at h ⊢
  rw [Prod.mk.injEq]
  have h1 : (a * d - b * c) * x = a * d * x - b * c * x := Int.sub_mul ..
  have h2 : (a * d - b * c) * y = a * d * y - b * c * y := Int.sub_mul ..
  rcases h with h | h <;> rw [h] at h1 h2 ⊢ <;> simp only [Int.one_mul, Int.mul_one, Int.neg_mul, Int.mul_neg, Int.neg_neg, Int.mul_add, Int.add_mul, Int.mul_assoc, Int.mul_comm, Int.mul_left_comm] at h1 h2 ⊢ <;> omega
theorem minv_right {m : Mat4} (h : mdet m = 1 ∨ mdet m = -1) (v : V) : mapp m (mapp (minv m) v) = v := by
  obtain ⟨a, b, c, d⟩ := m
  obtain ⟨x, y⟩ := v
  unfold mapp minv
  dsimp only
  unfold mdet at h ⊢
  dsimp only at h ⊢
  rw [Prod.mk.injEq]
  have h1 : (a * d - b * c) * x = a * d * x - b * c * x := Int.sub_mul ..
  have h2 : (a * d - b * c) * y = a * d * y - b * c * y := Int.sub_mul ..
  rcases h with h | h <;> rw [h] at h1 h2 ⊢ <;> simp only [Int.one_mul, Int.mul_one, Int.neg_mul, Int.mul_neg, Int.neg_neg, Int.mul_add, Int.add_mul, Int.mul_assoc, Int.mul_comm, Int.mul_left_comm] at h1 h2 ⊢ <;> omega
theorem minv_pm {m : Mat4} (h : Pm m) : Pm (minv m) := by
  obtain ⟨ha, hb, hc, hd, he⟩ := h
  have hdet : mdet (minv m) = mdet m := by
    have e : mdet (minv m) = mdet m * mdet m * mdet m := by
      obtain ⟨a, b, c, d⟩ := m
      unfold minv
      dsimp only
      generalize hk : mdet (a, b, c, d) = k
      have : k = a * d - b * c := by rw [← hk]; rfl
      have h1 : k * d * (k * a) = k * k * (a * d) := by simp only [Int.mul_assoc, Int.mul_comm, Int.mul_left_comm]
      have h2 : -k * b * (-k * c) = k * k * (b * c) := by simp only [Int.neg_mul, Int.mul_neg, Int.neg_neg, Int.mul_assoc, Int.mul_comm, Int.mul_left_comm]
      show k * d * (k * a) - -k * b * (-k * c) = k * k * k
      rw [h1, h2, ← Int.mul_sub, ← this]
    rw [e]
    rcases he with h | h <;> rw [h] <;> rfl
  refine ⟨?_, ?_, ?_, ?_, by rw [hdet]; exact he⟩
  all_goals
    unfold minv Unit1 at *
    dsimp only
    rcases he with h | h <;> rw [h] <;> omega
theorem inL_mapp {l : Lat} (hl : isLat l = true) {m : Mat4} (hm : Pm m) (w : V) : InL (imgOf (mapp m (l.1, 0)) (mapp m l.2)) (mapp m w) ↔ InL l w := by
  rw [inL_img (two_img hl hm).1]
  constructor
  · rintro ⟨i, j, h1, h2⟩
    have e : mapp m w = mapp m (i * (l.1, (0 : Int)).1 + j * l.2.1, i * (l.1, (0 : Int)).2 + j * l.2.2) := by
      rw [mapp_lin m i j (l.1, 0) l.2, Prod.ext_iff]
      exact ⟨h1, h2⟩
    have e2 := congrArg (mapp (minv m)) e
    rw [minv_left hm.det, minv_left hm.det] at e2
    rw [e2]
    exact ⟨i, j, rfl, by simp⟩
  · rintro ⟨i, j, h1, h2⟩
    refine ⟨i, j, ?_⟩
    have e : w = (i * (l.1, (0 : Int)).1 + j * l.2.1, i * (l.1, (0 : Int)).2 + j * l.2.2) := by
      rw [Prod.ext_iff]
      exact ⟨h1, by simpa using h2⟩
    rw [e, mapp_lin m i j (l.1, 0) l.2]
    exact ⟨rfl, rfl⟩
theorem inL_minv {l : Lat} (hl : isLat l = true) {m : Mat4} (hm : Pm m) (w : V) : InL (imgOf (mapp m (l.1, 0)) (mapp m l.2)) w ↔ InL l (mapp (minv m) w) := by
  rw [← inL_mapp hl hm, minv_right hm.det]
theorem mapp_sub (m : Mat4) (u v : V) : mapp m (vsub u v) = vsub (mapp m u) (mapp m v) := by
  obtain ⟨a, b, c, d⟩ := m
  obtain ⟨x, y⟩ := u
  obtain ⟨z, w⟩ := v
  unfold mapp vsub
  dsimp only
  rw [Prod.mk.injEq]
  simp only [Int.mul_sub]
  omega
/-! ### Moving -/
def imgL (m : Mat4) (l : Lat) : Lat := imgOf (mapp m (l.1, 0)) (mapp m l.2)
theorem isLat_imgL {l : Lat} (hl : isLat l = true) {m : Mat4} (hm : Pm m) : isLat (imgL m l) = true ∧ (cells (imgL m l)).length = (cells l).length := by
  have h2 := two_img hl hm
  have h3 := isLat_img h2.1
  have c1 := cells_len' h3.1
  have c2 := cells_len' hl
  refine ⟨h3.1, ?_⟩
  have : ((cells (imgL m l)).length : Int) = (cells l).length := by
    rw [show ((cells (imgL m l)).length : Int) = _ from c1.1, c2.1, ← h2.2]
    exact h3.2
  omega
def movedC (p : Pat) (m : Mat4) (t : V) (y : V) : Int := patAt p (mapp (minv m) (vsub y t))
def moved (p : Pat) (m : Mat4) (t : V) : Pat := (p.1, imgL m p.2.1, (cells (imgL m p.2.1)).map (movedC p m t))
theorem patAt_congr {p : Pat} {u v : V} (h : red p.2.1 u = red p.2.1 v) : patAt p u = patAt p v := by
  unfold patAt num
  rw [h]
def movedIx (l : Lat) (m : Mat4) (t : V) (x : V) : Nat := num (imgL m l) (vadd (mapp m x) t)
theorem moved_at {p : Pat} (hp : isPat p = true) {m : Mat4} (hm : Pm m) (t : V) {i : Nat} (hi : i < (cells p.2.1).length) :
    ∃ h : movedIx p.2.1 m t (cells p.2.1)[i] < (cells (imgL m p.2.1)).length, movedC p m t (cells (imgL m p.2.1))[movedIx p.2.1 m t (cells p.2.1)[i]] = patAt p (cells p.2.1)[i] := by
  have hl := (isPat_iff.1 hp).2.1
  have hl' := (isLat_imgL hl hm).1
  obtain ⟨h1, h2⟩ := cells_num hl' (vadd (mapp m (cells p.2.1)[i]) t)
  refine ⟨h1, ?_⟩
  unfold movedIx
  rw [h2]
  unfold movedC
  apply patAt_congr
  rw [red_eq_iff hl]
  have h3 := red_in hl' (vadd (mapp m (cells p.2.1)[i]) t)
  have h4 := (inL_minv hl hm _).1 h3
  have h5 := h4.lin h4 (-1) 0
  have e : vsub (mapp (minv m) (vsub (red (imgL m p.2.1) (vadd (mapp m (cells p.2.1)[i]) t)) t)) (cells p.2.1)[i] = (-1 * (mapp (minv m) (vsub (vadd (mapp m (cells p.2.1)[i]) t) (red (imgL m p.2.1) (vadd (mapp m (cells p.2.1)[i]) t)))).1 + 0 * (mapp (minv m) (vsub (vadd (mapp m (cells p.2.1)[i]) t) (red (imgL m p.2.1) (vadd (mapp m (cells p.2.1)[i]) t)))).1, -1 * (mapp (minv m) (vsub (vadd (mapp m (cells p.2.1)[i]) t) (red (imgL m p.2.1) (vadd (mapp m (cells p.2.1)[i]) t)))).2 + 0 * (mapp (minv m) (vsub (vadd (mapp m (cells p.2.1)[i]) t) (red (imgL m p.2.1) (vadd (mapp m (cells p.2.1)[i]) t)))).2) := by
    generalize red (imgL m p.2.1) (vadd (mapp m (cells p.2.1)[i]) t) = y
    generalize (cells p.2.1)[i] = x
    have hx : x = mapp (minv m) (mapp m x) := (minv_left hm.det x).symm
    have q1 := mapp_sub (minv m) (vsub y t) (mapp m x)
    have q2 := mapp_sub (minv m) (vadd (mapp m x) t) y
    rw [← hx] at q1
    rw [← q1, ← mapp_lin (minv m) (-1) 0 (vsub (vadd (mapp m x) t) y) (vsub (vadd (mapp m x) t) y)]
    congr 1
    unfold vsub vadd
    dsimp only
    rw [Prod.mk.injEq]
    omega
  rw [e]
  exact h5
theorem moved_onto {l : Lat} (hl : isLat l = true) {m : Mat4} (hm : Pm m) (t : V) {j : Nat} (hj : j < (cells (imgL m l)).length) :
    ∃ i, ∃ h : i < (cells l).length, movedIx l m t (cells l)[i] = j := by
  have hl' := (isLat_imgL hl hm).1
  obtain ⟨h1, h2⟩ := cells_num hl (mapp (minv m) (vsub (cells (imgL m l))[j] t))
  refine ⟨_, h1, ?_⟩
  rw [h2]
  have h3 := num_cell hl' hj
  unfold movedIx
  refine Eq.trans ?_ h3
  generalize (cells (imgL m l))[j] = y
  have hr : red (imgL m l) (vadd (mapp m (red l (mapp (minv m) (vsub y t)))) t) = red (imgL m l) y := by
    rw [red_eq_iff hl']
    have h4 := red_in hl (mapp (minv m) (vsub y t))
    have h5 := (inL_mapp hl hm _).2 h4
    rw [mapp_sub, minv_right hm.det] at h5
    have h6 := h5.lin h5 (-1) 0
    generalize mapp m (red l (mapp (minv m) (vsub y t))) = z at *
    unfold vsub vadd at *
    dsimp only at *
    have e1 : -1 * (y.1 - t.1 - z.1) + 0 * (y.1 - t.1 - z.1) = z.1 + t.1 - y.1 := by omega
    have e2 : -1 * (y.2 - t.2 - z.2) + 0 * (y.2 - t.2 - z.2) = z.2 + t.2 - y.2 := by omega
    rw [e1, e2] at h6
    exact h6
  unfold num
  rw [hr]
theorem sq_nonneg (x : Int) : 0 ≤ x * x := by
  rcases Int.le_total 0 x with h | h
  · exact Int.mul_nonneg h h
  · have := Int.mul_nonneg (show 0 ≤ -x by omega) (show 0 ≤ -x by omega)
    rwa [Int.neg_mul_neg] at this
theorem sq_ge {x : Int} (h : 2 ≤ x.natAbs) : 4 ≤ x * x := by
  rcases Int.le_total 0 x with h1 | h1
  · exact Int.mul_le_mul (show 2 ≤ x by omega) (show 2 ≤ x by omega) (by omega) (by omega)
  · have := Int.mul_le_mul (show 2 ≤ -x by omega) (show 2 ≤ -x by omega) (by omega) (by omega)
    rw [Int.neg_mul_neg] at this
    omega
theorem sq_two (x y : Int) : (2 * x + y) * (2 * x + y) = 4 * (x * x) + 4 * (x * y) + y * y := by
  have h1 : 2 * x * (2 * x) = 4 * (x * x) := by rw [Int.mul_assoc, Int.mul_left_comm x 2 x]; omega
  have h2 : y * (2 * x) = 2 * (x * y) := by rw [Int.mul_left_comm, Int.mul_comm y x]
  have h3 : 2 * x * y = 2 * (x * y) := Int.mul_assoc ..
  rw [Int.mul_add, Int.add_mul, Int.add_mul, h1, h2, h3]
  omega
def normV (f : Int) (v : V) : Int := v.1 * v.1 + f * v.1 * v.2 + v.2 * v.2
theorem norm_unit {f : Int} (hf : f = 0 ∨ f = 1) {v : V} (h : normV f v = 1) : Unit1 v.1 ∧ Unit1 v.2 := by
  obtain ⟨x, y⟩ := v
  unfold normV at h
  dsimp only at h ⊢
  have hx := sq_nonneg x
  have hy := sq_nonneg y
  rcases hf with h0 | h0 <;> subst h0
  · rw [Int.zero_mul, Int.zero_mul] at h
    constructor
    · by_cases hh : 2 ≤ x.natAbs
      · have := sq_ge hh; omega
      · unfold Unit1; omega
    · by_cases hh : 2 ≤ y.natAbs
      · have := sq_ge hh; omega
      · unfold Unit1; omega
  · rw [Int.one_mul] at h
    have e1 := sq_two x y
    have e2 := sq_two y x
    rw [Int.mul_comm y x] at e2
    have n1 := sq_nonneg (2 * x + y)
    have n2 := sq_nonneg (2 * y + x)
    constructor
    · by_cases hh : 2 ≤ x.natAbs
      · have := sq_ge hh; omega
      · unfold Unit1; omega
    · by_cases hh : 2 ≤ y.natAbs
      · have := sq_ge hh; omega
      · unfold Unit1; omega
def pmB (f : Int) (m : Mat4) : Bool := decide (normV f (m.1, m.2.2.1) = 1) && decide (normV f (m.2.1, m.2.2.2) = 1) && decide (normV f (m.1 + m.2.1, m.2.2.1 + m.2.2.2) = 2 + f)
def dec81 (k : Nat) : Mat4 := ((k : Int) / 27 - 1, (k : Int) / 9 % 3 - 1, (k : Int) / 3 % 3 - 1, (k : Int) % 3 - 1)
def pmats (f : Int) : List Mat4 := ((List.range 81).map dec81).filter (pmB f)
theorem pmB_unit {f : Int} (hf : f = 0 ∨ f = 1) {m : Mat4} (h : pmB f m = true) : Unit1 m.1 ∧ Unit1 m.2.1 ∧ Unit1 m.2.2.1 ∧ Unit1 m.2.2.2 := by
  unfold pmB at h
  rw [Bool.and_eq_true, Bool.and_eq_true, decide_eq_true_iff, decide_eq_true_iff] at h
  obtain ⟨⟨h1, h2⟩, _⟩ := h
  obtain ⟨a, c⟩ := norm_unit hf h1
  obtain ⟨b, d⟩ := norm_unit hf h2
  exact ⟨a, b, c, d⟩
theorem dec81_all {m : Mat4} (h : Unit1 m.1 ∧ Unit1 m.2.1 ∧ Unit1 m.2.2.1 ∧ Unit1 m.2.2.2) : m ∈ (List.range 81).map dec81 := by
  obtain ⟨a, b, c, d⟩ := m
  unfold Unit1 at h
  dsimp only at h
  rw [List.mem_map]
  refine ⟨(27 * (a + 1) + 9 * (b + 1) + 3 * (c + 1) + (d + 1)).toNat, by rw [List.mem_range]; omega, ?_⟩
  unfold dec81
  simp only [Prod.mk.injEq]
  omega
theorem mem_pmats {f : Int} (hf : f = 0 ∨ f = 1) (m : Mat4) : m ∈ pmats f ↔ pmB f m = true := by
  unfold pmats
  rw [List.mem_filter]
  exact ⟨fun h => h.2, fun h => ⟨dec81_all (pmB_unit hf h), h⟩⟩
theorem pmats_det : ((List.range 81).map dec81).all (fun m => (!pmB 0 m && !pmB 1 m) || decide (mdet m = 1) || decide (mdet m = -1)) = true := by decide +kernel
theorem pmB_pm {f : Int} (hf : f = 0 ∨ f = 1) {m : Mat4} (h : pmB f m = true) : Pm m := by
  obtain ⟨a, b, c, d⟩ := pmB_unit hf h
  have hd := List.all_eq_true.1 pmats_det m (dec81_all ⟨a, b, c, d⟩)
  refine ⟨a, b, c, d, ?_⟩
  simp only [Bool.or_eq_true, Bool.and_eq_true, Bool.not_eq_true', decide_eq_true_iff] at hd
  rcases hd with (⟨h0, h1⟩ | h1) | h1
  · rcases hf with e | e <;> subst e
    · rw [h0] at h; cases h
    · rw [h1] at h; cases h
  · exact .inl h1
  · exact .inr h1
theorem isFrame_iff {f : Int} : isFrame f = true ↔ f = 0 ∨ f = 1 := by
  unfold isFrame
  rw [within_iff]
  omega
/-! ### The machine's numbers -/
def Ss (v : V) : Prop := v.1.natAbs ≤ 68719476736 ∧ v.2.natAbs ≤ 68719476736
theorem isVec_ss {v : V} (h : isVec v = true) : Ss v := by
  simp only [isVec, Bool.and_eq_true, within_iff] at h
  unfold Ss
  omega
theorem wmapp {m : Mat4} (hm : Pm m) {v : V} (hv : Ss v) : (IntKind.i64.wrap (IntKind.i64.wrap (m.1 * v.1) + IntKind.i64.wrap (m.2.1 * v.2)), IntKind.i64.wrap (IntKind.i64.wrap (m.2.2.1 * v.1) + IntKind.i64.wrap (m.2.2.2 * v.2))) = mapp m v := by
  obtain ⟨v1, v2⟩ := hv
  have ha := unit_mul (x := v.1) hm.a
  have hb := unit_mul (x := v.2) hm.b
  have hc := unit_mul (x := v.1) hm.c
  have hd := unit_mul (x := v.2) hm.d
  unfold mapp
  generalize m.1 * v.1 = p at *
  generalize m.2.1 * v.2 = q at *
  generalize m.2.2.1 * v.1 = r at *
  generalize m.2.2.2 * v.2 = s at *
  rw [w64 (x := p) (by omega) (by omega), w64 (x := q) (by omega) (by omega), w64 (x := r) (by omega) (by omega), w64 (x := s) (by omega) (by omega), w64 (x := p + q) (by omega) (by omega), w64 (x := r + s) (by omega) (by omega)]
theorem wap_pm {m : Mat4} (hm : Pm m) {v t : V} (hv : Ss v) (ht : Ss t) : wap (m, t) v = vadd (mapp m v) t ∧ Sm (wap (m, t) v) := by
  have hl := mapp_lim hm v
  obtain ⟨v1, v2⟩ := hv
  obtain ⟨t1, t2⟩ := ht
  have e : wap (m, t) v = vadd (mapp m v) t := by
    unfold wap
    rw [show (IntKind.i64.wrap (IntKind.i64.wrap (m.1 * v.1) + IntKind.i64.wrap (m.2.1 * v.2)), IntKind.i64.wrap (IntKind.i64.wrap (m.2.2.1 * v.1) + IntKind.i64.wrap (m.2.2.2 * v.2))) = mapp m v from wmapp hm ⟨v1, v2⟩]
    exact wadd_v (by unfold Sm; omega) (by unfold Sm; dsimp only; omega)
  refine ⟨e, ?_⟩
  rw [e]
  unfold vadd Sm
  dsimp only
  omega
theorem cells_ss {l : Lat} (h : isLat l = true) {v : V} (hv : v ∈ cells l) : Ss v := by
  obtain ⟨⟨a1, a2⟩, ⟨c1, c2⟩, _⟩ := isLat_iff.1 h
  have h1 := mem_cells.1 hv
  unfold Ss
  omega
theorem patAt_moved {p : Pat} (hp : isPat p = true) {m : Mat4} (hm : Pm m) (t y : V) : patAt (moved p m t) y = patAt p (mapp (minv m) (vsub y t)) := by
  have hl := (isPat_iff.1 hp).2.1
  have hl' := (isLat_imgL hl hm).1
  obtain ⟨h1, h2⟩ := cells_num hl' y
  unfold patAt
  show ((cells (imgL m p.2.1)).map (movedC p m t)).getD (num (imgL m p.2.1) y) 0 = _
  rw [List.getD_eq_getElem?_getD, List.getElem?_map, List.getElem?_eq_getElem h1, h2]
  show movedC p m t (red (imgL m p.2.1) y) = patAt p (mapp (minv m) (vsub y t))
  unfold movedC
  apply patAt_congr
  rw [red_eq_iff hl, ← mapp_sub]
  have h3 := red_in hl' y
  have h4 := ((inL_minv hl hm _).1 h3).lin ((inL_minv hl hm _).1 h3) (-1) 0
  rw [← mapp_lin (minv m) (-1) 0 (vsub y (red (imgL m p.2.1) y)) (vsub y (red (imgL m p.2.1) y))] at h4
  have e : vsub (vsub (red (imgL m p.2.1) y) t) (vsub y t) = (-1 * (vsub y (red (imgL m p.2.1) y)).1 + 0 * (vsub y (red (imgL m p.2.1) y)).1, -1 * (vsub y (red (imgL m p.2.1) y)).2 + 0 * (vsub y (red (imgL m p.2.1) y)).2) := by
    generalize red (imgL m p.2.1) y = z
    unfold vsub
    dsimp only
    rw [Prod.mk.injEq]
    omega
  rw [e]
  exact h4
theorem isPat_moved {p : Pat} (hp : isPat p = true) {m : Mat4} (hm : Pm m) (t : V) : isPat (moved p m t) = true := by
  obtain ⟨p1, p2, p3, p4⟩ := isPat_iff.1 hp
  have hl' := (isLat_imgL p2 hm).1
  rw [isPat_iff]
  refine ⟨p1, hl', ?_, ?_⟩
  · show (((cells (imgL m p.2.1)).map (movedC p m t)).length : Int) = _
    rw [List.length_map]; exact (cells_len' hl').1
  · show ((cells (imgL m p.2.1)).map (movedC p m t)).all (within · 0 9) = true
    rw [List.all_eq_true]
    intro c hc
    obtain ⟨v, _, rfl⟩ := List.mem_map.1 hc
    have hr := patAt_rd hp (mapp (minv m) (vsub v t))
    rw [rd_nat] at hr
    exact List.all_eq_true.1 p4 _ (List.mem_of_getElem? hr)
def m1 : Mat4 := (1, 0, 0, 1)
theorem pm_unit : Pm m1 := ⟨by unfold Unit1 m1; decide, by unfold Unit1 m1; decide, by unfold Unit1 m1; decide, by unfold Unit1 m1; decide, .inl (by decide)⟩
theorem mapp_unit (v : V) : mapp m1 v = v := by
  obtain ⟨x, y⟩ := v
  unfold mapp m1
  simp
theorem minv_unit : minv m1 = m1 := by decide
theorem imgL_unit {l : Lat} (hl : isLat l = true) : imgL m1 l = l := by
  unfold imgL
  rw [stable_iff hl pm_unit, mapp_unit, mapp_unit, inL_iff hl, inL_iff hl]
  exact ⟨InL.fst l, InL.snd l⟩
theorem moved_shift {p : Pat} (hp : isPat p = true) {m : Mat4} (hm : Pm m) (t : V) : moved (moved p m (0, 0)) m1 t = moved p m t := by
  have hl := (isPat_iff.1 hp).2.1
  have hl' := (isLat_imgL hl hm).1
  show (p.1, imgL m1 (imgL m p.2.1), (cells (imgL m1 (imgL m p.2.1))).map (movedC (moved p m (0, 0)) m1 t)) = (p.1, imgL m p.2.1, (cells (imgL m p.2.1)).map (movedC p m t))
  rw [imgL_unit hl']
  congr 2
  apply List.map_congr_left
  intro y _
  show patAt (moved p m (0, 0)) (mapp (minv m1) (vsub y t)) = patAt p (mapp (minv m) (vsub y t))
  rw [patAt_moved hp hm, minv_unit, mapp_unit]
  unfold vsub
  simp
theorem moved_congr {p : Pat} (hp : isPat p = true) {m : Mat4} (hm : Pm m) {t u : V} (h : InL (imgL m p.2.1) (vsub t u)) : moved p m t = moved p m u := by
  have hl := (isPat_iff.1 hp).2.1
  unfold moved
  congr 2
  apply List.map_congr_left
  intro y _
  unfold movedC
  apply patAt_congr
  rw [red_eq_iff hl, ← mapp_sub, ← inL_minv hl hm]
  have h4 := h.lin h (-1) 0
  have e : vsub (vsub y t) (vsub y u) = (-1 * (vsub t u).1 + 0 * (vsub t u).1, -1 * (vsub t u).2 + 0 * (vsub t u).2) := by
    unfold vsub
    dsimp only
    rw [Prod.mk.injEq]
    omega
  rw [e]
  exact h4
/-! ### Orders -/
def lexB : List Int → List Int → Bool
  | [], [] => false
  | [], _ :: _ => true
  | _ :: _, [] => false
  | a :: r, b :: s => if a = b then lexB r s else decide (a < b)
theorem lexB_irr : ∀ a : List Int, lexB a a = false
  | [] => rfl
  | a :: r => by rw [lexB, if_pos rfl]; exact lexB_irr r
theorem lexB_trans : ∀ a b c : List Int, lexB a b = true → lexB b c = true → lexB a c = true
  | [], [], _, h, _ => by cases h
  | [], _ :: _, [], _, h => by cases h
  | [], _ :: _, _ :: _, _, _ => rfl
  | _ :: _, [], _, h, _ => by cases h
  | _ :: _, _ :: _, [], _, h => by cases h
  | a :: r, b :: s, c :: t, h1, h2 => by
    rw [lexB] at h1 h2 ⊢
    by_cases e1 : a = b
    · subst e1
      rw [if_pos rfl] at h1
      by_cases e2 : a = c
      · subst e2
        rw [if_pos rfl] at h2 ⊢
        exact lexB_trans r s t h1 h2
      · rw [if_neg e2] at h2 ⊢
        exact h2
    · rw [if_neg e1] at h1
      have h1' := of_decide_eq_true h1
      by_cases e2 : b = c
      · subst e2
        rw [if_neg e1]; exact h1
      · rw [if_neg e2] at h2
        have h2' := of_decide_eq_true h2
        rw [if_neg (by omega)]
        exact decide_eq_true (by omega)
theorem lexB_total : ∀ a b : List Int, lexB a b = false → lexB b a = false → a = b
  | [], [], _, _ => rfl
  | [], _ :: _, h, _ => by cases h
  | _ :: _, [], _, h => by cases h
  | a :: r, b :: s, h1, h2 => by
    rw [lexB] at h1 h2
    by_cases e : a = b
    · subst e
      rw [if_pos rfl] at h1 h2
      rw [lexB_total r s h1 h2]
    · rw [if_neg e] at h1
      rw [if_neg (fun h => e h.symm)] at h2
      have h1' := of_decide_eq_false h1
      have h2' := of_decide_eq_false h2
      omega
def keyP (p : Pat) : List Int := p.1 :: p.2.1.1 :: p.2.1.2.1 :: p.2.1.2.2 :: p.2.2
theorem keyP_inj {p q : Pat} (h : keyP p = keyP q) : p = q := by
  obtain ⟨f, ⟨a, b, c⟩, xs⟩ := p
  obtain ⟨f', ⟨a', b', c'⟩, ys⟩ := q
  unfold keyP at h
  simp only [List.cons.injEq] at h
  obtain ⟨h1, h2, h3, h4, h5⟩ := h
  subst h1 h2 h3 h4 h5
  rfl
def ltP (p q : Pat) : Bool := lexB (keyP p) (keyP q)
def minP (b : Pat) (xs : List Pat) : Pat := xs.foldl (fun b x => if ltP x b = true then x else b) b
theorem minP_mem : ∀ (xs : List Pat) (b : Pat), minP b xs ∈ b :: xs
  | [], b => List.mem_cons_self ..
  | x :: r, b => by
    show minP (if ltP x b = true then x else b) r ∈ _
    have := minP_mem r (if ltP x b = true then x else b)
    rcases List.mem_cons.1 this with h | h
    · rw [h]
      split
      · exact List.mem_cons_of_mem _ (List.mem_cons_self ..)
      · exact List.mem_cons_self ..
    · exact List.mem_cons_of_mem _ (List.mem_cons_of_mem _ h)
theorem ltP_trans {p q r : Pat} (h1 : ltP p q = true) (h2 : ltP q r = true) : ltP p r = true := lexB_trans _ _ _ h1 h2
theorem minP_le : ∀ (xs : List Pat) (b : Pat), ∀ x ∈ b :: xs, ltP x (minP b xs) = false
  | [], b, x, hx => by
    rw [List.mem_singleton.1 hx]
    exact lexB_irr _
  | y :: r, b, x, hx => by
    show ltP x (minP (if ltP y b = true then y else b) r) = false
    have ih := minP_le r (if ltP y b = true then y else b)
    have hb := ih _ (List.mem_cons_self ..)
    rcases List.mem_cons.1 hx with h | h
    · subst h
      by_cases hy : ltP y x = true
      · rw [if_pos hy] at hb ⊢
        cases hc : ltP x (minP y r) with
        | false => rfl
        | true =>
          have := ltP_trans hy hc
          rw [hb] at this; cases this
      · rw [if_neg hy] at hb ⊢
        exact hb
    · rcases List.mem_cons.1 h with h | h
      · subst h
        by_cases hy : ltP x b = true
        · rw [if_pos hy] at hb ⊢
          exact hb
        · rw [if_neg hy] at hb ⊢
          cases hc : ltP x (minP b r) with
          | false => rfl
          | true =>
            exfalso
            cases hd : ltP b x with
            | true =>
              have := ltP_trans hd hc
              rw [hb] at this; cases this
            | false =>
              have hy' : ltP x b = false := by simpa using hy
              have e := keyP_inj (lexB_total _ _ hd hy')
              rw [← e, hb] at hc; cases hc
      · exact ih x (List.mem_cons_of_mem _ h)
theorem minP_eq {b c : Pat} {xs ys : List Pat} (h1 : ∀ x ∈ b :: xs, x ∈ c :: ys) (h2 : ∀ x ∈ c :: ys, x ∈ b :: xs) : minP b xs = minP c ys :=
  keyP_inj (lexB_total _ _ (minP_le ys c _ (h1 _ (minP_mem xs b))) (minP_le xs b _ (h2 _ (minP_mem ys c))))
/-! ### All images -/
def imgs1 (q : Pat) (ms : List Mat4) : List Pat := ms.flatMap fun m => (cells q.2.1).map fun x => moved q m (mapp m x)
def imgs2 (q : Pat) (ms : List Mat4) : List Pat := ms.flatMap fun m => (cells (imgL m q.2.1)).map fun t => moved q m t
theorem imgs_mem {q : Pat} (hq : isPat q = true) {ms : List Mat4} (hm : ∀ m ∈ ms, Pm m) (x : Pat) : x ∈ imgs1 q ms ↔ x ∈ imgs2 q ms := by
  have hl := (isPat_iff.1 hq).2.1
  unfold imgs1 imgs2
  simp only [List.mem_flatMap, List.mem_map]
  constructor
  · rintro ⟨m, h1, c, h2, rfl⟩
    refine ⟨m, h1, red (imgL m q.2.1) (mapp m c), red_mem (isLat_imgL hl (hm m h1)).1 _, ?_⟩
    symm
    exact moved_congr hq (hm m h1) (red_in (isLat_imgL hl (hm m h1)).1 _)
  · rintro ⟨m, h1, t, h2, rfl⟩
    refine ⟨m, h1, red q.2.1 (mapp (minv m) t), red_mem hl _, ?_⟩
    symm
    apply moved_congr hq (hm m h1)
    have h3 := (inL_mapp hl (hm m h1) _).2 (red_in hl (mapp (minv m) t))
    rw [mapp_sub, minv_right (hm m h1).det] at h3
    exact h3
def Sv (v : V) : Prop := v.1.natAbs ≤ 1073741824 ∧ v.2.natAbs ≤ 1073741824
theorem isVec_sv {v : V} (h : isVec v = true) : Sv v := by
  simp only [isVec, Bool.and_eq_true, within_iff] at h
  unfold Sv
  omega
theorem Sv.ss {v : V} (h : Sv v) : Ss v := by
  unfold Sv at h
  unfold Ss
  omega
theorem spec_l02Apply_v {m : Mat4} (hm : Pm m) {v : V} (hv : Ss v) : spec_l02Apply m v = some (mapp m v) := by
  rw [spec_l02Apply_eq, wmapp hm hv]
theorem impl_Mat_apply_v {m : Mat4} (hm : Pm m) {v : V} (hv : Ss v) : impl_Mat_apply m v = some (mapp m v) := by
  rw [impl_Mat_apply_eq, wmapp hm hv]
theorem lat_ss {l : Lat} (h : isLat l = true) : Ss (l.1, 0) ∧ Ss l.2 := by
  obtain ⟨⟨a1, a2⟩, ⟨c1, c2⟩, ⟨b1, b2⟩, _⟩ := isLat_iff.1 h
  unfold Ss
  dsimp only
  omega
theorem spec_l04Image_v {l : Lat} (hl : isLat l = true) {m : Mat4} (hm : Pm m) : spec_l04Image m l = some (imgL m l) := by
  rw [spec_l04Image_eq, spec_l03Basis_eq]
  simp only [Option.bind_some]
  have e1 : spec_l02Apply m (([(l.1, 0), l.2] : List (Int × Int)).getD (Int.toNat 0) (dflt (.pair (.i .i64) (.i .i64)))) = some (mapp m (l.1, 0)) := spec_l02Apply_v hm (lat_ss hl).1
  have e2 : spec_l02Apply m (([(l.1, 0), l.2] : List (Int × Int)).getD (Int.toNat 1) (dflt (.pair (.i .i64) (.i .i64)))) = some (mapp m l.2) := spec_l02Apply_v hm (lat_ss hl).2
  rw [e1]
  simp only [Option.bind_some]
  rw [e2]
  simp only [Option.bind_some]
  rw [img_spec (two_img hl hm).1]
  rfl
theorem wdet {m : Mat4} (hm : Pm m) : IntKind.i64.wrap (IntKind.i64.wrap (m.1 * m.2.2.2) - IntKind.i64.wrap (m.2.1 * m.2.2.1)) = mdet m := by
  have ha := unit_mul (x := m.2.2.2) hm.a
  have hb := unit_mul (x := m.2.2.1) hm.b
  have hc := hm.c
  have hd := hm.d
  unfold Unit1 at hc hd
  unfold mdet
  generalize m.1 * m.2.2.2 = p at *
  generalize m.2.1 * m.2.2.1 = q at *
  rw [w64 (x := p) (by omega) (by omega), w64 (x := q) (by omega) (by omega), w64 (by omega) (by omega)]
theorem impl_Mat_inverse_v {m : Mat4} (hm : Pm m) : impl_Mat_inverse m = some (minv m) := by
  rw [impl_Mat_inverse_eq, impl_Mat_det_eq, wdet hm]
  have ha := hm.a
  have hb := hm.b
  have hc := hm.c
  have hd := hm.d
  unfold Unit1 at ha hb hc hd
  unfold minv
  rcases hm.det with h | h <;> rw [h] <;> simp only [Option.bind_some]
  · rw [w64 (x := 0 - 1) (by omega) (by omega), w64 (by omega) (by omega), w64 (by omega) (by omega), w64 (by omega) (by omega), w64 (by omega) (by omega)]
    rfl
  · rw [w64 (x := 0 - -1) (by omega) (by omega), w64 (by omega) (by omega), w64 (by omega) (by omega), w64 (by omega) (by omega), w64 (by omega) (by omega)]
    rfl
def vneg (v : V) : V := (-1 * v.1, -1 * v.2)
theorem impl_Motion_inverse_v {m : Mat4} (hm : Pm m) {t : V} (ht : Sv t) : impl_Motion_inverse (m, t) = some (minv m, vneg (mapp (minv m) t)) := by
  rw [impl_Motion_inverse_eq, impl_Mat_inverse_v hm]
  simp only [Option.bind_some]
  rw [impl_Mat_apply_v (minv_pm hm) ht.ss]
  simp only [Option.bind_some]
  have hl := mapp_lim (minv_pm hm) t
  unfold Sv at ht
  rw [impl_Vec_times_eq, w64 (by omega) (by omega), w64 (by omega) (by omega)]
  rfl
theorem wap_back {m : Mat4} (hm : Pm m) {t y : V} (ht : Sv t) (hy : Sv y) : wap (minv m, vneg (mapp (minv m) t)) y = mapp (minv m) (vsub y t) ∧ Sm (wap (minv m, vneg (mapp (minv m) t)) y) := by
  have hl := mapp_lim (minv_pm hm) t
  have hn : Ss (vneg (mapp (minv m) t)) := by
    unfold Sv at ht
    unfold Ss vneg
    dsimp only
    omega
  obtain ⟨h1, h2⟩ := wap_pm (minv_pm hm) hy.ss hn
  refine ⟨?_, h2⟩
  rw [h1, mapp_sub]
  unfold vadd vneg vsub
  dsimp only
  rw [Prod.mk.injEq]
  omega
theorem cells_sv {l : Lat} (h : isLat l = true) {v : V} (hv : v ∈ cells l) : Sv v := by
  obtain ⟨⟨a1, a2⟩, ⟨c1, c2⟩, _⟩ := isLat_iff.1 h
  have h1 := mem_cells.1 hv
  unfold Sv
  omega
theorem impl_Pattern_move_v (p : Pat) {m : Mat4} (t : V) (h : isPat p = true) (hm : Pm m) (ht : Sv t) : impl_Pattern_move p (m, t) = some (moved p m t) := by
  have hl := (isPat_iff.1 h).2.1
  have hl' := (isLat_imgL hl hm).1
  have hn := (cells_len' hl').2
  have hi : impl_latticeOf [mapp m (p.2.1.1, 0), mapp m p.2.1.2] = some (imgL m p.2.1) := (img_both (two_img hl hm).1).2
  rw [impl_Pattern_move_eq, impl_Lattice_basis_eq]
  simp only [Option.bind_some, impl_Mat_apply_v hm (lat_ss hl).1, impl_Mat_apply_v hm (lat_ss hl).2, hi, impl_Motion_inverse_v hm ht, impl_Lattice_cells_v _ hl']
  have key := loop_map (L := fun s k => impl_Pattern_move_l0 (cells (imgL m p.2.1)) ((cells (imgL m p.2.1)).length : Int) k p.1 p.2.1.1 p.2.1.2.1 p.2.1.2.2 p.2.2 0 0 0 0 p.1 (imgL m p.2.1).1 (imgL m p.2.1).2.1 (imgL m p.2.1).2.2 s (minv m).1 (minv m).2.1 (minv m).2.2.1 (minv m).2.2.2 (vneg (mapp (minv m) t)).1 (vneg (mapp (minv m) t)).2) (cells (imgL m p.2.1)) (movedC p m t) (fun k hk s hs => by
    have hmem : (cells (imgL m p.2.1))[k] ∈ cells (imgL m p.2.1) := List.getElem_mem hk
    obtain ⟨w1, w2⟩ := wap_back hm ht (cells_sv hl' hmem)
    show impl_Pattern_move_l0 _ _ (k : Int) _ _ _ _ _ _ _ _ _ _ _ _ _ s _ _ _ _ _ _ = _
    rw [impl_Pattern_move_l0_eq, inb hk, decide_eq_true (by omega), gd hk]
    simp only [cond_true, Option.bind_some, Option.bind_fun_some, impl_Motion_apply_v]
    have e1 : impl_Pattern_at (p.1, (p.2.1.1, p.2.1.2.1, p.2.1.2.2), p.2.2) (wap (((minv m).1, (minv m).2.1, (minv m).2.2.1, (minv m).2.2.2), (vneg (mapp (minv m) t)).1, (vneg (mapp (minv m) t)).2) (cells (imgL m p.2.1))[k]) = some (movedC p m t (cells (imgL m p.2.1))[k]) := by
      have := impl_Pattern_at_v p _ h w2
      rw [w1] at this
      unfold movedC
      rw [← this, ← w1]
    rw [e1, wnext hk (by omega)]
    simp only [Option.bind_some]
    rw [decide_eq_true (by unfold LIM; simp; omega)]
    rfl)
  rw [key]
  show Option.bind (impl_Pattern_move_l0 _ _ _ _ _ _ _ _ _ _ _ _ _ _ _ _ _ _ _ _ _ _ _) _ = _
  rw [impl_Pattern_move_l0_eq, decide_eq_false (by omega)]
  rfl
theorem range_getD {β : Type} (xs : List V) (g : V → β) (d : V) : (List.range xs.length).map (fun j => g (xs.getD j d)) = xs.map g := by
  apply List.ext_getElem?
  intro j
  by_cases hj : j < xs.length
  · rw [List.getElem?_map, List.getElem?_range hj, List.getElem?_map, List.getElem?_eq_getElem hj]
    simp [List.getD, hj]
  · rw [List.getElem?_eq_none (by simp; omega), List.getElem?_eq_none (by simp; omega)]
theorem moved_len (p : Pat) {m : Mat4} (t : V) (h : isPat p = true) (hm : Pm m) : (moved p m t).2.2.length ≤ 64 := pat_len (isPat_moved h hm t)
end Go.Proofs.YtpboclokodgnlaaGreat
