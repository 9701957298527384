/-
  Plain meanings: bounds for the lattice of a list of small vectors.
-/
import Derived.Test.YtaelaneekichkaaP13
namespace Go.Proofs.Ytaelaneekichkaa
open Ai
set_option linter.unusedSimpArgs false
set_option linter.unusedVariables false
set_option linter.unnecessarySimpa false

theorem euc_gcd : ∀ (n : Nat) (h v : V), v.2.natAbs < n → (euc n h v).1.2.natAbs = Int.gcd h.2 v.2 ∧ (euc n h v).2.2 = 0
  | 0, _, _, hn => by omega
  | n + 1, h, v, hn => by
    rw [euc]
    split
    · rename_i h0
      exact ⟨by rw [h0, Int.gcd_zero], h0⟩
    · rename_i h0
      obtain ⟨_, _, _, s4⟩ := dd_step h v h0
      have := euc_gcd n v (h.1 - Int.tdiv h.2 v.2 * v.1, h.2 - Int.tdiv h.2 v.2 * v.2) (by show (h.2 - _).natAbs < n; omega)
      refine ⟨?_, this.2⟩
      rw [this.1]
      show Int.gcd v.2 (h.2 - Int.tdiv h.2 v.2 * v.2) = _
      rw [sub_tdiv, gcd_tmod]

theorem euc_h1 : ∀ (n : Nat) (h v : V), (euc n h v).1.1.natAbs ≤ max h.1.natAbs (max v.1.natAbs (dd h v))
  | 0, h, v => by show h.1.natAbs ≤ _; omega
  | n + 1, h, v => by
    rw [euc]
    split
    · show h.1.natAbs ≤ _; omega
    · rename_i h0
      obtain ⟨s1, s2, _, _⟩ := dd_step h v h0
      have := euc_h1 n v (h.1 - Int.tdiv h.2 v.2 * v.1, h.2 - Int.tdiv h.2 v.2 * v.2)
      dsimp only at this
      omega

/-- A vector of a cell. -/
def Vs (v : V) : Prop := v.1.natAbs ≤ 64 ∧ v.2.natAbs ≤ 64

theorem dd_small {h v : V} (hv : Vs v) : dd h v ≤ 64 * h.1.natAbs + 64 * h.2.natAbs := by
  unfold dd
  have h1 := Nat.mul_le_mul_left h.1.natAbs hv.2
  have h2 := Nat.mul_le_mul_right h.2.natAbs hv.1
  omega

/-- Either the second number stays and the first does not grow, or the second halves. -/
theorem euc_step {h v : V} (hv : Vs v) (hy : h.2 ≠ 0) (hyl : h.2.natAbs ≤ 64) :
    ((euc EU h v).1.2.natAbs = h.2.natAbs ∧ (euc EU h v).1.1.natAbs ≤ max h.1.natAbs 64) ∨ (2 * (euc EU h v).1.2.natAbs ≤ h.2.natAbs ∧ (euc EU h v).1.1.natAbs ≤ 64 * h.1.natAbs + 4096) := by
  have hv2 : v.2.natAbs < EU := by have := hv.2; unfold EU; omega
  obtain ⟨g1, _⟩ := euc_gcd EU h v hv2
  by_cases hd : h.2 ∣ v.2
  · left
    have hg : Int.gcd h.2 v.2 = h.2.natAbs := Nat.gcd_eq_left (Int.natAbs_dvd_natAbs.2 hd)
    refine ⟨by omega, ?_⟩
    rw [show EU = (1048574 + 1) + 1 + 1 from rfl, euc]
    split
    · show h.1.natAbs ≤ _; omega
    · rename_i h0
      have hle : h.2.natAbs ≤ v.2.natAbs := Nat.le_of_dvd (by omega) (Int.natAbs_dvd_natAbs.2 hd)
      rw [euc]
      by_cases he : h.2.natAbs = v.2.natAbs
      · have : h.2 - Int.tdiv h.2 v.2 * v.2 = 0 := by
          rw [sub_tdiv]
          have := Int.natAbs_tmod h.2 v.2
          rw [he, Nat.mod_self] at this
          omega
        rw [if_pos this]
        have := hv.1
        show v.1.natAbs ≤ _
        omega
      · have hq : Int.tdiv h.2 v.2 = 0 := by
          have h1 : (Int.tdiv h.2 v.2).natAbs = h.2.natAbs / v.2.natAbs := Int.natAbs_tdiv h.2 v.2
          rw [Nat.div_eq_of_lt (by omega)] at h1
          omega
        rw [hq]
        simp only [Int.zero_mul, Int.sub_zero]
        rw [if_neg hy, euc]
        have : v.2 - Int.tdiv v.2 h.2 * h.2 = 0 := by
          rw [sub_tdiv, Int.tmod_eq_zero_of_dvd hd]
        rw [if_pos this]
        show h.1.natAbs ≤ _
        omega
  · right
    have hgd : Int.gcd h.2 v.2 ∣ h.2.natAbs := by
      have := Int.gcd_dvd_left (a := h.2) (b := v.2)
      exact Int.ofNat_dvd_left.1 this
    obtain ⟨q, hq⟩ := hgd
    have hne : q ≠ 1 := by
      intro h1
      rw [h1, Nat.mul_one] at hq
      apply hd
      have := Int.gcd_dvd_right (a := h.2) (b := v.2)
      rw [← hq] at this
      exact Int.natAbs_dvd.1 this
    have hq0 : q ≠ 0 := by intro h1; rw [h1] at hq; omega
    have : Int.gcd h.2 v.2 * 2 ≤ Int.gcd h.2 v.2 * q := Nat.mul_le_mul_left _ (by omega)
    have e1 := euc_h1 EU h v
    have e2 := dd_small (h := h) hv
    have := hv.1
    refine ⟨by omega, by omega⟩

/-! ### The first list -/

structure HInv (s : Int × V) : Prop where
  a : 0 < s.1 ∧ s.1 ≤ 64
  x : s.2.1.natAbs ≤ 64
  y : s.2.2 ≠ 0 ∧ s.2.2.natAbs ≤ 64

theorem gcd_le_left (a b : Int) (h : 0 < a) : (Int.gcd a b : Int) ≤ a ∧ 0 < (Int.gcd a b : Int) := by
  have h1 : 0 < Int.gcd a b := Int.gcd_pos_of_ne_zero_left _ (by omega)
  have h2 := Int.le_of_dvd h (Int.gcd_dvd_left (a := a) (b := b))
  omega

theorem HInv.step {s : Int × V} (i : HInv s) {v : V} (hv : Vs v) : Ok s v ∧ HInv (hStep s v) := by
  obtain ⟨⟨a1, a2⟩, hx, hy1, hy2⟩ := i
  have e2 := dd_small (h := s.2) hv
  have v1 := hv.1
  have v2 := hv.2
  have g := gcd_le_left s.1 (euc EU s.2 v).2.1 a1
  have st := euc_step hv hy1 hy2
  obtain ⟨g1, _⟩ := euc_gcd EU s.2 v (by unfold EU; omega)
  have g0 : 0 < Int.gcd s.2.2 v.2 := Int.gcd_pos_of_ne_zero_left _ hy1
  refine ⟨⟨⟨by omega, by omega, by omega, by omega, by omega⟩, by omega, by omega⟩, ?_⟩
  unfold hStep
  refine ⟨by dsimp only; omega, ?_, by dsimp only; omega⟩
  dsimp only
  rw [if_pos g.2]
  have m1 := Int.emod_nonneg (euc EU s.2 v).1.1 (show (Int.gcd s.1 (euc EU s.2 v).2.1 : Int) ≠ 0 by omega)
  have m2 := Int.emod_lt_of_pos (euc EU s.2 v).1.1 g.2
  omega

theorem HInv.all : ∀ (xs : List V) (s : Int × V), HInv s → (∀ v ∈ xs, Vs v) → OkAll hStep s xs ∧ HInv (xs.foldl hStep s)
  | [], s, i, _ => ⟨trivial, i⟩
  | v :: r, s, i, h => by
    obtain ⟨h1, h2⟩ := i.step (h v (List.mem_cons_self ..))
    obtain ⟨h3, h4⟩ := HInv.all r _ h2 fun w hw => h w (List.mem_cons_of_mem _ hw)
    exact ⟨⟨h1, h3⟩, h4⟩

/-! ### The second list -/

structure LInv (s : Int × V) : Prop where
  a : 0 < s.1 ∧ s.1 ≤ 64
  y : s.2.2 ≠ 0 ∧ s.2.2.natAbs ≤ 64
  x : (s.2.1.natAbs + 64) * s.2.2.natAbs ^ 7 ≤ 562949953421312

theorem pow_half {a b : Nat} (h : 2 * a ≤ b) : 128 * a ^ 7 ≤ b ^ 7 := by
  have := Nat.pow_le_pow_left h 7
  rw [Nat.mul_pow] at this
  simpa using this

theorem LInv.step {s : Int × V} (i : LInv s) {v : V} (hv : Vs v) : Ok s v ∧ LInv (lStep s v) := by
  obtain ⟨⟨a1, a2⟩, ⟨hy1, hy2⟩, hx⟩ := i
  have e2 := dd_small (h := s.2) hv
  have v1 := hv.1
  have v2 := hv.2
  have g := gcd_le_left s.1 (euc EU s.2 v).2.1 a1
  have st := euc_step hv hy1 hy2
  obtain ⟨g1, _⟩ := euc_gcd EU s.2 v (by unfold EU; omega)
  have g0 : 0 < Int.gcd s.2.2 v.2 := Int.gcd_pos_of_ne_zero_left _ hy1
  have p1 : 1 ≤ s.2.2.natAbs ^ 7 := Nat.one_le_pow _ _ (by omega)
  have hxl : s.2.1.natAbs + 64 ≤ 562949953421312 := by
    have := Nat.mul_le_mul_left (s.2.1.natAbs + 64) p1
    omega
  refine ⟨⟨⟨by omega, by omega, by omega, by omega, by omega⟩, by omega, by omega⟩, ?_⟩
  unfold lStep
  refine ⟨by dsimp only; omega, by dsimp only; omega, ?_⟩
  dsimp only
  rcases st with ⟨s1, s2⟩ | ⟨s1, s2⟩
  · rw [s1]
    by_cases hm : s.2.1.natAbs ≤ 64
    · have q1 := Nat.pow_le_pow_left hy2 7
      have q2 := Nat.mul_le_mul (show (euc EU s.2 v).1.1.natAbs + 64 ≤ 128 by omega) q1
      exact Nat.le_trans q2 (by decide)
    · have q2 := Nat.mul_le_mul_right (s.2.2.natAbs ^ 7) (show (euc EU s.2 v).1.1.natAbs + 64 ≤ s.2.1.natAbs + 64 by omega)
      omega
  · have q1 := pow_half s1
    have q2 := Nat.mul_le_mul (show (euc EU s.2 v).1.1.natAbs + 64 ≤ 128 * (s.2.1.natAbs + 64) by omega) (Nat.le_refl ((euc EU s.2 v).1.2.natAbs ^ 7))
    have q3 := Nat.mul_le_mul_left (s.2.1.natAbs + 64) q1
    rw [Nat.mul_comm 128, Nat.mul_assoc] at q2
    omega

theorem LInv.all : ∀ (xs : List V) (s : Int × V), LInv s → (∀ v ∈ xs, Vs v) → OkAll lStep s xs ∧ LInv (xs.foldl lStep s)
  | [], s, i, _ => ⟨trivial, i⟩
  | v :: r, s, i, h => by
    obtain ⟨h1, h2⟩ := i.step (h v (List.mem_cons_self ..))
    obtain ⟨h3, h4⟩ := LInv.all r _ h2 fun w hw => h w (List.mem_cons_of_mem _ hw)
    exact ⟨⟨h1, h3⟩, h4⟩

theorem LInv.small {s : Int × V} (i : LInv s) : Small s := by
  obtain ⟨⟨a1, a2⟩, ⟨hy1, hy2⟩, hx⟩ := i
  have p1 : 1 ≤ s.2.2.natAbs ^ 7 := Nat.one_le_pow _ _ (by omega)
  have := Nat.mul_le_mul_left (s.2.1.natAbs + 64) p1
  exact ⟨by omega, by omega, by omega⟩

theorem HInv.small {s : Int × V} (i : HInv s) : Small s := by
  obtain ⟨⟨a1, a2⟩, hx, hy1, hy2⟩ := i
  exact ⟨by omega, by omega, by omega⟩

/-! ### A lattice's vectors and more -/

theorem euc_flat (n : Nat) (h v : V) (h0 : v.2 = 0) : euc (n + 1) h v = (h, v) := by rw [euc, if_pos h0]

theorem two_steps {l : Lat} (hl : isLat l = true) : hStep (hStep (0, 0, 0) (l.1, 0)) l.2 = (l.1, l.2) ∧ lStep (lStep (0, 0, 0) (l.1, 0)) l.2 = (l.1, l.2) ∧ Ok (0, 0, 0) (l.1, 0) ∧ Ok (l.1, 0, 0) l.2 ∧ hStep (0, 0, 0) (l.1, 0) = (l.1, 0, 0) ∧ lStep (0, 0, 0) (l.1, 0) = (l.1, 0, 0) := by
  obtain ⟨⟨a1, a2⟩, ⟨c1, c2⟩, ⟨b1, b2⟩, _⟩ := isLat_iff.1 hl
  obtain ⟨a, b, c⟩ := l
  simp only at a1 a2 c1 c2 b1 b2
  have e1 : euc EU (0, 0) (a, 0) = ((0, 0), (a, 0)) := euc_flat 1048576 _ _ rfl
  have e2 : euc EU (0, 0) (b, c) = ((b, c), (0, 0)) := by
    rw [show EU = 1048575 + 1 + 1 from rfl, euc, if_neg (show ¬ (c = 0) by omega)]
    have : Int.tdiv 0 c = 0 := Int.zero_tdiv c
    simp only [this, Int.zero_mul, Int.sub_zero]
    rw [euc_flat _ _ _ rfl]
  have ga : ((Int.gcd 0 a : Nat) : Int) = a := by rw [Int.gcd_comm, Int.gcd_zero]; omega
  have gb : ((Int.gcd a 0 : Nat) : Int) = a := by rw [Int.gcd_zero]; omega
  have h1 : hStep (0, 0, 0) (a, 0) = (a, 0, 0) := by
    unfold hStep
    simp only [e1, ga]
    rw [if_pos (by omega), Int.zero_emod]
  have l1 : lStep (0, 0, 0) (a, 0) = (a, 0, 0) := by
    unfold lStep
    simp only [e1, ga]
  refine ⟨?_, ?_, ?_, ?_, h1, l1⟩
  · rw [h1]
    unfold hStep
    simp only [e2, gb]
    rw [if_pos (by omega), Int.emod_eq_of_lt (by omega) (by omega)]
  · rw [l1]
    unfold lStep
    simp only [e2, gb]
  · refine ⟨⟨?_, ?_, ?_, ?_, ?_⟩, ?_, ?_⟩
    · simp [dd]
    · simp
    · show a.natAbs ≤ _; omega
    · simp
    · simp
    · simp
    · simp only [e1, ga]; omega
  · refine ⟨⟨?_, ?_, ?_, ?_, ?_⟩, ?_, ?_⟩
    · simp [dd]
    · simp
    · show b.natAbs ≤ _; omega
    · simp
    · show c.natAbs ≤ _; omega
    · show 0 ≤ a ∧ a ≤ _; omega
    · simp only [e2, gb]; omega

/-- The lattice that a lattice's vectors and more make. -/
def latWith (l : Lat) (xs : List V) : Lat := latN (xs.foldl hStep (l.1, l.2))

theorem latWith_both {l : Lat} (hl : isLat l = true) (xs : List V) (hx : ∀ v ∈ xs, Vs v) (hn : xs.length ≤ 1048000) :
    spec_l03Hermite ((l.1, 0) :: l.2 :: xs) = some (latWith l xs) ∧ impl_latticeOf ((l.1, 0) :: l.2 :: xs) = some (latWith l xs) := by
  obtain ⟨t1, t2, o1, o2, f1, f2⟩ := two_steps hl
  obtain ⟨⟨a1, a2⟩, ⟨c1, c2⟩, ⟨b1, b2⟩, _⟩ := isLat_iff.1 hl
  have ih : HInv (l.1, l.2) := ⟨by dsimp only; omega, by show l.2.1.natAbs ≤ 64; omega, by show l.2.2 ≠ 0 ∧ l.2.2.natAbs ≤ 64; omega⟩
  have il : LInv (l.1, l.2) := by
    refine ⟨by dsimp only; omega, by show l.2.2 ≠ 0 ∧ l.2.2.natAbs ≤ 64; omega, ?_⟩
    show (l.2.1.natAbs + 64) * l.2.2.natAbs ^ 7 ≤ _
    have q1 := Nat.pow_le_pow_left (show l.2.2.natAbs ≤ 64 by omega) 7
    exact Nat.le_trans (Nat.mul_le_mul (show l.2.1.natAbs + 64 ≤ 128 by omega) q1) (by decide)
  obtain ⟨h1, h2⟩ := ih.all xs _ hx
  obtain ⟨l1, l2⟩ := il.all xs _ hx
  have hs : OkAll hStep (0, 0, 0) ((l.1, 0) :: l.2 :: xs) := ⟨o1, by rw [f1]; exact o2, by rw [t1]; exact h1⟩
  have ls : OkAll lStep (0, 0, 0) ((l.1, 0) :: l.2 :: xs) := ⟨o1, by rw [f2]; exact o2, by rw [t2]; exact l1⟩
  have r1 := spec_Hermite_of _ (by simp only [List.length_cons]; omega) hs (by rw [List.foldl_cons, List.foldl_cons, t1]; exact h2.small)
  have r2 := impl_latticeOf_of _ (by simp only [List.length_cons]; omega) ls (by rw [List.foldl_cons, List.foldl_cons, t2]; exact l2.small)
  rw [List.foldl_cons, List.foldl_cons, t1] at r1
  rw [List.foldl_cons, List.foldl_cons, t2] at r2
  refine ⟨r1, ?_⟩
  rw [r2]
  have := (sim_all xs (l.1, l.2) (l.1, l.2) ⟨rfl, by rw [if_neg (show ¬ (l.1 = 0) by omega)]; exact ⟨rfl, 0, by simp⟩⟩ (by show 0 ≤ l.1; omega)).1
  unfold latWith
  rw [latN_sim this h2.a.1]

end Go.Proofs.Ytaelaneekichkaa
