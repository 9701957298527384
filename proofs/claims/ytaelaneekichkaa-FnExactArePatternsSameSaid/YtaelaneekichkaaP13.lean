/-
  Plain meanings: the lattice of a list of vectors.
-/
import Derived.Test.YtaelaneekichkaaP12
namespace Go.Proofs.Ytaelaneekichkaa
open Ai
set_option linter.unusedSimpArgs false
set_option linter.unusedVariables false
set_option linter.unnecessarySimpa false

def EU : Nat := 1048577

/-- The next least divisor and the next vector. -/
def hStep (s : Int × V) (v : V) : Int × V :=
  let e := euc EU s.2 v
  let a := (Int.gcd s.1 e.2.1 : Int)
  (a, if 0 < a then e.1.1 % a else e.1.1, e.1.2)

def lStep (s : Int × V) (v : V) : Int × V :=
  let e := euc EU s.2 v
  ((Int.gcd s.1 e.2.1 : Int), e.1)

/-- Wide bounds for the first list of numbers. -/
structure Ok (s : Int × V) (v : V) : Prop where
  fit : Fit s.2 v
  a : 0 ≤ s.1 ∧ s.1 ≤ 1048576
  g : (Int.gcd s.1 (euc EU s.2 v).2.1 : Int) ≤ 1048576

theorem euc_fit : ∀ (n : Nat) (h v : V), Fit h v → Fit (euc n h v).1 (euc n h v).2
  | 0, _, _, f => f
  | n + 1, h, v, f => by
    rw [euc]
    split
    · exact f
    · rename_i h0
      exact euc_fit n _ _ (f.step h0)

theorem spec_step (xs : List V) (s : Int × V) (k : Nat) (z1 z2 z3 : Int) (hk : k < xs.length) (hn : xs.length ≤ 1048576) (ok : Ok s xs[k]) :
    spec_l03Hermite_l0 xs s.1 (k : Int) z1 z2 z3 s.2.1 s.2.2 = spec_l03Hermite_l0 xs (hStep s xs[k]).1 ((k + 1 : Nat) : Int) z1 z2 z3 (hStep s xs[k]).2.1 (hStep s xs[k]).2.2 := by
  obtain ⟨fit, ha, hg⟩ := ok
  have ff := euc_fit EU _ _ fit
  have f2 := fit.v2
  rw [spec_l03Hermite_l0_eq, decide_eq_true (by omega), rd_lt hk]
  simp only [cond_true, Option.bind_some, Option.bind_fun_some]
  rw [spec_euc xs s.1 k z1 z2 z3 EU s.2 xs[k] (by unfold EU; omega) fit]
  simp only [Option.bind_some]
  have e1 := ff.v1
  rw [spec_l01Divisor_v ((euc EU s.2 xs[k]).2.1.natAbs + 1) s.1 _ (by omega) (by omega) (by omega)]
  simp only [Option.bind_some]
  rw [wnext hk (leM hn)]
  unfold hStep
  simp only []
  by_cases hpos : 0 < (Int.gcd s.1 (euc EU s.2 xs[k]).2.1 : Int)
  · rw [decide_eq_true hpos, if_pos hpos, spec_l01Mod_v _ _ hpos (by omega)]
    rfl
  · rw [decide_eq_false hpos, if_neg hpos]
    rfl

theorem impl_step (xs : List V) (s : Int × V) (k : Nat) (z1 z2 z3 : Int) (hk : k < xs.length) (hn : xs.length ≤ 1048576) (ok : Ok s xs[k]) :
    impl_latticeOf_l0 s.1 xs (xs.length : Int) (k : Int) z1 z2 z3 s.2.1 s.2.2 = impl_latticeOf_l0 (lStep s xs[k]).1 xs (xs.length : Int) ((k + 1 : Nat) : Int) z1 z2 z3 (lStep s xs[k]).2.1 (lStep s xs[k]).2.2 := by
  obtain ⟨fit, ha, hg⟩ := ok
  have ff := euc_fit EU _ _ fit
  have f2 := fit.v2
  rw [impl_latticeOf_l0_eq, decide_eq_true (by omega), rd_lt hk]
  simp only [cond_true, Option.bind_some, Option.bind_fun_some]
  rw [impl_euc s.1 xs xs.length k z1 z2 z3 EU s.2 xs[k] (by unfold EU; omega) fit]
  simp only [Option.bind_some]
  have e1 := ff.v1
  rw [impl_gcd_v s.1 _ (by omega) (by omega)]
  simp only [Option.bind_some]
  rw [wnext hk (leM hn)]
  rfl

/-- All along a list. -/
def OkAll (step : Int × V → V → Int × V) : Int × V → List V → Prop
  | _, [] => True
  | s, v :: r => Ok s v ∧ OkAll step (step s v) r

theorem spec_all (xs : List V) (z1 z2 z3 : Int) (hn : xs.length ≤ 1048576) : ∀ (m k : Nat) (s : Int × V), k + m = xs.length → OkAll hStep s (xs.drop k) →
    spec_l03Hermite_l0 xs s.1 (k : Int) z1 z2 z3 s.2.1 s.2.2 = some (((xs.drop k).foldl hStep s).1, z1, z2, z3, ((xs.drop k).foldl hStep s).2)
  | 0, k, s, hk, _ => by
    rw [spec_l03Hermite_l0_eq, decide_eq_false (by omega), List.drop_eq_nil_of_le (by omega)]; rfl
  | m + 1, k, s, hk, ok => by
    have h1 : k < xs.length := by omega
    rw [List.drop_eq_getElem_cons h1] at ok ⊢
    rw [spec_step xs s k z1 z2 z3 h1 hn ok.1, List.foldl_cons]
    exact spec_all xs z1 z2 z3 hn m (k + 1) _ (by omega) ok.2

theorem impl_all (xs : List V) (z1 z2 z3 : Int) (hn : xs.length ≤ 1048576) : ∀ (m k : Nat) (s : Int × V), k + m = xs.length → OkAll lStep s (xs.drop k) →
    impl_latticeOf_l0 s.1 xs (xs.length : Int) (k : Int) z1 z2 z3 s.2.1 s.2.2 = some (((xs.drop k).foldl lStep s).1, z1, z2, z3, ((xs.drop k).foldl lStep s).2)
  | 0, k, s, hk, _ => by
    rw [impl_latticeOf_l0_eq, decide_eq_false (by omega), List.drop_eq_nil_of_le (by omega)]; rfl
  | m + 1, k, s, hk, ok => by
    have h1 : k < xs.length := by omega
    rw [List.drop_eq_getElem_cons h1] at ok ⊢
    rw [impl_step xs s k z1 z2 z3 h1 hn ok.1, List.foldl_cons]
    exact impl_all xs z1 z2 z3 hn m (k + 1) _ (by omega) ok.2

/-- The state of the one and of the other. -/
def Sim (s t : Int × V) : Prop := s.1 = t.1 ∧ (if s.1 = 0 then s.2 = t.2 else Cong s.1 s.2 t.2)

theorem gcd_cong (a x y t : Int) (h : x = y + t * a) : Int.gcd a x = Int.gcd a y := by
  subst h
  rw [Int.mul_comm t a, Int.gcd_add_mul_left_right]

theorem sim_step {s t : Int × V} (h : Sim s t) (ha : 0 ≤ s.1) (v : V) : Sim (hStep s v) (lStep t v) ∧ 0 ≤ (hStep s v).1 := by
  obtain ⟨h1, h2⟩ := h
  obtain ⟨a, s2⟩ := s
  obtain ⟨b, t2⟩ := t
  simp only at h1 h2 ha
  subst h1
  have hc : Cong a (euc EU s2 v).1 (euc EU t2 v).1 ∧ Cong a (euc EU s2 v).2 (euc EU t2 v).2 ∧ (a = 0 → euc EU s2 v = euc EU t2 v) := by
    by_cases h0 : a = 0
    · rw [if_pos h0] at h2
      subst h2
      exact ⟨⟨rfl, 0, by simp⟩, ⟨rfl, 0, by simp⟩, fun _ => rfl⟩
    · rw [if_neg h0] at h2
      obtain ⟨c1, c2⟩ := euc_cong a EU s2 v t2 v h2 ⟨rfl, 0, by simp⟩
      exact ⟨c1, c2, fun h => (h0 h).elim⟩
  obtain ⟨c1, c2, c3⟩ := hc
  have hgcd : Int.gcd a (euc EU s2 v).2.1 = Int.gcd a (euc EU t2 v).2.1 := by
    obtain ⟨t, ht⟩ := c2.2
    exact gcd_cong a _ _ t ht
  refine ⟨⟨?_, ?_⟩, ?_⟩
  · show (Int.gcd a (euc EU s2 v).2.1 : Int) = Int.gcd a (euc EU t2 v).2.1
    rw [hgcd]
  · show if (Int.gcd a (euc EU s2 v).2.1 : Int) = 0 then _ else _
    split
    · rename_i hz
      have ha0 : a = 0 := by
        have : Int.gcd a (euc EU s2 v).2.1 = 0 := by omega
        exact (Int.gcd_eq_zero_iff.1 this).1
      show (if 0 < (Int.gcd a (euc EU s2 v).2.1 : Int) then _ else _, _) = (euc EU t2 v).1
      rw [if_neg (by omega), c3 ha0]
    · rename_i hz
      refine ⟨c1.1, ?_⟩
      show ∃ t, (if 0 < (Int.gcd a (euc EU s2 v).2.1 : Int) then _ else _) = (euc EU t2 v).1.1 + t * (Int.gcd a (euc EU s2 v).2.1 : Int)
      rw [if_pos (by omega)]
      obtain ⟨t, ht⟩ := c1.2
      obtain ⟨q, hq⟩ : ((Int.gcd a (euc EU s2 v).2.1 : Nat) : Int) ∣ a := Int.gcd_dvd_left ..
      have hm := Int.mul_ediv_add_emod (euc EU s2 v).1.1 (Int.gcd a (euc EU s2 v).2.1 : Int)
      refine ⟨t * q - (euc EU s2 v).1.1 / (Int.gcd a (euc EU s2 v).2.1 : Int), ?_⟩
      generalize (Int.gcd a (euc EU s2 v).2.1 : Int) = G at hq hm ⊢
      rw [Int.sub_mul, Int.mul_assoc, Int.mul_comm q G, ← hq, Int.mul_comm _ G]
      have ht' : (euc EU s2 v).1.1 = (euc EU t2 v).1.1 + t * a := ht
      dsimp only at hm ⊢
      omega
  · show 0 ≤ (Int.gcd a (euc EU s2 v).2.1 : Int)
    omega

theorem sim_all : ∀ (xs : List V) (s t : Int × V), Sim s t → 0 ≤ s.1 → Sim (xs.foldl hStep s) (xs.foldl lStep t) ∧ 0 ≤ (xs.foldl hStep s).1
  | [], s, t, h, ha => ⟨h, ha⟩
  | v :: r, s, t, h, ha => by
    obtain ⟨h1, h2⟩ := sim_step h ha v
    exact sim_all r _ _ h1 h2

/-- The lattice that the vectors of a list make. -/
def latN (s : Int × V) : Lat := (s.1, (if s.2.2 < 0 then -s.2.1 else s.2.1) % s.1, if s.2.2 < 0 then -s.2.2 else s.2.2)

theorem mod_cong (a x y t : Int) (h : x = y + t * a) : x % a = y % a := by
  subst h; exact Int.add_mul_emod_self_right ..

theorem latN_sim {s t : Int × V} (h : Sim s t) (hp : 0 < s.1) : latN s = latN t := by
  obtain ⟨h1, h2⟩ := h
  rw [if_neg (by omega)] at h2
  obtain ⟨h3, q, hq⟩ := h2
  unfold latN
  rw [← h1, ← h3]
  congr 2
  split
  · exact mod_cong _ _ _ (-q) (by rw [hq, Int.neg_mul]; omega)
  · exact mod_cong _ _ _ q hq

structure Small (s : Int × V) : Prop where
  a : 0 < s.1 ∧ s.1 ≤ 1048576
  x : s.2.1.natAbs ≤ 1152921504606846976
  y : s.2.2.natAbs ≤ 1048576

theorem spec_Hermite_of (xs : List V) (hn : xs.length ≤ 1048576) (ok : OkAll hStep (0, 0, 0) xs) (hs : Small (xs.foldl hStep (0, 0, 0))) : spec_l03Hermite xs = some (latN (xs.foldl hStep (0, 0, 0))) := by
  have h1 := spec_all xs 0 0 0 hn xs.length 0 (0, 0, 0) (by omega) ok
  rw [show ((0 : Nat) : Int) = 0 from rfl, List.drop_zero] at h1
  have h1' : spec_l03Hermite_l0 xs 0 0 0 0 0 0 0 = _ := h1
  rw [spec_l03Hermite_eq, h1']
  generalize xs.foldl hStep (0, 0, 0) = s at hs ⊢
  obtain ⟨a, x, y⟩ := s
  obtain ⟨⟨a1, a2⟩, hx, hy⟩ := hs
  simp only at a1 a2 hx hy
  simp only [Option.bind_some, latN]
  by_cases hneg : y < 0
  · rw [decide_eq_true hneg, if_pos hneg, if_pos hneg]
    simp only [cond_true, spec_l01Scale_eq, Option.bind_some]
    rw [decide_eq_true a1, w64 (x := -1 * x) (by omega) (by omega), w64 (x := -1 * y) (by omega) (by omega)]
    simp only [cond_true]
    rw [spec_l01Mod_v _ _ a1 (by omega)]
    simp only [Option.bind_some, Int.neg_mul, Int.one_mul]
  · rw [decide_eq_false hneg, if_neg hneg, if_neg hneg, decide_eq_true a1]
    simp only [cond_true, cond_false]
    rw [spec_l01Mod_v _ _ a1 (by omega)]
    rfl

theorem impl_latticeOf_of (xs : List V) (hn : xs.length ≤ 1048576) (ok : OkAll lStep (0, 0, 0) xs) (hs : Small (xs.foldl lStep (0, 0, 0))) : impl_latticeOf xs = some (latN (xs.foldl lStep (0, 0, 0))) := by
  have h1 := impl_all xs 0 0 0 hn xs.length 0 (0, 0, 0) (by omega) ok
  rw [show ((0 : Nat) : Int) = 0 from rfl, List.drop_zero] at h1
  have h1' : impl_latticeOf_l0 0 xs (xs.length : Int) 0 0 0 0 0 0 = _ := h1
  rw [impl_latticeOf_eq, h1']
  generalize xs.foldl lStep (0, 0, 0) = s at hs ⊢
  obtain ⟨a, x, y⟩ := s
  obtain ⟨⟨a1, a2⟩, hx, hy⟩ := hs
  simp only at a1 a2 hx hy
  simp only [Option.bind_some, latN]
  by_cases hneg : y < 0
  · rw [decide_eq_true hneg, if_pos hneg, if_pos hneg]
    simp only [cond_true, impl_Vec_times_eq, Option.bind_some]
    rw [w64 (x := -1 * x) (by omega) (by omega), w64 (x := -1 * y) (by omega) (by omega), impl_mod_v _ _ a1 (by omega)]
    simp only [Option.bind_some, Int.neg_mul, Int.one_mul]
  · rw [decide_eq_false hneg, if_neg hneg, if_neg hneg]
    simp only [cond_false]
    rw [impl_mod_v _ _ a1 (by omega)]
    rfl

end Go.Proofs.Ytaelaneekichkaa
