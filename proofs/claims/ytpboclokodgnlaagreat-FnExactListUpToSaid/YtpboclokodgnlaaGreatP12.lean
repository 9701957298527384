/-
  Plain meanings: the greatest common divisor; Euclid's steps on vectors.
-/
import Derived.Test.YtpboclokodgnlaaGreatP10
import Derived.Test.YtpboclokodgnlaaGreatPAdd
namespace Go.Proofs.YtpboclokodgnlaaGreat
open Pre Ai
set_option linter.unusedSimpArgs false
set_option linter.unusedVariables false
set_option linter.unnecessarySimpa false
theorem gcd_tmod (a b : Int) : Int.gcd b (Int.tmod a b) = Int.gcd a b := by
  unfold Int.gcd
  rw [Int.natAbs_tmod, Nat.gcd_comm a.natAbs b.natAbs, Nat.gcd_rec b.natAbs a.natAbs]
  exact Nat.gcd_comm _ _
theorem gcd_zero (a : Int) (h : a.natAbs ≤ 9223372036854775807) : max a (IntKind.i64.wrap (0 - a)) = (Int.gcd a 0 : Int) := by
  rw [w64 (by omega) (by omega), Int.gcd_zero]
  omega
theorem spec_l01Divisor_v : ∀ (n : Nat) (a b : Int), b.natAbs < n → a.natAbs ≤ 9223372036854775807 → b.natAbs ≤ 9223372036854775807 → spec_l01Divisor a b = some (Int.gcd a b : Int)
  | 0, _, _, h, _, _ => by omega
  | n + 1, a, b, h, ha, hb => by
    rw [spec_l01Divisor_eq]
    by_cases h0 : b = 0
    · subst h0
      simp only [decide_true, cond_true, gcd_zero a ha]
    · rw [decide_eq_false h0]
      have hm := Int.natAbs_tmod a b
      have hlt : a.natAbs % b.natAbs < b.natAbs := Nat.mod_lt _ (by omega)
      simp only [cond_false, Option.bind_fun_some]
      rw [spec_l01Divisor_v n b (Int.tmod a b) (by omega) hb (by omega), gcd_tmod]
theorem impl_gcd_l0_v : ∀ (n : Nat) (a b : Int), b.natAbs < n → a.natAbs ≤ 9223372036854775807 → b.natAbs ≤ 9223372036854775807 → ∃ c, impl_gcd_l0 a b = some c ∧ c.natAbs = Int.gcd a b ∧ c.natAbs ≤ 9223372036854775807
  | 0, _, _, h, _, _ => by omega
  | n + 1, a, b, h, ha, hb => by
    rw [impl_gcd_l0_eq]
    by_cases h0 : b = 0
    · subst h0
      exact ⟨a, rfl, by simp, ha⟩
    · rw [decide_eq_false h0]
      have hm := Int.natAbs_tmod a b
      have hlt : a.natAbs % b.natAbs < b.natAbs := Nat.mod_lt _ (by omega)
      simp only [Bool.not_false, cond_true, cond_false, Option.bind_fun_some]
      rw [← gcd_tmod]
      exact impl_gcd_l0_v n b (Int.tmod a b) (by omega) hb (by omega)
theorem impl_gcd_v (a b : Int) (ha : a.natAbs ≤ 9223372036854775807) (hb : b.natAbs ≤ 9223372036854775807) : impl_gcd a b = some (Int.gcd a b : Int) := by
  obtain ⟨c, h1, h2, h3⟩ := impl_gcd_l0_v (b.natAbs + 1) a b (by omega) ha hb
  rw [impl_gcd_eq, h1]
  simp only [Option.bind_some]
  rw [w64 (by omega) (by omega)]
  congr 1
  omega
/-! ### Euclid's steps -/
def euc : Nat → V → V → V × V
  | 0, h, v => (h, v)
  | n + 1, h, v => if v.2 = 0 then (h, v) else euc n v (h.1 - Int.tdiv h.2 v.2 * v.1, h.2 - Int.tdiv h.2 v.2 * v.2)
def dd (h v : V) : Nat := h.1.natAbs * v.2.natAbs + v.1.natAbs * h.2.natAbs
theorem sub_tdiv (a b : Int) : a - Int.tdiv a b * b = Int.tmod a b := by
  have := Int.tmod_add_mul_tdiv a b
  rw [Int.mul_comm] at this
  omega
theorem dd_step (h v : V) (hv : v.2 ≠ 0) : dd v (h.1 - Int.tdiv h.2 v.2 * v.1, h.2 - Int.tdiv h.2 v.2 * v.2) ≤ dd h v ∧ (h.1 - Int.tdiv h.2 v.2 * v.1).natAbs ≤ dd h v ∧ (Int.tdiv h.2 v.2 * v.1).natAbs ≤ h.1.natAbs + dd h v ∧ (h.2 - Int.tdiv h.2 v.2 * v.2).natAbs < v.2.natAbs := by
  have hpos : 0 < v.2.natAbs := by omega
  have e1 : (h.2 - Int.tdiv h.2 v.2 * v.2).natAbs = h.2.natAbs % v.2.natAbs := by rw [sub_tdiv, Int.natAbs_tmod]
  have e2 : (Int.tdiv h.2 v.2).natAbs = h.2.natAbs / v.2.natAbs := Int.natAbs_tdiv _ _
  have e3 : (Int.tdiv h.2 v.2 * v.1).natAbs = h.2.natAbs / v.2.natAbs * v.1.natAbs := by rw [Int.natAbs_mul, e2]
  have e4 : (h.1 - Int.tdiv h.2 v.2 * v.1).natAbs ≤ h.1.natAbs + h.2.natAbs / v.2.natAbs * v.1.natAbs := by
    rw [← e3]; exact Int.natAbs_sub_le _ _
  have key : dd v (h.1 - Int.tdiv h.2 v.2 * v.1, h.2 - Int.tdiv h.2 v.2 * v.2) ≤ dd h v := by
    unfold dd
    simp only [e1]
    have h1 : (h.1 - Int.tdiv h.2 v.2 * v.1).natAbs * v.2.natAbs ≤ (h.1.natAbs + h.2.natAbs / v.2.natAbs * v.1.natAbs) * v.2.natAbs := Nat.mul_le_mul_right _ e4
    have h2 : v.1.natAbs * h.2.natAbs = v.1.natAbs * (h.2.natAbs % v.2.natAbs) + h.2.natAbs / v.2.natAbs * v.1.natAbs * v.2.natAbs := by
      have := Nat.div_add_mod h.2.natAbs v.2.natAbs
      calc v.1.natAbs * h.2.natAbs = v.1.natAbs * (v.2.natAbs * (h.2.natAbs / v.2.natAbs) + h.2.natAbs % v.2.natAbs) := by rw [this]
        _ = _ := by rw [Nat.mul_add, Nat.add_comm]; congr 1; rw [Nat.mul_comm (h.2.natAbs / v.2.natAbs), Nat.mul_assoc, Nat.mul_comm (h.2.natAbs / v.2.natAbs)]
    rw [Nat.add_mul] at h1
    omega
  have h5 : (h.1 - Int.tdiv h.2 v.2 * v.1).natAbs ≤ dd h v := by
    have : (h.1 - Int.tdiv h.2 v.2 * v.1).natAbs * 1 ≤ (h.1 - Int.tdiv h.2 v.2 * v.1).natAbs * v.2.natAbs := Nat.mul_le_mul_left _ hpos
    have h6 : (h.1 - Int.tdiv h.2 v.2 * v.1).natAbs * v.2.natAbs ≤ dd v (h.1 - Int.tdiv h.2 v.2 * v.1, h.2 - Int.tdiv h.2 v.2 * v.2) := by unfold dd; exact Nat.le_add_left _ _
    omega
  refine ⟨key, h5, by omega, ?_⟩
  rw [e1]; exact Nat.mod_lt _ hpos
structure Fit (h v : V) : Prop where
  d : dd h v ≤ 1152921504606846976
  h1 : h.1.natAbs ≤ 1152921504606846976
  v1 : v.1.natAbs ≤ 1152921504606846976
  h2 : h.2.natAbs ≤ 1048576
  v2 : v.2.natAbs ≤ 1048576
theorem Fit.step {h v : V} (f : Fit h v) (hv : v.2 ≠ 0) : Fit v (h.1 - Int.tdiv h.2 v.2 * v.1, h.2 - Int.tdiv h.2 v.2 * v.2) := by
  obtain ⟨s1, s2, _, s4⟩ := dd_step h v hv
  have := f.d
  have := f.v2
  exact ⟨by omega, f.v1, by show (h.1 - _).natAbs ≤ _; omega, f.v2, by show (h.2 - _).natAbs ≤ _; omega⟩
theorem tdiv_lim (a b : Int) : (Int.tdiv a b).natAbs ≤ a.natAbs := by
  rw [Int.natAbs_tdiv]; exact Nat.div_le_self _ _
theorem spec_euc (x0 : List V) (x1 x2 x3 x4 x5 : Int) : ∀ (n : Nat) (h v : V), v.2.natAbs < n → Fit h v →
    spec_l03Hermite_l1 x0 x1 x2 x3 x4 x5 h.1 h.2 v.1 v.2 = some (x0, x1, x2, x3, x4, x5, (euc n h v).1.1, (euc n h v).1.2, (euc n h v).2.1, (euc n h v).2.2)
  | 0, _, _, hn, _ => by omega
  | n + 1, h, v, hn, f => by
    rw [spec_l03Hermite_l1_eq, euc]
    by_cases h0 : v.2 = 0
    · rw [decide_eq_true h0, if_pos h0]; rfl
    · rw [decide_eq_false h0, if_neg h0]
      obtain ⟨s1, s2, s3, s4⟩ := dd_step h v h0
      have q := tdiv_lim h.2 v.2
      have f1 := f.d; have f2 := f.h1; have f3 := f.h2; have f4 := f.v2; have f5 := f.v1
      have e3 : Int.tdiv h.2 v.2 * v.2 = h.2 - Int.tmod h.2 v.2 := by have := sub_tdiv h.2 v.2; omega
      have hm := Int.natAbs_tmod h.2 v.2
      have hlt : h.2.natAbs % v.2.natAbs < v.2.natAbs := Nat.mod_lt _ (by omega)
      simp only [Bool.not_false, cond_true, cond_false, Option.bind_fun_some]
      rw [w64 (x := Int.tdiv h.2 v.2) (by omega) (by omega), w64 (x := Int.tdiv h.2 v.2 * v.1) (by omega) (by omega), w64 (x := h.1 - Int.tdiv h.2 v.2 * v.1) (by omega) (by omega), w64 (x := Int.tdiv h.2 v.2 * v.2) (by omega) (by omega), w64 (x := h.2 - Int.tdiv h.2 v.2 * v.2) (by omega) (by omega)]
      exact spec_euc x0 x1 x2 x3 x4 x5 n v (h.1 - Int.tdiv h.2 v.2 * v.1, h.2 - Int.tdiv h.2 v.2 * v.2) (by show (h.2 - _).natAbs < _; omega) (f.step h0)
theorem impl_euc (x0 : Int) (x1 : List V) (x2 x3 x4 x5 x6 : Int) : ∀ (n : Nat) (h v : V), v.2.natAbs < n → Fit h v →
    impl_latticeOf_l1 x0 x1 x2 x3 x4 x5 x6 h.1 h.2 v.1 v.2 = some (x0, x1, x2, x3, x4, x5, x6, (euc n h v).1.1, (euc n h v).1.2, (euc n h v).2.1, (euc n h v).2.2)
  | 0, _, _, hn, _ => by omega
  | n + 1, h, v, hn, f => by
    rw [impl_latticeOf_l1_eq, euc]
    by_cases h0 : v.2 = 0
    · rw [decide_eq_true h0, if_pos h0]; rfl
    · rw [decide_eq_false h0, if_neg h0]
      obtain ⟨s1, s2, s3, s4⟩ := dd_step h v h0
      have q := tdiv_lim h.2 v.2
      have f1 := f.d; have f2 := f.h1; have f3 := f.h2; have f4 := f.v2; have f5 := f.v1
      have e3 : Int.tdiv h.2 v.2 * v.2 = h.2 - Int.tmod h.2 v.2 := by have := sub_tdiv h.2 v.2; omega
      have hm := Int.natAbs_tmod h.2 v.2
      have hlt : h.2.natAbs % v.2.natAbs < v.2.natAbs := Nat.mod_lt _ (by omega)
      simp only [Bool.not_false, cond_true, cond_false, Option.bind_fun_some, impl_Vec_times_eq, impl_Vec_add_v, Option.bind_some, wadd]
      have n1 : (0 - Int.tdiv h.2 v.2) * v.1 = -(Int.tdiv h.2 v.2 * v.1) := by rw [Int.zero_sub, Int.neg_mul]
      have n2 : (0 - Int.tdiv h.2 v.2) * v.2 = -(Int.tdiv h.2 v.2 * v.2) := by rw [Int.zero_sub, Int.neg_mul]
      rw [w64 (x := Int.tdiv h.2 v.2) (by omega) (by omega), w64 (x := 0 - Int.tdiv h.2 v.2) (by omega) (by omega), n1, n2, w64 (x := -(Int.tdiv h.2 v.2 * v.1)) (by omega) (by omega), w64 (x := -(Int.tdiv h.2 v.2 * v.2)) (by omega) (by omega),
        w64 (x := h.1 + -(Int.tdiv h.2 v.2 * v.1)) (by omega) (by omega), w64 (x := h.2 + -(Int.tdiv h.2 v.2 * v.2)) (by omega) (by omega), ← Int.sub_eq_add_neg, ← Int.sub_eq_add_neg]
      exact impl_euc x0 x1 x2 x3 x4 x5 x6 n v (h.1 - Int.tdiv h.2 v.2 * v.1, h.2 - Int.tdiv h.2 v.2 * v.2) (by show (h.2 - _).natAbs < _; omega) (f.step h0)
def Cong (a : Int) (u v : V) : Prop := u.2 = v.2 ∧ ∃ t, u.1 = v.1 + t * a
theorem euc_cong (a : Int) : ∀ (n : Nat) (h v h' v' : V), Cong a h h' → Cong a v v' → Cong a (euc n h v).1 (euc n h' v').1 ∧ Cong a (euc n h v).2 (euc n h' v').2
  | 0, _, _, _, _, ch, cv => ⟨ch, cv⟩
  | n + 1, h, v, h', v', ch, cv => by
    have c2 := cv.1
    rw [euc, euc, ← c2]
    split
    · exact ⟨ch, cv⟩
    · refine euc_cong a n _ _ _ _ cv ⟨?_, ?_⟩
      · show h.2 - _ = h'.2 - _
        rw [ch.1]
      · obtain ⟨t, ht⟩ := ch.2
        obtain ⟨s, hs⟩ := cv.2
        refine ⟨t - Int.tdiv h'.2 v.2 * s, ?_⟩
        show h.1 - Int.tdiv h.2 v.2 * v.1 = h'.1 - Int.tdiv h'.2 v.2 * v'.1 + (t - Int.tdiv h'.2 v.2 * s) * a
        rw [ch.1, ht, hs, Int.mul_add, Int.sub_mul, Int.mul_assoc]
        omega
def EU : Nat := 1048577
def hStep (s : Int × V) (v : V) : Int × V :=
  let e := euc EU s.2 v
  let a := (Int.gcd s.1 e.2.1 : Int)
  (a, if 0 < a then e.1.1 % a else e.1.1, e.1.2)
def lStep (s : Int × V) (v : V) : Int × V :=
  let e := euc EU s.2 v
  ((Int.gcd s.1 e.2.1 : Int), e.1)
structure Ok (s : Int × V) (v : V) : Prop where
  fit : Fit s.2 v
  a : 0 ≤ s.1 ∧ s.1 ≤ 1048576
  g : (Int.gcd s.1 (euc EU s.2 v).2.1 : Int) ≤ 1048576
theorem euc_fit : ∀ (n : Nat) (h v : V), Fit h v → Fit (euc n h v).1 (euc n h v).2
  | 0, _, _, f => f
  | n + 1, h, v, f => by
    rw [euc]
    split
    · exact f
    · rename_i h0
      exact euc_fit n _ _ (f.step h0)
theorem spec_step (xs : List V) (s : Int × V) (k : Nat) (z1 z2 z3 : Int) (hk : k < xs.length) (hn : xs.length ≤ 1048576) (ok : Ok s xs[k]) :
    spec_l03Hermite_l0 xs s.1 (k : Int) z1 z2 z3 s.2.1 s.2.2 = spec_l03Hermite_l0 xs (hStep s xs[k]).1 ((k + 1 : Nat) : Int) z1 z2 z3 (hStep s xs[k]).2.1 (hStep s xs[k]).2.2 := by
  obtain ⟨fit, ha, hg⟩ := ok
  have ff := euc_fit EU _ _ fit
  have f2 := fit.v2
  rw [spec_l03Hermite_l0_eq, decide_eq_true (by omega), rd_lt hk]
  simp only [cond_true, Option.bind_some, Option.bind_fun_some]
  rw [spec_euc xs s.1 k z1 z2 z3 EU s.2 xs[k] (by unfold EU; omega) fit]
  simp only [Option.bind_some]
  have e1 := ff.v1
  rw [spec_l01Divisor_v ((euc EU s.2 xs[k]).2.1.natAbs + 1) s.1 _ (by omega) (by omega) (by omega)]
  simp only [Option.bind_some]
  rw [wnext hk (leM hn)]
  unfold hStep
  simp only []
  by_cases hpos : 0 < (Int.gcd s.1 (euc EU s.2 xs[k]).2.1 : Int)
  · rw [decide_eq_true hpos, if_pos hpos, spec_l01Mod_v _ _ hpos (by omega)]
    rfl
  · rw [decide_eq_false hpos, if_neg hpos]
    rfl
theorem impl_step (xs : List V) (s : Int × V) (k : Nat) (z1 z2 z3 : Int) (hk : k < xs.length) (hn : xs.length ≤ 1048576) (ok : Ok s xs[k]) :
    impl_latticeOf_l0 s.1 xs (xs.length : Int) (k : Int) z1 z2 z3 s.2.1 s.2.2 = impl_latticeOf_l0 (lStep s xs[k]).1 xs (xs.length : Int) ((k + 1 : Nat) : Int) z1 z2 z3 (lStep s xs[k]).2.1 (lStep s xs[k]).2.2 := by
  obtain ⟨fit, ha, hg⟩ := ok
  have ff := euc_fit EU _ _ fit
  have f2 := fit.v2
  rw [impl_latticeOf_l0_eq, decide_eq_true (by omega), rd_lt hk]
  simp only [cond_true, Option.bind_some, Option.bind_fun_some]
  rw [impl_euc s.1 xs xs.length k z1 z2 z3 EU s.2 xs[k] (by unfold EU; omega) fit]
  simp only [Option.bind_some]
  have e1 := ff.v1
  rw [impl_gcd_v s.1 _ (by omega) (by omega)]
  simp only [Option.bind_some]
  rw [wnext hk (leM hn)]
  rfl
def OkAll (step : Int × V → V → Int × V) : Int × V → List V → Prop
  | _, [] => True
  | s, v :: r => Ok s v ∧ OkAll step (step s v) r
theorem spec_all (xs : List V) (z1 z2 z3 : Int) (hn : xs.length ≤ 1048576) : ∀ (m k : Nat) (s : Int × V), k + m = xs.length → OkAll hStep s (xs.drop k) →
    spec_l03Hermite_l0 xs s.1 (k : Int) z1 z2 z3 s.2.1 s.2.2 = some (((xs.drop k).foldl hStep s).1, z1, z2, z3, ((xs.drop k).foldl hStep s).2)
  | 0, k, s, hk, _ => by
    rw [spec_l03Hermite_l0_eq, decide_eq_false (by omega), List.drop_eq_nil_of_le (by omega)]; rfl
  | m + 1, k, s, hk, ok => by
    have h1 : k < xs.length := by omega
    rw [List.drop_eq_getElem_cons h1] at ok ⊢
    rw [spec_step xs s k z1 z2 z3 h1 hn ok.1, List.foldl_cons]
    exact spec_all xs z1 z2 z3 hn m (k + 1) _ (by omega) ok.2
theorem impl_all (xs : List V) (z1 z2 z3 : Int) (hn : xs.length ≤ 1048576) : ∀ (m k : Nat) (s : Int × V), k + m = xs.length → OkAll lStep s (xs.drop k) →
    impl_latticeOf_l0 s.1 xs (xs.length : Int) (k : Int) z1 z2 z3 s.2.1 s.2.2 = some (((xs.drop k).foldl lStep s).1, z1, z2, z3, ((xs.drop k).foldl lStep s).2)
  | 0, k, s, hk, _ => by
    rw [impl_latticeOf_l0_eq, decide_eq_false (by omega), List.drop_eq_nil_of_le (by omega)]; rfl
  | m + 1, k, s, hk, ok => by
    have h1 : k < xs.length := by omega
    rw [List.drop_eq_getElem_cons h1] at ok ⊢
    rw [impl_step xs s k z1 z2 z3 h1 hn ok.1, List.foldl_cons]
    exact impl_all xs z1 z2 z3 hn m (k + 1) _ (by omega) ok.2
def Sim (s t : Int × V) : Prop := s.1 = t.1 ∧ (if s.1 = 0 then s.2 = t.2 else Cong s.1 s.2 t.2)
theorem gcd_cong (a x y t : Int) (h : x = y + t * a) : Int.gcd a x = Int.gcd a y := by
  subst h
  rw [Int.mul_comm t a, Int.gcd_add_mul_left_right]
theorem sim_step {s t : Int × V} (h : Sim s t) (ha : 0 ≤ s.1) (v : V) : Sim (hStep s v) (lStep t v) ∧ 0 ≤ (hStep s v).1 := by
  obtain ⟨h1, h2⟩ := h
  obtain ⟨a, s2⟩ := s
  obtain ⟨b, t2⟩ := t
  simp only at h1 h2 ha
  subst h1
  have hc : Cong a (euc EU s2 v).1 (euc EU t2 v).1 ∧ Cong a (euc EU s2 v).2 (euc EU t2 v).2 ∧ (a = 0 → euc EU s2 v = euc EU t2 v) := by
    by_cases h0 : a = 0
    · rw [if_pos h0] at h2
      subst h2
      exact ⟨⟨rfl, 0, by simp⟩, ⟨rfl, 0, by simp⟩, fun _ => rfl⟩
    · rw [if_neg h0] at h2
      obtain ⟨c1, c2⟩ := euc_cong a EU s2 v t2 v h2 ⟨rfl, 0, by simp⟩
      exact ⟨c1, c2, fun h => (h0 h).elim⟩
  obtain ⟨c1, c2, c3⟩ := hc
  have hgcd : Int.gcd a (euc EU s2 v).2.1 = Int.gcd a (euc EU t2 v).2.1 := by
    obtain ⟨t, ht⟩ := c2.2
    exact gcd_cong a _ _ t ht
  refine ⟨⟨?_, ?_⟩, ?_⟩
  · show (Int.gcd a (euc EU s2 v).2.1 : Int) = Int.gcd a (euc EU t2 v).2.1
    rw [hgcd]
  · show if (Int.gcd a (euc EU s2 v).2.1 : Int) = 0 then _ else _
    split
    · rename_i hz
      have ha0 : a = 0 := by
        have : Int.gcd a (euc EU s2 v).2.1 = 0 := by omega
        exact (Int.gcd_eq_zero_iff.1 this).1
      show (if 0 < (Int.gcd a (euc EU s2 v).2.1 : Int) then _ else _, _) = (euc EU t2 v).1
      rw [if_neg (by omega), c3 ha0]
    · rename_i hz
      refine ⟨c1.1, ?_⟩
      show ∃ t, (if 0 < (Int.gcd a (euc EU s2 v).2.1 : Int) then _ else _) = (euc EU t2 v).1.1 + t * (Int.gcd a (euc EU s2 v).2.1 : Int)
      rw [if_pos (by omega)]
      obtain ⟨t, ht⟩ := c1.2
      obtain ⟨q, hq⟩ : ((Int.gcd a (euc EU s2 v).2.1 : Nat) : Int) ∣ a := Int.gcd_dvd_left ..
      have hm := Int.mul_ediv_add_emod (euc EU s2 v).1.1 (Int.gcd a (euc EU s2 v).2.1 : Int)
      refine ⟨t * q - (euc EU s2 v).1.1 / (Int.gcd a (euc EU s2 v).2.1 : Int), ?_⟩
      generalize (Int.gcd a (euc EU s2 v).2.1 : Int) = G at hq hm ⊢
      rw [Int.sub_mul, Int.mul_assoc, Int.mul_comm q G, ← hq, Int.mul_comm _ G]
      have ht' : (euc EU s2 v).1.1 = (euc EU t2 v).1.1 + t * a := ht
      dsimp only at hm ⊢
      omega
  · show 0 ≤ (Int.gcd a (euc EU s2 v).2.1 : Int)
    omega
theorem sim_all : ∀ (xs : List V) (s t : Int × V), Sim s t → 0 ≤ s.1 → Sim (xs.foldl hStep s) (xs.foldl lStep t) ∧ 0 ≤ (xs.foldl hStep s).1
  | [], s, t, h, ha => ⟨h, ha⟩
  | v :: r, s, t, h, ha => by
    obtain ⟨h1, h2⟩ := sim_step h ha v
    exact sim_all r _ _ h1 h2
def latN (s : Int × V) : Lat := (s.1, (if s.2.2 < 0 then -s.2.1 else s.2.1) % s.1, if s.2.2 < 0 then -s.2.2 else s.2.2)
theorem mod_cong (a x y t : Int) (h : x = y + t * a) : x % a = y % a := by
  subst h; exact Int.add_mul_emod_self_right ..
theorem latN_sim {s t : Int × V} (h : Sim s t) (hp : 0 < s.1) : latN s = latN t := by
  obtain ⟨h1, h2⟩ := h
  rw [if_neg (by omega)] at h2
  obtain ⟨h3, q, hq⟩ := h2
  unfold latN
  rw [← h1, ← h3]
  congr 2
  split
  · exact mod_cong _ _ _ (-q) (by rw [hq, Int.neg_mul]; omega)
  · exact mod_cong _ _ _ q hq
structure Small (s : Int × V) : Prop where
  a : 0 < s.1 ∧ s.1 ≤ 1048576
  x : s.2.1.natAbs ≤ 1152921504606846976
  y : s.2.2.natAbs ≤ 1048576
theorem spec_Hermite_of (xs : List V) (hn : xs.length ≤ 1048576) (ok : OkAll hStep (0, 0, 0) xs) (hs : Small (xs.foldl hStep (0, 0, 0))) : spec_l03Hermite xs = some (latN (xs.foldl hStep (0, 0, 0))) := by
  have h1 := spec_all xs 0 0 0 hn xs.length 0 (0, 0, 0) (by omega) ok
  rw [show ((0 : Nat) : Int) = 0 from rfl, List.drop_zero] at h1
  have h1' : spec_l03Hermite_l0 xs 0 0 0 0 0 0 0 = _ := h1
  rw [spec_l03Hermite_eq, h1']
  generalize xs.foldl hStep (0, 0, 0) = s at hs ⊢
  obtain ⟨a, x, y⟩ := s
  obtain ⟨⟨a1, a2⟩, hx, hy⟩ := hs
  simp only at a1 a2 hx hy
  simp only [Option.bind_some, latN]
  by_cases hneg : y < 0
  · rw [decide_eq_true hneg, if_pos hneg, if_pos hneg]
    simp only [cond_true, spec_l01Scale_eq, Option.bind_some]
    rw [decide_eq_true a1, w64 (x := -1 * x) (by omega) (by omega), w64 (x := -1 * y) (by omega) (by omega)]
    simp only [cond_true]
    rw [spec_l01Mod_v _ _ a1 (by omega)]
    simp only [Option.bind_some, Int.neg_mul, Int.one_mul]
  · rw [decide_eq_false hneg, if_neg hneg, if_neg hneg, decide_eq_true a1]
    simp only [cond_true, cond_false]
    rw [spec_l01Mod_v _ _ a1 (by omega)]
    rfl
theorem impl_latticeOf_of (xs : List V) (hn : xs.length ≤ 1048576) (ok : OkAll lStep (0, 0, 0) xs) (hs : Small (xs.foldl lStep (0, 0, 0))) : impl_latticeOf xs = some (latN (xs.foldl lStep (0, 0, 0))) := by
  have h1 := impl_all xs 0 0 0 hn xs.length 0 (0, 0, 0) (by omega) ok
  rw [show ((0 : Nat) : Int) = 0 from rfl, List.drop_zero] at h1
  have h1' : impl_latticeOf_l0 0 xs (xs.length : Int) 0 0 0 0 0 0 = _ := h1
  rw [impl_latticeOf_eq, h1']
  generalize xs.foldl lStep (0, 0, 0) = s at hs ⊢
  obtain ⟨a, x, y⟩ := s
  obtain ⟨⟨a1, a2⟩, hx, hy⟩ := hs
  simp only at a1 a2 hx hy
  simp only [Option.bind_some, latN]
  by_cases hneg : y < 0
  · rw [decide_eq_true hneg, if_pos hneg, if_pos hneg]
    simp only [cond_true, impl_Vec_times_eq, Option.bind_some]
    rw [w64 (x := -1 * x) (by omega) (by omega), w64 (x := -1 * y) (by omega) (by omega), impl_mod_v _ _ a1 (by omega)]
    simp only [Option.bind_some, Int.neg_mul, Int.one_mul]
  · rw [decide_eq_false hneg, if_neg hneg, if_neg hneg]
    simp only [cond_false]
    rw [impl_mod_v _ _ a1 (by omega)]
    rfl
theorem euc_gcd : ∀ (n : Nat) (h v : V), v.2.natAbs < n → (euc n h v).1.2.natAbs = Int.gcd h.2 v.2 ∧ (euc n h v).2.2 = 0
  | 0, _, _, hn => by omega
  | n + 1, h, v, hn => by
    rw [euc]
    split
    · rename_i h0
      exact ⟨by rw [h0, Int.gcd_zero], h0⟩
    · rename_i h0
      obtain ⟨_, _, _, s4⟩ := dd_step h v h0
      have := euc_gcd n v (h.1 - Int.tdiv h.2 v.2 * v.1, h.2 - Int.tdiv h.2 v.2 * v.2) (by show (h.2 - _).natAbs < n; omega)
      refine ⟨?_, this.2⟩
      rw [this.1]
      show Int.gcd v.2 (h.2 - Int.tdiv h.2 v.2 * v.2) = _
      rw [sub_tdiv, gcd_tmod]
theorem euc_h1 : ∀ (n : Nat) (h v : V), (euc n h v).1.1.natAbs ≤ max h.1.natAbs (max v.1.natAbs (dd h v))
  | 0, h, v => by show h.1.natAbs ≤ _; omega
  | n + 1, h, v => by
    rw [euc]
    split
    · show h.1.natAbs ≤ _; omega
    · rename_i h0
      obtain ⟨s1, s2, _, _⟩ := dd_step h v h0
      have := euc_h1 n v (h.1 - Int.tdiv h.2 v.2 * v.1, h.2 - Int.tdiv h.2 v.2 * v.2)
      dsimp only at this
      omega
def Vs (v : V) : Prop := v.1.natAbs ≤ 64 ∧ v.2.natAbs ≤ 64
theorem dd_small {h v : V} (hv : Vs v) : dd h v ≤ 64 * h.1.natAbs + 64 * h.2.natAbs := by
  unfold dd
  have h1 := Nat.mul_le_mul_left h.1.natAbs hv.2
  have h2 := Nat.mul_le_mul_right h.2.natAbs hv.1
  omega
theorem euc_step {h v : V} (hv : Vs v) (hy : h.2 ≠ 0) (hyl : h.2.natAbs ≤ 64) :
    ((euc EU h v).1.2.natAbs = h.2.natAbs ∧ (euc EU h v).1.1.natAbs ≤ max h.1.natAbs 64) ∨ (2 * (euc EU h v).1.2.natAbs ≤ h.2.natAbs ∧ (euc EU h v).1.1.natAbs ≤ 64 * h.1.natAbs + 4096) := by
  have hv2 : v.2.natAbs < EU := by have := hv.2; unfold EU; omega
  obtain ⟨g1, _⟩ := euc_gcd EU h v hv2
  by_cases hd : h.2 ∣ v.2
  · left
    have hg : Int.gcd h.2 v.2 = h.2.natAbs := Nat.gcd_eq_left (Int.natAbs_dvd_natAbs.2 hd)
    refine ⟨by omega, ?_⟩
    rw [show EU = (1048574 + 1) + 1 + 1 from rfl, euc]
    split
    · show h.1.natAbs ≤ _; omega
    · rename_i h0
      have hle : h.2.natAbs ≤ v.2.natAbs := Nat.le_of_dvd (by omega) (Int.natAbs_dvd_natAbs.2 hd)
      rw [euc]
      by_cases he : h.2.natAbs = v.2.natAbs
      · have : h.2 - Int.tdiv h.2 v.2 * v.2 = 0 := by
          rw [sub_tdiv]
          have := Int.natAbs_tmod h.2 v.2
          rw [he, Nat.mod_self] at this
          omega
        rw [if_pos this]
        have := hv.1
        show v.1.natAbs ≤ _
        omega
      · have hq : Int.tdiv h.2 v.2 = 0 := by
          have h1 : (Int.tdiv h.2 v.2).natAbs = h.2.natAbs / v.2.natAbs := Int.natAbs_tdiv h.2 v.2
          rw [Nat.div_eq_of_lt (by omega)] at h1
          omega
        rw [hq]
        simp only [Int.zero_mul, Int.sub_zero]
        rw [if_neg hy, euc]
        have : v.2 - Int.tdiv v.2 h.2 * h.2 = 0 := by
          rw [sub_tdiv, Int.tmod_eq_zero_of_dvd hd]
        rw [if_pos this]
        show h.1.natAbs ≤ _
        omega
  · right
    have hgd : Int.gcd h.2 v.2 ∣ h.2.natAbs := by
      have := Int.gcd_dvd_left (a := h.2) (b := v.2)
      exact Int.ofNat_dvd_left.1 this
    obtain ⟨q, hq⟩ := hgd
    have hne : q ≠ 1 := by
      intro h1
      rw [h1, Nat.mul_one] at hq
      apply hd
      have := Int.gcd_dvd_right (a := h.2) (b := v.2)
      rw [← hq] at this
      exact Int.natAbs_dvd.1 this
    have hq0 : q ≠ 0 := by intro h1; rw [h1] at hq; omega
    have : Int.gcd h.2 v.2 * 2 ≤ Int.gcd h.2 v.2 * q := Nat.mul_le_mul_left _ (by omega)
    have e1 := euc_h1 EU h v
    have e2 := dd_small (h := h) hv
    have := hv.1
    refine ⟨by omega, by omega⟩
/-! ### The first list -/
structure HInv (s : Int × V) : Prop where
  a : 0 < s.1 ∧ s.1 ≤ 64
  x : s.2.1.natAbs ≤ 64
  y : s.2.2 ≠ 0 ∧ s.2.2.natAbs ≤ 64
theorem gcd_le_left (a b : Int) (h : 0 < a) : (Int.gcd a b : Int) ≤ a ∧ 0 < (Int.gcd a b : Int) := by
  have h1 : 0 < Int.gcd a b := Int.gcd_pos_of_ne_zero_left _ (by omega)
  have h2 := Int.le_of_dvd h (Int.gcd_dvd_left (a := a) (b := b))
  omega
theorem HInv.step {s : Int × V} (i : HInv s) {v : V} (hv : Vs v) : Ok s v ∧ HInv (hStep s v) := by
  obtain ⟨⟨a1, a2⟩, hx, hy1, hy2⟩ := i
  have e2 := dd_small (h := s.2) hv
  have v1 := hv.1
  have v2 := hv.2
  have g := gcd_le_left s.1 (euc EU s.2 v).2.1 a1
  have st := euc_step hv hy1 hy2
  obtain ⟨g1, _⟩ := euc_gcd EU s.2 v (by unfold EU; omega)
  have g0 : 0 < Int.gcd s.2.2 v.2 := Int.gcd_pos_of_ne_zero_left _ hy1
  refine ⟨⟨⟨by omega, by omega, by omega, by omega, by omega⟩, by omega, by omega⟩, ?_⟩
  unfold hStep
  refine ⟨by dsimp only; omega, ?_, by dsimp only; omega⟩
  dsimp only
  rw [if_pos g.2]
  have m1 := Int.emod_nonneg (euc EU s.2 v).1.1 (show (Int.gcd s.1 (euc EU s.2 v).2.1 : Int) ≠ 0 by omega)
  have m2 := Int.emod_lt_of_pos (euc EU s.2 v).1.1 g.2
  omega
theorem HInv.all : ∀ (xs : List V) (s : Int × V), HInv s → (∀ v ∈ xs, Vs v) → OkAll hStep s xs ∧ HInv (xs.foldl hStep s)
  | [], s, i, _ => ⟨trivial, i⟩
  | v :: r, s, i, h => by
    obtain ⟨h1, h2⟩ := i.step (h v (List.mem_cons_self ..))
    obtain ⟨h3, h4⟩ := HInv.all r _ h2 fun w hw => h w (List.mem_cons_of_mem _ hw)
    exact ⟨⟨h1, h3⟩, h4⟩
/-! ### The second list -/
structure LInv (s : Int × V) : Prop where
  a : 0 < s.1 ∧ s.1 ≤ 64
  y : s.2.2 ≠ 0 ∧ s.2.2.natAbs ≤ 64
  x : (s.2.1.natAbs + 64) * s.2.2.natAbs ^ 7 ≤ 562949953421312
theorem pow_half {a b : Nat} (h : 2 * a ≤ b) : 128 * a ^ 7 ≤ b ^ 7 := by
  have := Nat.pow_le_pow_left h 7
  rw [Nat.mul_pow] at this
  simpa using this
theorem LInv.step {s : Int × V} (i : LInv s) {v : V} (hv : Vs v) : Ok s v ∧ LInv (lStep s v) := by
  obtain ⟨⟨a1, a2⟩, ⟨hy1, hy2⟩, hx⟩ := i
  have e2 := dd_small (h := s.2) hv
  have v1 := hv.1
  have v2 := hv.2
  have g := gcd_le_left s.1 (euc EU s.2 v).2.1 a1
  have st := euc_step hv hy1 hy2
  obtain ⟨g1, _⟩ := euc_gcd EU s.2 v (by unfold EU; omega)
  have g0 : 0 < Int.gcd s.2.2 v.2 := Int.gcd_pos_of_ne_zero_left _ hy1
  have p1 : 1 ≤ s.2.2.natAbs ^ 7 := Nat.one_le_pow _ _ (by omega)
  have hxl : s.2.1.natAbs + 64 ≤ 562949953421312 := by
    have := Nat.mul_le_mul_left (s.2.1.natAbs + 64) p1
    omega
  refine ⟨⟨⟨by omega, by omega, by omega, by omega, by omega⟩, by omega, by omega⟩, ?_⟩
  unfold lStep
  refine ⟨by dsimp only; omega, by dsimp only; omega, ?_⟩
  dsimp only
  rcases st with ⟨s1, s2⟩ | ⟨s1, s2⟩
  · rw [s1]
    by_cases hm : s.2.1.natAbs ≤ 64
    · have q1 := Nat.pow_le_pow_left hy2 7
      have q2 := Nat.mul_le_mul (show (euc EU s.2 v).1.1.natAbs + 64 ≤ 128 by omega) q1
      exact Nat.le_trans q2 (by decide)
    · have q2 := Nat.mul_le_mul_right (s.2.2.natAbs ^ 7) (show (euc EU s.2 v).1.1.natAbs + 64 ≤ s.2.1.natAbs + 64 by omega)
      omega
  · have q1 := pow_half s1
    have q2 := Nat.mul_le_mul (show (euc EU s.2 v).1.1.natAbs + 64 ≤ 128 * (s.2.1.natAbs + 64) by omega) (Nat.le_refl ((euc EU s.2 v).1.2.natAbs ^ 7))
    have q3 := Nat.mul_le_mul_left (s.2.1.natAbs + 64) q1
    rw [Nat.mul_comm 128, Nat.mul_assoc] at q2
    omega
theorem LInv.all : ∀ (xs : List V) (s : Int × V), LInv s → (∀ v ∈ xs, Vs v) → OkAll lStep s xs ∧ LInv (xs.foldl lStep s)
  | [], s, i, _ => ⟨trivial, i⟩
  | v :: r, s, i, h => by
    obtain ⟨h1, h2⟩ := i.step (h v (List.mem_cons_self ..))
    obtain ⟨h3, h4⟩ := LInv.all r _ h2 fun w hw => h w (List.mem_cons_of_mem _ hw)
    exact ⟨⟨h1, h3⟩, h4⟩
theorem LInv.small {s : Int × V} (i : LInv s) : Small s := by
  obtain ⟨⟨a1, a2⟩, ⟨hy1, hy2⟩, hx⟩ := i
  have p1 : 1 ≤ s.2.2.natAbs ^ 7 := Nat.one_le_pow _ _ (by omega)
  have := Nat.mul_le_mul_left (s.2.1.natAbs + 64) p1
  exact ⟨by omega, by omega, by omega⟩
theorem HInv.small {s : Int × V} (i : HInv s) : Small s := by
  obtain ⟨⟨a1, a2⟩, hx, hy1, hy2⟩ := i
  exact ⟨by omega, by omega, by omega⟩
/-! ### A lattice's vectors and more -/
theorem euc_flat (n : Nat) (h v : V) (h0 : v.2 = 0) : euc (n + 1) h v = (h, v) := by rw [euc, if_pos h0]
theorem two_steps {l : Lat} (hl : isLat l = true) : hStep (hStep (0, 0, 0) (l.1, 0)) l.2 = (l.1, l.2) ∧ lStep (lStep (0, 0, 0) (l.1, 0)) l.2 = (l.1, l.2) ∧ Ok (0, 0, 0) (l.1, 0) ∧ Ok (l.1, 0, 0) l.2 ∧ hStep (0, 0, 0) (l.1, 0) = (l.1, 0, 0) ∧ lStep (0, 0, 0) (l.1, 0) = (l.1, 0, 0) := by
  obtain ⟨⟨a1, a2⟩, ⟨c1, c2⟩, ⟨b1, b2⟩, _⟩ := isLat_iff.1 hl
  obtain ⟨a, b, c⟩ := l
  simp only at a1 a2 c1 c2 b1 b2
  have e1 : euc EU (0, 0) (a, 0) = ((0, 0), (a, 0)) := euc_flat 1048576 _ _ rfl
  have e2 : euc EU (0, 0) (b, c) = ((b, c), (0, 0)) := by
    rw [show EU = 1048575 + 1 + 1 from rfl, euc, if_neg (show ¬ (c = 0) by omega)]
    have : Int.tdiv 0 c = 0 := Int.zero_tdiv c
    simp only [this, Int.zero_mul, Int.sub_zero]
    rw [euc_flat _ _ _ rfl]
  have ga : ((Int.gcd 0 a : Nat) : Int) = a := by rw [Int.gcd_comm, Int.gcd_zero]; omega
  have gb : ((Int.gcd a 0 : Nat) : Int) = a := by rw [Int.gcd_zero]; omega
  have h1 : hStep (0, 0, 0) (a, 0) = (a, 0, 0) := by
    unfold hStep
    simp only [e1, ga]
    rw [if_pos (by omega), Int.zero_emod]
  have l1 : lStep (0, 0, 0) (a, 0) = (a, 0, 0) := by
    unfold lStep
    simp only [e1, ga]
  refine ⟨?_, ?_, ?_, ?_, h1, l1⟩
  · rw [h1]
    unfold hStep
    simp only [e2, gb]
    rw [if_pos (by omega), Int.emod_eq_of_lt (by omega) (by omega)]
  · rw [l1]
    unfold lStep
    simp only [e2, gb]
  · refine ⟨⟨?_, ?_, ?_, ?_, ?_⟩, ?_, ?_⟩
    · simp [dd]
    · simp
    · show a.natAbs ≤ _; omega
    · simp
    · simp
    · simp
    · simp only [e1, ga]; omega
  · refine ⟨⟨?_, ?_, ?_, ?_, ?_⟩, ?_, ?_⟩
    · simp [dd]
    · simp
    · show b.natAbs ≤ _; omega
    · simp
    · show c.natAbs ≤ _; omega
    · show 0 ≤ a ∧ a ≤ _; omega
    · simp only [e2, gb]; omega
def latWith (l : Lat) (xs : List V) : Lat := latN (xs.foldl hStep (l.1, l.2))
theorem latWith_both {l : Lat} (hl : isLat l = true) (xs : List V) (hx : ∀ v ∈ xs, Vs v) (hn : xs.length ≤ 1048000) :
    spec_l03Hermite ((l.1, 0) :: l.2 :: xs) = some (latWith l xs) ∧ impl_latticeOf ((l.1, 0) :: l.2 :: xs) = some (latWith l xs) := by
  obtain ⟨t1, t2, o1, o2, f1, f2⟩ := two_steps hl
  obtain ⟨⟨a1, a2⟩, ⟨c1, c2⟩, ⟨b1, b2⟩, _⟩ := isLat_iff.1 hl
  have ih : HInv (l.1, l.2) := ⟨by dsimp only; omega, by show l.2.1.natAbs ≤ 64; omega, by show l.2.2 ≠ 0 ∧ l.2.2.natAbs ≤ 64; omega⟩
  have il : LInv (l.1, l.2) := by
    refine ⟨by dsimp only; omega, by show l.2.2 ≠ 0 ∧ l.2.2.natAbs ≤ 64; omega, ?_⟩
    show (l.2.1.natAbs + 64) * l.2.2.natAbs ^ 7 ≤ _
    have q1 := Nat.pow_le_pow_left (show l.2.2.natAbs ≤ 64 by omega) 7
    exact Nat.le_trans (Nat.mul_le_mul (show l.2.1.natAbs + 64 ≤ 128 by omega) q1) (by decide)
  obtain ⟨h1, h2⟩ := ih.all xs _ hx
  obtain ⟨l1, l2⟩ := il.all xs _ hx
  have hs : OkAll hStep (0, 0, 0) ((l.1, 0) :: l.2 :: xs) := ⟨o1, by rw [f1]; exact o2, by rw [t1]; exact h1⟩
  have ls : OkAll lStep (0, 0, 0) ((l.1, 0) :: l.2 :: xs) := ⟨o1, by rw [f2]; exact o2, by rw [t2]; exact l1⟩
  have r1 := spec_Hermite_of _ (by simp only [List.length_cons]; omega) hs (by rw [List.foldl_cons, List.foldl_cons, t1]; exact h2.small)
  have r2 := impl_latticeOf_of _ (by simp only [List.length_cons]; omega) ls (by rw [List.foldl_cons, List.foldl_cons, t2]; exact l2.small)
  rw [List.foldl_cons, List.foldl_cons, t1] at r1
  rw [List.foldl_cons, List.foldl_cons, t2] at r2
  refine ⟨r1, ?_⟩
  rw [r2]
  have := (sim_all xs (l.1, l.2) (l.1, l.2) ⟨rfl, by rw [if_neg (show ¬ (l.1 = 0) by omega)]; exact ⟨rfl, 0, by simp⟩⟩ (by show 0 ≤ l.1; omega)).1
  unfold latWith
  rw [latN_sim this h2.a.1]
end Go.Proofs.YtpboclokodgnlaaGreat
