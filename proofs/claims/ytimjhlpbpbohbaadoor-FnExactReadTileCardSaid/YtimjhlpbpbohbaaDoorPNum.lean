/-
  Numbers as texts: what the reference and the program read.
-/
import Derived.Test.YtimjhlpbpbohbaaDoorPSp
namespace Go.Proofs.YtimjhlpbpbohbaaDoor
open Ai
open Go.Lib (itoa decDigits parseIntB parseUintB parseUintM signlessC signedC)
set_option linter.unusedSimpArgs false
set_option linter.unusedVariables false
theorem u8_small {z : Int} (h0 : 0 ≤ z) (h1 : z ≤ 255) : IntKind.u8.wrap z = z := by
  simp only [IntKind.wrap, IntKind.signed, IntKind.bits]
  simp
  omega
def isDig (b : UInt8) : Bool := decide (48 ≤ b.toNat) && decide (b.toNat ≤ 57)
def valA (a : Nat) (l : List UInt8) : Nat := l.foldl (fun a b => a * 10 + (b.toNat - 48)) a
theorem valA_cons (a : Nat) (b : UInt8) (l : List UInt8) : valA a (b :: l) = valA (a * 10 + (b.toNat - 48)) l := by
  unfold valA
  rw [List.foldl_cons]
theorem valA_ge : ∀ (l : List UInt8) (a : Nat), a ≤ valA a l
  | [], a => Nat.le_refl _
  | b :: l, a => by
    rw [valA_cons]
    have := valA_ge l (a * 10 + (b.toNat - 48))
    omega
theorem dig_of : ∀ k : Fin 10, isDig (UInt8.ofNat (48 + k.val)) = true ∧ (UInt8.ofNat (48 + k.val)).toNat = 48 + k.val := by decide +kernel
theorem dec_facts (n : Nat) : (decDigits n).all isDig = true ∧ valA 0 (decDigits n) = n ∧ decDigits n ≠ [] := by
  induction n using Nat.strongRecOn with
  | _ n ih =>
    by_cases h : n < 10
    · obtain ⟨d1, d2⟩ := dig_of ⟨n, h⟩
      simp only at d1 d2
      rw [decDigits, dif_pos h]
      refine ⟨by rw [List.all_cons, d1]; rfl, ?_, by simp⟩
      show 0 * 10 + ((UInt8.ofNat (48 + n)).toNat - 48) = n
      rw [d2]; omega
    · obtain ⟨i1, i2, i3⟩ := ih (n / 10) (by omega)
      obtain ⟨d1, d2⟩ := dig_of ⟨n % 10, by omega⟩
      simp only at d1 d2
      rw [decDigits, dif_neg h]
      refine ⟨by rw [List.all_append, i1, List.all_cons, d1]; rfl, ?_, by simp⟩
      unfold valA at i2 ⊢
      rw [List.foldl_append, i2]
      show n / 10 * 10 + ((UInt8.ofNat (48 + n % 10)).toNat - 48) = n
      rw [d2]; omega
theorem dec_len10 : ∀ (k n : Nat), n < 10 ^ (k + 1) → (decDigits n).length ≤ k + 1
  | 0, n, h => by
    rw [decDigits, dif_pos (by omega)]
    simp
  | k + 1, n, h => by
    by_cases h10 : n < 10
    · rw [decDigits, dif_pos h10]; simp
    · rw [decDigits, dif_neg h10, List.length_append, List.length_singleton]
      have := dec_len10 k (n / 10) (by rw [Nat.pow_succ] at h; omega)
      omega
theorem dec_len9 (n : Nat) : (decDigits n).length ≤ n + 1 := by
  induction n using Nat.strongRecOn with
  | _ n ih =>
    by_cases h : n < 10
    · rw [decDigits, dif_pos h]; simp
    · rw [decDigits, dif_neg h, List.length_append, List.length_singleton]
      have := ih (n / 10) (by omega)
      omega
theorem digit_v : ∀ k : Fin 10, ofInts [IntKind.u8.wrap (IntKind.i64.wrap (48 + (k.val : Int)))] = [UInt8.ofNat (48 + k.val)] := by decide +kernel
theorem dec_v (n : Nat) (hn : n ≤ 1000000000000) : spec_l01Dec (n : Int) = some (decDigits n) := by
  induction n using Nat.strongRecOn with
  | _ n ih =>
    rw [spec_l01Dec_eq]
    by_cases h : n < 10
    · rw [decide_eq_true (by omega), decDigits, dif_pos h]
      have := digit_v ⟨n, h⟩
      simp only at this
      rw [this]
      rfl
    · have e1 : Int.tdiv (n : Int) 10 = ((n / 10 : Nat) : Int) := by
        rw [Int.tdiv_eq_ediv_of_nonneg (by omega)]; omega
      have e2 : Int.tmod (n : Int) 10 = ((n % 10 : Nat) : Int) := by
        rw [Int.tmod_eq_emod_of_nonneg (by omega)]; omega
      have hl := dec_len9 (n / 10)
      have h3 := digit_v ⟨n % 10, by omega⟩
      simp only at h3
      rw [decide_eq_false (by omega), show decide ((10 : Nat) = 0) = false from rfl, e1, e2, w64 (x := ((n / 10 : Nat) : Int)) (by omega) (by omega), ih (n / 10) (by omega) (by omega), h3]
      simp only [cond_false, Option.bind_some]
      rw [decide_eq_true (by simp only [List.length_singleton]; omega)]
      conv => rhs; rw [decDigits, dif_neg h]
      rfl
/-! ### The reference -/
theorem pow10_le {i : Nat} (h : i ≤ 10) : (10 : Nat) ^ i ≤ 10000000000 := Nat.le_trans (Nat.pow_le_pow_right (by decide) h) (by decide)
theorem digits_loop9 (s : List UInt8) (hn : s.length ≤ 10) : ∀ (d i n : Nat), i + d = s.length → n < 10 ^ i →
    spec_l01Digits_l0 s (n : Int) (i : Int) = some (if (s.drop i).all isDig = true then .inl (s, ((valA n (s.drop i) : Nat) : Int)) else .inr (0, false)) ∧ ((s.drop i).all isDig = true → valA n (s.drop i) < 10 ^ s.length)
  | 0, i, n, hi, hb => by
    rw [spec_l01Digits_l0_eq, decide_eq_false (by omega), List.drop_eq_nil_of_le (by omega)]
    have : i = s.length := by omega
    exact ⟨rfl, fun _ => by rw [← this]; exact hb⟩
  | d + 1, i, n, hi, hb => by
    have hlt : i < s.length := by omega
    have hp := pow10_le (i := i) (by omega)
    rw [spec_l01Digits_l0_eq, decide_eq_true (by omega), rd_lt hlt, List.drop_eq_getElem_cons hlt]
    simp only [cond_true, Option.bind_some, Option.bind_fun_some]
    rw [wnext hlt (by omega), List.all_cons, valA_cons]
    by_cases h1 : ((s[i].toNat : Nat) : Int) < 48
    · have : isDig s[i] = false := by unfold isDig; rw [decide_eq_false (by omega)]; rfl
      rw [decide_eq_true h1, this]
      exact ⟨rfl, fun h => by cases h⟩
    · rw [decide_eq_false h1, cond_false]
      by_cases h2 : (57 : Int) < ((s[i].toNat : Nat) : Int)
      · have : isDig s[i] = false := by unfold isDig; rw [decide_eq_false (p := s[i].toNat ≤ 57) (by omega), Bool.and_false]
        rw [decide_eq_true h2, this]
        exact ⟨rfl, fun h => by cases h⟩
      · have hd : isDig s[i] = true := by unfold isDig; rw [decide_eq_true (by omega), decide_eq_true (by omega)]; rfl
        have e : IntKind.i64.wrap (IntKind.i64.wrap (10 * (n : Int)) + IntKind.i64.wrap (IntKind.u8.wrap (((s[i].toNat : Nat) : Int) - 48))) = ((n * 10 + (s[i].toNat - 48) : Nat) : Int) := by
          rw [u8_small (by omega) (by omega), w64 (x := 10 * (n : Int)) (by omega) (by omega), w64 (x := ((s[i].toNat : Nat) : Int) - 48) (by omega) (by omega), w64 (by omega) (by omega)]
          omega
        have ih := digits_loop9 s hn d (i + 1) (n * 10 + (s[i].toNat - 48)) (by omega) (by rw [Nat.pow_succ]; omega)
        rw [decide_eq_false h2, cond_false, e, hd, Bool.true_and]
        exact ih
theorem digits_v (s : List UInt8) : ∃ n ok, spec_l01Digits s = some (n, ok) ∧ 0 ≤ n ∧ n < 10000000000 ∧ (ok = true → s = decDigits n.toNat) ∧ (∀ m : Nat, m < 10000000000 → s = decDigits m → ok = true ∧ n = (m : Int)) := by
  rw [spec_l01Digits_eq]
  by_cases h1 : (s.length : Int) < 1
  · rw [decide_eq_true h1]
    refine ⟨0, false, rfl, by omega, by omega, (fun h => by cases h), fun m _ e => ?_⟩
    have := (dec_facts m).2.2
    have h0 : s = [] := List.length_eq_zero_iff.1 (by omega)
    rw [← e] at this
    exact (this h0).elim
  · rw [decide_eq_false h1, cond_false]
    by_cases h2 : 10 < (s.length : Int)
    · rw [decide_eq_true h2]
      refine ⟨0, false, rfl, by omega, by omega, (fun h => by cases h), fun m hm e => ?_⟩
      have := dec_len10 9 m (by omega)
      rw [← e] at this
      omega
    · rw [decide_eq_false h2, cond_false]
      obtain ⟨e1, e2⟩ := digits_loop9 s (by omega) s.length 0 0 (by omega) (by simp)
      rw [List.drop_zero] at e1 e2
      rw [show spec_l01Digits_l0 s 0 0 = _ from e1]
      cases hd : s.all isDig with
      | false =>
        refine ⟨0, false, by simp, by omega, by omega, (fun h => by cases h), fun m hm e => ?_⟩
        rw [e, (dec_facts m).1] at hd
        cases hd
      | true =>
        have hb := Nat.lt_of_lt_of_le (e2 hd) (pow10_le (by omega))
        have hdec := dec_v (valA 0 s) (by omega)
        by_cases hs : decDigits (valA 0 s) = s
        · refine ⟨((valA 0 s : Nat) : Int), true, ?_, by omega, by omega, fun _ => by rw [Int.toNat_natCast]; exact hs.symm, fun m hm e => ⟨rfl, ?_⟩⟩
          · simp [hdec, hs]
          · rw [e, (dec_facts m).2.1]
        · refine ⟨((valA 0 s : Nat) : Int), false, ?_, by omega, by omega, (fun h => by cases h), fun m hm e => ?_⟩
          · simp [hdec, hs]
          · rw [e, (dec_facts m).2.1] at hs
            exact (hs rfl).elim
theorem itoa_pos {v : Int} (h : 0 ≤ v) : itoa v = decDigits v.toNat := by unfold Go.Lib.itoa; rw [if_neg (by omega)]
theorem itoa_neg9 {v : Int} (h : v < 0) : itoa v = 45 :: decDigits v.natAbs := by unfold Go.Lib.itoa; rw [if_pos h]
theorem dec_head (m : Nat) : ∃ c r, decDigits m = c :: r ∧ isDig c = true := by
  obtain ⟨d1, _, d3⟩ := dec_facts m
  obtain ⟨c, r, h⟩ := List.exists_cons_of_ne_nil d3
  rw [h, List.all_cons, Bool.and_eq_true] at d1
  exact ⟨c, r, h, d1.1⟩
theorem signed_v (s : List UInt8) (hn : s.length ≤ 1048576) : ∃ n ok, spec_l01Signed s = some (n, ok) ∧ (ok = true → s = itoa n ∧ n.natAbs < 10000000000) ∧ (∀ v : Int, v.natAbs < 10000000000 → s = itoa v → ok = true ∧ n = v) := by
  rw [spec_l01Signed_eq]
  have plain : (∀ r, s ≠ 45 :: r) → ∃ n ok, (Option.bind (spec_l01Digits s) fun y4 => (cond y4.2 (some (y4.1, true)) (some (y4.1, false)))) = some (n, ok) ∧ (ok = true → s = itoa n ∧ n.natAbs < 10000000000) ∧ (∀ v : Int, v.natAbs < 10000000000 → s = itoa v → ok = true ∧ n = v) := fun h45 => by
    obtain ⟨n, ok, e1, e2, e3, e4, e5⟩ := digits_v s
    refine ⟨n, ok, by rw [e1]; cases ok <;> rfl, fun h => ⟨by rw [itoa_pos e2]; exact e4 h, by omega⟩, fun v hv e => ?_⟩
    by_cases hv0 : v < 0
    · rw [itoa_neg9 hv0] at e
      exact (h45 _ e).elim
    · rw [itoa_pos (by omega)] at e
      obtain ⟨h1, h2⟩ := e5 v.toNat (by omega) e
      exact ⟨h1, by omega⟩
  by_cases h0 : 0 < (s.length : Int)
  · obtain ⟨b, r, rfl⟩ := List.exists_cons_of_ne_nil (show s ≠ [] by intro e; rw [e] at h0; simp at h0)
    rw [decide_eq_true h0, cond_true, show rd (b :: r) 0 = some b from rfl]
    simp only [Option.bind_some]
    by_cases hb : b = 45
    · subst hb
      have hc : cut (Int.toNat 1) (45 :: r).length (45 :: r) = r := by unfold cut; rw [List.take_length]; rfl
      rw [decide_eq_true (show ((UInt8.toNat 45 : Nat) : Int) = 45 from rfl), cond_true, hc, show decide ((0 : Nat) ≤ 1) = true from rfl, decide_eq_true (p := (1 : Int) ≤ ((45 :: r : List UInt8).length : Int)) (by simp only [List.length_cons]; omega)]
      simp only [Bool.and_true, cond_true]
      obtain ⟨n, ok, e1, e2, e3, e4, e5⟩ := digits_v r
      rw [e1]
      simp only [Option.bind_some]
      rw [w64 (x := 0 - n) (by omega) (by omega)]
      have conv : ∀ v : Int, v.natAbs < 10000000000 → (45 :: r : List UInt8) = itoa v → ok = true ∧ 0 < n ∧ 0 - n = v := fun v hv e => by
        by_cases hv0 : v < 0
        · rw [itoa_neg9 hv0] at e
          obtain ⟨h1, h2⟩ := e5 v.natAbs hv (List.cons_eq_cons.1 e).2
          exact ⟨h1, by omega, by omega⟩
        · rw [itoa_pos (by omega)] at e
          obtain ⟨c, q, hc, hd⟩ := dec_head v.toNat
          rw [hc] at e
          have := (List.cons_eq_cons.1 e).1
          rw [← this] at hd
          exact absurd hd (by decide)
      cases ok with
      | false => exact ⟨0 - n, false, rfl, (fun h => by cases h), fun v hv e => by have := (conv v hv e).1; cases this⟩
      | true =>
        by_cases hn0 : 0 < n
        · refine ⟨0 - n, true, by rw [decide_eq_true hn0]; rfl, fun _ => ⟨?_, by omega⟩, fun v hv e => ⟨rfl, (conv v hv e).2.2⟩⟩
          rw [itoa_neg9 (by omega), e4 rfl]
          congr 2
          omega
        · exact ⟨0 - n, false, by rw [decide_eq_false hn0]; rfl, (fun h => by cases h), fun v hv e => (hn0 (conv v hv e).2.1).elim⟩
    · rw [decide_eq_false (fun h => hb (UInt8.toNat_inj.1 (by rw [show UInt8.toNat 45 = 45 from rfl]; omega))), cond_false]
      exact plain fun q e => hb (List.cons_eq_cons.1 e).1
  · rw [decide_eq_false h0, cond_false]
    refine plain fun q e => ?_
    rw [e] at h0
    simp only [List.length_cons] at h0
    omega
/-! ### The program -/
theorem uintM_v : ∀ (l : List UInt8) (a : Nat), l.all isDig = true → valA a l ≤ 9223372036854775808 → parseUintM (2 ^ 64 - 1) a l = .ok (valA a l)
  | [], a, _, _ => rfl
  | b :: l, a, h, hv => by
    rw [List.all_cons, Bool.and_eq_true] at h
    have hd := h.1
    unfold isDig at hd
    rw [Bool.and_eq_true, decide_eq_true_iff, decide_eq_true_iff] at hd
    rw [valA_cons] at hv ⊢
    have hg := valA_ge l (a * 10 + (b.toNat - 48))
    rw [parseUintM, if_pos hd, if_neg (by omega), if_neg (by omega)]
    exact uintM_v l _ h.2 hv
theorem parse_itoa {v : Int} (h0 : -9223372036854775808 ≤ v) (h1 : v ≤ 9223372036854775807) : parseIntB 64 (itoa v) = .ok v := by
  by_cases hv : v < 0
  · obtain ⟨d1, d2, d3⟩ := dec_facts v.natAbs
    rw [itoa_neg9 hv, Go.Lib.parseIntB_minus, parseUintB, if_neg d3, uintM_v _ _ d1 (by rw [d2]; omega), d2]
    unfold Go.Lib.signedC
    simp only
    rw [if_neg (by omega)]
    congr 1
    omega
  · obtain ⟨d1, d2, d3⟩ := dec_facts v.toNat
    obtain ⟨c, r, hc, hd⟩ := dec_head v.toNat
    unfold isDig at hd
    rw [Bool.and_eq_true, decide_eq_true_iff, decide_eq_true_iff] at hd
    rw [itoa_pos (by omega), hc, Go.Lib.parseIntB_plain _ _ _ (by omega) (by omega), ← hc, parseUintB, if_neg d3, uintM_v _ _ d1 (by rw [d2]; omega), d2]
    unfold Go.Lib.signlessC
    simp only
    rw [if_neg (by omega)]
    congr 1
    omega
theorem number_v (s : List UInt8) (hn : s.length ≤ 1048576) : ∃ n ok, impl_number s = some (n, ok) ∧ (ok = true → s = itoa n) ∧ (∀ v : Int, v.natAbs < 10000000000 → s = itoa v → ok = true ∧ n = v) := by
  rw [impl_number_ext]
  unfold numX
  rw [if_pos (by omega)]
  refine ⟨(numV s).1, (numV s).2, rfl, fun h => ?_, fun v hv e => ?_⟩
  · unfold numV at h ⊢
    cases hp : parseIntB 64 s with
    | ok v => rw [hp] at h; exact (of_decide_eq_true h).symm
    | «syntax» => rw [hp] at h; cases h
    | range => rw [hp] at h; cases h
  · unfold numV
    have hp := parse_itoa (v := v) (by omega) (by omega)
    rw [← e] at hp
    rw [hp]
    exact ⟨decide_eq_true e.symm, rfl⟩
end Go.Proofs.YtimjhlpbpbohbaaDoor
