/-
  Plain words: whole numbers that fit, reading a list, loops over an index.
-/
import Derived.Test.YtpboclokodgnlaaGreatQP0
import Derived.Test.YtpboclokodgnlaaGreatQP1
namespace Go.Proofs.YtpboclokodgnlaaGreat
open Pre Ai
set_option linter.unusedSimpArgs false
set_option linter.unusedVariables false
set_option linter.unnecessarySimpa false
theorem w64 {x : Int} (h1 : -9223372036854775808 ≤ x) (h2 : x ≤ 9223372036854775807) : IntKind.i64.wrap x = x := by
  simp only [IntKind.wrap, IntKind.signed, IntKind.bits]
  simp
  omega
theorem cond_ite {α : Type} (b : Bool) (x y : α) : (cond b x y) = if b = true then x else y := by cases b <;> rfl
theorem rd_nat {α : Type} (xs : List α) (k : Nat) : rd xs (k : Int) = xs[k]? := by simp [rd]
theorem rd_lt {α : Type} {xs : List α} {k : Nat} (h : k < xs.length) : rd xs (k : Int) = some xs[k] := by rw [rd_nat, List.getElem?_eq_getElem h]
theorem rd_int {α : Type} {xs : List α} {i : Int} (h0 : 0 ≤ i) (h : i < (xs.length : Int)) : rd xs i = some (xs[i.toNat]'(by omega)) := by
  obtain ⟨k, rfl⟩ := Int.eq_ofNat_of_zero_le h0
  rw [rd_lt (by omega)]
  simp
theorem wnext {k n : Nat} (h : k < n) (hn : n ≤ 9223372036854775807) : IntKind.i64.wrap ((k : Int) + 1) = ((k + 1 : Nat) : Int) := by
  rw [w64 (by omega) (by omega)]; omega
theorem lenLe {α : Type} {xs : List α} (h : xs.length ≤ Go.maxLen) : (xs.length : Int) ≤ 9223372036854775807 := by
  unfold Go.maxLen at h; omega
theorem scan_all {R : Type} {L : Int → Option R} {n : Nat} {p : Nat → Bool} {good : R} {bad : Nat → R}
    (hs : ∀ k : Nat, k < n → L k = if p k = true then L ((k + 1 : Nat) : Int) else some (bad k)) (hf : L n = some good) :
    ∀ k : Nat, k ≤ n → L k = some (match (List.range' k (n - k)).find? (fun i => !p i) with | none => good | some i => bad i) := by
  intro k hk
  induction hm : n - k generalizing k with
  | zero =>
    have : k = n := by omega
    subst this
    simpa using hf
  | succ m ih =>
    rw [hs k (by omega)]
    rw [List.range'_succ]
    cases hp : p k with
    | true =>
      simp only [if_true]
      rw [ih (k + 1) (by omega) (by omega)]
      simp [List.find?, hp]
    | false => simp [List.find?, hp]
theorem loop_fold {R S : Type} {L : S → Int → Option R} {n : Nat} {f : Nat → S → S} {P : Nat → S → Prop}
    (hs : ∀ (k : Nat) s, k < n → P k s → L s k = L (f k s) ((k + 1 : Nat) : Int) ∧ P (k + 1) (f k s)) :
    ∀ (m k : Nat) s, k + m = n → P k s → L s k = L ((List.range' k m).foldl (fun s i => f i s) s) (n : Int) ∧ P n ((List.range' k m).foldl (fun s i => f i s) s)
  | 0, k, s, hk, hp => by
    have : k = n := by omega
    subst this
    exact ⟨rfl, hp⟩
  | m + 1, k, s, hk, hp => by
    obtain ⟨h1, h2⟩ := hs k s (by omega) hp
    rw [h1, List.range'_succ, List.foldl_cons]
    exact loop_fold hs m (k + 1) _ (by omega) h2
end Go.Proofs.YtpboclokodgnlaaGreat
