/-
  Plain meanings, part 1.
-/
import Derived.Test.YtopigbmamejklaaGreatDoorQ
import Derived.Test.YtopigbmamejklaaGreatDoorA39
import Derived.Test.YtopigbmamejklaaGreatDoorQP0
namespace Go.Proofs.YtopigbmamejklaaGreatDoor
open Ai
set_option linter.unusedSimpArgs false
set_option linter.unusedVariables false
set_option linter.unnecessarySimpa false
theorem w64 {x : Int} (h1 : -9223372036854775808 ≤ x) (h2 : x ≤ 9223372036854775807) : IntKind.i64.wrap x = x := by
  simp only [IntKind.wrap, IntKind.signed, IntKind.bits]
  simp
  omega
theorem cond_ite {α : Type} (b : Bool) (x y : α) : (cond b x y) = if b = true then x else y := by cases b <;> rfl
theorem rd_nat {α : Type} (xs : List α) (k : Nat) : rd xs (k : Int) = xs[k]? := by simp [rd]
theorem rd_lt {α : Type} {xs : List α} {k : Nat} (h : k < xs.length) : rd xs (k : Int) = some xs[k] := by rw [rd_nat, List.getElem?_eq_getElem h]
theorem rd_int {α : Type} {xs : List α} {i : Int} (h0 : 0 ≤ i) (h : i < (xs.length : Int)) : rd xs i = some (xs[i.toNat]'(by omega)) := by
  obtain ⟨k, rfl⟩ := Int.eq_ofNat_of_zero_le h0
  rw [rd_lt (by omega)]
  simp
theorem wnext {k n : Nat} (h : k < n) (hn : n ≤ 9223372036854775807) : IntKind.i64.wrap ((k : Int) + 1) = ((k + 1 : Nat) : Int) := by
  rw [w64 (by omega) (by omega)]; omega
theorem lenLe {α : Type} {xs : List α} (h : xs.length ≤ Go.maxLen) : (xs.length : Int) ≤ 9223372036854775807 := by
  unfold Go.maxLen at h; omega
theorem scan_all {R : Type} {L : Int → Option R} {n : Nat} {p : Nat → Bool} {good : R} {bad : Nat → R}
    (hs : ∀ k : Nat, k < n → L k = if p k = true then L ((k + 1 : Nat) : Int) else some (bad k)) (hf : L n = some good) :
    ∀ k : Nat, k ≤ n → L k = some (match (List.range' k (n - k)).find? (fun i => !p i) with | none => good | some i => bad i) := by
  intro k hk
  induction hm : n - k generalizing k with
  | zero =>
    have : k = n := by omega
    subst this
    simpa using hf
  | succ m ih =>
    rw [hs k (by omega)]
    rw [List.range'_succ]
    cases hp : p k with
    | true =>
      simp only [if_true]
      rw [ih (k + 1) (by omega) (by omega)]
      simp [List.find?, hp]
    | false => simp [List.find?, hp]
theorem loop_fold {R S : Type} {L : S → Int → Option R} {n : Nat} {f : Nat → S → S} {P : Nat → S → Prop}
    (hs : ∀ (k : Nat) s, k < n → P k s → L s k = L (f k s) ((k + 1 : Nat) : Int) ∧ P (k + 1) (f k s)) :
    ∀ (m k : Nat) s, k + m = n → P k s → L s k = L ((List.range' k m).foldl (fun s i => f i s) s) (n : Int) ∧ P n ((List.range' k m).foldl (fun s i => f i s) s)
  | 0, k, s, hk, hp => by
    have : k = n := by omega
    subst this
    exact ⟨rfl, hp⟩
  | m + 1, k, s, hk, hp => by
    obtain ⟨h1, h2⟩ := hs k s (by omega) hp
    rw [h1, List.range'_succ, List.foldl_cons]
    exact loop_fold hs m (k + 1) _ (by omega) h2
end Go.Proofs.YtopigbmamejklaaGreatDoor

namespace Go.Proofs.YtopigbmamejklaaGreatDoor
open Ai
set_option linter.unusedSimpArgs false
set_option linter.unusedVariables false
set_option linter.unnecessarySimpa false
abbrev MAXN : Nat := 9223372036854775807
theorem leM {n : Nat} (h : n ≤ 1048576) : n ≤ MAXN := by unfold MAXN; omega
theorem set_take {α : Type} {xs ys : List α} {k : Nat} (hl : ys.length = xs.length) (h : k < xs.length) (ht : ys.take k = xs.take k) : (ys.set k xs[k]).take (k + 1) = xs.take (k + 1) := by
  rw [List.take_add_one, List.take_add_one, List.take_set, List.set_eq_of_length_le (by simp; omega), ht]
  simp [h, hl]
theorem copy_loop {α : Type} {L : List α → List α → Int → Option (List α)} {conv : α → Option α} (hc : ∀ v, conv v = some v)
    (he : ∀ x0 x1 x2, L x0 x1 x2 = cond (decide (x2 < (x0.length : Int))) (Option.bind (rd x0 x2) fun v1 => Option.bind (conv v1) fun y2 => cond (decide (0 ≤ x2) && decide (x2 < (x1.length : Int))) (Option.bind (L x0 (x1.set x2.toNat y2) (IntKind.i64.wrap (x2 + 1))) some) none) (some x1))
    (xs : List α) (z : α) (h : xs.length ≤ 1048576) : L xs (List.replicate xs.length z) 0 = some xs := by
  have key : ∀ (m k : Nat) (ys : List α), k + m = xs.length → ys.length = xs.length → ys.take k = xs.take k → L xs ys (k : Int) = some xs := by
    intro m
    induction m with
    | zero =>
      intro k ys hk hl ht
      rw [he, decide_eq_false (by omega)]
      rw [List.take_of_length_le (by omega), List.take_of_length_le (by omega)] at ht
      rw [ht]; rfl
    | succ m ih =>
      intro k ys hk hl ht
      have h1 : k < xs.length := by omega
      rw [he, decide_eq_true (by omega), rd_lt h1]
      simp only [cond_true, Option.bind_some, hc]
      rw [wnext h1 (by omega), decide_eq_true (by omega), decide_eq_true (by omega)]
      simp only [Bool.and_true, cond_true, Int.toNat_natCast]
      rw [ih (k + 1) _ (by omega) (by simp [hl]) (set_take hl h1 ht)]
      rfl
  exact key xs.length 0 _ (by omega) (by simp) (by simp)
theorem copy_all {α : Type} {L : List α → List α → Int → Option (List α)} {xs : List α} {z : α} (h : xs.length ≤ 1048576) (hl : L xs (List.replicate xs.length z) 0 = some xs) :
    (cond (decide (0 ≤ (List.length xs : Int)) && (decide ((List.length xs : Int) ≤ (List.length xs : Int)) && decide ((List.length xs : Int) ≤ (LIM : Int)))) (Option.bind (L xs (List.replicate (Int.toNat (List.length xs : Int)) z) 0) fun y1 => (some y1)) none) = some xs := by
  rw [decide_eq_true (by omega), decide_eq_true (by omega), decide_eq_true (by unfold LIM; omega)]
  simp only [Bool.and_true, cond_true, Int.toNat_natCast, hl, Option.bind_some]
theorem eq_loop {α : Type} [DecidableEq α] {L : List α → List α → Int → Option (Unit ⊕ Bool)} {eqf : α → α → Option Bool} (hc : ∀ u v, eqf u v = some (decide (u = v)))
    (he : ∀ x0 x1 x2, L x0 x1 x2 = cond (decide (x2 < (x0.length : Int))) (Option.bind (rd x0 x2) fun v1 => Option.bind (rd x1 x2) fun v2 => Option.bind (eqf v1 v2) fun y3 => cond y3 (Option.bind (L x0 x1 (IntKind.i64.wrap (x2 + 1))) some) (some (.inr false))) (some (.inl ())))
    (xs ys : List α) (h : xs.length ≤ MAXN) (hl : xs.length = ys.length) : L xs ys 0 = some (if xs = ys then .inl () else .inr false) := by
  have key : ∀ (m k : Nat), k + m = xs.length → L xs ys (k : Int) = some (if xs.drop k = ys.drop k then .inl () else .inr false) := by
    intro m
    induction m with
    | zero =>
      intro k hk
      rw [he, decide_eq_false (by omega)]
      rw [List.drop_eq_nil_of_le (by omega), List.drop_eq_nil_of_le (by omega)]
      rfl
    | succ m ih =>
      intro k hk
      have h1 : k < xs.length := by omega
      have h2 : k < ys.length := by omega
      rw [he, decide_eq_true (by omega), rd_lt h1, rd_lt h2]
      simp only [cond_true, Option.bind_some, hc]
      rw [wnext h1 h, ih (k + 1) (by omega), List.drop_eq_getElem_cons h1, List.drop_eq_getElem_cons h2]
      generalize xs.drop (k + 1) = A
      generalize ys.drop (k + 1) = B
      by_cases e : xs[k] = ys[k] <;> simp [e]
  exact key xs.length 0 (by omega)
theorem eq_loop_int {L : List Int → List Int → Int → Option (Unit ⊕ Bool)}
    (he : ∀ x0 x1 x2, L x0 x1 x2 = cond (decide (x2 < (x0.length : Int))) (Option.bind (rd x0 x2) fun v1 => Option.bind (rd x1 x2) fun v2 => cond (!decide (v1 = v2)) (some (.inr false)) (Option.bind (L x0 x1 (IntKind.i64.wrap (x2 + 1))) some)) (some (.inl ())))
    (xs ys : List Int) (h : xs.length ≤ MAXN) (hl : xs.length = ys.length) : L xs ys 0 = some (if xs = ys then .inl () else .inr false) := by
  refine eq_loop (eqf := fun u v => some (decide (u = v))) (fun _ _ => rfl) (fun x0 x1 x2 => ?_) xs ys h hl
  rw [he]
  cases decide (x2 < (x0.length : Int))
  · rfl
  · simp only [cond_true]
    cases rd x0 x2 with
    | none => rfl
    | some v1 =>
      cases rd x1 x2 with
      | none => rfl
      | some v2 =>
        simp only [Option.bind_some]
        cases decide (v1 = v2) <;> rfl
theorem eq_all {α : Type} [DecidableEq α] {xs ys : List α} {m : Option (Unit ⊕ Bool)} (h : xs.length = ys.length → m = some (if xs = ys then .inl () else .inr false)) :
    (cond (!decide ((List.length xs : Int) = (List.length ys : Int))) (some false) (Option.bind m fun (y1 : Unit ⊕ Bool) => (match y1 with | .inl _ => (some true) | .inr b3 => (some b3)))) = some (decide (xs = ys)) := by
  by_cases hl : xs.length = ys.length
  · rw [h hl]
    by_cases he : xs = ys <;> simp [hl, he]
  · have he : xs ≠ ys := fun e => hl (by rw [e])
    have : ¬ ((xs.length : Int) = ys.length) := by omega
    simp [this, he]
theorem find_loop {α R : Type} {L : Int → Option R} {xs : List α} {p : α → Bool} {good : R} {bad : Nat → R} (h : xs.length ≤ MAXN)
    (he : ∀ (k : Nat) (hk : k < xs.length), L k = if p xs[k] = true then some (bad k) else L (IntKind.i64.wrap ((k : Int) + 1))) (hf : L xs.length = some good) :
    L 0 = some (match xs.findIdx? p with | none => good | some i => bad i) := by
  have key : ∀ (m k : Nat), k + m = xs.length → L (k : Int) = some (match (xs.drop k).findIdx? p with | none => good | some i => bad (k + i)) := by
    intro m
    induction m with
    | zero =>
      intro k hk
      have : k = xs.length := by omega
      subst this
      rw [hf, List.drop_eq_nil_of_le (Nat.le_refl _)]; rfl
    | succ m ih =>
      intro k hk
      have h1 : k < xs.length := by omega
      rw [he k h1, wnext h1 h, ih (k + 1) (by omega), List.drop_eq_getElem_cons h1, List.findIdx?_cons]
      generalize xs.drop (k + 1) = A
      cases hp : p xs[k]
      · simp only [Bool.false_eq_true, if_false]
        cases A.findIdx? p with
        | none => rfl
        | some i => simp only [Option.map_some]; rw [show k + 1 + i = k + (i + 1) by omega]
      · simp
  have := key xs.length 0 (by omega)
  simpa using this
theorem findIdx_none {α : Type} {xs : List α} {p : α → Bool} : xs.findIdx? p = none ↔ xs.any p = false := by
  rw [List.findIdx?_eq_none_iff]; simp
theorem all_loop {α R : Type} {L : Int → Option R} {xs : List α} {p : α → Bool} {good bad : R} (h : xs.length ≤ MAXN)
    (he : ∀ (k : Nat) (hk : k < xs.length), L k = if p xs[k] = true then L (IntKind.i64.wrap ((k : Int) + 1)) else some bad) (hf : L xs.length = some good) :
    L 0 = some (if xs.all p = true then good else bad) := by
  have := find_loop (L := L) (xs := xs) (p := fun x => !p x) (good := good) (bad := fun _ => bad) h (fun k hk => by rw [he k hk]; cases p xs[k] <;> simp) hf
  rw [this]
  cases hq : xs.findIdx? (fun x => !p x) with
  | none =>
    rw [findIdx_none] at hq
    have : xs.all p = true := by
      rw [List.all_eq_not_any_not, hq]; rfl
    rw [if_pos this]
  | some i =>
    have : xs.all p = false := by
      rw [List.all_eq_not_any_not]
      cases hany : xs.any (fun x => !p x) with
      | true => rfl
      | false => rw [← findIdx_none, hq] at hany; cases hany
    rw [this]; rfl
theorem each_loop {α S R : Type} {L : S → Int → Option R} {xs : List α} {f : S → α → S} {I : Nat → S → Prop} (h : xs.length ≤ MAXN)
    (he : ∀ (k : Nat) (hk : k < xs.length) (s : S), I k s → L s k = L (f s xs[k]) (IntKind.i64.wrap ((k : Int) + 1)) ∧ I (k + 1) (f s xs[k])) (s : S) (h0 : I 0 s) :
    L s 0 = L (xs.foldl f s) xs.length ∧ I xs.length (xs.foldl f s) := by
  have key : ∀ (m k : Nat) (s : S), k + m = xs.length → I k s → L s k = L ((xs.drop k).foldl f s) xs.length ∧ I xs.length ((xs.drop k).foldl f s) := by
    intro m
    induction m with
    | zero =>
      intro k s hk hi
      have : k = xs.length := by omega
      subst this
      rw [List.drop_eq_nil_of_le (Nat.le_refl _)]
      exact ⟨rfl, hi⟩
    | succ m ih =>
      intro k s hk hi
      have h1 : k < xs.length := by omega
      obtain ⟨e1, e2⟩ := he k h1 s hi
      rw [e1, wnext h1 h, List.drop_eq_getElem_cons h1, List.foldl_cons]
      exact ih (k + 1) _ (by omega) e2
  have := key xs.length 0 s (by omega) h0
  simpa using this
theorem foldl_append {α β : Type} (f : α → β) (xs : List α) (out : List β) : xs.foldl (fun s x => s ++ [f x]) out = out ++ xs.map f := by
  induction xs generalizing out with
  | nil => simp
  | cons x r ih => rw [List.foldl_cons, ih]; simp
theorem sz_all {n : Nat} (h : n ≤ Go.maxLen) : (cond (decide ((IntKind.i64.wrap (1048576 - (n : Int))) < 0)) (some (-1)) (some (IntKind.i64.wrap (1048576 - (n : Int))))) = some (if n ≤ 1048576 then 1048576 - (n : Int) else -1) := by
  unfold Go.maxLen at h
  rw [w64 (by omega) (by omega)]
  by_cases hc : n ≤ 1048576
  · rw [if_pos hc, decide_eq_false (by omega)]; rfl
  · rw [if_neg hc, decide_eq_true (by omega)]; rfl
end Go.Proofs.YtopigbmamejklaaGreatDoor

namespace Go.Proofs.YtopigbmamejklaaGreatDoor
open Ai
set_option linter.unusedSimpArgs false
set_option linter.unusedVariables false
set_option linter.unnecessarySimpa false
def within (x a b : Int) : Bool := decide (a ≤ x) && decide (x ≤ b)
abbrev V := Int × Int
def isVec (v : V) : Bool := within v.1 (-1000) 1000 && within v.2 (-1000) 1000
def vless (u v : V) : Bool := decide (u.1 < v.1) || (decide (u.1 = v.1) && decide (u.2 < v.2))
theorem spec_l01In_v (x a b : Int) : spec_l01In x a b = some (within x a b) := by
  rw [spec_l01In_eq]; unfold within
  cases decide (a ≤ x) <;> cases decide (x ≤ b) <;> rfl
theorem impl_within_v (x a b : Int) : impl_within x a b = some (within x a b) := by
  rw [impl_within_eq]; unfold within
  cases decide (a ≤ x) <;> cases decide (x ≤ b) <;> rfl
theorem impl_isCoordinate_v (x : Int) : impl_isCoordinate x = some (within x (-1000) 1000) := by
  rw [impl_isCoordinate_eq, impl_within_v]
  cases h : within x (-1000) 1000 <;> simp [h]
theorem spec_IsVec_v (v : V) : spec_IsVec v = some (isVec v) := by
  rw [spec_IsVec_eq]; unfold isVec
  simp only [spec_l01In_v, Option.bind_some]
  cases within v.1 (-1000) 1000 <;> cases within v.2 (-1000) 1000 <;> rfl
theorem impl_IsVec_v (v : V) : impl_IsVec v = some (isVec v) := by
  rw [impl_IsVec_eq]; unfold isVec
  simp only [impl_isCoordinate_v, Option.bind_some]
  cases within v.1 (-1000) 1000 <;> cases within v.2 (-1000) 1000 <;> rfl
theorem spec_l01Less_v (u v : V) : spec_l01Less u v = some (vless u v) := by
  rw [spec_l01Less_eq]; unfold vless
  cases decide (u.1 < v.1) <;> cases decide (u.1 = v.1) <;> cases decide (u.2 < v.2) <;> rfl
def cmpL : List Int → List Int → Int
  | a :: r, b :: s => if a = b then cmpL r s else if a < b then -1 else 1
  | _, _ => 0
def cmpV (u v : V) : Int := cmpL [u.1, u.2] [v.1, v.2]
theorem cmpV_neg (u v : V) : decide (0 ≤ cmpV u v) = !vless u v := by
  simp only [cmpV, cmpL, vless]
  by_cases h1 : u.1 = v.1 <;> by_cases h2 : u.2 = v.2 <;> by_cases h3 : u.1 < v.1 <;> by_cases h4 : u.2 < v.2 <;> simp [h1, h2, h3, h4] <;> omega
end Go.Proofs.YtopigbmamejklaaGreatDoor

namespace Go.Proofs.YtopigbmamejklaaGreatDoor
open Ai
set_option linter.unusedSimpArgs false
set_option linter.unusedVariables false
set_option linter.unnecessarySimpa false
theorem spec_l01Within_v (xs : List Int) (m a b : Int) (h : xs.length ≤ MAXN) : spec_l01Within xs m a b = some (xs.all (within · a b) && decide ((xs.length : Int) ≤ m)) := by
  rw [spec_l01Within_eq]
  have := all_loop (L := fun k => spec_l01Within_l0 xs m a b k) (xs := xs) (p := (within · a b)) (good := .inl (xs, m)) (bad := .inr false) h (fun k hk => by
    show spec_l01Within_l0 xs m a b k = _
    rw [spec_l01Within_l0_eq, decide_eq_true (by omega), rd_lt hk]
    simp only [cond_true, Option.bind_some, spec_l01In_v, Option.bind_fun_some]
    cases within xs[k] a b <;> rfl) (by
    show spec_l01Within_l0 xs m a b _ = _
    rw [spec_l01Within_l0_eq, decide_eq_false (by omega)]; rfl)
  rw [this]
  cases xs.all (within · a b)
  · simp
  · simp only [if_true, Option.bind_some, Bool.true_and]
    cases decide ((xs.length : Int) ≤ m) <;> rfl
theorem impl_allWithin_1_v (x a b : Int) : impl_allWithin_1 x a b = some (!within x a b) := by
  rw [impl_allWithin_1_eq, impl_within_v]
  cases within x a b <;> rfl
theorem impl_allWithin_v (xs : List Int) (a b : Int) (h : xs.length ≤ MAXN) : impl_allWithin xs a b = some (xs.all (within · a b)) := by
  have h1 : slices_IndexFunc_Sint64_int64__impl_allWithin_1 xs (a, b) = some (match xs.findIdx? (fun x => !within x a b) with | none => -1 | some i => (i : Int)) := by
    rw [slices_IndexFunc_Sint64_int64__impl_allWithin_1_eq]
    have := find_loop (L := fun k => slices_IndexFunc_Sint64_int64__impl_allWithin_1_l0 xs (a, b) (xs.length : Int) k) (xs := xs) (p := fun x => !within x a b) (good := .inl ()) (bad := fun i => .inr (i : Int)) h (fun k hk => by
      show slices_IndexFunc_Sint64_int64__impl_allWithin_1_l0 xs (a, b) _ k = _
      rw [slices_IndexFunc_Sint64_int64__impl_allWithin_1_l0_eq, decide_eq_true (by omega), rd_lt hk]
      simp only [cond_true, Option.bind_some, impl_allWithin_1_v, Option.bind_fun_some]
      cases within xs[k] a b <;> rfl) (by
      show slices_IndexFunc_Sint64_int64__impl_allWithin_1_l0 xs (a, b) _ _ = _
      rw [slices_IndexFunc_Sint64_int64__impl_allWithin_1_l0_eq, decide_eq_false (by omega)]; rfl)
    rw [this]
    cases xs.findIdx? (fun x => !within x a b) <;> rfl
  rw [impl_allWithin_eq, slices_ContainsFunc_Sint64_int64__impl_allWithin_1_eq, h1]
  cases hq : xs.findIdx? (fun x => !within x a b) with
  | none =>
    have : xs.all (within · a b) = true := by
      rw [findIdx_none] at hq
      rw [List.all_eq_not_any_not, hq]; rfl
    rw [this]; rfl
  | some i =>
    have : xs.all (within · a b) = false := by
      rw [List.all_eq_not_any_not]
      cases hany : xs.any (fun x => !within x a b) with
      | true => rfl
      | false => rw [← findIdx_none, hq] at hany; cases hany
    rw [this]
    simp only [Option.bind_some]
    rw [decide_eq_true (by omega)]; rfl
end Go.Proofs.YtopigbmamejklaaGreatDoor

namespace Go.Proofs.YtopigbmamejklaaGreatDoor
open Ai
set_option linter.unusedSimpArgs false
set_option linter.unusedVariables false
set_option linter.unnecessarySimpa false
abbrev Patch := Int × Int × List Int
def isPatch (p : Patch) : Bool := within p.1 1 16 && within p.2.1 1 16 && decide ((p.2.2.length : Int) = p.1 * p.2.1) && p.2.2.all (within · 0 9)
theorem within_iff {x a b : Int} : within x a b = true ↔ a ≤ x ∧ x ≤ b := by simp [within]
theorem impl_isSide_v (x : Int) : impl_isSide x = some (within x 1 16) := by
  rw [impl_isSide_eq, impl_within_v]
  cases h : within x 1 16 <;> simp [h]
theorem mul_lim {a b m n : Int} (ha : 0 ≤ a) (ha2 : a ≤ m) (hb : 0 ≤ b) (hb2 : b ≤ n) : 0 ≤ a * b ∧ a * b ≤ m * n :=
  ⟨Int.mul_nonneg ha hb, Int.mul_le_mul ha2 hb2 hb (by omega)⟩
theorem spec_IsPatch_v (p : Patch) (h : p.2.2.length ≤ MAXN) : spec_IsPatch p = some (isPatch p) := by
  rw [spec_IsPatch_eq]
  simp only [spec_l01In_v, Option.bind_some, spec_l01Within_v _ _ _ _ h]
  unfold isPatch
  cases h1 : within p.1 1 16
  · rfl
  · cases h2 : within p.2.1 1 16
    · rfl
    · rw [within_iff] at h1 h2
      obtain ⟨q1, q2⟩ := mul_lim (a := p.1) (b := p.2.1) (m := 16) (n := 16) (by omega) h1.2 (by omega) h2.2
      rw [w64 (by omega) (by omega)]
      simp only [cond_true, Bool.true_and]
      by_cases hl : (p.2.2.length : Int) = p.1 * p.2.1
      · have : decide ((p.2.2.length : Int) ≤ 256) = true := by rw [decide_eq_true]; omega
        rw [this, decide_eq_true hl]
        cases p.2.2.all (within · 0 9) <;> rfl
      · rw [decide_eq_false hl]; rfl
theorem impl_IsPatch_v (p : Patch) (h : p.2.2.length ≤ MAXN) : impl_IsPatch p = some (isPatch p) := by
  rw [impl_IsPatch_eq]
  simp only [impl_isSide_v, Option.bind_some, impl_allWithin_v _ _ _ h]
  unfold isPatch
  cases h1 : within p.1 1 16
  · rfl
  · cases h2 : within p.2.1 1 16
    · rfl
    · rw [within_iff] at h1 h2
      obtain ⟨q1, q2⟩ := mul_lim (a := p.1) (b := p.2.1) (m := 16) (n := 16) (by omega) h1.2 (by omega) h2.2
      rw [w64 (by omega) (by omega)]
      simp only [cond_true, Bool.true_and]
      by_cases hl : (p.2.2.length : Int) = p.1 * p.2.1
      · rw [decide_eq_true hl]
        cases p.2.2.all (within · 0 9) <;> rfl
      · rw [decide_eq_false hl]; rfl
end Go.Proofs.YtopigbmamejklaaGreatDoor

namespace Go.Proofs.YtopigbmamejklaaGreatDoor
open Ai
set_option linter.unusedSimpArgs false
set_option linter.unusedVariables false
set_option linter.unnecessarySimpa false
theorem loop_map {α β R : Type} {L : List β → Int → Option R} (xs : List α) (g : α → β)
    (hs : ∀ (k : Nat) (hk : k < xs.length) (s : List β), s.length = k → L s (k : Int) = L (s ++ [g xs[k]]) ((k + 1 : Nat) : Int)) :
    L [] 0 = L (xs.map g) (xs.length : Int) := by
  have h : ∀ (m k : Nat), k + m = xs.length → L ((xs.map g).take k) (k : Int) = L (xs.map g) (xs.length : Int) := by
    intro m
    induction m with
    | zero => intro k hk; rw [List.take_of_length_le (by simp; omega), show k = xs.length by omega]
    | succ m ih =>
      intro k hk
      have h1 : k < xs.length := by omega
      rw [hs k h1 _ (by simp; omega), ← ih (k + 1) (by omega)]
      congr 1
      rw [List.take_add_one, List.getElem?_map, List.getElem?_eq_getElem h1]
      rfl
  have := h xs.length 0 (by omega)
  simpa using this
theorem loop_filter {α R : Type} {L : List α → Int → Option R} (xs : List α) (q : α → Bool) (s0 : List α)
    (hs : ∀ (k : Nat) (hk : k < xs.length) (s : List α), s.length ≤ s0.length + k → L s (k : Int) = L (if q xs[k] = true then s ++ [xs[k]] else s) ((k + 1 : Nat) : Int)) :
    L s0 0 = L (s0 ++ xs.filter q) (xs.length : Int) := by
  have h : ∀ (m k : Nat), k + m = xs.length → L (s0 ++ (xs.take k).filter q) (k : Int) = L (s0 ++ xs.filter q) (xs.length : Int) := by
    intro m
    induction m with
    | zero => intro k hk; rw [List.take_of_length_le (by omega), show k = xs.length by omega]
    | succ m ih =>
      intro k hk
      have h1 : k < xs.length := by omega
      have hl := List.length_filter_le q (xs.take k)
      rw [List.length_take] at hl
      rw [hs k h1 _ (by rw [List.length_append]; omega), ← ih (k + 1) (by omega)]
      congr 1
      rw [List.take_add_one, List.getElem?_eq_getElem h1]
      simp only [Option.toList_some, List.filter_append, List.filter_cons, List.filter_nil]
      split
      · rw [List.append_assoc]
      · rw [List.append_nil]
  have := h xs.length 0 (by omega)
  simpa using this
theorem loop_all {α R : Type} {L : Int → Option R} (xs : List α) (q : α → Bool) (good bad : R)
    (hs : ∀ (k : Nat) (hk : k < xs.length), L (k : Int) = if q xs[k] = true then L ((k + 1 : Nat) : Int) else some bad) (hf : L (xs.length : Int) = some good) :
    L 0 = some (if xs.all q = true then good else bad) := by
  have h : ∀ (m k : Nat), k + m = xs.length → L (k : Int) = some (if (xs.drop k).all q = true then good else bad) := by
    intro m
    induction m with
    | zero => intro k hk; rw [List.drop_of_length_le (by omega), show k = xs.length by omega, hf]; rfl
    | succ m ih =>
      intro k hk
      have h1 : k < xs.length := by omega
      rw [hs k h1, List.drop_eq_getElem_cons h1, List.all_cons]
      cases hq : q xs[k]
      · rfl
      · rw [if_pos rfl, ih (k + 1) (by omega)]; rfl
  have := h xs.length 0 (by omega)
  simpa using this
theorem loop_find {α R : Type} {L : Int → Option R} (xs : List α) (q : α → Bool) (none' : R) (found : α → R)
    (hs : ∀ (k : Nat) (hk : k < xs.length), L (k : Int) = if q xs[k] = true then some (found xs[k]) else L ((k + 1 : Nat) : Int)) (hf : L (xs.length : Int) = some none') :
    L 0 = some (match xs.find? q with | none => none' | some x => found x) := by
  have h : ∀ (m k : Nat), k + m = xs.length → L (k : Int) = some (match (xs.drop k).find? q with | none => none' | some x => found x) := by
    intro m
    induction m with
    | zero => intro k hk; rw [List.drop_of_length_le (by omega), show k = xs.length by omega, hf]; rfl
    | succ m ih =>
      intro k hk
      have h1 : k < xs.length := by omega
      rw [hs k h1, List.drop_eq_getElem_cons h1, List.find?_cons]
      cases hq : q xs[k]
      · rw [if_neg (by simp), ih (k + 1) (by omega)]
      · rfl
  have := h xs.length 0 (by omega)
  simpa using this
theorem gd {α : Type} {xs : List α} {k : Nat} (h : k < xs.length) (d : α) : xs.getD (Int.toNat (k : Int)) d = xs[k] := by
  simp [List.getD, h]
theorem inb {k n : Nat} (h : k < n) : (decide ((0 : Int) ≤ (k : Int)) && decide ((k : Int) < (n : Int))) = true := by
  rw [decide_eq_true (by omega), decide_eq_true (by omega)]; rfl
theorem loop_idx {α R : Type} {L : Int → Option R} (xs : List α) (q : α → Bool) (good : R) (bad : Nat → R)
    (hs : ∀ (k : Nat) (hk : k < xs.length), L (k : Int) = if q xs[k] = true then L ((k + 1 : Nat) : Int) else some (bad k)) (hf : L (xs.length : Int) = some good) :
    (xs.all q = true ∧ L 0 = some good) ∨ (xs.all q = false ∧ ∃ k : Nat, k < xs.length ∧ L 0 = some (bad k)) := by
  have h : ∀ (m k : Nat), k + m = xs.length → ((xs.drop k).all q = true ∧ L (k : Int) = some good) ∨ ((xs.drop k).all q = false ∧ ∃ j : Nat, j < xs.length ∧ L (k : Int) = some (bad j)) := by
    intro m
    induction m with
    | zero => intro k hk; rw [List.drop_of_length_le (by omega), show k = xs.length by omega, hf]; exact .inl ⟨rfl, rfl⟩
    | succ m ih =>
      intro k hk
      have h1 : k < xs.length := by omega
      rw [hs k h1, List.drop_eq_getElem_cons h1, List.all_cons]
      cases hq : q xs[k]
      · exact .inr ⟨rfl, k, h1, rfl⟩
      · simpa using ih (k + 1) (by omega)
  have := h xs.length 0 (by omega)
  simpa using this
theorem del_loop {α R : Type} {L : List α → Int → Int → Option R} (xs : List α) (p : α → Bool)
    (hs : ∀ (s : List α) (i j : Nat) (hj : j < s.length) (hx : j < xs.length), s.length = xs.length → i < j → s[j] = xs[j] → L s (i : Int) (j : Int) = if p xs[j] = true then L (s.set i xs[j]) ((i + 1 : Nat) : Int) ((j + 1 : Nat) : Int) else L s (i : Int) ((j + 1 : Nat) : Int)) :
    ∀ (d j : Nat) (s : List α) (i : Nat), j + d = xs.length → s.length = xs.length → i < j → s.drop j = xs.drop j → s.take i = (xs.take j).filter p →
      ∃ (s' : List α) (i' : Nat), L s (i : Int) (j : Int) = L s' (i' : Int) (xs.length : Int) ∧ s'.length = xs.length ∧ i' ≤ xs.length ∧ s'.take i' = xs.filter p
  | 0, j, s, i, hj, hl, hij, h1, h2 => by
    rw [show j = xs.length by omega] at *
    refine ⟨s, i, rfl, hl, by omega, ?_⟩
    rw [h2, List.take_length]
  | d + 1, j, s, i, hj, hl, hij, h1, h2 => by
    have hjs : j < s.length := by omega
    have hjx : j < xs.length := by omega
    have e : s[j] = xs[j] := by
      have := congrArg (fun l => l[0]?) h1
      simp only [List.getElem?_drop, Nat.add_zero] at this
      rw [List.getElem?_eq_getElem hjs, List.getElem?_eq_getElem hjx, Option.some.injEq] at this
      exact this
    have hd : s.drop (j + 1) = xs.drop (j + 1) := by
      have := congrArg (List.drop 1) h1
      simpa only [List.drop_drop] using this
    have ht : (xs.take (j + 1)).filter p = (xs.take j).filter p ++ [xs[j]].filter p := by
      rw [List.take_add_one, List.getElem?_eq_getElem hjx, List.filter_append]; rfl
    rw [hs s i j hjs hjx hl hij e]
    cases hp : p xs[j]
    · rw [if_neg (by simp)]
      refine del_loop xs p hs d (j + 1) s i (by omega) hl (by omega) hd ?_
      rw [ht, h2]
      simp [hp]
    · rw [if_pos rfl]
      refine del_loop xs p hs d (j + 1) (s.set i xs[j]) (i + 1) (by omega) (by rw [List.length_set]; exact hl) (by omega) ?_ ?_
      · rw [List.drop_set_of_lt (by omega)]; exact hd
      · rw [ht, ← h2, List.take_add_one, List.take_set_of_le (by omega), List.getElem?_set_self (by omega)]
        simp [hp]
theorem first_out {α : Type} (xs : List α) (p : α → Bool) {i : Nat} (h : xs.findIdx? (fun x => !p x) = some i) : i < xs.length ∧ (xs.take (i + 1)).filter p = xs.take i := by
  rw [List.findIdx?_eq_some_iff_getElem] at h
  obtain ⟨hi, h1, h2⟩ := h
  refine ⟨hi, ?_⟩
  rw [List.take_add_one, List.getElem?_eq_getElem hi, List.filter_append]
  have hq : [xs[i]].filter p = [] := by
    simp at h1
    simp [h1]
  show _ ++ [xs[i]].filter p = _
  rw [hq, List.append_nil, List.filter_eq_self]
  intro a ha
  obtain ⟨k, hk, rfl⟩ := List.getElem_of_mem ha
  rw [List.length_take] at hk
  have := h2 k (by omega)
  rw [List.getElem_take]
  simpa using this
theorem loop_flat {α β R : Type} {L : List β → Int → Option R} (xs : List α) (g : α → List β) (c : Nat) (hg : ∀ x ∈ xs, (g x).length ≤ c)
    (hs : ∀ (k : Nat) (hk : k < xs.length) (s : List β), s.length ≤ c * k → L s (k : Int) = L (s ++ g xs[k]) ((k + 1 : Nat) : Int)) :
    L [] 0 = L (xs.flatMap g) (xs.length : Int) := by
  have h : ∀ (m k : Nat) (s : List β), k + m = xs.length → s.length ≤ c * k → L s (k : Int) = L (s ++ (xs.drop k).flatMap g) (xs.length : Int) := by
    intro m
    induction m with
    | zero => intro k s hk _; rw [List.drop_of_length_le (by omega), show k = xs.length by omega]; simp
    | succ m ih =>
      intro k s hk hl
      have h1 : k < xs.length := by omega
      have h2 := hg _ (List.getElem_mem h1)
      rw [hs k h1 s hl, ih (k + 1) _ (by omega) (by rw [List.length_append, Nat.mul_add]; omega), List.drop_eq_getElem_cons h1, List.flatMap_cons, List.append_assoc]
  have := h xs.length 0 [] (by omega) (by simp)
  simpa using this
theorem loop_some {α β R : Type} {L : Int → Option R} (xs : List α) (g : α → Option β) (res : Option β → R)
    (hs : ∀ (k : Nat) (hk : k < xs.length), (g xs[k] = none → L (k : Int) = L ((k + 1 : Nat) : Int)) ∧ ∀ r, g xs[k] = some r → L (k : Int) = some (res (some r))) (hf : L (xs.length : Int) = some (res none)) :
    L 0 = some (res (xs.findSome? g)) := by
  have h : ∀ (m k : Nat), k + m = xs.length → L (k : Int) = some (res ((xs.drop k).findSome? g)) := by
    intro m
    induction m with
    | zero => intro k hk; rw [List.drop_of_length_le (by omega), show k = xs.length by omega, hf]; rfl
    | succ m ih =>
      intro k hk
      have h1 : k < xs.length := by omega
      rw [List.drop_eq_getElem_cons h1, List.findSome?_cons]
      cases hq : g xs[k] with
      | some r => exact (hs k h1).2 r hq
      | none => rw [(hs k h1).1 hq]; exact ih (k + 1) (by omega)
  have := h xs.length 0 (by omega)
  simpa using this
theorem flat_len_le {α β : Type} (g : α → List β) (c : Nat) : ∀ xs : List α, (∀ x ∈ xs, (g x).length ≤ c) → (xs.flatMap g).length ≤ c * xs.length
  | [], _ => by simp
  | x :: r, h => by
    have h1 := h x (List.mem_cons_self ..)
    have h2 := flat_len_le g c r fun y hy => h y (List.mem_cons_of_mem _ hy)
    rw [List.flatMap_cons, List.length_append, List.length_cons, Nat.mul_add]
    omega
theorem cut_over {α : Type} (ys zs : List α) (k : Nat) (h : k ≤ ys.length) : cut 0 k (overL ys zs k) = ys.take k := by
  unfold cut overL
  rw [List.drop_zero, List.append_assoc, List.take_left' (by rw [List.length_take]; omega)]
end Go.Proofs.YtopigbmamejklaaGreatDoor

namespace Go.Proofs.YtopigbmamejklaaGreatDoor
open Ai
set_option linter.unusedSimpArgs false
set_option linter.unusedVariables false
def isDig (b : UInt8) : Bool := decide (48 ≤ b.toNat) && decide (b.toNat ≤ 57)
def dz (b : UInt8) : Int := (b.toNat : Int) - 48
def bz (c : Int) : UInt8 := UInt8.ofNat (48 + c).toNat
theorem bz_dz (b : UInt8) : bz (dz b) = b := by
  unfold bz dz
  have e : (48 + ((b.toNat : Int) - 48)).toNat = b.toNat := by omega
  rw [e]
  exact UInt8.ofNat_toNat
theorem dz_bz {c : Int} (h0 : 0 ≤ c) (h9 : c ≤ 9) : dz (bz c) = c ∧ isDig (bz c) = true := by
  have key : ∀ k : Fin 10, dz (bz (k.val : Int)) = (k.val : Int) ∧ isDig (bz (k.val : Int)) = true := by decide +kernel
  have := key ⟨c.toNat, by omega⟩
  have e : ((c.toNat : Nat) : Int) = c := by omega
  simp only [e] at this
  exact this
theorem u8_small {z : Int} (h0 : 0 ≤ z) (h1 : z ≤ 255) : IntKind.u8.wrap z = z := by
  simp only [IntKind.wrap, IntKind.signed, IntKind.bits]
  simp
  omega
/-! ### The reference's text of a patch -/
def txtI (w : Nat) : Nat → List Int → List Int
  | _, [] => []
  | j, c :: cs => (48 + c) :: (if j + 1 = w then 10 :: txtI w 0 cs else txtI w (j + 1) cs)
theorem txt_loop (w : Nat) (hw : 1 ≤ w ∧ w ≤ 16) (h : Int) (cs : List Int) (h9 : ∀ c ∈ cs, 0 ≤ c ∧ c ≤ 9) (hn : cs.length ≤ 1000) : ∀ (d k q j : Nat) (out : List Int), k + d = cs.length → k = q * w + j → j < w → out.length ≤ 2 * k →
    spec_l20Text_l0 out (k : Int) (w : Int) h cs = some (out ++ txtI w j (cs.drop k))
  | 0, k, q, j, out, hk, hq, hj, ho => by
    rw [spec_l20Text_l0_eq, decide_eq_false (by omega), List.drop_eq_nil_of_le (by omega)]
    simp [txtI]
  | d + 1, k, q, j, out, hk, hq, hj, ho => by
    have hlt : k < cs.length := by omega
    obtain ⟨c0, c9⟩ := h9 _ (List.getElem_mem hlt)
    have e : IntKind.u8.wrap (IntKind.i64.wrap (48 + cs[k])) = 48 + cs[k] := by rw [w64 (by omega) (by omega), u8_small (by omega) (by omega)]
    have hm : Int.tmod (k : Int) (w : Int) = (j : Int) := by
      rw [Int.tmod_eq_emod_of_nonneg (by omega), ← Int.natCast_emod]
      congr 1
      rw [hq, Nat.mul_comm, Nat.mul_add_mod, Nat.mod_eq_of_lt hj]
    rw [spec_l20Text_l0_eq, decide_eq_true (by omega), rd_lt hlt, List.drop_eq_getElem_cons hlt]
    simp only [cond_true, Option.bind_some, Option.bind_fun_some]
    rw [e, decide_eq_true (by unfold LIM; simp only [List.length_singleton]; omega), decide_eq_false (p := (w : Int) = 0) (by omega), hm, w64 (x := (w : Int) - 1) (by omega) (by omega), wnext hlt (by omega)]
    simp only [cond_true, cond_false]
    by_cases hj1 : j + 1 = w
    · rw [decide_eq_true (by omega), decide_eq_true (by unfold LIM; simp only [List.length_append, List.length_singleton]; omega)]
      simp only [cond_true]
      rw [txt_loop w hw h cs h9 hn d (k + 1) (q + 1) 0 _ (by omega) (by rw [Nat.add_mul]; omega) (by omega) (by simp only [List.length_append, List.length_singleton]; omega)]
      simp [txtI, hj1]
    · rw [decide_eq_false (by omega)]
      simp only [cond_false]
      rw [txt_loop w hw h cs h9 hn d (k + 1) q (j + 1) _ (by omega) (by omega) (by omega) (by simp only [List.length_append, List.length_singleton]; omega)]
      simp [txtI, hj1]
theorem txtI_row (w : Nat) (rest : List Int) : ∀ (r : List Int) (j : Nat), r ≠ [] → j + r.length = w → txtI w j (r ++ rest) = r.map (48 + ·) ++ 10 :: txtI w 0 rest
  | [], _, h, _ => (h rfl).elim
  | [c], j, _, h => by
    simp only [List.length_singleton] at h
    simp [txtI, h]
  | c :: c' :: r, j, _, h => by
    simp only [List.length_cons] at h
    have ih := txtI_row w rest (c' :: r) (j + 1) (by simp) (by simp only [List.length_cons]; omega)
    have hne : ¬ j + 1 = w := by omega
    rw [List.cons_append, txtI, if_neg hne, ih]
    rfl
theorem txtI_rows (w : Nat) (hw : 1 ≤ w) : ∀ R : List (List Int), (∀ r ∈ R, r.length = w) → txtI w 0 R.flatten = R.flatMap fun r => r.map (48 + ·) ++ [10]
  | [], _ => rfl
  | r :: R, h => by
    have h1 := h r (List.mem_cons_self ..)
    rw [List.flatten_cons, txtI_row w _ r 0 (fun e => by rw [e] at h1; simp at h1; omega) (by omega), txtI_rows w hw R fun q hq => h q (List.mem_cons_of_mem _ hq)]
    simp
theorem ofInts_rows (R : List (List Int)) : ofInts (R.flatMap fun r => r.map (48 + ·) ++ [10]) = (R.map fun r => r.map bz).flatMap fun r => r ++ [10] := by
  unfold ofInts
  rw [List.map_flatMap, List.flatMap_map]
  congr 1
  funext r
  rw [List.map_append, List.map_map]
  rfl
theorem rows_of (w : Nat) : ∀ (H : Nat) (cs : List Int), cs.length = w * H → ∃ R : List (List Int), R.length = H ∧ (∀ r ∈ R, r.length = w) ∧ R.flatten = cs
  | 0, cs, h => ⟨[], rfl, by simp, by rw [List.length_eq_zero_iff.1 (by omega : cs.length = 0)]; rfl⟩
  | H + 1, cs, h => by
    rw [Nat.mul_succ] at h
    obtain ⟨R, h1, h2, h3⟩ := rows_of w H (cs.drop w) (by rw [List.length_drop]; omega)
    refine ⟨cs.take w :: R, by simp [h1], fun r hr => ?_, by rw [List.flatten_cons, h3, List.take_append_drop]⟩
    rcases List.mem_cons.1 hr with rfl | hr
    · rw [List.length_take]; omega
    · exact h2 r hr
theorem isPatch_iff {p : Patch} : isPatch p = true ↔ (1 ≤ p.1 ∧ p.1 ≤ 16) ∧ (1 ≤ p.2.1 ∧ p.2.1 ≤ 16) ∧ (p.2.2.length : Int) = p.1 * p.2.1 ∧ ∀ c ∈ p.2.2, 0 ≤ c ∧ c ≤ 9 := by
  unfold isPatch
  rw [Bool.and_eq_true, Bool.and_eq_true, Bool.and_eq_true, within_iff, within_iff, decide_eq_true_iff, List.all_eq_true]
  constructor
  · rintro ⟨⟨⟨a, b⟩, c⟩, d⟩
    exact ⟨a, b, c, fun x hx => within_iff.1 (d x hx)⟩
  · rintro ⟨a, b, c, d⟩
    exact ⟨⟨⟨a, b⟩, c⟩, fun x hx => within_iff.2 (d x hx)⟩
theorem text_v {p : Patch} (hp : isPatch p = true) : ∃ R : List (List Int), spec_l20Text p = some ((R.map fun r => r.map bz).flatMap fun r => r ++ [10]) ∧ R ≠ [] ∧ (∀ r ∈ R, (r.length : Int) = p.1) ∧ R.flatten = p.2.2 := by
  obtain ⟨⟨w1, w2⟩, ⟨h1, h2⟩, hl, h9⟩ := isPatch_iff.1 hp
  obtain ⟨w, hw⟩ : ∃ w : Nat, p.1 = w := ⟨p.1.toNat, by omega⟩
  obtain ⟨H, hH⟩ : ∃ H : Nat, p.2.1 = H := ⟨p.2.1.toNat, by omega⟩
  have hl' : p.2.2.length = w * H := by rw [hw, hH] at hl; exact_mod_cast hl
  have hb : w * H ≤ 16 * 16 := Nat.mul_le_mul (by omega) (by omega)
  obtain ⟨R, r1, r2, r3⟩ := rows_of w H p.2.2 hl'
  have ht := txt_loop w (by omega) p.2.1 p.2.2 h9 (by omega) p.2.2.length 0 0 0 [] (by omega) (by omega) (by omega) (by simp)
  refine ⟨R, ?_, fun e => ?_, fun r hr => by rw [r2 r hr, hw], r3⟩
  · rw [spec_l20Text_eq, hw, show spec_l20Text_l0 [] 0 (w : Int) p.2.1 p.2.2 = _ from ht]
    simp only [Option.bind_some, List.nil_append, List.drop_zero]
    rw [← r3, txtI_rows w (by omega) R r2, ofInts_rows]
  · rw [e] at r1; simp at r1; omega
end Go.Proofs.YtopigbmamejklaaGreatDoor

namespace Go.Proofs.YtopigbmamejklaaGreatDoor
open Ai
open Go.Lib (itoa decDigits join joinTail)
set_option linter.unusedSimpArgs false
set_option linter.unusedVariables false
theorem Pre.impl_within_v (x a b : Int) : Pre.impl_within x a b = some (within x a b) := by
  rw [Pre.impl_within_eq]
  unfold within
  by_cases h1 : a ≤ x <;> by_cases h2 : x ≤ b <;> simp [h1, h2]
theorem Pre.impl_isSide_v (x : Int) : Pre.impl_isSide x = some (within x 1 16) := by
  rw [Pre.impl_isSide_eq, Pre.impl_within_v]
  cases h : within x 1 16 <;> simp [h]
theorem Pre.impl_allWithin_1_v (x a b : Int) : Pre.impl_allWithin_1 x a b = some (!within x a b) := by
  rw [Pre.impl_allWithin_1_eq, Pre.impl_within_v]
  cases within x a b <;> rfl
theorem Pre.impl_allWithin_v (xs : List Int) (a b : Int) (h : xs.length ≤ MAXN) : Pre.impl_allWithin xs a b = some (xs.all (within · a b)) := by
  have h1 : Pre.slices_IndexFunc_Sint64_int64__impl_allWithin_1 xs (a, b) = some (match xs.findIdx? (fun x => !within x a b) with | none => -1 | some i => (i : Int)) := by
    rw [Pre.slices_IndexFunc_Sint64_int64__impl_allWithin_1_eq]
    have := find_loop (L := fun k => Pre.slices_IndexFunc_Sint64_int64__impl_allWithin_1_l0 xs (a, b) (xs.length : Int) k) (xs := xs) (p := fun x => !within x a b) (good := .inl ()) (bad := fun i => .inr (i : Int)) h (fun k hk => by
      show Pre.slices_IndexFunc_Sint64_int64__impl_allWithin_1_l0 xs (a, b) _ k = _
      rw [Pre.slices_IndexFunc_Sint64_int64__impl_allWithin_1_l0_eq, decide_eq_true (by omega), rd_lt hk]
      simp only [cond_true, Option.bind_some, Pre.impl_allWithin_1_v, Option.bind_fun_some]
      cases within xs[k] a b <;> rfl) (by
      show Pre.slices_IndexFunc_Sint64_int64__impl_allWithin_1_l0 xs (a, b) _ _ = _
      rw [Pre.slices_IndexFunc_Sint64_int64__impl_allWithin_1_l0_eq, decide_eq_false (by omega)]; rfl)
    rw [this]
    cases xs.findIdx? (fun x => !within x a b) <;> rfl
  rw [Pre.impl_allWithin_eq, Pre.slices_ContainsFunc_Sint64_int64__impl_allWithin_1_eq, h1]
  cases hq : xs.findIdx? (fun x => !within x a b) with
  | none =>
    have : xs.all (within · a b) = true := by
      rw [findIdx_none] at hq
      rw [List.all_eq_not_any_not, hq]; rfl
    rw [this]; rfl
  | some i =>
    have : xs.all (within · a b) = false := by
      rw [List.all_eq_not_any_not]
      cases hany : xs.any (fun x => !within x a b) with
      | true => rfl
      | false => rw [← findIdx_none, hq] at hany; cases hany
    rw [this]
    simp only [Option.bind_some]
    rw [decide_eq_true (by omega)]
    rfl
theorem Pre.impl_IsPatch_v (p : Patch) (h : p.2.2.length ≤ MAXN) : Pre.impl_IsPatch p = some (isPatch p) := by
  rw [Pre.impl_IsPatch_eq]
  simp only [Pre.impl_isSide_v, Option.bind_some, Pre.impl_allWithin_v _ _ _ h]
  unfold isPatch
  cases h1 : within p.1 1 16
  · rfl
  · cases h2 : within p.2.1 1 16
    · rfl
    · rw [within_iff] at h1 h2
      obtain ⟨q1, q2⟩ := mul_lim (a := p.1) (b := p.2.1) (m := 16) (n := 16) (by omega) h1.2 (by omega) h2.2
      rw [w64 (by omega) (by omega)]
      simp only [cond_true, Bool.true_and]
      by_cases hl : (p.2.2.length : Int) = p.1 * p.2.1
      · rw [decide_eq_true hl]
        cases p.2.2.all (within · 0 9) <;> rfl
      · rw [decide_eq_false hl]; rfl
/-! ### Digits -/
theorem itoa_dig {c : Int} (h0 : 0 ≤ c) (h9 : c ≤ 9) : itoa c = [bz c] := by
  unfold Go.Lib.itoa
  rw [if_neg (by omega), Go.Lib.decDigits, dif_pos (by omega)]
  unfold bz
  have : (48 + c).toNat = 48 + c.toNat := by omega
  rw [this]
theorem Pre.impl_text_v {c : Int} (h0 : 0 ≤ c) (h9 : c ≤ 9) : Pre.impl_text c = some [bz c] := by
  rw [Pre.impl_text_eq, Pre.strconv_FormatInt_ext]
  unfold fmaX
  rw [if_pos ⟨⟨by simp only; omega, by simp only; omega⟩, rfl⟩, ← itoa_dig h0 h9]
  rfl
theorem joinTail_nil : ∀ (r : List (List UInt8)), joinTail [] r = r.flatten
  | [] => by simp [joinTail]
  | y :: r => by simp [joinTail]
theorem join_nil (r : List (List UInt8)) : join r [] = r.flatten := by
  cases r with
  | nil => simp [join]
  | cons y r => rw [Go.Lib.join_cons, joinTail_nil, List.flatten_cons]
theorem flat_dig (r : List Int) : (r.map fun c => [bz c]).flatten = r.map bz := by
  induction r with
  | nil => rfl
  | cons c r ih => simp [ih]
theorem Pre.impl_digits_v {r : List Int} (h : ∀ c ∈ r, 0 ≤ c ∧ c ≤ 9) (hn : r.length ≤ 4096) : Pre.impl_digitsText r = some (r.map bz) := by
  have key := loop_map (L := fun s k => Pre.impl_joined_l0 [] s r (r.length : Int) k) r (fun c => [bz c]) (fun k hk s hs => by
    show Pre.impl_joined_l0 [] s r (r.length : Int) (k : Int) = _
    obtain ⟨h0, h9⟩ := h _ (List.getElem_mem hk)
    rw [Pre.impl_joined_l0_eq, decide_eq_true (by omega), rd_lt hk]
    simp only [cond_true, Option.bind_some, Pre.impl_text_v h0 h9, Option.bind_fun_some]
    rw [wnext hk (by omega), decide_eq_true (by unfold LIM; simp only [List.length_singleton]; omega)]
    rfl)
  have key' : Pre.impl_joined_l0 [] [] r (r.length : Int) 0 = Pre.impl_joined_l0 [] (r.map fun c => [bz c]) r (r.length : Int) (r.length : Int) := key
  rw [Pre.impl_digitsText_eq, Pre.impl_joined_eq, key', Pre.impl_joined_l0_eq, decide_eq_false (by omega)]
  simp only [cond_false, Option.bind_some]
  rw [Pre.strings_Join_ext]
  unfold joiX
  rw [if_pos ⟨by simp only [List.length_map]; omega, by simp only [join_nil, flat_dig, List.length_map]; omega⟩]
  simp only [join_nil, flat_dig, Option.bind_some]
/-! ### Rows -/
theorem rowsOf_flatten {w : Nat} (hw : 1 ≤ w) : ∀ (R : List (List Int)), (∀ r ∈ R, r.length = w) → R.flatten.length = R.length * w ∧ rowsOf w R.flatten = R
  | [], _ => by
    refine ⟨by simp, ?_⟩
    unfold rowsOf
    simp
  | r :: R, h => by
    obtain ⟨h1, h2⟩ := rowsOf_flatten hw R fun q hq => h q (List.mem_cons_of_mem _ hq)
    have hr := h r (List.mem_cons_self ..)
    have hl : (r :: R).flatten.length = (R.length + 1) * w := by rw [List.flatten_cons, List.length_append, hr, h1, Nat.add_mul]; omega
    refine ⟨hl, ?_⟩
    have e1 : (r :: R).flatten.length / w = R.length + 1 := by rw [hl]; exact Nat.mul_div_cancel _ (by omega)
    have e2 : R.flatten.length / w = R.length := by rw [h1]; exact Nat.mul_div_cancel _ (by omega)
    unfold rowsOf at h2 ⊢
    rw [e1, List.range_succ_eq_map, List.map_cons, List.map_map]
    rw [e2] at h2
    congr 1
    · rw [Nat.zero_mul, List.drop_zero, List.flatten_cons, ← hr, List.take_left]
    · conv => rhs; rw [← h2]
      apply List.map_congr_left
      intro k _
      show ((r :: R).flatten.drop ((k + 1) * w)).take w = _
      rw [List.flatten_cons, Nat.add_mul, Nat.one_mul, Nat.add_comm, ← List.drop_drop]
      congr 2
      rw [← hr, List.drop_left]
theorem digsL_v : ∀ (R : List (List Int)), (∀ r ∈ R, (∀ c ∈ r, 0 ≤ c ∧ c ≤ 9) ∧ r.length ≤ 4096) → digsL Pre.impl_digitsText R = some (R.map fun r => r.map bz)
  | [], _ => rfl
  | r :: R, h => by
    obtain ⟨h1, h2⟩ := h r (List.mem_cons_self ..)
    unfold digsL
    rw [Pre.impl_digits_v h1 h2, digsL_v R fun q hq => h q (List.mem_cons_of_mem _ hq)]
    rfl
theorem ptx_v (p : Patch) (h : p.2.2.length ≤ MAXN) : ptxX p = if isPatch p = true then (Option.bind (spec_l20Text p) fun t => some (t, 0)) else some ([], 1) := by
  unfold ptxX
  rw [show Pre.impl_IsPatch p = _ from Pre.impl_IsPatch_v p h]
  simp only [Option.bind_some]
  cases hp : isPatch p with
  | false => rfl
  | true =>
    obtain ⟨R, ht, hR, hw, hf⟩ := text_v hp
    obtain ⟨⟨w1, w2⟩, ⟨h1, h2⟩, hl, h9⟩ := isPatch_iff.1 hp
    obtain ⟨w, hwe⟩ : ∃ w : Nat, p.1 = w := ⟨p.1.toNat, by omega⟩
    have hw' : ∀ r ∈ R, r.length = w := fun r hr => by have := hw r hr; omega
    obtain ⟨g1, g2⟩ := rowsOf_flatten (w := w) (by omega) R hw'
    rw [hf] at g1 g2
    have hq := mul_lim (a := p.1) (b := p.2.1) (m := 16) (n := 16) (by omega) w2 (by omega) h2
    have hpos : 1 ≤ R.length := List.length_pos_iff.2 hR
    have hpw : 1 ≤ R.length * w := Nat.mul_pos hpos (by omega)
    have hmem : ∀ r ∈ R, (∀ c ∈ r, 0 ≤ c ∧ c ≤ 9) ∧ r.length ≤ 4096 := fun r hr => by
      refine ⟨fun c hc => h9 c ?_, by rw [hw' r hr]; omega⟩
      rw [← hf]
      exact List.mem_flatten.2 ⟨r, hr, hc⟩
    simp only [if_true]
    have et : p.1.toNat = w := by omega
    rw [if_pos ⟨⟨w1, by omega⟩, by omega, by rw [et, g1]; exact Nat.mul_mod_left _ _, by omega⟩, et, g2, digsL_v R hmem, ht]
    simp only [Option.bind_some]
    rw [if_pos]
    rw [List.all_eq_true]
    intro d hd
    obtain ⟨r, hr, rfl⟩ := List.mem_map.1 hd
    rw [List.length_map]
    exact decide_eq_true (hmem r hr).2
end Go.Proofs.YtopigbmamejklaaGreatDoor

namespace Go.Proofs.YtopigbmamejklaaGreatDoor
open Ai
set_option linter.unusedSimpArgs false
set_option linter.unusedVariables false
set_option linter.unnecessarySimpa false
def szl (n : Nat) (l : Int) : Int := if (n : Int) ≤ l then l - n else -1
theorem szl_lo {n : Nat} {l : Int} (h : l ≤ 1048576) : szl n l ≤ 1048576 := by unfold szl; split <;> omega
theorem szl_neg {n : Nat} {l : Int} (h : 0 ≤ l) : decide (szl n l < 0) = !decide ((n : Int) ≤ l) := by
  unfold szl
  by_cases hc : (n : Int) ≤ l
  · rw [if_pos hc, decide_eq_true hc, decide_eq_false (by omega)]; rfl
  · rw [if_neg hc, decide_eq_false hc, decide_eq_true (by omega)]; rfl
theorem sz_all' {n : Nat} {l : Int} (h : n ≤ Go.maxLen) (h0 : 0 ≤ l) (h1 : l ≤ 1048576) : (cond (decide ((IntKind.i64.wrap (l - (n : Int))) < 0)) (some (-1)) (some (IntKind.i64.wrap (l - (n : Int))))) = some (szl n l) := by
  unfold Go.maxLen at h
  rw [w64 (by omega) (by omega)]
  unfold szl
  by_cases hc : (n : Int) ≤ l
  · rw [if_pos hc, decide_eq_false (by omega)]; rfl
  · rw [if_neg hc, decide_eq_true (by omega)]; rfl
theorem sz_one (n : Nat) (l : Int) : (Option.bind (some (szl n l)) fun (y1 : Int) => cond (decide (y1 < 0)) (some (-1)) (some y1)) = some (szl n l) := by
  simp only [Option.bind_some]
  unfold szl
  split
  · rw [decide_eq_false (by omega)]; rfl
  · rfl
theorem wN {k : Nat} (h : k ≤ 9223372036854775806) : IntKind.i64.wrap ((k : Int) + 1) = ((k + 1 : Nat) : Int) := by
  rw [w64 (by omega) (by omega)]; omega
theorem mark_loop {α : Type} {L : Int → Int → List α → Option (Int × List α)} {g : Int → α} {c : Nat} (hc : c ≤ 64)
    (he : ∀ (k i : Nat) (ys : List α), i < ys.length → i ≤ 1048576 → k ≤ 1099511627776 → L (k : Int) (i : Int) ys = L ((k + c : Nat) : Int) ((i + 1 : Nat) : Int) (ys.set i (g k))) (hf : ∀ (k : Nat) (ys : List α), L (k : Int) (ys.length : Int) ys = some ((k : Int), ys))
    (xs : List α) (k : Nat) (hn : xs.length ≤ 1048576) (hk : k ≤ 1048576) :
    ∃ zs, L (k : Int) 0 xs = some (((k + c * xs.length : Nat) : Int), zs) ∧ zs.length = xs.length ∧ ∀ i, i < zs.length → zs[i]? = some (g ((k + c * i : Nat) : Int)) := by
  have key : ∀ (m i : Nat) (ys : List α), i + m = xs.length → ys.length = xs.length → (∀ j, j < i → ys[j]? = some (g ((k + c * j : Nat) : Int))) →
      ∃ zs, L ((k + c * i : Nat) : Int) (i : Int) ys = some (((k + c * xs.length : Nat) : Int), zs) ∧ zs.length = xs.length ∧ ∀ i, i < zs.length → zs[i]? = some (g ((k + c * i : Nat) : Int)) := by
    intro m
    induction m with
    | zero =>
      intro i ys hi hl hy
      have : i = ys.length := by omega
      subst this
      refine ⟨ys, ?_, hl, hy⟩
      rw [hf, hl]
    | succ m ih =>
      intro i ys hi hl hy
      have hci : c * i ≤ 64 * 1048576 := Nat.mul_le_mul hc (by omega)
      rw [he _ i ys (by omega) (by omega) (by omega)]
      have e : k + c * i + c = k + c * (i + 1) := by rw [Nat.mul_add]; omega
      rw [e]
      refine ih (i + 1) _ (by omega) (by simp [hl]) fun j hj => ?_
      rw [List.getElem?_set]
      by_cases h : i = j
      · subst h; simp; omega
      · rw [if_neg h]; exact hy j (by omega)
  have := key xs.length 0 xs (by omega) rfl (fun j hj => by omega)
  simpa using this
theorem held_loop {α : Type} {L : List α → Int → Int → Option (Int ⊕ Int)} {g : Int → α} {c : Nat} (hc : c ≤ 64)
    (he : ∀ (k i : Nat) (zs : List α), i < zs.length → i ≤ 1048576 → k ≤ 1099511627776 → zs[i]? = some (g k) → L zs (k : Int) (i : Int) = L zs ((k + c : Nat) : Int) ((i + 1 : Nat) : Int)) (hf : ∀ (k : Nat) (zs : List α), L zs (k : Int) (zs.length : Int) = some (.inl (k : Int)))
    (zs : List α) (k : Nat) (hn : zs.length ≤ 1048576) (hk : k ≤ 1048576) (hz : ∀ i, i < zs.length → zs[i]? = some (g ((k + c * i : Nat) : Int))) :
    L zs (k : Int) 0 = some (.inl ((k + c * zs.length : Nat) : Int)) := by
  have key : ∀ (m i : Nat), i + m = zs.length → L zs ((k + c * i : Nat) : Int) (i : Int) = some (.inl ((k + c * zs.length : Nat) : Int)) := by
    intro m
    induction m with
    | zero =>
      intro i hi
      have : i = zs.length := by omega
      subst this
      rw [hf]
    | succ m ih =>
      intro i hi
      have hci : c * i ≤ 64 * 1048576 := Nat.mul_le_mul hc (by omega)
      rw [he _ i zs (by omega) (by omega) (by omega) (hz i (by omega))]
      have e : k + c * i + c = k + c * (i + 1) := by rw [Nat.mul_add]; omega
      rw [e]
      exact ih (i + 1) (by omega)
  have := key zs.length 0 (by omega)
  simpa using this
end Go.Proofs.YtopigbmamejklaaGreatDoor

namespace Go.Proofs.YtopigbmamejklaaGreatDoor
open Ai
open Go.Lib (splitK splitB index count countB)
set_option linter.unusedSimpArgs false
set_option linter.unusedVariables false
def sp (c : UInt8) : List UInt8 → List (List UInt8)
  | [] => [[]]
  | b :: s => if b = c then [] :: sp c s else match sp c s with
    | [] => [[b]]
    | r :: rs => (b :: r) :: rs
theorem sp_ne (c : UInt8) : ∀ s, ∃ r rs, sp c s = r :: rs
  | [] => ⟨_, _, rfl⟩
  | b :: s => by
    obtain ⟨r, rs, h⟩ := sp_ne c s
    unfold sp
    split
    · exact ⟨_, _, rfl⟩
    · rw [h]; exact ⟨_, _, rfl⟩
theorem sp_hit (c : UInt8) (s : List UInt8) : sp c (c :: s) = [] :: sp c s := by rw [sp, if_pos rfl]
theorem sp_miss {c b : UInt8} (h : b ≠ c) {s r : List UInt8} {rs : List (List UInt8)} (e : sp c s = r :: rs) : sp c (b :: s) = (b :: r) :: rs := by rw [sp, if_neg h, e]
theorem sp_len (c : UInt8) : ∀ s, (sp c s).length ≤ s.length + 1
  | [] => Nat.le_refl _
  | b :: s => by
    obtain ⟨r, rs, h⟩ := sp_ne c s
    have ih := sp_len c s
    by_cases e : b = c
    · subst e; rw [sp_hit]; simp only [List.length_cons]; omega
    · rw [sp_miss e h]; rw [h] at ih; simp only [List.length_cons] at ih ⊢; omega
theorem sp_bytes (c : UInt8) : ∀ s, (sp c s).flatten.length ≤ s.length
  | [] => Nat.le_refl _
  | b :: s => by
    obtain ⟨r, rs, h⟩ := sp_ne c s
    have ih := sp_bytes c s
    by_cases e : b = c
    · subst e; rw [sp_hit, List.flatten_cons, List.nil_append]; simp only [List.length_cons]; omega
    · rw [sp_miss e h]; rw [h] at ih; simp only [List.flatten_cons, List.length_append, List.length_cons] at ih ⊢; omega
theorem sp_join (c : UInt8) : ∀ s, (sp c s).flatMap (fun r => r ++ [c]) = s ++ [c]
  | [] => rfl
  | b :: s => by
    obtain ⟨r, rs, h⟩ := sp_ne c s
    have ih := sp_join c s
    by_cases e : b = c
    · subst e; rw [sp_hit, List.flatMap_cons, ih]; rfl
    · rw [sp_miss e h]
      rw [h] at ih
      simp only [List.flatMap_cons, List.cons_append] at ih ⊢
      rw [ih]
theorem sp_end (c : UInt8) : ∀ s, sp c (s ++ [c]) = sp c s ++ [[]]
  | [] => by rw [List.nil_append, sp_hit]; rfl
  | b :: s => by
    obtain ⟨r, rs, h⟩ := sp_ne c s
    have ih := sp_end c s
    by_cases e : b = c
    · subst e; rw [List.cons_append, sp_hit, ih, sp_hit]; rfl
    · rw [h] at ih
      rw [List.cons_append, sp_miss e (by rw [ih]; rfl), sp_miss e h]; rfl
theorem sp_line (c : UInt8) (s : List UInt8) : ∀ r, c ∉ r → sp c (r ++ c :: s) = r :: sp c s
  | [], _ => by rw [List.nil_append, sp_hit]
  | b :: r, h => by
    have h1 : b ≠ c := fun e => h (by rw [e]; exact List.mem_cons_self ..)
    have h2 : c ∉ r := fun e => h (List.mem_cons_of_mem _ e)
    rw [List.cons_append, sp_miss h1 (sp_line c s r h2)]
theorem sp_lines (c : UInt8) : ∀ L : List (List UInt8), (∀ r ∈ L, c ∉ r) → sp c (L.flatMap fun r => r ++ [c]) = L ++ [[]]
  | [], _ => rfl
  | r :: L, h => by
    rw [List.flatMap_cons, List.append_assoc, List.singleton_append, sp_line c _ r (h r (List.mem_cons_self ..)), sp_lines c L fun q hq => h q (List.mem_cons_of_mem _ hq)]
    rfl
/-! ### The library's pieces -/
theorem index_cons (b c : UInt8) (l : List UInt8) : index (b :: l) [c] = if b = c then 0 else if index l [c] = -1 then -1 else index l [c] + 1 := by
  rw [index]
  by_cases h : b = c
  · subst h
    simp [List.isPrefixOf]
  · have h2 : ¬ c = b := fun e => h e.symm
    simp [List.isPrefixOf, h, h2]
theorem index_nil (c : UInt8) : index [] [c] = -1 := rfl
theorem count_cons9 (b c : UInt8) (l : List UInt8) : count (b :: l) [c] = if b = c then 1 + count l [c] else count l [c] := by
  have hi := index_cons b c l
  have hg := Go.Lib.index_ge l [c]
  by_cases h : b = c
  · rw [if_pos h] at hi ⊢
    rw [Go.Lib.count_hit (i := 0) (by simp) hi]
    rfl
  · rw [if_neg h] at hi ⊢
    by_cases h1 : index l [c] = -1
    · rw [if_pos h1] at hi
      rw [Go.Lib.count_miss hi, Go.Lib.count_miss h1]
    · rw [if_neg h1] at hi
      obtain ⟨i, hi'⟩ : ∃ i : Nat, index l [c] = i := ⟨(index l [c]).toNat, by omega⟩
      rw [Go.Lib.count_hit (i := i + 1) (by simp) (by rw [hi, hi']; rfl), Go.Lib.count_hit (i := i) (by simp) hi']
      rfl
theorem splitK_sp (c : UInt8) : ∀ s, splitK [c] 0 (count s [c]) s = sp c s
  | [] => by rw [Go.Lib.count_miss (index_nil c)]; rfl
  | b :: l => by
    have ih := splitK_sp c l
    have hi := index_cons b c l
    have hg := Go.Lib.index_ge l [c]
    rw [count_cons9]
    by_cases h : b = c
    · subst h
      rw [if_pos rfl] at hi
      rw [if_pos rfl, Nat.add_comm, splitK, hi, sp_hit, ← ih]
      simp
    · rw [if_neg h] at hi
      rw [if_neg h]
      obtain ⟨r, rs, hr⟩ := sp_ne c l
      rw [sp_miss h hr]
      cases hk : count l [c] with
      | zero =>
        rw [hk, splitK, hr] at ih
        rw [splitK]
        have := List.cons_eq_cons.1 ih
        rw [← this.1, ← this.2]
      | succ k =>
        have hne : ¬ index l [c] = -1 := fun e => by rw [Go.Lib.count_miss e] at hk; cases hk
        rw [if_neg hne] at hi
        obtain ⟨i, hi'⟩ : ∃ i : Nat, index l [c] = i := ⟨(index l [c]).toNat, by omega⟩
        rw [hk, splitK, hr, hi'] at ih
        rw [splitK, hi, hi']
        have e1 : ¬ (((i : Int) + 1 == -1) = true) := by simp; omega
        have e2 : ¬ (((i : Int) == -1) = true) := by simp
        rw [if_neg e2] at ih
        rw [if_neg e1]
        have e3 : ((i : Int) + 1).toNat = i + 1 := by omega
        have e4 : ((i : Int)).toNat = i := by omega
        rw [e4] at ih
        rw [e3]
        obtain ⟨h1, h2⟩ := List.cons_eq_cons.1 ih
        rw [← h1, ← h2]
        simp only [Nat.add_zero, List.length_singleton, List.take_succ_cons, List.drop_succ_cons]
theorem pieces_sp (s : List UInt8) (c : UInt8) : pieces s [c] = sp c s := by
  unfold pieces
  rw [Go.Lib.splitB_data]
  exact splitK_sp c s
theorem splX_v (s : List UInt8) (c : UInt8) (h : s.length ≤ 1048576) : splX (s, [c]) = some (sp c s) := by
  unfold splX
  rw [if_pos ⟨by simp only; omega, by simp⟩, pieces_sp]
/-! ### The reference's pieces -/
def glue (cur : List UInt8) : List (List UInt8) → List (List UInt8)
  | [] => [cur]
  | r :: rs => (cur ++ r) :: rs
theorem cut_more {s : List UInt8} {a i : Nat} (h1 : a ≤ i) (h2 : i < s.length) : cut a (i + 1) s = cut a i s ++ [s[i]] := by
  unfold cut
  rw [List.take_add_one, List.getElem?_eq_getElem h2, List.drop_append_of_le_length (by rw [List.length_take]; omega)]
  rfl
theorem cut_none (s : List UInt8) (a : Nat) : cut a a s = [] := by
  unfold cut
  rw [List.drop_eq_nil_of_le]
  rw [List.length_take]; omega
theorem split_loop (s : List UInt8) (c : UInt8) (hn : s.length ≤ 1048576) : ∀ (d i a : Nat) (out : List (List UInt8)), i + d = s.length → a ≤ i → out.length ≤ i →
    spec_l01Split_l0 s (c.toNat : Int) out (a : Int) (i : Int) = some (out ++ glue (cut a i s) (sp c (s.drop i)))
  | 0, i, a, out, hi, ha, ho => by
    have e1 : (decide (0 ≤ (i : Int)) && decide ((i : Int) ≤ (s.length : Int))) = true := by rw [Bool.and_eq_true, decide_eq_true_iff, decide_eq_true_iff]; omega
    have e2 : (decide (0 ≤ (a : Int)) && decide ((a : Int) ≤ (i : Int))) = true := by rw [Bool.and_eq_true, decide_eq_true_iff, decide_eq_true_iff]; omega
    rw [spec_l01Split_l0_eq, decide_eq_true (p := (i : Int) ≤ (s.length : Int)) (by omega), decide_eq_true (p := (i : Int) = (s.length : Int)) (by omega), decide_eq_true (p := out.length + [_].length ≤ LIM) (by unfold LIM; simp only [List.length_singleton]; omega), decide_eq_true (p := 0 ≤ (i : Int)) (by omega), e2]
    simp only [cond_true, Bool.and_true, Option.bind_fun_some, Int.toNat_natCast]
    rw [w64 (x := (i : Int) + 1) (by omega) (by omega), spec_l01Split_l0_eq, decide_eq_false (p := (i : Int) + 1 ≤ (s.length : Int)) (by omega), cond_false, List.drop_eq_nil_of_le (by omega)]
    simp [sp, glue]
  | d + 1, i, a, out, hi, ha, ho => by
    have hlt : i < s.length := by omega
    obtain ⟨r, rs, hr⟩ := sp_ne c (s.drop (i + 1))
    have e1 : (decide (0 ≤ (i : Int)) && decide ((i : Int) ≤ (s.length : Int))) = true := by rw [Bool.and_eq_true, decide_eq_true_iff, decide_eq_true_iff]; omega
    have e2 : (decide (0 ≤ (a : Int)) && decide ((a : Int) ≤ (i : Int))) = true := by rw [Bool.and_eq_true, decide_eq_true_iff, decide_eq_true_iff]; omega
    rw [spec_l01Split_l0_eq, decide_eq_true (p := (i : Int) ≤ (s.length : Int)) (by omega), decide_eq_false (p := (i : Int) = (s.length : Int)) (by omega), rd_lt hlt, decide_eq_true (p := out.length + [_].length ≤ LIM) (by unfold LIM; simp only [List.length_singleton]; omega), decide_eq_true (p := 0 ≤ (i : Int)) (by omega), e2, List.drop_eq_getElem_cons hlt]
    simp only [cond_true, cond_false, Bool.and_true, Option.bind_some, Option.bind_fun_some, Int.toNat_natCast]
    rw [wnext hlt (by omega)]
    by_cases e : s[i] = c
    · rw [decide_eq_true (by rw [e]), cond_true, split_loop s c hn d (i + 1) (i + 1) _ (by omega) (Nat.le_refl _) (by rw [List.length_append]; simp only [List.length_singleton]; omega), cut_none, e, sp_hit, hr]
      simp [glue]
    · rw [decide_eq_false (fun h => e (UInt8.toNat_inj.1 (by omega))), cond_false, split_loop s c hn d (i + 1) a out (by omega) (by omega) (by omega), cut_more ha hlt, sp_miss e hr, hr]
      simp [glue]
theorem spec_split_v (s : List UInt8) (c : UInt8) (hn : s.length ≤ 1048576) : spec_l01Split s (c.toNat : Int) = some (sp c s) := by
  have h := split_loop s c hn s.length 0 0 [] (by omega) (Nat.le_refl _) (by simp)
  obtain ⟨r, rs, hr⟩ := sp_ne c s
  rw [spec_l01Split_eq, show spec_l01Split_l0 s (c.toNat : Int) [] 0 0 = _ from h]
  simp only [Option.bind_some, List.nil_append, List.drop_zero, cut_none, hr]
  rfl
end Go.Proofs.YtopigbmamejklaaGreatDoor

namespace Go.Proofs.YtopigbmamejklaaGreatDoor
open Ai
set_option linter.unusedSimpArgs false
set_option linter.unusedVariables false
/-! ### The program's rows -/
theorem digits_loop (r : List UInt8) (hn : r.length ≤ 1048576) : ∀ (d k : Nat) (out : List Int), k + d = r.length → out.length ≤ k →
    impl_readDigits_l0 r out (r.length : Int) (k : Int) = some (if (r.drop k).all isDig = true then .inl (out ++ (r.drop k).map dz) else .inr false)
  | 0, k, out, hk, ho => by
    rw [impl_readDigits_l0_eq, decide_eq_false (by omega), List.drop_eq_nil_of_le (by omega)]
    simp
  | d + 1, k, out, hk, ho => by
    have hlt : k < r.length := by omega
    have ih := fun out ho => digits_loop r hn d (k + 1) out (by omega) ho
    rw [impl_readDigits_l0_eq, decide_eq_true (by omega), rd_lt hlt, List.drop_eq_getElem_cons hlt]
    simp only [cond_true, Option.bind_some, Option.bind_fun_some]
    rw [wnext hlt (by omega), List.all_cons, List.map_cons]
    by_cases h1 : ((r[k].toNat : Nat) : Int) < 48
    · rw [decide_eq_true h1, cond_true]
      have : isDig r[k] = false := by unfold isDig; rw [decide_eq_false (by omega)]; rfl
      rw [this]; rfl
    · rw [decide_eq_false h1, cond_false]
      by_cases h2 : (57 : Int) < ((r[k].toNat : Nat) : Int)
      · rw [decide_eq_true h2, cond_true]
        have : isDig r[k] = false := by unfold isDig; rw [decide_eq_false (p := r[k].toNat ≤ 57) (by omega), Bool.and_false]
        rw [this]; rfl
      · rw [decide_eq_false h2, cond_false]
        have hd : isDig r[k] = true := by unfold isDig; rw [decide_eq_true (by omega), decide_eq_true (by omega)]; rfl
        have e : IntKind.i64.wrap (IntKind.u8.wrap (((r[k].toNat : Nat) : Int) - 48)) = dz r[k] := by
          rw [u8_small (by omega) (by omega), w64 (by omega) (by omega)]; rfl
        rw [e, decide_eq_true (by unfold LIM; simp only [List.length_singleton]; omega), cond_true, ih _ (by rw [List.length_append]; simp only [List.length_singleton]; omega), hd, Bool.true_and]
        simp
theorem readDigits_v (r : List UInt8) (hn : r.length ≤ 1048576) : impl_readDigits r = some (if r.all isDig = true then (r.map dz, true) else ([], false)) := by
  have h := digits_loop r hn r.length 0 [] (by omega) (by simp)
  rw [impl_readDigits_eq, show impl_readDigits_l0 r [] (r.length : Int) 0 = _ from h]
  rw [List.drop_zero]
  split <;> rfl
def goodR (w : Nat) (r : List UInt8) : Bool := r.all isDig && decide (r.length = w)
theorem rows_loop (wh : Bool) (L : List (List UInt8)) (r0 : List UInt8) (L' : List (List UInt8)) (hL : L = r0 :: L') (hn : L.length ≤ 1048577) (hr : ∀ r ∈ L, r.length ≤ 1048576) : ∀ (d k : Nat) (acc : List (List Int)), k + d = L.length → acc.length ≤ k →
    impl_readRows_l0 wh L acc L (L.length : Int) (k : Int) = some (if (L.drop k).all (goodR r0.length) = true then .inl (wh, L, acc ++ (L.drop k).map (fun r => r.map dz)) else .inr (0, false))
  | 0, k, acc, hk, ho => by
    rw [impl_readRows_l0_eq, decide_eq_false (by omega), List.drop_eq_nil_of_le (by omega)]
    simp
  | d + 1, k, acc, hk, ho => by
    have hlt : k < L.length := by omega
    have ih := fun acc ho => rows_loop wh L r0 L' hL hn hr d (k + 1) acc (by omega) ho
    have h0 : rd L 0 = some r0 := by rw [hL]; rfl
    rw [impl_readRows_l0_eq, decide_eq_true (by omega), rd_lt hlt, List.drop_eq_getElem_cons hlt]
    simp only [cond_true, Option.bind_some, Option.bind_fun_some]
    rw [readDigits_v _ (hr _ (List.getElem_mem hlt)), wnext hlt (by omega), List.all_cons, List.map_cons, h0]
    cases hd : L[k].all isDig with
    | false =>
      have : goodR r0.length L[k] = false := by unfold goodR; rw [hd]; rfl
      rw [this]; rfl
    | true =>
      simp only [if_true, cond_true, Option.bind_some]
      by_cases hw : L[k].length = r0.length
      · have : goodR r0.length L[k] = true := by unfold goodR; rw [hd, decide_eq_true hw]; rfl
        rw [decide_eq_true (by rw [hw]), this, decide_eq_true (by unfold LIM; simp only [List.length_singleton]; omega)]
        simp only [Bool.not_true, cond_false, cond_true]
        rw [ih _ (by rw [List.length_append]; simp only [List.length_singleton]; omega), Bool.true_and]
        simp
      · have : goodR r0.length L[k] = false := by unfold goodR; rw [hd, decide_eq_false hw]; rfl
        rw [decide_eq_false (fun h => hw (by omega)), this]
        rfl
theorem concat_sum (R : List (List Int)) (hn : R.length ≤ 1048577) (hb : R.flatten.length ≤ 1048576) : ∀ (d k : Nat) (m : Int), k + d = R.length → m = ((R.take k).flatten.length : Int) →
    slices_Concat_Sint64_int64_l0 R m R (R.length : Int) (k : Int) = some (R, (R.flatten.length : Int))
  | 0, k, m, hk, hm => by
    rw [slices_Concat_Sint64_int64_l0_eq, decide_eq_false (by omega), hm, List.take_of_length_le (by omega)]
    rfl
  | d + 1, k, m, hk, hm => by
    have hlt : k < R.length := by omega
    have e : (R.take (k + 1)).flatten.length = (R.take k).flatten.length + R[k].length := by
      rw [List.take_add_one, List.getElem?_eq_getElem hlt, List.flatten_append, List.length_append]
      simp
    have hle : (R.take (k + 1)).flatten.length ≤ R.flatten.length := by
      conv => rhs; rw [← List.take_append_drop (k + 1) R, List.flatten_append, List.length_append]
      omega
    have hw : IntKind.i64.wrap (m + (R[k].length : Int)) = ((R.take (k + 1)).flatten.length : Int) := by
      rw [w64 (by omega) (by omega)]; omega
    rw [slices_Concat_Sint64_int64_l0_eq, decide_eq_true (by omega), rd_lt hlt]
    simp only [cond_true, Option.bind_some, Option.bind_fun_some]
    rw [wnext hlt (by omega), hw, decide_eq_false (by omega), cond_false]
    exact concat_sum R hn hb d (k + 1) _ (by omega) rfl
theorem concat_app (R : List (List Int)) (hn : R.length ≤ 1048577) (hb : R.flatten.length ≤ 1048576) : ∀ (d k : Nat), k + d = R.length →
    slices_Concat_Sint64_int64_l1 (R.take k).flatten R (R.length : Int) (k : Int) = some R.flatten
  | 0, k, hk => by
    rw [slices_Concat_Sint64_int64_l1_eq, decide_eq_false (by omega), List.take_of_length_le (by omega)]
    rfl
  | d + 1, k, hk => by
    have hlt : k < R.length := by omega
    have e : (R.take (k + 1)).flatten = (R.take k).flatten ++ R[k] := by
      rw [List.take_add_one, List.getElem?_eq_getElem hlt, List.flatten_append]
      simp
    have hle : (R.take (k + 1)).flatten.length ≤ R.flatten.length := by
      conv => rhs; rw [← List.take_append_drop (k + 1) R, List.flatten_append, List.length_append]
      omega
    rw [e, List.length_append] at hle
    rw [slices_Concat_Sint64_int64_l1_eq, decide_eq_true (by omega), rd_lt hlt]
    simp only [cond_true, Option.bind_some, Option.bind_fun_some]
    rw [wnext hlt (by omega), decide_eq_true (by unfold LIM; omega), cond_true, ← e]
    exact concat_app R hn hb d (k + 1) (by omega)
theorem concat_v (R : List (List Int)) (hn : R.length ≤ 1048577) (hb : R.flatten.length ≤ 1048576) : slices_Concat_Sint64_int64 R = some R.flatten := by
  have h1 := concat_sum R hn hb R.length 0 0 (by omega) rfl
  have h2 := concat_app R hn hb R.length 0 (by omega)
  have hg : groX (.i .i64) (R.flatten.length : Int) = some ([] : List Int) := by
    unfold groX
    rw [if_pos ⟨by omega, by omega⟩]
  rw [slices_Concat_Sint64_int64_eq, show slices_Concat_Sint64_int64_l0 R 0 R (R.length : Int) 0 = _ from h1]
  simp only [Option.bind_some, slices_Grow_Sint64_int64_ext]
  rw [hg]
  simp only [Option.bind_some]
  rw [show slices_Concat_Sint64_int64_l1 [] R (R.length : Int) 0 = _ from h2]
  rfl
/-! ### The newline at the end -/
theorem cut_last {s : List UInt8} (h : 0 < s.length) (hn : s.length ≤ 1048576) : cut (Int.toNat (IntKind.i64.wrap ((s.length : Int) - (([10] : List UInt8).length : Int)))) s.length s = [s[s.length - 1]] := by
  rw [w64 (by simp only [List.length_singleton]; omega) (by simp only [List.length_singleton]; omega)]
  have e : Int.toNat ((s.length : Int) - (([10] : List UInt8).length : Int)) = s.length - 1 := by simp only [List.length_singleton]; omega
  rw [e]
  unfold cut
  rw [List.take_length, List.drop_eq_getElem_cons (by omega), List.drop_eq_nil_of_le (by omega)]
theorem suffix_v (s : List UInt8) (hn : s.length ≤ 1048576) : (∃ t, s = t ++ [10] ∧ strings_CutSuffix s [10] = some (t, true)) ∨ ((∀ t, s ≠ t ++ [10]) ∧ strings_CutSuffix s [10] = some (s, false)) := by
  rw [strings_CutSuffix_eq, internal_stringslite_CutSuffix_eq, internal_stringslite_HasSuffix_eq]
  by_cases h0 : s = []
  · right
    subst h0
    refine ⟨fun t e => ?_, rfl⟩
    have := congrArg List.length e
    simp at this
  · have hpos : 0 < s.length := List.length_pos_iff.2 h0
    have hb : (decide (0 ≤ IntKind.i64.wrap ((s.length : Int) - (([10] : List UInt8).length : Int))) && decide (IntKind.i64.wrap ((s.length : Int) - (([10] : List UInt8).length : Int)) ≤ (s.length : Int))) = true := by
      rw [w64 (by simp only [List.length_singleton]; omega) (by simp only [List.length_singleton]; omega), Bool.and_eq_true, decide_eq_true_iff, decide_eq_true_iff]
      simp only [List.length_singleton]; omega
    rw [decide_eq_true (p := (([10] : List UInt8).length : Int) ≤ (s.length : Int)) (by simp only [List.length_singleton]; omega), hb, cut_last hpos hn]
    simp only [cond_true]
    by_cases hl : s[s.length - 1] = 10
    · left
      refine ⟨s.take (s.length - 1), ?_, ?_⟩
      · conv => lhs; rw [← List.take_append_drop (s.length - 1) s]
        rw [List.drop_eq_getElem_cons (by omega), List.drop_eq_nil_of_le (by omega), hl]
      · rw [decide_eq_true (by rw [hl])]
        have e : cut 0 (Int.toNat (IntKind.i64.wrap ((s.length : Int) - (([10] : List UInt8).length : Int)))) s = s.take (s.length - 1) := by
          rw [w64 (by simp only [List.length_singleton]; omega) (by simp only [List.length_singleton]; omega)]
          have e : Int.toNat ((s.length : Int) - (([10] : List UInt8).length : Int)) = s.length - 1 := by simp only [List.length_singleton]; omega
          rw [e]
          rfl
        simp only [cond_true, Option.bind_some]
        rw [e]
    · right
      refine ⟨fun t e => hl ?_, ?_⟩
      · subst e
        simp
      · rw [decide_eq_false fun e => hl (by simpa using e)]
        rfl
/-! ### The reference's cells -/
theorem line_loop (s : List UInt8) (lines : List (List UInt8)) {y : Nat} (hy : y < lines.length) (a b W H : Int) : ∀ (d x : Nat) (cs : List Int), x + d = lines[y].length → cs.length + d ≤ 2000000 → lines[y].length ≤ 1048576 →
    spec_ParsePatch_l1 s lines (y : Int) (x : Int) a b W H cs = some (s, lines, (y : Int), a, b, W, H, cs ++ (lines[y].drop x).map dz)
  | 0, x, cs, hx, hc, hl => by
    rw [spec_ParsePatch_l1_eq, inb hy, gd hy, decide_eq_false (by omega), List.drop_eq_nil_of_le (by omega)]
    simp
  | d + 1, x, cs, hx, hc, hl => by
    have hlt : x < lines[y].length := by omega
    have e : IntKind.i64.wrap (IntKind.i64.wrap ((lines[y][x].toNat : Nat) : Int) - 48) = dz lines[y][x] := by
      have := UInt8.toNat_lt lines[y][x]
      rw [w64 (x := ((lines[y][x].toNat : Nat) : Int)) (by omega) (by omega), w64 (by omega) (by omega)]; rfl
    rw [spec_ParsePatch_l1_eq, inb hy, gd hy, decide_eq_true (p := (x : Int) < (lines[y].length : Int)) (by omega), rd_lt hlt, List.drop_eq_getElem_cons hlt]
    simp only [cond_true, Option.bind_some, Option.bind_fun_some]
    rw [e, wnext hlt (by omega), decide_eq_true (by unfold LIM; simp only [List.length_singleton]; omega), cond_true, line_loop s lines hy a b W H d (x + 1) _ (by omega) (by rw [List.length_append]; simp only [List.length_singleton]; omega) hl, List.append_assoc]
    rfl
def lastW (W : Int) (L : List (List UInt8)) : Int := L.foldl (fun _ r => (r.length : Int)) W
theorem lines_loop (s : List UInt8) (lines : List (List UInt8)) (hn : lines.length ≤ 1048577) (hr : ∀ r ∈ lines, r.length ≤ 1048576) (a b H : Int) : ∀ (d y : Nat) (W : Int) (cs : List Int), y + d + 1 = lines.length → cs.length + (lines.drop y).flatten.length ≤ 1048576 →
    spec_ParsePatch_l0 s lines (y : Int) a b W H cs = some (s, a, b, lastW W (lines.dropLast.drop y), H, cs ++ ((lines.dropLast.drop y).flatten).map dz)
  | 0, y, W, cs, hy, hc => by
    rw [spec_ParsePatch_l0_eq, w64 (by omega) (by omega), decide_eq_false (by omega), List.drop_eq_nil_of_le (by rw [List.length_dropLast]; omega)]
    simp [lastW]
  | d + 1, y, W, cs, hy, hc => by
    have hlt : y < lines.length := by omega
    have hlt2 : y < lines.dropLast.length := by rw [List.length_dropLast]; omega
    have hg : lines.dropLast[y] = lines[y] := List.getElem_dropLast hlt2
    rw [List.drop_eq_getElem_cons hlt, List.flatten_cons, List.length_append] at hc
    have hl := hr _ (List.getElem_mem hlt)
    rw [spec_ParsePatch_l0_eq, w64 (x := (y : Int) + 1) (by omega) (by omega), decide_eq_true (by omega), inb hlt, gd hlt]
    simp only [cond_true, Option.bind_fun_some]
    rw [show (0 : Int) = ((0 : Nat) : Int) from rfl, line_loop s lines hlt a b _ H lines[y].length 0 cs (by omega) (by omega) hl]
    simp only [Option.bind_some, List.drop_zero]
    rw [wnext hlt (by omega), lines_loop s lines hn hr a b H d (y + 1) _ _ (by omega) (by rw [List.length_append, List.length_map]; omega), List.drop_eq_getElem_cons hlt2, hg]
    simp [lastW]
end Go.Proofs.YtopigbmamejklaaGreatDoor

namespace Go.Proofs.YtopigbmamejklaaGreatDoor
open Ai
set_option linter.unusedSimpArgs false
set_option linter.unusedVariables false
abbrev Src := List Int × Int × Int
structure SrcOk (s : Src) : Prop where
  b : ∀ c ∈ s.1, 0 ≤ c ∧ c ≤ 255
  n : s.1.length ≤ 1048576
  p : 0 ≤ s.2.1 ∧ s.2.1 ≤ (s.1.length : Int)
  e : 0 ≤ s.2.2 ∧ s.2.2 < 2147483647
theorem tmod_pos {a n : Int} (ha : 0 ≤ a) (hn : 0 < n) : 0 ≤ Int.tmod a n ∧ Int.tmod a n < n := by
  rw [Int.tmod_eq_emod_of_nonneg ha]
  exact ⟨Int.emod_nonneg _ (by omega), Int.emod_lt_of_pos _ hn⟩
theorem spec_l01Next_v {s : Src} (h : SrcOk s) (n : Int) (hn : n ≤ 1099511627776) : ∃ (r : Int) (s' : Src), spec_l01Next s n = some (r, s') ∧ SrcOk s' ∧ s'.1 = s.1 ∧ 0 ≤ r ∧ (1 ≤ n → r < n) := by
  obtain ⟨cs, at', seed⟩ := s
  obtain ⟨hb, hl, ⟨p1, p2⟩, e1, e2⟩ := h
  simp only at hb hl p1 p2 e1 e2
  rw [spec_l01Next_eq]
  by_cases h1 : n ≤ 1
  · rw [decide_eq_true h1]
    exact ⟨0, _, rfl, ⟨hb, hl, ⟨p1, p2⟩, e1, e2⟩, rfl, by omega, fun h => by omega⟩
  · rw [decide_eq_false h1]
    simp only [cond_false]
    have w1 : IntKind.i64.wrap (seed * 48271) = seed * 48271 := w64 (by omega) (by omega)
    have w2 : IntKind.i64.wrap (seed * 48271 + 67) = seed * 48271 + 67 := w64 (by omega) (by omega)
    rw [w1, w2, show decide (2147483647 = 0) = false from rfl, show decide (37 = 0) = false from rfl, decide_eq_false (show ¬ n = 0 by omega)]
    simp only [cond_false]
    obtain ⟨t1, t2⟩ := tmod_pos (a := seed * 48271 + 67) (n := 2147483647) (by omega) (by omega)
    generalize Int.tmod (seed * 48271 + 67) 2147483647 = sd at t1 t2 ⊢
    have d0 : Int.tdiv sd 37 = sd / 37 := Int.tdiv_eq_ediv_of_nonneg t1
    have d1 : 0 ≤ sd / 37 ∧ sd / 37 ≤ 2147483647 := by omega
    rw [d0]
    by_cases h2 : at' < (cs.length : Int)
    · rw [decide_eq_true h2]
      have hlt : at'.toNat < cs.length := by omega
      have hrd : rd cs at' = some (cs[at'.toNat]) := by
        have := rd_lt hlt
        rwa [Int.toNat_of_nonneg p1] at this
      have hc := hb _ (List.getElem_mem hlt)
      have w3 : IntKind.i64.wrap (at' + 1) = at' + 1 := w64 (by omega) (by omega)
      have w4 : IntKind.i64.wrap (at' + 1 - 1) = at' := by rw [w64 (by omega) (by omega)]; omega
      have w5 : IntKind.i64.wrap cs[at'.toNat] = cs[at'.toNat] := w64 (by omega) (by omega)
      have w6 : IntKind.i64.wrap (sd / 37) = sd / 37 := w64 (by omega) (by omega)
      have w7 : IntKind.i64.wrap (sd / 37 + cs[at'.toNat]) = sd / 37 + cs[at'.toNat] := w64 (by omega) (by omega)
      have hok : SrcOk (cs, at' + 1, sd) := ⟨hb, hl, ⟨by show 0 ≤ at' + 1; omega, by show at' + 1 ≤ (cs.length : Int); omega⟩, t1, t2⟩
      obtain ⟨r1, r2⟩ := tmod_pos (a := cs[at'.toNat]) (n := n) hc.1 (by omega)
      obtain ⟨r3, r4⟩ := tmod_pos (a := sd / 37 + cs[at'.toNat]) (n := n) (by omega) (by omega)
      simp only [cond_true, hrd, Option.bind_some, w3, w4, w5, w6, w7]
      cases decide (n ≤ 256) with
      | false => exact ⟨_, _, rfl, hok, rfl, r3, fun _ => r4⟩
      | true =>
        rw [show decide (2 = 0) = false from rfl]
        simp only [cond_true, cond_false]
        cases decide (Int.tmod (at' + 1) 2 = 0) with
        | false => exact ⟨_, _, rfl, hok, rfl, r3, fun _ => r4⟩
        | true =>
          simp only [cond_true, hrd, Option.bind_some, w5]
          exact ⟨_, _, rfl, hok, rfl, r1, fun _ => r2⟩
    · rw [decide_eq_false h2]
      have w6 : IntKind.i64.wrap (sd / 37) = sd / 37 := w64 (by omega) (by omega)
      obtain ⟨r3, r4⟩ := tmod_pos (a := sd / 37) (n := n) (by omega) (by omega)
      simp only [cond_false, w6]
      exact ⟨_, _, rfl, ⟨hb, hl, ⟨p1, p2⟩, t1, t2⟩, rfl, r3, fun _ => r4⟩
theorem spec_l01Pick_v {s : Src} (h : SrcOk s) (xs : List Int) (h1 : 1 ≤ xs.length) (h2 : xs.length ≤ 1000) : ∃ (r : Int) (s' : Src), spec_l01Pick s xs = some (r, s') ∧ SrcOk s' ∧ s'.1 = s.1 ∧ r ∈ xs := by
  obtain ⟨k, s', e1, e2, e3, e4, e5⟩ := spec_l01Next_v h (xs.length : Int) (by omega)
  have hk := e5 (by omega)
  have hlt : k.toNat < xs.length := by omega
  have hrd : rd xs k = some xs[k.toNat] := by
    have := rd_lt hlt
    rwa [Int.toNat_of_nonneg e4] at this
  rw [spec_l01Pick_eq, e1]
  simp only [Option.bind_some, hrd]
  exact ⟨_, _, rfl, e2, e3, List.getElem_mem hlt⟩
end Go.Proofs.YtopigbmamejklaaGreatDoor

namespace Go.Proofs.YtopigbmamejklaaGreatDoor
open Ai
set_option linter.unusedSimpArgs false
set_option linter.unusedVariables false
set_option linter.unnecessarySimpa false
theorem tmod_lim {a n : Int} (hn : 0 < n) : -n < Int.tmod a n ∧ Int.tmod a n < n := by
  have h1 := Int.natAbs_tmod a n
  have : (Int.tmod a n).natAbs < n.natAbs := by
    rw [h1]; exact Nat.mod_lt _ (by omega)
  omega
theorem tmod_emod {a n : Int} (hn : 0 < n) : Int.tmod a n = a % n ∨ Int.tmod a n = a % n - n ∧ a % n ≠ 0 := by
  rw [Int.tmod_eq_emod]
  split
  · left; simp
  · rename_i h
    right
    have h2 : ¬ n ∣ a := fun hd => h (.inr hd)
    have : a % n ≠ 0 := fun h0 => h2 (Int.dvd_of_emod_eq_zero h0)
    refine ⟨by rw [Int.natAbs_of_nonneg (by omega)], this⟩
theorem spec_l01Mod_v (a n : Int) (hn : 0 < n) (hb : n ≤ 1099511627776) : spec_l01Mod a n = some (a % n) := by
  rw [spec_l01Mod_eq, decide_eq_false (by omega)]
  simp only [cond_false]
  have h1 := Int.emod_nonneg a (show n ≠ 0 by omega)
  have h2 := Int.emod_lt_of_pos a hn
  rcases tmod_emod (a := a) hn with h | ⟨h, hne⟩
  · rw [h, decide_eq_false (by omega)]; rfl
  · rw [h, decide_eq_true (by omega), w64 (by omega) (by omega)]
    simp
theorem impl_mod_v (a n : Int) (hn : 0 < n) (hb : n ≤ 1099511627776) : impl_mod a n = some (a % n) := by
  rw [impl_mod_eq, decide_eq_false (by omega)]
  simp only [cond_false]
  have h1 := Int.emod_nonneg a (show n ≠ 0 by omega)
  have h2 := Int.emod_lt_of_pos a hn
  rcases tmod_emod (a := a) hn with h | ⟨h, hne⟩
  · rw [h, w64 (by omega) (by omega), Int.tmod_eq_emod_of_nonneg (by omega), Int.add_emod_right, Int.emod_emod_of_dvd _ (Int.dvd_refl n)]
  · rw [h, w64 (by omega) (by omega), Int.tmod_eq_emod_of_nonneg (by omega)]
    congr 1
    rw [show a % n - n + n = a % n by omega, Int.emod_emod_of_dvd _ (Int.dvd_refl n)]
end Go.Proofs.YtopigbmamejklaaGreatDoor
