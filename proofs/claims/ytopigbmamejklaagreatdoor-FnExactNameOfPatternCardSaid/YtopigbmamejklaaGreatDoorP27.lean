/-
  Plain meanings: all images of a pattern, the order of patterns, the least one.
-/
import Derived.Test.YtopigbmamejklaaGreatDoorP24
namespace Go.Proofs.YtopigbmamejklaaGreatDoor
open Ai
set_option linter.unusedSimpArgs false
set_option linter.unusedVariables false
/-! ### Orders -/
def cmpS : List Int → List Int → Int
  | [], [] => 0
  | [], _ :: _ => -1
  | _ :: _, [] => 1
  | a :: r, b :: s => if a = b then cmpS r s else if a < b then -1 else 1
theorem cmpS_neg : ∀ a b : List Int, cmpS a b < 0 ↔ lexB a b = true
  | [], [] => by simp [cmpS, lexB]
  | [], _ :: _ => by simp [cmpS, lexB]
  | _ :: _, [] => by simp [cmpS, lexB]
  | a :: r, b :: s => by
    simp only [cmpS, lexB]
    by_cases h : a = b
    · simp only [if_pos h]; exact cmpS_neg r s
    · simp only [if_neg h]
      by_cases h2 : a < b
      · simp [h2]
      · simp [h2]
theorem cmpS_lt (a b : List Int) : decide (cmpS a b < 0) = lexB a b := by
  rw [Bool.eq_iff_iff, decide_eq_true_iff, cmpS_neg]
theorem cmpS_self : ∀ a : List Int, cmpS a a = 0
  | [] => rfl
  | a :: r => by simp only [cmpS, if_true]; exact cmpS_self r
theorem cmpS_zero : ∀ {a b : List Int}, cmpS a b = 0 → a = b
  | [], [], _ => rfl
  | [], _ :: _, h => by simp [cmpS] at h
  | _ :: _, [], h => by simp [cmpS] at h
  | a :: r, b :: s, h => by
    simp only [cmpS] at h
    split at h
    · rename_i e; rw [e, cmpS_zero h]
    · split at h <;> simp at h
def lexR : List Int → List Int → Option Bool
  | a :: r, b :: s => if a = b then lexR r s else some (decide (a < b))
  | _, _ => none
theorem lexR_B : ∀ a b : List Int, lexB a b = (match lexR a b with | none => decide (a.length < b.length) | some v => v)
  | [], [] => rfl
  | [], _ :: _ => by simp [lexB, lexR]
  | _ :: _, [] => by simp [lexB, lexR]
  | a :: r, b :: s => by
    simp only [lexB, lexR]
    by_cases h : a = b
    · rw [if_pos h, if_pos h, lexR_B r s]
      cases lexR r s with
      | none => simp
      | some v => rfl
    · rw [if_neg h, if_neg h]
def cmpR : List Int → List Int → Option Int
  | a :: r, b :: s => if a = b then cmpR r s else some (if a < b then -1 else 1)
  | _ :: _, [] => some 1
  | [], _ => none
theorem cmpR_S : ∀ a b : List Int, cmpS a b = (match cmpR a b with | none => if a.length < b.length then -1 else 0 | some v => v)
  | [], [] => rfl
  | [], _ :: _ => by simp [cmpS, cmpR]
  | _ :: _, [] => by simp [cmpS, cmpR]
  | a :: r, b :: s => by
    simp only [cmpS, cmpR]
    by_cases h : a = b
    · rw [if_pos h, if_pos h, cmpR_S r s]
      cases cmpR r s with
      | none => simp
      | some v => rfl
    · rw [if_neg h, if_neg h]
/-! ### The least pattern -/
theorem minP_fold (b : Pat) (xs : List Pat) : minP b xs = xs.foldl (fun b x => if ltP x b = true then x else b) b := rfl
theorem foldl_inv {α β : Type} {I : α → Prop} {f : α → β → α} : ∀ (xs : List β) (a : α), I a → (∀ a x, x ∈ xs → I a → I (f a x)) → I (xs.foldl f a)
  | [], _, h, _ => h
  | x :: r, a, h, hs => foldl_inv r (f a x) (hs a x (List.mem_cons_self ..) h) fun a y hy => hs a y (List.mem_cons_of_mem _ hy)
/-! ### All images -/
theorem mapp_ss {m : Mat4} (hm : Pm m) {l : Lat} (hl : isLat l = true) {x : V} (hx : x ∈ cells l) : Ss (mapp m x) := by
  have h1 := mapp_lim hm x
  have h2 := cells_sv hl hx
  unfold Sv at h2
  unfold Ss
  omega
theorem pmats_pm {f : Int} (hf : f = 0 ∨ f = 1) {m : Mat4} (h : m ∈ pmats f) : Pm m := pmB_pm hf ((mem_pmats hf _).1 h)
theorem flatM_le {α β : Type} (g : α → List β) (c : Nat) : ∀ (xs : List α), (∀ x ∈ xs, (g x).length ≤ c) → (xs.flatMap g).length ≤ c * xs.length
  | [], _ => by simp
  | x :: r, h => by
    have h1 := h x (List.mem_cons_self ..)
    have h2 := flatM_le g c r fun y hy => h y (List.mem_cons_of_mem _ hy)
    rw [List.flatMap_cons, List.length_append, List.length_cons, Nat.mul_add]
    omega
theorem imgs_ok {q : Pat} (hq : isPat q = true) {f : Int} (hf : f = 0 ∨ f = 1) : (imgs1 q (pmats f)).length ≤ 100000 ∧ (imgs2 q (pmats f)).length ≤ 100000 ∧ (∀ x ∈ imgs1 q (pmats f), isPat x = true) ∧ ∀ x ∈ imgs2 q (pmats f), isPat x = true := by
  have hlq := (isPat_iff.1 hq).2.1
  have hms := pmats_len f
  refine ⟨?_, ?_, fun x hx => ?_, fun x hx => ?_⟩
  · have := flatM_le (fun m => (cells q.2.1).map fun x => moved q m (mapp m x)) 64 (pmats f) (fun m _ => by rw [List.length_map]; exact (cells_len' hlq).2)
    unfold imgs1; omega
  · have := flatM_le (fun m => (cells (imgL m q.2.1)).map fun t => moved q m t) 64 (pmats f) (fun m hm => by rw [List.length_map]; exact (cells_len' (isLat_imgL hlq (pmats_pm hf hm)).1).2)
    unfold imgs2; omega
  · unfold imgs1 at hx
    simp only [List.mem_flatMap, List.mem_map] at hx
    obtain ⟨m, h1, y, _, rfl⟩ := hx
    exact isPat_moved hq (pmats_pm hf h1) _
  · unfold imgs2 at hx
    simp only [List.mem_flatMap, List.mem_map] at hx
    obtain ⟨m, h1, y, _, rfl⟩ := hx
    exact isPat_moved hq (pmats_pm hf h1) _
theorem cells_ne {l : Lat} (hl : isLat l = true) : cells l ≠ [] := by
  have := (cells_num hl (0, 0)).1
  intro h
  rw [h] at this
  simp at this
theorem unit_mem {f : Int} (hf : f = 0 ∨ f = 1) : m1 ∈ pmats f := by
  rw [mem_pmats hf]
  rcases hf with rfl | rfl <;> decide
theorem imgs_ne {q : Pat} (hq : isPat q = true) {f : Int} (hf : f = 0 ∨ f = 1) : imgs1 q (pmats f) ≠ [] ∧ imgs2 q (pmats f) ≠ [] := by
  have hlq := (isPat_iff.1 hq).2.1
  constructor
  · intro h
    obtain ⟨c, r, hc⟩ := List.exists_cons_of_ne_nil (cells_ne hlq)
    have : moved q m1 (mapp m1 c) ∈ imgs1 q (pmats f) := by
      unfold imgs1
      simp only [List.mem_flatMap, List.mem_map]
      exact ⟨m1, unit_mem hf, c, by rw [hc]; simp, rfl⟩
    rw [h] at this; simp at this
  · intro h
    obtain ⟨c, r, hc⟩ := List.exists_cons_of_ne_nil (cells_ne (isLat_imgL hlq pm_unit).1)
    have : moved q m1 c ∈ imgs2 q (pmats f) := by
      unfold imgs2
      simp only [List.mem_flatMap, List.mem_map]
      exact ⟨m1, unit_mem hf, c, by rw [hc]; simp, rfl⟩
    rw [h] at this; simp at this
def canonOf (p : Pat) : Pat := match imgs2 (onLat p (fullOf p)) (pmats p.1) with
  | x :: r => minP x r
  | [] => p
end Go.Proofs.YtopigbmamejklaaGreatDoor
