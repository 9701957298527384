/-
  Plain meanings: colours in the order in which they come.
-/
import Derived.Test.YtahlhacmikdimaaGreatDoorP16
import Derived.Test.YtahlhacmikdimaaGreatDoorP27
import Derived.Test.YtahlhacmikdimaaGreatDoorP28
namespace Go.Proofs.YtahlhacmikdimaaGreatDoor
open Ai
set_option linter.unusedSimpArgs false
set_option linter.unusedVariables false
def fiC : List Int → Int → Nat
  | [], _ => 0
  | x :: r, c => if x = c then 0 else fiC r c + 1
theorem fiC_lt : ∀ {xs : List Int} {c : Int}, c ∈ xs → fiC xs c < xs.length
  | x :: r, c, h => by
    unfold fiC
    split
    · simp
    · rename_i hne
      have := fiC_lt (xs := r) (c := c) ((List.mem_cons.1 h).resolve_left fun e => hne e.symm)
      simp; omega
def seenC (s : List Int) (c : Int) : List Int := if c ∈ s then s else s ++ [c]
theorem seenC_mem (s : List Int) (c : Int) : c ∈ seenC s c := by
  unfold seenC
  split
  · assumption
  · simp
def comeG : List Int → List Int → List Int
  | [], _ => []
  | c :: r, s => (fiC (seenC s c) c : Int) :: comeG r (seenC s c)
theorem comeG_len : ∀ (r s : List Int), (comeG r s).length = r.length
  | [], _ => rfl
  | _ :: r, s => by simp [comeG, comeG_len r]
structure SeenOk (s : List Int) : Prop where
  nd : s.Nodup
  lim : ∀ c ∈ s, 0 ≤ c ∧ c ≤ 9
theorem SeenOk.len {s : List Int} (h : SeenOk s) : s.length ≤ 10 := by
  have := nodup_le s ((List.range 10).map fun (k : Nat) => (k : Int)) h.nd fun c hc => by
    obtain ⟨h1, h2⟩ := h.lim c hc
    exact List.mem_map.2 ⟨c.toNat, List.mem_range.2 (by omega), by omega⟩
  simpa using this
theorem SeenOk.add {s : List Int} (h : SeenOk s) {c : Int} (hc : 0 ≤ c ∧ c ≤ 9) : SeenOk (seenC s c) := by
  unfold seenC
  split
  · exact h
  · rename_i hn
    refine ⟨?_, fun x hx => ?_⟩
    · rw [List.nodup_append]
      exact ⟨h.nd, by simp, fun a ha b hb => by rw [List.mem_singleton.1 hb]; exact fun e => hn (e ▸ ha)⟩
    · rcases List.mem_append.1 hx with hx | hx
      · exact h.lim x hx
      · rw [List.mem_singleton.1 hx]; exact hc
theorem comeG_lim : ∀ (r s : List Int), SeenOk s → (∀ c ∈ r, 0 ≤ c ∧ c ≤ 9) → ∀ x ∈ comeG r s, 0 ≤ x ∧ x ≤ 9
  | [], _, _, _, x, hx => by simp [comeG] at hx
  | c :: r, s, hs, hr, x, hx => by
    have hs' := hs.add (hr c (List.mem_cons_self ..))
    rcases List.mem_cons.1 hx with rfl | hx
    · have h1 := fiC_lt (seenC_mem s c)
      have h2 := hs'.len
      omega
    · exact comeG_lim r _ hs' (fun c hc => hr c (List.mem_cons_of_mem _ hc)) x hx
def posC : Nat → List Int → Int → List Int
  | _, [], _ => []
  | k, x :: r, c => if x = c then (k : Int) :: posC (k + 1) r c else posC (k + 1) r c
theorem posC_none : ∀ (r : List Int) (k : Nat) (c : Int), c ∉ r → posC k r c = []
  | [], _, _, _ => rfl
  | x :: r, k, c, h => by
    rw [List.mem_cons, not_or] at h
    unfold posC
    rw [if_neg fun e => h.1 e.symm, posC_none r (k + 1) c h.2]
theorem posC_one : ∀ (r : List Int) (k : Nat) (c : Int), r.Nodup → c ∈ r → posC k r c = [((k + fiC r c : Nat) : Int)]
  | x :: r, k, c, hn, h => by
    rw [List.nodup_cons] at hn
    unfold posC fiC
    by_cases e : x = c
    · subst e
      rw [if_pos rfl, if_pos rfl, posC_none r (k + 1) x hn.1]; rfl
    · rw [if_neg e, if_neg e, posC_one r (k + 1) c hn.2 ((List.mem_cons.1 h).resolve_left fun e' => e e'.symm)]
      congr 2
      omega
theorem hasC (s : List Int) (c : Int) : (!(s.all fun x => !decide (x = c))) = decide (c ∈ s) := by
  rw [Bool.eq_iff_iff, decide_eq_true_iff]
  simp
def comeP (p : Pat) : Pat := (p.1, p.2.1, comeG p.2.2 [])
theorem seen0 : SeenOk [] := ⟨List.nodup_nil, fun c h => by cases h⟩
theorem pat_cols {p : Pat} (h : isPat p = true) : ∀ c ∈ p.2.2, 0 ≤ c ∧ c ≤ 9 := fun c hc =>
  within_iff.1 (List.all_eq_true.1 (isPat_iff.1 h).2.2.2 c hc)
theorem isPat_come {p : Pat} (h : isPat p = true) : isPat (comeP p) = true := by
  obtain ⟨h1, h2, h3, h4⟩ := isPat_iff.1 h
  refine isPat_iff.2 ⟨h1, h2, by rw [show (comeP p).2.2 = comeG p.2.2 [] from rfl, comeG_len]; exact h3, ?_⟩
  rw [List.all_eq_true]
  exact fun x hx => within_iff.2 (comeG_lim p.2.2 [] seen0 (pat_cols h) x hx)
/-! ### The program -/
end Go.Proofs.YtahlhacmikdimaaGreatDoor
