/-
  Other colours by a one-to-one rule: full lattice, images and the choice by first coming stay.
-/
import Derived.Test.YtahlhacmikdimaaGreatDoorPC
import Derived.Test.YtahlhacmikdimaaGreatDoorP30
import Derived.Test.YtahlhacmikdimaaGreatDoorP33
namespace Go.Proofs.YtahlhacmikdimaaGreatDoor
open Ai
set_option linter.unusedSimpArgs false
set_option linter.unusedVariables false
def Col (c : Int) : Prop := 0 ≤ c ∧ c ≤ 9
structure OneOne (σ : Int → Int) : Prop where
  lim : ∀ c, Col c → Col (σ c)
  inj : ∀ x y, Col x → Col y → σ x = σ y → x = y
theorem fiC_map {σ : Int → Int} (h : OneOne σ) {c : Int} (hc : Col c) : ∀ (s : List Int), (∀ x ∈ s, Col x) → fiC (s.map σ) (σ c) = fiC s c
  | [], _ => rfl
  | x :: r, hs => by
    simp only [List.map_cons, fiC]
    by_cases e : x = c
    · rw [if_pos e, if_pos (by rw [e])]
    · rw [if_neg e, if_neg fun e' => e (h.inj _ _ (hs x (List.mem_cons_self ..)) hc e'), fiC_map h hc r fun y hy => hs y (List.mem_cons_of_mem _ hy)]
theorem seenC_map {σ : Int → Int} (h : OneOne σ) {c : Int} (hc : Col c) {s : List Int} (hs : ∀ x ∈ s, Col x) : seenC (s.map σ) (σ c) = (seenC s c).map σ := by
  have : σ c ∈ s.map σ ↔ c ∈ s := by
    constructor
    · intro hm
      obtain ⟨x, hx, e⟩ := List.mem_map.1 hm
      rwa [← h.inj _ _ (hs x hx) hc e]
    · exact fun hm => List.mem_map.2 ⟨c, hm, rfl⟩
  unfold seenC
  by_cases e : c ∈ s
  · rw [if_pos e, if_pos (this.2 e)]
  · rw [if_neg e, if_neg fun e' => e (this.1 e'), List.map_append]; rfl
theorem seenC_col {s : List Int} (hs : ∀ x ∈ s, Col x) {c : Int} (hc : Col c) : ∀ x ∈ seenC s c, Col x := by
  unfold seenC
  split
  · exact hs
  · intro x hx
    rcases List.mem_append.1 hx with h | h
    · exact hs x h
    · rw [List.mem_singleton.1 h]; exact hc
theorem comeG_map {σ : Int → Int} (h : OneOne σ) : ∀ (r s : List Int), (∀ x ∈ r, Col x) → (∀ x ∈ s, Col x) → comeG (r.map σ) (s.map σ) = comeG r s
  | [], _, _, _ => rfl
  | c :: r, s, hr, hs => by
    have hc := hr c (List.mem_cons_self ..)
    have hs' := seenC_col hs hc
    simp only [List.map_cons, comeG]
    rw [seenC_map h hc hs, fiC_map h hc _ hs', comeG_map h r _ (fun x hx => hr x (List.mem_cons_of_mem _ hx)) hs']
def rgI (n : Nat) : List Int := (List.range n).map fun (k : Nat) => (k : Int)
theorem rgI_succ (n : Nat) : rgI (n + 1) = rgI n ++ [(n : Int)] := by unfold rgI; rw [List.range_succ, List.map_append]; rfl
theorem mem_rgI {n k : Nat} : (k : Int) ∈ rgI n ↔ k < n := by
  unfold rgI
  rw [List.mem_map]
  constructor
  · rintro ⟨j, hj, e⟩; rw [List.mem_range] at hj; omega
  · exact fun h => ⟨k, List.mem_range.2 h, rfl⟩
theorem fiC_append {c : Int} : ∀ (s r : List Int), fiC (s ++ r) c = if c ∈ s then fiC s c else s.length + fiC r c
  | [], r => by simp [fiC]
  | x :: s, r => by
    simp only [List.cons_append, fiC]
    by_cases e : x = c
    · rw [if_pos e, if_pos (by rw [e]; exact List.mem_cons_self ..), if_pos e]
    · have : (c ∈ x :: s) ↔ c ∈ s := by simp [Ne.symm e]
      rw [if_neg e, if_neg e, fiC_append s r]
      by_cases h : c ∈ s
      · rw [if_pos h, if_pos (this.2 h)]
      · rw [if_neg h, if_neg fun h' => h (this.1 h'), List.length_cons]; omega
theorem fiC_rg : ∀ (n k : Nat), k < n → fiC (rgI n) (k : Int) = k
  | 0, k, h => by omega
  | n + 1, k, h => by
    rw [rgI_succ, fiC_append]
    by_cases e : k < n
    · rw [if_pos (mem_rgI.2 e), fiC_rg n k e]
    · have : k = n := by omega
      subst this
      rw [if_neg fun h => e (mem_rgI.1 h)]
      simp [fiC, rgI]
theorem comeG_again : ∀ (r s : List Int), comeG (comeG r s) (rgI s.length) = comeG r s
  | [], _ => rfl
  | c :: r, s => by
    have hk : fiC (seenC s c) c < (seenC s c).length := fiC_lt (seenC_mem s c)
    have hseen : seenC (rgI s.length) (fiC (seenC s c) c : Int) = rgI (seenC s c).length := by
      by_cases e : c ∈ s
      · have e1 : seenC s c = s := by unfold seenC; rw [if_pos e]
        rw [e1] at hk ⊢
        unfold seenC
        rw [if_pos (mem_rgI.2 hk)]
      · have e1 : seenC s c = s ++ [c] := by unfold seenC; rw [if_neg e]
        have e2 : fiC (s ++ [c]) c = s.length := by rw [fiC_append, if_neg e]; simp [fiC]
        rw [e1, e2, List.length_append, List.length_singleton, rgI_succ]
        unfold seenC
        rw [if_neg fun h => Nat.lt_irrefl _ (mem_rgI.1 h)]
    simp only [comeG]
    rw [hseen, fiC_rg _ _ hk, comeG_again r (seenC s c)]
theorem comeP_come (p : Pat) : comeP (comeP p) = comeP p := by
  unfold comeP
  have := comeG_again p.2.2 []
  simp only [List.length_nil] at this
  rw [show rgI 0 = [] from rfl] at this
  rw [this]
/-! ### A pattern with other colours -/
def recol (σ : Int → Int) (p : Pat) : Pat := (p.1, p.2.1, p.2.2.map σ)
theorem comeP_recol {σ : Int → Int} (h : OneOne σ) {p : Pat} (hp : isPat p = true) : comeP (recol σ p) = comeP p := by
  unfold comeP recol
  simp only
  have := comeG_map h p.2.2 [] (pat_cols hp) (by simp)
  rw [List.map_nil] at this
  rw [this]
theorem isPat_recol {σ : Int → Int} (h : OneOne σ) {p : Pat} (hp : isPat p = true) : isPat (recol σ p) = true := by
  obtain ⟨h1, h2, h3, h4⟩ := isPat_iff.1 hp
  refine isPat_iff.2 ⟨h1, h2, ?_, ?_⟩
  · show ((p.2.2.map σ).length : Int) = _
    rw [List.length_map]; exact h3
  · show (p.2.2.map σ).all _ = true
    rw [List.all_eq_true]
    intro x hx
    obtain ⟨c, hc, rfl⟩ := List.mem_map.1 hx
    exact within_iff.2 (h.lim c (pat_cols hp c hc))
theorem num_len {p : Pat} (hp : isPat p = true) (v : V) : num p.2.1 v < p.2.2.length := by
  obtain ⟨h1, h2, h3, h4⟩ := isPat_iff.1 hp
  have := (num_int h2 v).2
  omega
theorem patAt_recol {σ : Int → Int} {p : Pat} (hp : isPat p = true) (v : V) : patAt (recol σ p) v = σ (patAt p v) := by
  have h := num_len hp v
  unfold patAt recol
  simp only [List.getD_eq_getElem?_getD, List.getElem?_map, List.getElem?_eq_getElem h]
  rfl
theorem full_recol {σ : Int → Int} (h : OneOne σ) {p : Pat} (hp : isPat p = true) : fullOf (recol σ p) = fullOf p := by
  have hq := isPat_recol h hp
  refine lat_ext (isLat_fullOf hq) (isLat_fullOf hp) fun w => ?_
  rw [inL_full hq, inL_full hp]
  unfold Per
  constructor
  · intro hw v
    have := hw v
    rw [patAt_recol hp, patAt_recol hp] at this
    exact h.inj _ _ (patAt_col hp _) (patAt_col hp _) this
  · intro hw v
    rw [patAt_recol hp, patAt_recol hp, hw v]
theorem onLat_recol {σ : Int → Int} {p : Pat} (hp : isPat p = true) (l : Lat) : onLat (recol σ p) l = recol σ (onLat p l) := by
  unfold onLat recol
  simp only [List.map_map]
  congr 2
  exact List.map_congr_left fun v _ => patAt_recol hp v
theorem moved_recol {σ : Int → Int} {p : Pat} (hp : isPat p = true) (m : Mat4) (t : V) : moved (recol σ p) m t = recol σ (moved p m t) := by
  unfold moved
  show (p.1, imgL m p.2.1, _) = (p.1, imgL m p.2.1, _)
  simp only [List.map_map]
  congr 2
  exact List.map_congr_left fun v _ => patAt_recol hp _
theorem imgs2_recol {σ : Int → Int} {p : Pat} (hp : isPat p = true) (ms : List Mat4) : imgs2 (recol σ p) ms = (imgs2 p ms).map (recol σ) := by
  unfold imgs2
  rw [List.map_flatMap]
  congr 1
  funext m
  rw [List.map_map]
  exact List.map_congr_left fun t _ => moved_recol hp m t
def canonCol (p : Pat) : Pat := match (imgs2 (onLat p (fullOf p)) (pmats p.1)).map comeP with
  | [] => p
  | y :: s => minP y s
theorem canonCol_recol {σ : Int → Int} (h : OneOne σ) {p : Pat} (hp : isPat p = true) : canonCol (recol σ p) = canonCol p := by
  have ha := isPat_lean hp
  have hf := isFrame_iff.1 (isPat_iff.1 hp).1
  have e : (imgs2 (onLat (recol σ p) (fullOf (recol σ p))) (pmats (recol σ p).1)).map comeP = (imgs2 (onLat p (fullOf p)) (pmats p.1)).map comeP := by
    rw [full_recol h hp, onLat_recol hp, imgs2_recol ha, List.map_map]
    exact List.map_congr_left fun x hx => comeP_recol h ((imgs_ok ha hf).2.2.2 x hx)
  unfold canonCol
  rw [e]
  cases h : (imgs2 (onLat p (fullOf p)) (pmats p.1)).map comeP with
  | nil =>
    exfalso
    rw [List.map_eq_nil_iff] at h
    exact (imgs_ne ha hf).2 h
  | cons y s => rfl
end Go.Proofs.YtahlhacmikdimaaGreatDoor
