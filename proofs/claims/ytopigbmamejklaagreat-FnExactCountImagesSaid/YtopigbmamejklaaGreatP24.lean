/-
  Plain meanings: the matrices that map a lattice to itself; suitable motions.
-/
import Derived.Test.YtopigbmamejklaaGreatP23
import Derived.Test.YtopigbmamejklaaGreatPM
namespace Go.Proofs.YtopigbmamejklaaGreat
open Ai
set_option linter.unusedSimpArgs false
set_option linter.unusedVariables false
set_option linter.unnecessarySimpa false
def stB (l : Lat) (m : Mat4) : Bool := decide (red l (mapp m (l.1, 0)) = (0, 0)) && decide (red l (mapp m l.2) = (0, 0))
def stableL (f : Int) (l : Lat) : List Mat4 := (pmats f).filter (stB l)
theorem mapp_sm {m : Mat4} (hm : Pm m) {v : V} (hv : Sv v) : Sm (mapp m v) := by
  have := mapp_lim hm v
  unfold Sv at hv
  unfold Sm
  omega
theorem lat_sv {l : Lat} (h : isLat l = true) : Sv (l.1, 0) ∧ Sv l.2 := by
  obtain ⟨⟨a1, a2⟩, ⟨c1, c2⟩, ⟨b1, b2⟩, _⟩ := isLat_iff.1 h
  unfold Sv
  dsimp only
  omega
theorem stB_iff {l : Lat} (hl : isLat l = true) {m : Mat4} (hm : Pm m) : decide (imgL m l = l) = stB l m := by
  unfold stB
  rw [← Bool.decide_and, decide_eq_decide]
  exact stable_iff hl hm
theorem lat_beq (y l : Lat) : (decide (y.1 = l.1) && (decide (y.2.1 = l.2.1) && (decide (y.2.2 = l.2.2) && true))) = decide (y = l) := by
  obtain ⟨a, b, c⟩ := y
  obtain ⟨a', b', c'⟩ := l
  simp only [Prod.mk.injEq, Bool.and_true, ← Bool.decide_and]
def suitB (f : Int) (l : Lat) (m : Mot) : Bool := isVec m.2 && (pmB f m.1 && stB l m.1)
def keptM (q : Pat) (m : Mat4) : List Mot := ((cells q.2.1).map fun t => (m, t)).filter (keepsB q)
def groupG (q : Pat) : List Mot := (stableL q.1 q.2.1).flatMap (keptM q)
theorem stable_pm {f : Int} (hf : f = 0 ∨ f = 1) {l : Lat} {m : Mat4} (hm : m ∈ stableL f l) : Pm m := by
  unfold stableL at hm
  exact pmB_pm hf ((mem_pmats hf m).1 (List.mem_filter.1 hm).1)
theorem stable_len (f : Int) (l : Lat) : (stableL f l).length ≤ 81 := Nat.le_trans (List.length_filter_le (stB l) (pmats f)) (pmats_len f)
theorem keptM_len {q : Pat} (hq : isPat q = true) (m : Mat4) : (keptM q m).length ≤ 64 := by
  have h2 := (cells_len' (isPat_iff.1 hq).2.1).2
  unfold keptM
  exact Nat.le_trans (List.length_filter_le ..) (by rw [List.length_map]; exact h2)
theorem keeps_sm {q : Pat} (hq : isPat q = true) {m : Mat4} (hm : Pm m) {t : V} (ht : Ss t) : ∀ v ∈ cells q.2.1, Sm (wap (m, t) v) := fun v hv => (wap_pm hm (cells_ss (isPat_iff.1 hq).2.1 hv) ht).2
theorem group_len {q : Pat} (hq : isPat q = true) : (groupG q).length ≤ 5184 := by
  have h1 := flat_len_le (keptM q) 64 (stableL q.1 q.2.1) (fun m _ => keptM_len hq m)
  have h2 := stable_len q.1 q.2.1
  unfold groupG
  omega
theorem suit_sm {q : Pat} (hq : isPat q = true) {m : Mot} (hm : suitB q.1 q.2.1 m = true) : ∀ v ∈ cells q.2.1, Sm (wap m v) := by
  have hf := isFrame_iff.1 (isPat_iff.1 hq).1
  unfold suitB at hm
  simp only [Bool.and_eq_true] at hm
  intro v hv
  exact (wap_pm (pmB_pm hf hm.2.1) (cells_ss (isPat_iff.1 hq).2.1 hv) (isVec_ss hm.1)).2
def sameP (p q : Pat) : Bool := decide (p.1 = q.1) && decide (p.2.1 = q.2.1) && decide (p.2.2 = q.2.2)
theorem spec_l09Same_p (p q : Pat) (h : p.2.2.length ≤ MAXN) : spec_l09Same p q = some (sameP p q) := by
  rw [spec_l09Same_eq, spec_l01Same_v _ _ h]
  unfold sameP
  obtain ⟨f, ⟨a, b, c⟩, xs⟩ := p
  obtain ⟨f', ⟨a', b', c'⟩, ys⟩ := q
  simp only [Option.bind_some, Prod.mk.injEq]
  by_cases h1 : f = f' <;> by_cases h2 : a = a' <;> by_cases h3 : b = b' <;> by_cases h4 : c = c' <;> by_cases h5 : xs = ys <;> simp [h1, h2, h3, h4, h5]
theorem impl_samePattern_p (p q : Pat) (h : p.2.2.length ≤ MAXN) : impl_samePattern p q = some (sameP p q) := by
  rw [impl_samePattern_eq, slices_Equal_v _ _ h]
  unfold sameP
  obtain ⟨f, ⟨a, b, c⟩, xs⟩ := p
  obtain ⟨f', ⟨a', b', c'⟩, ys⟩ := q
  simp only [Option.bind_some, Prod.mk.injEq]
  by_cases h1 : f = f' <;> by_cases h2 : a = a' <;> by_cases h3 : b = b' <;> by_cases h4 : c = c' <;> by_cases h5 : xs = ys <;> simp [h1, h2, h3, h4, h5]
def hitM (a b : Pat) (m : Mat4) : Option Mot := ((cells b.2.1).find? fun t => sameP (moved a m t) b).map fun t => (m, t)
end Go.Proofs.YtopigbmamejklaaGreat
