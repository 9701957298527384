/-
  Plain meanings: which lists of motions are groups.
-/
import Derived.Test.YtahlhacmikdimaaGreatDoorP34
namespace Go.Proofs.YtahlhacmikdimaaGreatDoor
open Ai
set_option linter.unusedSimpArgs false
set_option linter.unusedVariables false
set_option linter.unusedSectionVars false
section prods
variable {f : Int} (hf : f = 0 ∨ f = 1) {l : Lat} (hl : isLat l = true) {xs : List Mot} (hg : goodL f l xs = true)
include hf hl hg
theorem prod_sm {m n : Mot} (hm : m ∈ xs) (hn : n ∈ xs) : Sm (wap m n.2) := by
  obtain ⟨h1, _⟩ := goodL_inc hg
  have hn' := h1 n hn
  unfold allM at hn'
  obtain ⟨a, _, ht⟩ := List.mem_flatMap.1 hn'
  obtain ⟨t, ht1, rfl⟩ := List.mem_map.1 ht
  exact allM_suit hf hl (h1 m hm) t ht1
theorem spec_prod {m n : Mot} (hm : m ∈ xs) (hn : n ∈ xs) : (Option.bind (spec_l05Compose m n) fun y => spec_l06Reduce l y) = some (prodM l m n) := by
  have hs := prod_sm hf hl hg hm hn
  rw [spec_l05Compose_eq, spec_l02Multiply_eq, spec_l02Apply_eq]
  simp only [Option.bind_some, spec_l01Add_v]
  rw [spec_l06Reduce_eq]
  have := spec_l03Reduce_v l (wap m n.2) hl hs
  unfold wap at this
  simp only
  rw [this]
  rfl
end prods
end Go.Proofs.YtahlhacmikdimaaGreatDoor
