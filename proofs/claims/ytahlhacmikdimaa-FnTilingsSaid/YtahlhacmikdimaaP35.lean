/-
  Plain meanings: which lists of motions are groups.
-/
import Derived.Test.YtahlhacmikdimaaP34
namespace Go.Proofs.Ytahlhacmikdimaa
open Ai
set_option linter.unusedSimpArgs false
set_option linter.unusedVariables false
set_option linter.unusedSectionVars false

section prods
variable {f : Int} (hf : f = 0 ∨ f = 1) {l : Lat} (hl : isLat l = true) {xs : List Mot} (hg : goodL f l xs = true)
include hf hl hg

theorem prod_sm {m n : Mot} (hm : m ∈ xs) (hn : n ∈ xs) : Sm (wap m n.2) := by
  obtain ⟨h1, _⟩ := goodL_inc hg
  have hn' := h1 n hn
  unfold allM at hn'
  obtain ⟨a, _, ht⟩ := List.mem_flatMap.1 hn'
  obtain ⟨t, ht1, rfl⟩ := List.mem_map.1 ht
  exact allM_suit hf hl (h1 m hm) t ht1

end prods

end Go.Proofs.Ytahlhacmikdimaa
