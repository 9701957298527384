/-
  Plain meanings: all motions of a frame and a lattice.
-/
import Derived.Test.YtpboclokodgnlaaGreatP24
namespace Go.Proofs.YtpboclokodgnlaaGreat
open Pre Ai
set_option linter.unusedSimpArgs false
set_option linter.unusedVariables false
def allM (f : Int) (l : Lat) : List Mot := (stableL f l).flatMap fun m => (cells l).map fun t => (m, t)
theorem allM_len (f : Int) {l : Lat} (hl : isLat l = true) : (allM f l).length ≤ 5184 := by
  have hn := (cells_len' hl).2
  have h1 := flat_len_le (fun m => (cells l).map fun t => ((m, t) : Mot)) 64 (stableL f l) (fun m _ => by rw [List.length_map]; exact hn)
  have h2 := stable_len f l
  unfold allM
  omega
theorem allM_suit {f : Int} (hf : f = 0 ∨ f = 1) {l : Lat} (hl : isLat l = true) {m : Mot} (hm : m ∈ allM f l) : ∀ v ∈ cells l, Sm (wap m v) := by
  unfold allM at hm
  obtain ⟨a, ha, ht⟩ := List.mem_flatMap.1 hm
  obtain ⟨t, ht1, rfl⟩ := List.mem_map.1 ht
  exact fun v hv => (wap_pm (stable_pm hf ha) (cells_ss hl hv) (cells_ss hl ht1)).2
end Go.Proofs.YtpboclokodgnlaaGreat
