/-
  Plain meanings: all motions of a frame and a lattice.
-/
import Derived.Test.YtahlhacmikdimaaGreatP24
namespace Go.Proofs.YtahlhacmikdimaaGreat
open Ai
set_option linter.unusedSimpArgs false
set_option linter.unusedVariables false
def allM (f : Int) (l : Lat) : List Mot := (stableL f l).flatMap fun m => (cells l).map fun t => (m, t)
theorem spec_all_inner {l : Lat} (hl : isLat l = true) (ms : List Mat4) {i : Nat} (hi : i < ms.length) (s : List Mot) (hs : s.length ≤ 100000) :
    spec_l16All_l1 ms (cells l) s (i : Int) 0 = some (ms, cells l, s ++ (cells l).map (fun t => ((ms[i], t) : Mot)), (i : Int)) := by
  have hn := (cells_len' hl).2
  have hlen : ((cells l).map fun t => ((ms[i], t) : Mot)).length = (cells l).length := List.length_map ..
  have key := loop_filter (L := fun s k => spec_l16All_l1 ms (cells l) s (i : Int) k) ((cells l).map fun t => ((ms[i], t) : Mot)) (fun _ => true) s (fun k hk s' hs' => by
    have hk' : k < (cells l).length := by omega
    show spec_l16All_l1 ms (cells l) s' (i : Int) (k : Int) = _
    rw [List.getElem_map, spec_l16All_l1_eq, inb hi, inb hk', decide_eq_true (by omega), gd hi, gd hk', wnext hk' (by omega), decide_eq_true (by unfold LIM; simp only [List.length_singleton]; omega)]
    simp only [cond_true, Option.bind_fun_some]
    rfl)
  rw [key, hlen, List.filter_eq_self.2 (fun _ _ => rfl)]
  show spec_l16All_l1 _ _ _ _ _ = _
  rw [spec_l16All_l1_eq, decide_eq_false (by omega)]
  rfl
theorem spec_l16All_v {f : Int} (hf : f = 0 ∨ f = 1) {l : Lat} (hl : isLat l = true) : spec_l16All f l = some (allM f l) := by
  have hn := (cells_len' hl).2
  have hsl := stable_len f l
  rw [spec_l16All_eq, spec_l04Stable_v hf hl, spec_l03Cells_v _ hl]
  have key := loop_flat (L := fun s k => spec_l16All_l0 (stableL f l) (cells l) s k) (stableL f l) (fun m => (cells l).map fun t => ((m, t) : Mot)) 64 (fun m _ => by rw [List.length_map]; exact hn) (fun k hk s hs => by
    show spec_l16All_l0 (stableL f l) (cells l) s (k : Int) = _
    rw [spec_l16All_l0_eq, decide_eq_true (by omega), spec_all_inner hl (stableL f l) hk s (by omega)]
    simp only [cond_true, Option.bind_some, Option.bind_fun_some]
    rw [wnext hk (by omega)])
  simp only [Option.bind_some]
  rw [key]
  show Option.bind (spec_l16All_l0 _ _ _ _) _ = _
  rw [spec_l16All_l0_eq, decide_eq_false (by omega)]
  rfl
theorem allM_len (f : Int) {l : Lat} (hl : isLat l = true) : (allM f l).length ≤ 5184 := by
  have hn := (cells_len' hl).2
  have h1 := flat_len_le (fun m => (cells l).map fun t => ((m, t) : Mot)) 64 (stableL f l) (fun m _ => by rw [List.length_map]; exact hn)
  have h2 := stable_len f l
  unfold allM
  omega
theorem allM_suit {f : Int} (hf : f = 0 ∨ f = 1) {l : Lat} (hl : isLat l = true) {m : Mot} (hm : m ∈ allM f l) : ∀ v ∈ cells l, Sm (wap m v) := by
  unfold allM at hm
  obtain ⟨a, ha, ht⟩ := List.mem_flatMap.1 hm
  obtain ⟨t, ht1, rfl⟩ := List.mem_map.1 ht
  exact fun v hv => (wap_pm (stable_pm hf ha) (cells_ss hl hv) (cells_ss hl ht1)).2
theorem impl_all_inner {l : Lat} (hl : isLat l = true) (ms : List Mat4) (n i : Int) (m : Mat4) (s : List Mot) (hs : s.length ≤ 100000) :
    impl_allMotions_l1 s ms n i (cells l) ((cells l).length : Int) 0 l.1 l.2.1 l.2.2 m.1 m.2.1 m.2.2.1 m.2.2.2 = some (s ++ (cells l).map (fun t => ((m, t) : Mot)), ms, n, i, l.1, l.2.1, l.2.2) := by
  have hn := (cells_len' hl).2
  have hlen : ((cells l).map fun t => ((m, t) : Mot)).length = (cells l).length := List.length_map ..
  have key := loop_filter (L := fun s k => impl_allMotions_l1 s ms n i (cells l) ((cells l).length : Int) k l.1 l.2.1 l.2.2 m.1 m.2.1 m.2.2.1 m.2.2.2) ((cells l).map fun t => ((m, t) : Mot)) (fun _ => true) s (fun k hk s' hs' => by
    have hk' : k < (cells l).length := by omega
    show impl_allMotions_l1 s' ms n i (cells l) ((cells l).length : Int) (k : Int) l.1 l.2.1 l.2.2 m.1 m.2.1 m.2.2.1 m.2.2.2 = _
    rw [List.getElem_map, impl_allMotions_l1_eq, inb hk', decide_eq_true (by omega), gd hk', wnext hk' (by omega), decide_eq_true (by unfold LIM; simp only [List.length_singleton]; omega)]
    simp only [cond_true, Option.bind_fun_some]
    rfl)
  rw [key, hlen, List.filter_eq_self.2 (fun _ _ => rfl)]
  show impl_allMotions_l1 _ _ _ _ _ _ _ _ _ _ _ _ _ _ = _
  rw [impl_allMotions_l1_eq, decide_eq_false (by omega)]
  rfl
theorem impl_allMotions_v {f : Int} (hf : f = 0 ∨ f = 1) {l : Lat} (hl : isLat l = true) : impl_allMotions f l = some (allM f l) := by
  have hn := (cells_len' hl).2
  have hsl := stable_len f l
  rw [impl_allMotions_eq, impl_latticeMats_v hf hl]
  have key := loop_flat (L := fun s k => impl_allMotions_l0 s (stableL f l) ((stableL f l).length : Int) k l.1 l.2.1 l.2.2) (stableL f l) (fun m => (cells l).map fun t => ((m, t) : Mot)) 64 (fun m _ => by rw [List.length_map]; exact hn) (fun k hk s hs => by
    show impl_allMotions_l0 s (stableL f l) ((stableL f l).length : Int) (k : Int) l.1 l.2.1 l.2.2 = _
    have e1 : impl_Lattice_cells (l.1, l.2.1, l.2.2) = some (cells l) := impl_Lattice_cells_v l hl
    rw [impl_allMotions_l0_eq, inb hk, decide_eq_true (by omega), gd hk, e1]
    simp only [cond_true, Option.bind_some, Option.bind_fun_some]
    rw [impl_all_inner hl (stableL f l) _ _ (stableL f l)[k] s (by omega)]
    simp only [Option.bind_some]
    rw [wnext hk (by omega)])
  simp only [Option.bind_some]
  rw [key]
  show Option.bind (impl_allMotions_l0 _ _ _ _ _ _ _) _ = _
  rw [impl_allMotions_l0_eq, decide_eq_false (by omega)]
  rfl
end Go.Proofs.YtahlhacmikdimaaGreat
