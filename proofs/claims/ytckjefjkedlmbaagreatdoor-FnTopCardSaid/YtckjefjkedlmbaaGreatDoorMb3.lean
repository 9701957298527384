/-
  Plain meanings, part 3.
-/
import Derived.Test.YtckjefjkedlmbaaGreatDoorMb2
namespace Go.Proofs.YtckjefjkedlmbaaGreatDoor
open Ai
set_option linter.unusedSimpArgs false
set_option linter.unusedVariables false
set_option linter.unnecessarySimpa false
def stB (l : Lat) (m : Mat4) : Bool := decide (red l (mapp m (l.1, 0)) = (0, 0)) && decide (red l (mapp m l.2) = (0, 0))
def stableL (f : Int) (l : Lat) : List Mat4 := (pmats f).filter (stB l)
theorem mapp_sm {m : Mat4} (hm : Pm m) {v : V} (hv : Sv v) : Sm (mapp m v) := by
  have := mapp_lim hm v
  unfold Sv at hv
  unfold Sm
  omega
theorem lat_sv {l : Lat} (h : isLat l = true) : Sv (l.1, 0) ∧ Sv l.2 := by
  obtain ⟨⟨a1, a2⟩, ⟨c1, c2⟩, ⟨b1, b2⟩, _⟩ := isLat_iff.1 h
  unfold Sv
  dsimp only
  omega
theorem impl_latticeMats_1_v {l : Lat} (hl : isLat l = true) {m : Mat4} (hm : Pm m) : impl_latticeMats_1 m l (l.1, 0) l.2 = some (!stB l m) := by
  rw [impl_latticeMats_1_eq, impl_Mat_apply_v hm (lat_ss hl).1, impl_Mat_apply_v hm (lat_ss hl).2]
  simp only [Option.bind_some]
  rw [impl_Lattice_has_v l _ hl (mapp_sm hm (lat_sv hl).1), impl_Lattice_has_v l _ hl (mapp_sm hm (lat_sv hl).2)]
  unfold stB
  cases decide (red l (mapp m (l.1, 0)) = (0, 0)) <;> cases decide (red l (mapp m l.2) = (0, 0)) <;> rfl
theorem impl_del_mats {f : Int} (hf : f = 0 ∨ f = 1) {l : Lat} (hl : isLat l = true) : slices_DeleteFunc_SMat_Mat_o__impl_latticeMats_1 (pmats f) (l, (l.1, 0), l.2) = some (stableL f l) := by
  have hn := pmats_len f
  have hpm : ∀ m ∈ pmats f, Pm m := fun m hm => pmB_pm hf ((mem_pmats hf m).1 hm)
  have hidx : slices_IndexFunc_SMat_Mat__impl_latticeMats_1 (pmats f) (l, (l.1, 0), l.2) = some (match (pmats f).findIdx? (fun x => !stB l x) with | none => -1 | some i => (i : Int)) := by
    rw [slices_IndexFunc_SMat_Mat__impl_latticeMats_1_eq]
    have := find_loop (L := fun k => slices_IndexFunc_SMat_Mat__impl_latticeMats_1_l0 (pmats f) (l, (l.1, 0), l.2) ((pmats f).length : Int) k) (xs := pmats f) (p := fun x => !stB l x) (good := .inl ()) (bad := fun i => .inr (i : Int)) (by unfold MAXN; omega) (fun k hk => by
      show slices_IndexFunc_SMat_Mat__impl_latticeMats_1_l0 (pmats f) _ _ k = _
      rw [slices_IndexFunc_SMat_Mat__impl_latticeMats_1_l0_eq, decide_eq_true (by omega), rd_lt hk]
      simp only [cond_true, Option.bind_some, Option.bind_fun_some]
      rw [impl_latticeMats_1_v hl (hpm _ (List.getElem_mem hk))]
      simp only [Option.bind_some]
      cases stB l (pmats f)[k] <;> rfl) (by
      show slices_IndexFunc_SMat_Mat__impl_latticeMats_1_l0 (pmats f) _ _ _ = _
      rw [slices_IndexFunc_SMat_Mat__impl_latticeMats_1_l0_eq, decide_eq_false (by omega)]; rfl)
    rw [this]
    cases (pmats f).findIdx? (fun x => !stB l x) <;> rfl
  rw [slices_DeleteFunc_SMat_Mat_o__impl_latticeMats_1_eq, hidx]
  cases hfi : (pmats f).findIdx? (fun x => !stB l x) with
  | none =>
    simp only [Option.bind_some, decide_true, cond_true]
    congr 1
    symm
    unfold stableL
    rw [List.filter_eq_self]
    intro a ha
    rw [List.findIdx?_eq_none_iff] at hfi
    simpa using hfi a ha
  | some i =>
    obtain ⟨hi, ht⟩ := first_out (pmats f) (stB l) hfi
    simp only [Option.bind_some]
    rw [decide_eq_false (by omega), wN (by omega)]
    simp only [cond_false]
    obtain ⟨s', i', e1, e2, e3, e4⟩ := del_loop (L := fun s i j => slices_DeleteFunc_SMat_Mat_o__impl_latticeMats_1_l0 s (l, (l.1, 0), l.2) i j) (pmats f) (stB l) (fun s i j hj hx hsl hij he => by
      show slices_DeleteFunc_SMat_Mat_o__impl_latticeMats_1_l0 s (l, (l.1, 0), l.2) (i : Int) (j : Int) = _
      have hq : impl_latticeMats_1 ((pmats f)[j].1, (pmats f)[j].2.1, (pmats f)[j].2.2) l (l.1, 0) l.2 = some (!stB l (pmats f)[j]) := impl_latticeMats_1_v hl (hpm _ (List.getElem_mem hx))
      rw [slices_DeleteFunc_SMat_Mat_o__impl_latticeMats_1_l0_eq, inb hj, decide_eq_true (by omega), gd hj, he]
      simp only [cond_true, Option.bind_fun_some]
      rw [hq, wN (by omega), wN (by omega), decide_eq_true (by omega), decide_eq_true (by omega)]
      simp only [Option.bind_some, Bool.and_true, cond_true, Int.toNat_natCast]
      cases stB l (pmats f)[j] <;> rfl) ((pmats f).length - (i + 1)) (i + 1) (pmats f) i (by omega) rfl (by omega) rfl ht.symm
    have e1' : slices_DeleteFunc_SMat_Mat_o__impl_latticeMats_1_l0 (pmats f) (l, (l.1, 0), l.2) (i : Int) ((i + 1 : Nat) : Int) = slices_DeleteFunc_SMat_Mat_o__impl_latticeMats_1_l0 s' (l, (l.1, 0), l.2) (i' : Int) ((pmats f).length : Int) := e1
    rw [e1', slices_DeleteFunc_SMat_Mat_o__impl_latticeMats_1_l0_eq, decide_eq_false (by omega)]
    simp only [cond_false, Option.bind_some, Int.toNat_natCast]
    have hol : (overL s' (List.replicate (s'.length - i') ((0, 0, 0, 0) : Int × Int × Int × Int)) i').length = s'.length := by
      unfold overL
      simp
      omega
    rw [decide_eq_true (show (0 : Int) ≤ (i' : Int) by omega), decide_eq_true (show (i' : Int) ≤ (s'.length : Int) by omega), decide_eq_true (by rw [hol]; omega)]
    simp only [Bool.and_true, cond_true]
    rw [cut_over _ _ _ (by omega), e4]
    rfl
theorem impl_latticeMats_v {f : Int} (hf : f = 0 ∨ f = 1) {l : Lat} (hl : isLat l = true) : impl_latticeMats f l = some (stableL f l) := by
  rw [impl_latticeMats_eq, impl_Lattice_basis_eq, impl_pointMats_v hf]
  simp only [Option.bind_some, impl_del_mats hf hl]
theorem stB_iff {l : Lat} (hl : isLat l = true) {m : Mat4} (hm : Pm m) : decide (imgL m l = l) = stB l m := by
  unfold stB
  rw [← Bool.decide_and, decide_eq_decide]
  exact stable_iff hl hm
theorem lat_beq (y l : Lat) : (decide (y.1 = l.1) && (decide (y.2.1 = l.2.1) && (decide (y.2.2 = l.2.2) && true))) = decide (y = l) := by
  obtain ⟨a, b, c⟩ := y
  obtain ⟨a', b', c'⟩ := l
  simp only [Prod.mk.injEq, Bool.and_true, ← Bool.decide_and]
theorem spec_l04Stable_v {f : Int} (hf : f = 0 ∨ f = 1) {l : Lat} (hl : isLat l = true) : spec_l04Stable f l = some (stableL f l) := by
  have hn := pmats_len f
  rw [spec_l04Stable_eq, spec_l04Mats_v hf]
  have key := loop_filter (L := fun s k => spec_l04Stable_l0 (pmats f) s k l.1 l.2.1 l.2.2) (pmats f) (stB l) [] (fun k hk s hs => by
    have hpm : Pm (pmats f)[k] := pmB_pm hf ((mem_pmats hf _).1 (List.getElem_mem hk))
    show spec_l04Stable_l0 (pmats f) s (k : Int) l.1 l.2.1 l.2.2 = _
    rw [spec_l04Stable_l0_eq, inb hk, decide_eq_true (by omega), gd hk]
    simp only [cond_true, Option.bind_fun_some]
    have e1 : spec_l04Image ((pmats f)[k].1, (pmats f)[k].2.1, (pmats f)[k].2.2) (l.1, l.2.1, l.2.2) = some (imgL (pmats f)[k] l) := spec_l04Image_v hl hpm
    rw [e1, wnext hk (by omega)]
    simp only [Option.bind_some]
    rw [lat_beq (imgL (pmats f)[k] l) l, stB_iff hl hpm, decide_eq_true (by unfold LIM; simp only [List.length_nil, List.length_singleton] at hs ⊢; omega)]
    cases stB l (pmats f)[k] <;> rfl)
  simp only [Option.bind_some]
  rw [key]
  show Option.bind (spec_l04Stable_l0 _ _ _ _ _ _) _ = _
  rw [spec_l04Stable_l0_eq, decide_eq_false (by omega)]
  rfl
def suitB (f : Int) (l : Lat) (m : Mot) : Bool := isVec m.2 && (pmB f m.1 && stB l m.1)
theorem impl_isSuitable_v {f : Int} (hf : f = 0 ∨ f = 1) {l : Lat} (hl : isLat l = true) (m : Mot) : impl_isSuitable f l m = some (suitB f l m) := by
  rw [impl_isSuitable_eq, impl_IsVec_v, impl_latticeMats_v hf hl]
  have hn : (stableL f l).length ≤ 1048576 := by
    have h1 := List.length_filter_le (stB l) (pmats f)
    have h2 := pmats_len f
    unfold stableL
    omega
  have hd : decide (m.1 ∈ stableL f l) = (pmB f m.1 && stB l m.1) := by
    rw [Bool.eq_iff_iff, decide_eq_true_iff, Bool.and_eq_true]
    unfold stableL
    rw [List.mem_filter, mem_pmats hf]
  unfold suitB
  simp only [Option.bind_some, slices_Contains_SMat_v _ m.1 hn, hd]
  cases isVec m.2 <;> cases (pmB f m.1 && stB l m.1) <;> rfl
def keptM (q : Pat) (m : Mat4) : List Mot := ((cells q.2.1).map fun t => (m, t)).filter (keepsB q)
def groupG (q : Pat) : List Mot := (stableL q.1 q.2.1).flatMap (keptM q)
theorem stable_pm {f : Int} (hf : f = 0 ∨ f = 1) {l : Lat} {m : Mat4} (hm : m ∈ stableL f l) : Pm m := by
  unfold stableL at hm
  exact pmB_pm hf ((mem_pmats hf m).1 (List.mem_filter.1 hm).1)
theorem stable_len (f : Int) (l : Lat) : (stableL f l).length ≤ 81 := Nat.le_trans (List.length_filter_le (stB l) (pmats f)) (pmats_len f)
theorem keptM_len {q : Pat} (hq : isPat q = true) (m : Mat4) : (keptM q m).length ≤ 64 := by
  have h2 := (cells_len' (isPat_iff.1 hq).2.1).2
  unfold keptM
  exact Nat.le_trans (List.length_filter_le ..) (by rw [List.length_map]; exact h2)
theorem keeps_sm {q : Pat} (hq : isPat q = true) {m : Mat4} (hm : Pm m) {t : V} (ht : Ss t) : ∀ v ∈ cells q.2.1, Sm (wap (m, t) v) := fun v hv => (wap_pm hm (cells_ss (isPat_iff.1 hq).2.1 hv) ht).2
theorem spec_group_inner (q : Pat) (hq : isPat q = true) (ms : List Mat4) {i : Nat} (hi : i < ms.length) (hm : Pm ms[i]) (s : List Mot) (hs : s.length ≤ 100000) :
    spec_l10Group_l1 ms (cells q.2.1) s (i : Int) 0 q.1 q.2.1.1 q.2.1.2.1 q.2.1.2.2 q.2.2 = some (ms, cells q.2.1, s ++ keptM q ms[i], (i : Int), q.1, q.2.1.1, q.2.1.2.1, q.2.1.2.2, q.2.2) := by
  have hl := (isPat_iff.1 hq).2.1
  have hn := (cells_len' hl).2
  have hlen : ((cells q.2.1).map fun t => ((ms[i], t) : Mot)).length = (cells q.2.1).length := List.length_map ..
  have key := loop_filter (L := fun s k => spec_l10Group_l1 ms (cells q.2.1) s (i : Int) k q.1 q.2.1.1 q.2.1.2.1 q.2.1.2.2 q.2.2) ((cells q.2.1).map fun t => ((ms[i], t) : Mot)) (keepsB q) s (fun k hk s' hs' => by
    have hk' : k < (cells q.2.1).length := by omega
    have hmem : (cells q.2.1)[k] ∈ cells q.2.1 := List.getElem_mem hk'
    show spec_l10Group_l1 ms (cells q.2.1) s' (i : Int) (k : Int) q.1 q.2.1.1 q.2.1.2.1 q.2.1.2.2 q.2.2 = _
    rw [List.getElem_map, spec_l10Group_l1_eq, inb hi, inb hk', decide_eq_true (by omega), gd hi, gd hk']
    simp only [cond_true, Option.bind_fun_some]
    have e1 : spec_l09Keeps (q.1, (q.2.1.1, q.2.1.2.1, q.2.1.2.2), q.2.2) ((ms[i].1, ms[i].2.1, ms[i].2.2), (cells q.2.1)[k]) = some (keepsB q (ms[i], (cells q.2.1)[k])) := spec_l09Keeps_v q (ms[i], (cells q.2.1)[k]) hq (keeps_sm hq hm (cells_ss hl hmem))
    rw [e1, wnext hk' (by omega), decide_eq_true (by unfold LIM; simp only [List.length_singleton]; omega)]
    simp only [Option.bind_some]
    cases keepsB q (ms[i], (cells q.2.1)[k]) <;> rfl)
  rw [key, hlen]
  show spec_l10Group_l1 _ _ _ _ _ _ _ _ _ _ = _
  rw [spec_l10Group_l1_eq, decide_eq_false (by omega)]
  rfl
theorem spec_l10Group_v (q : Pat) (hq : isPat q = true) : spec_l10Group q = some (groupG q) := by
  have hl := (isPat_iff.1 hq).2.1
  have hf := isFrame_iff.1 (isPat_iff.1 hq).1
  have hsl := stable_len q.1 q.2.1
  rw [spec_l10Group_eq, spec_l04Stable_v hf hl, spec_l03Cells_v _ hl]
  have key := loop_flat (L := fun s k => spec_l10Group_l0 (stableL q.1 q.2.1) (cells q.2.1) s k q.1 q.2.1.1 q.2.1.2.1 q.2.1.2.2 q.2.2) (stableL q.1 q.2.1) (keptM q) 64 (fun m _ => keptM_len hq m) (fun k hk s hs => by
    show spec_l10Group_l0 (stableL q.1 q.2.1) (cells q.2.1) s (k : Int) q.1 q.2.1.1 q.2.1.2.1 q.2.1.2.2 q.2.2 = _
    rw [spec_l10Group_l0_eq, decide_eq_true (by omega), spec_group_inner q hq (stableL q.1 q.2.1) hk (stable_pm hf (List.getElem_mem hk)) s (by omega)]
    simp only [cond_true, Option.bind_some, Option.bind_fun_some]
    rw [wnext hk (by omega)])
  simp only [Option.bind_some]
  rw [key]
  show Option.bind (spec_l10Group_l0 _ _ _ _ _ _ _ _ _) _ = _
  rw [spec_l10Group_l0_eq, decide_eq_false (by omega)]
  rfl
theorem impl_group_inner (q : Pat) (hq : isPat q = true) (ms : List Mat4) (n i : Int) {m : Mat4} (hm : Pm m) (s : List Mot) (hs : s.length ≤ 100000) :
    impl_Pattern_groupOf_l1 s ms n i (cells q.2.1) ((cells q.2.1).length : Int) 0 q.1 q.2.1.1 q.2.1.2.1 q.2.1.2.2 q.2.2 m.1 m.2.1 m.2.2.1 m.2.2.2 = some (s ++ keptM q m, ms, n, i, q.1, q.2.1.1, q.2.1.2.1, q.2.1.2.2, q.2.2) := by
  have hl := (isPat_iff.1 hq).2.1
  have hn := (cells_len' hl).2
  have hlen : ((cells q.2.1).map fun t => ((m, t) : Mot)).length = (cells q.2.1).length := List.length_map ..
  have key := loop_filter (L := fun s k => impl_Pattern_groupOf_l1 s ms n i (cells q.2.1) ((cells q.2.1).length : Int) k q.1 q.2.1.1 q.2.1.2.1 q.2.1.2.2 q.2.2 m.1 m.2.1 m.2.2.1 m.2.2.2) ((cells q.2.1).map fun t => ((m, t) : Mot)) (keepsB q) s (fun k hk s' hs' => by
    have hk' : k < (cells q.2.1).length := by omega
    have hmem : (cells q.2.1)[k] ∈ cells q.2.1 := List.getElem_mem hk'
    show impl_Pattern_groupOf_l1 s' ms n i (cells q.2.1) ((cells q.2.1).length : Int) (k : Int) q.1 q.2.1.1 q.2.1.2.1 q.2.1.2.2 q.2.2 m.1 m.2.1 m.2.2.1 m.2.2.2 = _
    rw [List.getElem_map, impl_Pattern_groupOf_l1_eq, inb hk', decide_eq_true (by omega), gd hk']
    simp only [cond_true, Option.bind_fun_some]
    have e1 : impl_Pattern_keeps (q.1, (q.2.1.1, q.2.1.2.1, q.2.1.2.2), q.2.2) ((m.1, m.2.1, m.2.2.1, m.2.2.2), (cells q.2.1)[k]) = some (keepsB q (m, (cells q.2.1)[k])) := impl_Pattern_keeps_v q (m, (cells q.2.1)[k]) hq (keeps_sm hq hm (cells_ss hl hmem))
    rw [e1, wnext hk' (by omega), decide_eq_true (by unfold LIM; simp only [List.length_singleton]; omega)]
    simp only [Option.bind_some]
    cases keepsB q (m, (cells q.2.1)[k]) <;> rfl)
  rw [key, hlen]
  show impl_Pattern_groupOf_l1 _ _ _ _ _ _ _ _ _ _ _ _ _ _ _ _ = _
  rw [impl_Pattern_groupOf_l1_eq, decide_eq_false (by omega)]
  rfl
theorem impl_Pattern_groupOf_v (q : Pat) (hq : isPat q = true) : impl_Pattern_groupOf q = some (groupG q) := by
  have hl := (isPat_iff.1 hq).2.1
  have hf := isFrame_iff.1 (isPat_iff.1 hq).1
  have hsl := stable_len q.1 q.2.1
  have hc : impl_Lattice_cells (q.2.1.1, q.2.1.2.1, q.2.1.2.2) = some (cells q.2.1) := impl_Lattice_cells_v _ hl
  rw [impl_Pattern_groupOf_eq, impl_latticeMats_v hf hl]
  have key := loop_flat (L := fun s k => impl_Pattern_groupOf_l0 s (stableL q.1 q.2.1) ((stableL q.1 q.2.1).length : Int) k q.1 q.2.1.1 q.2.1.2.1 q.2.1.2.2 q.2.2) (stableL q.1 q.2.1) (keptM q) 64 (fun m _ => keptM_len hq m) (fun k hk s hs => by
    show impl_Pattern_groupOf_l0 s (stableL q.1 q.2.1) _ (k : Int) q.1 q.2.1.1 q.2.1.2.1 q.2.1.2.2 q.2.2 = _
    rw [impl_Pattern_groupOf_l0_eq, inb hk, decide_eq_true (by omega), hc, gd hk]
    simp only [cond_true, Option.bind_some, Option.bind_fun_some]
    rw [impl_group_inner q hq (stableL q.1 q.2.1) _ _ (stable_pm hf (List.getElem_mem hk)) s (by omega)]
    simp only [Option.bind_some]
    rw [wnext hk (by omega)])
  simp only [Option.bind_some]
  rw [key]
  show Option.bind (impl_Pattern_groupOf_l0 _ _ _ _ _ _ _ _ _) _ = _
  rw [impl_Pattern_groupOf_l0_eq, decide_eq_false (by omega)]
  rfl
theorem suit_sm {q : Pat} (hq : isPat q = true) {m : Mot} (hm : suitB q.1 q.2.1 m = true) : ∀ v ∈ cells q.2.1, Sm (wap m v) := by
  have hf := isFrame_iff.1 (isPat_iff.1 hq).1
  unfold suitB at hm
  simp only [Bool.and_eq_true] at hm
  intro v hv
  exact (wap_pm (pmB_pm hf hm.2.1) (cells_ss (isPat_iff.1 hq).2.1 hv) (isVec_ss hm.1)).2
end Go.Proofs.YtckjefjkedlmbaaGreatDoor

namespace Go.Proofs.YtckjefjkedlmbaaGreatDoor
open Ai
set_option linter.unusedSimpArgs false
set_option linter.unusedVariables false
set_option linter.unnecessarySimpa false
theorem vec_beq' (u : V) (a b : Int) : (decide (a = u.1) && (decide (b = u.2) && true)) = decide (u = (a, b)) := by
  obtain ⟨x, y⟩ := u
  rw [Bool.and_true]
  by_cases h1 : x = a <;> by_cases h2 : y = b <;> simp [h1, h2, eq_comm]
theorem mem_any (xs : List V) (v : V) : xs.any (fun x => decide (x = v)) = decide (v ∈ xs) := by
  rw [Bool.eq_iff_iff]
  simp
theorem slices_Contains_SVec_Vec_v (xs : List V) (v : V) (h : xs.length ≤ MAXN) : slices_Contains_SVec_Vec xs v = some (decide (v ∈ xs)) := by
  rw [slices_Contains_SVec_Vec_eq, slices_Index_SVec_Vec_eq]
  have := find_loop (L := fun k => slices_Index_SVec_Vec_l0 xs (xs.length : Int) k v.1 v.2) (xs := xs) (p := fun x => decide (x = v)) (good := .inl ()) (bad := fun i => .inr (i : Int)) h (fun k hk => by
    show slices_Index_SVec_Vec_l0 xs _ k v.1 v.2 = _
    rw [slices_Index_SVec_Vec_l0_eq, decide_eq_true (by omega), rd_lt hk]
    simp only [cond_true, Option.bind_some, Option.bind_fun_some]
    rw [vec_beq']
    cases decide (xs[k] = (v.1, v.2)) <;> rfl) (by
    show slices_Index_SVec_Vec_l0 xs _ _ v.1 v.2 = _
    rw [slices_Index_SVec_Vec_l0_eq, decide_eq_false (by omega)]; rfl)
  rw [this]
  rw [← mem_any]
  cases hq : xs.findIdx? (fun x => decide (x = v)) with
  | none => rw [findIdx_none] at hq; rw [hq]; rfl
  | some i =>
    have : xs.any (fun x => decide (x = v)) = true := by
      cases hany : xs.any (fun x => decide (x = v)) with
      | true => rfl
      | false => rw [← findIdx_none, hq] at hany; cases hany
    rw [this]
    simp only [Option.bind_some]
    rw [decide_eq_true (by omega)]; rfl
end Go.Proofs.YtckjefjkedlmbaaGreatDoor

namespace Go.Proofs.YtckjefjkedlmbaaGreatDoor
open Ai
set_option linter.unusedSimpArgs false
set_option linter.unusedVariables false
theorem bezout : ∀ (n : Nat) (a b : Int), b.natAbs < n → ∃ x y : Int, (Int.gcd a b : Int) = a * x + b * y
  | 0, a, b, h => by omega
  | n + 1, a, b, h => by
    by_cases hb : b = 0
    · subst hb
      rcases Int.natAbs_eq a with h1 | h1
      · exact ⟨1, 0, by rw [Int.gcd_zero_right]; omega⟩
      · exact ⟨-1, 0, by rw [Int.gcd_zero_right]; omega⟩
    · obtain ⟨x, y, e⟩ := bezout n b (Int.tmod a b) (by
        have := Int.natAbs_tmod a b
        have h2 := Nat.mod_lt a.natAbs (show 0 < b.natAbs by omega)
        omega)
      rw [gcd_tmod] at e
      refine ⟨y, x - Int.tdiv a b * y, ?_⟩
      rw [e]
      have := Int.mul_tdiv_add_tmod a b
      grind
def Mod (s : Int × V) (w : V) : Prop := Sp s.2 (s.1, 0) w
theorem hStep_sp {s : Int × V} (i : HInv s) {v : V} (hv : Vs v) (w : V) : Mod (hStep s v) w ↔ ∃ k : Int, Mod s (vsub w (k * v.1, k * v.2)) := by
  have hz := (euc_gcd EU s.2 v (by have := hv.2; unfold EU; omega)).2
  have hsp := euc_sp EU s.2 v
  have ha := i.a
  unfold Mod hStep
  simp only
  generalize hE : euc EU s.2 v = e at hz hsp
  obtain ⟨g, hg⟩ : ∃ g : Int, g = (Int.gcd s.1 e.2.1 : Int) := ⟨_, rfl⟩
  have hgp : 0 < g := by
    have := (gcd_le_left s.1 e.2.1 ha.1).2
    omega
  obtain ⟨x, y, hb⟩ := bezout (e.2.1.natAbs + 1) s.1 e.2.1 (by omega)
  obtain ⟨c, hc⟩ : g ∣ s.1 := hg ▸ Int.gcd_dvd_left ..
  obtain ⟨d, hd⟩ : g ∣ e.2.1 := hg ▸ Int.gcd_dvd_right ..
  rw [← hg] at hb ⊢
  rw [if_pos hgp]
  have hm := Int.mul_ediv_add_emod e.1.1 g
  generalize e.1.1 / g = q at hm
  generalize e.1.1 % g = r at hm ⊢
  unfold Sp at hsp ⊢
  simp only [vsub]
  constructor
  · rintro ⟨a, b, h1, h2⟩
    obtain ⟨a', b', h3, h4⟩ := (hsp (a * e.1.1 + (b - a * q) * y * e.2.1, a * e.1.2 + (b - a * q) * y * e.2.2)).1 ⟨a, (b - a * q) * y, rfl, rfl⟩
    simp only at h3 h4 h1 h2
    refine ⟨b', a', (b - a * q) * x, ?_, ?_⟩ <;> grind
  · rintro ⟨k, a, b, h1, h2⟩
    obtain ⟨a', b', h3, h4⟩ := (hsp (a * s.2.1 + k * v.1, a * s.2.2 + k * v.2)).2 ⟨a, k, rfl, rfl⟩
    simp only at h3 h4 h1 h2
    refine ⟨a', a' * q + b' * d + b * c, ?_, ?_⟩ <;> grind
theorem fold_sp : ∀ (xs : List V) (s : Int × V), HInv s → (∀ v ∈ xs, Vs v) →
    (∀ w, Mod s w → Mod (xs.foldl hStep s) w) ∧ (∀ v ∈ xs, Mod (xs.foldl hStep s) v) ∧
    ∀ (Q : V → Prop), (∀ w, Mod s w → Q w) → (∀ v ∈ xs, ∀ (k : Int) w, Q (vsub w (k * v.1, k * v.2)) → Q w) → ∀ w, Mod (xs.foldl hStep s) w → Q w
  | [], s, _, _ => ⟨fun w h => h, fun v hv => (by cases hv), fun Q h1 _ w hw => h1 w hw⟩
  | v :: r, s, i, hx => by
    have hv := hx v (List.mem_cons_self ..)
    obtain ⟨h1, h2, h3⟩ := fold_sp r (hStep s v) (i.step hv).2 fun u hu => hx u (List.mem_cons_of_mem _ hu)
    have key := hStep_sp i hv
    refine ⟨fun w hw => h1 w ((key w).2 ⟨0, by simpa [vsub] using hw⟩), fun u hu => ?_, fun Q hq1 hq2 w hw => ?_⟩
    · rcases List.mem_cons.1 hu with rfl | hu
      · refine h1 u ((key u).2 ⟨1, 0, 0, ?_, ?_⟩) <;> simp [vsub]
      · exact h2 u hu
    · refine h3 Q (fun w hw => ?_) (fun u hu => hq2 u (List.mem_cons_of_mem _ hu)) w hw
      obtain ⟨k, hk⟩ := (key w).1 hw
      exact hq2 v (List.mem_cons_self ..) k w (hq1 _ hk)
theorem inL_mod {l : Lat} (w : V) : InL l w ↔ Mod (l.1, l.2) w := by
  unfold InL Mod Sp
  simp only [Int.mul_zero, Int.add_zero]
  constructor
  · rintro ⟨i, j, h1, h2⟩; exact ⟨j, i, by omega, h2⟩
  · rintro ⟨i, j, h1, h2⟩; exact ⟨j, i, by omega, h2⟩
theorem hinv_lat {l : Lat} (hl : isLat l = true) : HInv (l.1, l.2) := by
  obtain ⟨h1, h2, h3, h4⟩ := isLat_iff.1 hl
  exact ⟨⟨by show 0 < l.1; omega, by show l.1 ≤ 64; omega⟩, by show l.2.1.natAbs ≤ 64; omega, ⟨by show l.2.2 ≠ 0; omega, by show l.2.2.natAbs ≤ 64; omega⟩⟩
theorem latWith_in {l : Lat} (hl : isLat l = true) (xs : List V) (hx : ∀ v ∈ xs, Vs v) (w : V) : InL (latWith l xs) w ↔ Mod (xs.foldl hStep (l.1, l.2)) w := by
  have hi := (HInv.all xs _ (hinv_lat hl) hx).2
  unfold latWith
  generalize xs.foldl hStep (l.1, l.2) = s at hi ⊢
  have := latN_sp s.1 s.1 s.2 (by have := hi.a; omega) (by have := hi.a; omega) hi.y.1 w
  exact this
def Per (p : Pat) (t : V) : Prop := ∀ v, patAt p (vadd v t) = patAt p v
theorem per_lat {p : Pat} (hp : isPat p = true) {t : V} (h : InL p.2.1 t) : Per p t := fun v => by
  refine patAt_congr ((red_eq_iff (isPat_iff.1 hp).2.1).2 ?_)
  have : vsub (vadd v t) v = t := by unfold vsub vadd; ext <;> simp only <;> omega
  rw [this]; exact h
theorem Per.add {p : Pat} {s t : V} (h1 : Per p s) (h2 : Per p t) : Per p (vadd s t) := fun v => by
  have : vadd v (vadd s t) = vadd (vadd v s) t := by unfold vadd; ext <;> simp only <;> omega
  rw [this, h2, h1]
theorem Per.mul {p : Pat} {t : V} (h : Per p t) : ∀ k : Int, Per p (k * t.1, k * t.2) := by
  have hn : ∀ n : Nat, Per p ((n : Int) * t.1, (n : Int) * t.2) := by
    intro n
    induction n with
    | zero => intro v; congr 1; unfold vadd; ext <;> simp
    | succ n ih =>
      have := ih.add h
      have e : vadd ((n : Int) * t.1, (n : Int) * t.2) t = (((n + 1 : Nat) : Int) * t.1, ((n + 1 : Nat) : Int) * t.2) := by
        unfold vadd; ext <;> simp only <;> push_cast <;> grind
      rwa [e] at this
  intro k
  rcases Int.natAbs_eq k with e | e
  · rw [e]; exact hn _
  · intro v
    have := hn k.natAbs (vadd v (k * t.1, k * t.2))
    rw [← this]
    congr 1
    unfold vadd
    ext <;> simp only <;> grind
theorem vs_cell {l : Lat} (hl : isLat l = true) {t : V} (ht : t ∈ cells l) : Vs t := by
  obtain ⟨h1, h2⟩ := mem_cells.1 ht
  obtain ⟨h3, h4, h5, h6⟩ := isLat_iff.1 hl
  unfold Vs; omega
theorem keepsB_unit {p : Pat} (hp : isPat p = true) {t : V} (ht : t ∈ cells p.2.1) : keepsB p ((1, 0, 0, 1), t) = true ↔ Per p t := by
  have hl := (isPat_iff.1 hp).2.1
  unfold keepsB
  rw [List.all_eq_true]
  constructor
  · intro h v
    have hc := red_mem hl v
    have h1 := of_decide_eq_true (h _ hc)
    rw [wap_unit (cells_sm hl hc).1 (cells_sm hl ht).1] at h1
    have e1 : patAt p (red p.2.1 v) = patAt p v := patAt_congr (red_cell hl hc)
    have e2 : patAt p (vadd (red p.2.1 v) t) = patAt p (vadd v t) := by
      refine patAt_congr ((red_eq_iff hl).2 ?_)
      have := red_in hl v
      obtain ⟨i, j, h1, h2⟩ := this
      refine ⟨-i, -j, ?_, ?_⟩ <;> simp only [vsub, vadd] at h1 h2 ⊢ <;> grind
    rw [← e1, ← e2, h1]
  · intro h v hv
    rw [wap_unit (cells_sm hl hv).1 (cells_sm hl ht).1, h v]
    exact decide_eq_true rfl
theorem vsub_red {l : Lat} (hl : isLat l = true) (t : V) : InL l (vsub t (red l t)) := red_in hl t
theorem inL_full {p : Pat} (hp : isPat p = true) (t : V) : InL (fullOf p) t ↔ Per p t := by
  have hl := (isPat_iff.1 hp).2.1
  have hx := (fullOf_list hp).1
  unfold fullOf
  rw [latWith_in hl _ hx]
  obtain ⟨h1, h2, h3⟩ := fold_sp _ _ (hinv_lat hl) hx
  constructor
  · refine h3 (Per p) (fun w hw => per_lat hp ((inL_mod w).2 hw)) (fun v hv k w hw => ?_) t
    have hv' := List.mem_filter.1 hv
    have := hw.add (((keepsB_unit hp hv'.1).1 hv'.2).mul k)
    have e : vadd (vsub w (k * v.1, k * v.2)) (k * v.1, k * v.2) = w := by unfold vadd vsub; ext <;> simp only <;> omega
    rwa [e] at this
  · intro ht
    have hc := red_mem hl t
    have hr : Per p (red p.2.1 t) := fun v => by
      have h4 := per_lat hp (vsub_red hl t) (vadd v (red p.2.1 t))
      rw [← h4, ← ht v]
      congr 1
      unfold vadd vsub; ext <;> simp only <;> omega
    have h5 := h2 _ (List.mem_filter.2 ⟨hc, (keepsB_unit hp hc).2 hr⟩)
    rw [← latWith_in hl _ hx] at h5 ⊢
    have h6 := (latWith_in hl _ hx _).2 (h1 _ ((inL_mod _).1 (vsub_red hl t)))
    have := h5.lin h6 1 1
    have e : ((1 : Int) * (red p.2.1 t).1 + 1 * (vsub t (red p.2.1 t)).1, (1 : Int) * (red p.2.1 t).2 + 1 * (vsub t (red p.2.1 t)).2) = t := by
      unfold vsub; ext <;> simp only <;> omega
    rwa [e] at this
theorem lat_ext {l m : Lat} (hl : isLat l = true) (hm : isLat m = true) (h : ∀ w, InL l w ↔ InL m w) : l = m := by
  obtain ⟨l1, l2, l3, l4⟩ := isLat_iff.1 hl
  obtain ⟨m1, m2, m3, m4⟩ := isLat_iff.1 hm
  have dv : ∀ {a b i j k : Int}, 1 ≤ a → 1 ≤ b → a = i * b → b = j * a → a = b := by
    intro a b i j k ha hb h1 h2
    have d1 : b ∣ a := ⟨i, by rw [h1, Int.mul_comm]⟩
    have d2 : a ∣ b := ⟨j, by rw [h2, Int.mul_comm]⟩
    have := Int.le_of_dvd (by omega) d1
    have := Int.le_of_dvd (by omega) d2
    omega
  have one : ∀ {l m : Lat}, 1 ≤ l.2.2 → (∀ w, InL l w → InL m w) → 1 ≤ m.2.2 → (∃ i, l.1 = i * m.1) ∧ ∃ j, l.2.2 = j * m.2.2 := by
    intro l m hl h hm
    obtain ⟨i, j, h1, h2⟩ := h _ (InL.fst l)
    obtain ⟨i', j', h3, h4⟩ := h _ (InL.snd l)
    simp only at h1 h2 h3 h4
    have : j = 0 := by
      rcases Int.mul_eq_zero.1 h2.symm with h | h
      · exact h
      · omega
    subst this
    exact ⟨⟨i, by omega⟩, j', h4⟩
  obtain ⟨⟨i, hi⟩, j, hj⟩ := one (by omega) (fun w => (h w).1) (by omega)
  obtain ⟨⟨i', hi'⟩, j', hj'⟩ := one (by omega) (fun w => (h w).2) (by omega)
  have e1 : l.1 = m.1 := dv (k := 0) (by omega) (by omega) hi hi'
  have e3 : l.2.2 = m.2.2 := dv (k := 0) (by omega) (by omega) hj hj'
  have e2 : l.2.1 = m.2.1 := by
    obtain ⟨a, b, h3, h4⟩ := (h _).1 (InL.snd l)
    have hb : b = 1 := by
      rw [e3] at h4
      have : (b - 1) * m.2.2 = 0 := by rw [Int.sub_mul]; omega
      rcases Int.mul_eq_zero.1 this with h | h <;> omega
    subst hb
    have hd : m.1 ∣ (l.2.1 - m.2.1) := ⟨a, by rw [Int.mul_comm]; omega⟩
    have h0 : l.2.1 - m.2.1 = 0 := Int.eq_zero_of_dvd_of_natAbs_lt_natAbs hd (by omega)
    omega
  exact Prod.ext e1 (Prod.ext e2 e3)
theorem pat_ext {p q : Pat} (hp : isPat p = true) (hq : isPat q = true) (h1 : p.1 = q.1) (h2 : p.2.1 = q.2.1) (h : ∀ v, patAt p v = patAt q v) : p = q := by
  have cols : ∀ {p : Pat}, isPat p = true → p.2.2 = (cells p.2.1).map (patAt p) := by
    intro p hp
    have hl := (cells_len' (isPat_iff.1 hp).2.1).1
    have hn := (isPat_iff.1 hp).2.2.1
    apply List.ext_getElem
    · rw [List.length_map]; omega
    · intro i h1 h2
      rw [List.length_map] at h2
      have := patAt_cell hp h2
      rw [rd_lt h1, Option.some.injEq] at this
      rw [this, List.getElem_map]
  refine Prod.ext h1 (Prod.ext h2 ?_)
  rw [cols hp, cols hq, h2]
  exact List.map_congr_left fun v _ => h v
theorem patAt_onLat {p : Pat} (hp : isPat p = true) {l : Lat} (hl : isLat l = true) (h : ∀ t, InL l t → Per p t) (v : V) : patAt (onLat p l) v = patAt p v := by
  obtain ⟨hn, hc⟩ := cells_num hl v
  have : patAt (onLat p l) v = patAt p (red l v) := by
    unfold patAt
    show List.getD ((cells l).map (patAt p)) (num l v) 0 = _
    rw [List.getD_eq_getElem?_getD, List.getElem?_map, List.getElem?_eq_getElem hn, hc]
    rfl
  rw [this]
  have := h _ (red_in hl v) (red l v)
  rw [← this]
  congr 1
  unfold vadd vsub; ext <;> simp only <;> omega
theorem patAt_lean {p : Pat} (hp : isPat p = true) (v : V) : patAt (onLat p (fullOf p)) v = patAt p v :=
  patAt_onLat hp (isLat_fullOf hp) (fun t ht => (inL_full hp t).1 ht) v
theorem isPat_lean {p : Pat} (hp : isPat p = true) : isPat (onLat p (fullOf p)) = true := isPat_onLat hp (isLat_fullOf hp)
theorem full_congr {p q : Pat} (hp : isPat p = true) (hq : isPat q = true) (h : ∀ v, patAt p v = patAt q v) : fullOf p = fullOf q := by
  refine lat_ext (isLat_fullOf hp) (isLat_fullOf hq) fun w => ?_
  rw [inL_full hp, inL_full hq]
  unfold Per
  constructor <;> intro h1 v <;> have := h1 v <;> simp only [h] at this ⊢ <;> exact this
theorem full_lean {p : Pat} (hp : isPat p = true) : fullOf (onLat p (fullOf p)) = fullOf p := full_congr (isPat_lean hp) hp (patAt_lean hp)
theorem onLat_congr {p q : Pat} (h1 : p.1 = q.1) (h : ∀ v, patAt p v = patAt q v) (l : Lat) : onLat p l = onLat q l := by
  unfold onLat
  rw [h1, List.map_congr_left fun v _ => h v]
theorem lean_eq_iff {p q : Pat} (hp : isPat p = true) (hq : isPat q = true) : onLat p (fullOf p) = onLat q (fullOf q) ↔ p.1 = q.1 ∧ ∀ v, patAt p v = patAt q v := by
  constructor
  · intro h
    refine ⟨by have := congrArg (fun x : Pat => x.1) h; exact this, fun v => ?_⟩
    rw [← patAt_lean hp, ← patAt_lean hq, h]
  · rintro ⟨h1, h2⟩
    rw [full_congr hp hq h2]
    exact onLat_congr h1 h2 _
theorem moved_back {p : Pat} (hp : isPat p = true) {m : Mat4} (hm : Pm m) (t : V) : moved (moved p m t) (minv m) (vneg (mapp (minv m) t)) = p := by
  have hl := (isPat_iff.1 hp).2.1
  have hq := isPat_moved hp hm t
  have hi := minv_pm hm
  refine pat_ext (isPat_moved hq hi _) hp rfl ?_ fun v => ?_
  · show imgL (minv m) (imgL m p.2.1) = p.2.1
    refine lat_ext (isLat_imgL (isLat_imgL hl hm).1 hi).1 hl fun w => ?_
    have e : w = mapp (minv m) (mapp m w) := (minv_left hm.det w).symm
    have h1 : InL (imgL (minv m) (imgL m p.2.1)) (mapp (minv m) (mapp m w)) ↔ InL (imgL m p.2.1) (mapp m w) := inL_mapp (isLat_imgL hl hm).1 hi (mapp m w)
    rw [← e] at h1
    exact h1.trans (inL_mapp hl hm w)
  · rw [patAt_moved hq hi, patAt_moved hp hm]
    congr 1
    have e : mapp (minv (minv m)) (vsub v (vneg (mapp (minv m) t))) = vadd (mapp m v) t := by
      have h1 : vsub v (vneg (mapp (minv m) t)) = mapp (minv m) (vadd (mapp m v) t) := by
        have h2 := minv_left hm.det v
        rw [show vsub v (vneg (mapp (minv m) t)) = vadd v (mapp (minv m) t) by unfold vsub vneg vadd; ext <;> simp only <;> omega]
        conv => lhs; rw [← h2]
        unfold vadd mapp; ext <;> simp only <;> grind
      rw [h1, minv_left hi.det]
    rw [e]
    have h3 : vsub (vadd (mapp m v) t) t = mapp m v := by unfold vsub vadd; ext <;> simp only <;> omega
    rw [h3, minv_left hm.det]
end Go.Proofs.YtckjefjkedlmbaaGreatDoor

namespace Go.Proofs.YtckjefjkedlmbaaGreatDoor
open Ai
set_option linter.unusedSimpArgs false
set_option linter.unusedVariables false
/-! ### Orders -/
def cmpS : List Int → List Int → Int
  | [], [] => 0
  | [], _ :: _ => -1
  | _ :: _, [] => 1
  | a :: r, b :: s => if a = b then cmpS r s else if a < b then -1 else 1
theorem cmpS_neg : ∀ a b : List Int, cmpS a b < 0 ↔ lexB a b = true
  | [], [] => by simp [cmpS, lexB]
  | [], _ :: _ => by simp [cmpS, lexB]
  | _ :: _, [] => by simp [cmpS, lexB]
  | a :: r, b :: s => by
    simp only [cmpS, lexB]
    by_cases h : a = b
    · simp only [if_pos h]; exact cmpS_neg r s
    · simp only [if_neg h]
      by_cases h2 : a < b
      · simp [h2]
      · simp [h2]
theorem cmpS_lt (a b : List Int) : decide (cmpS a b < 0) = lexB a b := by
  rw [Bool.eq_iff_iff, decide_eq_true_iff, cmpS_neg]
def lexR : List Int → List Int → Option Bool
  | a :: r, b :: s => if a = b then lexR r s else some (decide (a < b))
  | _, _ => none
theorem lexR_B : ∀ a b : List Int, lexB a b = (match lexR a b with | none => decide (a.length < b.length) | some v => v)
  | [], [] => rfl
  | [], _ :: _ => by simp [lexB, lexR]
  | _ :: _, [] => by simp [lexB, lexR]
  | a :: r, b :: s => by
    simp only [lexB, lexR]
    by_cases h : a = b
    · rw [if_pos h, if_pos h, lexR_B r s]
      cases lexR r s with
      | none => simp
      | some v => rfl
    · rw [if_neg h, if_neg h]
theorem spec_l01LessList_l0_v (a b : List Int) (hn : a.length ≤ 1048576) : ∀ (m k : Nat), a.length - k = m → k ≤ a.length →
    spec_l01LessList_l0 a b (k : Int) = some (match lexR (a.drop k) (b.drop k) with | none => .inl (a, b) | some v => .inr v)
  | 0, k, hm, hk => by
    have : k = a.length := by omega
    subst this
    rw [spec_l01LessList_l0_eq, decide_eq_false (by omega), List.drop_of_length_le (Nat.le_refl _)]
    rfl
  | m + 1, k, hm, hk => by
    have h1 : k < a.length := by omega
    rw [spec_l01LessList_l0_eq, decide_eq_true (by omega)]
    by_cases h2 : k < b.length
    · rw [decide_eq_true (by omega), rd_lt h1, rd_lt h2, wnext h1 (by omega), spec_l01LessList_l0_v a b hn m (k + 1) (by omega) (by omega), List.drop_eq_getElem_cons h1, List.drop_eq_getElem_cons h2]
      simp only [cond_true, Option.bind_some, lexR, Option.bind_fun_some]
      by_cases h3 : a[k] = b[k]
      · rw [decide_eq_true h3, if_pos h3]; rfl
      · rw [decide_eq_false h3, if_neg h3]
        by_cases h4 : a[k] < b[k]
        · rw [decide_eq_true h4]; rfl
        · rw [decide_eq_false h4]; rfl
    · rw [decide_eq_false (by omega), List.drop_of_length_le (show b.length ≤ k by omega)]
      rw [List.drop_eq_getElem_cons h1]
      rfl
theorem spec_l01LessList_v (a b : List Int) (hn : a.length ≤ 1048576) : spec_l01LessList a b = some (lexB a b) := by
  rw [spec_l01LessList_eq, show (0 : Int) = ((0 : Nat) : Int) from rfl, spec_l01LessList_l0_v a b hn _ 0 rfl (Nat.zero_le _)]
  simp only [List.drop_zero, Option.bind_some]
  rw [lexR_B]
  cases lexR a b with
  | none =>
    by_cases h : a.length < b.length
    · simp [h]
    · simp [h]
  | some v => rfl
theorem cmp_Compare_v (x y : Int) : cmp_Compare_int64 x y = some (if x = y then 0 else if x < y then -1 else 1) := by
  rw [cmp_Compare_int64_eq, cmp_isNaN_int64_eq, cmp_isNaN_int64_eq, decide_eq_true rfl, decide_eq_true rfl]
  simp only [Bool.not_true, cond_false, Option.bind_some]
  by_cases h1 : x = y
  · subst h1
    rw [if_pos rfl, decide_eq_false (by omega)]; rfl
  · rw [if_neg h1]
    by_cases h2 : x < y
    · rw [if_pos h2, decide_eq_true h2]; rfl
    · rw [if_neg h2, decide_eq_false h2, decide_eq_true (by omega)]; rfl
def cmpR : List Int → List Int → Option Int
  | a :: r, b :: s => if a = b then cmpR r s else some (if a < b then -1 else 1)
  | _ :: _, [] => some 1
  | [], _ => none
theorem cmpR_S : ∀ a b : List Int, cmpS a b = (match cmpR a b with | none => if a.length < b.length then -1 else 0 | some v => v)
  | [], [] => rfl
  | [], _ :: _ => by simp [cmpS, cmpR]
  | _ :: _, [] => by simp [cmpS, cmpR]
  | a :: r, b :: s => by
    simp only [cmpS, cmpR]
    by_cases h : a = b
    · rw [if_pos h, if_pos h, cmpR_S r s]
      cases cmpR r s with
      | none => simp
      | some v => rfl
    · rw [if_neg h, if_neg h]
theorem slices_Compare_l0_v (a b : List Int) (hn : a.length ≤ 1048576) : ∀ (m k : Nat), a.length - k = m → k ≤ a.length →
    slices_Compare_Sint64_int64_l0 a b a (a.length : Int) (k : Int) = some (match cmpR (a.drop k) (b.drop k) with | none => .inl (a, b) | some v => .inr v)
  | 0, k, hm, hk => by
    have : k = a.length := by omega
    subst this
    rw [slices_Compare_Sint64_int64_l0_eq, decide_eq_false (by omega), List.drop_of_length_le (Nat.le_refl _)]
    rfl
  | m + 1, k, hm, hk => by
    have h1 : k < a.length := by omega
    rw [slices_Compare_Sint64_int64_l0_eq, decide_eq_true (by omega), rd_lt h1]
    simp only [cond_true, Option.bind_some]
    by_cases h2 : k < b.length
    · rw [decide_eq_false (by omega), rd_lt h2, wnext h1 (by omega), slices_Compare_l0_v a b hn m (k + 1) (by omega) (by omega), List.drop_eq_getElem_cons h1, List.drop_eq_getElem_cons h2]
      simp only [cond_false, Option.bind_some, cmp_Compare_v, cmpR, Option.bind_fun_some]
      by_cases h3 : a[k] = b[k]
      · rw [if_pos h3, if_pos h3]; rfl
      · rw [if_neg h3, if_neg h3]
        by_cases h4 : a[k] < b[k]
        · rw [if_pos h4]; rfl
        · rw [if_neg h4]; rfl
    · rw [decide_eq_true (by omega), List.drop_of_length_le (show b.length ≤ k by omega), List.drop_eq_getElem_cons h1]
      rfl
theorem slices_Compare_v (a b : List Int) (hn : a.length ≤ 1048576) : slices_Compare_Sint64_int64 a b = some (cmpS a b) := by
  rw [slices_Compare_Sint64_int64_eq, show (0 : Int) = ((0 : Nat) : Int) from rfl, slices_Compare_l0_v a b hn _ 0 rfl (Nat.zero_le _)]
  simp only [List.drop_zero, Option.bind_some]
  rw [cmpR_S]
  cases cmpR a b with
  | none =>
    by_cases h : a.length < b.length
    · simp [h]
    · simp [h]
  | some v => rfl
theorem impl_comparePatterns_v (p q : Pat) (h : p.2.2.length ≤ 1048576) : impl_comparePatterns p q = some (cmpS (keyP p) (keyP q)) := by
  rw [impl_comparePatterns_eq, impl_compareNumbers_v _ _ (by simp) (by simp), impl_compareLattices_eq, impl_compareNumbers_v _ _ (by simp) (by simp), slices_Compare_v _ _ h]
  obtain ⟨f, ⟨a, b, c⟩, xs⟩ := p
  obtain ⟨f', ⟨a', b', c'⟩, ys⟩ := q
  simp only [Option.bind_some, keyP, cmpS, cmpL]
  by_cases h1 : f = f'
  · rw [decide_eq_true h1]
    simp only [Bool.not_true, cond_false]
    rw [if_pos h1]
    by_cases h2 : a = a'
    · rw [if_pos h2, if_pos h2]
      by_cases h3 : b = b'
      · rw [if_pos h3, if_pos h3]
        by_cases h4 : c = c'
        · rw [if_pos h4, if_pos h4]; simp
        · rw [if_neg h4, if_neg h4]
          by_cases h5 : c < c' <;> simp [h5]
      · rw [if_neg h3, if_neg h3]
        by_cases h5 : b < b' <;> simp [h5]
    · rw [if_neg h2, if_neg h2]
      by_cases h5 : a < a' <;> simp [h5]
  · rw [decide_eq_false h1, if_neg h1, if_neg h1]
    rfl
theorem spec_l18Less_v (p q : Pat) (h : p.2.2.length ≤ 1000000) (h2 : q.2.2.length ≤ 1000000) : spec_l18Less p q = some (ltP p q) := by
  rw [spec_l18Less_eq, decide_eq_true (by unfold LIM; simp; omega), decide_eq_true (by unfold LIM; simp; omega)]
  simp only [cond_true]
  rw [spec_l01LessList_v _ _ (by simp; omega)]
  simp only [Option.bind_some]
  show cond (ltP p q) _ _ = _
  cases ltP p q <;> rfl
theorem spec_l18Least_v (x : Pat) (r : List Pat) (hr : (x :: r).length ≤ 100000) (hx : ∀ y ∈ x :: r, isPat y = true) : spec_l18Least (x :: r) = some (minP x r) := by
  have hlen : ∀ y : Pat, isPat y = true → y.2.2.length ≤ 1000000 := fun y hy => by have := pat_len hy; omega
  have hr' : r.length + 1 ≤ 100000 := hr
  have key := each_loop (L := fun (b : Pat) k => spec_l18Least_l0 (x :: r) (k + 1) 0 0 0 0 b.1 b.2.1.1 b.2.1.2.1 b.2.1.2.2 b.2.2) (xs := r) (f := fun b y => if ltP y b = true then y else b) (I := fun _ b => isPat b = true) (by unfold MAXN; omega) (fun k hk b hb => by
    refine ⟨?_, by
      split
      · exact hx _ (List.mem_cons_of_mem _ (List.getElem_mem hk))
      · exact hb⟩
    show spec_l18Least_l0 (x :: r) ((k : Int) + 1) 0 0 0 0 b.1 b.2.1.1 b.2.1.2.1 b.2.1.2.2 b.2.2 = _
    have hk1 : k + 1 < (x :: r).length := by simpa using hk
    have e1 : ((k : Int) + 1) = ((k + 1 : Nat) : Int) := by omega
    have hl : spec_l18Less (x :: r)[k + 1] (b.1, (b.2.1.1, b.2.1.2.1, b.2.1.2.2), b.2.2) = some (ltP (x :: r)[k + 1] b) := spec_l18Less_v _ b (hlen _ (hx _ (List.getElem_mem hk1))) (hlen _ hb)
    rw [e1, spec_l18Least_l0_eq, decide_eq_true (by omega), rd_lt hk1]
    simp only [cond_true, Option.bind_some]
    rw [hl, wN (by omega)]
    simp only [Option.bind_some, Option.bind_fun_some, List.getElem_cons_succ]
    rw [w64 (x := ((k + 1 : Nat) : Int)) (by omega) (by omega)]
    cases ltP r[k] b <;> rfl) x (hx _ (List.mem_cons_self ..))
  have key' : spec_l18Least_l0 (x :: r) 1 0 0 0 0 x.1 x.2.1.1 x.2.1.2.1 x.2.1.2.2 x.2.2 = spec_l18Least_l0 (x :: r) ((r.length : Int) + 1) 0 0 0 0 (minP x r).1 (minP x r).2.1.1 (minP x r).2.1.2.1 (minP x r).2.1.2.2 (minP x r).2.2 := key.1
  rw [spec_l18Least_eq, show rd (x :: r) 0 = some x from rfl]
  simp only [Option.bind_some]
  rw [key', spec_l18Least_l0_eq, decide_eq_false (by simp)]
  rfl
theorem impl_MinFunc_v (x : Pat) (r : List Pat) (hr : (x :: r).length ≤ 100000) (hx : ∀ y ∈ x :: r, isPat y = true) : slices_MinFunc_SPattern_Pattern__impl_comparePatterns (x :: r) = some (minP x r) := by
  have hlen : ∀ y : Pat, isPat y = true → y.2.2.length ≤ 1000000 := fun y hy => by have := pat_len hy; omega
  have hr' : r.length + 1 ≤ 100000 := hr
  have key := each_loop (L := fun (b : Pat) k => slices_MinFunc_SPattern_Pattern__impl_comparePatterns_l0 (x :: r) (k + 1) 0 0 0 0 b.1 b.2.1.1 b.2.1.2.1 b.2.1.2.2 b.2.2) (xs := r) (f := fun b y => if ltP y b = true then y else b) (I := fun _ b => isPat b = true) (by unfold MAXN; omega) (fun k hk b hb => by
    refine ⟨?_, by
      split
      · exact hx _ (List.mem_cons_of_mem _ (List.getElem_mem hk))
      · exact hb⟩
    show slices_MinFunc_SPattern_Pattern__impl_comparePatterns_l0 (x :: r) ((k : Int) + 1) 0 0 0 0 b.1 b.2.1.1 b.2.1.2.1 b.2.1.2.2 b.2.2 = _
    have hk1 : k + 1 < (x :: r).length := by simpa using hk
    have e1 : ((k : Int) + 1) = ((k + 1 : Nat) : Int) := by omega
    have hl : impl_comparePatterns (x :: r)[k + 1] (b.1, (b.2.1.1, b.2.1.2.1, b.2.1.2.2), b.2.2) = some (cmpS (keyP (x :: r)[k + 1]) (keyP b)) := impl_comparePatterns_v _ b (Nat.le_trans (hlen _ (hx _ (List.getElem_mem hk1))) (by decide))
    rw [e1, slices_MinFunc_SPattern_Pattern__impl_comparePatterns_l0_eq, decide_eq_true (by omega), rd_lt hk1]
    simp only [cond_true, Option.bind_some]
    rw [hl, wN (by omega)]
    simp only [Option.bind_some, Option.bind_fun_some, cmpS_lt, List.getElem_cons_succ]
    rw [w64 (x := ((k + 1 : Nat) : Int)) (by omega) (by omega)]
    show cond (ltP r[k] b) _ _ = _
    cases ltP r[k] b <;> rfl) x (hx _ (List.mem_cons_self ..))
  have key' : slices_MinFunc_SPattern_Pattern__impl_comparePatterns_l0 (x :: r) 1 0 0 0 0 x.1 x.2.1.1 x.2.1.2.1 x.2.1.2.2 x.2.2 = slices_MinFunc_SPattern_Pattern__impl_comparePatterns_l0 (x :: r) ((r.length : Int) + 1) 0 0 0 0 (minP x r).1 (minP x r).2.1.1 (minP x r).2.1.2.1 (minP x r).2.1.2.2 (minP x r).2.2 := key.1
  rw [slices_MinFunc_SPattern_Pattern__impl_comparePatterns_eq, decide_eq_false (by simp; omega), show rd (x :: r) 0 = some x from rfl]
  simp only [cond_false, Option.bind_some]
  rw [key', slices_MinFunc_SPattern_Pattern__impl_comparePatterns_l0_eq, decide_eq_false (by simp)]
  rfl
/-! ### All images -/
theorem mapp_ss {m : Mat4} (hm : Pm m) {l : Lat} (hl : isLat l = true) {x : V} (hx : x ∈ cells l) : Ss (mapp m x) := by
  have h1 := mapp_lim hm x
  have h2 := cells_sv hl hx
  unfold Sv at h2
  unfold Ss
  omega
theorem spec_images_inner {q : Pat} (hq : isPat q = true) (ms : List Mat4) {i : Nat} (hi : i < ms.length) (hm : Pm ms[i]) (s : List Pat) (hs : s.length ≤ 100000) :
    spec_l18Images_l1 ms (cells q.2.1) s (i : Int) 0 q.1 q.2.1.1 q.2.1.2.1 q.2.1.2.2 q.2.2 = some (ms, cells q.2.1, s ++ (cells q.2.1).map (fun x => moved q ms[i] (mapp ms[i] x)), (i : Int), q.1, q.2.1.1, q.2.1.2.1, q.2.1.2.2, q.2.2) := by
  have hl := (isPat_iff.1 hq).2.1
  have hn := (cells_len' hl).2
  have hlen : ((cells q.2.1).map fun x => moved q ms[i] (mapp ms[i] x)).length = (cells q.2.1).length := List.length_map ..
  have key := loop_filter (L := fun s k => spec_l18Images_l1 ms (cells q.2.1) s (i : Int) k q.1 q.2.1.1 q.2.1.2.1 q.2.1.2.2 q.2.2) ((cells q.2.1).map fun x => moved q ms[i] (mapp ms[i] x)) (fun _ => true) s (fun k hk s' hs' => by
    have hk' : k < (cells q.2.1).length := by omega
    have hmem : (cells q.2.1)[k] ∈ cells q.2.1 := List.getElem_mem hk'
    show spec_l18Images_l1 ms (cells q.2.1) s' (i : Int) (k : Int) q.1 q.2.1.1 q.2.1.2.1 q.2.1.2.2 q.2.2 = _
    have e0 : spec_l02Apply (ms[i].1, ms[i].2.1, ms[i].2.2) (cells q.2.1)[k] = some (mapp ms[i] (cells q.2.1)[k]) := spec_l02Apply_v hm (cells_ss hl hmem)
    have e1 : spec_l09Move (q.1, (q.2.1.1, q.2.1.2.1, q.2.1.2.2), q.2.2) ((ms[i].1, ms[i].2.1, ms[i].2.2), mapp ms[i] (cells q.2.1)[k]) = some (moved q ms[i] (mapp ms[i] (cells q.2.1)[k])) := spec_l09Move_v q _ hq hm (mapp_ss hm hl hmem)
    rw [List.getElem_map, spec_l18Images_l1_eq, inb hi, inb hk', decide_eq_true (by omega), gd hi, gd hk', e0]
    simp only [cond_true, Option.bind_some]
    rw [e1, wnext hk' (by omega)]
    simp only [Option.bind_some, Option.bind_fun_some]
    rw [decide_eq_true (by unfold LIM; simp only [List.length_singleton]; omega)]
    rfl)
  rw [key, hlen, List.filter_eq_self.2 (fun _ _ => rfl)]
  show spec_l18Images_l1 _ _ _ _ _ _ _ _ _ _ = _
  rw [spec_l18Images_l1_eq, decide_eq_false (by omega)]
  rfl
theorem pmats_pm {f : Int} (hf : f = 0 ∨ f = 1) {m : Mat4} (h : m ∈ pmats f) : Pm m := pmB_pm hf ((mem_pmats hf _).1 h)
theorem spec_l18Images_v (p : Pat) (hp : isPat p = true) : spec_l18Images p = some (imgs1 (onLat p (fullOf p)) (pmats p.1)) := by
  have hq := isPat_onLat hp (isLat_fullOf hp)
  have hl := (isPat_iff.1 hq).2.1
  have hn := (cells_len' hl).2
  have hf := isFrame_iff.1 (isPat_iff.1 hq).1
  rw [spec_l18Images_eq, spec_l09Lean_v p hp]
  simp only [Option.bind_some, spec_l04Mats_v hf, spec_l03Cells_v _ hl]
  show Option.bind (spec_l18Images_l0 (pmats p.1) _ _ _ _ _ _ _ _) _ = _
  have hf' : p.1 = 0 ∨ p.1 = 1 := hf
  have hfe : (onLat p (fullOf p)).1 = p.1 := rfl
  have hms := pmats_len p.1
  generalize onLat p (fullOf p) = q at *
  have key := loop_flat (L := fun s k => spec_l18Images_l0 (pmats p.1) (cells q.2.1) s k q.1 q.2.1.1 q.2.1.2.1 q.2.1.2.2 q.2.2) (pmats p.1) (fun m => (cells q.2.1).map fun x => moved q m (mapp m x)) 64 (fun m _ => by rw [List.length_map]; exact hn) (fun k hk s hs => by
    have hm : Pm (pmats p.1)[k] := pmats_pm hf' (List.getElem_mem hk)
    show spec_l18Images_l0 (pmats p.1) (cells q.2.1) s (k : Int) q.1 q.2.1.1 q.2.1.2.1 q.2.1.2.2 q.2.2 = _
    rw [spec_l18Images_l0_eq, decide_eq_true (by omega), spec_images_inner hq _ hk hm s (by omega)]
    simp only [cond_true, Option.bind_some, Option.bind_fun_some]
    rw [wnext hk (by omega)])
  have key' : spec_l18Images_l0 (pmats p.1) (cells q.2.1) [] 0 q.1 q.2.1.1 q.2.1.2.1 q.2.1.2.2 q.2.2 = spec_l18Images_l0 (pmats p.1) (cells q.2.1) (imgs1 q (pmats p.1)) ((pmats p.1).length : Int) q.1 q.2.1.1 q.2.1.2.1 q.2.1.2.2 q.2.2 := key
  rw [key', spec_l18Images_l0_eq, decide_eq_false (by omega)]
  rfl
theorem impl_images_inner {q : Pat} (hq : isPat q = true) (ms : List Mat4) (n i : Int) {m : Mat4} (hm : Pm m) (s : List Pat) (hs : s.length ≤ 100000) :
    impl_Pattern_images_l1 s ms n i (cells (imgL m q.2.1)) ((cells (imgL m q.2.1)).length : Int) 0 q.1 q.2.1.1 q.2.1.2.1 q.2.1.2.2 q.2.2 (moved q m (0, 0)).1 (moved q m (0, 0)).2.1.1 (moved q m (0, 0)).2.1.2.1 (moved q m (0, 0)).2.1.2.2 (moved q m (0, 0)).2.2 =
      some (s ++ (cells (imgL m q.2.1)).map (fun t => moved q m t), ms, n, i, q.1, q.2.1.1, q.2.1.2.1, q.2.1.2.2, q.2.2) := by
  have hl := (isLat_imgL (isPat_iff.1 hq).2.1 hm).1
  have hn := (cells_len' hl).2
  have hmv := isPat_moved hq hm (0, 0)
  have hlen : ((cells (imgL m q.2.1)).map fun t => moved q m t).length = (cells (imgL m q.2.1)).length := List.length_map ..
  have key := loop_filter (L := fun s k => impl_Pattern_images_l1 s ms n i (cells (imgL m q.2.1)) ((cells (imgL m q.2.1)).length : Int) k q.1 q.2.1.1 q.2.1.2.1 q.2.1.2.2 q.2.2 (moved q m (0, 0)).1 (moved q m (0, 0)).2.1.1 (moved q m (0, 0)).2.1.2.1 (moved q m (0, 0)).2.1.2.2 (moved q m (0, 0)).2.2) ((cells (imgL m q.2.1)).map fun t => moved q m t) (fun _ => true) s (fun k hk s' hs' => by
    have hk' : k < (cells (imgL m q.2.1)).length := by omega
    have hmem : (cells (imgL m q.2.1))[k] ∈ cells (imgL m q.2.1) := List.getElem_mem hk'
    show impl_Pattern_images_l1 s' ms n i (cells (imgL m q.2.1)) ((cells (imgL m q.2.1)).length : Int) (k : Int) _ _ _ _ _ _ _ _ _ _ = _
    have e1 : impl_Pattern_move ((moved q m (0, 0)).1, ((moved q m (0, 0)).2.1.1, (moved q m (0, 0)).2.1.2.1, (moved q m (0, 0)).2.1.2.2), (moved q m (0, 0)).2.2) ((1, 0, 0, 1), (cells (imgL m q.2.1))[k]) = some (moved q m (cells (imgL m q.2.1))[k]) := by
      rw [← moved_shift hq hm (cells (imgL m q.2.1))[k]]
      exact impl_Pattern_move_v (moved q m (0, 0)) _ hmv pm_unit (cells_sv hl hmem)
    rw [List.getElem_map, impl_Pattern_images_l1_eq, inb hk', decide_eq_true (by omega), gd hk', impl_unit_eq]
    simp only [cond_true, Option.bind_some]
    rw [e1, wnext hk' (by omega)]
    simp only [Option.bind_some, Option.bind_fun_some]
    rw [decide_eq_true (by unfold LIM; simp only [List.length_singleton]; omega)]
    rfl)
  rw [key, hlen, List.filter_eq_self.2 (fun _ _ => rfl)]
  show impl_Pattern_images_l1 _ _ _ _ _ _ _ _ _ _ _ _ _ _ _ _ _ = _
  rw [impl_Pattern_images_l1_eq, decide_eq_false (by omega)]
  rfl
theorem impl_images_v (p : Pat) (hp : isPat p = true) : impl_Pattern_images p = some (imgs2 (onLat p (fullOf p)) (pmats p.1)) := by
  have hq := isPat_onLat hp (isLat_fullOf hp)
  have hf : p.1 = 0 ∨ p.1 = 1 := isFrame_iff.1 (isPat_iff.1 hp).1
  have hz : Sv ((0 : Int), (0 : Int)) := by unfold Sv; simp
  rw [impl_Pattern_images_eq, impl_Pattern_lean_v p hp]
  simp only [Option.bind_some, impl_pointMats_v hf]
  have hms := pmats_len p.1
  generalize onLat p (fullOf p) = q at *
  have hlq := (isPat_iff.1 hq).2.1
  have key := loop_flat (L := fun s k => impl_Pattern_images_l0 s (pmats p.1) ((pmats p.1).length : Int) k q.1 q.2.1.1 q.2.1.2.1 q.2.1.2.2 q.2.2) (pmats p.1) (fun m => (cells (imgL m q.2.1)).map fun t => moved q m t) 64 (fun m hm => by rw [List.length_map]; exact (cells_len' (isLat_imgL hlq (pmats_pm hf hm)).1).2) (fun k hk s hs => by
    have hm : Pm (pmats p.1)[k] := pmats_pm hf (List.getElem_mem hk)
    have e1 : impl_Pattern_move (q.1, (q.2.1.1, q.2.1.2.1, q.2.1.2.2), q.2.2) (((pmats p.1)[k].1, (pmats p.1)[k].2.1, (pmats p.1)[k].2.2), 0, 0) = some (moved q (pmats p.1)[k] (0, 0)) := impl_Pattern_move_v q (0, 0) hq hm hz
    have e2 : impl_Lattice_cells (moved q (pmats p.1)[k] (0, 0)).2.1 = some (cells (imgL (pmats p.1)[k] q.2.1)) := impl_Lattice_cells_v _ (isLat_imgL hlq hm).1
    show impl_Pattern_images_l0 s (pmats p.1) ((pmats p.1).length : Int) (k : Int) q.1 q.2.1.1 q.2.1.2.1 q.2.1.2.2 q.2.2 = _
    rw [impl_Pattern_images_l0_eq, inb hk, decide_eq_true (by omega), gd hk, e1]
    simp only [cond_true, Option.bind_some]
    rw [e2]
    simp only [Option.bind_some]
    rw [impl_images_inner hq _ _ _ hm s (by omega)]
    simp only [Option.bind_some, Option.bind_fun_some]
    rw [wnext hk (by omega)])
  have key' : impl_Pattern_images_l0 [] (pmats p.1) ((pmats p.1).length : Int) 0 q.1 q.2.1.1 q.2.1.2.1 q.2.1.2.2 q.2.2 = impl_Pattern_images_l0 (imgs2 q (pmats p.1)) (pmats p.1) ((pmats p.1).length : Int) ((pmats p.1).length : Int) q.1 q.2.1.1 q.2.1.2.1 q.2.1.2.2 q.2.2 := key
  rw [key', impl_Pattern_images_l0_eq, decide_eq_false (by omega)]
  rfl
theorem flatM_le {α β : Type} (g : α → List β) (c : Nat) : ∀ (xs : List α), (∀ x ∈ xs, (g x).length ≤ c) → (xs.flatMap g).length ≤ c * xs.length
  | [], _ => by simp
  | x :: r, h => by
    have h1 := h x (List.mem_cons_self ..)
    have h2 := flatM_le g c r fun y hy => h y (List.mem_cons_of_mem _ hy)
    rw [List.flatMap_cons, List.length_append, List.length_cons, Nat.mul_add]
    omega
theorem imgs_ok {q : Pat} (hq : isPat q = true) {f : Int} (hf : f = 0 ∨ f = 1) : (imgs1 q (pmats f)).length ≤ 100000 ∧ (imgs2 q (pmats f)).length ≤ 100000 ∧ (∀ x ∈ imgs1 q (pmats f), isPat x = true) ∧ ∀ x ∈ imgs2 q (pmats f), isPat x = true := by
  have hlq := (isPat_iff.1 hq).2.1
  have hms := pmats_len f
  refine ⟨?_, ?_, fun x hx => ?_, fun x hx => ?_⟩
  · have := flatM_le (fun m => (cells q.2.1).map fun x => moved q m (mapp m x)) 64 (pmats f) (fun m _ => by rw [List.length_map]; exact (cells_len' hlq).2)
    unfold imgs1; omega
  · have := flatM_le (fun m => (cells (imgL m q.2.1)).map fun t => moved q m t) 64 (pmats f) (fun m hm => by rw [List.length_map]; exact (cells_len' (isLat_imgL hlq (pmats_pm hf hm)).1).2)
    unfold imgs2; omega
  · unfold imgs1 at hx
    simp only [List.mem_flatMap, List.mem_map] at hx
    obtain ⟨m, h1, y, _, rfl⟩ := hx
    exact isPat_moved hq (pmats_pm hf h1) _
  · unfold imgs2 at hx
    simp only [List.mem_flatMap, List.mem_map] at hx
    obtain ⟨m, h1, y, _, rfl⟩ := hx
    exact isPat_moved hq (pmats_pm hf h1) _
theorem cells_ne {l : Lat} (hl : isLat l = true) : cells l ≠ [] := by
  have := (cells_num hl (0, 0)).1
  intro h
  rw [h] at this
  simp at this
theorem unit_mem {f : Int} (hf : f = 0 ∨ f = 1) : m1 ∈ pmats f := by
  rw [mem_pmats hf]
  rcases hf with rfl | rfl <;> decide
theorem imgs_ne {q : Pat} (hq : isPat q = true) {f : Int} (hf : f = 0 ∨ f = 1) : imgs1 q (pmats f) ≠ [] ∧ imgs2 q (pmats f) ≠ [] := by
  have hlq := (isPat_iff.1 hq).2.1
  constructor
  · intro h
    obtain ⟨c, r, hc⟩ := List.exists_cons_of_ne_nil (cells_ne hlq)
    have : moved q m1 (mapp m1 c) ∈ imgs1 q (pmats f) := by
      unfold imgs1
      simp only [List.mem_flatMap, List.mem_map]
      exact ⟨m1, unit_mem hf, c, by rw [hc]; simp, rfl⟩
    rw [h] at this; simp at this
  · intro h
    obtain ⟨c, r, hc⟩ := List.exists_cons_of_ne_nil (cells_ne (isLat_imgL hlq pm_unit).1)
    have : moved q m1 c ∈ imgs2 q (pmats f) := by
      unfold imgs2
      simp only [List.mem_flatMap, List.mem_map]
      exact ⟨m1, unit_mem hf, c, by rw [hc]; simp, rfl⟩
    rw [h] at this; simp at this
def canonOf (p : Pat) : Pat := match imgs2 (onLat p (fullOf p)) (pmats p.1) with
  | x :: r => minP x r
  | [] => p
theorem canon_both (p : Pat) (hp : isPat p = true) : Option.bind (spec_l18Images p) spec_l18Least = some (canonOf p) ∧ impl_Pattern_canonical p = some (canonOf p) ∧ isPat (canonOf p) = true ∧ canonOf p ∈ imgs2 (onLat p (fullOf p)) (pmats p.1) ∧ ∀ x ∈ imgs2 (onLat p (fullOf p)) (pmats p.1), ltP x (canonOf p) = false := by
  have hq := isPat_onLat hp (isLat_fullOf hp)
  have hf : p.1 = 0 ∨ p.1 = 1 := isFrame_iff.1 (isPat_iff.1 hp).1
  obtain ⟨l1, l2, k1, k2⟩ := imgs_ok hq hf
  obtain ⟨n1, n2⟩ := imgs_ne hq hf
  have hmem := fun x => imgs_mem (x := x) hq (ms := pmats p.1) (fun m hm => pmats_pm hf hm)
  rw [spec_l18Images_v p hp, impl_Pattern_canonical_eq, impl_images_v p hp]
  unfold canonOf
  obtain ⟨x, r, hx⟩ := List.exists_cons_of_ne_nil n1
  obtain ⟨y, s, hy⟩ := List.exists_cons_of_ne_nil n2
  rw [hx] at l1 k1 hmem ⊢
  rw [hy] at l2 k2 hmem ⊢
  simp only [Option.bind_some, spec_l18Least_v x r l1 k1, impl_MinFunc_v y s l2 k2]
  have e : minP x r = minP y s := minP_eq (fun z hz => (hmem z).1 hz) (fun z hz => (hmem z).2 hz)
  rw [e]
  exact ⟨by simp, by simp, k2 _ (minP_mem s y), minP_mem s y, minP_le s y⟩
end Go.Proofs.YtckjefjkedlmbaaGreatDoor

namespace Go.Proofs.YtckjefjkedlmbaaGreatDoor
open Ai
set_option linter.unusedSimpArgs false
set_option linter.unusedVariables false
def mneg (m : Mat4) : Mat4 := (-m.1, -m.2.1, -m.2.2.1, -m.2.2.2)
def refls : List Mat4 := [(1, 0, 0, -1), (-1, 0, 0, 1), (0, 1, 1, 0), (0, -1, -1, 0), (1, 1, 0, -1), (-1, -1, 0, 1), (1, 0, -1, -1), (-1, 0, 1, 1)]
theorem refl_of {f : Int} (hf : f = 0 ∨ f = 1) {m : Mat4} (hm : m ∈ pmats f) (hd : mdet m ≠ 1) : m ∈ refls := by
  have key : ∀ f : Int, (f = 0 ∨ f = 1) → (pmats f).all (fun m => decide (mdet m = 1) || decide (m ∈ refls)) = true := by
    rintro f (rfl | rfl) <;> decide +kernel
  have := List.all_eq_true.1 (key f hf) m hm
  rw [Bool.or_eq_true, decide_eq_true_iff, decide_eq_true_iff] at this
  exact this.resolve_left hd
theorem refl_pm {m : Mat4} (hm : m ∈ refls) : Pm m := by
  have key : refls.all (fun m => decide (m ∈ pmats 0) || decide (m ∈ pmats 1)) = true := by decide +kernel
  have := List.all_eq_true.1 key m hm
  rw [Bool.or_eq_true, decide_eq_true_iff, decide_eq_true_iff] at this
  rcases this with h | h
  · exact pmB_pm (.inl rfl) ((mem_pmats (.inl rfl) _).1 h)
  · exact pmB_pm (.inr rfl) ((mem_pmats (.inr rfl) _).1 h)
def axT (m : Mat4) : V := if m = (1, 0, 0, -1) ∨ m = (1, 1, 0, -1) then (1, 0) else if m = (-1, 0, 0, 1) ∨ m = (-1, 0, 1, 1) then (0, 1) else if m = (0, 1, 1, 0) then (1, 1) else if m = (0, -1, -1, 0) then (1, -1) else if m = (-1, -1, 0, 1) then (1, -2) else (2, -1)
def alT (m : Mat4) : V := if m = (1, 0, 0, -1) then (2, 0) else if m = (-1, 0, 0, 1) then (0, 2) else if m = (0, 1, 1, 0) then (1, 1) else if m = (0, -1, -1, 0) then (1, -1) else if m = (1, 1, 0, -1) then (2, 1) else if m = (-1, -1, 0, 1) then (0, -1) else if m = (1, 0, -1, -1) then (1, 0) else (1, 2)
theorem wsm {x : Int} (h : x.natAbs ≤ 1000000) : IntKind.i64.wrap x = x := w64 (by omega) (by omega)
theorem order2 {m : Mat4} (hm : m ∈ refls) : impl_Mat_isReflection m = some true := by
  rw [impl_Mat_isReflection_eq, impl_Mat_det_eq, impl_Mat_order_eq]
  simp only [refls, List.mem_cons, List.mem_nil_iff, or_false] at hm
  rcases hm with rfl | rfl | rfl | rfl | rfl | rfl | rfl | rfl <;> simp [impl_unit_eq, impl_Mat_det_eq, wsm]
theorem axis_v {m : Mat4} (hm : m ∈ refls) : impl_Mat_axis m = some (axT m) := by
  have hr := order2 hm
  have hI : impl_IsMat m = some true := by
    rw [impl_IsMat_eq, impl_Mat_isSmall_eq]
    simp only [refls, List.mem_cons, List.mem_nil_iff, or_false] at hm
    rcases hm with rfl | rfl | rfl | rfl | rfl | rfl | rfl | rfl <;> simp [impl_isCoordinate_eq, impl_within_eq, impl_Mat_det_eq, wsm]
  rw [impl_Mat_axis_eq, impl_AxisOf_eq, hI, hr]
  simp only [refls, List.mem_cons, List.mem_nil_iff, or_false] at hm
  have e : ∀ a b : Int, a.natAbs ≤ 1000 → b.natAbs ≤ 1000 → impl_gcd a b = some (Int.gcd a b : Int) := fun a b ha hb => impl_gcd_v a b (by omega) (by omega)
  rcases hm with rfl | rfl | rfl | rfl | rfl | rfl | rfl | rfl <;> simp [e, wsm, impl_compareVecs_v, cmpV, cmpL, impl_limited_eq, impl_IsVec_eq, impl_isCoordinate_eq, impl_within_eq, impl_Vec_times_eq, axT, Int.gcd]
def Cs (v : V) : Prop := v.1.natAbs ≤ 1000 ∧ v.2.natAbs ≤ 1000
theorem Cs.ss {v : V} (h : Cs v) : Ss v := ⟨by have := h.1; omega, by have := h.2; omega⟩
theorem along_v {m : Mat4} (hm : m ∈ refls) {v : V} (hv : Cs v) : impl_alongAxis m v = some ((alT m).1 * v.1 + (alT m).2 * v.2) := by
  obtain ⟨x, y⟩ := v
  obtain ⟨h1, h2⟩ := hv
  simp only at h1 h2
  rw [impl_alongAxis_eq, impl_Mat_apply_v (refl_pm hm) (⟨by simp only; omega, by simp only; omega⟩ : Ss (x, y)), axis_v hm]
  simp only [refls, List.mem_cons, List.mem_nil_iff, or_false] at hm
  have t2 : Int.tdiv (2 * x) 2 = x := Int.mul_tdiv_cancel_left x (by decide)
  rcases hm with rfl | rfl | rfl | rfl | rfl | rfl | rfl | rfl <;>
    simp only [Option.bind_some, impl_Vec_add_v, mapp, axT, alT] <;>
    rw [wadd_v ⟨⟨by simp only; omega, by simp only; omega⟩, ⟨by simp only; omega, by simp only; omega⟩⟩ ⟨⟨by simp only; omega, by simp only; omega⟩, ⟨by simp only; omega, by simp only; omega⟩⟩] <;>
    simp [vadd]
  all_goals first
    | exact wsm (by omega)
    | (rw [wsm (by omega)]; omega)
    | (rw [show x + x = 2 * x by omega, t2, wsm (by omega)])
    | skip
theorem neg_v {m : Mat4} (hm : m ∈ refls) : impl_Mat_negative m = some (mneg m) ∧ mneg m ∈ refls := by
  rw [impl_Mat_negative_eq]
  simp only [refls, List.mem_cons, List.mem_nil_iff, or_false] at hm
  rcases hm with rfl | rfl | rfl | rfl | rfl | rfl | rfl | rfl <;> simp [wsm, mneg, refls]
theorem axT_small {m : Mat4} (hm : m ∈ refls) : (axT m).1.natAbs ≤ 2 ∧ (axT m).2.natAbs ≤ 2 := by
  have key : refls.all (fun m => decide ((axT m).1.natAbs ≤ 2 ∧ (axT m).2.natAbs ≤ 2)) = true := by decide +kernel
  exact of_decide_eq_true (List.all_eq_true.1 key m hm)
theorem alT_small {m : Mat4} (hm : m ∈ refls) : (alT m).1.natAbs ≤ 2 ∧ (alT m).2.natAbs ≤ 2 := by
  have key : refls.all (fun m => decide ((alT m).1.natAbs ≤ 2 ∧ (alT m).2.natAbs ≤ 2)) = true := by decide +kernel
  exact of_decide_eq_true (List.all_eq_true.1 key m hm)
/-! ### The least multiple in a lattice -/
theorem index_in {l : Lat} (a : V) : InL l (l.1 * l.2.2 * a.1, l.1 * l.2.2 * a.2) :=
  ⟨l.2.2 * a.1 - a.2 * l.2.1, l.1 * a.2, by simp only; grind, by simp only; grind⟩
/-! ### Shortest vectors -/
theorem around_inner (i : Int) : ∀ (d : Nat) (j : Int) (xs : List V), j + d = 13 → -12 ≤ j → xs.length + d ≤ 1000000 → ∃ ys, impl_vecsAround_l1 12 xs i j = some (12, ys, i) ∧ (∀ v ∈ ys, v ∈ xs ∨ (v.1 = i ∧ -12 ≤ v.2 ∧ v.2 ≤ 12)) ∧ ys.length = xs.length + d
  | 0, j, xs, hj, h0, hx => by
    rw [impl_vecsAround_l1_eq, decide_eq_false (by omega)]
    exact ⟨xs, rfl, fun v h => .inl h, rfl⟩
  | d + 1, j, xs, hj, h0, hx => by
    have hlen : (xs ++ [(i, j)]).length = xs.length + 1 := by rw [List.length_append]; rfl
    obtain ⟨ys, e, h1, h2⟩ := around_inner i d (j + 1) (xs ++ [(i, j)]) (by omega) (by omega) (by omega)
    rw [impl_vecsAround_l1_eq, decide_eq_true (by omega), decide_eq_true (p := xs.length + [(i, j)].length ≤ LIM) (by unfold LIM; simp only [List.length_singleton]; omega)]
    simp only [cond_true, Option.bind_fun_some]
    rw [w64 (by omega) (by omega), e]
    refine ⟨ys, rfl, fun v hv => ?_, by omega⟩
    rcases h1 v hv with h | h
    · rcases List.mem_append.1 h with h | h
      · exact .inl h
      · rw [List.mem_singleton] at h
        subst h
        exact .inr ⟨rfl, h0, by simp only; omega⟩
    · exact .inr h
theorem around_outer : ∀ (d : Nat) (i : Int) (xs : List V), i + d = 13 → -12 ≤ i → xs.length + 25 * d ≤ 1000000 → ∃ ys, impl_vecsAround_l0 12 xs i = some ys ∧ (∀ v ∈ ys, v ∈ xs ∨ ((-12 ≤ v.1 ∧ v.1 ≤ 12) ∧ -12 ≤ v.2 ∧ v.2 ≤ 12)) ∧ ys.length = xs.length + 25 * d
  | 0, i, xs, hi, h0, hx => by
    rw [impl_vecsAround_l0_eq, decide_eq_false (by omega)]
    exact ⟨xs, rfl, fun v h => .inl h, rfl⟩
  | d + 1, i, xs, hi, h0, hx => by
    obtain ⟨ys, e, h1, h2⟩ := around_inner i 25 (-12) xs (by omega) (by omega) (by omega)
    obtain ⟨zs, e2, h3, h4⟩ := around_outer d (i + 1) ys (by omega) (by omega) (by omega)
    rw [impl_vecsAround_l0_eq, decide_eq_true (by omega), show IntKind.i64.wrap (0 - 12) = -12 by decide, e]
    simp only [cond_true, Option.bind_some, Option.bind_fun_some]
    rw [w64 (by omega) (by omega), e2]
    refine ⟨zs, rfl, fun v hv => ?_, by omega⟩
    rcases h3 v hv with h | h
    · rcases h1 v h with h | ⟨h, h'⟩
      · exact .inl h
      · exact .inr ⟨by omega, h'⟩
    · exact .inr h
theorem around_v : ∃ ys, impl_vecsAround 12 = some ys ∧ (∀ v ∈ ys, (-12 ≤ v.1 ∧ v.1 ≤ 12) ∧ -12 ≤ v.2 ∧ v.2 ≤ 12) ∧ ys.length = 625 := by
  obtain ⟨ys, e, h1, h2⟩ := around_outer 25 (-12) [] (by omega) (by omega) (by simp)
  rw [impl_vecsAround_eq, show IntKind.i64.wrap (0 - 12) = -12 by decide, e]
  exact ⟨ys, rfl, fun v hv => (h1 v hv).resolve_left (by simp), by rw [h2]; rfl⟩
theorem short_loop {l : Lat} (hl : isLat l = true) (f : Int) {vs : List V} (hv : ∀ v ∈ vs, (-12 ≤ v.1 ∧ v.1 ≤ 12) ∧ -12 ≤ v.2 ∧ v.2 ≤ 12) (hn : vs.length = 625) : ∀ (d k : Nat) (xs : List V) (best : Int), k + d = 625 → xs.length ≤ k → ∃ ys, impl_shortestVecs_l0 f xs best vs (vs.length : Int) (k : Int) l.1 l.2.1 l.2.2 = some ys ∧ ys.length ≤ 625
  | 0, k, xs, best, hk, hx => by
    rw [impl_shortestVecs_l0_eq, decide_eq_false (by omega)]
    exact ⟨xs, rfl, by omega⟩
  | d + 1, k, xs, best, hk, hx => by
    have hlt : k < vs.length := by omega
    have hsm := hv _ (List.getElem_mem hlt)
    have ih := fun (zs : List V) (b : Int) (hz : zs.length ≤ k + 1) => short_loop hl f hv hn d (k + 1) zs b (by omega) hz
    rw [impl_shortestVecs_l0_eq, inb hlt, decide_eq_true (p := (k : Int) < (vs.length : Int)) (by omega)]
    simp only [gd hlt, cond_true, impl_norm_eq, Option.bind_some, Option.bind_fun_some]
    rw [show impl_Lattice_has (l.1, l.2.1, l.2.2) vs[k] = _ from impl_Lattice_has_v l _ hl ⟨⟨by omega, by omega⟩, ⟨by omega, by omega⟩⟩]
    simp only [Option.bind_some]
    rw [wnext hlt (by omega), decide_eq_true (p := [vs[k]].length ≤ LIM) (by unfold LIM; simp), decide_eq_true (p := xs.length + [vs[k]].length ≤ LIM) (by unfold LIM; simp only [List.length_singleton]; omega)]
    simp only [cond_true]
    have l1 : ([vs[k]] : List V).length ≤ k + 1 := by simp
    have l2 : (xs ++ [vs[k]]).length ≤ k + 1 := by rw [List.length_append]; simp only [List.length_singleton]; omega
    have tc : ∀ (b : Bool) (x y : Option (List V)), (∃ ys, x = some ys ∧ ys.length ≤ 625) → (∃ ys, y = some ys ∧ ys.length ≤ 625) → ∃ ys, cond b x y = some ys ∧ ys.length ≤ 625 := fun b x y hx hy => by
      cases b
      · exact hy
      · exact hx
    repeat first
      | exact ih _ _ (by omega)
      | exact ih _ _ l1
      | exact ih _ _ l2
      | refine tc _ _ _ ?_ ?_
theorem short_v {l : Lat} (hl : isLat l = true) (f : Int) : ∃ ys, impl_shortestVecs f l = some ys ∧ ys.length ≤ 625 := by
  obtain ⟨vs, e, h1, h2⟩ := around_v
  obtain ⟨ys, e2, h3⟩ := short_loop hl f h1 h2 625 0 [] 0 (by omega) (by simp)
  rw [impl_shortestVecs_eq, e]
  simp only [Option.bind_some]
  rw [show impl_shortestVecs_l0 f [] 0 vs (vs.length : Int) 0 l.1 l.2.1 l.2.2 = some ys from e2]
  exact ⟨ys, rfl, h3⟩
/-! ### Facts -/
theorem det_v {m : Mat4} (hm : Pm m) : impl_Mat_det m = some (mdet m) := by
  rw [impl_Mat_det_eq, wdet hm]
def Rt (r : Int) : Prop := r = 1 ∨ r = 2 ∨ r = 3 ∨ r = 4 ∨ r = 6
def rots : List Mat4 := [(1, 0, 0, 1), (-1, 0, 0, -1), (0, -1, 1, 0), (0, 1, -1, 0), (0, -1, 1, 1), (1, 1, -1, 0), (-1, -1, 1, 0), (0, 1, -1, -1)]
theorem rot_of {f : Int} (hf : f = 0 ∨ f = 1) {m : Mat4} (hm : m ∈ pmats f) (hd : mdet m = 1) : m ∈ rots := by
  have key : ∀ f : Int, (f = 0 ∨ f = 1) → (pmats f).all (fun m => !decide (mdet m = 1) || decide (m ∈ rots)) = true := by
    rintro f (rfl | rfl) <;> decide +kernel
  have := List.all_eq_true.1 (key f hf) m hm
  rw [Bool.or_eq_true, decide_eq_true hd, decide_eq_true_iff] at this
  exact this.resolve_left (by simp)
def Gd (G : List Mot) : Prop := ∀ g ∈ G, Pm g.1 ∧ Cs g.2 ∧ ((mdet g.1 = 1 ∧ g.1 ∈ rots) ∨ (mdet g.1 ≠ 1 ∧ g.1 ∈ refls))
end Go.Proofs.YtckjefjkedlmbaaGreatDoor

namespace Go.Proofs.YtckjefjkedlmbaaGreatDoor
open Ai
set_option linter.unusedSimpArgs false
set_option linter.unusedVariables false
theorem sIndex_in (xs : List (List UInt8)) (c : List UInt8) (hn : xs.length ≤ 1000) : ∀ (d k : Nat), k + d = xs.length → (c ∈ xs.drop k → ∃ i : Nat, slices_Index_Sstring_string_l0 xs c (xs.length : Int) (k : Int) = some (.inr (i : Int))) ∧ (¬ c ∈ xs.drop k → slices_Index_Sstring_string_l0 xs c (xs.length : Int) (k : Int) = some (.inl ()))
  | 0, k, hk => by
    rw [slices_Index_Sstring_string_l0_eq, decide_eq_false (by omega), List.drop_eq_nil_of_le (by omega)]
    exact ⟨fun h => by simp at h, fun _ => rfl⟩
  | d + 1, k, hk => by
    have hlt : k < xs.length := by omega
    obtain ⟨i1, i2⟩ := sIndex_in xs c hn d (k + 1) (by omega)
    rw [slices_Index_Sstring_string_l0_eq, decide_eq_true (by omega), rd_lt hlt, List.drop_eq_getElem_cons hlt]
    simp only [cond_true, Option.bind_some, Option.bind_fun_some]
    rw [wnext hlt (by omega)]
    by_cases e : c = xs[k]
    · rw [decide_eq_true e]
      exact ⟨fun _ => ⟨k, rfl⟩, fun h => (h (by rw [e]; exact List.mem_cons_self ..)).elim⟩
    · rw [decide_eq_false e, cond_false]
      exact ⟨fun h => i1 ((List.mem_cons.1 h).resolve_left e), fun h => i2 fun h2 => h (List.mem_cons_of_mem _ h2)⟩
theorem sContains_mem (xs : List (List UInt8)) (c : List UInt8) (hn : xs.length ≤ 1000) : slices_Contains_Sstring_string xs c = some (decide (c ∈ xs)) := by
  obtain ⟨i1, i2⟩ := sIndex_in xs c hn xs.length 0 (by omega)
  rw [List.drop_zero] at i1 i2
  rw [slices_Contains_Sstring_string_eq, slices_Index_Sstring_string_eq]
  by_cases h : c ∈ xs
  · obtain ⟨i, e⟩ := i1 h
    rw [show slices_Index_Sstring_string_l0 xs c (xs.length : Int) 0 = some (.inr (i : Int)) from e, decide_eq_true h]
    simp only [Option.bind_some]
    rw [decide_eq_true (by omega)]
    rfl
  · rw [show slices_Index_Sstring_string_l0 xs c (xs.length : Int) 0 = some (.inl ()) from i2 h, decide_eq_false h]
    rfl
theorem textE {r : Int} {n : Nat} (h : r = (n : Int)) (hn : n < 10) : impl_text r = some [UInt8.ofNat (48 + n)] := by
  rw [impl_text_eq, strconv_FormatInt_ext]
  unfold fmtX
  subst h
  rw [if_pos ⟨⟨by simp only; omega, by simp only; omega⟩, rfl⟩]
  show some (Go.Lib.decDigits (Int.toNat (n : Int))) = _
  rw [Int.toNat_natCast, Go.Lib.decDigits, dif_pos hn]
end Go.Proofs.YtckjefjkedlmbaaGreatDoor

namespace Go.Proofs.YtckjefjkedlmbaaGreatDoor
open Ai
set_option linter.unusedSimpArgs false
set_option linter.unusedVariables false
theorem divis_v {a b : Int} (ha : a.natAbs ≤ 1000000) (hb : b.natAbs ≤ 1000000) : spec_l01Divisor a b = some (Int.gcd a b : Int) := spec_l01Divisor_v (b.natAbs + 1) a b (by omega) (by omega) (by omega)
/-! ### Axes -/
theorem spec_axis_v {m : Mat4} (hm : m ∈ refls) : spec_l02Axis m = some (axT m) := by
  rw [spec_l02Axis_eq]
  have e : ∀ a b : Int, a.natAbs ≤ 1000 → b.natAbs ≤ 1000 → spec_l01Divisor a b = some (Int.gcd a b : Int) := fun a b ha hb => divis_v (by omega) (by omega)
  simp only [refls, List.mem_cons, List.mem_nil_iff, or_false] at hm
  rcases hm with rfl | rfl | rfl | rfl | rfl | rfl | rfl | rfl <;> simp [e, wsm, spec_l01Less_eq, spec_l01Scale_eq, axT, Int.gcd]
/-! ### The least multiple -/
def leastK (l : Lat) (a : V) : Nat → Nat → Nat
  | 0, k => k
  | d + 1, k => if red l ((k : Int) * a.1, (k : Int) * a.2) = (0, 0) then k else leastK l a d (k + 1)
theorem leastK_le (l : Lat) (a : V) : ∀ (d k : Nat), k ≤ leastK l a d k ∧ leastK l a d k ≤ k + d
  | 0, k => ⟨Nat.le_refl _, Nat.le_refl _⟩
  | d + 1, k => by
    unfold leastK
    split
    · omega
    · have := leastK_le l a d (k + 1)
      omega
def lmK (l : Lat) (a : V) : Nat := leastK l a ((l.1 * l.2.2).toNat - 1) 1
def lmV (l : Lat) (a : V) : V := ((lmK l a : Int) * a.1, (lmK l a : Int) * a.2)
theorem mul_loopE {l : Lat} (hl : isLat l = true) {a : V} (h1 : a.1.natAbs ≤ 2) (h2 : a.2.natAbs ≤ 2) (n : Nat) (hn : (n : Int) = l.1 * l.2.2) (hn2 : n ≤ 64) : ∀ (d k : Nat), k + d = n →
    impl_Lattice_multipleIn_l0 l.1 l.2.1 l.2.2 a.1 a.2 0 0 ((k : Int) * a.1) ((k : Int) * a.2) = some (0, 0, (leastK l a d k : Int) * a.1, (leastK l a d k : Int) * a.2) ∧
    spec_l11Invariant_l0 (k : Int) l.1 l.2.1 l.2.2 0 0 a.1 a.2 = some ((leastK l a d k : Int) * a.1, (leastK l a d k : Int) * a.2) := by
  have bnd : ∀ k : Nat, k ≤ 64 → ((k : Int) * a.1).natAbs ≤ 128 ∧ ((k : Int) * a.2).natAbs ≤ 128 := fun k hk => by
    rw [Int.natAbs_mul, Int.natAbs_mul, Int.natAbs_natCast]
    exact ⟨Nat.mul_le_mul hk h1, Nat.mul_le_mul hk h2⟩
  intro d
  induction d with
  | zero =>
    intro k hk
    have hk' : k = n := by omega
    subst hk'
    obtain ⟨b1, b2⟩ := bnd k hn2
    have hin := (inL_iff hl _).2 (index_in (l := l) a)
    have hsm : Sm ((k : Int) * a.1, (k : Int) * a.2) := ⟨⟨by simp only; omega, by simp only; omega⟩, ⟨by simp only; omega, by simp only; omega⟩⟩
    rw [← hn] at hin
    rw [impl_Lattice_multipleIn_l0_eq, show impl_Lattice_has (l.1, l.2.1, l.2.2) ((k : Int) * a.1, (k : Int) * a.2) = _ from impl_Lattice_has_v l _ hl hsm, hin, spec_l11Invariant_l0_eq, spec_l01Scale_eq]
    simp only [Option.bind_some]
    rw [wsm (by omega), wsm (by omega), show spec_l03Has (l.1, l.2.1, l.2.2) ((k : Int) * a.1, (k : Int) * a.2) = _ from spec_l03Has_v l _ hl hsm, hin]
    exact ⟨rfl, rfl⟩
  | succ d ih =>
    intro k hk
    obtain ⟨b1, b2⟩ := bnd k (by omega)
    have hsm : Sm ((k : Int) * a.1, (k : Int) * a.2) := ⟨⟨by simp only; omega, by simp only; omega⟩, ⟨by simp only; omega, by simp only; omega⟩⟩
    rw [impl_Lattice_multipleIn_l0_eq, show impl_Lattice_has (l.1, l.2.1, l.2.2) ((k : Int) * a.1, (k : Int) * a.2) = _ from impl_Lattice_has_v l _ hl hsm, spec_l11Invariant_l0_eq, spec_l01Scale_eq]
    simp only [Option.bind_some]
    rw [wsm (by omega), wsm (by omega), show spec_l03Has (l.1, l.2.1, l.2.2) ((k : Int) * a.1, (k : Int) * a.2) = _ from spec_l03Has_v l _ hl hsm]
    simp only [Option.bind_some]
    unfold leastK
    by_cases hr : red l ((k : Int) * a.1, (k : Int) * a.2) = (0, 0)
    · rw [decide_eq_true hr, if_pos hr]
      exact ⟨rfl, rfl⟩
    · rw [decide_eq_false hr, if_neg hr, cond_false, cond_false, impl_Vec_add_eq]
      simp only [Option.bind_some, Option.bind_fun_some]
      rw [wsm (by omega), wsm (by omega), w64 (x := (k : Int) + 1) (by omega) (by omega)]
      have e1 : (k : Int) * a.1 + a.1 = ((k + 1 : Nat) : Int) * a.1 := by rw [Int.natCast_add, Int.add_mul]; simp
      have e2 : (k : Int) * a.2 + a.2 = ((k + 1 : Nat) : Int) * a.2 := by rw [Int.natCast_add, Int.add_mul]; simp
      rw [e1, e2]
      exact ih (k + 1) (by omega)
theorem lm_v {l : Lat} (hl : isLat l = true) {a : V} (h1 : a.1.natAbs ≤ 2) (h2 : a.2.natAbs ≤ 2) : impl_Lattice_multipleIn l a = some (lmV l a) ∧ spec_l11Invariant_l0 1 l.1 l.2.1 l.2.2 0 0 a.1 a.2 = some (lmV l a) := by
  have hb := isLat_iff.1 hl
  have hp : 0 < l.1 * l.2.2 := Int.mul_pos (by omega) (by omega)
  obtain ⟨e, e'⟩ := mul_loopE hl h1 h2 (l.1 * l.2.2).toNat (by omega) (by omega) ((l.1 * l.2.2).toNat - 1) 1 (by omega)
  refine ⟨?_, e'⟩
  rw [impl_Lattice_multipleIn_eq]
  have e1 : ((1 : Nat) : Int) * a.1 = a.1 := by simp
  have e2 : ((1 : Nat) : Int) * a.2 = a.2 := by simp
  rw [e1, e2] at e
  rw [e]
  rfl
theorem lm_small {l : Lat} (hl : isLat l = true) {a : V} (h1 : a.1.natAbs ≤ 2) (h2 : a.2.natAbs ≤ 2) : (lmV l a).1.natAbs ≤ 128 ∧ (lmV l a).2.natAbs ≤ 128 ∧ 1 ≤ lmK l a ∧ lmK l a ≤ 64 := by
  have hb := isLat_iff.1 hl
  have hp : 0 < l.1 * l.2.2 := Int.mul_pos (by omega) (by omega)
  have := leastK_le l a ((l.1 * l.2.2).toNat - 1) 1
  have hk : lmK l a ≤ 64 := by unfold lmK; omega
  unfold lmV
  simp only [Int.natAbs_mul, Int.natAbs_natCast]
  exact ⟨Nat.mul_le_mul hk h1, Nat.mul_le_mul hk h2, by unfold lmK; omega, hk⟩
theorem spec_inv_v {l : Lat} (hl : isLat l = true) {m : Mat4} (hm : m ∈ refls) : spec_l11Invariant l m 1 = some (lmV l (axT m)) ∧ spec_l11Invariant l m (-1) = some (lmV l (axT (mneg m))) := by
  obtain ⟨_, n2⟩ := neg_v hm
  obtain ⟨a1, a2⟩ := axT_small hm
  obtain ⟨b1, b2⟩ := axT_small n2
  have p := refl_pm hm
  have u1 := p.a; have u2 := p.b; have u3 := p.c; have u4 := p.d
  unfold Unit1 at u1 u2 u3 u4
  constructor
  · rw [spec_l11Invariant_eq, Int.one_mul, Int.one_mul, Int.one_mul, Int.one_mul, wsm (by omega), wsm (by omega), wsm (by omega), wsm (by omega), show spec_l02Axis (m.1, m.2.1, m.2.2.1, m.2.2.2) = _ from spec_axis_v hm]
    simp only [Option.bind_some, (lm_v hl a1 a2).2]
  · rw [spec_l11Invariant_eq, Int.neg_mul, Int.neg_mul, Int.neg_mul, Int.neg_mul, Int.one_mul, Int.one_mul, Int.one_mul, Int.one_mul, wsm (by omega), wsm (by omega), wsm (by omega), wsm (by omega), show spec_l02Axis (-m.1, -m.2.1, -m.2.2.1, -m.2.2.2) = some (axT (mneg m)) from spec_axis_v n2]
    simp only [Option.bind_some, (lm_v hl b1 b2).2]
def vdet (u v : V) : Int := u.1 * v.2 - u.2 * v.1
def centB (l : Lat) (m : Mat4) : Bool := !decide (max (vdet (lmV l (axT m)) (lmV l (axT (mneg m)))) (0 - vdet (lmV l (axT m)) (lmV l (axT (mneg m)))) = l.1 * l.2.2)
theorem cent_v {l : Lat} (hl : isLat l = true) {m : Mat4} (hm : m ∈ refls) : impl_Lattice_isCentred l m = some (centB l m) ∧ spec_l11Centred l m = some (centB l m) := by
  obtain ⟨n1, n2⟩ := neg_v hm
  obtain ⟨a1, a2⟩ := axT_small hm
  obtain ⟨b1, b2⟩ := axT_small n2
  obtain ⟨s1, s2⟩ := spec_inv_v hl hm
  obtain ⟨q1, q2, _⟩ := lm_small hl a1 a2
  obtain ⟨r1, r2, _⟩ := lm_small hl b1 b2
  have hb := isLat_iff.1 hl
  have p1 : ((lmV l (axT m)).1 * (lmV l (axT (mneg m))).2).natAbs ≤ 16384 := by rw [Int.natAbs_mul]; exact Nat.mul_le_mul q1 r2
  have p2 : ((lmV l (axT m)).2 * (lmV l (axT (mneg m))).1).natAbs ≤ 16384 := by rw [Int.natAbs_mul]; exact Nat.mul_le_mul q2 r1
  have hp : 0 < l.1 * l.2.2 := Int.mul_pos (by omega) (by omega)
  unfold centB vdet
  rw [impl_Lattice_isCentred_eq, axis_v hm, spec_l11Centred_eq, s1, s2]
  simp only [Option.bind_some, (lm_v hl a1 a2).1, n1, axis_v n2, (lm_v hl b1 b2).1, impl_det_eq, spec_l01Det_eq, impl_Lattice_index_eq]
  rw [wsm (x := (lmV l (axT m)).1 * (lmV l (axT (mneg m))).2) (by omega), wsm (x := (lmV l (axT m)).2 * (lmV l (axT (mneg m))).1) (by omega), wsm (x := (lmV l (axT m)).1 * (lmV l (axT (mneg m))).2 - (lmV l (axT m)).2 * (lmV l (axT (mneg m))).1) (by omega), wsm (x := 0 - ((lmV l (axT m)).1 * (lmV l (axT (mneg m))).2 - (lmV l (axT m)).2 * (lmV l (axT (mneg m))).1)) (by omega), wsm (x := l.1 * l.2.2) (by omega)]
  generalize (!decide (max ((lmV l (axT m)).1 * (lmV l (axT (mneg m))).2 - (lmV l (axT m)).2 * (lmV l (axT (mneg m))).1) (0 - ((lmV l (axT m)).1 * (lmV l (axT (mneg m))).2 - (lmV l (axT m)).2 * (lmV l (axT (mneg m))).1)) = l.1 * l.2.2)) = b
  cases b <;> exact ⟨rfl, rfl⟩
end Go.Proofs.YtckjefjkedlmbaaGreatDoor

namespace Go.Proofs.YtckjefjkedlmbaaGreatDoor
open Ai
set_option linter.unusedSimpArgs false
set_option linter.unusedVariables false
def hasF (l : Lat) (v : V) : Bool := decide (v.2 % l.2.2 = 0) && decide ((v.1 - v.2 / l.2.2 * l.2.1) % l.1 = 0)
theorem hasF_iff {l : Lat} (hl : isLat l = true) (v : V) : hasF l v = true ↔ red l v = (0, 0) := by
  have hb := isLat_iff.1 hl
  rw [inL_iff hl]
  unfold hasF
  rw [Bool.and_eq_true, decide_eq_true_iff, decide_eq_true_iff]
  constructor
  · rintro ⟨h1, h2⟩
    have e1 := Int.emod_add_mul_ediv v.2 l.2.2
    have e2 := Int.emod_add_mul_ediv (v.1 - v.2 / l.2.2 * l.2.1) l.1
    rw [h1, Int.zero_add] at e1
    rw [h2, Int.zero_add] at e2
    refine ⟨(v.1 - v.2 / l.2.2 * l.2.1) / l.1, v.2 / l.2.2, ?_, ?_⟩
    · rw [Int.mul_comm _ l.1]; omega
    · rw [Int.mul_comm]; omega
  · rintro ⟨i, j, h1, h2⟩
    have hc : l.2.2 ≠ 0 := by omega
    have e : v.2 / l.2.2 = j := by rw [h2]; exact Int.mul_ediv_cancel j hc
    refine ⟨by rw [h2]; exact Int.mul_emod_left .., ?_⟩
    rw [e, h1, show i * l.1 + j * l.2.1 - j * l.2.1 = i * l.1 by omega]
    exact Int.mul_emod_left ..
def leastF (l : Lat) (a : V) : Nat → Nat → Nat
  | 0, k => k
  | d + 1, k => cond (hasF l ((k : Int) * a.1, (k : Int) * a.2)) k (leastF l a d (k + 1))
theorem leastF_eq {l : Lat} (hl : isLat l = true) (a : V) : ∀ d k, leastF l a d k = leastK l a d k
  | 0, k => rfl
  | d + 1, k => by
    unfold leastF leastK
    have h := hasF_iff hl ((k : Int) * a.1, (k : Int) * a.2)
    by_cases e : red l ((k : Int) * a.1, (k : Int) * a.2) = (0, 0)
    · rw [if_pos e, h.2 e]; rfl
    · rw [if_neg e, leastF_eq hl a d (k + 1)]
      cases hh : hasF l ((k : Int) * a.1, (k : Int) * a.2) with
      | false => rfl
      | true => exact (e (h.1 hh)).elim
def checkF (l : Lat) (m : Mat4) : Bool :=
  !(hasF l (mapp m (l.1, 0)) && hasF l (mapp m l.2)) ||
    (let a := axT m
     let b := axT (mneg m)
     let n := (l.1 * l.2.2).toNat - 1
     let k := leastF l a n 1
     let j := leastF l b n 1
     let u : V := ((k : Int) * a.1, (k : Int) * a.2)
     let v : V := ((j : Int) * b.1, (j : Int) * b.2)
     let c := !decide (max (vdet u v) (0 - vdet u v) = l.1 * l.2.2)
     Nat.beq (Int.gcd ((alT m).1 * l.1) ((alT m).1 * l.2.1 + (alT m).2 * l.2.2)) (cond c k (2 * k)))
theorem check_all : ((List.range 64).all fun a => (List.range (64 / (a + 1))).all fun c => (List.range (a + 1)).all fun b => refls.all fun m => checkF (((a + 1 : Nat) : Int), ((b : Nat) : Int), ((c + 1 : Nat) : Int)) m) = true := by decide +kernel
theorem check_v {l : Lat} (hl : isLat l = true) {m : Mat4} (hm : m ∈ refls) : checkF l m = true := by
  have hb := isLat_iff.1 hl
  have h1 := List.all_eq_true.1 check_all (l.1.toNat - 1) (List.mem_range.2 (by omega))
  have hc : l.2.2.toNat ≤ 64 / l.1.toNat := by
    rw [Nat.le_div_iff_mul_le (by omega)]
    have : ((l.2.2.toNat * l.1.toNat : Nat) : Int) = l.1 * l.2.2 := by
      rw [Int.natCast_mul, Int.toNat_of_nonneg (by omega), Int.toNat_of_nonneg (by omega), Int.mul_comm]
    omega
  have ea : l.1.toNat - 1 + 1 = l.1.toNat := by omega
  simp only [ea] at h1
  have h2 := List.all_eq_true.1 h1 (l.2.2.toNat - 1) (List.mem_range.2 (by omega))
  have h3 := List.all_eq_true.1 h2 l.2.1.toNat (List.mem_range.2 (by omega))
  have h4 := List.all_eq_true.1 h3 m hm
  have ec : l.2.2.toNat - 1 + 1 = l.2.2.toNat := by omega
  rw [ec, Int.toNat_of_nonneg (by omega), Int.toNat_of_nonneg (by omega), Int.toNat_of_nonneg (by omega)] at h4
  exact h4
theorem gcd_cent {l : Lat} (hl : isLat l = true) {m : Mat4} (hm : m ∈ refls) (hst : stB l m = true) : Int.gcd ((alT m).1 * l.1) ((alT m).1 * l.2.1 + (alT m).2 * l.2.2) = if centB l m = true then lmK l (axT m) else 2 * lmK l (axT m) := by
  have h := check_v hl hm
  unfold checkF at h
  unfold stB at hst
  rw [Bool.and_eq_true, decide_eq_true_iff, decide_eq_true_iff, ← hasF_iff hl, ← hasF_iff hl] at hst
  rw [hst.1, hst.2] at h
  simp only [Bool.and_self, Bool.not_true, Bool.false_or, leastF_eq hl] at h
  have h' := Nat.eq_of_beq_eq_true h
  rw [h']
  show cond (centB l m) _ _ = _
  cases centB l m <;> rfl
end Go.Proofs.YtckjefjkedlmbaaGreatDoor

namespace Go.Proofs.YtckjefjkedlmbaaGreatDoor
open Ai
set_option linter.unusedSimpArgs false
set_option linter.unusedVariables false
theorem axT_prim {m : Mat4} (hm : m ∈ refls) : Int.gcd (axT m).1 (axT m).2 = 1 := by
  have key : refls.all (fun m => decide (Int.gcd (axT m).1 (axT m).2 = 1)) = true := by decide +kernel
  exact of_decide_eq_true (List.all_eq_true.1 key m hm)
def alV (m : Mat4) (v : V) : Int := (alT m).1 * v.1 + (alT m).2 * v.2
theorem twice_eq {m : Mat4} (hm : m ∈ refls) (v : V) : vadd (mapp m v) v = (alV m v * (axT m).1, alV m v * (axT m).2) := by
  obtain ⟨x, y⟩ := v
  simp only [refls, List.mem_cons, List.mem_nil_iff, or_false] at hm
  rcases hm with rfl | rfl | rfl | rfl | rfl | rfl | rfl | rfl <;> simp [vadd, mapp, alV, axT, alT] <;> omega
theorem alV_small {m : Mat4} (hm : m ∈ refls) {v : V} (hv : Cs v) : (alV m v).natAbs ≤ 4000 := by
  obtain ⟨s1, s2⟩ := alT_small hm
  obtain ⟨h1, h2⟩ := hv
  have p1 : ((alT m).1 * v.1).natAbs ≤ 2000 := by rw [Int.natAbs_mul]; exact Nat.mul_le_mul s1 h1
  have p2 : ((alT m).2 * v.2).natAbs ≤ 2000 := by rw [Int.natAbs_mul]; exact Nat.mul_le_mul s2 h2
  unfold alV
  omega
theorem spec_twice_v {g : Mot} (hm : g.1 ∈ refls) (hv : Cs g.2) : spec_l05Twice g = some (alV g.1 g.2 * (axT g.1).1, alV g.1 g.2 * (axT g.1).2) := by
  have hm1 : Sm (mapp g.1 g.2) := mapp_sm (refl_pm hm) ⟨by have := hv.1; omega, by have := hv.2; omega⟩
  have hm2 : Sm g.2 := ⟨⟨by have := hv.1; omega, by have := hv.1; omega⟩, ⟨by have := hv.2; omega, by have := hv.2; omega⟩⟩
  rw [spec_l05Twice_eq, spec_l02Apply_v (refl_pm hm) hv.ss]
  simp only [Option.bind_some, spec_l01Add_v]
  rw [wadd_v hm1 hm2, twice_eq hm]
theorem zero_test (x : Int) (d : Nat) : decide (((x.natAbs : Nat) : Int) % (d : Int) = 0) = decide (Int.tmod x (d : Int) = 0) := by
  rw [Bool.eq_iff_iff, decide_eq_true_iff, decide_eq_true_iff]
  have h1 : (Int.tmod x (d : Int)).natAbs = x.natAbs % d := by rw [Int.natAbs_tmod, Int.natAbs_natCast]
  have h2 : ((x.natAbs : Nat) : Int) % (d : Int) = ((x.natAbs % d : Nat) : Int) := by rw [Int.natCast_emod]
  omega
def reflB (l : Lat) (g : Mot) : Bool := decide (Int.tmod (alV g.1 g.2) ((if centB l g.1 = true then lmK l (axT g.1) else 2 * lmK l (axT g.1) : Nat) : Int) = 0)
theorem reflects_v {l : Lat} (hl : isLat l = true) {g : Mot} (hm : g.1 ∈ refls) (ht : Cs g.2) (hst : stB l g.1 = true) : impl_Lattice_mayReflect l g = some (reflB l g) ∧ spec_l11Reflects l g = some (reflB l g) := by
  have hb := isLat_iff.1 hl
  have hu : Cs (l.1, 0) := by unfold Cs; simp only; omega
  have hv : Cs l.2 := by unfold Cs; omega
  obtain ⟨s1, s2⟩ := alT_small hm
  obtain ⟨a1, a2⟩ := axT_small hm
  obtain ⟨q1, q2, q3, q4⟩ := lm_small hl a1 a2
  have p1 : ((alT g.1).1 * l.1).natAbs ≤ 128 := by rw [Int.natAbs_mul]; exact Nat.mul_le_mul s1 (show l.1.natAbs ≤ 64 by omega)
  have p2 : ((alT g.1).1 * l.2.1).natAbs ≤ 128 := by rw [Int.natAbs_mul]; exact Nat.mul_le_mul s1 (show l.2.1.natAbs ≤ 64 by omega)
  have p3 : ((alT g.1).2 * l.2.2).natAbs ≤ 128 := by rw [Int.natAbs_mul]; exact Nat.mul_le_mul s2 (show l.2.2.natAbs ≤ 64 by omega)
  have hal := alV_small hm ht
  have t1 : (alV g.1 g.2 * (axT g.1).1).natAbs ≤ 8000 := by rw [Int.natAbs_mul]; exact Nat.mul_le_mul hal a1
  have t2 : (alV g.1 g.2 * (axT g.1).2).natAbs ≤ 8000 := by rw [Int.natAbs_mul]; exact Nat.mul_le_mul hal a2
  have hg := gcd_cent hl hm hst
  have d1 : Int.gcd (lmV l (axT g.1)).1 (lmV l (axT g.1)).2 = lmK l (axT g.1) := by
    unfold lmV; simp only; rw [Int.gcd_mul_left, axT_prim hm, Int.natAbs_natCast]; omega
  have d2 : Int.gcd (2 * (lmV l (axT g.1)).1) (2 * (lmV l (axT g.1)).2) = 2 * lmK l (axT g.1) := by
    rw [Int.gcd_mul_left, d1]; rfl
  have d3 : Int.gcd (alV g.1 g.2 * (axT g.1).1) (alV g.1 g.2 * (axT g.1).2) = (alV g.1 g.2).natAbs := by
    rw [Int.gcd_mul_left, axT_prim hm]; omega
  unfold reflB
  constructor
  · rw [impl_Lattice_mayReflect_eq, order2 hm, impl_Lattice_basis_eq]
    simp only [Option.bind_some, cond_true, along_v hm ht, along_v hm hu, along_v hm hv, Int.mul_zero, Int.add_zero]
    rw [impl_gcd_v _ _ (by omega) (by omega), hg]
    have hne : ¬ ((if centB l g.1 = true then lmK l (axT g.1) else 2 * lmK l (axT g.1) : Nat) : Int) = 0 := by split <;> omega
    simp only [Option.bind_some, decide_eq_false hne, cond_false]
    show cond (decide (Int.tmod (alV g.1 g.2) _ = 0)) _ _ = _
    cases decide (Int.tmod (alV g.1 g.2) ((if centB l g.1 = true then lmK l (axT g.1) else 2 * lmK l (axT g.1) : Nat) : Int) = 0) <;> rfl
  · rw [spec_l11Reflects_eq, (spec_inv_v hl hm).1, (cent_v hl hm).2]
    simp only [Option.bind_some, spec_twice_v hm ht]
    cases hc : centB l g.1
    · rw [cond_false, spec_l01Scale_eq]
      simp only [Option.bind_some]
      rw [wsm (x := 2 * (lmV l (axT g.1)).1) (by omega), wsm (x := 2 * (lmV l (axT g.1)).2) (by omega), divis_v (by omega) (by omega), divis_v (by omega) (by omega), d2, d3]
      simp only [Option.bind_some, Bool.false_eq_true, if_false]
      rw [spec_l01Mod_v _ _ (by omega) (by omega)]
      simp only [Option.bind_some]
      rw [zero_test]
      cases decide (Int.tmod (alV g.1 g.2) ((2 * lmK l (axT g.1) : Nat) : Int) = 0) <;> rfl
    · rw [cond_true, divis_v (by omega) (by omega), divis_v (by omega) (by omega), d1, d3]
      simp only [Option.bind_some, if_true]
      rw [spec_l01Mod_v _ _ (by omega) (by omega)]
      simp only [Option.bind_some]
      rw [zero_test]
      cases decide (Int.tmod (alV g.1 g.2) ((lmK l (axT g.1) : Nat) : Int) = 0) <;> rfl
end Go.Proofs.YtckjefjkedlmbaaGreatDoor
