/-
  Plain meanings: the matrices that map a lattice to itself; suitable motions.
-/
import Derived.Test.YtpboclokodgnlaaGreatP23
import Derived.Test.YtpboclokodgnlaaGreatPM
namespace Go.Proofs.YtpboclokodgnlaaGreat
open Pre Ai
set_option linter.unusedSimpArgs false
set_option linter.unusedVariables false
set_option linter.unnecessarySimpa false
def stB (l : Lat) (m : Mat4) : Bool := decide (red l (mapp m (l.1, 0)) = (0, 0)) && decide (red l (mapp m l.2) = (0, 0))
def stableL (f : Int) (l : Lat) : List Mat4 := (pmats f).filter (stB l)
theorem mapp_sm {m : Mat4} (hm : Pm m) {v : V} (hv : Sv v) : Sm (mapp m v) := by
  have := mapp_lim hm v
  unfold Sv at hv
  unfold Sm
  omega
theorem lat_sv {l : Lat} (h : isLat l = true) : Sv (l.1, 0) ∧ Sv l.2 := by
  obtain ⟨⟨a1, a2⟩, ⟨c1, c2⟩, ⟨b1, b2⟩, _⟩ := isLat_iff.1 h
  unfold Sv
  dsimp only
  omega
theorem impl_latticeMats_1_v {l : Lat} (hl : isLat l = true) {m : Mat4} (hm : Pm m) : impl_latticeMats_1 m l (l.1, 0) l.2 = some (!stB l m) := by
  rw [impl_latticeMats_1_eq, impl_Mat_apply_v hm (lat_ss hl).1, impl_Mat_apply_v hm (lat_ss hl).2]
  simp only [Option.bind_some]
  rw [impl_Lattice_has_v l _ hl (mapp_sm hm (lat_sv hl).1), impl_Lattice_has_v l _ hl (mapp_sm hm (lat_sv hl).2)]
  unfold stB
  cases decide (red l (mapp m (l.1, 0)) = (0, 0)) <;> cases decide (red l (mapp m l.2) = (0, 0)) <;> rfl
theorem impl_del_mats {f : Int} (hf : f = 0 ∨ f = 1) {l : Lat} (hl : isLat l = true) : slices_DeleteFunc_SMat_Mat_o__impl_latticeMats_1 (pmats f) (l, (l.1, 0), l.2) = some (stableL f l) := by
  have hn := pmats_len f
  have hpm : ∀ m ∈ pmats f, Pm m := fun m hm => pmB_pm hf ((mem_pmats hf m).1 hm)
  have hidx : slices_IndexFunc_SMat_Mat__impl_latticeMats_1 (pmats f) (l, (l.1, 0), l.2) = some (match (pmats f).findIdx? (fun x => !stB l x) with | none => -1 | some i => (i : Int)) := by
    rw [slices_IndexFunc_SMat_Mat__impl_latticeMats_1_eq]
    have := find_loop (L := fun k => slices_IndexFunc_SMat_Mat__impl_latticeMats_1_l0 (pmats f) (l, (l.1, 0), l.2) ((pmats f).length : Int) k) (xs := pmats f) (p := fun x => !stB l x) (good := .inl ()) (bad := fun i => .inr (i : Int)) (by unfold MAXN; omega) (fun k hk => by
      show slices_IndexFunc_SMat_Mat__impl_latticeMats_1_l0 (pmats f) _ _ k = _
      rw [slices_IndexFunc_SMat_Mat__impl_latticeMats_1_l0_eq, decide_eq_true (by omega), rd_lt hk]
      simp only [cond_true, Option.bind_some, Option.bind_fun_some]
      rw [impl_latticeMats_1_v hl (hpm _ (List.getElem_mem hk))]
      simp only [Option.bind_some]
      cases stB l (pmats f)[k] <;> rfl) (by
      show slices_IndexFunc_SMat_Mat__impl_latticeMats_1_l0 (pmats f) _ _ _ = _
      rw [slices_IndexFunc_SMat_Mat__impl_latticeMats_1_l0_eq, decide_eq_false (by omega)]; rfl)
    rw [this]
    cases (pmats f).findIdx? (fun x => !stB l x) <;> rfl
  rw [slices_DeleteFunc_SMat_Mat_o__impl_latticeMats_1_eq, hidx]
  cases hfi : (pmats f).findIdx? (fun x => !stB l x) with
  | none =>
    simp only [Option.bind_some, decide_true, cond_true]
    congr 1
    symm
    unfold stableL
    rw [List.filter_eq_self]
    intro a ha
    rw [List.findIdx?_eq_none_iff] at hfi
    simpa using hfi a ha
  | some i =>
    obtain ⟨hi, ht⟩ := first_out (pmats f) (stB l) hfi
    simp only [Option.bind_some]
    rw [decide_eq_false (by omega), wN (by omega)]
    simp only [cond_false]
    obtain ⟨s', i', e1, e2, e3, e4⟩ := del_loop (L := fun s i j => slices_DeleteFunc_SMat_Mat_o__impl_latticeMats_1_l0 s (l, (l.1, 0), l.2) i j) (pmats f) (stB l) (fun s i j hj hx hsl hij he => by
      show slices_DeleteFunc_SMat_Mat_o__impl_latticeMats_1_l0 s (l, (l.1, 0), l.2) (i : Int) (j : Int) = _
      have hq : impl_latticeMats_1 ((pmats f)[j].1, (pmats f)[j].2.1, (pmats f)[j].2.2) l (l.1, 0) l.2 = some (!stB l (pmats f)[j]) := impl_latticeMats_1_v hl (hpm _ (List.getElem_mem hx))
      rw [slices_DeleteFunc_SMat_Mat_o__impl_latticeMats_1_l0_eq, inb hj, decide_eq_true (by omega), gd hj, he]
      simp only [cond_true, Option.bind_fun_some]
      rw [hq, wN (by omega), wN (by omega), decide_eq_true (by omega), decide_eq_true (by omega)]
      simp only [Option.bind_some, Bool.and_true, cond_true, Int.toNat_natCast]
      cases stB l (pmats f)[j] <;> rfl) ((pmats f).length - (i + 1)) (i + 1) (pmats f) i (by omega) rfl (by omega) rfl ht.symm
    have e1' : slices_DeleteFunc_SMat_Mat_o__impl_latticeMats_1_l0 (pmats f) (l, (l.1, 0), l.2) (i : Int) ((i + 1 : Nat) : Int) = slices_DeleteFunc_SMat_Mat_o__impl_latticeMats_1_l0 s' (l, (l.1, 0), l.2) (i' : Int) ((pmats f).length : Int) := e1
    rw [e1', slices_DeleteFunc_SMat_Mat_o__impl_latticeMats_1_l0_eq, decide_eq_false (by omega)]
    simp only [cond_false, Option.bind_some, Int.toNat_natCast]
    have hol : (overL s' (List.replicate (s'.length - i') ((0, 0, 0, 0) : Int × Int × Int × Int)) i').length = s'.length := by
      unfold overL
      simp
      omega
    rw [decide_eq_true (show (0 : Int) ≤ (i' : Int) by omega), decide_eq_true (show (i' : Int) ≤ (s'.length : Int) by omega), decide_eq_true (by rw [hol]; omega)]
    simp only [Bool.and_true, cond_true]
    rw [cut_over _ _ _ (by omega), e4]
    rfl
theorem impl_latticeMats_v {f : Int} (hf : f = 0 ∨ f = 1) {l : Lat} (hl : isLat l = true) : impl_latticeMats f l = some (stableL f l) := by
  rw [impl_latticeMats_eq, impl_Lattice_basis_eq, impl_pointMats_v hf]
  simp only [Option.bind_some, impl_del_mats hf hl]
theorem stB_iff {l : Lat} (hl : isLat l = true) {m : Mat4} (hm : Pm m) : decide (imgL m l = l) = stB l m := by
  unfold stB
  rw [← Bool.decide_and, decide_eq_decide]
  exact stable_iff hl hm
theorem lat_beq (y l : Lat) : (decide (y.1 = l.1) && (decide (y.2.1 = l.2.1) && (decide (y.2.2 = l.2.2) && true))) = decide (y = l) := by
  obtain ⟨a, b, c⟩ := y
  obtain ⟨a', b', c'⟩ := l
  simp only [Prod.mk.injEq, Bool.and_true, ← Bool.decide_and]
def suitB (f : Int) (l : Lat) (m : Mot) : Bool := isVec m.2 && (pmB f m.1 && stB l m.1)
theorem spec_IsSuitable_v {f : Int} (hf : isFrame f = true) {l : Lat} (hl : isLat l = true) (m : Mot) : spec_IsSuitable f l m = some (suitB f l m) := by
  rw [spec_IsSuitable_eq, spec_l04Code_v, spec_IsPointMat_v]
  have hf' := isFrame_iff.1 hf
  unfold suitB isPm
  rw [hf, hl]
  simp only [Bool.and_self, if_true, Option.bind_some, decide_true, cond_true, Bool.true_and]
  cases hp : pmB f m.1
  · cases isVec m.2 <;> rfl
  · have hpm := pmB_pm hf' hp
    simp only [cond_true, spec_l04Image_v hl hpm, Option.bind_some]
    rw [lat_beq (imgL m.1 l) l, stB_iff hl hpm, spec_IsVec_v]
    cases stB l m.1 <;> cases isVec m.2 <;> rfl
def keptM (q : Pat) (m : Mat4) : List Mot := ((cells q.2.1).map fun t => (m, t)).filter (keepsB q)
def groupG (q : Pat) : List Mot := (stableL q.1 q.2.1).flatMap (keptM q)
theorem stable_pm {f : Int} (hf : f = 0 ∨ f = 1) {l : Lat} {m : Mat4} (hm : m ∈ stableL f l) : Pm m := by
  unfold stableL at hm
  exact pmB_pm hf ((mem_pmats hf m).1 (List.mem_filter.1 hm).1)
theorem stable_len (f : Int) (l : Lat) : (stableL f l).length ≤ 81 := Nat.le_trans (List.length_filter_le (stB l) (pmats f)) (pmats_len f)
theorem keptM_len {q : Pat} (hq : isPat q = true) (m : Mat4) : (keptM q m).length ≤ 64 := by
  have h2 := (cells_len' (isPat_iff.1 hq).2.1).2
  unfold keptM
  exact Nat.le_trans (List.length_filter_le ..) (by rw [List.length_map]; exact h2)
theorem keeps_sm {q : Pat} (hq : isPat q = true) {m : Mat4} (hm : Pm m) {t : V} (ht : Ss t) : ∀ v ∈ cells q.2.1, Sm (wap (m, t) v) := fun v hv => (wap_pm hm (cells_ss (isPat_iff.1 hq).2.1 hv) ht).2
theorem group_len {q : Pat} (hq : isPat q = true) : (groupG q).length ≤ 5184 := by
  have h1 := flat_len_le (keptM q) 64 (stableL q.1 q.2.1) (fun m _ => keptM_len hq m)
  have h2 := stable_len q.1 q.2.1
  unfold groupG
  omega
theorem suit_sm {q : Pat} (hq : isPat q = true) {m : Mot} (hm : suitB q.1 q.2.1 m = true) : ∀ v ∈ cells q.2.1, Sm (wap m v) := by
  have hf := isFrame_iff.1 (isPat_iff.1 hq).1
  unfold suitB at hm
  simp only [Bool.and_eq_true] at hm
  intro v hv
  exact (wap_pm (pmB_pm hf hm.2.1) (cells_ss (isPat_iff.1 hq).2.1 hv) (isVec_ss hm.1)).2
def sameP (p q : Pat) : Bool := decide (p.1 = q.1) && decide (p.2.1 = q.2.1) && decide (p.2.2 = q.2.2)
def hitM (a b : Pat) (m : Mat4) : Option Mot := ((cells b.2.1).find? fun t => sameP (moved a m t) b).map fun t => (m, t)
end Go.Proofs.YtpboclokodgnlaaGreat
