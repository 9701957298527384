/-
  The colour group contains the keeping group, and both are groups.
-/
import Derived.Test.YtahlhacmikdimaaGreatPN
import Derived.Test.YtahlhacmikdimaaGreatP35
import Derived.Test.YtahlhacmikdimaaGreatPQR
import Derived.Test.YtahlhacmikdimaaGreatP31
namespace Go.Proofs.YtahlhacmikdimaaGreat
open Ai
set_option linter.unusedSimpArgs false
set_option linter.unusedVariables false
def hasRule (p : Pat) (m : Mot) : Bool := (ruleOf p m).isSome
theorem impl_del_rules (p : Pat) (xs : List ((Int × Int × Int × Int) × Int × Int)) (hn : xs.length ≤ 100000) (hq : ∀ x ∈ xs, impl_ColourGroup_1 x (p.1, p.2.1.1, p.2.1.2.1, p.2.1.2.2, p.2.2) = some (!(hasRule p) x)) : slices_DeleteFunc_SMotion_Motion_o__impl_ColourGroup_1 xs (p.1, p.2.1.1, p.2.1.2.1, p.2.1.2.2, p.2.2) = some (xs.filter ((hasRule p))) := by
  have hidx : slices_IndexFunc_SMotion_Motion__impl_ColourGroup_1 xs (p.1, p.2.1.1, p.2.1.2.1, p.2.1.2.2, p.2.2) = some (match xs.findIdx? (fun x => !(hasRule p) x) with | none => -1 | some i => (i : Int)) := by
    rw [slices_IndexFunc_SMotion_Motion__impl_ColourGroup_1_eq]
    have := find_loop (L := fun k => slices_IndexFunc_SMotion_Motion__impl_ColourGroup_1_l0 xs (p.1, p.2.1.1, p.2.1.2.1, p.2.1.2.2, p.2.2) (xs.length : Int) k) (xs := xs) (p := fun x => !(hasRule p) x) (good := .inl ()) (bad := fun i => .inr (i : Int)) (by unfold MAXN; omega) (fun k hk => by
      show slices_IndexFunc_SMotion_Motion__impl_ColourGroup_1_l0 xs _ _ k = _
      rw [slices_IndexFunc_SMotion_Motion__impl_ColourGroup_1_l0_eq, decide_eq_true (by omega), rd_lt hk]
      simp only [cond_true, Option.bind_some, Option.bind_fun_some]
      rw [hq _ (List.getElem_mem hk)]
      simp only [Option.bind_some]
      cases (hasRule p) xs[k] <;> rfl) (by
      show slices_IndexFunc_SMotion_Motion__impl_ColourGroup_1_l0 xs _ _ _ = _
      rw [slices_IndexFunc_SMotion_Motion__impl_ColourGroup_1_l0_eq, decide_eq_false (by omega)]; rfl)
    rw [this]
    cases xs.findIdx? (fun x => !(hasRule p) x) <;> rfl
  rw [slices_DeleteFunc_SMotion_Motion_o__impl_ColourGroup_1_eq, hidx]
  cases hfi : xs.findIdx? (fun x => !(hasRule p) x) with
  | none =>
    simp only [Option.bind_some, decide_true, cond_true]
    congr 1
    symm
    rw [List.filter_eq_self]
    intro a ha
    rw [List.findIdx?_eq_none_iff] at hfi
    simpa using hfi a ha
  | some i =>
    obtain ⟨hi, ht⟩ := first_out xs ((hasRule p)) hfi
    simp only [Option.bind_some]
    rw [decide_eq_false (by omega), wN (by omega)]
    simp only [cond_false]
    obtain ⟨s', i', e1, e2, e3, e4⟩ := del_loop (L := fun s i j => slices_DeleteFunc_SMotion_Motion_o__impl_ColourGroup_1_l0 s (p.1, p.2.1.1, p.2.1.2.1, p.2.1.2.2, p.2.2) i j) xs ((hasRule p)) (fun s i j hj hx hsl hij he => by
      show slices_DeleteFunc_SMotion_Motion_o__impl_ColourGroup_1_l0 s (p.1, p.2.1.1, p.2.1.2.1, p.2.1.2.2, p.2.2) (i : Int) (j : Int) = _
      have hq' : impl_ColourGroup_1 (((xs[j].1.1, xs[j].1.2.1, xs[j].1.2.2), xs[j].2)) (p.1, p.2.1.1, p.2.1.2.1, p.2.1.2.2, p.2.2) = some (!(hasRule p) xs[j]) := hq _ (List.getElem_mem hx)
      rw [slices_DeleteFunc_SMotion_Motion_o__impl_ColourGroup_1_l0_eq, inb hj, decide_eq_true (by omega), gd hj, he]
      simp only [cond_true, Option.bind_fun_some]
      rw [hq', wN (by omega), wN (by omega), decide_eq_true (by omega), decide_eq_true (by omega)]
      simp only [Option.bind_some, Bool.and_true, cond_true, Int.toNat_natCast]
      cases (hasRule p) xs[j] <;> rfl) (xs.length - (i + 1)) (i + 1) xs i (by omega) rfl (by omega) rfl ht.symm
    have e1' : slices_DeleteFunc_SMotion_Motion_o__impl_ColourGroup_1_l0 xs (p.1, p.2.1.1, p.2.1.2.1, p.2.1.2.2, p.2.2) (i : Int) ((i + 1 : Nat) : Int) = slices_DeleteFunc_SMotion_Motion_o__impl_ColourGroup_1_l0 s' (p.1, p.2.1.1, p.2.1.2.1, p.2.1.2.2, p.2.2) (i' : Int) (xs.length : Int) := e1
    rw [e1', slices_DeleteFunc_SMotion_Motion_o__impl_ColourGroup_1_l0_eq, decide_eq_false (by omega)]
    simp only [cond_false, Option.bind_some, Int.toNat_natCast]
    have hol : (overL s' (List.replicate (s'.length - i') (((0, 0, 0, 0), 0, 0) : (Int × Int × Int × Int) × Int × Int)) i').length = s'.length := by
      unfold overL
      simp
      omega
    rw [decide_eq_true (show (0 : Int) ≤ (i' : Int) by omega), decide_eq_true (show (i' : Int) ≤ (s'.length : Int) by omega), decide_eq_true (by rw [hol]; omega)]
    simp only [Bool.and_true, cond_true]
    rw [cut_over _ _ _ (by omega), e4]
theorem impl_ColourGroup_1_v {p : Pat} (hp : isPat p = true) {m : Mot} (hm : ∀ v ∈ cells p.2.1, Sm (wap m v)) : impl_ColourGroup_1 m (p.1, p.2.1.1, p.2.1.2.1, p.2.1.2.2, p.2.2) = some (!hasRule p m) := by
  have h1 : impl_Pattern_permutation (p.1, (p.2.1.1, p.2.1.2.1, p.2.1.2.2), p.2.2) m = some ((ruleOf p m).getD []) := impl_Pattern_permutation_v hp hm
  rw [impl_ColourGroup_1_eq, h1]
  unfold hasRule
  cases hr : ruleOf p m with
  | none => rfl
  | some z =>
    have hz := ruleOf_len hp hm hr
    have : z.isEmpty = false := by
      cases z with
      | nil => simp at hz
      | cons => rfl
    simp [this]
def colG (p : Pat) : List Mot := (allM p.1 p.2.1).filter (hasRule p)
def colR (p : Pat) : List Mot × Int := if isPat p = true then (colG p, 0) else ([], 1)
theorem colour_v (p : Pat) (h : p.2.2.length ≤ 1048576) : spec_ColourGroup p = some (colR p) ∧ impl_ColourGroup p = some (colR p) ∧ (colR p).1.length ≤ 1048576 := by
  unfold colR
  rw [spec_ColourGroup_eq, impl_ColourGroup_eq, spec_IsPattern_v p (leM h), impl_IsPattern_v p (leM h)]
  simp only [Option.bind_some]
  cases hp : isPat p
  · exact ⟨rfl, rfl, by simp⟩
  · have hl := (isPat_iff.1 hp).2.1
    have hf := isFrame_iff.1 (isPat_iff.1 hp).1
    have hal := allM_len p.1 hl
    have hsm : ∀ m ∈ allM p.1 p.2.1, ∀ v ∈ cells p.2.1, Sm (wap m v) := fun m hm => allM_suit hf hl hm
    simp only [cond_true, Option.bind_some, impl_allMotions_v hf hl, spec_l16All_v hf hl]
    rw [impl_del_rules p (allM p.1 p.2.1) (by omega) fun m hm => impl_ColourGroup_1_v hp (hsm m hm)]
    have key := loop_filter (L := fun s k => spec_ColourGroup_l0 (allM p.1 p.2.1) s k p.1 p.2.1.1 p.2.1.2.1 p.2.1.2.2 p.2.2) (allM p.1 p.2.1) (hasRule p) [] (fun k hk s hs => by
      show spec_ColourGroup_l0 (allM p.1 p.2.1) s (k : Int) p.1 p.2.1.1 p.2.1.2.1 p.2.1.2.2 p.2.2 = _
      have hmem : (allM p.1 p.2.1)[k] ∈ allM p.1 p.2.1 := List.getElem_mem hk
      rw [spec_ColourGroup_l0_eq, inb hk, decide_eq_true (by omega), gd hk]
      simp only [cond_true, Option.bind_fun_some]
      have e1 : spec_l16Rule (p.1, (p.2.1.1, p.2.1.2.1, p.2.1.2.2), p.2.2) (((allM p.1 p.2.1)[k].1.1, (allM p.1 p.2.1)[k].1.2.1, (allM p.1 p.2.1)[k].1.2.2), (allM p.1 p.2.1)[k].2) = _ := spec_l16Rule_v hp (hsm _ hmem)
      rw [e1, wnext hk (by omega), decide_eq_true (by unfold LIM; simp only [List.length_nil, List.length_singleton] at hs ⊢; omega)]
      simp only [Option.bind_some]
      unfold hasRule
      cases ruleOf p (allM p.1 p.2.1)[k] <;> rfl)
    rw [key]
    have hend : spec_ColourGroup_l0 (allM p.1 p.2.1) ([] ++ (allM p.1 p.2.1).filter (hasRule p)) ((allM p.1 p.2.1).length : Int) p.1 p.2.1.1 p.2.1.2.1 p.2.1.2.2 p.2.2 = some ((allM p.1 p.2.1).filter (hasRule p)) := by
      rw [spec_ColourGroup_l0_eq, decide_eq_false (by omega), List.nil_append]
      rfl
    rw [hend]
    exact ⟨rfl, rfl, Nat.le_trans (List.length_filter_le _ _) (by omega)⟩
def keepR (p : Pat) : List Mot × Int := if isPat p = true then (groupG p, 0) else ([], 1)
theorem keeping_v (p : Pat) (h : p.2.2.length ≤ 1048576) : spec_KeepingGroup p = some (keepR p) ∧ impl_KeepingGroup p = some (keepR p) ∧ (keepR p).1.length ≤ 1048576 := by
  unfold keepR
  rw [spec_KeepingGroup_eq, impl_KeepingGroup_eq, spec_IsPattern_v p (leM h), impl_IsPattern_v p (leM h)]
  simp only [Option.bind_some]
  cases hp : isPat p
  · exact ⟨rfl, rfl, by simp⟩
  · have hl := (isPat_iff.1 hp).2.1
    have hf := isFrame_iff.1 (isPat_iff.1 hp).1
    have hn := (cells_len' hl).2
    have hal : (allM p.1 p.2.1).length ≤ 5184 := by
      have h1 := flat_len_le (fun m => (cells p.2.1).map fun t => ((m, t) : Mot)) 64 (stableL p.1 p.2.1) (fun m _ => by rw [List.length_map]; exact hn)
      have h2 := stable_len p.1 p.2.1
      unfold allM
      omega
    simp only [cond_true, Option.bind_some, impl_Pattern_groupOf_v _ hp, spec_l16All_v hf hl]
    have key := loop_filter (L := fun s k => spec_KeepingGroup_l0 (allM p.1 p.2.1) s k p.1 p.2.1.1 p.2.1.2.1 p.2.1.2.2 p.2.2) (allM p.1 p.2.1) (keepsB p) [] (fun k hk s hs => by
      show spec_KeepingGroup_l0 (allM p.1 p.2.1) s (k : Int) p.1 p.2.1.1 p.2.1.2.1 p.2.1.2.2 p.2.2 = _
      have hmem : (allM p.1 p.2.1)[k] ∈ allM p.1 p.2.1 := List.getElem_mem hk
      have hk2 : ∀ v ∈ cells p.2.1, Sm (wap (allM p.1 p.2.1)[k] v) := by
        unfold allM at hmem
        obtain ⟨m, hm, ht⟩ := List.mem_flatMap.1 hmem
        obtain ⟨t, ht1, ht2⟩ := List.mem_map.1 ht
        have := keeps_sm hp (stable_pm hf hm) (cells_ss hl ht1)
        rw [ht2] at this
        exact this
      rw [spec_KeepingGroup_l0_eq, inb hk, decide_eq_true (by omega), gd hk]
      simp only [cond_true, Option.bind_fun_some]
      have e1 : spec_l09Keeps (p.1, (p.2.1.1, p.2.1.2.1, p.2.1.2.2), p.2.2) (((allM p.1 p.2.1)[k].1.1, (allM p.1 p.2.1)[k].1.2.1, (allM p.1 p.2.1)[k].1.2.2), (allM p.1 p.2.1)[k].2) = some (keepsB p (allM p.1 p.2.1)[k]) := spec_l09Keeps_v p _ hp hk2
      rw [e1, wnext hk (by omega), decide_eq_true (by unfold LIM; simp only [List.length_nil, List.length_singleton] at hs ⊢; omega)]
      simp only [Option.bind_some]
      cases keepsB p (allM p.1 p.2.1)[k] <;> rfl)
    rw [key]
    have hg : (allM p.1 p.2.1).filter (keepsB p) = groupG p := by
      unfold allM groupG keptM
      rw [List.filter_flatMap]
    have hend : spec_KeepingGroup_l0 (allM p.1 p.2.1) ([] ++ (allM p.1 p.2.1).filter (keepsB p)) ((allM p.1 p.2.1).length : Int) p.1 p.2.1.1 p.2.1.2.1 p.2.1.2.2 p.2.2 = some (groupG p) := by
      rw [spec_KeepingGroup_l0_eq, decide_eq_false (by omega), List.nil_append, hg]
      rfl
    rw [hend]
    exact ⟨rfl, rfl, Nat.le_trans (group_len hp) (by omega)⟩
def permR (p : Pat) (m : Mot) : List Int × Int := if isPat p = true then (if suitB p.1 p.2.1 m = true then (match ruleOf p m with | none => ([], 4) | some z => (z, 0)) else ([], 2)) else ([], 1)
theorem perm_v (p : Pat) (m : Mot) (h : p.2.2.length ≤ 1048576) : spec_PermutationBy p m = some (permR p m) ∧ impl_PermutationBy p m = some (permR p m) ∧ (permR p m).1.length ≤ 10 := by
  unfold permR
  rw [spec_PermutationBy_eq, impl_PermutationBy_eq, spec_IsPattern_v p (leM h), impl_IsPattern_v p (leM h)]
  simp only [Option.bind_some]
  cases hp : isPat p
  · exact ⟨rfl, rfl, by simp⟩
  · have hff := (isPat_iff.1 hp).1
    have hf := isFrame_iff.1 hff
    have hl := (isPat_iff.1 hp).2.1
    rw [spec_IsSuitable_v hff hl, impl_isSuitable_v hf hl]
    cases hm : suitB p.1 p.2.1 m
    · exact ⟨rfl, rfl, by simp⟩
    · have hs := suit_sm hp hm
      simp only [cond_true, Option.bind_some, spec_l16Rule_v hp hs, impl_Pattern_permutation_v hp hs, if_true]
      cases hr : ruleOf p m with
      | none => exact ⟨rfl, rfl, by simp⟩
      | some z =>
        have hz := ruleOf_len hp hs hr
        have : z.isEmpty = false := by
          cases z with
          | nil => simp at hz
          | cons => rfl
        refine ⟨rfl, ?_, by simp only; omega⟩
        simp [this]
theorem rule_cells {p : Pat} (hp : isPat p = true) {m : Mot} : (ruleOf p m).isSome = true ↔ ∀ u ∈ cells p.2.1, ∀ v ∈ cells p.2.1, patAt p u = patAt p v ↔ patAt p (wap m u) = patAt p (wap m v) := by
  unfold ruleOf
  rw [ruleG_iff _ _ _ _ graph0 (fun a ha => by
    obtain ⟨v, _, rfl⟩ := List.mem_map.1 ha
    exact ⟨patAt_col hp _, patAt_col hp _⟩), List.nil_append]
  unfold rulePairs
  constructor
  · intro h u hu v hv
    exact h _ (List.mem_map.2 ⟨u, hu, rfl⟩) _ (List.mem_map.2 ⟨v, hv, rfl⟩)
  · intro h a ha b hb
    obtain ⟨u, hu, rfl⟩ := List.mem_map.1 ha
    obtain ⟨v, hv, rfl⟩ := List.mem_map.1 hb
    exact h u hu v hv
theorem rule_red {p : Pat} (hp : isPat p = true) {m : Mot} (hs : suitB p.1 p.2.1 m = true) (h : (ruleOf p m).isSome = true) : ((m.1, red p.2.1 m.2) : Mot) ∈ colG p := by
  have hl := (isPat_iff.1 hp).2.1
  have hf := isFrame_iff.1 (isPat_iff.1 hp).1
  have hs0 := hs
  unfold suitB at hs
  rw [Bool.and_eq_true, Bool.and_eq_true] at hs
  obtain ⟨v1, v2, v3⟩ := hs
  have hmem : m.1 ∈ stableL p.1 p.2.1 := List.mem_filter.2 ⟨(mem_pmats hf _).2 v2, v3⟩
  have hpm := stable_pm hf hmem
  have hall : ((m.1, red p.2.1 m.2) : Mot) ∈ allM p.1 p.2.1 := mem_allM.2 ⟨hmem, red_mem hl _⟩
  have e : ∀ v ∈ cells p.2.1, patAt p (wap (m.1, red p.2.1 m.2) v) = patAt p (wap m v) := fun v hv => by
    have hv' := cells_ss hl hv
    rw [show wap m v = vadd (mapp m.1 v) m.2 from (wap_pm hpm hv' (isVec_ss v1)).1, wap_act hf hl hall hv']
    refine patAt_congr ((red_eq_iff hl).2 ?_)
    obtain ⟨i, j, h1, h2⟩ := red_in hl m.2
    refine ⟨-i, -j, ?_, ?_⟩ <;> simp only [act, vsub, vadd] at h1 h2 ⊢ <;> grind
  refine List.mem_filter.2 ⟨hall, ?_⟩
  unfold hasRule
  rw [rule_cells hp] at h ⊢
  intro u hu v hv
  rw [e u hu, e v hv]
  exact h u hu v hv
theorem drawColour_d {x : List Int} (hb : ∀ c ∈ x, 0 ≤ c ∧ c ≤ 255) (hn : x.length ≤ 4096) : Ok1 (spec_DrawColourGroup x) fun p => p.2.2.length ≤ 65 := by
  rw [spec_DrawColourGroup_eq]
  exact (from_d hb hn).bind fun s hs => (pattern_d hs).bind fun y ⟨_, h⟩ => Ok1.some h
theorem col_pos {p : Pat} (hp : isPat p = true) : 1 ≤ (colG p).length := by
  have h1 := group_rule hp
  unfold isGroupB at h1
  simp only [Bool.and_eq_true, decide_eq_true_eq] at h1
  exact List.length_pos_of_mem h1.2.1
theorem drawPerm_d {x : List Int} (hb : ∀ c ∈ x, 0 ≤ c ∧ c ≤ 255) (hn : x.length ≤ 4096) : Ok1 (spec_DrawPermutationBy x) fun y => y.1.2.2.length ≤ 65 := by
  rw [spec_DrawPermutationBy_eq]
  refine (from_d hb hn).bind fun s hs => ?_
  have key : Ok1 (spec_l16DrawMotion s) fun y => y.1.2.2.length ≤ 65 := by
    rw [spec_l16DrawMotion_eq]
    refine (pattern_d hs).bind fun a ⟨ha, a1⟩ => ?_
    rw [spec_IsPattern_v a.1 (leM (by omega))]
    simp only [Option.bind_some]
    refine Ok1.cond (fun hp => ?_) fun _ => (mot5_d ha.1).bind fun b hb => Ok1.some a1
    refine (next_d ha.1 16 (by omega)).bind fun b ⟨hb, _⟩ => Ok1.cond (fun _ => (mot5_d hb.1).bind fun c hc => Ok1.some a1) fun _ => ?_
    refine (next_d hb.1 2 (by omega)).bind fun c ⟨hc, _⟩ => Ok1.cond (fun _ => ?_) fun _ => (motion_d hc.1 _ _).bind fun d ⟨hd, _⟩ => Ok1.some a1
    obtain ⟨k1, _, k2⟩ := colour_v a.1 (by omega)
    have hpos := col_pos hp
    rw [k1]
    unfold colR at k2 ⊢
    rw [if_pos hp] at k2 ⊢
    simp only [Option.bind_some]
    refine (next_d hc.1 _ (by simp only at k2; omega)).bind fun d ⟨hd, d1, d2⟩ => Ok1.chk ?_ (Ok1.some a1)
    rw [decide_eq_true d1, decide_eq_true (d2 (by omega))]; rfl
  exact key.bind fun y hy => Ok1.some hy
theorem sub_loop {c k : List Mot} (hc : c.length ≤ 1048576) (hk : k.length ≤ 1048576) (h : ∀ m ∈ k, m ∈ c) (z3 z4 z5 z6 : Int) (z7 : List Int) : ∀ (d i : Nat), i + d = k.length →
    laws_FnColourGroups_l0 c k (i : Int) z3 z4 z5 z6 z7 = some (.inl (c, k, z3, z4, z5, z6, z7))
  | 0, i, hi => by
    rw [laws_FnColourGroups_l0_eq, decide_eq_false (by omega)]; rfl
  | d + 1, i, hi => by
    have hlt : i < k.length := by omega
    have e1 : laws_hasMotion9 c ((k[i].1.1, k[i].1.2.1, k[i].1.2.2), k[i].2) = some (decide (k[i] ∈ c)) := laws_hasMotion9_v c k[i] hc
    rw [laws_FnColourGroups_l0_eq, inb hlt, decide_eq_true (p := (i : Int) < (k.length : Int)) (by omega), gd hlt, e1, decide_eq_true (h _ (List.getElem_mem hlt))]
    simp only [cond_true, Option.bind_some, Option.bind_fun_some]
    rw [wnext hlt (by omega)]
    exact sub_loop hc hk h z3 z4 z5 z6 z7 d (i + 1) (by omega)
theorem laws_likeInts_s (xs : List Int) (h : xs.length ≤ 1048576) : laws_likeInts xs xs = some true := by
  rw [laws_likeInts_v xs xs (leM h), decide_eq_true rfl]
theorem isGroup_v {f : Int} {l : Lat} (hff : isFrame f = true) (hl : isLat l = true) (xs : List Mot) (hn : xs.length ≤ 1048576) (h : isGroupB f l xs = true) : impl_IsGroup f l xs = some true := by
  rw [impl_IsGroup_eq, impl_frameCode_v, hff, hl]
  simp only [Bool.and_self, if_true, Option.bind_some, decide_true, cond_true, impl_isGroup_v (isFrame_iff.1 hff) hl xs hn, h]
theorem FnColourGroups_true (x : List Int) (h : wfE (.list (.i .u8)) x) : laws_FnColourGroups x = some true := by
  rw [laws_FnColourGroups_eq, laws_big_eq]
  by_cases hb : 4096 < (x.length : Int)
  · rw [decide_eq_true hb]; rfl
  · rw [decide_eq_false hb]
    obtain ⟨p, e1, hy⟩ := drawColour_d (code_bytes h) (by omega)
    obtain ⟨z, e2, hz⟩ := drawPerm_d (code_bytes h) (by omega)
    obtain ⟨q, m⟩ := z
    simp only at hz
    obtain ⟨c1, c2, c3⟩ := colour_v p (by omega)
    obtain ⟨k1, k2, k3⟩ := keeping_v p (by omega)
    obtain ⟨r1, r2, r3⟩ := perm_v q m (by omega)
    obtain ⟨d1, d2, d3⟩ := colour_v q (by omega)
    have lc := laws_likeMotions9_s _ c3
    have lk := laws_likeMotions9_s _ k3
    have lr := laws_likeInts_s (permR q m).1 (by omega)
    have hcode : (keepR p).2 = (colR p).2 := by unfold keepR colR; cases isPat p <;> rfl
    -- behind the permutation
    have hP : (permR q m).2 = 0 → ∃ r, impl_ReduceMotion q.1 q.2.1 m = some (r, 0) ∧ (colR q).2 = 0 ∧ laws_hasMotion9 (colR q).1 r = some true := by
      intro h0
      unfold permR at h0
      by_cases hq : isPat q = true
      · rw [if_pos hq] at h0
        by_cases hs : suitB q.1 q.2.1 m = true
        · rw [if_pos hs] at h0
          cases hr : ruleOf q m with
          | none => rw [hr] at h0; simp at h0
          | some z =>
            have hff := (isPat_iff.1 hq).1
            have hl := (isPat_iff.1 hq).2.1
            have hin := rule_red hq hs (by rw [hr]; rfl)
            have hsm : Sm m.2 := by
              unfold suitB at hs
              rw [Bool.and_eq_true] at hs
              have := isVec_sv hs.1
              unfold Sv at this; unfold Sm; omega
            refine ⟨(m.1, red q.2.1 m.2), ?_, ?_, ?_⟩
            · rw [impl_ReduceMotion_eq, impl_frameCode_v, hff, hl, impl_isSuitable_v (isFrame_iff.1 hff) hl, hs, impl_Lattice_reduceMotion_eq, impl_Lattice_reduce_v q.2.1 m.2 hl hsm]
              rfl
            · unfold colR; rw [if_pos hq]
            · rw [laws_hasMotion9_v _ _ d3]
              unfold colR
              rw [if_pos hq, decide_eq_true hin]
        · rw [if_neg hs] at h0; simp at h0
      · rw [if_neg hq] at h0; simp at h0
    simp only [cond_false, Option.bind_some, cond_true, e1, c1, c2, k1, k2, e2, r1, r2, lc, lk, lr, decide_true, Bool.not_true, hcode]
    have tail : (cond (!decide ((colR p).2 = 0)) (some true) (Option.bind (laws_FnColourGroups_l0 (colR p).1 (keepR p).1 0 p.1 p.2.1.1 p.2.1.2.1 p.2.1.2.2 p.2.2) fun (y21 : ((List ((Int × Int × Int × Int) × Int × Int)) × (List ((Int × Int × Int × Int) × Int × Int)) × Int × Int × Int × Int × (List Int)) ⊕ Bool) => (match y21 with | .inl a22 => (cond (decide (64 < (List.length a22.1 : Int))) (some true) (Option.bind (impl_IsGroup a22.2.2.1 (a22.2.2.2.1, a22.2.2.2.2.1, a22.2.2.2.2.2.1) a22.1) fun (y24 : Bool) => (cond y24 (Option.bind (impl_IsGroup a22.2.2.1 (a22.2.2.2.1, a22.2.2.2.2.1, a22.2.2.2.2.2.1) a22.2.1) fun (y25 : Bool) => (cond y25 (some true) (some false))) (some false)))) | .inr b23 => (some b23)))) = some true := by
      by_cases hp : isPat p = true
      · have hff := (isPat_iff.1 hp).1
        have hl := (isPat_iff.1 hp).2.1
        have hf := isFrame_iff.1 hff
        have ec : colR p = (colG p, 0) := by unfold colR; rw [if_pos hp]
        have ek : keepR p = (groupG p, 0) := by unfold keepR; rw [if_pos hp]
        rw [ec] at c3 ⊢
        rw [ek] at k3 ⊢
        have c3 : (colG p).length ≤ 1048576 := c3
        have k3 : (groupG p).length ≤ 1048576 := k3
        have hsub : ∀ m ∈ groupG p, m ∈ colG p := fun m hm => by
          rw [groupG_filter] at hm
          obtain ⟨h1, h2⟩ := List.mem_filter.1 hm
          exact List.mem_filter.2 ⟨h1, (ruleOf_iff hp h1).2 (keep_rule ((keepsB_iff hp h1).1 h2))⟩
        have lp := sub_loop c3 k3 hsub p.1 p.2.1.1 p.2.1.2.1 p.2.1.2.2 p.2.2 (groupG p).length 0 (by omega)
        simp only [Int.natCast_zero] at lp
        have g1 : impl_IsGroup p.1 (p.2.1.1, p.2.1.2.1, p.2.1.2.2) (colG p) = some true := isGroup_v hff hl _ c3 (group_rule hp)
        have g2 : impl_IsGroup p.1 (p.2.1.1, p.2.1.2.1, p.2.1.2.2) (groupG p) = some true := isGroup_v hff hl _ k3 (group_keep hp)
        simp only [decide_true, Bool.not_true, cond_false, lp, Option.bind_some, g1, g2, cond_true]
        cases decide (64 < ((colG p).length : Int)) <;> rfl
      · have ec : (colR p).2 = 1 := by unfold colR; rw [if_neg hp]
        rw [ec]; rfl
    by_cases h0 : (permR q m).2 = 0
    · obtain ⟨r, g1, g2, g3⟩ := hP h0
      simp only [h0, decide_true, cond_true, g1, d2, Option.bind_some, g2, g3, Bool.not_true, cond_false]
      exact tail
    · rw [decide_eq_false h0]
      exact tail
end Go.Proofs.YtahlhacmikdimaaGreat
