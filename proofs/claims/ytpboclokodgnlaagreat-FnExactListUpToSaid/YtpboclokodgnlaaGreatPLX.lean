/-
  All patterns up to motions: the reference whole, and what the walked law asks. About the first environment.
-/
import Derived.Test.YtpboclokodgnlaaGreatPLV
namespace Go.Proofs.YtpboclokodgnlaaGreat
open Pre Ai
set_option linter.unusedSimpArgs false
set_option linter.unusedVariables false
set_option linter.unnecessarySimpa false
theorem spec_l4_false (f k : Int) (x2 : List V) (x3 : List (List Int)) (x4 : List Pat) (x5 x6 : Int) (x7 : List Int) (x9 a b c : Int) :
    spec_ListUpTo_l4 f k x2 x3 x4 x5 x6 x7 false x9 a b c = some (f, k, x2, x3, x4, x5, x6, x7, false, a, b, c) := by
  rw [spec_ListUpTo_l4_eq]
  rfl
theorem spec_l4_v {f : Int} {l : Lat} {cs : List Int} (hp : isPat (f, l, cs) = true) {grp : List Mot} (hn : grp.length ≤ 1048576) (hg : ∀ g ∈ grp, Pm g.1 ∧ Sv g.2 ∧ imgL g.1 l = l) (k : Int) (x4 : List Pat) (x5 x6 : Int) :
    spec_ListUpTo_l4 f k (cells l) (grp.map (mvs l)) x4 x5 x6 cs true 0 l.1 l.2.1 l.2.2 = some (f, k, cells l, grp.map (mvs l), x4, x5, x6, cs, firstB grp (f, l, cs), l.1, l.2.1, l.2.2) := by
  have hl : isLat l = true := (isPat_iff.1 hp).2.1
  have hcn := (cells_len' hl).2
  have key := loop_all (L := fun i => spec_ListUpTo_l4 f k (cells l) (grp.map (mvs l)) x4 x5 x6 cs true i l.1 l.2.1 l.2.2) grp (fun g => !lexB (moved (f, l, cs) g.1 g.2).2.2 cs)
    (f, k, cells l, grp.map (mvs l), x4, x5, x6, cs, true, l.1, l.2.1, l.2.2) (f, k, cells l, grp.map (mvs l), x4, x5, x6, cs, false, l.1, l.2.1, l.2.2) (fun i hi => by
    have hgi := hg _ (List.getElem_mem hi)
    have hlen := moved_len (f, l, cs) grp[i].2 hp hgi.1
    show spec_ListUpTo_l4 f k (cells l) (grp.map (mvs l)) x4 x5 x6 cs true (i : Int) l.1 l.2.1 l.2.2 = _
    rw [spec_ListUpTo_l4_eq, decide_eq_true (show (i : Int) < ((grp.map (mvs l)).length : Int) by rw [List.length_map]; omega), decide_eq_true (show (0 : Int) ≤ ((cells l).length : Int) by omega), decide_eq_true (show ((cells l).length : Int) ≤ ((cells l).length : Int) by omega), decide_eq_true (show ((cells l).length : Int) ≤ (LIM : Int) by unfold LIM; omega)]
    simp only [Bool.and_true, cond_true, Int.toNat_natCast, spec_l5_v hp hi hgi k x4 x5 x6, Option.bind_some, spec_l01LessList_v _ _ (show (moved (f, l, cs) grp[i].1 grp[i].2).2.2.length ≤ 1048576 by omega), Option.bind_fun_some]
    rw [wnext hi (by omega)]
    cases lexB (moved (f, l, cs) grp[i].1 grp[i].2).2.2 cs with
    | true => simp only [cond_true, spec_l4_false]; rfl
    | false => rfl) (by
    show spec_ListUpTo_l4 f k (cells l) (grp.map (mvs l)) x4 x5 x6 cs true (grp.length : Int) l.1 l.2.1 l.2.2 = _
    rw [spec_ListUpTo_l4_eq, decide_eq_false (by rw [List.length_map]; omega)]
    rfl)
  refine key.trans ?_
  unfold firstB
  cases grp.all fun g => !lexB (moved (f, l, cs) g.1 g.2).2.2 cs <;> rfl
def allP (f : Int) (l : Lat) (k : Int) (N : Nat) : List Pat := (List.range N).map fun j => (f, l, digs k (cells l).length j)
theorem listP_filter (f : Int) (l : Lat) (k : Int) (N : Nat) (q : Pat → Bool) : (allP f l k N).filter q = listP f l k (cells l).length (fun j => q (f, l, digs k (cells l).length j)) N := by
  unfold allP listP
  rw [List.filter_map]
  rfl
theorem spec_l2_v {f : Int} (hff : isFrame f = true) {l : Lat} (hl : isLat l = true) {k : Int} (hk1 : 1 ≤ k) (hk2 : k ≤ 10) {grp : List Mot} (hn : grp.length ≤ 1048576) (hg : ∀ g ∈ grp, Pm g.1 ∧ Sv g.2 ∧ imgL g.1 l = l) {N : Nat} (hN : N ≤ 3000) :
    spec_ListUpTo_l2 f k (cells l) (grp.map (mvs l)) [] (N : Int) 0 l.1 l.2.1 l.2.2 = some ((allP f l k N).filter (firstB grp)) := by
  have hcn := (cells_len' hl).2
  have hlen : (allP f l k N).length = N := by unfold allP; simp
  have key := loop_filter (L := fun s i => spec_ListUpTo_l2 f k (cells l) (grp.map (mvs l)) s (N : Int) i l.1 l.2.1 l.2.2) (allP f l k N) (firstB grp) [] (fun i hi s hs => by
    rw [hlen] at hi
    have hat : (allP f l k N)[i]'(by rw [hlen]; exact hi) = (f, l, digs k (cells l).length i) := by unfold allP; simp
    have hp := isPat_digs hff hl hk1 hk2 (show i ≤ 1000000 by omega)
    have hsl : s.length ≤ i := by simpa using hs
    show spec_ListUpTo_l2 f k (cells l) (grp.map (mvs l)) s (N : Int) (i : Int) l.1 l.2.1 l.2.2 = _
    have e3 := spec_l3_v f hk1 (cells l) (grp.map (mvs l)) s (N : Int) (i : Int) l.1 l.2.1 l.2.2 (cells l).length (List.replicate (cells l).length 0) (i : Int) (by rw [List.length_replicate]; exact Nat.le_refl _) (by rw [List.length_replicate]; omega)
    have hdg : ((List.range (cells l).length).reverse.foldl (digS k) (List.replicate (cells l).length 0, (i : Int))).1 = digs k (cells l).length i := by
      unfold digs digX
      rw [List.length_replicate]
    rw [hdg] at e3
    rw [hat, spec_ListUpTo_l2_eq, decide_eq_true (show (i : Int) < (N : Int) by omega), decide_eq_true (show (0 : Int) ≤ ((cells l).length : Int) by omega), decide_eq_true (show ((cells l).length : Int) ≤ ((cells l).length : Int) by omega), decide_eq_true (show ((cells l).length : Int) ≤ (LIM : Int) by unfold LIM; omega)]
    simp only [Bool.and_true, cond_true, Int.toNat_natCast]
    rw [w64 (x := ((cells l).length : Int) - 1) (by omega) (by omega), e3]
    simp only [Option.bind_some, spec_l4_v hp hn hg k s (N : Int) (i : Int), Option.bind_fun_some]
    rw [wnext hi (by omega)]
    cases firstB grp (f, l, digs k (cells l).length i) with
    | false => rfl
    | true =>
      simp only [cond_true, if_true]
      rw [decide_eq_true (by unfold LIM; simp; omega)]
      rfl)
  have key : spec_ListUpTo_l2 f k (cells l) (grp.map (mvs l)) [] (N : Int) 0 l.1 l.2.1 l.2.2 = spec_ListUpTo_l2 f k (cells l) (grp.map (mvs l)) ([] ++ (allP f l k N).filter (firstB grp)) (N : Int) ((allP f l k N).length : Int) l.1 l.2.1 l.2.2 := key
  rw [key, hlen, List.nil_append, spec_ListUpTo_l2_eq, decide_eq_false (by omega)]
  rfl
def listV (f : Int) (l : Lat) (grp : List Mot) (k : Int) : List Pat := if upC f l grp k = 0 then (allP f l k (pw k (cells l).length 1).toNat).filter (firstB grp) else []
theorem upC_zero {f : Int} {l : Lat} {grp : List Mot} {k : Int} (h : upC f l grp k = 0) : isFrame f = true ∧ isLat l = true ∧ isGroupB f l grp = true ∧ 1 ≤ k ∧ k ≤ 10 ∧ pw k (cells l).length 1 ≤ 3000 := by
  unfold upC at h
  cases hv : (isFrame f && isLat l) with
  | false => rw [hv, if_neg (by decide)] at h; exact absurd h (by decide)
  | true =>
    rw [hv, if_pos rfl] at h
    simp only [Bool.and_eq_true] at hv
    cases hg : isGroupB f l grp with
    | false => rw [hg, if_neg (by decide)] at h; exact absurd h (by decide)
    | true =>
      rw [hg, if_pos rfl] at h
      cases hw : within k 1 10 with
      | false => rw [hw, if_neg (by decide)] at h; exact absurd h (by decide)
      | true =>
        rw [hw, if_pos rfl] at h
        rw [within_iff] at hw
        by_cases h3 : 3000 < pw k (cells l).length 1
        · rw [if_pos h3] at h; exact absurd h (by decide)
        · exact ⟨hv.1, hv.2, rfl, hw.1, hw.2, by omega⟩
theorem spec_ListUpTo_v (f : Int) (l : Lat) (grp : List Mot) (k : Int) (hn : grp.length ≤ 1048576) : spec_ListUpTo f l grp k = some (listV f l grp k, upC f l grp k) := by
  have hcode : ∀ g : Bool, (isGroupB f l grp = g ∨ (isFrame f && isLat l) = false) → spec_l17Code f l g k 3000 = some (upC f l grp k) := fun g hg => by
    rw [spec_l17Code_v]
    unfold upC
    rcases hg with hg | hg
    · rw [hg]
    · rw [hg]; rfl
  have hbad : upC f l grp k ≠ 0 → listV f l grp k = [] := fun h => by unfold listV; rw [if_neg h]
  by_cases h0 : upC f l grp k = 0
  · obtain ⟨hff, hl, hg, hk1, hk2, hpw⟩ := upC_zero h0
    have hf := isFrame_iff.1 hff
    have hgo := grp_ok hf hl hg
    have hcn := (cells_len' hl).2
    have hpl := pw_lim hk1 hk2 (cells l).length 1 (by omega) (by omega)
    obtain ⟨N, hN⟩ : ∃ N : Nat, pw k (cells l).length 1 = (N : Int) := ⟨(pw k (cells l).length 1).toNat, by omega⟩
    have e2 : listV f l grp k = (allP f l k N).filter (firstB grp) := by unfold listV; rw [if_pos h0, hN, Int.toNat_natCast]
    rw [e2, spec_ListUpTo_eq, spec_IsGroup_v hf hl grp hn, hg]
    simp only [cond_true, Option.bind_some, hcode true (.inl hg), h0, decide_true, Bool.not_true, cond_false, spec_l03Cells_v _ hl, spec_l0_v hl f k hn hgo, spec_l17Power_v hk1 hk2 (show (cells l).length ≤ 1000000 by omega)]
    rw [hN, spec_l2_v hff hl hk1 hk2 hn hgo (by omega)]
    rfl
  · rw [hbad h0, spec_ListUpTo_eq]
    cases hv : (isFrame f && isLat l) with
    | false =>
      rw [spec_group_bad hv]
      simp only [cond_false, Option.bind_some, hcode false (.inr hv)]
      rw [decide_eq_false h0]
      rfl
    | true =>
      simp only [Bool.and_eq_true] at hv
      rw [spec_IsGroup_v (isFrame_iff.1 hv.1) hv.2 grp hn]
      cases hg : isGroupB f l grp with
      | false =>
        simp only [cond_false, Option.bind_some, hcode false (.inl hg)]
        rw [decide_eq_false h0]
        rfl
      | true =>
        simp only [cond_true, Option.bind_some, hcode true (.inl hg)]
        rw [decide_eq_false h0]
        rfl
/-! ### What the walked law asks -/
theorem laws_eqPatternS_v2 (xs : List Pat) (hn : xs.length ≤ 1048576) (hL : ∀ p ∈ xs, p.2.2.length ≤ 1048576) : laws_eqPatternS xs xs = some true := by
  have key := loop_all (L := fun i => laws_eqPatternS_l0 xs xs i) xs (fun _ => true) (.inl ()) (.inr false) (fun i hi => by
    show laws_eqPatternS_l0 xs xs (i : Int) = _
    rw [laws_eqPatternS_l0_eq, decide_eq_true (by omega), rd_lt hi]
    simp only [cond_true, Option.bind_some, laws_eqPattern_v _ _ (leM (hL _ (List.getElem_mem hi))), decide_true, Option.bind_fun_some, if_true]
    rw [wnext hi (by omega)]) (by
    show laws_eqPatternS_l0 xs xs (xs.length : Int) = _
    rw [laws_eqPatternS_l0_eq, decide_eq_false (by omega)]
    rfl)
  rw [laws_eqPatternS_eq, decide_eq_true rfl, key]
  have : xs.all (fun _ => true) = true := by simp
  rw [this]
  rfl
theorem listOk_v (f : Int) (l : Lat) (grp : List Mot) (k : Int) (hn : grp.length ≤ 1048576) : ListOk f l grp k (listV f l grp k) (upC f l grp k) := by
  refine ⟨impl_upToCode_v f l grp k hn, ?_⟩
  by_cases h0 : upC f l grp k = 0
  · right
    obtain ⟨hff, hl, hg, hk1, hk2, hpw⟩ := upC_zero h0
    have hf := isFrame_iff.1 hff
    have hgo := grp_ok hf hl hg
    have hc := cells_len' hl
    have hpl := pw_lim hk1 hk2 (cells l).length 1 (by omega) (by omega)
    obtain ⟨N, hN⟩ : ∃ N : Nat, pw k (cells l).length 1 = (N : Int) := ⟨(pw k (cells l).length 1).toNat, by omega⟩
    have h1 : 1 ≤ (cells l).length := by
      obtain ⟨⟨a1, _⟩, ⟨b1, _⟩, _⟩ := isLat_iff.1 hl
      have : 0 < l.1 * l.2.2 := Int.mul_pos (by omega) (by omega)
      omega
    refine ⟨h0, (cells l).length, N, fun j => firstB grp (f, l, digs k (cells l).length j), ?_, ?_, h1, by omega, hk1, by omega, fun j hj => ?_, ?_⟩
    · rw [impl_Lattice_index_v l hl, ← hc.1]
    · rw [impl_power_v hk1 hk2 (show (cells l).length ≤ 1000000 by omega), hN]
    · exact impl_isFirst_v (isPat_digs hff hl hk1 hk2 (by omega)) hn hgo
    · unfold listV
      rw [if_pos h0, hN, Int.toNat_natCast, listP_filter]
  · left
    exact ⟨h0, by unfold listV; rw [if_neg h0]⟩
theorem lawOk_v (f : Int) (l : Lat) (grp : List Mot) (k : Int) (h : grp.length ≤ Go.maxLen) : LawOk f l grp k := by
  refine ⟨_, laws_szMotionS_v grp 1048576 h (by omega) (by omega), ?_⟩
  by_cases hc : grp.length ≤ 1048576
  · right
    have hok := listOk_v f l grp k hc
    obtain ⟨h1, h2⟩ := hok.lens
    have hlv : ∀ p ∈ listV f l grp k, p.2.2.length ≤ 1048576 := by
      intro p hp
      unfold listV at hp
      split at hp
      · rename_i h0
        obtain ⟨_, hl, _⟩ := upC_zero h0
        have := (cells_len' hl).2
        obtain ⟨hp, _⟩ := List.mem_filter.1 hp
        unfold allP at hp
        obtain ⟨j, _, rfl⟩ := List.mem_map.1 hp
        show (digs k (cells l).length j).length ≤ _
        rw [digs_len]; omega
      · cases hp
    refine ⟨?_, _, _, laws_toMotionS_v grp hc, spec_ListUpTo_v f l grp k hc, laws_eqPatternS_v2 _ (by omega) hlv, ?_, by omega, hok⟩
    · unfold szl
      split <;> omega
    · rw [laws_eqMotionS_v _ _ (leM hc), decide_eq_true rfl]
  · left
    unfold szl
    split <;> omega
end Go.Proofs.YtpboclokodgnlaaGreat
