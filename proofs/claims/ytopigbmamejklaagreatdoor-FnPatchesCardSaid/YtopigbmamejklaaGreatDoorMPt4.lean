/-
  Plain meanings, part 4.
-/
import Derived.Test.YtopigbmamejklaaGreatDoorMPt3
namespace Go.Proofs.YtopigbmamejklaaGreatDoor
open Ai
set_option linter.unusedSimpArgs false
set_option linter.unusedVariables false
set_option linter.unusedSectionVars false
/-! ### Vectors that are reduced -/
theorem impl_reduce_any {l : Lat} (hl : isLat l = true) (v : V) : ∃ r, impl_Lattice_reduce l v = some r ∧ decide (r = v) = decide (v ∈ cells l) := by
  obtain ⟨⟨a1, a2⟩, ⟨c1, c2⟩, ⟨b1, b2⟩, _⟩ := isLat_iff.1 hl
  by_cases hv : v ∈ cells l
  · obtain ⟨⟨v1, v2⟩, v3, v4⟩ := mem_cells.1 hv
    have hs : Sm v := by unfold Sm; omega
    exact ⟨_, impl_Lattice_reduce_v l v hl hs, by rw [decide_eq_true hv, decide_eq_true (red_cell hl hv)]⟩
  · rw [impl_Lattice_reduce_eq, impl_mod_v _ _ (by omega) (by omega)]
    simp only [Option.bind_some]
    rw [decide_eq_false (by omega)]
    simp only [cond_false]
    rw [impl_mod_v _ _ (by omega) (by omega)]
    refine ⟨_, rfl, ?_⟩
    rw [decide_eq_false hv, decide_eq_false]
    intro e
    apply hv
    rw [← e]
    exact mem_cells.2 ⟨⟨Int.emod_nonneg _ (by omega), Int.emod_lt_of_pos _ (by omega)⟩, Int.emod_nonneg _ (by omega), Int.emod_lt_of_pos _ (by omega)⟩
theorem cells_vec {l : Lat} (hl : isLat l = true) {v : V} (hv : v ∈ cells l) : isVec v = true := by
  obtain ⟨⟨a1, a2⟩, ⟨c1, c2⟩, ⟨b1, b2⟩, _⟩ := isLat_iff.1 hl
  obtain ⟨⟨v1, v2⟩, v3, v4⟩ := mem_cells.1 hv
  unfold isVec
  rw [Bool.and_eq_true, within_iff, within_iff]
  omega
theorem red_self {l : Lat} (hl : isLat l = true) (v : V) : decide (red l v = v) = decide (v ∈ cells l) := by
  by_cases hv : v ∈ cells l
  · rw [decide_eq_true hv, decide_eq_true (red_cell hl hv)]
  · rw [decide_eq_false hv, decide_eq_false]
    intro e
    exact hv (e ▸ red_mem hl v)
/-! ### The order of motions -/
def keyM (m : Mot) : List Int := [m.1.1, m.1.2.1, m.1.2.2.1, m.1.2.2.2, m.2.1, m.2.2]
def mless (m n : Mot) : Bool := lexB (keyM m) (keyM n)
theorem keyM_inj {m n : Mot} (h : keyM m = keyM n) : m = n := by
  unfold keyM at h
  simp only [List.cons.injEq, and_true] at h
  obtain ⟨h1, h2, h3, h4, h5, h6⟩ := h
  exact Prod.ext (Prod.ext h1 (Prod.ext h2 (Prod.ext h3 h4))) (Prod.ext h5 h6)
theorem mless_irr (m : Mot) : mless m m = false := lexB_irr _
theorem mless_trans {a b c : Mot} (h1 : mless a b = true) (h2 : mless b c = true) : mless a c = true := lexB_trans _ _ _ h1 h2
theorem mless_tot {a b : Mot} (h1 : mless a b = false) (h2 : mless b a = false) : a = b := keyM_inj (lexB_total _ _ h1 h2)
theorem spec_l05Less_v (m n : Mot) : spec_l05Less m n = some (mless m n) := by
  rw [spec_l05Less_eq, spec_l02Less_eq, spec_l02Numbers_eq, spec_l02Numbers_eq, spec_l01Less_v]
  simp only [Option.bind_some]
  rw [spec_l01LessList_v _ _ (by simp)]
  have cs : ∀ b : Bool, (cond b (some true) (some false) : Option Bool) = some b := fun b => by cases b <;> rfl
  simp only [Option.bind_some, mless, keyM, lexB, vless, cs]
  by_cases h1 : m.1.1 = n.1.1 <;> by_cases h2 : m.1.2.1 = n.1.2.1 <;> by_cases h3 : m.1.2.2.1 = n.1.2.2.1 <;> by_cases h4 : m.1.2.2.2 = n.1.2.2.2 <;> by_cases h5 : m.2.1 = n.2.1 <;> by_cases h6 : m.2.2 = n.2.2 <;>
    simp [h1, h2, h3, h4, h5, h6, cs]
/-! ### Sorted lists of motions, searched -/
def IncM (xs : List Mot) : Prop := xs.Pairwise fun a b => mless a b = true
theorem IncM.nodup {xs : List Mot} (h : IncM xs) : xs.Nodup := h.imp fun {a b} hab e => by
  subst e; rw [mless_irr] at hab; cases hab
theorem mot_beq (c x : Mot) : (decide (c.1.1 = x.1.1) && (decide (c.1.2.1 = x.1.2.1) && (decide (c.1.2.2.1 = x.1.2.2.1) && (decide (c.1.2.2.2 = x.1.2.2.2) && (decide (c.2.1 = x.2.1) && (decide (c.2.2 = x.2.2) && true)))))) = decide (c = x) := by
  by_cases h : c = x
  · subst h; simp
  · rw [decide_eq_false h]
    by_cases h1 : c.1.1 = x.1.1 <;> by_cases h2 : c.1.2.1 = x.1.2.1 <;> by_cases h3 : c.1.2.2.1 = x.1.2.2.1 <;> by_cases h4 : c.1.2.2.2 = x.1.2.2.2 <;> by_cases h5 : c.2.1 = x.2.1 <;> by_cases h6 : c.2.2 = x.2.2 <;>
      first
      | exact (h (Prod.ext (Prod.ext h1 (Prod.ext h2 (Prod.ext h3 h4))) (Prod.ext h5 h6))).elim
      | simp [h1, h2, h3, h4, h5, h6]
theorem spec_place_loop {xs : List Mot} (hn : xs.length ≤ 1000000) (m : Mot) (hs : IncM xs) : ∀ (f lo hi : Nat), hi - lo ≤ f → lo ≤ hi → hi ≤ xs.length → (∀ j (hj : j < xs.length), j < lo → mless xs[j] m = true) → (∀ j (hj : j < xs.length), hi ≤ j → mless xs[j] m = false) →
    ∃ r : Nat, spec_l06Place_l0 xs (lo : Int) (hi : Int) m.1.1 m.1.2.1 m.1.2.2.1 m.1.2.2.2 m.2.1 m.2.2 = some (r : Int) ∧ r ≤ xs.length ∧ (∀ j (hj : j < xs.length), j < r → mless xs[j] m = true) ∧ (∀ j (hj : j < xs.length), r ≤ j → mless xs[j] m = false)
  | f, lo, hi, hf, hlh, hh, h1, h2 => by
    by_cases hlt : lo < hi
    · cases f with
      | zero => omega
      | succ f =>
        have hmid : IntKind.i64.wrap (Int.tdiv (IntKind.i64.wrap ((lo : Int) + (hi : Int))) 2) = (((lo + hi) / 2 : Nat) : Int) := by
          rw [w64 (x := (lo : Int) + hi) (by omega) (by omega), Int.tdiv_eq_ediv_of_nonneg (by omega), w64 (by omega) (by omega)]
          omega
        have hm1 : lo ≤ (lo + hi) / 2 := by omega
        have hm2 : (lo + hi) / 2 < hi := by omega
        have hmx : (lo + hi) / 2 < xs.length := by omega
        have e1 : spec_l05Less xs[(lo + hi) / 2] ((m.1.1, m.1.2.1, m.1.2.2.1, m.1.2.2.2), m.2.1, m.2.2) = some (mless xs[(lo + hi) / 2] m) := spec_l05Less_v _ m
        rw [spec_l06Place_l0_eq, decide_eq_true (by omega), show decide (2 = 0) = false from rfl, hmid, rd_lt hmx]
        simp only [cond_true, cond_false, Option.bind_some, e1, Option.bind_fun_some]
        cases hc : mless xs[(lo + hi) / 2] m with
        | true =>
          simp only [cond_true]
          rw [wN (by omega)]
          exact spec_place_loop hn m hs f ((lo + hi) / 2 + 1) hi (by omega) (by omega) hh (fun j hj hjl => by
            rcases Nat.lt_or_ge j ((lo + hi) / 2) with h | h
            · exact mless_trans ((List.pairwise_iff_getElem.1 hs) j ((lo + hi) / 2) hj hmx h) hc
            · have : j = (lo + hi) / 2 := by omega
              subst this; exact hc) h2
        | false =>
          simp only [cond_false]
          exact spec_place_loop hn m hs f lo ((lo + hi) / 2) (by omega) (by omega) (by omega) h1 fun j hj hjh => by
            rcases Nat.lt_or_ge ((lo + hi) / 2) j with h | h
            · cases hx : mless xs[j] m with
              | false => rfl
              | true =>
                have := mless_trans ((List.pairwise_iff_getElem.1 hs) ((lo + hi) / 2) j hmx hj h) hx
                rw [hc] at this; cases this
            · have : j = (lo + hi) / 2 := by omega
              subst this; exact hc
    · have : lo = hi := by omega
      subst this
      refine ⟨lo, ?_, hh, h1, h2⟩
      rw [spec_l06Place_l0_eq, decide_eq_false (by omega)]
      rfl
theorem spec_l06Has_v {xs : List Mot} (hn : xs.length ≤ 1000000) (hs : IncM xs) (m : Mot) : spec_l06Has xs m = some (decide (m ∈ xs)) := by
  obtain ⟨r, hr, hrl, h1, h2⟩ := spec_place_loop hn m hs xs.length 0 xs.length (by omega) (by omega) (by omega) (fun j hj h => by omega) (fun j hj h => by omega)
  rw [spec_l06Has_eq, spec_l06Place_eq, show (0 : Int) = ((0 : Nat) : Int) from rfl, hr]
  simp only [Option.bind_some]
  by_cases hlt : r < xs.length
  · rw [decide_eq_true (by omega), rd_lt hlt]
    simp only [cond_true, Option.bind_some]
    rw [mot_beq]
    by_cases he : xs[r] = m
    · rw [decide_eq_true he, decide_eq_true (he ▸ List.getElem_mem hlt)]; rfl
    · have hm : m ∉ xs := fun hm => by
        obtain ⟨j, hj, rfl⟩ := List.getElem_of_mem hm
        rcases Nat.lt_trichotomy j r with h | h | h
        · have := h1 j hj h
          rw [mless_irr] at this; cases this
        · subst h; exact he rfl
        · have := (List.pairwise_iff_getElem.1 hs) r j hlt hj h
          rw [h2 r hlt (Nat.le_refl _)] at this; cases this
      rw [decide_eq_false he, decide_eq_false hm]; rfl
  · have hm : m ∉ xs := fun hm => by
      obtain ⟨j, hj, rfl⟩ := List.getElem_of_mem hm
      have := h1 j hj (by omega)
      rw [mless_irr] at this; cases this
    rw [decide_eq_false (by omega), decide_eq_false hm]; rfl
/-! ### A map as a set -/
abbrev cM : Cd := .pair (.pair (.i .i64) (.pair (.i .i64) (.pair (.i .i64) (.i .i64)))) (.pair (.i .i64) (.i .i64))
def setM (xs : List Mot) : List (Mot × Bool) := xs.foldl (fun s m => mset cM .bool m true s) []
theorem mfind_set (k m : Mot) : ∀ es : List (Mot × Bool), mfind cM .bool k (mset cM .bool m true es) = if k = m then some true else mfind cM .bool k es
  | [] => by
    show cond (eqEl cM k m) (some true) none = _
    by_cases h : k = m
    · rw [eqEl_iff.2 h, if_pos h]; rfl
    · cases he : eqEl cM k m with
      | true => exact (h (eqEl_iff.1 he)).elim
      | false => rw [if_neg h]; rfl
  | e :: r => by
    unfold mset
    cases hm : eqEl cM m e.1 with
    | true =>
      have hme := eqEl_iff.1 hm
      simp only [cond_true, mfind]
      by_cases h : k = m
      · rw [eqEl_iff.2 h, if_pos h]; rfl
      · have h1 : eqEl cM k m = false := by
          cases he : eqEl cM k m with
          | true => exact (h (eqEl_iff.1 he)).elim
          | false => rfl
        rw [h1, if_neg h, ← hme, h1]
        rfl
    | false =>
      simp only [cond_false, mfind]
      cases hk : eqEl cM k e.1 with
      | true =>
        have hke := eqEl_iff.1 hk
        have : k ≠ m := fun h => by
          rw [← h, hk] at hm; cases hm
        rw [if_neg this]
        rfl
      | false =>
        simp only [cond_false]
        exact mfind_set k m r
theorem setM_has (k : Mot) : ∀ (xs : List Mot) (s : List (Mot × Bool)), Option.getD (mfind cM .bool k (xs.foldl (fun s m => mset cM .bool m true s) s)) false = (decide (k ∈ xs) || Option.getD (mfind cM .bool k s) false)
  | [], s => by simp
  | m :: r, s => by
    rw [List.foldl_cons, setM_has k r, mfind_set]
    by_cases h : k = m
    · subst h; simp
    · rw [if_neg h]
      have : decide (k ∈ m :: r) = decide (k ∈ r) := by simp [h]
      rw [this]
/-! ### Groups -/
theorem loop_all_st {S R : Type} {L : S → Int → Option R} (F : Nat → S) (n : Nat) (q : Nat → Bool) (good bad : R) (hs : ∀ k, k < n → L (F k) (k : Int) = if q k = true then L (F (k + 1)) ((k + 1 : Nat) : Int) else some bad) (hf : L (F n) (n : Int) = some good) :
    ∀ (d k : Nat), k + d = n → L (F k) (k : Int) = some (if (List.range' k d).all q = true then good else bad)
  | 0, k, hk => by
    rw [show k = n by omega, hf]; rfl
  | d + 1, k, hk => by
    rw [hs k (by omega), List.range'_succ, List.all_cons]
    cases hq : q k
    · rfl
    · rw [if_pos rfl, loop_all_st F n q good bad hs hf d (k + 1) (by omega)]
      rfl
def okM (f : Int) (l : Lat) (m : Mot) : Bool := decide (m.1 ∈ stableL f l) && decide (m.2 ∈ cells l)
def goodK (f : Int) (l : Lat) (xs : List Mot) (k : Nat) : Bool := okM f l (xs.getD k ((0, 0, 0, 0), 0, 0)) && (decide (k = 0) || mless (xs.getD (k - 1) ((0, 0, 0, 0), 0, 0)) (xs.getD k ((0, 0, 0, 0), 0, 0)))
def prodM (l : Lat) (m n : Mot) : Mot :=
  ((IntKind.i64.wrap (IntKind.i64.wrap (m.1.1 * n.1.1) + IntKind.i64.wrap (m.1.2.1 * n.1.2.2.1)), IntKind.i64.wrap (IntKind.i64.wrap (m.1.1 * n.1.2.1) + IntKind.i64.wrap (m.1.2.1 * n.1.2.2.2)),
    IntKind.i64.wrap (IntKind.i64.wrap (m.1.2.2.1 * n.1.1) + IntKind.i64.wrap (m.1.2.2.2 * n.1.2.2.1)), IntKind.i64.wrap (IntKind.i64.wrap (m.1.2.2.1 * n.1.2.1) + IntKind.i64.wrap (m.1.2.2.2 * n.1.2.2.2))), red l (wap m n.2))
def unitM : Mot := ((1, 0, 0, 1), 0, 0)
def goodL (f : Int) (l : Lat) (xs : List Mot) : Bool := (List.range' 0 xs.length).all (goodK f l xs)
def isGroupB (f : Int) (l : Lat) (xs : List Mot) : Bool := goodL f l xs && (decide (unitM ∈ xs) && xs.all fun m => xs.all fun n => decide (prodM l m n ∈ xs))
theorem goodL_inc {f : Int} {l : Lat} {xs : List Mot} (h : goodL f l xs = true) : (∀ m ∈ xs, m ∈ allM f l) ∧ IncM xs := by
  unfold goodL at h
  rw [List.all_eq_true] at h
  have hk : ∀ k, k < xs.length → goodK f l xs k = true := fun k hk => h k (by rw [List.mem_range'_1]; omega)
  have hget : ∀ k (hk : k < xs.length), xs.getD k ((0, 0, 0, 0), 0, 0) = xs[k] := fun k hk => by simp [List.getD, hk]
  refine ⟨fun m hm => ?_, ?_⟩
  · obtain ⟨k, hk1, rfl⟩ := List.getElem_of_mem hm
    have := hk k hk1
    unfold goodK okM at this
    rw [hget k hk1] at this
    simp only [Bool.and_eq_true, decide_eq_true_eq] at this
    unfold allM
    exact List.mem_flatMap.2 ⟨xs[k].1, this.1.1, List.mem_map.2 ⟨xs[k].2, this.1.2, rfl⟩⟩
  · have hadj : ∀ k (hk1 : k + 1 < xs.length), mless xs[k] xs[k + 1] = true := fun k hk1 => by
      have := hk (k + 1) hk1
      unfold goodK at this
      rw [hget _ hk1, Nat.add_sub_cancel, hget _ (by omega)] at this
      simp only [Bool.and_eq_true, Bool.or_eq_true, decide_eq_true_eq] at this
      rcases this.2 with h | h
      · omega
      · exact h
    have hall : ∀ (d i : Nat) (h2 : i + d + 1 < xs.length), mless (xs[i]'(by omega)) xs[i + d + 1] = true := by
      intro d
      induction d with
      | zero => intro i h2; exact hadj i h2
      | succ d ih => intro i h2; exact mless_trans (ih i (by omega)) (hadj (i + d + 1) (by omega))
    unfold IncM
    rw [List.pairwise_iff_getElem]
    intro i j hi hj hij
    have := hall (j - i - 1) i (by omega)
    have e : i + (j - i - 1) + 1 = j := by omega
    simp only [e] at this
    exact this
theorem pmats_12 {f : Int} (hf : f = 0 ∨ f = 1) : (pmats f).length ≤ 12 := by
  rcases hf with rfl | rfl <;> decide +kernel
theorem good_len {f : Int} (hf : f = 0 ∨ f = 1) {l : Lat} (hl : isLat l = true) {xs : List Mot} (h : goodL f l xs = true) : xs.length ≤ 768 := by
  obtain ⟨h1, h2⟩ := goodL_inc h
  have h3 := nodup_le xs (allM f l) h2.nodup h1
  have hn := (cells_len' hl).2
  have h4 := flatM_le (fun m => (cells l).map fun t => ((m, t) : Mot)) 64 (stableL f l) (fun m _ => by rw [List.length_map]; exact hn)
  have h5 : (stableL f l).length ≤ 12 := Nat.le_trans (List.length_filter_le _ _) (pmats_12 hf)
  unfold allM at h3
  omega
section goods
variable {f : Int} (hf : f = 0 ∨ f = 1) {l : Lat} (hl : isLat l = true) {xs : List Mot} (hn : xs.length ≤ 1048576)
include hf hl hn
theorem suit_reduced (m : Mot) : (suitB f l m && decide (m.2 ∈ cells l)) = okM f l m := by
  unfold suitB okM
  by_cases hc : m.2 ∈ cells l
  · rw [cells_vec hl hc, decide_eq_true hc, Bool.true_and, Bool.and_true, Bool.and_true]
    have : decide (m.1 ∈ stableL f l) = (pmB f m.1 && stB l m.1) := by
      rw [Bool.eq_iff_iff, decide_eq_true_iff, Bool.and_eq_true]
      unfold stableL
      rw [List.mem_filter, mem_pmats hf]
    rw [this]
  · rw [decide_eq_false hc, Bool.and_false, Bool.and_false]
end goods
end Go.Proofs.YtopigbmamejklaaGreatDoor

namespace Go.Proofs.YtopigbmamejklaaGreatDoor
open Ai
set_option linter.unusedSimpArgs false
set_option linter.unusedVariables false
set_option linter.unusedSectionVars false
section prods
variable {f : Int} (hf : f = 0 ∨ f = 1) {l : Lat} (hl : isLat l = true) {xs : List Mot} (hg : goodL f l xs = true)
include hf hl hg
theorem prod_sm {m n : Mot} (hm : m ∈ xs) (hn : n ∈ xs) : Sm (wap m n.2) := by
  obtain ⟨h1, _⟩ := goodL_inc hg
  have hn' := h1 n hn
  unfold allM at hn'
  obtain ⟨a, _, ht⟩ := List.mem_flatMap.1 hn'
  obtain ⟨t, ht1, rfl⟩ := List.mem_map.1 ht
  exact allM_suit hf hl (h1 m hm) t ht1
theorem spec_prod {m n : Mot} (hm : m ∈ xs) (hn : n ∈ xs) : (Option.bind (spec_l05Compose m n) fun y => spec_l06Reduce l y) = some (prodM l m n) := by
  have hs := prod_sm hf hl hg hm hn
  rw [spec_l05Compose_eq, spec_l02Multiply_eq, spec_l02Apply_eq]
  simp only [Option.bind_some, spec_l01Add_v]
  rw [spec_l06Reduce_eq]
  have := spec_l03Reduce_v l (wap m n.2) hl hs
  unfold wap at this
  simp only
  rw [this]
  rfl
end prods
end Go.Proofs.YtopigbmamejklaaGreatDoor

namespace Go.Proofs.YtopigbmamejklaaGreatDoor
open Ai
set_option linter.unusedSimpArgs false
set_option linter.unusedVariables false
theorem bezout : ∀ (n : Nat) (a b : Int), b.natAbs < n → ∃ x y : Int, (Int.gcd a b : Int) = a * x + b * y
  | 0, a, b, h => by omega
  | n + 1, a, b, h => by
    by_cases hb : b = 0
    · subst hb
      rcases Int.natAbs_eq a with h1 | h1
      · exact ⟨1, 0, by rw [Int.gcd_zero_right]; omega⟩
      · exact ⟨-1, 0, by rw [Int.gcd_zero_right]; omega⟩
    · obtain ⟨x, y, e⟩ := bezout n b (Int.tmod a b) (by
        have := Int.natAbs_tmod a b
        have h2 := Nat.mod_lt a.natAbs (show 0 < b.natAbs by omega)
        omega)
      rw [gcd_tmod] at e
      refine ⟨y, x - Int.tdiv a b * y, ?_⟩
      rw [e]
      have := Int.mul_tdiv_add_tmod a b
      grind
def Mod (s : Int × V) (w : V) : Prop := Sp s.2 (s.1, 0) w
theorem hStep_sp {s : Int × V} (i : HInv s) {v : V} (hv : Vs v) (w : V) : Mod (hStep s v) w ↔ ∃ k : Int, Mod s (vsub w (k * v.1, k * v.2)) := by
  have hz := (euc_gcd EU s.2 v (by have := hv.2; unfold EU; omega)).2
  have hsp := euc_sp EU s.2 v
  have ha := i.a
  unfold Mod hStep
  simp only
  generalize hE : euc EU s.2 v = e at hz hsp
  obtain ⟨g, hg⟩ : ∃ g : Int, g = (Int.gcd s.1 e.2.1 : Int) := ⟨_, rfl⟩
  have hgp : 0 < g := by
    have := (gcd_le_left s.1 e.2.1 ha.1).2
    omega
  obtain ⟨x, y, hb⟩ := bezout (e.2.1.natAbs + 1) s.1 e.2.1 (by omega)
  obtain ⟨c, hc⟩ : g ∣ s.1 := hg ▸ Int.gcd_dvd_left ..
  obtain ⟨d, hd⟩ : g ∣ e.2.1 := hg ▸ Int.gcd_dvd_right ..
  rw [← hg] at hb ⊢
  rw [if_pos hgp]
  have hm := Int.mul_ediv_add_emod e.1.1 g
  generalize e.1.1 / g = q at hm
  generalize e.1.1 % g = r at hm ⊢
  unfold Sp at hsp ⊢
  simp only [vsub]
  constructor
  · rintro ⟨a, b, h1, h2⟩
    obtain ⟨a', b', h3, h4⟩ := (hsp (a * e.1.1 + (b - a * q) * y * e.2.1, a * e.1.2 + (b - a * q) * y * e.2.2)).1 ⟨a, (b - a * q) * y, rfl, rfl⟩
    simp only at h3 h4 h1 h2
    refine ⟨b', a', (b - a * q) * x, ?_, ?_⟩ <;> grind
  · rintro ⟨k, a, b, h1, h2⟩
    obtain ⟨a', b', h3, h4⟩ := (hsp (a * s.2.1 + k * v.1, a * s.2.2 + k * v.2)).2 ⟨a, k, rfl, rfl⟩
    simp only at h3 h4 h1 h2
    refine ⟨a', a' * q + b' * d + b * c, ?_, ?_⟩ <;> grind
theorem fold_sp : ∀ (xs : List V) (s : Int × V), HInv s → (∀ v ∈ xs, Vs v) →
    (∀ w, Mod s w → Mod (xs.foldl hStep s) w) ∧ (∀ v ∈ xs, Mod (xs.foldl hStep s) v) ∧
    ∀ (Q : V → Prop), (∀ w, Mod s w → Q w) → (∀ v ∈ xs, ∀ (k : Int) w, Q (vsub w (k * v.1, k * v.2)) → Q w) → ∀ w, Mod (xs.foldl hStep s) w → Q w
  | [], s, _, _ => ⟨fun w h => h, fun v hv => (by cases hv), fun Q h1 _ w hw => h1 w hw⟩
  | v :: r, s, i, hx => by
    have hv := hx v (List.mem_cons_self ..)
    obtain ⟨h1, h2, h3⟩ := fold_sp r (hStep s v) (i.step hv).2 fun u hu => hx u (List.mem_cons_of_mem _ hu)
    have key := hStep_sp i hv
    refine ⟨fun w hw => h1 w ((key w).2 ⟨0, by simpa [vsub] using hw⟩), fun u hu => ?_, fun Q hq1 hq2 w hw => ?_⟩
    · rcases List.mem_cons.1 hu with rfl | hu
      · refine h1 u ((key u).2 ⟨1, 0, 0, ?_, ?_⟩) <;> simp [vsub]
      · exact h2 u hu
    · refine h3 Q (fun w hw => ?_) (fun u hu => hq2 u (List.mem_cons_of_mem _ hu)) w hw
      obtain ⟨k, hk⟩ := (key w).1 hw
      exact hq2 v (List.mem_cons_self ..) k w (hq1 _ hk)
theorem inL_mod {l : Lat} (w : V) : InL l w ↔ Mod (l.1, l.2) w := by
  unfold InL Mod Sp
  simp only [Int.mul_zero, Int.add_zero]
  constructor
  · rintro ⟨i, j, h1, h2⟩; exact ⟨j, i, by omega, h2⟩
  · rintro ⟨i, j, h1, h2⟩; exact ⟨j, i, by omega, h2⟩
theorem hinv_lat {l : Lat} (hl : isLat l = true) : HInv (l.1, l.2) := by
  obtain ⟨h1, h2, h3, h4⟩ := isLat_iff.1 hl
  exact ⟨⟨by show 0 < l.1; omega, by show l.1 ≤ 64; omega⟩, by show l.2.1.natAbs ≤ 64; omega, ⟨by show l.2.2 ≠ 0; omega, by show l.2.2.natAbs ≤ 64; omega⟩⟩
theorem latWith_in {l : Lat} (hl : isLat l = true) (xs : List V) (hx : ∀ v ∈ xs, Vs v) (w : V) : InL (latWith l xs) w ↔ Mod (xs.foldl hStep (l.1, l.2)) w := by
  have hi := (HInv.all xs _ (hinv_lat hl) hx).2
  unfold latWith
  generalize xs.foldl hStep (l.1, l.2) = s at hi ⊢
  have := latN_sp s.1 s.1 s.2 (by have := hi.a; omega) (by have := hi.a; omega) hi.y.1 w
  exact this
def Per (p : Pat) (t : V) : Prop := ∀ v, patAt p (vadd v t) = patAt p v
theorem per_lat {p : Pat} (hp : isPat p = true) {t : V} (h : InL p.2.1 t) : Per p t := fun v => by
  refine patAt_congr ((red_eq_iff (isPat_iff.1 hp).2.1).2 ?_)
  have : vsub (vadd v t) v = t := by unfold vsub vadd; ext <;> simp only <;> omega
  rw [this]; exact h
theorem Per.add {p : Pat} {s t : V} (h1 : Per p s) (h2 : Per p t) : Per p (vadd s t) := fun v => by
  have : vadd v (vadd s t) = vadd (vadd v s) t := by unfold vadd; ext <;> simp only <;> omega
  rw [this, h2, h1]
theorem Per.mul {p : Pat} {t : V} (h : Per p t) : ∀ k : Int, Per p (k * t.1, k * t.2) := by
  have hn : ∀ n : Nat, Per p ((n : Int) * t.1, (n : Int) * t.2) := by
    intro n
    induction n with
    | zero => intro v; congr 1; unfold vadd; ext <;> simp
    | succ n ih =>
      have := ih.add h
      have e : vadd ((n : Int) * t.1, (n : Int) * t.2) t = (((n + 1 : Nat) : Int) * t.1, ((n + 1 : Nat) : Int) * t.2) := by
        unfold vadd; ext <;> simp only <;> push_cast <;> grind
      rwa [e] at this
  intro k
  rcases Int.natAbs_eq k with e | e
  · rw [e]; exact hn _
  · intro v
    have := hn k.natAbs (vadd v (k * t.1, k * t.2))
    rw [← this]
    congr 1
    unfold vadd
    ext <;> simp only <;> grind
theorem vs_cell {l : Lat} (hl : isLat l = true) {t : V} (ht : t ∈ cells l) : Vs t := by
  obtain ⟨h1, h2⟩ := mem_cells.1 ht
  obtain ⟨h3, h4, h5, h6⟩ := isLat_iff.1 hl
  unfold Vs; omega
theorem keepsB_unit {p : Pat} (hp : isPat p = true) {t : V} (ht : t ∈ cells p.2.1) : keepsB p ((1, 0, 0, 1), t) = true ↔ Per p t := by
  have hl := (isPat_iff.1 hp).2.1
  unfold keepsB
  rw [List.all_eq_true]
  constructor
  · intro h v
    have hc := red_mem hl v
    have h1 := of_decide_eq_true (h _ hc)
    rw [wap_unit (cells_sm hl hc).1 (cells_sm hl ht).1] at h1
    have e1 : patAt p (red p.2.1 v) = patAt p v := patAt_congr (red_cell hl hc)
    have e2 : patAt p (vadd (red p.2.1 v) t) = patAt p (vadd v t) := by
      refine patAt_congr ((red_eq_iff hl).2 ?_)
      have := red_in hl v
      obtain ⟨i, j, h1, h2⟩ := this
      refine ⟨-i, -j, ?_, ?_⟩ <;> simp only [vsub, vadd] at h1 h2 ⊢ <;> grind
    rw [← e1, ← e2, h1]
  · intro h v hv
    rw [wap_unit (cells_sm hl hv).1 (cells_sm hl ht).1, h v]
    exact decide_eq_true rfl
theorem vsub_red {l : Lat} (hl : isLat l = true) (t : V) : InL l (vsub t (red l t)) := red_in hl t
theorem inL_full {p : Pat} (hp : isPat p = true) (t : V) : InL (fullOf p) t ↔ Per p t := by
  have hl := (isPat_iff.1 hp).2.1
  have hx := (fullOf_list hp).1
  unfold fullOf
  rw [latWith_in hl _ hx]
  obtain ⟨h1, h2, h3⟩ := fold_sp _ _ (hinv_lat hl) hx
  constructor
  · refine h3 (Per p) (fun w hw => per_lat hp ((inL_mod w).2 hw)) (fun v hv k w hw => ?_) t
    have hv' := List.mem_filter.1 hv
    have := hw.add (((keepsB_unit hp hv'.1).1 hv'.2).mul k)
    have e : vadd (vsub w (k * v.1, k * v.2)) (k * v.1, k * v.2) = w := by unfold vadd vsub; ext <;> simp only <;> omega
    rwa [e] at this
  · intro ht
    have hc := red_mem hl t
    have hr : Per p (red p.2.1 t) := fun v => by
      have h4 := per_lat hp (vsub_red hl t) (vadd v (red p.2.1 t))
      rw [← h4, ← ht v]
      congr 1
      unfold vadd vsub; ext <;> simp only <;> omega
    have h5 := h2 _ (List.mem_filter.2 ⟨hc, (keepsB_unit hp hc).2 hr⟩)
    rw [← latWith_in hl _ hx] at h5 ⊢
    have h6 := (latWith_in hl _ hx _).2 (h1 _ ((inL_mod _).1 (vsub_red hl t)))
    have := h5.lin h6 1 1
    have e : ((1 : Int) * (red p.2.1 t).1 + 1 * (vsub t (red p.2.1 t)).1, (1 : Int) * (red p.2.1 t).2 + 1 * (vsub t (red p.2.1 t)).2) = t := by
      unfold vsub; ext <;> simp only <;> omega
    rwa [e] at this
theorem lat_ext {l m : Lat} (hl : isLat l = true) (hm : isLat m = true) (h : ∀ w, InL l w ↔ InL m w) : l = m := by
  obtain ⟨l1, l2, l3, l4⟩ := isLat_iff.1 hl
  obtain ⟨m1, m2, m3, m4⟩ := isLat_iff.1 hm
  have dv : ∀ {a b i j k : Int}, 1 ≤ a → 1 ≤ b → a = i * b → b = j * a → a = b := by
    intro a b i j k ha hb h1 h2
    have d1 : b ∣ a := ⟨i, by rw [h1, Int.mul_comm]⟩
    have d2 : a ∣ b := ⟨j, by rw [h2, Int.mul_comm]⟩
    have := Int.le_of_dvd (by omega) d1
    have := Int.le_of_dvd (by omega) d2
    omega
  have one : ∀ {l m : Lat}, 1 ≤ l.2.2 → (∀ w, InL l w → InL m w) → 1 ≤ m.2.2 → (∃ i, l.1 = i * m.1) ∧ ∃ j, l.2.2 = j * m.2.2 := by
    intro l m hl h hm
    obtain ⟨i, j, h1, h2⟩ := h _ (InL.fst l)
    obtain ⟨i', j', h3, h4⟩ := h _ (InL.snd l)
    simp only at h1 h2 h3 h4
    have : j = 0 := by
      rcases Int.mul_eq_zero.1 h2.symm with h | h
      · exact h
      · omega
    subst this
    exact ⟨⟨i, by omega⟩, j', h4⟩
  obtain ⟨⟨i, hi⟩, j, hj⟩ := one (by omega) (fun w => (h w).1) (by omega)
  obtain ⟨⟨i', hi'⟩, j', hj'⟩ := one (by omega) (fun w => (h w).2) (by omega)
  have e1 : l.1 = m.1 := dv (k := 0) (by omega) (by omega) hi hi'
  have e3 : l.2.2 = m.2.2 := dv (k := 0) (by omega) (by omega) hj hj'
  have e2 : l.2.1 = m.2.1 := by
    obtain ⟨a, b, h3, h4⟩ := (h _).1 (InL.snd l)
    have hb : b = 1 := by
      rw [e3] at h4
      have : (b - 1) * m.2.2 = 0 := by rw [Int.sub_mul]; omega
      rcases Int.mul_eq_zero.1 this with h | h <;> omega
    subst hb
    have hd : m.1 ∣ (l.2.1 - m.2.1) := ⟨a, by rw [Int.mul_comm]; omega⟩
    have h0 : l.2.1 - m.2.1 = 0 := Int.eq_zero_of_dvd_of_natAbs_lt_natAbs hd (by omega)
    omega
  exact Prod.ext e1 (Prod.ext e2 e3)
theorem pat_ext {p q : Pat} (hp : isPat p = true) (hq : isPat q = true) (h1 : p.1 = q.1) (h2 : p.2.1 = q.2.1) (h : ∀ v, patAt p v = patAt q v) : p = q := by
  have cols : ∀ {p : Pat}, isPat p = true → p.2.2 = (cells p.2.1).map (patAt p) := by
    intro p hp
    have hl := (cells_len' (isPat_iff.1 hp).2.1).1
    have hn := (isPat_iff.1 hp).2.2.1
    apply List.ext_getElem
    · rw [List.length_map]; omega
    · intro i h1 h2
      rw [List.length_map] at h2
      have := patAt_cell hp h2
      rw [rd_lt h1, Option.some.injEq] at this
      rw [this, List.getElem_map]
  refine Prod.ext h1 (Prod.ext h2 ?_)
  rw [cols hp, cols hq, h2]
  exact List.map_congr_left fun v _ => h v
theorem patAt_onLat {p : Pat} (hp : isPat p = true) {l : Lat} (hl : isLat l = true) (h : ∀ t, InL l t → Per p t) (v : V) : patAt (onLat p l) v = patAt p v := by
  obtain ⟨hn, hc⟩ := cells_num hl v
  have : patAt (onLat p l) v = patAt p (red l v) := by
    unfold patAt
    show List.getD ((cells l).map (patAt p)) (num l v) 0 = _
    rw [List.getD_eq_getElem?_getD, List.getElem?_map, List.getElem?_eq_getElem hn, hc]
    rfl
  rw [this]
  have := h _ (red_in hl v) (red l v)
  rw [← this]
  congr 1
  unfold vadd vsub; ext <;> simp only <;> omega
theorem patAt_lean {p : Pat} (hp : isPat p = true) (v : V) : patAt (onLat p (fullOf p)) v = patAt p v :=
  patAt_onLat hp (isLat_fullOf hp) (fun t ht => (inL_full hp t).1 ht) v
theorem isPat_lean {p : Pat} (hp : isPat p = true) : isPat (onLat p (fullOf p)) = true := isPat_onLat hp (isLat_fullOf hp)
theorem full_congr {p q : Pat} (hp : isPat p = true) (hq : isPat q = true) (h : ∀ v, patAt p v = patAt q v) : fullOf p = fullOf q := by
  refine lat_ext (isLat_fullOf hp) (isLat_fullOf hq) fun w => ?_
  rw [inL_full hp, inL_full hq]
  unfold Per
  constructor <;> intro h1 v <;> have := h1 v <;> simp only [h] at this ⊢ <;> exact this
theorem full_lean {p : Pat} (hp : isPat p = true) : fullOf (onLat p (fullOf p)) = fullOf p := full_congr (isPat_lean hp) hp (patAt_lean hp)
theorem onLat_congr {p q : Pat} (h1 : p.1 = q.1) (h : ∀ v, patAt p v = patAt q v) (l : Lat) : onLat p l = onLat q l := by
  unfold onLat
  rw [h1, List.map_congr_left fun v _ => h v]
theorem lean_eq_iff {p q : Pat} (hp : isPat p = true) (hq : isPat q = true) : onLat p (fullOf p) = onLat q (fullOf q) ↔ p.1 = q.1 ∧ ∀ v, patAt p v = patAt q v := by
  constructor
  · intro h
    refine ⟨by have := congrArg (fun x : Pat => x.1) h; exact this, fun v => ?_⟩
    rw [← patAt_lean hp, ← patAt_lean hq, h]
  · rintro ⟨h1, h2⟩
    rw [full_congr hp hq h2]
    exact onLat_congr h1 h2 _
theorem lean_lean {p : Pat} (hp : isPat p = true) : onLat (onLat p (fullOf p)) (fullOf (onLat p (fullOf p))) = onLat p (fullOf p) :=
  (lean_eq_iff (isPat_lean hp) hp).2 ⟨rfl, patAt_lean hp⟩
theorem sameP_iff {p q : Pat} : sameP p q = true ↔ p = q := by
  unfold sameP
  simp only [Bool.and_eq_true, decide_eq_true_eq]
  constructor
  · rintro ⟨⟨h1, h2⟩, h3⟩; exact Prod.ext h1 (Prod.ext h2 h3)
  · rintro rfl; exact ⟨⟨rfl, rfl⟩, rfl⟩
theorem sameP_self (p : Pat) : sameP p p = true := sameP_iff.2 rfl
theorem moved_back {p : Pat} (hp : isPat p = true) {m : Mat4} (hm : Pm m) (t : V) : moved (moved p m t) (minv m) (vneg (mapp (minv m) t)) = p := by
  have hl := (isPat_iff.1 hp).2.1
  have hq := isPat_moved hp hm t
  have hi := minv_pm hm
  refine pat_ext (isPat_moved hq hi _) hp rfl ?_ fun v => ?_
  · show imgL (minv m) (imgL m p.2.1) = p.2.1
    refine lat_ext (isLat_imgL (isLat_imgL hl hm).1 hi).1 hl fun w => ?_
    have e : w = mapp (minv m) (mapp m w) := (minv_left hm.det w).symm
    have h1 : InL (imgL (minv m) (imgL m p.2.1)) (mapp (minv m) (mapp m w)) ↔ InL (imgL m p.2.1) (mapp m w) := inL_mapp (isLat_imgL hl hm).1 hi (mapp m w)
    rw [← e] at h1
    exact h1.trans (inL_mapp hl hm w)
  · rw [patAt_moved hq hi, patAt_moved hp hm]
    congr 1
    have e : mapp (minv (minv m)) (vsub v (vneg (mapp (minv m) t))) = vadd (mapp m v) t := by
      have h1 : vsub v (vneg (mapp (minv m) t)) = mapp (minv m) (vadd (mapp m v) t) := by
        have h2 := minv_left hm.det v
        rw [show vsub v (vneg (mapp (minv m) t)) = vadd v (mapp (minv m) t) by unfold vsub vneg vadd; ext <;> simp only <;> omega]
        conv => lhs; rw [← h2]
        unfold vadd mapp; ext <;> simp only <;> grind
      rw [h1, minv_left hi.det]
    rw [e]
    have h3 : vsub (vadd (mapp m v) t) t = mapp m v := by unfold vsub vadd; ext <;> simp only <;> omega
    rw [h3, minv_left hm.det]
end Go.Proofs.YtopigbmamejklaaGreatDoor

namespace Go.Proofs.YtopigbmamejklaaGreatDoor
open Ai
set_option linter.unusedSimpArgs false
set_option linter.unusedVariables false
def mmul (m n : Mat4) : Mat4 := (m.1 * n.1 + m.2.1 * n.2.2.1, m.1 * n.2.1 + m.2.1 * n.2.2.2, m.2.2.1 * n.1 + m.2.2.2 * n.2.2.1, m.2.2.1 * n.2.1 + m.2.2.2 * n.2.2.2)
theorem mapp_mmul (m n : Mat4) (v : V) : mapp (mmul m n) v = mapp m (mapp n v) := by
  unfold mapp mmul; ext <;> simp only <;> grind
theorem mapp_add (m : Mat4) (u v : V) : mapp m (vadd u v) = vadd (mapp m u) (mapp m v) := by
  unfold mapp vadd; ext <;> simp only <;> grind
theorem mmul_closed {f : Int} (hf : f = 0 ∨ f = 1) {m n : Mat4} (hm : m ∈ pmats f) (hn : n ∈ pmats f) : mmul m n ∈ pmats f := by
  have key : ∀ f : Int, (f = 0 ∨ f = 1) → (pmats f).all (fun m => (pmats f).all fun n => decide (mmul m n ∈ pmats f)) = true := by
    rintro f (rfl | rfl) <;> decide +kernel
  exact of_decide_eq_true (List.all_eq_true.1 (List.all_eq_true.1 (key f hf) m hm) n hn)
theorem minv_closed {f : Int} (hf : f = 0 ∨ f = 1) {m : Mat4} (hm : m ∈ pmats f) : minv m ∈ pmats f := by
  have key : ∀ f : Int, (f = 0 ∨ f = 1) → (pmats f).all (fun m => decide (minv m ∈ pmats f)) = true := by
    rintro f (rfl | rfl) <;> decide +kernel
  exact of_decide_eq_true (List.all_eq_true.1 (key f hf) m hm)
theorem minv_mmul {m n : Mat4} (hm : Pm m) (hn : Pm n) (hk : Pm (mmul n m)) (w : V) : mapp (minv (mmul n m)) w = mapp (minv m) (mapp (minv n) w) := by
  have e : w = mapp (mmul n m) (mapp (minv m) (mapp (minv n) w)) := by
    rw [mapp_mmul, minv_right hm.det, minv_right hn.det]
  conv => lhs; rw [e]
  rw [minv_left hk.det]
theorem moved_moved {p : Pat} (hp : isPat p = true) {m n : Mat4} (hm : Pm m) (hn : Pm n) (hk : Pm (mmul n m)) (t u : V) : moved (moved p m t) n u = moved p (mmul n m) (vadd (mapp n t) u) := by
  have hl := (isPat_iff.1 hp).2.1
  have hq := isPat_moved hp hm t
  have hlm := (isLat_imgL hl hm).1
  refine pat_ext (isPat_moved hq hn u) (isPat_moved hp hk _) rfl ?_ fun v => ?_
  · show imgL n (imgL m p.2.1) = imgL (mmul n m) p.2.1
    refine lat_ext (isLat_imgL hlm hn).1 (isLat_imgL hl hk).1 fun w => ?_
    refine (inL_minv hlm hn w).trans ((inL_minv hl hm _).trans ?_)
    rw [← minv_mmul hm hn hk]
    exact (inL_minv hl hk w).symm
  · rw [patAt_moved hq hn, patAt_moved hp hm, patAt_moved hp hk, minv_mmul hm hn hk]
    have e : vsub v (vadd (mapp n t) u) = vsub (vsub v u) (mapp n t) := by unfold vsub vadd; ext <;> simp only <;> omega
    have e2 : mapp (minv n) (vsub (vsub v u) (mapp n t)) = vsub (mapp (minv n) (vsub v u)) t := by rw [mapp_sub (minv n) (vsub v u), minv_left hn.det]
    rw [e, e2]
theorem moved_unit {p : Pat} (hp : isPat p = true) : moved p m1 (0, 0) = p := by
  refine pat_ext (isPat_moved hp pm_unit _) hp rfl (imgL_unit (isPat_iff.1 hp).2.1) fun v => ?_
  rw [patAt_moved hp pm_unit, minv_unit, mapp_unit]
  congr 1
  unfold vsub; ext <;> simp
theorem mem_imgs2 {a : Pat} (ha : isPat a = true) {f : Int} (hf : f = 0 ∨ f = 1) (x : Pat) : x ∈ imgs2 a (pmats f) ↔ ∃ m ∈ pmats f, ∃ t, moved a m t = x := by
  unfold imgs2
  constructor
  · intro h
    obtain ⟨m, hm, h⟩ := List.mem_flatMap.1 h
    obtain ⟨t, _, h⟩ := List.mem_map.1 h
    exact ⟨m, hm, t, h⟩
  · rintro ⟨m, hm, t, rfl⟩
    have hpm := pmats_pm hf hm
    have hl := (isLat_imgL (isPat_iff.1 ha).2.1 hpm).1
    refine List.mem_flatMap.2 ⟨m, hm, List.mem_map.2 ⟨red (imgL m a.2.1) t, red_mem hl t, ?_⟩⟩
    refine moved_congr ha hpm ?_
    have := red_in hl t
    obtain ⟨i, j, h1, h2⟩ := this
    refine ⟨-i, -j, ?_, ?_⟩ <;> simp only [vsub] at h1 h2 ⊢ <;> grind
theorem imgs2_moved {a : Pat} (ha : isPat a = true) {f : Int} (hf : f = 0 ∨ f = 1) {m : Mat4} (hm : m ∈ pmats f) (t : V) (x : Pat) : x ∈ imgs2 (moved a m t) (pmats f) ↔ x ∈ imgs2 a (pmats f) := by
  have hpm := pmats_pm hf hm
  have hb := isPat_moved ha hpm t
  rw [mem_imgs2 hb hf, mem_imgs2 ha hf]
  constructor
  · rintro ⟨n, hn, u, rfl⟩
    have hk := mmul_closed hf hn hm
    exact ⟨_, hk, _, (moved_moved ha hpm (pmats_pm hf hn) (pmats_pm hf hk) t u).symm⟩
  · rintro ⟨n, hn, u, rfl⟩
    have hi := minv_closed hf hm
    have hk := mmul_closed hf hn hi
    have e := moved_moved hb (pmats_pm hf hi) (pmats_pm hf hn) (pmats_pm hf hk) (vneg (mapp (minv m) t)) u
    rw [moved_back ha hpm t] at e
    exact ⟨_, hk, _, e.symm⟩
theorem hit_iff {a b : Pat} (ha : isPat a = true) {f : Int} (hf : f = 0 ∨ f = 1) : ((pmats f).findSome? (hitM a b)).isSome = true ↔ ∃ m ∈ pmats f, ∃ t, moved a m t = b := by
  constructor
  · intro h
    obtain ⟨r, hr⟩ := Option.isSome_iff_exists.1 h
    obtain ⟨m, hm, h1⟩ := List.exists_of_findSome?_eq_some hr
    unfold hitM at h1
    obtain ⟨t, h2, _⟩ := Option.map_eq_some_iff.1 h1
    exact ⟨m, hm, t, sameP_iff.1 (List.find?_some (p := fun t => sameP (moved a m t) b) h2)⟩
  · rintro ⟨m, hm, t, rfl⟩
    cases h : (pmats f).findSome? (hitM a (moved a m t)) with
    | some r => rfl
    | none =>
      exfalso
      rw [List.findSome?_eq_none_iff] at h
      have h1 := h m hm
      unfold hitM at h1
      rw [Option.map_eq_none_iff, List.find?_eq_none] at h1
      have hpm := pmats_pm hf hm
      have hl := (isLat_imgL (isPat_iff.1 ha).2.1 hpm).1
      refine h1 _ (red_mem hl t) (sameP_iff.2 (moved_congr ha hpm ?_))
      obtain ⟨i, j, h1, h2⟩ := red_in hl t
      refine ⟨-i, -j, ?_, ?_⟩ <;> simp only [vsub] at h1 h2 ⊢ <;> grind
theorem hit_some {a b : Pat} {f : Int} {r : Mot} (h : (pmats f).findSome? (hitM a b) = some r) : r.1 ∈ pmats f ∧ r.2 ∈ cells b.2.1 ∧ moved a r.1 r.2 = b := by
  obtain ⟨m, hm, h1⟩ := List.exists_of_findSome?_eq_some h
  unfold hitM at h1
  obtain ⟨t, h2, h3⟩ := Option.map_eq_some_iff.1 h1
  subst h3
  exact ⟨hm, List.mem_of_find?_eq_some h2, sameP_iff.1 (List.find?_some (p := fun t => sameP (moved a m t) b) h2)⟩
theorem patAt_moved_lean {p : Pat} (hp : isPat p = true) {m : Mat4} (hm : Pm m) (t v : V) : patAt (moved (onLat p (fullOf p)) m t) v = patAt (moved p m t) v := by
  rw [patAt_moved (isPat_lean hp) hm, patAt_moved hp hm, patAt_lean hp]
end Go.Proofs.YtopigbmamejklaaGreatDoor

namespace Go.Proofs.YtopigbmamejklaaGreatDoor
open Ai
set_option linter.unusedSimpArgs false
set_option linter.unusedVariables false
def key4 (m : Mat4) : List Int := [m.1, m.2.1, m.2.2.1, m.2.2.2]
theorem pmats_inc {f : Int} (hf : f = 0 ∨ f = 1) : (pmats f).Pairwise fun a b => lexB (key4 a) (key4 b) = true := by
  rcases hf with rfl | rfl <;> decide +kernel
theorem lexB_app : ∀ (a b c d : List Int), a.length = b.length → lexB a b = true → lexB (a ++ c) (b ++ d) = true
  | [], [], c, d, _, h => by simp [lexB] at h
  | x :: a, y :: b, c, d, hl, h => by
    show (if x = y then lexB (a ++ c) (b ++ d) else decide (x < y)) = true
    have h' : (if x = y then lexB a b else decide (x < y)) = true := h
    by_cases e : x = y
    · rw [if_pos e] at h' ⊢
      exact lexB_app a b c d (by simpa using hl) h'
    · rw [if_neg e] at h' ⊢
      exact h'
  | [], y :: b, c, d, hl, h => by simp at hl
  | x :: a, [], c, d, hl, h => by simp at hl
theorem lexB_pre : ∀ (a c d : List Int), lexB (a ++ c) (a ++ d) = lexB c d
  | [], c, d => rfl
  | x :: a, c, d => by
    show (if x = x then lexB (a ++ c) (a ++ d) else decide (x < x)) = _
    rw [if_pos rfl, lexB_pre a c d]
theorem cells_inc (l : Lat) : (cells l).Pairwise fun u v => lexB [u.1, u.2] [v.1, v.2] = true := by
  unfold cells
  rw [List.pairwise_flatMap]
  refine ⟨fun x _ => List.pairwise_map.2 (List.pairwise_lt_range.imp fun {a b} hab => ?_), List.pairwise_lt_range.imp fun {a b} hab u hu v hv => ?_⟩
  · show (if (x : Int) = (x : Int) then (if (a : Int) = (b : Int) then _ else decide ((a : Int) < (b : Int))) else _) = true
    rw [if_pos rfl, if_neg (by omega)]
    exact decide_eq_true (by omega)
  · obtain ⟨i, _, rfl⟩ := List.mem_map.1 hu
    obtain ⟨j, _, rfl⟩ := List.mem_map.1 hv
    show (if (a : Int) = (b : Int) then _ else decide ((a : Int) < (b : Int))) = true
    rw [if_neg (by omega)]
    exact decide_eq_true (by omega)
theorem keyM_app (m : Mot) : keyM m = key4 m.1 ++ [m.2.1, m.2.2] := rfl
theorem allM_inc {f : Int} (hf : f = 0 ∨ f = 1) (l : Lat) : IncM (allM f l) := by
  unfold IncM allM
  rw [List.pairwise_flatMap]
  refine ⟨fun m _ => List.pairwise_map.2 ((cells_inc l).imp fun {a b} hab => ?_), ((pmats_inc hf).filter _).imp fun {a b} hab u hu v hv => ?_⟩
  · unfold mless
    rw [keyM_app, keyM_app, lexB_pre]; exact hab
  · obtain ⟨s, _, rfl⟩ := List.mem_map.1 hu
    obtain ⟨t, _, rfl⟩ := List.mem_map.1 hv
    unfold mless
    rw [keyM_app, keyM_app]
    exact lexB_app _ _ _ _ rfl hab
theorem mem_allM {f : Int} {l : Lat} {m : Mot} : m ∈ allM f l ↔ m.1 ∈ stableL f l ∧ m.2 ∈ cells l := by
  unfold allM
  constructor
  · intro h
    obtain ⟨a, ha, h⟩ := List.mem_flatMap.1 h
    obtain ⟨t, ht, rfl⟩ := List.mem_map.1 h
    exact ⟨ha, ht⟩
  · exact fun h => List.mem_flatMap.2 ⟨m.1, h.1, List.mem_map.2 ⟨m.2, h.2, rfl⟩⟩
theorem inc_goodL {f : Int} {l : Lat} {xs : List Mot} (hi : IncM xs) (hm : ∀ m ∈ xs, m ∈ allM f l) : goodL f l xs = true := by
  unfold goodL
  rw [List.all_eq_true]
  intro k hk
  rw [List.mem_range'_1] at hk
  have hk1 : k < xs.length := by omega
  have hget : ∀ k (hk : k < xs.length), xs.getD k ((0, 0, 0, 0), 0, 0) = xs[k] := fun k hk => by simp [List.getD, hk]
  unfold goodK okM
  rw [hget k hk1]
  obtain ⟨h1, h2⟩ := mem_allM.1 (hm _ (List.getElem_mem hk1))
  rw [decide_eq_true h1, decide_eq_true h2]
  simp only [Bool.and_self, Bool.true_and, Bool.or_eq_true, decide_eq_true_eq]
  by_cases h0 : k = 0
  · exact .inl h0
  · right
    rw [hget (k - 1) (by omega)]
    exact List.pairwise_iff_getElem.1 hi (k - 1) k (by omega) hk1 (by omega)
theorem filter_good {f : Int} (hf : f = 0 ∨ f = 1) (l : Lat) (q : Mot → Bool) : goodL f l ((allM f l).filter q) = true :=
  inc_goodL ((allM_inc hf l).filter q) fun m hm => (List.mem_filter.1 hm).1
/-! ### What a motion does -/
def act (m : Mot) (v : V) : V := vadd (mapp m.1 v) m.2
theorem stB_in {l : Lat} (hl : isLat l = true) {m : Mat4} (h : stB l m = true) {w : V} (hw : InL l w) : InL l (mapp m w) := by
  unfold stB at h
  rw [Bool.and_eq_true, decide_eq_true_iff, decide_eq_true_iff, inL_iff hl, inL_iff hl] at h
  obtain ⟨i, j, h1, h2⟩ := hw
  have h3 := h.1.lin h.2 i j
  have e : mapp m w = (i * (mapp m (l.1, 0)).1 + j * (mapp m l.2).1, i * (mapp m (l.1, 0)).2 + j * (mapp m l.2).2) := by
    rw [← mapp_lin]
    congr 1
    ext
    · simp only; exact h1
    · simp only; rw [h2]; simp
  rw [e]; exact h3
theorem stable_st {f : Int} {l : Lat} {m : Mat4} (h : m ∈ stableL f l) : m ∈ pmats f ∧ stB l m = true := List.mem_filter.1 h
theorem st_of {l : Lat} (hl : isLat l = true) {m : Mat4} (h : ∀ w, InL l w → InL l (mapp m w)) : stB l m = true := by
  unfold stB
  rw [Bool.and_eq_true, decide_eq_true_iff, decide_eq_true_iff, inL_iff hl, inL_iff hl]
  exact ⟨h _ (InL.fst l), h _ (InL.snd l)⟩
theorem stable_mul {f : Int} (hf : f = 0 ∨ f = 1) {l : Lat} (hl : isLat l = true) {m n : Mat4} (hm : m ∈ stableL f l) (hn : n ∈ stableL f l) : mmul m n ∈ stableL f l := by
  obtain ⟨m1, m2⟩ := stable_st hm
  obtain ⟨n1, n2⟩ := stable_st hn
  refine List.mem_filter.2 ⟨mmul_closed hf m1 n1, st_of hl fun w hw => ?_⟩
  rw [mapp_mmul]
  exact stB_in hl m2 (stB_in hl n2 hw)
theorem stable_unit {f : Int} (hf : f = 0 ∨ f = 1) {l : Lat} (hl : isLat l = true) : m1 ∈ stableL f l :=
  List.mem_filter.2 ⟨unit_mem hf, st_of hl fun w hw => by rw [mapp_unit]; exact hw⟩
theorem zero_cell {l : Lat} (hl : isLat l = true) : ((0, 0) : V) ∈ cells l := by
  obtain ⟨h1, h2, h3, h4⟩ := isLat_iff.1 hl
  exact mem_cells.2 ⟨⟨by simp, by show 0 < l.1; omega⟩, by simp, by show 0 < l.2.2; omega⟩
theorem unit_allM {f : Int} (hf : f = 0 ∨ f = 1) {l : Lat} (hl : isLat l = true) : unitM ∈ allM f l := mem_allM.2 ⟨stable_unit hf hl, zero_cell hl⟩
theorem wap_act {f : Int} (hf : f = 0 ∨ f = 1) {l : Lat} (hl : isLat l = true) {m : Mot} (hm : m ∈ allM f l) {v : V} (hv : Ss v) : wap m v = act m v := by
  obtain ⟨h1, h2⟩ := mem_allM.1 hm
  exact (wap_pm (stable_pm hf h1) hv (cells_ss hl h2)).1
theorem unit_prod {a b : Int} (ha : Unit1 a) (hb : Unit1 b) : Unit1 (a * b) := by
  unfold Unit1 at *
  rcases unit_mul (x := b) ha with h | h | h <;> rw [h] <;> omega
theorem prodM_eq {f : Int} (hf : f = 0 ∨ f = 1) {l : Lat} (hl : isLat l = true) {m n : Mot} (hm : m ∈ allM f l) (hn : n ∈ allM f l) : prodM l m n = (mmul m.1 n.1, red l (act m n.2)) := by
  have pm := stable_pm hf (mem_allM.1 hm).1
  have pn := stable_pm hf (mem_allM.1 hn).1
  have w : ∀ {a b c d : Int}, Unit1 a → Unit1 b → Unit1 c → Unit1 d → IntKind.i64.wrap (IntKind.i64.wrap (a * b) + IntKind.i64.wrap (c * d)) = a * b + c * d := by
    intro a b c d ha hb hc hd
    have h1 := unit_prod ha hb
    have h2 := unit_prod hc hd
    unfold Unit1 at h1 h2
    rw [w64 (x := a * b) (by omega) (by omega), w64 (x := c * d) (by omega) (by omega), w64 (by omega) (by omega)]
  unfold prodM
  rw [wap_act hf hl hm (cells_ss hl (mem_allM.1 hn).2), w pm.a pn.a pm.b pn.c, w pm.a pn.b pm.b pn.d, w pm.c pn.a pm.d pn.c, w pm.c pn.b pm.d pn.d]
  rfl
theorem prod_allM {f : Int} (hf : f = 0 ∨ f = 1) {l : Lat} (hl : isLat l = true) {m n : Mot} (hm : m ∈ allM f l) (hn : n ∈ allM f l) : prodM l m n ∈ allM f l := by
  rw [prodM_eq hf hl hm hn]
  exact mem_allM.2 ⟨stable_mul hf hl (mem_allM.1 hm).1 (mem_allM.1 hn).1, red_mem hl _⟩
theorem act_prod {f : Int} (hf : f = 0 ∨ f = 1) {l : Lat} (hl : isLat l = true) {m n : Mot} (hm : m ∈ allM f l) (hn : n ∈ allM f l) (v : V) : red l (act (prodM l m n) v) = red l (act m (act n v)) := by
  rw [prodM_eq hf hl hm hn, red_eq_iff hl]
  obtain ⟨i, j, h1, h2⟩ := red_in hl (act m n.2)
  refine ⟨-i, -j, ?_, ?_⟩ <;> simp only [act, vsub, vadd, mapp_mmul] at h1 h2 ⊢ <;> simp only [mapp] at h1 h2 ⊢ <;> grind
theorem act_red {f : Int} {l : Lat} (hl : isLat l = true) {m : Mot} (hm : m ∈ allM f l) (v : V) : red l (act m (red l v)) = red l (act m v) := by
  rw [red_eq_iff hl]
  have h := stB_in hl (stable_st (mem_allM.1 hm).1).2 (red_in hl v)
  obtain ⟨i, j, h1, h2⟩ := h
  refine ⟨-i, -j, ?_, ?_⟩ <;> simp only [act, vsub, vadd] at h1 h2 ⊢ <;> simp only [mapp] at h1 h2 ⊢ <;> grind
theorem act_congr {f : Int} {l : Lat} (hl : isLat l = true) {m : Mot} (hm : m ∈ allM f l) {u v : V} (h : red l u = red l v) : red l (act m u) = red l (act m v) := by
  rw [← act_red hl hm u, h, act_red hl hm v]
/-! ### Motions that keep a pattern -/
def KeepP (p : Pat) (m : Mot) : Prop := ∀ v, patAt p (act m v) = patAt p v
theorem keepsB_iff {p : Pat} (hp : isPat p = true) {m : Mot} (hm : m ∈ allM p.1 p.2.1) : keepsB p m = true ↔ KeepP p m := by
  have hl := (isPat_iff.1 hp).2.1
  have hf := isFrame_iff.1 (isPat_iff.1 hp).1
  unfold keepsB
  rw [List.all_eq_true]
  constructor
  · intro h v
    have hc := red_mem hl v
    have h1 := of_decide_eq_true (h _ hc)
    rw [wap_act hf hl hm (cells_ss hl hc)] at h1
    rw [← patAt_congr (act_red hl hm v), h1]
    exact patAt_congr (red_cell hl hc)
  · intro h v hv
    rw [wap_act hf hl hm (cells_ss hl hv), h v]
    exact decide_eq_true rfl
theorem KeepP.prod {p : Pat} (hp : isPat p = true) {m n : Mot} (hm : m ∈ allM p.1 p.2.1) (hn : n ∈ allM p.1 p.2.1) (h1 : KeepP p m) (h2 : KeepP p n) : KeepP p (prodM p.2.1 m n) := fun v => by
  have hl := (isPat_iff.1 hp).2.1
  have hf := isFrame_iff.1 (isPat_iff.1 hp).1
  rw [patAt_congr (act_prod hf hl hm hn v), h1, h2]
theorem act_unit (v : V) : act unitM v = v := by
  unfold act
  rw [show unitM.1 = m1 from rfl, mapp_unit]
  unfold vadd unitM; ext <;> simp
theorem group_of {f : Int} (hf : f = 0 ∨ f = 1) {l : Lat} (hl : isLat l = true) (q : Mot → Bool) (hu : q unitM = true) (hc : ∀ m n, m ∈ allM f l → n ∈ allM f l → q m = true → q n = true → q (prodM l m n) = true) : isGroupB f l ((allM f l).filter q) = true := by
  unfold isGroupB
  rw [filter_good hf l q, Bool.true_and, Bool.and_eq_true, decide_eq_true_iff, List.all_eq_true]
  refine ⟨List.mem_filter.2 ⟨unit_allM hf hl, hu⟩, fun m hm => ?_⟩
  rw [List.all_eq_true]
  intro n hn
  obtain ⟨a1, a2⟩ := List.mem_filter.1 hm
  obtain ⟨b1, b2⟩ := List.mem_filter.1 hn
  exact decide_eq_true (List.mem_filter.2 ⟨prod_allM hf hl a1 b1, hc m n a1 b1 a2 b2⟩)
theorem groupG_filter (p : Pat) : groupG p = (allM p.1 p.2.1).filter (keepsB p) := by
  unfold allM groupG keptM
  rw [List.filter_flatMap]
theorem group_keep {p : Pat} (hp : isPat p = true) : isGroupB p.1 p.2.1 (groupG p) = true := by
  have hl := (isPat_iff.1 hp).2.1
  have hf := isFrame_iff.1 (isPat_iff.1 hp).1
  rw [groupG_filter]
  refine group_of hf hl _ ((keepsB_iff hp (unit_allM hf hl)).2 fun v => by rw [act_unit]) fun m n hm hn h1 h2 => ?_
  exact (keepsB_iff hp (prod_allM hf hl hm hn)).2 (((keepsB_iff hp hm).1 h1).prod hp hm hn ((keepsB_iff hp hn).1 h2))
end Go.Proofs.YtopigbmamejklaaGreatDoor

namespace Go.Proofs.YtopigbmamejklaaGreatDoor
open Ai
set_option linter.unusedSimpArgs false
set_option linter.unusedVariables false
def Ok1 {R : Type} (o : Option R) (P : R → Prop) : Prop := ∃ r, o = some r ∧ P r
theorem Ok1.some {R : Type} {r : R} {P : R → Prop} (h : P r) : Ok1 (some r) P := ⟨r, rfl, h⟩
theorem Ok1.bind {A R : Type} {o : Option A} {k : A → Option R} {P : A → Prop} {Q : R → Prop} (h : Ok1 o P) (hk : ∀ a, P a → Ok1 (k a) Q) : Ok1 (Option.bind o k) Q := by
  obtain ⟨a, rfl, ha⟩ := h
  exact hk a ha
theorem Ok1.cond {R : Type} {b : Bool} {x y : Option R} {P : R → Prop} (h1 : b = true → Ok1 x P) (h2 : b = false → Ok1 y P) : Ok1 (_root_.cond b x y) P := by
  cases b
  · exact h2 rfl
  · exact h1 rfl
theorem Ok1.chk {R : Type} {b : Bool} {x : Option R} {P : R → Prop} (hb : b = true) (h : Ok1 x P) : Ok1 (_root_.cond b x none) P := by rw [hb]; exact h
theorem Ok1.mono {R : Type} {o : Option R} {P Q : R → Prop} (h : Ok1 o P) (hi : ∀ r, P r → Q r) : Ok1 o Q := by
  obtain ⟨r, e, hr⟩ := h
  exact ⟨r, e, hi r hr⟩
def Sk (s t : Src) : Prop := SrcOk t ∧ t.1 = s.1
theorem Sk.refl {s : Src} (h : SrcOk s) : Sk s s := ⟨h, rfl⟩
theorem Sk.trans {s t u : Src} (h1 : Sk s t) (h2 : Sk t u) : Sk s u := ⟨h2.1, h2.2.trans h1.2⟩
theorem next_d {s : Src} (h : SrcOk s) (n : Int) (hn : n ≤ 1099511627776) : Ok1 (spec_l01Next s n) fun y => Sk s y.2 ∧ 0 ≤ y.1 ∧ (1 ≤ n → y.1 < n) := by
  obtain ⟨r, s', e, h1, h2, h3, h4⟩ := spec_l01Next_v h n hn
  exact ⟨_, e, ⟨h1, h2⟩, h3, h4⟩
theorem pick_d {s : Src} (h : SrcOk s) (xs : List Int) (h1 : 1 ≤ xs.length) (h2 : xs.length ≤ 1000) : Ok1 (spec_l01Pick s xs) fun y => Sk s y.2 ∧ y.1 ∈ xs := by
  obtain ⟨r, s', e, h1, h2, h3⟩ := spec_l01Pick_v h xs h1 h2
  exact ⟨_, e, ⟨h1, h2⟩, h3⟩
theorem from_d {code : List Int} (hb : ∀ c ∈ code, 0 ≤ c ∧ c ≤ 255) (hn : code.length ≤ 4096) : Ok1 (spec_l01From code) SrcOk := by
  have key : ∀ (d k : Nat) (sd : Int), k + d = 64 → 0 ≤ sd → sd < 2147483647 → Ok1 (spec_l01From_l0 code (k : Int) code 0 sd) SrcOk := by
    intro d
    induction d with
    | zero =>
      intro k sd hk h1 h2
      rw [spec_l01From_l0_eq]
      refine Ok1.cond (fun _ => ?_) fun _ => ?_
      · rw [decide_eq_false (by omega)]
        exact Ok1.some ⟨hb, by simp only; omega, ⟨by simp, by simp⟩, h1, h2⟩
      · exact Ok1.some ⟨hb, by simp only; omega, ⟨by simp, by simp⟩, h1, h2⟩
    | succ d ih =>
      intro k sd hk h1 h2
      rw [spec_l01From_l0_eq]
      refine Ok1.cond (fun hc => ?_) fun _ => ?_
      · have hc' := of_decide_eq_true hc
        have hlt : k < code.length := by omega
        rw [decide_eq_true (by omega), rd_lt hlt]
        have hcb := hb _ (List.getElem_mem hlt)
        simp only [cond_true, Option.bind_some, Option.bind_fun_some]
        rw [show decide (2147483647 = 0) = false from rfl]
        have w1 : IntKind.i64.wrap (sd * 73) = sd * 73 := w64 (by omega) (by omega)
        have w2 : IntKind.i64.wrap code[k] = code[k] := w64 (by omega) (by omega)
        rw [w1, w2, w64 (x := sd * 73 + code[k]) (by omega) (by omega), w64 (x := (k : Int) + 1) (by omega) (by omega)]
        obtain ⟨t1, t2⟩ := tmod_pos (a := sd * 73 + code[k]) (n := 2147483647) (by omega) (by omega)
        exact ih (k + 1) _ (by omega) t1 t2
      · exact Ok1.some ⟨hb, by simp only; omega, ⟨by simp, by simp⟩, h1, h2⟩
  rw [spec_l01From_eq]
  exact (key 64 0 93001 (by omega) (by omega) (by omega)).bind fun a ha => Ok1.some ha
theorem draw_d {s : Src} (h : SrcOk s) : Ok1 (spec_l01Draw s) fun y => Sk s y.2 := by
  rw [spec_l01Draw_eq]
  refine (next_d h 40 (by omega)).bind fun a ⟨ha, _⟩ => Ok1.cond (fun _ => ?_) fun _ => ?_
  · refine (pick_d ha.1 _ (by decide) (by decide)).bind fun b ⟨hb, _⟩ => ?_
    exact (pick_d hb.1 _ (by decide) (by decide)).bind fun c ⟨hc, _⟩ => Ok1.some (ha.trans (hb.trans hc))
  · refine (pick_d ha.1 _ (by decide) (by decide)).bind fun b ⟨hb, hb2⟩ => ?_
    have hw : IntKind.i64.wrap (IntKind.i64.wrap (2 * b.1) + 1) ≤ 1099511627776 := by
      have : b.1 = 4 ∨ b.1 = 9 ∨ b.1 = 30 := by simpa using hb2
      rcases this with e | e | e <;> rw [e] <;> decide
    refine (next_d hb.1 _ hw).bind fun c ⟨hc, _⟩ => ?_
    exact (next_d hc.1 _ hw).bind fun d ⟨hd, _⟩ => Ok1.some (ha.trans (hb.trans (hc.trans hd)))
theorem frame_d {s : Src} (h : SrcOk s) : Ok1 (spec_l04DrawFrame s) fun y => Sk s y.2 := by
  rw [spec_l04DrawFrame_eq]
  refine (next_d h 40 (by omega)).bind fun a ⟨ha, _⟩ => Ok1.cond (fun _ => ?_) fun _ => ?_
  · exact (pick_d ha.1 _ (by decide) (by decide)).bind fun b ⟨hb, _⟩ => Ok1.some (ha.trans hb)
  · exact (next_d ha.1 _ (by omega)).bind fun b ⟨hb, _⟩ => Ok1.some (ha.trans hb)
theorem lat_d {s : Src} (h : SrcOk s) : Ok1 (spec_l03Draw s) fun y => Sk s y.2 := by
  rw [spec_l03Draw_eq]
  refine (next_d h 6 (by omega)).bind fun a ⟨ha, a1, a2⟩ => (next_d ha.1 6 (by omega)).bind fun b ⟨hb, _⟩ => ?_
  have hw : IntKind.i64.wrap (1 + a.1) ≤ 1099511627776 := by
    have := a2 (by omega)
    rw [w64 (by omega) (by omega)]; omega
  refine (next_d hb.1 _ hw).bind fun c ⟨hc, _⟩ => (next_d hc.1 60 (by omega)).bind fun d ⟨hd, _⟩ => Ok1.cond (fun _ => ?_) fun _ => Ok1.cond (fun _ => ?_) fun _ => Ok1.cond (fun _ => ?_) fun _ => ?_
  · exact (pick_d hd.1 _ (by simp) (by simp)).bind fun e ⟨he, _⟩ => Ok1.some (ha.trans (hb.trans (hc.trans (hd.trans he))))
  · exact (pick_d hd.1 _ (by simp) (by simp)).bind fun e ⟨he, _⟩ => Ok1.some (ha.trans (hb.trans (hc.trans (hd.trans he))))
  · exact (pick_d hd.1 _ (by simp) (by simp)).bind fun e ⟨he, _⟩ => Ok1.some (ha.trans (hb.trans (hc.trans (hd.trans he))))
  · exact Ok1.some (ha.trans (hb.trans (hc.trans hd)))
theorem lattice_d {s : Src} (h : SrcOk s) : Ok1 (spec_l06DrawLattice s) fun y => Sk s y.2.2 := by
  rw [spec_l06DrawLattice_eq]
  refine (frame_d h).bind fun a ha => (next_d ha.1 5 (by omega)).bind fun b ⟨hb, _⟩ => Ok1.cond (fun _ => ?_) fun _ => Ok1.cond (fun _ => ?_) fun _ => Ok1.cond (fun _ => ?_) fun _ => ?_
  · exact (lat_d hb.1).bind fun c hc => Ok1.some (ha.trans (hb.trans hc))
  · exact (next_d hb.1 4 (by omega)).bind fun c ⟨hc, _⟩ => (next_d hc.1 4 (by omega)).bind fun d ⟨hd, _⟩ => Ok1.some (ha.trans (hb.trans (hc.trans hd)))
  · exact Ok1.cond (fun _ => Ok1.some (ha.trans hb)) fun _ => Ok1.some (ha.trans hb)
  · exact (next_d hb.1 4 (by omega)).bind fun c ⟨hc, _⟩ => Ok1.some (ha.trans (hb.trans hc))
theorem code_v {f : Int} {l : Lat} : spec_l04Code f (l.1, l.2.1, l.2.2) = some (if (isFrame f && isLat l) = true then 0 else 1) := spec_l04Code_v f l
theorem stable_pos {f : Int} (hf : f = 0 ∨ f = 1) {l : Lat} (hl : isLat l = true) : 1 ≤ (stableL f l).length := List.length_pos_of_mem (stable_unit hf hl)
theorem motion_d {s : Src} (h : SrcOk s) (f : Int) (l : Lat) : Ok1 (spec_l06DrawMotion s f l) fun y => Sk s y.2 ∧ ((isFrame f && isLat l) = true → y.1.1 ∈ stableL f l ∧ Sv y.1.2) := by
  rw [spec_l06DrawMotion_eq, spec_l02Unit_eq, spec_l04Code_v]
  simp only [Option.bind_some]
  have sv : ∀ {x y : Int}, (0 ≤ x ∧ (1 ≤ (9 : Int) → x < 9)) → (0 ≤ y ∧ (1 ≤ (9 : Int) → y < 9)) → Sv (IntKind.i64.wrap (x - 4), IntKind.i64.wrap (y - 4)) := by
    intro x y hx hy
    have := hx.2 (by omega)
    have := hy.2 (by omega)
    unfold Sv
    rw [w64 (by omega) (by omega), w64 (by omega) (by omega)]
    simp only
    omega
  cases hfl : (isFrame f && isLat l) with
  | false =>
    simp only [Bool.false_eq_true, if_false, false_implies, and_true]
    exact (next_d h 9 (by omega)).bind fun c ⟨hc, _⟩ => (next_d hc.1 9 (by omega)).bind fun d ⟨hd, _⟩ => Ok1.some (hc.trans hd)
  | true =>
    rw [Bool.and_eq_true] at hfl
    have hf := isFrame_iff.1 hfl.1
    have hl := hfl.2
    have hn := stable_len f l
    have hp := stable_pos hf hl
    rw [spec_l04Stable_v hf hl]
    simp only [if_true, decide_true, cond_true, Option.bind_some]
    refine (next_d h ((stableL f l).length : Int) (by omega)).bind fun a ⟨ha, a1, a2⟩ => Ok1.chk ?_ ?_
    · have := a2 (by omega)
      rw [decide_eq_true a1, decide_eq_true this]; rfl
    · refine (next_d ha.1 9 (by omega)).bind fun c ⟨hc, hc1⟩ => (next_d hc.1 9 (by omega)).bind fun d ⟨hd, hd1⟩ => Ok1.some ⟨ha.trans (hc.trans hd), fun _ => ⟨?_, sv hc1 hd1⟩⟩
      have := a2 (by omega)
      have hlt : a.1.toNat < (stableL f l).length := by omega
      show (stableL f l).getD a.1.toNat _ ∈ stableL f l
      rw [List.getD_eq_getElem?_getD, List.getElem?_eq_getElem hlt]
      exact List.getElem_mem hlt
theorem reduce_d {f : Int} {l : Lat} (hl : isLat l = true) {m : Mot} (h1 : m.1 ∈ stableL f l) (h2 : Sv m.2) : ∃ r, spec_l06Reduce l m = some r ∧ r ∈ allM f l := by
  have hsm : Sm m.2 := by unfold Sv at h2; unfold Sm; omega
  rw [spec_l06Reduce_eq, spec_l03Reduce_v l m.2 hl hsm]
  exact ⟨_, rfl, mem_allM.2 ⟨h1, red_mem hl _⟩⟩
theorem unit_v : spec_l06Unit = some unitM := by rw [spec_l06Unit_eq, spec_l02Unit_eq]; rfl
theorem cut_all {α : Type} (k : Nat) (xs : List α) : cut 0 k xs = xs.take k ∧ cut k xs.length xs = xs.drop k := by
  unfold cut
  rw [List.drop_zero, List.take_length]
  exact ⟨rfl, rfl⟩
theorem insert_d {xs : List Mot} (hn : xs.length ≤ 1000000) (hi : IncM xs) {m : Mot} (hm : m ∉ xs) : ∃ ys, spec_l06Insert_o xs m = some ys ∧ IncM ys ∧ (∀ w, w ∈ ys ↔ w = m ∨ w ∈ xs) ∧ ys.length = xs.length + 1 := by
  obtain ⟨r, hr, hrl, h1, h2⟩ := spec_place_loop hn m hi xs.length 0 xs.length (by omega) (by omega) (by omega) (fun j hj h => by omega) (fun j hj h => by omega)
  have hp : spec_l06Place xs m = some (r : Int) := by
    rw [spec_l06Place_eq, show (0 : Int) = ((0 : Nat) : Int) from rfl, hr]
    rfl
  rw [spec_l06Insert_o_eq, hp]
  simp only [Option.bind_some]
  have hres : ([] ++ cut 0 (Int.toNat (r : Int)) xs ++ [m]) ++ cut (Int.toNat (r : Int)) xs.length xs = xs.take r ++ m :: xs.drop r := by
    rw [Int.toNat_natCast, (cut_all r xs).1, (cut_all r xs).2]
    simp
  have hl1 : (xs.take r).length ≤ 1000000 := by rw [List.length_take]; omega
  have hl2 : (xs.drop r).length ≤ 1000000 := by rw [List.length_drop]; omega
  have c1 : decide (List.length ([] : List Mot) + List.length (cut 0 (Int.toNat (r : Int)) xs) ≤ LIM) = true := decide_eq_true (by
    rw [Int.toNat_natCast, (cut_all r xs).1]; unfold LIM; simp only [List.length_nil]; omega)
  have c2 : decide (List.length (([] : List Mot) ++ cut 0 (Int.toNat (r : Int)) xs) + List.length [m] ≤ LIM) = true := decide_eq_true (by
    rw [Int.toNat_natCast, (cut_all r xs).1]; unfold LIM; simp only [List.nil_append, List.length_singleton]; omega)
  have c3 : decide (List.length ((([] : List Mot) ++ cut 0 (Int.toNat (r : Int)) xs) ++ [m]) + List.length (cut (Int.toNat (r : Int)) xs.length xs) ≤ LIM) = true := decide_eq_true (by
    rw [Int.toNat_natCast, (cut_all r xs).1, (cut_all r xs).2]; unfold LIM; simp only [List.nil_append, List.length_append, List.length_singleton]; omega)
  have c0 : (decide ((0 : Int) ≤ (r : Int)) && decide ((r : Int) ≤ (xs.length : Int))) = true := by rw [decide_eq_true (by omega), decide_eq_true (by omega)]; rfl
  have fin : ∃ ys, (some (xs.take r ++ m :: xs.drop r) : Option (List Mot)) = some ys ∧ IncM ys ∧ (∀ w, w ∈ ys ↔ w = m ∨ w ∈ xs) ∧ ys.length = xs.length + 1 := by
    refine ⟨_, rfl, ?_, fun w => ?_, ?_⟩
    · refine List.pairwise_append.2 ⟨hi.sublist (List.take_sublist r xs), List.pairwise_cons.2 ⟨fun y hy => ?_, hi.sublist (List.drop_sublist r xs)⟩, fun x hx y hy => ?_⟩
      · obtain ⟨j, hj, rfl⟩ := List.getElem_of_mem hy
        rw [List.length_drop] at hj
        rw [List.getElem_drop]
        have h3 := h2 (r + j) (by omega) (by omega)
        cases h4 : mless m xs[r + j] with
        | true => rfl
        | false => exact (hm (mless_tot h4 h3 ▸ List.getElem_mem (by omega))).elim
      · obtain ⟨i, hi', rfl⟩ := List.getElem_of_mem hx
        rw [List.length_take] at hi'
        rw [List.getElem_take]
        have h3 := h1 i (by omega) (by omega)
        rcases List.mem_cons.1 hy with rfl | hy
        · exact h3
        · obtain ⟨j, hj, rfl⟩ := List.getElem_of_mem hy
          rw [List.length_drop] at hj
          rw [List.getElem_drop]
          exact List.pairwise_iff_getElem.1 hi i (r + j) (by omega) (by omega) (by omega)
    · rw [List.mem_append, List.mem_cons]
      have : w ∈ xs ↔ w ∈ xs.take r ∨ w ∈ xs.drop r := by rw [← List.mem_append, List.take_append_drop]
      rw [this]
      constructor
      · rintro (h | h | h)
        · exact .inr (.inl h)
        · exact .inl h
        · exact .inr (.inr h)
      · rintro (h | h | h)
        · exact .inr (.inl h)
        · exact .inl h
        · exact .inr (.inr h)
    · rw [List.length_append, List.length_cons, List.length_take, List.length_drop]; omega
  rw [c0, c1, c2, c3, hres]
  simp only [cond_true]
  by_cases hlt : r < xs.length
  · rw [decide_eq_true (show (r : Int) < (xs.length : Int) by omega), decide_eq_true (show (0 : Int) ≤ (r : Int) by omega)]
    simp only [Bool.and_self, cond_true]
    rw [mot_beq, decide_eq_false (p := _ = _) (fun e => hm (by
      rw [Int.toNat_natCast] at e
      have : xs.getD r (dflt cM) = xs[r] := by rw [List.getD_eq_getElem?_getD, List.getElem?_eq_getElem hlt]; rfl
      rw [show xs.getD r (dflt (.pair (.pair (.i .i64) (.pair (.i .i64) (.pair (.i .i64) (.i .i64)))) (.pair (.i .i64) (.i .i64)))) = xs[r] from this] at e
      rw [← e]; exact List.getElem_mem hlt))]
    exact fin
  · rw [decide_eq_false (show ¬ ((r : Int) < (xs.length : Int)) by omega)]
    exact fin
end Go.Proofs.YtopigbmamejklaaGreatDoor

namespace Go.Proofs.YtopigbmamejklaaGreatDoor
open Ai
set_option linter.unusedSimpArgs false
set_option linter.unusedVariables false
section closing
variable {f : Int} (hf : f = 0 ∨ f = 1) {l : Lat} (hl : isLat l = true) {list : List Mot} (hm : ∀ m ∈ list, m ∈ allM f l) (hln : list.length ≤ 100000)
structure Cl (f : Int) (l : Lat) (out queue : List Mot) : Prop where
  inc : IncM out
  nd : queue.Nodup
  eq : ∀ w, w ∈ queue ↔ w ∈ out
  sub : ∀ w ∈ out, w ∈ allM f l
include hl in
theorem Cl.len {out queue : List Mot} (c : Cl f l out queue) : queue.length ≤ 5184 ∧ out.length ≤ 5184 :=
  ⟨Nat.le_trans (nodup_le _ _ c.nd fun w hw => c.sub w ((c.eq w).1 hw)) (allM_len f hl), Nat.le_trans (nodup_le _ _ c.inc.nodup c.sub) (allM_len f hl)⟩
include hf hl hm hln in
theorem close_inner : ∀ (d i : Nat) (out queue : List Mot) (k : Nat), i + d = list.length → Cl f l out queue → k < queue.length →
    ∃ out' queue', spec_l06Close_l1 list out queue (k : Int) (i : Int) l.1 l.2.1 l.2.2 = some (list, out', queue', (k : Int), l.1, l.2.1, l.2.2) ∧ Cl f l out' queue' ∧ queue.length ≤ queue'.length
  | 0, i, out, queue, k, hi, c, hk => by
    refine ⟨out, queue, ?_, c, Nat.le_refl _⟩
    rw [spec_l06Close_l1_eq, decide_eq_false (by omega)]
    rfl
  | d + 1, i, out, queue, k, hi, c, hk => by
    have hlt : i < list.length := by omega
    obtain ⟨q1, q2⟩ := c.len hl
    have hma := hm _ (List.getElem_mem hlt)
    have hna := c.sub _ ((c.eq _).1 (List.getElem_mem hk))
    have hg : goodL f l (allM f l) = true := inc_goodL (allM_inc hf l) fun m h => h
    obtain ⟨z, e1, e2⟩ := Option.bind_eq_some_iff.1 (spec_prod hf hl hg hma hna)
    have hp := prod_allM hf hl hma hna
    have e1' : spec_l05Compose list[i] ((queue[k].1.1, queue[k].1.2.1, queue[k].1.2.2), queue[k].2) = some z := e1
    have e2' : spec_l06Reduce (l.1, l.2.1, l.2.2) z = some (prodM l list[i] queue[k]) := e2
    rw [spec_l06Close_l1_eq, decide_eq_true (by omega), rd_lt hlt, inb hk, gd hk]
    simp only [cond_true, Option.bind_some, e1', e2', spec_l06Has_v (show out.length ≤ 1000000 by omega) c.inc, Option.bind_fun_some]
    rw [wnext hlt (by omega)]
    by_cases hin : prodM l list[i] queue[k] ∈ out
    · rw [decide_eq_true hin]
      exact close_inner d (i + 1) out queue k (by omega) c hk
    · rw [decide_eq_false hin]
      obtain ⟨ys, e3, y1, y2, y3⟩ := insert_d (show out.length ≤ 1000000 by omega) c.inc hin
      rw [cond_false, e3]
      simp only [Option.bind_some]
      rw [decide_eq_true (show queue.length + List.length [prodM l list[i] queue[k]] ≤ LIM by unfold LIM; simp only [List.length_singleton]; omega)]
      have c' : Cl f l ys (queue ++ [prodM l list[i] queue[k]]) := by
        refine ⟨y1, ?_, fun w => ?_, fun w hw => ?_⟩
        · exact List.pairwise_append.2 ⟨c.nd, List.pairwise_singleton _ _, fun x hx y hy e => hin ((c.eq _).1 (by rw [← List.mem_singleton.1 hy, ← e]; exact hx))⟩
        · rw [y2, List.mem_append, List.mem_singleton, c.eq]
          exact or_comm
        · rcases (y2 w).1 hw with rfl | h
          · exact hp
          · exact c.sub w h
      obtain ⟨o, q, a1, a2, a3⟩ := close_inner d (i + 1) ys _ k (by omega) c' (by rw [List.length_append]; omega)
      exact ⟨o, q, a1, a2, by rw [List.length_append] at a3; omega⟩
include hf hl hm hln in
theorem close_outer : ∀ (d k : Nat) (out queue : List Mot), 5184 ≤ k + d → Cl f l out queue → 1 ≤ queue.length →
    ∃ r, spec_l06Close_l0 list out queue (k : Int) l.1 l.2.1 l.2.2 = some r ∧ IncM r ∧ (∀ w ∈ r, w ∈ allM f l) ∧ r ≠ []
  | d, k, out, queue, hd, c, h1 => by
    obtain ⟨q1, q2⟩ := c.len hl
    rw [spec_l06Close_l0_eq]
    by_cases hk : k < queue.length
    · obtain ⟨o, q, a1, a2, a3⟩ := close_inner hf hl hm hln list.length 0 out queue k (by omega) c hk
      rw [decide_eq_true (show (k : Int) < (queue.length : Int) by omega), show (0 : Int) = ((0 : Nat) : Int) from rfl, a1]
      simp only [cond_true, Option.bind_some, Option.bind_fun_some]
      rw [wnext hk (by omega)]
      match d with
      | 0 => omega
      | d + 1 => exact close_outer d (k + 1) o q (by omega) a2 (by omega)
    · rw [decide_eq_false (show ¬ (k : Int) < (queue.length : Int) by omega)]
      refine ⟨out, rfl, c.inc, c.sub, fun e => ?_⟩
      have := (c.eq _).1 (List.getElem_mem (show 0 < queue.length by omega))
      rw [e] at this; cases this
include hf hl hm hln in
theorem close_d : ∃ r, spec_l06Close l list = some r ∧ IncM r ∧ (∀ w ∈ r, w ∈ allM f l) ∧ r ≠ [] := by
  have c : Cl f l [unitM] [unitM] := ⟨List.pairwise_singleton _ _, List.pairwise_singleton _ _, fun w => Iff.rfl, fun w hw => by rw [List.mem_singleton.1 hw]; exact unit_allM hf hl⟩
  obtain ⟨r, h1, h2⟩ := close_outer hf hl hm hln 5184 0 [unitM] [unitM] (by omega) c (by simp)
  refine ⟨r, ?_, h2⟩
  rw [spec_l06Close_eq, unit_v]
  simp only [Option.bind_some]
  rw [show (0 : Int) = ((0 : Nat) : Int) from rfl, h1]
  rfl
/-! ### Orbits -/
include hf hl hm hln in
theorem orbit_loop {v : V} (hv : v ∈ cells l) : ∀ (d i : Nat) (out : List V), i + d = list.length → Inc out → (∀ u ∈ out, u ∈ cells l) → (1 ≤ d ∨ out ≠ []) →
    ∃ r, spec_l07Orbit_l0 list out (i : Int) l.1 l.2.1 l.2.2 v.1 v.2 = some r ∧ (∀ u ∈ r, u ∈ cells l) ∧ r ≠ [] ∧ r.length ≤ 64
  | 0, i, out, hi, h1, h2, h3 => by
    rw [spec_l07Orbit_l0_eq, decide_eq_false (by omega)]
    exact ⟨out, rfl, h2, by rcases h3 with h | h; omega; exact h, Nat.le_trans (nodup_le _ _ h1.nodup h2) (cells_len' hl).2⟩
  | d + 1, i, out, hi, h1, h2, h3 => by
    have hlt : i < list.length := by omega
    have hln : out.length ≤ 64 := Nat.le_trans (nodup_le _ _ h1.nodup h2) (cells_len' hl).2
    have hma := hm _ (List.getElem_mem hlt)
    have hsm := allM_suit hf hl hma v hv
    have e1 : spec_l07Move (l.1, l.2.1, l.2.2) list[i] (v.1, v.2) = some (red l (wap list[i] v)) := by
      rw [spec_l07Move_eq, show spec_l05Apply list[i] (v.1, v.2) = some (wap list[i] v) from spec_l05Apply_v _ v]
      simp only [Option.bind_some]
      rw [show spec_l03Reduce (l.1, l.2.1, l.2.2) (wap list[i] v) = some (red l (wap list[i] v)) from spec_l03Reduce_v l _ hl hsm]
      rfl
    rw [spec_l07Orbit_l0_eq, decide_eq_true (by omega), rd_lt hlt]
    simp only [cond_true, Option.bind_some, e1, spec_l01Insert_v out _ (show out.length ≤ 1000000 by omega), Option.bind_fun_some]
    rw [w64 (x := (i : Int) + 1) (by omega) (by omega)]
    exact orbit_loop hv d (i + 1) _ (by omega) (insV_inc h1) (fun u hu => by
      rcases mem_insV.1 hu with rfl | hu
      · exact red_mem hl _
      · exact h2 u hu) (.inr fun e => by
        have := (mem_insV (v := red l (wap list[i] v)) (w := red l (wap list[i] v)) (xs := out)).2 (.inl rfl)
        rw [e] at this; cases this)
include hf hl hm hln in
theorem orbit_d (hne : list ≠ []) {v : V} (hv : v ∈ cells l) : ∃ r, spec_l07Orbit (l.1, l.2.1, l.2.2) list v = some r ∧ (∀ u ∈ r, u ∈ cells l) ∧ r ≠ [] ∧ r.length ≤ 64 := by
  obtain ⟨r, h1, h2⟩ := orbit_loop hf hl hm hln hv list.length 0 [] (by omega) List.Pairwise.nil (fun u hu => by cases hu) (.inl (List.length_pos_iff.2 hne))
  refine ⟨r, ?_, h2⟩
  rw [spec_l07Orbit_eq]
  rw [show spec_l07Orbit_l0 list ([] : List (Int × Int)) 0 (l.1, l.2.1, l.2.2).1 (l.1, l.2.1, l.2.2).2.1 (l.1, l.2.1, l.2.2).2.2 v.1 v.2 = some r from h1]
  rfl
include hf hl hm hln in
theorem orbits_loop (hne : list ≠ []) : ∀ (d i : Nat) (out : List (List V)), i + d = (cells l).length → out.length ≤ i → (∀ o ∈ out, (∀ u ∈ o, u ∈ cells l) ∧ o.length ≤ 64) →
    ∃ r, spec_l07Orbits_l0 list (cells l) out (i : Int) l.1 l.2.1 l.2.2 = some r ∧ r.length ≤ (cells l).length ∧ ∀ o ∈ r, (∀ u ∈ o, u ∈ cells l) ∧ o.length ≤ 64
  | 0, i, out, hi, h1, h2 => by
    rw [spec_l07Orbits_l0_eq, decide_eq_false (by omega)]
    exact ⟨out, rfl, by omega, h2⟩
  | d + 1, i, out, hi, h1, h2 => by
    have hlt : i < (cells l).length := by omega
    have hn := (cells_len' hl).2
    obtain ⟨o, e1, o1, o2, o3⟩ := orbit_d hf hl hm hln hne (List.getElem_mem hlt)
    have hpos : 0 < o.length := List.length_pos_iff.2 o2
    rw [spec_l07Orbits_l0_eq, inb hlt, decide_eq_true (p := (i : Int) < ((cells l).length : Int)) (by omega), gd hlt, e1]
    simp only [cond_true, Option.bind_some, Option.bind_fun_some]
    rw [wnext hlt (by omega), show decide (0 ≤ 0) = true from rfl, decide_eq_true (show (0 : Int) < (o.length : Int) by omega)]
    simp only [Bool.and_self, cond_true]
    rw [decide_eq_true (show out.length + List.length [o] ≤ LIM by unfold LIM; simp only [List.length_singleton]; omega)]
    have a := orbits_loop hne d (i + 1) (out ++ [o]) (by omega) (by rw [List.length_append, List.length_singleton]; omega) (fun p hp => by
      rcases List.mem_append.1 hp with h | h
      · exact h2 p h
      · rw [List.mem_singleton.1 h]; exact ⟨o1, o3⟩)
    have b := orbits_loop hne d (i + 1) out (by omega) (by omega) h2
    rw [cond_true]
    generalize (decide ((List.getD o (Int.toNat 0) (dflt (.pair (.i .i64) (.i .i64)))).1 = (cells l)[i].1) && (decide ((List.getD o (Int.toNat 0) (dflt (.pair (.i .i64) (.i .i64)))).2 = (cells l)[i].2) && true)) = q
    cases q
    · exact b
    · exact a
theorem numbers_inner (hl : isLat l = true) {n : Nat} (hn : (n : Int) = l.1 * l.2.2) {orbits : List (List V)} {k : Nat} (hk : k < orbits.length) (ho : ∀ u ∈ orbits[k], u ∈ cells l) : ∀ (d i : Nat) (xs : List Int), i + d = orbits[k].length → xs.length = n → orbits[k].length ≤ 100000 →
    ∃ ys, spec_l07Numbers_l1 xs orbits (k : Int) (i : Int) l.1 l.2.1 l.2.2 = some (ys, orbits, (k : Int), l.1, l.2.1, l.2.2) ∧ ys.length = n ∧ ∀ e ∈ ys, e ∈ xs ∨ e = (k : Int)
  | 0, i, xs, hi, h1, hb => by
    rw [spec_l07Numbers_l1_eq, rd_lt hk]
    simp only [Option.bind_some]
    rw [decide_eq_false (by omega)]
    exact ⟨xs, rfl, h1, fun e he => .inl he⟩
  | d + 1, i, xs, hi, h1, hb => by
    have hlt : i < orbits[k].length := by omega
    have hu := ho _ (List.getElem_mem hlt)
    have hnum := (num_int hl orbits[k][i]).2
    have e1 : spec_l03Number (l.1, l.2.1, l.2.2) orbits[k][i] = some (num l orbits[k][i] : Int) := spec_l03Number_v l _ hl (cells_sm hl hu).1
    rw [spec_l07Numbers_l1_eq, rd_lt hk]
    simp only [Option.bind_some]
    rw [decide_eq_true (by omega), rd_lt hlt]
    simp only [Option.bind_some, cond_true, e1, Option.bind_fun_some]
    rw [decide_eq_true (show (0 : Int) ≤ ((num l orbits[k][i] : Nat) : Int) by omega), decide_eq_true (show ((num l orbits[k][i] : Nat) : Int) < (xs.length : Int) by omega), wnext hlt (by omega)]
    simp only [Bool.and_self, cond_true]
    obtain ⟨ys, a1, a2, a3⟩ := numbers_inner hl hn hk ho d (i + 1) (xs.set (Int.toNat ((num l orbits[k][i] : Nat) : Int)) (k : Int)) (by omega) (by rw [List.length_set]; exact h1) hb
    refine ⟨ys, a1, a2, fun e he => ?_⟩
    rcases a3 e he with h | h
    · rcases List.mem_or_eq_of_mem_set h with h | h
      · exact .inl h
      · exact .inr h
    · exact .inr h
theorem numbers_outer (hl : isLat l = true) {n : Nat} (hn : (n : Int) = l.1 * l.2.2) {orbits : List (List V)} (hon : orbits.length ≤ n) (ho : ∀ o ∈ orbits, ∀ u ∈ o, u ∈ cells l) (hb : ∀ o ∈ orbits, o.length ≤ 100000) : ∀ (d k : Nat) (xs : List Int), k + d = orbits.length → xs.length = n → (∀ e ∈ xs, 0 ≤ e ∧ e < (n : Int)) →
    ∃ ys, spec_l07Numbers_l0 xs orbits (k : Int) l.1 l.2.1 l.2.2 = some ys ∧ ys.length = n ∧ ∀ e ∈ ys, 0 ≤ e ∧ e < (n : Int)
  | 0, k, xs, hk, h1, h2 => by
    rw [spec_l07Numbers_l0_eq, decide_eq_false (by omega)]
    exact ⟨xs, rfl, h1, h2⟩
  | d + 1, k, xs, hk, h1, h2 => by
    have hlt : k < orbits.length := by omega
    have hmem := List.getElem_mem hlt
    obtain ⟨l1, l2, l3, l4⟩ := isLat_iff.1 hl
    obtain ⟨ys, a1, a2, a3⟩ := numbers_inner hl hn hlt (ho _ hmem) orbits[k].length 0 xs (by omega) h1 (hb _ hmem)
    rw [spec_l07Numbers_l0_eq, decide_eq_true (by omega), show (0 : Int) = ((0 : Nat) : Int) from rfl, a1]
    simp only [cond_true, Option.bind_some, Option.bind_fun_some]
    rw [wnext hlt (by omega)]
    exact numbers_outer hl hn hon ho hb d (k + 1) ys (by omega) a2 fun e he => by
      rcases a3 e he with h | rfl
      · exact h2 e h
      · omega
theorem mul64 {l : Lat} (hl : isLat l = true) : IntKind.i64.wrap (l.1 * l.2.2) = l.1 * l.2.2 ∧ 1 ≤ l.1 * l.2.2 ∧ l.1 * l.2.2 ≤ 64 := by
  obtain ⟨l1, l2, l3, l4⟩ := isLat_iff.1 hl
  have : 1 * 1 ≤ l.1 * l.2.2 := Int.mul_le_mul (by omega) (by omega) (by omega) (by omega)
  exact ⟨w64 (by omega) (by omega), by omega, l4⟩
include hf hl hm hln in
theorem numbers_d (hne : list ≠ []) : ∃ ys, spec_l07Numbers l list = some ys ∧ (ys.length : Int) = l.1 * l.2.2 ∧ ∀ e ∈ ys, 0 ≤ e ∧ e < (ys.length : Int) := by
  obtain ⟨w, m1, m2⟩ := mul64 hl
  have hc := (cells_len' hl).1
  obtain ⟨r, e1, r1, r2⟩ := orbits_loop hf hl hm hln hne (cells l).length 0 [] (by omega) (by simp) (fun o h => by cases h)
  have e2 : spec_l07Orbits l list = some r := by
    rw [spec_l07Orbits_eq, spec_l03Cells_v l hl]
    simp only [Option.bind_some]
    rw [show spec_l07Orbits_l0 list (cells l) ([] : List (List (Int × Int))) 0 l.1 l.2.1 l.2.2 = some r from e1]
    rfl
  obtain ⟨ys, e3, y1, y2⟩ := numbers_outer (n := (l.1 * l.2.2).toNat) hl (by omega) (orbits := r) (by omega) (fun o ho => (r2 o ho).1) (fun o ho => Nat.le_trans (r2 o ho).2 (by omega)) r.length 0 (List.replicate (l.1 * l.2.2).toNat 0) (by omega) (by rw [List.length_replicate]) (fun e he => by rw [List.eq_of_mem_replicate he]; omega)
  rw [spec_l07Numbers_eq, w, decide_eq_true (show 0 ≤ l.1 * l.2.2 by omega), decide_eq_true (Int.le_refl (l.1 * l.2.2)), decide_eq_true (show l.1 * l.2.2 ≤ (LIM : Int) by unfold LIM; omega), e2]
  simp only [Bool.and_self, cond_true, Option.bind_some]
  rw [show spec_l07Numbers_l0 (List.replicate (l.1 * l.2.2).toNat (0 : Int)) r 0 l.1 l.2.1 l.2.2 = some ys from e3]
  exact ⟨ys, rfl, by omega, fun e he => by have := y2 e he; omega⟩
end closing
/-! ### Colours -/
theorem Sk3 {s t : Src} (h : Sk s t) : Sk s (t.1, t.2.1, t.2.2) := h
theorem motions_loop {f : Int} (hf : f = 0 ∨ f = 1) {l : Lat} (hl : isLat l = true) (z9 z10 z11 z12 z13 z14 z15 z16 : Int) (z17 : List Int) : ∀ (d : Nat) (list : List Mot) (n : Int) (s : Src), n ≤ (d : Int) → n ≤ 1000 → SrcOk s → list.length + d ≤ 1000 → (∀ m ∈ list, m ∈ allM f l) →
    Ok1 (spec_l09DrawOn_l0 f list n s.1 s.2.1 s.2.2 l.1 l.2.1 l.2.2 z9 z10 z11 z12 z13 z14 z15 z16 z17) fun r => (∀ m ∈ r.1, m ∈ allM f l) ∧ r.1.length ≤ list.length + d ∧ Sk s (r.2.1, r.2.2.1, r.2.2.2.1) ∧ r.2.2.2.2 = (l.1, l.2.1, l.2.2, z9, z10, z11, z12, z13, z14, z15, z16, z17)
  | 0, list, n, s, hn, hn2, hs, hl0, hm => by
    rw [spec_l09DrawOn_l0_eq, decide_eq_false (show ¬ 0 < n by omega)]
    exact Ok1.some ⟨hm, by show list.length ≤ list.length + 0; omega, Sk.refl hs, rfl⟩
  | d + 1, list, n, s, hn, hn2, hs, hl0, hm => by
    rw [spec_l09DrawOn_l0_eq]
    refine Ok1.cond (fun hc => ?_) fun _ => Ok1.some ⟨hm, by show list.length ≤ list.length + (d + 1); omega, Sk.refl hs, rfl⟩
    have hc := of_decide_eq_true hc
    have h1 : Ok1 (spec_l06DrawMotion (s.1, s.2.1, s.2.2) f (l.1, l.2.1, l.2.2)) fun y => Sk s y.2 ∧ ((isFrame f && isLat l) = true → y.1.1 ∈ stableL f l ∧ Sv y.1.2) := motion_d hs f l
    refine h1.bind fun y ⟨hy, hy2⟩ => ?_
    obtain ⟨y3, y4⟩ := hy2 (by rw [isFrame_iff.2 hf, hl]; rfl)
    obtain ⟨r, e1, e2⟩ := reduce_d hl y3 y4
    rw [show spec_l06Reduce (l.1, l.2.1, l.2.2) y.1 = some r from e1]
    simp only [Option.bind_some, Option.bind_fun_some]
    refine Ok1.chk (decide_eq_true (by unfold LIM; simp only [List.length_singleton]; omega)) ?_
    rw [w64 (x := n - 1) (by omega) (by omega)]
    · refine (motions_loop hf hl z9 z10 z11 z12 z13 z14 z15 z16 z17 d (list ++ [r]) (n - 1) y.2 (by omega) (by omega) hy.1 (by rw [List.length_append, List.length_singleton]; omega) fun m hm' => ?_).mono fun x ⟨x1, x2, x3, x4⟩ => ⟨x1, by rw [List.length_append, List.length_singleton] at x2; omega, hy.trans x3, x4⟩
      rcases List.mem_append.1 hm' with h | h
      · exact hm m h
      · rw [List.mem_singleton.1 h]; exact e2
theorem colours_loop {nums : List Int} (hn : nums.length ≤ 64) (most : Int) (hm : most ≤ 1099511627776) (z7 z8 z9 z10 z11 z12 z13 z14 : Int) (z15 : List Int) : ∀ (d i : Nat) (cs : List Int) (s : Src), i + d = nums.length → cs.length = i → SrcOk s →
    Ok1 (spec_l09DrawOn_l1 nums cs most (i : Int) s.1 s.2.1 s.2.2 z7 z8 z9 z10 z11 z12 z13 z14 z15) fun r => r.1 = nums ∧ r.2.1.length = nums.length ∧ Sk s (r.2.2.1, r.2.2.2.1, r.2.2.2.2.1) ∧ r.2.2.2.2.2 = (z7, z8, z9, z10, z11, z12, z13, z14, z15)
  | 0, i, cs, s, hi, hc, hs => by
    rw [spec_l09DrawOn_l1_eq, decide_eq_false (by omega)]
    exact Ok1.some ⟨rfl, by simp only; omega, Sk.refl hs, rfl⟩
  | d + 1, i, cs, s, hi, hc, hs => by
    rw [spec_l09DrawOn_l1_eq, decide_eq_true (by omega)]
    simp only [cond_true]
    have h1 : Ok1 (spec_l01Next (s.1, s.2.1, s.2.2) most) fun y => Sk s y.2 ∧ 0 ≤ y.1 ∧ (1 ≤ most → y.1 < most) := next_d hs most hm
    refine h1.bind fun y ⟨hy, _⟩ => Ok1.chk (decide_eq_true (by unfold LIM; simp only [List.length_singleton]; omega)) ?_
    simp only [Option.bind_fun_some]
    rw [wnext (show i < nums.length by omega) (by omega)]
    exact (colours_loop hn most hm z7 z8 z9 z10 z11 z12 z13 z14 z15 d (i + 1) (cs ++ [y.1]) y.2 (by omega) (by rw [List.length_append, List.length_singleton]; omega) hy.1).mono fun x ⟨x1, x2, x3, x4⟩ => ⟨x1, x2, hy.trans x3, x4⟩
theorem cells_loop {nums cs : List Int} (hn : nums.length ≤ 64) (he : ∀ e ∈ nums, 0 ≤ e ∧ e < (cs.length : Int)) (z3 : List Int) (z4 z5 z6 z7 z8 z9 z10 z11 z12 z13 : Int) : ∀ (d i : Nat) (out : List Int), i + d = nums.length → out.length = i →
    ∃ out', spec_l09DrawOn_l2 nums cs (i : Int) z3 z4 z5 z6 z7 z8 z9 z10 z11 z12 z13 out = some (z3, z4, z5, z6, z7, z8, z9, z10, z11, z12, z13, out') ∧ out'.length = nums.length
  | 0, i, out, hi, ho => by
    rw [spec_l09DrawOn_l2_eq, decide_eq_false (by omega)]
    exact ⟨out, rfl, by omega⟩
  | d + 1, i, out, hi, ho => by
    have hlt : i < nums.length := by omega
    have h2 := he _ (List.getElem_mem hlt)
    rw [spec_l09DrawOn_l2_eq, inb hlt, decide_eq_true (p := (i : Int) < (nums.length : Int)) (by omega), gd hlt, decide_eq_true h2.1, decide_eq_true h2.2]
    simp only [cond_true, Bool.and_self, Option.bind_fun_some]
    rw [wnext hlt (by omega), decide_eq_true (by unfold LIM; simp only [List.length_singleton]; omega)]
    exact cells_loop hn he z3 z4 z5 z6 z7 z8 z9 z10 z11 z12 z13 d (i + 1) _ (by omega) (by rw [List.length_append, List.length_singleton]; omega)
theorem drawOn_d {s : Src} (h : SrcOk s) (f : Int) (l : Lat) : Ok1 (spec_l09DrawOn s f l) fun y => Sk s y.2 ∧ y.1.2.2.length ≤ 64 := by
  rw [spec_l09DrawOn_eq, spec_l04Code_v]
  simp only [Option.bind_some]
  cases hfl : (isFrame f && isLat l) with
  | false => exact Ok1.some ⟨Sk.refl h, by simp⟩
  | true =>
    rw [Bool.and_eq_true] at hfl
    have hf := isFrame_iff.1 hfl.1
    have hl := hfl.2
    obtain ⟨w, m1, m2⟩ := mul64 hl
    simp only [if_true, decide_true, Bool.not_true, cond_false, unit_v, Option.bind_some]
    have most : ∀ x : Int, 0 ≤ x ∧ (1 ≤ (3 : Int) → x < 3) → IntKind.i64.wrap (2 + x) ≤ 1099511627776 := by
      intro x hx
      have := hx.2 (by omega)
      rw [w64 (by omega) (by omega)]; omega
    refine (next_d h 4 (by omega)).bind fun a ⟨ha, a1⟩ => Ok1.cond (fun _ => ?_) fun _ => ?_
    · refine (next_d ha.1 2 (by omega)).bind fun b ⟨hb, b1, b2⟩ => ?_
      have hn : IntKind.i64.wrap (1 + b.1) ≤ 2 := by
        have := b2 (by omega)
        rw [w64 (by omega) (by omega)]; omega
      refine (motions_loop hf hl 0 0 0 0 f l.1 l.2.1 l.2.2 [] 2 [] _ b.2 hn (by omega) hb.1 (by simp) (fun m hm => by cases hm)).bind fun r ⟨r1, r2, r3, r4⟩ => ?_
      obtain ⟨g, g1, g2, g3, g4⟩ := close_d hf hl r1 (by simp at r2; omega)
      have hgl : g.length ≤ 100000 := Nat.le_trans (nodup_le _ _ g2.nodup g3) (Nat.le_trans (allM_len f hl) (by omega))
      obtain ⟨ys, y1, y2, y3⟩ := numbers_d hf hl g3 hgl g4
      rw [r4]
      simp only
      rw [show spec_l06Close (l.1, l.2.1, l.2.2) r.1 = some g from g1]
      simp only [Option.bind_some]
      rw [show spec_l07Numbers (l.1, l.2.1, l.2.2) g = some ys from y1]
      simp only [Option.bind_some]
      refine (next_d (s := (r.2.1, r.2.2.1, r.2.2.2.1)) r3.1 3 (by omega)).bind fun c ⟨hc, c1⟩ => ?_
      refine (colours_loop (nums := ys) (by omega) _ (most c.1 c1) 0 0 0 0 f l.1 l.2.1 l.2.2 [] ys.length 0 [] c.2 (by omega) rfl hc.1).bind fun q ⟨q1, q2, q3, q4⟩ => ?_
      rw [q1, q4]
      simp only
      obtain ⟨o, o1, o2⟩ := cells_loop (nums := ys) (cs := q.2.1) (by omega) (fun e he => by rw [q2]; exact y3 e he) q.2.2.1 q.2.2.2.1 q.2.2.2.2.1 0 0 0 0 f l.1 l.2.1 l.2.2 ys.length 0 [] (by omega) rfl
      rw [show spec_l09DrawOn_l2 ys q.2.1 0 q.2.2.1 q.2.2.2.1 q.2.2.2.2.1 0 0 0 0 f l.1 l.2.1 l.2.2 [] = _ from o1]
      exact Ok1.some ⟨ha.trans (hb.trans (r3.trans (hc.trans q3))), by show o.length ≤ 64; omega⟩
    · obtain ⟨ys, y1, y2, y3⟩ := numbers_d hf hl (list := [unitM]) (fun m hm => by rw [List.mem_singleton.1 hm]; exact unit_allM hf hl) (by simp) (by simp)
      rw [y1]
      simp only [Option.bind_some]
      refine (next_d ha.1 3 (by omega)).bind fun c ⟨hc, c1⟩ => ?_
      refine (colours_loop (nums := ys) (by omega) _ (most c.1 c1) 0 0 0 0 f l.1 l.2.1 l.2.2 [] ys.length 0 [] c.2 (by omega) rfl hc.1).bind fun q ⟨q1, q2, q3, q4⟩ => ?_
      rw [q1, q4]
      simp only
      obtain ⟨o, o1, o2⟩ := cells_loop (nums := ys) (cs := q.2.1) (by omega) (fun e he => by rw [q2]; exact y3 e he) q.2.2.1 q.2.2.2.1 q.2.2.2.2.1 0 0 0 0 f l.1 l.2.1 l.2.2 ys.length 0 [] (by omega) rfl
      rw [show spec_l09DrawOn_l2 ys q.2.1 0 q.2.2.1 q.2.2.2.1 q.2.2.2.2.1 0 0 0 0 f l.1 l.2.1 l.2.2 [] = _ from o1]
      exact Ok1.some ⟨ha.trans (hc.trans q3), by show o.length ≤ 64; omega⟩
theorem pattern_d {s : Src} (h : SrcOk s) : Ok1 (spec_l09Draw s) fun y => Sk s y.2 ∧ y.1.2.2.length ≤ 65 := by
  rw [spec_l09Draw_eq]
  refine (lattice_d h).bind fun a ha => (drawOn_d ha.1 _ _).bind fun b ⟨hb, b1⟩ => (next_d hb.1 60 (by omega)).bind fun c ⟨hc, _⟩ => Ok1.cond (fun _ => ?_) fun _ => Ok1.cond (fun _ => Ok1.cond (fun h0 => ?_) fun _ => ?_) fun _ => ?_
  · exact Ok1.chk (decide_eq_true (by unfold LIM; simp only [List.length_singleton]; omega)) (Ok1.some ⟨ha.trans (hb.trans hc), by simp only [List.length_append, List.length_singleton]; omega⟩)
  · refine (pick_d hc.1 _ (by decide) (by decide)).bind fun d ⟨hd, _⟩ => Ok1.chk ?_ (Ok1.some ⟨ha.trans (hb.trans (hc.trans hd)), by simp only [List.length_set]; omega⟩)
    rw [h0]; rfl
  · exact Ok1.some ⟨ha.trans (hb.trans hc), by show b.1.2.2.length ≤ 65; omega⟩
  · exact Ok1.some ⟨ha.trans (hb.trans hc), by show b.1.2.2.length ≤ 65; omega⟩
end Go.Proofs.YtopigbmamejklaaGreatDoor

namespace Go.Proofs.YtopigbmamejklaaGreatDoor
open Ai
set_option linter.unusedSimpArgs false
set_option linter.unusedVariables false
theorem code_bytes {x : List Int} (h : wfE (.list (.i .u8)) x) : ∀ c ∈ x, 0 ≤ c ∧ c ≤ 255 := fun c hc => by
  have h1 : (decide (IntKind.u8.min ≤ c) && decide (c ≤ IntKind.u8.max)) = true := h.2 c hc
  rw [Bool.and_eq_true, decide_eq_true_iff, decide_eq_true_iff, show IntKind.u8.min = 0 from rfl, show IntKind.u8.max = 255 from rfl] at h1
  exact h1
theorem laws_likeInts_v (xs ys : List Int) (h : xs.length ≤ MAXN) : laws_likeInts xs ys = some (decide (xs = ys)) := by
  rw [laws_likeInts_eq]; exact eq_all fun hl => eq_loop_int laws_likeInts_l0_eq xs ys h hl
structure DiceOk (d : Src) : Prop where
  b : ∀ c ∈ d.1, 0 ≤ c ∧ c ≤ 255
  n : d.1.length ≤ 4096
  p : 0 ≤ d.2.1 ∧ d.2.1 ≤ (d.1.length : Int)
theorem u64_small {z : Int} (h0 : 0 ≤ z) (h1 : z ≤ 16777215) : IntKind.u64.wrap z = z := by
  simp only [IntKind.wrap, IntKind.signed, IntKind.bits]
  simp
  omega
/-! ### Two drawn patterns -/
end Go.Proofs.YtopigbmamejklaaGreatDoor
