/-
  Plain meanings: groups of motions.
-/
import Derived.Test.YtpboclokodgnlaaGreatP31
import Derived.Test.YtpboclokodgnlaaGreatP28
import Derived.Test.YtpboclokodgnlaaGreatP27
namespace Go.Proofs.YtpboclokodgnlaaGreat
open Pre Ai
set_option linter.unusedSimpArgs false
set_option linter.unusedVariables false
set_option linter.unusedSectionVars false
/-! ### Vectors that are reduced -/
theorem impl_reduce_any {l : Lat} (hl : isLat l = true) (v : V) : ∃ r, impl_Lattice_reduce l v = some r ∧ decide (r = v) = decide (v ∈ cells l) := by
  obtain ⟨⟨a1, a2⟩, ⟨c1, c2⟩, ⟨b1, b2⟩, _⟩ := isLat_iff.1 hl
  by_cases hv : v ∈ cells l
  · obtain ⟨⟨v1, v2⟩, v3, v4⟩ := mem_cells.1 hv
    have hs : Sm v := by unfold Sm; omega
    exact ⟨_, impl_Lattice_reduce_v l v hl hs, by rw [decide_eq_true hv, decide_eq_true (red_cell hl hv)]⟩
  · rw [impl_Lattice_reduce_eq, impl_mod_v _ _ (by omega) (by omega)]
    simp only [Option.bind_some]
    rw [decide_eq_false (by omega)]
    simp only [cond_false]
    rw [impl_mod_v _ _ (by omega) (by omega)]
    refine ⟨_, rfl, ?_⟩
    rw [decide_eq_false hv, decide_eq_false]
    intro e
    apply hv
    rw [← e]
    exact mem_cells.2 ⟨⟨Int.emod_nonneg _ (by omega), Int.emod_lt_of_pos _ (by omega)⟩, Int.emod_nonneg _ (by omega), Int.emod_lt_of_pos _ (by omega)⟩
theorem cells_vec {l : Lat} (hl : isLat l = true) {v : V} (hv : v ∈ cells l) : isVec v = true := by
  obtain ⟨⟨a1, a2⟩, ⟨c1, c2⟩, ⟨b1, b2⟩, _⟩ := isLat_iff.1 hl
  obtain ⟨⟨v1, v2⟩, v3, v4⟩ := mem_cells.1 hv
  unfold isVec
  rw [Bool.and_eq_true, within_iff, within_iff]
  omega
theorem red_self {l : Lat} (hl : isLat l = true) (v : V) : decide (red l v = v) = decide (v ∈ cells l) := by
  by_cases hv : v ∈ cells l
  · rw [decide_eq_true hv, decide_eq_true (red_cell hl hv)]
  · rw [decide_eq_false hv, decide_eq_false]
    intro e
    exact hv (e ▸ red_mem hl v)
/-! ### The order of motions -/
def keyM (m : Mot) : List Int := [m.1.1, m.1.2.1, m.1.2.2.1, m.1.2.2.2, m.2.1, m.2.2]
def mless (m n : Mot) : Bool := lexB (keyM m) (keyM n)
theorem keyM_inj {m n : Mot} (h : keyM m = keyM n) : m = n := by
  unfold keyM at h
  simp only [List.cons.injEq, and_true] at h
  obtain ⟨h1, h2, h3, h4, h5, h6⟩ := h
  exact Prod.ext (Prod.ext h1 (Prod.ext h2 (Prod.ext h3 h4))) (Prod.ext h5 h6)
theorem mless_irr (m : Mot) : mless m m = false := lexB_irr _
theorem mless_trans {a b c : Mot} (h1 : mless a b = true) (h2 : mless b c = true) : mless a c = true := lexB_trans _ _ _ h1 h2
theorem mless_tot {a b : Mot} (h1 : mless a b = false) (h2 : mless b a = false) : a = b := keyM_inj (lexB_total _ _ h1 h2)
theorem spec_l05Less_v (m n : Mot) : spec_l05Less m n = some (mless m n) := by
  rw [spec_l05Less_eq, spec_l02Less_eq, spec_l02Numbers_eq, spec_l02Numbers_eq, spec_l01Less_v]
  simp only [Option.bind_some]
  rw [spec_l01LessList_v _ _ (by simp)]
  have cs : ∀ b : Bool, (cond b (some true) (some false) : Option Bool) = some b := fun b => by cases b <;> rfl
  simp only [Option.bind_some, mless, keyM, lexB, vless, cs]
  by_cases h1 : m.1.1 = n.1.1 <;> by_cases h2 : m.1.2.1 = n.1.2.1 <;> by_cases h3 : m.1.2.2.1 = n.1.2.2.1 <;> by_cases h4 : m.1.2.2.2 = n.1.2.2.2 <;> by_cases h5 : m.2.1 = n.2.1 <;> by_cases h6 : m.2.2 = n.2.2 <;>
    simp [h1, h2, h3, h4, h5, h6, cs]
theorem impl_compareMotions_v (m n : Mot) : ∃ c, impl_compareMotions m n = some c ∧ decide (0 ≤ c) = !mless m n := by
  rw [impl_compareMotions_eq, impl_compareMats_eq, impl_compareNumbers_v _ _ (by simp) (by simp)]
  simp only [Option.bind_some, impl_compareVecs_v]
  by_cases h : m.1 = n.1
  · have e : cmpL [m.1.1, m.1.2.1, m.1.2.2.1, m.1.2.2.2] [n.1.1, n.1.2.1, n.1.2.2.1, n.1.2.2.2] = 0 := by rw [h]; simp [cmpL]
    rw [e]
    refine ⟨_, rfl, ?_⟩
    rw [cmpV_neg]
    congr 1
    simp only [mless, keyM, lexB, h, if_true, vless]
    by_cases h5 : m.2.1 = n.2.1 <;> by_cases h6 : m.2.2 = n.2.2 <;> simp [h5, h6]
  · have hk : ¬ (m.1.1 = n.1.1 ∧ m.1.2.1 = n.1.2.1 ∧ m.1.2.2.1 = n.1.2.2.1 ∧ m.1.2.2.2 = n.1.2.2.2) := fun ⟨a, b, c, d⟩ => h (Prod.ext a (Prod.ext b (Prod.ext c d)))
    simp only [mless, keyM, lexB, cmpL]
    by_cases h1 : m.1.1 = n.1.1 <;> by_cases h2 : m.1.2.1 = n.1.2.1 <;> by_cases h3 : m.1.2.2.1 = n.1.2.2.1 <;> by_cases h4 : m.1.2.2.2 = n.1.2.2.2 <;>
      first
      | exact (hk ⟨h1, h2, h3, h4⟩).elim
      | (by_cases q1 : m.1.1 < n.1.1 <;> by_cases q2 : m.1.2.1 < n.1.2.1 <;> by_cases q3 : m.1.2.2.1 < n.1.2.2.1 <;> by_cases q4 : m.1.2.2.2 < n.1.2.2.2 <;> simp [h1, h2, h3, h4, q1, q2, q3, q4])
/-! ### Sorted lists of motions, searched -/
def IncM (xs : List Mot) : Prop := xs.Pairwise fun a b => mless a b = true
theorem IncM.nodup {xs : List Mot} (h : IncM xs) : xs.Nodup := h.imp fun {a b} hab e => by
  subst e; rw [mless_irr] at hab; cases hab
theorem mot_beq (c x : Mot) : (decide (c.1.1 = x.1.1) && (decide (c.1.2.1 = x.1.2.1) && (decide (c.1.2.2.1 = x.1.2.2.1) && (decide (c.1.2.2.2 = x.1.2.2.2) && (decide (c.2.1 = x.2.1) && (decide (c.2.2 = x.2.2) && true)))))) = decide (c = x) := by
  by_cases h : c = x
  · subst h; simp
  · rw [decide_eq_false h]
    by_cases h1 : c.1.1 = x.1.1 <;> by_cases h2 : c.1.2.1 = x.1.2.1 <;> by_cases h3 : c.1.2.2.1 = x.1.2.2.1 <;> by_cases h4 : c.1.2.2.2 = x.1.2.2.2 <;> by_cases h5 : c.2.1 = x.2.1 <;> by_cases h6 : c.2.2 = x.2.2 <;>
      first
      | exact (h (Prod.ext (Prod.ext h1 (Prod.ext h2 (Prod.ext h3 h4))) (Prod.ext h5 h6))).elim
      | simp [h1, h2, h3, h4, h5, h6]
theorem spec_place_loop {xs : List Mot} (hn : xs.length ≤ 1000000) (m : Mot) (hs : IncM xs) : ∀ (f lo hi : Nat), hi - lo ≤ f → lo ≤ hi → hi ≤ xs.length → (∀ j (hj : j < xs.length), j < lo → mless xs[j] m = true) → (∀ j (hj : j < xs.length), hi ≤ j → mless xs[j] m = false) →
    ∃ r : Nat, spec_l06Place_l0 xs (lo : Int) (hi : Int) m.1.1 m.1.2.1 m.1.2.2.1 m.1.2.2.2 m.2.1 m.2.2 = some (r : Int) ∧ r ≤ xs.length ∧ (∀ j (hj : j < xs.length), j < r → mless xs[j] m = true) ∧ (∀ j (hj : j < xs.length), r ≤ j → mless xs[j] m = false)
  | f, lo, hi, hf, hlh, hh, h1, h2 => by
    by_cases hlt : lo < hi
    · cases f with
      | zero => omega
      | succ f =>
        have hmid : IntKind.i64.wrap (Int.tdiv (IntKind.i64.wrap ((lo : Int) + (hi : Int))) 2) = (((lo + hi) / 2 : Nat) : Int) := by
          rw [w64 (x := (lo : Int) + hi) (by omega) (by omega), Int.tdiv_eq_ediv_of_nonneg (by omega), w64 (by omega) (by omega)]
          omega
        have hm1 : lo ≤ (lo + hi) / 2 := by omega
        have hm2 : (lo + hi) / 2 < hi := by omega
        have hmx : (lo + hi) / 2 < xs.length := by omega
        have e1 : spec_l05Less xs[(lo + hi) / 2] ((m.1.1, m.1.2.1, m.1.2.2.1, m.1.2.2.2), m.2.1, m.2.2) = some (mless xs[(lo + hi) / 2] m) := spec_l05Less_v _ m
        rw [spec_l06Place_l0_eq, decide_eq_true (by omega), show decide (2 = 0) = false from rfl, hmid, rd_lt hmx]
        simp only [cond_true, cond_false, Option.bind_some, e1, Option.bind_fun_some]
        cases hc : mless xs[(lo + hi) / 2] m with
        | true =>
          simp only [cond_true]
          rw [wN (by omega)]
          exact spec_place_loop hn m hs f ((lo + hi) / 2 + 1) hi (by omega) (by omega) hh (fun j hj hjl => by
            rcases Nat.lt_or_ge j ((lo + hi) / 2) with h | h
            · exact mless_trans ((List.pairwise_iff_getElem.1 hs) j ((lo + hi) / 2) hj hmx h) hc
            · have : j = (lo + hi) / 2 := by omega
              subst this; exact hc) h2
        | false =>
          simp only [cond_false]
          exact spec_place_loop hn m hs f lo ((lo + hi) / 2) (by omega) (by omega) (by omega) h1 fun j hj hjh => by
            rcases Nat.lt_or_ge ((lo + hi) / 2) j with h | h
            · cases hx : mless xs[j] m with
              | false => rfl
              | true =>
                have := mless_trans ((List.pairwise_iff_getElem.1 hs) ((lo + hi) / 2) j hmx hj h) hx
                rw [hc] at this; cases this
            · have : j = (lo + hi) / 2 := by omega
              subst this; exact hc
    · have : lo = hi := by omega
      subst this
      refine ⟨lo, ?_, hh, h1, h2⟩
      rw [spec_l06Place_l0_eq, decide_eq_false (by omega)]
      rfl
theorem spec_l06Has_v {xs : List Mot} (hn : xs.length ≤ 1000000) (hs : IncM xs) (m : Mot) : spec_l06Has xs m = some (decide (m ∈ xs)) := by
  obtain ⟨r, hr, hrl, h1, h2⟩ := spec_place_loop hn m hs xs.length 0 xs.length (by omega) (by omega) (by omega) (fun j hj h => by omega) (fun j hj h => by omega)
  rw [spec_l06Has_eq, spec_l06Place_eq, show (0 : Int) = ((0 : Nat) : Int) from rfl, hr]
  simp only [Option.bind_some]
  by_cases hlt : r < xs.length
  · rw [decide_eq_true (by omega), rd_lt hlt]
    simp only [cond_true, Option.bind_some]
    rw [mot_beq]
    by_cases he : xs[r] = m
    · rw [decide_eq_true he, decide_eq_true (he ▸ List.getElem_mem hlt)]; rfl
    · have hm : m ∉ xs := fun hm => by
        obtain ⟨j, hj, rfl⟩ := List.getElem_of_mem hm
        rcases Nat.lt_trichotomy j r with h | h | h
        · have := h1 j hj h
          rw [mless_irr] at this; cases this
        · subst h; exact he rfl
        · have := (List.pairwise_iff_getElem.1 hs) r j hlt hj h
          rw [h2 r hlt (Nat.le_refl _)] at this; cases this
      rw [decide_eq_false he, decide_eq_false hm]; rfl
  · have hm : m ∉ xs := fun hm => by
      obtain ⟨j, hj, rfl⟩ := List.getElem_of_mem hm
      have := h1 j hj (by omega)
      rw [mless_irr] at this; cases this
    rw [decide_eq_false (by omega), decide_eq_false hm]; rfl
/-! ### A map as a set -/
abbrev cM : Cd := .pair (.pair (.i .i64) (.pair (.i .i64) (.pair (.i .i64) (.i .i64)))) (.pair (.i .i64) (.i .i64))
def setM (xs : List Mot) : List (Mot × Bool) := xs.foldl (fun s m => mset cM .bool m true s) []
theorem mfind_set (k m : Mot) : ∀ es : List (Mot × Bool), mfind cM .bool k (mset cM .bool m true es) = if k = m then some true else mfind cM .bool k es
  | [] => by
    show cond (eqEl cM k m) (some true) none = _
    by_cases h : k = m
    · rw [eqEl_iff.2 h, if_pos h]; rfl
    · cases he : eqEl cM k m with
      | true => exact (h (eqEl_iff.1 he)).elim
      | false => rw [if_neg h]; rfl
  | e :: r => by
    unfold mset
    cases hm : eqEl cM m e.1 with
    | true =>
      have hme := eqEl_iff.1 hm
      simp only [cond_true, mfind]
      by_cases h : k = m
      · rw [eqEl_iff.2 h, if_pos h]; rfl
      · have h1 : eqEl cM k m = false := by
          cases he : eqEl cM k m with
          | true => exact (h (eqEl_iff.1 he)).elim
          | false => rfl
        rw [h1, if_neg h, ← hme, h1]
        rfl
    | false =>
      simp only [cond_false, mfind]
      cases hk : eqEl cM k e.1 with
      | true =>
        have hke := eqEl_iff.1 hk
        have : k ≠ m := fun h => by
          rw [← h, hk] at hm; cases hm
        rw [if_neg this]
        rfl
      | false =>
        simp only [cond_false]
        exact mfind_set k m r
theorem setM_has (k : Mot) : ∀ (xs : List Mot) (s : List (Mot × Bool)), Option.getD (mfind cM .bool k (xs.foldl (fun s m => mset cM .bool m true s) s)) false = (decide (k ∈ xs) || Option.getD (mfind cM .bool k s) false)
  | [], s => by simp
  | m :: r, s => by
    rw [List.foldl_cons, setM_has k r, mfind_set]
    by_cases h : k = m
    · subst h; simp
    · rw [if_neg h]
      have : decide (k ∈ m :: r) = decide (k ∈ r) := by simp [h]
      rw [this]
/-! ### Groups -/
theorem loop_all_st {S R : Type} {L : S → Int → Option R} (F : Nat → S) (n : Nat) (q : Nat → Bool) (good bad : R) (hs : ∀ k, k < n → L (F k) (k : Int) = if q k = true then L (F (k + 1)) ((k + 1 : Nat) : Int) else some bad) (hf : L (F n) (n : Int) = some good) :
    ∀ (d k : Nat), k + d = n → L (F k) (k : Int) = some (if (List.range' k d).all q = true then good else bad)
  | 0, k, hk => by
    rw [show k = n by omega, hf]; rfl
  | d + 1, k, hk => by
    rw [hs k (by omega), List.range'_succ, List.all_cons]
    cases hq : q k
    · rfl
    · rw [if_pos rfl, loop_all_st F n q good bad hs hf d (k + 1) (by omega)]
      rfl
def okM (f : Int) (l : Lat) (m : Mot) : Bool := decide (m.1 ∈ stableL f l) && decide (m.2 ∈ cells l)
def goodK (f : Int) (l : Lat) (xs : List Mot) (k : Nat) : Bool := okM f l (xs.getD k ((0, 0, 0, 0), 0, 0)) && (decide (k = 0) || mless (xs.getD (k - 1) ((0, 0, 0, 0), 0, 0)) (xs.getD k ((0, 0, 0, 0), 0, 0)))
def prodM (l : Lat) (m n : Mot) : Mot :=
  ((IntKind.i64.wrap (IntKind.i64.wrap (m.1.1 * n.1.1) + IntKind.i64.wrap (m.1.2.1 * n.1.2.2.1)), IntKind.i64.wrap (IntKind.i64.wrap (m.1.1 * n.1.2.1) + IntKind.i64.wrap (m.1.2.1 * n.1.2.2.2)),
    IntKind.i64.wrap (IntKind.i64.wrap (m.1.2.2.1 * n.1.1) + IntKind.i64.wrap (m.1.2.2.2 * n.1.2.2.1)), IntKind.i64.wrap (IntKind.i64.wrap (m.1.2.2.1 * n.1.2.1) + IntKind.i64.wrap (m.1.2.2.2 * n.1.2.2.2))), red l (wap m n.2))
def unitM : Mot := ((1, 0, 0, 1), 0, 0)
def goodL (f : Int) (l : Lat) (xs : List Mot) : Bool := (List.range' 0 xs.length).all (goodK f l xs)
def isGroupB (f : Int) (l : Lat) (xs : List Mot) : Bool := goodL f l xs && (decide (unitM ∈ xs) && xs.all fun m => xs.all fun n => decide (prodM l m n ∈ xs))
theorem goodL_inc {f : Int} {l : Lat} {xs : List Mot} (h : goodL f l xs = true) : (∀ m ∈ xs, m ∈ allM f l) ∧ IncM xs := by
  unfold goodL at h
  rw [List.all_eq_true] at h
  have hk : ∀ k, k < xs.length → goodK f l xs k = true := fun k hk => h k (by rw [List.mem_range'_1]; omega)
  have hget : ∀ k (hk : k < xs.length), xs.getD k ((0, 0, 0, 0), 0, 0) = xs[k] := fun k hk => by simp [List.getD, hk]
  refine ⟨fun m hm => ?_, ?_⟩
  · obtain ⟨k, hk1, rfl⟩ := List.getElem_of_mem hm
    have := hk k hk1
    unfold goodK okM at this
    rw [hget k hk1] at this
    simp only [Bool.and_eq_true, decide_eq_true_eq] at this
    unfold allM
    exact List.mem_flatMap.2 ⟨xs[k].1, this.1.1, List.mem_map.2 ⟨xs[k].2, this.1.2, rfl⟩⟩
  · have hadj : ∀ k (hk1 : k + 1 < xs.length), mless xs[k] xs[k + 1] = true := fun k hk1 => by
      have := hk (k + 1) hk1
      unfold goodK at this
      rw [hget _ hk1, Nat.add_sub_cancel, hget _ (by omega)] at this
      simp only [Bool.and_eq_true, Bool.or_eq_true, decide_eq_true_eq] at this
      rcases this.2 with h | h
      · omega
      · exact h
    have hall : ∀ (d i : Nat) (h2 : i + d + 1 < xs.length), mless (xs[i]'(by omega)) xs[i + d + 1] = true := by
      intro d
      induction d with
      | zero => intro i h2; exact hadj i h2
      | succ d ih => intro i h2; exact mless_trans (ih i (by omega)) (hadj (i + d + 1) (by omega))
    unfold IncM
    rw [List.pairwise_iff_getElem]
    intro i j hi hj hij
    have := hall (j - i - 1) i (by omega)
    have e : i + (j - i - 1) + 1 = j := by omega
    simp only [e] at this
    exact this
theorem pmats_12 {f : Int} (hf : f = 0 ∨ f = 1) : (pmats f).length ≤ 12 := by
  rcases hf with rfl | rfl <;> decide +kernel
theorem good_len {f : Int} (hf : f = 0 ∨ f = 1) {l : Lat} (hl : isLat l = true) {xs : List Mot} (h : goodL f l xs = true) : xs.length ≤ 768 := by
  obtain ⟨h1, h2⟩ := goodL_inc h
  have h3 := nodup_le xs (allM f l) h2.nodup h1
  have hn := (cells_len' hl).2
  have h4 := flatM_le (fun m => (cells l).map fun t => ((m, t) : Mot)) 64 (stableL f l) (fun m _ => by rw [List.length_map]; exact hn)
  have h5 : (stableL f l).length ≤ 12 := Nat.le_trans (List.length_filter_le _ _) (pmats_12 hf)
  unfold allM at h3
  omega
section goods
variable {f : Int} (hf : f = 0 ∨ f = 1) {l : Lat} (hl : isLat l = true) {xs : List Mot} (hn : xs.length ≤ 1048576)
include hf hl hn
theorem suit_reduced (m : Mot) : (suitB f l m && decide (m.2 ∈ cells l)) = okM f l m := by
  unfold suitB okM
  by_cases hc : m.2 ∈ cells l
  · rw [cells_vec hl hc, decide_eq_true hc, Bool.true_and, Bool.and_true, Bool.and_true]
    have : decide (m.1 ∈ stableL f l) = (pmB f m.1 && stB l m.1) := by
      rw [Bool.eq_iff_iff, decide_eq_true_iff, Bool.and_eq_true]
      unfold stableL
      rw [List.mem_filter, mem_pmats hf]
    rw [this]
  · rw [decide_eq_false hc, Bool.and_false, Bool.and_false]
theorem spec_good_loop : spec_IsGroup_l0 f xs 0 l.1 l.2.1 l.2.2 = some (if goodL f l xs = true then .inl (xs, l.1, l.2.1, l.2.2) else .inr false) := by
  have hff : isFrame f = true := isFrame_iff.2 hf
  refine loop_all_st (L := fun (_ : Unit) k => spec_IsGroup_l0 f xs k l.1 l.2.1 l.2.2) (fun _ => ()) xs.length (goodK f l xs) (.inl (xs, l.1, l.2.1, l.2.2)) (.inr false) (fun k hk => ?_) ?_ xs.length 0 (by omega)
  · show spec_IsGroup_l0 f xs (k : Int) l.1 l.2.1 l.2.2 = _
    have hget : ∀ k (hk : k < xs.length), xs.getD k ((0, 0, 0, 0), 0, 0) = xs[k] := fun k hk => by simp [List.getD, hk]
    have e1 : spec_IsSuitable f (l.1, l.2.1, l.2.2) xs[k] = some (suitB f l xs[k]) := spec_IsSuitable_v hff hl _
    rw [spec_IsGroup_l0_eq, decide_eq_true (by omega), rd_lt hk]
    simp only [cond_true, Option.bind_some, e1]
    unfold goodK
    rw [hget k hk, ← suit_reduced hf hl hn]
    cases hsu : suitB f l xs[k] with
    | false => rfl
    | true =>
      have hv : isVec xs[k].2 = true := by
        unfold suitB at hsu
        rw [Bool.and_eq_true] at hsu
        exact hsu.1
      have hsm : Sm xs[k].2 := by
        have := isVec_sv hv
        unfold Sv at this
        unfold Sm
        omega
      have e2 : spec_l06Reduce (l.1, l.2.1, l.2.2) xs[k] = some (xs[k].1, red l xs[k].2) := by
        have := spec_l03Reduce_v l xs[k].2 hl hsm
        rw [spec_l06Reduce_eq, show spec_l03Reduce (l.1, l.2.1, l.2.2) xs[k].2 = _ from this]
        rfl
      simp only [cond_true, e2, Option.bind_some, decide_true, Bool.true_and]
      have e3 : (decide ((red l xs[k].2).1 = xs[k].2.1) && (decide ((red l xs[k].2).2 = xs[k].2.2) && true)) = decide (xs[k].2 ∈ cells l) := by
        rw [← red_self hl]
        by_cases h : red l xs[k].2 = xs[k].2
        · rw [h]; simp
        · rw [decide_eq_false h]
          by_cases h1 : (red l xs[k].2).1 = xs[k].2.1
          · have h2 : (red l xs[k].2).2 ≠ xs[k].2.2 := fun h2 => h (Prod.ext h1 h2)
            simp [h1, h2]
          · simp [h1]
      rw [e3]
      cases decide (xs[k].2 ∈ cells l) with
      | false => rfl
      | true =>
        simp only [Bool.not_true, cond_false, Bool.and_true, Bool.true_and]
        by_cases h0 : k = 0
        · subst h0
          rw [show decide ((0 : Int) < ((0 : Nat) : Int)) = false from rfl]
          simp only [cond_false, Option.bind_fun_some, decide_true, Bool.true_or, if_true]
          rw [wnext hk (by omega)]
        · rw [decide_eq_true (show (0 : Int) < (k : Int) by omega), show IntKind.i64.wrap ((k : Int) - 1) = ((k - 1 : Nat) : Int) by rw [w64 (by omega) (by omega)]; omega, rd_lt (show k - 1 < xs.length by omega)]
          simp only [cond_true, Option.bind_some, spec_l05Less_v, Option.bind_fun_some]
          rw [wnext hk (by omega), hget (k - 1) (by omega), decide_eq_false h0, Bool.false_or]
          cases mless xs[k - 1] xs[k] <;> rfl
  · show spec_IsGroup_l0 f xs (xs.length : Int) l.1 l.2.1 l.2.2 = _
    rw [spec_IsGroup_l0_eq, decide_eq_false (by omega)]
    rfl
theorem impl_good_loop : impl_isGroup_l0 xs (stableL f l) xs (xs.length : Int) 0 l.1 l.2.1 l.2.2 [] = some (if goodL f l xs = true then .inl (xs, l.1, l.2.1, l.2.2, setM xs) else .inr false) := by
  have hst : (stableL f l).length ≤ 1048576 := Nat.le_trans (stable_len f l) (by omega)
  have key := loop_all_st (L := fun (s : List (Mot × Bool)) k => impl_isGroup_l0 xs (stableL f l) xs (xs.length : Int) k l.1 l.2.1 l.2.2 s) (fun k => setM (xs.take k)) xs.length (goodK f l xs) (.inl (xs, l.1, l.2.1, l.2.2, setM xs)) (.inr false) (fun k hk => by
    show impl_isGroup_l0 xs (stableL f l) xs (xs.length : Int) (k : Int) l.1 l.2.1 l.2.2 (setM (xs.take k)) = _
    have hget : ∀ k (hk : k < xs.length), xs.getD k ((0, 0, 0, 0), 0, 0) = xs[k] := fun k hk => by simp [List.getD, hk]
    have hset : mset cM .bool xs[k] true (setM (xs.take k)) = setM (xs.take (k + 1)) := by
      unfold setM
      rw [List.take_add_one, List.getElem?_eq_getElem hk, List.foldl_append]
      rfl
    obtain ⟨r, hr, hrv⟩ := impl_reduce_any hl xs[k].2
    rw [impl_isGroup_l0_eq, decide_eq_true (by omega), rd_lt hk]
    simp only [cond_true, Option.bind_some, slices_Contains_SMat_v (stableL f l) _ hst]
    unfold goodK okM
    rw [hget k hk]
    cases decide (xs[k].1 ∈ stableL f l) with
    | false => rfl
    | true =>
      rw [show impl_Lattice_reduce (l.1, l.2.1, l.2.2) xs[k].2 = some r from hr]
      simp only [cond_true, Option.bind_some]
      have e3 : (decide (r.1 = xs[k].2.1) && (decide (r.2 = xs[k].2.2) && true)) = decide (xs[k].2 ∈ cells l) := by
        rw [← hrv]
        by_cases h : r = xs[k].2
        · rw [h]; simp
        · rw [decide_eq_false h]
          by_cases h1 : r.1 = xs[k].2.1
          · have h2 : r.2 ≠ xs[k].2.2 := fun h2 => h (Prod.ext h1 h2)
            simp [h1, h2]
          · simp [h1]
      rw [e3]
      cases decide (xs[k].2 ∈ cells l) with
      | false => rfl
      | true =>
        simp only [Bool.not_true, cond_false, Bool.and_true, Bool.true_and]
        by_cases h0 : k = 0
        · subst h0
          rw [show decide ((0 : Int) < ((0 : Nat) : Int)) = false from rfl]
          simp only [cond_false, Option.bind_fun_some, decide_true, Bool.true_or, if_true]
          rw [wnext hk (by omega)]
          exact congrArg (impl_isGroup_l0 xs (stableL f l) xs (xs.length : Int) _ l.1 l.2.1 l.2.2) hset
        · obtain ⟨c, hc1, hc2⟩ := impl_compareMotions_v (xs[k - 1]'(by omega)) xs[k]
          rw [decide_eq_true (show (0 : Int) < (k : Int) by omega), show IntKind.i64.wrap ((k : Int) - 1) = ((k - 1 : Nat) : Int) by rw [w64 (by omega) (by omega)]; omega, rd_lt (show k - 1 < xs.length by omega)]
          simp only [cond_true, Option.bind_some, hc1, hc2, Option.bind_fun_some]
          rw [wnext hk (by omega), hget (k - 1) (by omega), decide_eq_false h0, Bool.false_or]
          cases mless xs[k - 1] xs[k] with
          | false => rfl
          | true => exact congrArg (impl_isGroup_l0 xs (stableL f l) xs (xs.length : Int) _ l.1 l.2.1 l.2.2) hset) (by
    show impl_isGroup_l0 xs (stableL f l) xs (xs.length : Int) (xs.length : Int) l.1 l.2.1 l.2.2 (setM (xs.take xs.length)) = _
    rw [impl_isGroup_l0_eq, decide_eq_false (by omega), List.take_length]
    rfl) xs.length 0 (by omega)
  exact key
end goods
end Go.Proofs.YtpboclokodgnlaaGreat
