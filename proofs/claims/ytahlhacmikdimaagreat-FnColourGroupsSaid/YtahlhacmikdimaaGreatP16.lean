/-
  Plain meanings: what a patch tells of a lattice's cells.
-/
import Derived.Test.YtahlhacmikdimaaGreatP11
import Derived.Test.YtahlhacmikdimaaGreatP4
import Derived.Test.YtahlhacmikdimaaGreatPL
namespace Go.Proofs.YtahlhacmikdimaaGreat
open Ai
set_option linter.unusedSimpArgs false
set_option linter.unusedVariables false
set_option linter.unnecessarySimpa false
theorem isPatch_iff {p : Patch} : isPatch p = true ↔ (1 ≤ p.1 ∧ p.1 ≤ 16) ∧ (1 ≤ p.2.1 ∧ p.2.1 ≤ 16) ∧ (p.2.2.length : Int) = p.1 * p.2.1 ∧ p.2.2.all (within · 0 9) = true := by
  unfold isPatch
  simp only [Bool.and_eq_true, within_iff, decide_eq_true_iff, and_assoc]
theorem patch_len {p : Patch} (h : isPatch p = true) : p.2.2.length ≤ 256 := by
  obtain ⟨h1, h2, h3, _⟩ := isPatch_iff.1 h
  have := wh_lim h1 h2
  omega
/-! ### A list of one number -/
theorem mul64_v : ∀ n : Fin 65, math_bits_Mul64 1 (n.val : Int) = some (0, (n.val : Int)) := by
  intro n
  rw [math_bits_Mul64_eq]
  revert n
  decide +kernel
theorem overL_rep {ys : List Int} {m n : Nat} (c : Int) (hl : ys.length = n) (hm : m ≤ n) (ht : ys.take m = List.replicate m c) (j : Nat) (hj : m + j ≤ n) :
    (overL ys (List.replicate j c) m).length = n ∧ (overL ys (List.replicate j c) m).take (m + j) = List.replicate (m + j) c := by
  unfold overL
  refine ⟨by simp; omega, ?_⟩
  rw [ht, List.replicate_append_replicate, List.take_left' (by simp)]
theorem repeat_loop (c : Int) : ∀ (f : Nat) (ys : List Int) (m n : Nat), ys.length = n → 1 ≤ m → m ≤ n → n ≤ 64 → n - m ≤ f → ys.take m = List.replicate m c → slices_Repeat_Sint64_int64_l0 ys (m : Int) = some (List.replicate n c)
  | f, ys, m, n, hl, h1, h2, h3, hf, ht => by
    rw [slices_Repeat_Sint64_int64_l0_eq]
    by_cases he : m = n
    · subst he
      rw [decide_eq_false (by omega)]
      rw [List.take_of_length_le (by omega)] at ht
      rw [ht]; rfl
    · cases f with
      | zero => omega
      | succ f =>
        rw [decide_eq_true (by omega), decide_eq_true (by omega), decide_eq_true (by omega)]
        simp only [Bool.and_true, cond_true, Option.bind_fun_some, Int.toNat_natCast]
        have hc : cut 0 m ys = List.replicate m c := by unfold cut; rw [ht, List.drop_zero]
        rw [hc, List.take_replicate, hl, List.length_replicate, w64 (by omega) (by omega)]
        obtain ⟨o1, o2⟩ := overL_rep c hl h2 ht (min (n - m) m) (by omega)
        have := repeat_loop c f (overL ys (List.replicate (min (n - m) m) c) m) (m + min (n - m) m) n o1 (by omega) (by omega) h3 (by omega) o2
        rw [← this]
        congr 1
        omega
theorem slices_Repeat_v (n : Nat) (h1 : 1 ≤ n) (h2 : n ≤ 64) : slices_Repeat_Sint64_int64 [-1] (n : Int) = some (List.replicate n (-1)) := by
  rw [slices_Repeat_Sint64_int64_eq, decide_eq_false (by omega)]
  have u1 : IntKind.u64.wrap ((([-1] : List Int).length : Nat) : Int) = 1 := by decide
  have u2 : IntKind.u64.wrap (n : Int) = (n : Int) := by
    show (n : Int) % 2 ^ 64 = n
    exact Int.emod_eq_of_lt (by omega) (by omega)
  rw [u1, u2, math_bits_Mul_eq, mul64_v ⟨n, by omega⟩]
  simp only [cond_false, Option.bind_some]
  rw [decide_eq_false (by omega), decide_eq_false (by omega), w64 (x := (n : Int)) (by omega) (by omega), decide_eq_true (by omega), decide_eq_true (by omega), decide_eq_true (by unfold LIM; omega)]
  simp only [cond_false, cond_true, Bool.and_true, Int.toNat_natCast, List.length_replicate, Nat.sub_zero, List.length_cons, List.length_nil, Option.bind_fun_some]
  have hm : min (0 + 1) n = 1 := by omega
  rw [hm, List.take_of_length_le (by simp; omega)]
  obtain ⟨o1, o2⟩ := overL_rep (ys := List.replicate n 0) (m := 0) (n := n) (-1) (by simp) (by omega) (by simp) 1 (by omega)
  exact repeat_loop (-1) n (overL (List.replicate n 0) [-1] 0) 1 n o1 (by omega) (by omega) h2 (by omega) o2
/-! ### Telling -/
def tellC (l : Lat) (w : Int) : Nat → List Int → List Int → Option (List Int)
  | _, [], xs => some xs
  | i, c :: r, xs => if 0 ≤ xs.getD (num l (place w i)) 0 ∧ xs.getD (num l (place w i)) 0 ≠ c then none else tellC l w (i + 1) r (xs.set (num l (place w i)) c)
def outC (o : Option (List Int)) : (List Int) ⊕ Bool := match o with | some ys => .inl ys | none => .inr false
def tellOf (p : Patch) (l : Lat) : Option (List Int) := tellC l p.1 0 p.2.2 (List.replicate (l.1 * l.2.2).toNat (-1))
theorem place_sm {w : Int} (hw : 1 ≤ w ∧ w ≤ 16) {i : Nat} (hi : i ≤ 1048576) : Sm (place w i) := by
  unfold place Sm
  dsimp only
  have h1 := Int.emod_nonneg (i : Int) (show w ≠ 0 by omega)
  have h2 := Int.emod_lt_of_pos (i : Int) (show 0 < w by omega)
  have h3 := Int.ediv_nonneg (show 0 ≤ (i : Int) by omega) (show 0 ≤ w by omega)
  have h4 := Int.ediv_le_self w (show 0 ≤ (i : Int) by omega)
  omega
theorem dflt_i {xs : List Int} {k : Nat} : xs.getD (Int.toNat (k : Int)) (dflt (.i .i64)) = xs.getD k 0 := rfl
theorem spec_tell (w h : Int) (cs : List Int) (l : Lat) (hl : isLat l = true) (hw : 1 ≤ w ∧ w ≤ 16) (hn : cs.length ≤ 256) : ∀ (r : List Int) (i : Nat) (xs : List Int), cs.drop i = r → i ≤ cs.length → (xs.length : Int) = l.1 * l.2.2 →
    spec_l20Colours_l1 xs (i : Int) w h cs l.1 l.2.1 l.2.2 = some (outC (tellC l w i r xs))
  | [], i, xs, hr, hi, hx => by
    have := List.drop_eq_nil_iff.1 hr
    rw [spec_l20Colours_l1_eq, decide_eq_false (by omega)]; rfl
  | c :: r, i, xs, hr, hi, hx => by
    have h1 : i < cs.length := by
      apply Nat.lt_of_not_le
      intro h2
      rw [List.drop_eq_nil_of_le h2] at hr; cases hr
    rw [List.drop_eq_getElem_cons h1, List.cons.injEq] at hr
    obtain ⟨hc, hr⟩ := hr
    have hk := num_int hl (place w i)
    have hk' : num l (place w i) < xs.length := by omega
    rw [spec_l20Colours_l1_eq, decide_eq_true (by omega), decide_eq_false (by omega), place_eq hw i (by omega), spec_l03Number_v l _ hl (place_sm hw (by omega)), rd_lt h1, hc, wnext h1 (by omega)]
    simp only [cond_true, cond_false, Option.bind_some, Option.bind_fun_some]
    rw [decide_eq_true (show (0 : Int) ≤ (num l (place w i) : Int) by omega), decide_eq_true (show (num l (place w i) : Int) < (xs.length : Int) by omega), dflt_i]
    simp only [Bool.and_true, cond_true, Int.toNat_natCast]
    have ih := spec_tell w h cs l hl hw hn r (i + 1) (xs.set (num l (place w i)) c) hr (by omega) (by rw [List.length_set]; exact hx)
    rw [ih, tellC]
    by_cases q1 : 0 ≤ xs.getD (num l (place w i)) 0
    · by_cases q2 : xs.getD (num l (place w i)) 0 = c
      · rw [decide_eq_true q1, decide_eq_true q2, if_neg (fun hh => hh.2 q2)]; rfl
      · rw [decide_eq_true q1, decide_eq_false q2, if_pos ⟨q1, q2⟩]; rfl
    · rw [decide_eq_false q1, if_neg (fun hh => q1 hh.1)]; rfl
theorem impl_tell (w h : Int) (cs : List Int) (l : Lat) (hl : isLat l = true) (hw : 1 ≤ w ∧ w ≤ 16) (hn : cs.length ≤ 256) : ∀ (r : List Int) (i : Nat) (xs : List Int), cs.drop i = r → i ≤ cs.length → (xs.length : Int) = l.1 * l.2.2 →
    impl_Patch_read_l0 xs cs (cs.length : Int) (i : Int) w h cs l.1 l.2.1 l.2.2 = some (outC (tellC l w i r xs))
  | [], i, xs, hr, hi, hx => by
    have := List.drop_eq_nil_iff.1 hr
    rw [impl_Patch_read_l0_eq, decide_eq_false (by omega)]; rfl
  | c :: r, i, xs, hr, hi, hx => by
    have h1 : i < cs.length := by
      apply Nat.lt_of_not_le
      intro h2
      rw [List.drop_eq_nil_of_le h2] at hr; cases hr
    rw [List.drop_eq_getElem_cons h1, List.cons.injEq] at hr
    obtain ⟨hc, hr⟩ := hr
    have hk := num_int hl (place w i)
    have hk' : num l (place w i) < xs.length := by omega
    rw [impl_Patch_read_l0_eq, decide_eq_true (by omega), rd_lt h1, hc, wnext h1 (by omega), impl_Patch_at_v w h cs i hw (by omega)]
    simp only [cond_true, cond_false, Option.bind_some, Option.bind_fun_some]
    have e1 : impl_Lattice_reduce (l.1, l.2.1, l.2.2) (place w i) = some (red l (place w i)) := impl_Lattice_reduce_v l _ hl (place_sm hw (by omega))
    have e2 : impl_Lattice_number (l.1, l.2.1, l.2.2) (red l (place w i)) = some (num l (place w i) : Int) := impl_Lattice_number_v l _ hl
    rw [e1]
    simp only [Option.bind_some]
    rw [e2]
    simp only [Option.bind_some]
    rw [decide_eq_true (show (0 : Int) ≤ (num l (place w i) : Int) by omega), decide_eq_true (show (num l (place w i) : Int) < (xs.length : Int) by omega), dflt_i]
    simp only [Bool.and_true, cond_true, Int.toNat_natCast]
    have ih := impl_tell w h cs l hl hw hn r (i + 1) (xs.set (num l (place w i)) c) hr (by omega) (by rw [List.length_set]; exact hx)
    rw [ih, tellC]
    by_cases q1 : 0 ≤ xs.getD (num l (place w i)) 0
    · by_cases q2 : xs.getD (num l (place w i)) 0 = c
      · rw [decide_eq_true q1, decide_eq_true q2, if_neg (fun hh => hh.2 q2)]; rfl
      · rw [decide_eq_true q1, decide_eq_false q2, if_pos ⟨q1, q2⟩]; rfl
    · rw [decide_eq_false q1, if_neg (fun hh => q1 hh.1)]; rfl
def resC (o : Option (List Int)) : (List Int) × Bool := match o with | some ys => (ys, true) | none => ([], false)
theorem spec_l20Colours_v (p : Patch) (l : Lat) (h : isPatch p = true) (hl : isLat l = true) : spec_l20Colours p l = some (resC (tellOf p l)) := by
  obtain ⟨hw, hh, _, _⟩ := isPatch_iff.1 h
  obtain ⟨⟨a1, a2⟩, ⟨c1, c2⟩, _, hp⟩ := isLat_iff.1 hl
  have hpos : 1 ≤ l.1 * l.2.2 := by
    have := Int.mul_le_mul a1 c1 (by omega) (by omega)
    omega
  have hn := patch_len h
  rw [spec_l20Colours_eq]
  have key := loop_map (L := fun s k => spec_l20Colours_l0 s k p.1 p.2.1 p.2.2 l.1 l.2.1 l.2.2) (List.range (l.1 * l.2.2).toNat) (fun _ => (-1 : Int)) (fun k hk s hs => by
    rw [List.length_range] at hk
    show spec_l20Colours_l0 s k p.1 p.2.1 p.2.2 l.1 l.2.1 l.2.2 = _
    rw [spec_l20Colours_l0_eq, w64 (x := l.1 * l.2.2) (by omega) (by omega), decide_eq_true (by omega), decide_eq_true (by unfold LIM; simp; omega), wnext hk (by omega)]
    simp only [cond_true, Option.bind_fun_some])
  rw [key]
  show Option.bind (spec_l20Colours_l0 _ _ _ _ _ _ _ _) _ = _
  rw [spec_l20Colours_l0_eq, w64 (x := l.1 * l.2.2) (by omega) (by omega), List.length_range, decide_eq_false (by omega)]
  have hr : List.map (fun _ => (-1 : Int)) (List.range (l.1 * l.2.2).toNat) = List.replicate (l.1 * l.2.2).toNat (-1) := by
    rw [List.map_const', List.length_range]
  rw [hr]
  simp only [cond_false, Option.bind_some]
  have := spec_tell p.1 p.2.1 p.2.2 l hl hw hn p.2.2 0 (List.replicate (l.1 * l.2.2).toNat (-1)) rfl (by omega) (by rw [List.length_replicate]; omega)
  rw [show ((0 : Nat) : Int) = 0 from rfl] at this
  rw [this]
  show _ = some (resC (tellC _ _ _ _ _))
  cases tellC l p.1 0 p.2.2 (List.replicate (l.1 * l.2.2).toNat (-1)) <;> rfl
theorem impl_Patch_read_v (p : Patch) (l : Lat) (h : isPatch p = true) (hl : isLat l = true) : impl_Patch_read p l = some (resC (tellOf p l)) := by
  obtain ⟨hw, hh, _, _⟩ := isPatch_iff.1 h
  obtain ⟨⟨a1, a2⟩, ⟨c1, c2⟩, _, hp⟩ := isLat_iff.1 hl
  have hpos : 1 ≤ l.1 * l.2.2 := by
    have := Int.mul_le_mul a1 c1 (by omega) (by omega)
    omega
  have hn := patch_len h
  rw [impl_Patch_read_eq, impl_Lattice_index_v l hl]
  have e := slices_Repeat_v (l.1 * l.2.2).toNat (by omega) (by omega)
  rw [show (((l.1 * l.2.2).toNat : Nat) : Int) = l.1 * l.2.2 by omega] at e
  simp only [Option.bind_some, e]
  have := impl_tell p.1 p.2.1 p.2.2 l hl hw hn p.2.2 0 (List.replicate (l.1 * l.2.2).toNat (-1)) rfl (by omega) (by rw [List.length_replicate]; omega)
  rw [show ((0 : Nat) : Int) = 0 from rfl] at this
  rw [this]
  show _ = some (resC (tellC _ _ _ _ _))
  cases tellC l p.1 0 p.2.2 (List.replicate (l.1 * l.2.2).toNat (-1)) <;> rfl
theorem tellC_len (l : Lat) (w : Int) : ∀ (r : List Int) (i : Nat) (xs ys : List Int), tellC l w i r xs = some ys → ys.length = xs.length
  | [], _, xs, ys, h => by rw [tellC, Option.some.injEq] at h; rw [h]
  | c :: r, i, xs, ys, h => by
    rw [tellC] at h
    split at h
    · cases h
    · rw [tellC_len l w r _ _ _ h, List.length_set]
theorem resC_len (p : Patch) (l : Lat) (hl : isLat l = true) : (resC (tellOf p l)).1.length ≤ 64 := by
  obtain ⟨_, _, _, hp⟩ := isLat_iff.1 hl
  cases h : tellOf p l with
  | none => simp [resC]
  | some ys =>
    have := tellC_len l p.1 _ _ _ _ h
    rw [List.length_replicate] at this
    show ys.length ≤ 64
    omega
/-! ### Numbers in a list -/
theorem spec_l01Has_v (xs : List Int) (c : Int) (h : xs.length ≤ 1048576) : spec_l01Has xs c = some (!(xs.all fun x => !decide (x = c))) := by
  rw [spec_l01Has_eq]
  have key := loop_all (L := fun k => spec_l01Has_l0 xs c k) xs (fun x => !decide (x = c)) (.inl ()) (.inr true) (fun k hk => by
    rw [spec_l01Has_l0_eq, decide_eq_true (by omega), rd_lt hk, wnext hk (by omega)]
    simp only [cond_true, Option.bind_some, Option.bind_fun_some]
    cases decide (xs[k] = c) <;> rfl) (by
    rw [spec_l01Has_l0_eq, decide_eq_false (by omega)]; rfl)
  rw [key]
  cases xs.all fun x => !decide (x = c) <;> rfl
theorem slices_Contains_v (xs : List Int) (c : Int) (h : xs.length ≤ 1048576) : slices_Contains_Sint64_int64 xs c = some (!(xs.all fun x => !decide (x = c))) := by
  rw [slices_Contains_Sint64_int64_eq, slices_Index_Sint64_int64_eq]
  rcases loop_idx (L := fun k => slices_Index_Sint64_int64_l0 xs c (xs.length : Int) k) xs (fun x => !decide (x = c)) (.inl ()) (fun k => .inr (k : Int)) (fun k hk => by
    rw [slices_Index_Sint64_int64_l0_eq, decide_eq_true (by omega), rd_lt hk, wnext hk (by omega)]
    simp only [cond_true, Option.bind_some, Option.bind_fun_some]
    rw [show decide (c = xs[k]) = decide (xs[k] = c) by rw [decide_eq_decide]; exact eq_comm]
    cases decide (xs[k] = c) <;> rfl) (by
    rw [slices_Index_Sint64_int64_l0_eq, decide_eq_false (by omega)]; rfl) with ⟨h1, h2⟩ | ⟨h1, k, hk, h2⟩
  · rw [h1, h2]; rfl
  · rw [h1, h2]
    simp only [Option.bind_some]
    rw [decide_eq_true (by omega)]; rfl
def settlesB (p : Patch) (l : Lat) : Bool := (resC (tellOf p l)).2 && ((resC (tellOf p l)).1.all fun x => !decide (x = -1))
theorem spec_l20Settles_v (p : Patch) (l : Lat) (h : isPatch p = true) (hl : isLat l = true) : spec_l20Settles p l = some (settlesB p l) := by
  rw [spec_l20Settles_eq, spec_l20Colours_v p l h hl]
  simp only [Option.bind_some, spec_l01Has_v _ _ (Nat.le_trans (resC_len p l hl) (by omega))]
  unfold settlesB
  cases (resC (tellOf p l)).2 <;> cases ((resC (tellOf p l)).1.all fun x => !decide (x = -1)) <;> rfl
theorem impl_Patch_settles_v (p : Patch) (l : Lat) (h : isPatch p = true) (hl : isLat l = true) : impl_Patch_settles p l = some (settlesB p l) := by
  rw [impl_Patch_settles_eq, impl_Patch_read_v p l h hl]
  simp only [Option.bind_some, slices_Contains_v _ _ (Nat.le_trans (resC_len p l hl) (by omega))]
  unfold settlesB
  cases (resC (tellOf p l)).2 <;> cases ((resC (tellOf p l)).1.all fun x => !decide (x = -1)) <;> rfl
end Go.Proofs.YtahlhacmikdimaaGreat
