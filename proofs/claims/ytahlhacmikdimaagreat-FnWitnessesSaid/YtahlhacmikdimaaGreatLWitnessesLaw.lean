/-
  A motion is a symmetry exactly if there is no witness, and a witness has another colour than its image.
-/
import Derived.Test.YtahlhacmikdimaaGreatPW
import Derived.Test.YtahlhacmikdimaaGreatPN
namespace Go.Proofs.YtahlhacmikdimaaGreat
open Ai
set_option linter.unusedSimpArgs false
set_option linter.unusedVariables false
set_option linter.unusedSectionVars false
theorem slices_Clone_v (xs : List Mot) (hn : xs.length ≤ 1048576) : slices_Clone_SMotion_Motion xs = some xs := by
  have h : decide (([] : List Mot).length + xs.length ≤ LIM) = true := decide_eq_true (by unfold LIM; simp only [List.length_nil]; omega)
  rw [slices_Clone_SMotion_Motion_eq, h]
  cases xs with
  | nil => exact both_self
  | cons a r => rfl
theorem impl_del_unbroken (p : Pat) (xs : List ((Int × Int × Int × Int) × Int × Int)) (hn : xs.length ≤ 1048576) (hq : ∀ x ∈ xs, impl_Unbroken_1 x (p.1, p.2.1.1, p.2.1.2.1, p.2.1.2.2, p.2.2) = some (!(keepsB p) x)) : slices_DeleteFunc_SMotion_Motion_o__impl_Unbroken_1 xs (p.1, p.2.1.1, p.2.1.2.1, p.2.1.2.2, p.2.2) = some (xs.filter ((keepsB p))) := by
  have hidx : slices_IndexFunc_SMotion_Motion__impl_Unbroken_1 xs (p.1, p.2.1.1, p.2.1.2.1, p.2.1.2.2, p.2.2) = some (match xs.findIdx? (fun x => !(keepsB p) x) with | none => -1 | some i => (i : Int)) := by
    rw [slices_IndexFunc_SMotion_Motion__impl_Unbroken_1_eq]
    have := find_loop (L := fun k => slices_IndexFunc_SMotion_Motion__impl_Unbroken_1_l0 xs (p.1, p.2.1.1, p.2.1.2.1, p.2.1.2.2, p.2.2) (xs.length : Int) k) (xs := xs) (p := fun x => !(keepsB p) x) (good := .inl ()) (bad := fun i => .inr (i : Int)) (by unfold MAXN; omega) (fun k hk => by
      show slices_IndexFunc_SMotion_Motion__impl_Unbroken_1_l0 xs _ _ k = _
      rw [slices_IndexFunc_SMotion_Motion__impl_Unbroken_1_l0_eq, decide_eq_true (by omega), rd_lt hk]
      simp only [cond_true, Option.bind_some, Option.bind_fun_some]
      rw [hq _ (List.getElem_mem hk)]
      simp only [Option.bind_some]
      cases (keepsB p) xs[k] <;> rfl) (by
      show slices_IndexFunc_SMotion_Motion__impl_Unbroken_1_l0 xs _ _ _ = _
      rw [slices_IndexFunc_SMotion_Motion__impl_Unbroken_1_l0_eq, decide_eq_false (by omega)]; rfl)
    rw [this]
    cases xs.findIdx? (fun x => !(keepsB p) x) <;> rfl
  rw [slices_DeleteFunc_SMotion_Motion_o__impl_Unbroken_1_eq, hidx]
  cases hfi : xs.findIdx? (fun x => !(keepsB p) x) with
  | none =>
    simp only [Option.bind_some, decide_true, cond_true]
    congr 1
    symm
    rw [List.filter_eq_self]
    intro a ha
    rw [List.findIdx?_eq_none_iff] at hfi
    simpa using hfi a ha
  | some i =>
    obtain ⟨hi, ht⟩ := first_out xs ((keepsB p)) hfi
    simp only [Option.bind_some]
    rw [decide_eq_false (by omega), wN (by omega)]
    simp only [cond_false]
    obtain ⟨s', i', e1, e2, e3, e4⟩ := del_loop (L := fun s i j => slices_DeleteFunc_SMotion_Motion_o__impl_Unbroken_1_l0 s (p.1, p.2.1.1, p.2.1.2.1, p.2.1.2.2, p.2.2) i j) xs ((keepsB p)) (fun s i j hj hx hsl hij he => by
      show slices_DeleteFunc_SMotion_Motion_o__impl_Unbroken_1_l0 s (p.1, p.2.1.1, p.2.1.2.1, p.2.1.2.2, p.2.2) (i : Int) (j : Int) = _
      have hq' : impl_Unbroken_1 (((xs[j].1.1, xs[j].1.2.1, xs[j].1.2.2), xs[j].2)) (p.1, p.2.1.1, p.2.1.2.1, p.2.1.2.2, p.2.2) = some (!(keepsB p) xs[j]) := hq _ (List.getElem_mem hx)
      rw [slices_DeleteFunc_SMotion_Motion_o__impl_Unbroken_1_l0_eq, inb hj, decide_eq_true (by omega), gd hj, he]
      simp only [cond_true, Option.bind_fun_some]
      rw [hq', wN (by omega), wN (by omega), decide_eq_true (by omega), decide_eq_true (by omega)]
      simp only [Option.bind_some, Bool.and_true, cond_true, Int.toNat_natCast]
      cases (keepsB p) xs[j] <;> rfl) (xs.length - (i + 1)) (i + 1) xs i (by omega) rfl (by omega) rfl ht.symm
    have e1' : slices_DeleteFunc_SMotion_Motion_o__impl_Unbroken_1_l0 xs (p.1, p.2.1.1, p.2.1.2.1, p.2.1.2.2, p.2.2) (i : Int) ((i + 1 : Nat) : Int) = slices_DeleteFunc_SMotion_Motion_o__impl_Unbroken_1_l0 s' (p.1, p.2.1.1, p.2.1.2.1, p.2.1.2.2, p.2.2) (i' : Int) (xs.length : Int) := e1
    rw [e1', slices_DeleteFunc_SMotion_Motion_o__impl_Unbroken_1_l0_eq, decide_eq_false (by omega)]
    simp only [cond_false, Option.bind_some, Int.toNat_natCast]
    have hol : (overL s' (List.replicate (s'.length - i') (((0, 0, 0, 0), 0, 0) : (Int × Int × Int × Int) × Int × Int)) i').length = s'.length := by
      unfold overL
      simp
      omega
    rw [decide_eq_true (show (0 : Int) ≤ (i' : Int) by omega), decide_eq_true (show (i' : Int) ≤ (s'.length : Int) by omega), decide_eq_true (by rw [hol]; omega)]
    simp only [Bool.and_true, cond_true]
    rw [cut_over _ _ _ (by omega), e4]
section unb
variable {q : Pat} (hq : isPat q = true) {xs : List Mot} (hn : xs.length ≤ 1048576)
include hq hn
theorem suit_keeps {m : Mot} (hm : suitB q.1 q.2.1 m = true) : spec_l09Keeps q m = some (keepsB q m) ∧ impl_Pattern_keeps q m = some (keepsB q m) := by
  have hs := suit_sm hq hm
  exact ⟨spec_l09Keeps_v q m hq hs, impl_Pattern_keeps_v q m hq hs⟩
theorem vec_sm {v : V} (hv : isVec v = true) : Sm v := by
  have := isVec_sv hv
  unfold Sv at this
  unfold Sm
  omega
theorem red_pair (v : V) : (decide ((red q.2.1 v).1 = v.1) && (decide ((red q.2.1 v).2 = v.2) && true)) = decide (v ∈ cells q.2.1) := by
  rw [← red_self (isPat_iff.1 hq).2.1]
  by_cases h : red q.2.1 v = v
  · rw [h]; simp
  · rw [decide_eq_false h]
    by_cases h1 : (red q.2.1 v).1 = v.1
    · have h2 : (red q.2.1 v).2 ≠ v.2 := fun h2 => h (Prod.ext h1 h2)
      simp [h1, h2]
    · simp [h1]
theorem spec_unbroken_loop : spec_Unbroken_l0 xs [] 0 q.1 q.2.1.1 q.2.1.2.1 q.2.1.2.2 q.2.2 = some (if goodL q.1 q.2.1 xs = true then .inl (xs.filter (keepsB q)) else .inr 2) := by
  have hff := (isPat_iff.1 hq).1
  have hf := isFrame_iff.1 hff
  have hl := (isPat_iff.1 hq).2.1
  have key := loop_all_st (L := fun (s : List Mot) k => spec_Unbroken_l0 xs s k q.1 q.2.1.1 q.2.1.2.1 q.2.1.2.2 q.2.2) (fun k => (xs.take k).filter (keepsB q)) xs.length (goodK q.1 q.2.1 xs) (.inl (xs.filter (keepsB q))) (.inr 2) (fun k hk => by
    show spec_Unbroken_l0 xs ((xs.take k).filter (keepsB q)) (k : Int) q.1 q.2.1.1 q.2.1.2.1 q.2.1.2.2 q.2.2 = _
    have hget : ∀ k (hk : k < xs.length), xs.getD k ((0, 0, 0, 0), 0, 0) = xs[k] := fun k hk => by simp [List.getD, hk]
    have hlen : ((xs.take k).filter (keepsB q)).length ≤ 1048576 := Nat.le_trans (List.length_filter_le _ _) (by simp; omega)
    have hF : (xs.take (k + 1)).filter (keepsB q) = if keepsB q xs[k] = true then (xs.take k).filter (keepsB q) ++ [xs[k]] else (xs.take k).filter (keepsB q) := by
      rw [List.take_add_one, List.getElem?_eq_getElem hk, List.filter_append]
      cases hk : keepsB q xs[k] <;> simp [hk]
    have e1 : spec_IsSuitable q.1 (q.2.1.1, q.2.1.2.1, q.2.1.2.2) xs[k] = some (suitB q.1 q.2.1 xs[k]) := spec_IsSuitable_v hff hl _
    rw [spec_Unbroken_l0_eq, decide_eq_true (by omega), rd_lt hk]
    simp only [cond_true, Option.bind_some, e1]
    unfold goodK
    rw [hget k hk, ← suit_reduced hf hl hn]
    cases hsu : suitB q.1 q.2.1 xs[k] with
    | false => rfl
    | true =>
      have hv : isVec xs[k].2 = true := by
        unfold suitB at hsu
        rw [Bool.and_eq_true] at hsu
        exact hsu.1
      have e2 : spec_l06Reduce (q.2.1.1, q.2.1.2.1, q.2.1.2.2) xs[k] = some (xs[k].1, red q.2.1 xs[k].2) := by
        have := spec_l03Reduce_v q.2.1 xs[k].2 hl (vec_sm hq hn hv)
        rw [spec_l06Reduce_eq, show spec_l03Reduce (q.2.1.1, q.2.1.2.1, q.2.1.2.2) xs[k].2 = _ from this]
        rfl
      have e4 : spec_l09Keeps (q.1, (q.2.1.1, q.2.1.2.1, q.2.1.2.2), q.2.2) xs[k] = some (keepsB q xs[k]) := (suit_keeps hq hn hsu).1
      simp only [cond_true, e2, Option.bind_some, decide_true, Bool.true_and]
      rw [red_pair hq hn]
      cases decide (xs[k].2 ∈ cells q.2.1) with
      | false => rfl
      | true =>
        simp only [Bool.not_true, cond_false, Bool.and_true, Bool.true_and, e4, Option.bind_some]
        rw [decide_eq_true (show ((xs.take k).filter (keepsB q)).length + ([xs[k]] : List Mot).length ≤ LIM by unfold LIM; simp only [List.length_singleton]; omega), hF, wnext hk (by omega)]
        by_cases h0 : k = 0
        · subst h0
          rw [show decide ((0 : Int) < ((0 : Nat) : Int)) = false from rfl]
          simp only [cond_false, cond_true, Option.bind_fun_some, decide_true, Bool.true_or, if_true]
          cases keepsB q xs[0] <;> rfl
        · rw [decide_eq_true (show (0 : Int) < (k : Int) by omega), show IntKind.i64.wrap ((k : Int) - 1) = ((k - 1 : Nat) : Int) by rw [w64 (by omega) (by omega)]; omega, rd_lt (show k - 1 < xs.length by omega)]
          simp only [cond_true, Option.bind_some, spec_l05Less_v, Option.bind_fun_some]
          rw [hget (k - 1) (by omega), decide_eq_false h0, Bool.false_or]
          cases mless xs[k - 1] xs[k] with
          | false => rfl
          | true => cases keepsB q xs[k] <;> rfl) (by
    show spec_Unbroken_l0 xs ((xs.take xs.length).filter (keepsB q)) (xs.length : Int) q.1 q.2.1.1 q.2.1.2.1 q.2.1.2.2 q.2.2 = _
    rw [spec_Unbroken_l0_eq, decide_eq_false (by omega), List.take_length]
    rfl) xs.length 0 (by omega)
  exact key
theorem impl_areReduced_v : impl_areReduced q.1 q.2.1 xs = some (goodL q.1 q.2.1 xs) := by
  have hff := (isPat_iff.1 hq).1
  have hf := isFrame_iff.1 hff
  have hl := (isPat_iff.1 hq).2.1
  rw [impl_areReduced_eq]
  have key := loop_all_st (L := fun (_ : Unit) k => impl_areReduced_l0 q.1 xs xs (xs.length : Int) k q.2.1.1 q.2.1.2.1 q.2.1.2.2) (fun _ => ()) xs.length (goodK q.1 q.2.1 xs) (.inl ()) (.inr false) (fun k hk => by
    show impl_areReduced_l0 q.1 xs xs (xs.length : Int) (k : Int) q.2.1.1 q.2.1.2.1 q.2.1.2.2 = _
    have hget : ∀ k (hk : k < xs.length), xs.getD k ((0, 0, 0, 0), 0, 0) = xs[k] := fun k hk => by simp [List.getD, hk]
    have e1 : impl_isSuitable q.1 (q.2.1.1, q.2.1.2.1, q.2.1.2.2) xs[k] = some (suitB q.1 q.2.1 xs[k]) := impl_isSuitable_v hf hl _
    rw [impl_areReduced_l0_eq, decide_eq_true (by omega), rd_lt hk]
    simp only [cond_true, Option.bind_some, e1]
    unfold goodK
    rw [hget k hk, ← suit_reduced hf hl hn]
    cases hsu : suitB q.1 q.2.1 xs[k] with
    | false => rfl
    | true =>
      have hv : isVec xs[k].2 = true := by
        unfold suitB at hsu
        rw [Bool.and_eq_true] at hsu
        exact hsu.1
      have e2 : impl_Lattice_reduceMotion (q.2.1.1, q.2.1.2.1, q.2.1.2.2) xs[k] = some (xs[k].1, red q.2.1 xs[k].2) := by
        have := impl_Lattice_reduce_v q.2.1 xs[k].2 hl (vec_sm hq hn hv)
        rw [impl_Lattice_reduceMotion_eq, show impl_Lattice_reduce (q.2.1.1, q.2.1.2.1, q.2.1.2.2) xs[k].2 = _ from this]
        rfl
      simp only [cond_true, e2, Option.bind_some, decide_true, Bool.true_and]
      rw [red_pair hq hn]
      cases decide (xs[k].2 ∈ cells q.2.1) with
      | false => rfl
      | true =>
        simp only [Bool.not_true, cond_false, Bool.and_true, Bool.true_and]
        rw [wnext hk (by omega)]
        by_cases h0 : k = 0
        · subst h0
          rw [show decide ((0 : Int) < ((0 : Nat) : Int)) = false from rfl]
          simp only [cond_false, Option.bind_fun_some, decide_true, Bool.true_or, if_true]
        · obtain ⟨c, hc1, hc2⟩ := impl_compareMotions_v (xs[k - 1]'(by omega)) xs[k]
          rw [decide_eq_true (show (0 : Int) < (k : Int) by omega), show IntKind.i64.wrap ((k : Int) - 1) = ((k - 1 : Nat) : Int) by rw [w64 (by omega) (by omega)]; omega, rd_lt (show k - 1 < xs.length by omega)]
          simp only [cond_true, Option.bind_some, hc1, hc2, Option.bind_fun_some]
          rw [hget (k - 1) (by omega), decide_eq_false h0, Bool.false_or]
          cases mless xs[k - 1] xs[k] <;> rfl) (by
    show impl_areReduced_l0 q.1 xs xs (xs.length : Int) (xs.length : Int) q.2.1.1 q.2.1.2.1 q.2.1.2.2 = _
    rw [impl_areReduced_l0_eq, decide_eq_false (by omega)]
    rfl) xs.length 0 (by omega)
  rw [show impl_areReduced_l0 q.1 xs xs (xs.length : Int) 0 q.2.1.1 q.2.1.2.1 q.2.1.2.2 = _ from key]
  show Option.bind (some (if goodL q.1 q.2.1 xs = true then _ else _)) _ = _
  cases goodL q.1 q.2.1 xs <;> rfl
end unb
theorem insert_has {xs : List Mot} (hn : xs.length ≤ 1000000) (hi : IncM xs) {m : Mot} (hm : m ∈ xs) : spec_l06Insert_o xs m = some xs := by
  obtain ⟨r, hr, hrl, h1, h2⟩ := spec_place_loop hn m hi xs.length 0 xs.length (by omega) (by omega) (by omega) (fun j hj h => by omega) (fun j hj h => by omega)
  have hp : spec_l06Place xs m = some (r : Int) := by
    rw [spec_l06Place_eq, show (0 : Int) = ((0 : Nat) : Int) from rfl, hr]
    rfl
  obtain ⟨j, hj, e⟩ := List.getElem_of_mem hm
  have hrj : r ≤ j := by
    rcases Nat.lt_or_ge j r with h | h
    · have := h1 j hj h
      rw [e, mless_irr] at this; cases this
    · exact h
  have hlt : r < xs.length := by omega
  have he : xs[r] = m := by
    rcases Nat.lt_or_ge r j with h | h
    · have h3 := List.pairwise_iff_getElem.1 hi r j hlt hj h
      rw [e, h2 r hlt (Nat.le_refl _)] at h3; cases h3
    · have : r = j := by omega
      subst this; exact e
  rw [spec_l06Insert_o_eq, hp]
  simp only [Option.bind_some]
  rw [inb hlt, decide_eq_true (show (r : Int) < (xs.length : Int) by omega), gd hlt]
  simp only [cond_true]
  rw [mot_beq, he, decide_eq_true rfl]
  rfl
theorem insert_any {f : Int} {l : Lat} {xs : List Mot} (hn : xs.length ≤ 1000000) (hi : IncM xs) {m : Mot} : ∃ ys, spec_l06Insert_o xs m = some ys ∧ IncM ys ∧ ys.length ≤ xs.length + 1 := by
  by_cases hm : m ∈ xs
  · exact ⟨xs, insert_has hn hi hm, hi, by omega⟩
  · obtain ⟨ys, e, h1, h2, h3⟩ := insert_d hn hi hm
    exact ⟨ys, e, h1, by omega⟩
theorem unbroken_loop {f : Int} (hf : f = 0 ∨ f = 1) {l : Lat} (hl : isLat l = true) (z2 z3 z4 z5 z10 z11 z12 : Int) (z13 : List Int) : ∀ (d : Nat) (xs : List Mot) (n : Int) (s : Src), n ≤ (d : Int) → n ≤ 1000 → SrcOk s → IncM xs → xs.length + d ≤ 1000 →
    Ok1 (spec_DrawUnbroken_l0 xs n z2 z3 z4 z5 s.1 s.2.1 s.2.2 f z10 z11 z12 z13 l.1 l.2.1 l.2.2) fun r => r.1.length ≤ xs.length + d ∧ Sk s (r.2.2.2.2.2.1, r.2.2.2.2.2.2.1, r.2.2.2.2.2.2.2.1) ∧ r.2.2.2.2.2.2.2.2 = (f, z10, z11, z12, z13)
  | 0, xs, n, s, hn, hn2, hs, hi, hx => by
    rw [spec_DrawUnbroken_l0_eq, decide_eq_false (show ¬ 0 < n by omega)]
    exact Ok1.some ⟨by show xs.length ≤ xs.length + 0; omega, Sk.refl hs, rfl⟩
  | d + 1, xs, n, s, hn, hn2, hs, hi, hx => by
    rw [spec_DrawUnbroken_l0_eq]
    refine Ok1.cond (fun hc => ?_) fun _ => Ok1.some ⟨by show xs.length ≤ xs.length + (d + 1); omega, Sk.refl hs, rfl⟩
    have hc := of_decide_eq_true hc
    have h1 : Ok1 (spec_l06DrawMotion (s.1, s.2.1, s.2.2) f (l.1, l.2.1, l.2.2)) fun y => Sk s y.2 ∧ ((isFrame f && isLat l) = true → y.1.1 ∈ stableL f l ∧ Sv y.1.2) := motion_d hs f l
    refine h1.bind fun y ⟨hy, hy2⟩ => ?_
    obtain ⟨y3, y4⟩ := hy2 (by rw [isFrame_iff.2 hf, hl]; rfl)
    obtain ⟨r, e1, e2⟩ := reduce_d hl y3 y4
    rw [show spec_l06Reduce (l.1, l.2.1, l.2.2) y.1 = some r from e1]
    obtain ⟨ys, e3, i1, i2⟩ := insert_any (f := f) (l := l) (m := r) (show xs.length ≤ 1000000 by omega) hi
    simp only [Option.bind_some, Option.bind_fun_some, e3]
    rw [w64 (x := n - 1) (by omega) (by omega)]
    exact (unbroken_loop hf hl z2 z3 z4 z5 z10 z11 z12 z13 d ys (n - 1) y.2 (by omega) (by omega) hy.1 i1 (by omega)).mono fun x ⟨x1, x2, x3⟩ => ⟨by omega, hy.trans x2, x3⟩
theorem drawUnbroken_d {x : List Int} (hb : ∀ c ∈ x, 0 ≤ c ∧ c ≤ 255) (hn : x.length ≤ 4096) : Ok1 (spec_DrawUnbroken x) fun y => y.1.2.2.length ≤ 65 ∧ y.2.length ≤ 100 := by
  rw [spec_DrawUnbroken_eq]
  refine (from_d hb hn).bind fun s hs => (pattern_d hs).bind fun a ⟨ha, a1⟩ => ?_
  rw [spec_IsPattern_v a.1 (leM (by omega))]
  simp only [Option.bind_some]
  refine Ok1.cond (fun hp => ?_) fun _ => Ok1.some ⟨a1, by simp⟩
  rw [spec_l09Full_v a.1 hp]
  simp only [Option.bind_some]
  refine (next_d ha.1 7 (by omega)).bind fun b ⟨hb, b1, b2⟩ => ?_
  have := b2 (by omega)
  refine (unbroken_loop (isFrame_iff.1 (isPat_iff.1 hp).1) (isLat_fullOf hp) 0 0 0 0 a.1.2.1.1 a.1.2.1.2.1 a.1.2.1.2.2 a.1.2.2 7 [] b.1 b.2 (by omega) (by omega) hb.1 List.Pairwise.nil (by simp)).bind fun r ⟨r1, r2, r3⟩ => ?_
  simp only [List.length_nil] at r1
  rw [r3]
  simp only
  refine (next_d (s := (r.2.2.2.2.2.1, r.2.2.2.2.2.2.1, r.2.2.2.2.2.2.2.1)) r2.1 16 (by omega)).bind fun c ⟨hc, _⟩ => Ok1.cond (fun _ => ?_) fun _ => Ok1.some ⟨a1, by show r.1.length ≤ 100; omega⟩
  exact (mot5_d hc.1).bind fun d hd => Ok1.chk (decide_eq_true (by unfold LIM; simp only [List.length_singleton]; omega)) (Ok1.some ⟨a1, by simp only [List.length_append, List.length_singleton]; omega⟩)
theorem drawWitness_d {x : List Int} (hb : ∀ c ∈ x, 0 ≤ c ∧ c ≤ 255) (hn : x.length ≤ 4096) : Ok1 (spec_DrawWitnessAgainst x) fun y => y.1.2.2.length ≤ 65 := by
  rw [spec_DrawWitnessAgainst_eq]
  refine (from_d hb hn).bind fun s hs => ?_
  have key : Ok1 (spec_l10DrawMotion s) fun y => y.1.2.2.length ≤ 65 := by
    rw [spec_l10DrawMotion_eq]
    refine (pattern_d hs).bind fun a ⟨ha, a1⟩ => ?_
    rw [spec_IsPattern_v a.1 (leM (by omega))]
    simp only [Option.bind_some]
    refine Ok1.cond (fun hp => ?_) fun _ => (mot5_d ha.1).bind fun b hb => Ok1.some a1
    refine (next_d ha.1 12 (by omega)).bind fun b ⟨hb, _⟩ => Ok1.cond (fun _ => (mot5_d hb.1).bind fun c hc => Ok1.some a1) fun _ => ?_
    have hq := isPat_lean hp
    rw [spec_l09Lean_v a.1 hp]
    simp only [Option.bind_some]
    refine (next_d hb.1 2 (by omega)).bind fun c ⟨hc, _⟩ => Ok1.cond (fun _ => ?_) fun _ => (motion_d hc.1 _ _).bind fun d ⟨hd, _⟩ => Ok1.some a1
    rw [spec_l10Group_v _ hq]
    simp only [Option.bind_some]
    have hg := group_len hq
    have hpos : 1 ≤ (groupG (onLat a.1 (fullOf a.1))).length := by
      have h1 := group_keep hq
      unfold isGroupB at h1
      simp only [Bool.and_eq_true, decide_eq_true_eq] at h1
      exact List.length_pos_of_mem h1.2.1
    refine (next_d hc.1 _ (by omega)).bind fun d ⟨hd, d1, d2⟩ => Ok1.chk ?_ ?_
    · rw [decide_eq_true d1, decide_eq_true (d2 (by omega))]; rfl
    · refine (next_d hd.1 5 (by omega)).bind fun e ⟨he, _⟩ => ?_
      rw [spec_l01Scale_eq]
      simp only [Option.bind_some, spec_l01Add_v]
      exact Ok1.some a1
  exact key.bind fun y hy => Ok1.some hy
def unbR (p : Pat) (xs : List Mot) : List Mot × Int := if isPat p = true then (if goodL (onLat p (fullOf p)).1 (onLat p (fullOf p)).2.1 xs = true then (xs.filter (keepsB (onLat p (fullOf p))), 0) else ([], 2)) else ([], 1)
theorem unbroken_v (p : Pat) (xs : List Mot) (h : p.2.2.length ≤ 1048576) (hn : xs.length ≤ 1048576) : spec_Unbroken p xs = some (unbR p xs) ∧ impl_Unbroken p xs = some (unbR p xs) := by
  unfold unbR
  rw [spec_Unbroken_eq, impl_Unbroken_eq, spec_IsPattern_v p (leM h), impl_IsPattern_v p (leM h)]
  simp only [Option.bind_some]
  cases hp : isPat p
  · exact ⟨rfl, rfl⟩
  · have hq := isPat_onLat hp (isLat_fullOf hp)
    simp only [cond_true, spec_l09Lean_v p hp, impl_Pattern_lean_v p hp, Option.bind_some, if_true]
    generalize onLat p (fullOf p) = q at hq ⊢
    rw [spec_unbroken_loop hq hn, impl_areReduced_v hq hn]
    cases hg : goodL q.1 q.2.1 xs with
    | false => exact ⟨rfl, rfl⟩
    | true =>
      have hl := (isPat_iff.1 hq).2.1
      have hf := isFrame_iff.1 (isPat_iff.1 hq).1
      have hsm : ∀ m ∈ xs, ∀ v ∈ cells q.2.1, Sm (wap m v) := fun m hm => allM_suit hf hl ((goodL_inc hg).1 m hm)
      have hd := impl_del_unbroken q xs hn fun m hm => by
        have e1 : impl_Pattern_keeps (q.1, (q.2.1.1, q.2.1.2.1, q.2.1.2.2), q.2.2) m = some (keepsB q m) := impl_Pattern_keeps_v q m hq (hsm m hm)
        rw [impl_Unbroken_1_eq, e1]
        cases keepsB q m <;> rfl
      simp only [if_true, cond_true, Option.bind_some, slices_Clone_v xs hn, hd, and_self]
theorem unbR_len (p : Pat) (xs : List Mot) : (unbR p xs).1.length ≤ xs.length := by
  unfold unbR
  split
  · split
    · exact List.length_filter_le _ _
    · simp
  · simp
theorem code2 (p : Pat) (m : Mot) (h : p.2.2.length ≤ 1048576) :
    (∃ c : Int, ¬ (c = 0) ∧ c ≠ 4 ∧ (∃ q1, spec_l10Code p m = some (q1, c)) ∧ ∃ q2, impl_leanFor p m = some (q2, c)) ∨
    (isPat p = true ∧ suitB (onLat p (fullOf p)).1 (onLat p (fullOf p)).2.1 m = true ∧ spec_l10Code p m = some (onLat p (fullOf p), 0) ∧ impl_leanFor p m = some (onLat p (fullOf p), 0)) := by
  rw [spec_l10Code_eq, impl_leanFor_eq, spec_IsPattern_v p (leM h), impl_IsPattern_v p (leM h)]
  simp only [Option.bind_some]
  cases hp : isPat p with
  | false => exact .inl ⟨1, by decide, by decide, ⟨_, rfl⟩, _, rfl⟩
  | true =>
    have hq := isPat_lean hp
    have hff := (isPat_iff.1 hq).1
    have hl := (isPat_iff.1 hq).2.1
    simp only [cond_true, spec_l09Lean_v p hp, impl_Pattern_lean_v p hp, Option.bind_some, spec_IsSuitable_v hff hl, impl_isSuitable_v (isFrame_iff.1 hff) hl]
    cases hs : suitB (onLat p (fullOf p)).1 (onLat p (fullOf p)).2.1 m with
    | false => exact .inl ⟨2, by decide, by decide, ⟨_, rfl⟩, _, rfl⟩
    | true => exact .inr ⟨trivial, rfl, rfl, rfl⟩
def witF (q : Pat) (m : Mot) : Option V := (cells q.2.1).find? (fun v => !decide (patAt q (wap m v) = patAt q v))
def witR (q : Pat) (m : Mot) : V × Int := match witF q m with
  | none => ((0, 0), 4)
  | some v => (v, 0)
theorem wit_v (p : Pat) (m : Mot) (hp : isPat p = true) (hm : suitB (onLat p (fullOf p)).1 (onLat p (fullOf p)).2.1 m = true) (e1 : spec_l10Code p m = some (onLat p (fullOf p), 0)) (e2 : impl_leanFor p m = some (onLat p (fullOf p), 0)) :
    spec_WitnessAgainst p m = some (witR (onLat p (fullOf p)) m) ∧ impl_WitnessAgainst p m = some (witR (onLat p (fullOf p)) m) ∧ spec_IsSymmetry p m = some (keepsB (onLat p (fullOf p)) m, 0) ∧ impl_IsSymmetry p m = some (keepsB (onLat p (fullOf p)) m, 0) := by
  have hq := isPat_lean hp
  have hs := suit_sm hq hm
  generalize onLat p (fullOf p) = q at *
  rw [spec_WitnessAgainst_eq, impl_WitnessAgainst_eq, spec_IsSymmetry_eq, impl_IsSymmetry_eq, e1, e2]
  refine and_assoc.1 ⟨?_, ?_⟩
  · have hl := (isPat_iff.1 hq).2.1
    have hn := (cells_len' hl).2
    simp only [Option.bind_some, decide_true, Bool.not_true, cond_true, cond_false, spec_l03Cells_v _ hl, impl_Lattice_cells_v _ hl]
    have k1 := loop_find (L := fun k => spec_WitnessAgainst_l0 (cells q.2.1) k m.1.1 m.1.2.1 m.1.2.2.1 m.1.2.2.2 m.2.1 m.2.2 0 0 q.1 q.2.1.1 q.2.1.2.1 q.2.1.2.2 q.2.2) (cells q.2.1) (fun v => !decide (patAt q (wap m v) = patAt q v)) (.inl (0, 0)) (fun v => .inr (0, v.1, v.2)) (fun k hk => by
      have hmem : (cells q.2.1)[k] ∈ cells q.2.1 := List.getElem_mem hk
      rw [spec_WitnessAgainst_l0_eq, inb hk, decide_eq_true (by omega), gd hk]
      simp only [cond_true, Option.bind_some, Option.bind_fun_some, spec_l05Apply_v]
      have e1 : spec_l09At (q.1, (q.2.1.1, q.2.1.2.1, q.2.1.2.2), q.2.2) (wap ((m.1.1, m.1.2.1, m.1.2.2.1, m.1.2.2.2), m.2.1, m.2.2) (cells q.2.1)[k]) = some (patAt q (wap m (cells q.2.1)[k])) := spec_l09At_v q _ hq (hs _ hmem)
      have e2 : spec_l09At (q.1, (q.2.1.1, q.2.1.2.1, q.2.1.2.2), q.2.2) (cells q.2.1)[k] = some (patAt q (cells q.2.1)[k]) := spec_l09At_v q _ hq (cells_sm hl hmem).1
      rw [e1, e2, wnext hk (by omega)]
      simp only [Option.bind_some]
      cases decide (patAt q (wap m (cells q.2.1)[k]) = patAt q (cells q.2.1)[k]) <;> rfl) (by
      rw [spec_WitnessAgainst_l0_eq, decide_eq_false (by omega)]; rfl)
    have k2 := loop_find (L := fun k => impl_WitnessAgainst_l0 (cells q.2.1) ((cells q.2.1).length : Int) k m.1.1 m.1.2.1 m.1.2.2.1 m.1.2.2.2 m.2.1 m.2.2 0 0 q.1 q.2.1.1 q.2.1.2.1 q.2.1.2.2 q.2.2) (cells q.2.1) (fun v => !decide (patAt q (wap m v) = patAt q v)) (.inl (0, 0)) (fun v => .inr (0, v.1, v.2)) (fun k hk => by
      have hmem : (cells q.2.1)[k] ∈ cells q.2.1 := List.getElem_mem hk
      rw [impl_WitnessAgainst_l0_eq, inb hk, decide_eq_true (p := (k : Int) < ((cells q.2.1).length : Int)) (by omega), gd hk]
      simp only [cond_true, Option.bind_some, Option.bind_fun_some, impl_Motion_apply_v]
      have e1 : impl_Pattern_at (q.1, (q.2.1.1, q.2.1.2.1, q.2.1.2.2), q.2.2) (wap ((m.1.1, m.1.2.1, m.1.2.2.1, m.1.2.2.2), m.2.1, m.2.2) (cells q.2.1)[k]) = some (patAt q (wap m (cells q.2.1)[k])) := impl_Pattern_at_v q _ hq (hs _ hmem)
      have e3 := patAt_cell hq hk
      have hkc : k < q.2.2.length := by
        have h1 := (isPat_iff.1 hq).2.2.1
        have h2 := (cells_len' hl).1
        omega
      rw [rd_lt hkc, Option.some.injEq] at e3
      rw [e1, wnext hk (by omega), inb hkc, gd hkc, e3]
      simp only [Option.bind_some, cond_true]
      cases decide (patAt q (wap m (cells q.2.1)[k]) = patAt q (cells q.2.1)[k]) <;> rfl) (by
      rw [impl_WitnessAgainst_l0_eq, decide_eq_false (by omega)]; rfl)
    rw [k1, k2]
    unfold witR witF
    cases (cells q.2.1).find? (fun v => !decide (patAt q (wap m v) = patAt q v)) with
    | none => exact ⟨rfl, rfl⟩
    | some v => exact ⟨rfl, rfl⟩
  · simp only [Option.bind_some, decide_true, Bool.not_true, cond_true, cond_false, spec_l09Keeps_v q m hq hs, impl_Pattern_keeps_v q m hq hs]
    cases keepsB q m <;> exact ⟨rfl, rfl⟩
theorem wit_keeps (q : Pat) (m : Mot) : keepsB q m = (witF q m).isNone := by
  unfold keepsB witF
  rw [Bool.eq_iff_iff, List.all_eq_true, Option.isNone_iff_eq_none, List.find?_eq_none]
  constructor
  · intro h v hv; simp [of_decide_eq_true (h v hv)]
  · intro h v hv; have := h v hv; simpa using this
theorem groupOf_v (p : Pat) (h : p.2.2.length ≤ 1048576) (hp : isPat p = true) : impl_GroupOfPattern p = some (groupG (onLat p (fullOf p)), 0) := by
  rw [impl_GroupOfPattern_eq, impl_IsPattern_v p (leM h), hp]
  simp only [Option.bind_some, cond_true, impl_Pattern_lean_v p hp, impl_Pattern_groupOf_v _ (isPat_lean hp)]
theorem eq_loopW {xs u g : List Mot} (hx : xs.length ≤ 1048576) (hu : u.length ≤ 1048576) (hg : g.length ≤ 1048576) (h : ∀ m ∈ xs, decide (m ∈ u) = decide (m ∈ g)) (z0 : Int) (z1 : Bool) (z2 z6 z8 z9 z10 z11 : Int) (z12 : List Int) (z13 z14 z15 z16 z17 z18 z19 z20 : Int) : ∀ (d k : Nat), k + d = xs.length →
    laws_FnWitnesses_l0 z0 z1 z2 xs u g z6 (k : Int) z8 z9 z10 z11 z12 z13 z14 z15 z16 z17 z18 z19 z20 = some (.inl (z0, z1, z2, z6, z8, z9, z10, z11, z12, z13, z14, z15, z16, z17, z18, z19, z20))
  | 0, k, hk => by
    rw [laws_FnWitnesses_l0_eq, decide_eq_false (by omega)]; rfl
  | d + 1, k, hk => by
    have hlt : k < xs.length := by omega
    have e := h _ (List.getElem_mem hlt)
    rw [laws_FnWitnesses_l0_eq, decide_eq_true (by omega), rd_lt hlt]
    simp only [cond_true, Option.bind_some, laws_hasMotion9_v _ _ hu, laws_hasMotion9_v _ _ hg, Option.bind_fun_some]
    rw [wnext hlt (by omega), eq_loopW hx hu hg h z0 z1 z2 z6 z8 z9 z10 z11 z12 z13 z14 z15 z16 z17 z18 z19 z20 d (k + 1) (by omega), ← e]
    cases decide (xs[k] ∈ u) <;> rfl
theorem suit_parts {q : Pat} (hq : isPat q = true) {m : Mot} (hm : suitB q.1 q.2.1 m = true) : m.1 ∈ pmats q.1 ∧ isVec m.2 = true ∧ stB q.2.1 m.1 = true := by
  unfold suitB at hm
  rw [Bool.and_eq_true, Bool.and_eq_true] at hm
  exact ⟨(mem_pmats (isFrame_iff.1 (isPat_iff.1 hq).1) _).2 hm.2.1, hm.1, hm.2.2⟩
theorem FnWitnesses_true (x : List Int) (h : wfE (.list (.i .u8)) x) : laws_FnWitnesses x = some true := by
  rw [laws_FnWitnesses_eq, laws_big_eq]
  by_cases hb : 4096 < (x.length : Int)
  · rw [decide_eq_true hb]; rfl
  · rw [decide_eq_false hb]
    obtain ⟨y, e1, hy⟩ := drawWitness_d (code_bytes h) (by omega)
    obtain ⟨p, m⟩ := y
    obtain ⟨z, e2, hz1, hz2⟩ := drawUnbroken_d (code_bytes h) (by omega)
    obtain ⟨q, xs⟩ := z
    simp only at hy hz1 hz2
    obtain ⟨u1, u2⟩ := unbroken_v q xs (by omega) (by omega)
    have hul := unbR_len q xs
    have lk := laws_likeMotions9_s (unbR q xs).1 (by omega)
    -- the list of motions
    have hU : (unbR q xs).2 = 0 → ∃ g, impl_GroupOfPattern q = some (g, 0) ∧ g.length ≤ 1048576 ∧ ∀ m ∈ xs, decide (m ∈ (unbR q xs).1) = decide (m ∈ g) := by
      intro h0
      unfold unbR at h0 ⊢
      by_cases hq : isPat q = true
      · rw [if_pos hq] at h0 ⊢
        by_cases hg : goodL (onLat q (fullOf q)).1 (onLat q (fullOf q)).2.1 xs = true
        · rw [if_pos hg] at h0 ⊢
          refine ⟨_, groupOf_v q (by omega) hq, Nat.le_trans (group_len (isPat_lean hq)) (by omega), fun m hm => ?_⟩
          have ha := (goodL_inc hg).1 m hm
          rw [Bool.eq_iff_iff, decide_eq_true_iff, decide_eq_true_iff, groupG_filter, List.mem_filter, List.mem_filter]
          exact ⟨fun h => ⟨ha, h.2⟩, fun h => ⟨hm, h.2⟩⟩
        · rw [if_neg hg] at h0; simp at h0
      · rw [if_neg hq] at h0; simp at h0
    rcases code2 p m (by omega) with ⟨c, c0, c4, ⟨q1, k1⟩, q2, k2⟩ | ⟨hp, hs, k1, k2⟩
    · have w1 : spec_WitnessAgainst p m = some ((0, 0), c) := by rw [spec_WitnessAgainst_eq, k1]; simp [c0]
      have w2 : impl_WitnessAgainst p m = some ((0, 0), c) := by rw [impl_WitnessAgainst_eq, k2]; simp [c0]
      have w3 : spec_IsSymmetry p m = some (false, c) := by rw [spec_IsSymmetry_eq, k1]; simp [c0]
      have w4 : impl_IsSymmetry p m = some (false, c) := by rw [impl_IsSymmetry_eq, k2]; simp [c0]
      by_cases h0 : (unbR q xs).2 = 0
      · obtain ⟨g, g1, g2, g3⟩ := hU h0
        have lp := fun z0 z1 z2 z6 z8 z9 z10 z11 z12 z13 z14 z15 z16 z17 z18 z19 z20 => eq_loopW (by omega) (by omega) g2 g3 z0 z1 z2 z6 z8 z9 z10 z11 z12 z13 z14 z15 z16 z17 z18 z19 z20 xs.length 0 (by omega)
        simp only [Int.natCast_zero] at lp
        simp [e1, e2, w1, w2, w3, w4, u1, u2, lk, h0, g1, lp, c0]
      · simp [e1, e2, w1, w2, w3, w4, u1, u2, lk, h0, c0]
    · obtain ⟨w1, w2, w3, w4⟩ := wit_v p m hp hs k1 k2
      have hq := isPat_lean hp
      obtain ⟨m1', m2', m3'⟩ := suit_parts hq hs
      have hf := isFrame_iff.1 (isPat_iff.1 hq).1
      have hpm := pmats_pm hf m1'
      have hk := wit_keeps (onLat p (fullOf p)) m
      unfold witR at w1 w2
      -- behind the list of motions, if there is a witness
      have hW : ∀ v, witF (onLat p (fullOf p)) m = some v → (impl_ApplyMotion m v = some ((0, 0), 3)) ∨ ∃ w a b, impl_ApplyMotion m v = some (w, 0) ∧ impl_ColourAt p v = some (a, 0) ∧ impl_ColourAt p w = some (b, 0) ∧ ¬ a = b := by
        intro v hv
        unfold witF at hv
        have hmem := List.mem_of_find?_eq_some hv
        have hne := List.find?_some (p := fun v => !decide (patAt (onLat p (fullOf p)) (wap m v) = patAt (onLat p (fullOf p)) v)) hv
        simp only [Bool.not_eq_true', decide_eq_false_iff_not] at hne
        have hvv := (cells_sm (isLat_fullOf hp) hmem).2
        have hap := apply_v hf m1' m2' hvv
        have hwa : wap m v = vadd (mapp m.1 v) m.2 := (wap_pm hpm (isVec_ss hvv) (isVec_ss m2')).1
        rw [hwa, patAt_lean hp, patAt_lean hp] at hne
        by_cases hw : isVec (vadd (mapp m.1 v) m.2) = true
        · right
          rw [if_pos hw] at hap
          refine ⟨_, patAt p v, patAt p (vadd (mapp m.1 v) m.2), hap, ?_, ?_, fun e => hne e.symm⟩
          · rw [colourAtI_v p v (by omega), hp, hvv]; rfl
          · rw [colourAtI_v p _ (by omega), hp, hw]; rfl
        · left
          rw [if_neg hw] at hap
          exact hap
      by_cases h0 : (unbR q xs).2 = 0
      · obtain ⟨g, g1, g2, g3⟩ := hU h0
        have lp := fun z0 z1 z2 z6 z8 z9 z10 z11 z12 z13 z14 z15 z16 z17 z18 z19 z20 => eq_loopW (by omega) (by omega) g2 g3 z0 z1 z2 z6 z8 z9 z10 z11 z12 z13 z14 z15 z16 z17 z18 z19 z20 xs.length 0 (by omega)
        simp only [Int.natCast_zero] at lp
        cases hv : witF (onLat p (fullOf p)) m with
        | none =>
          rw [hv] at w1 w2 hk
          rw [hk] at w3 w4
          simp [e1, e2, w1, w2, w3, w4, u1, u2, lk, h0, g1, lp]
        | some v =>
          rw [hv] at w1 w2 hk
          rw [hk] at w3 w4
          rcases hW v hv with ha | ⟨w, a, b, ha, hca, hcb, hab⟩
          · simp [e1, e2, w1, w2, w3, w4, u1, u2, lk, h0, g1, lp, ha]
          · simp [e1, e2, w1, w2, w3, w4, u1, u2, lk, h0, g1, lp, ha, hca, hcb, hab]
      · cases hv : witF (onLat p (fullOf p)) m with
        | none =>
          rw [hv] at w1 w2 hk
          rw [hk] at w3 w4
          simp [e1, e2, w1, w2, w3, w4, u1, u2, lk, h0]
        | some v =>
          rw [hv] at w1 w2 hk
          rw [hk] at w3 w4
          rcases hW v hv with ha | ⟨w, a, b, ha, hca, hcb, hab⟩
          · simp [e1, e2, w1, w2, w3, w4, u1, u2, lk, h0, ha]
          · simp [e1, e2, w1, w2, w3, w4, u1, u2, lk, h0, ha, hca, hcb, hab]
end Go.Proofs.YtahlhacmikdimaaGreat
