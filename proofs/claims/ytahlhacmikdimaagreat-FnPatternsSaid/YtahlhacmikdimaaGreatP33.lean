/-
  Plain meanings: colours in the order in which they come.
-/
import Derived.Test.YtahlhacmikdimaaGreatP16
import Derived.Test.YtahlhacmikdimaaGreatP27
import Derived.Test.YtahlhacmikdimaaGreatP28
namespace Go.Proofs.YtahlhacmikdimaaGreat
open Ai
set_option linter.unusedSimpArgs false
set_option linter.unusedVariables false

/-- Where a colour stands first. -/
def fiC : List Int → Int → Nat
  | [], _ => 0
  | x :: r, c => if x = c then 0 else fiC r c + 1

theorem fiC_lt : ∀ {xs : List Int} {c : Int}, c ∈ xs → fiC xs c < xs.length
  | x :: r, c, h => by
    unfold fiC
    split
    · simp
    · rename_i hne
      have := fiC_lt (xs := r) (c := c) ((List.mem_cons.1 h).resolve_left fun e => hne e.symm)
      simp; omega

def seenC (s : List Int) (c : Int) : List Int := if c ∈ s then s else s ++ [c]

theorem seenC_mem (s : List Int) (c : Int) : c ∈ seenC s c := by
  unfold seenC
  split
  · assumption
  · simp

/-- The colours as numbers, in the order in which they come. -/
def comeG : List Int → List Int → List Int
  | [], _ => []
  | c :: r, s => (fiC (seenC s c) c : Int) :: comeG r (seenC s c)

theorem comeG_len : ∀ (r s : List Int), (comeG r s).length = r.length
  | [], _ => rfl
  | _ :: r, s => by simp [comeG, comeG_len r]

structure SeenOk (s : List Int) : Prop where
  nd : s.Nodup
  lim : ∀ c ∈ s, 0 ≤ c ∧ c ≤ 9

theorem SeenOk.len {s : List Int} (h : SeenOk s) : s.length ≤ 10 := by
  have := nodup_le s ((List.range 10).map fun (k : Nat) => (k : Int)) h.nd fun c hc => by
    obtain ⟨h1, h2⟩ := h.lim c hc
    exact List.mem_map.2 ⟨c.toNat, List.mem_range.2 (by omega), by omega⟩
  simpa using this

theorem SeenOk.add {s : List Int} (h : SeenOk s) {c : Int} (hc : 0 ≤ c ∧ c ≤ 9) : SeenOk (seenC s c) := by
  unfold seenC
  split
  · exact h
  · rename_i hn
    refine ⟨?_, fun x hx => ?_⟩
    · rw [List.nodup_append]
      exact ⟨h.nd, by simp, fun a ha b hb => by rw [List.mem_singleton.1 hb]; exact fun e => hn (e ▸ ha)⟩
    · rcases List.mem_append.1 hx with hx | hx
      · exact h.lim x hx
      · rw [List.mem_singleton.1 hx]; exact hc

theorem comeG_lim : ∀ (r s : List Int), SeenOk s → (∀ c ∈ r, 0 ≤ c ∧ c ≤ 9) → ∀ x ∈ comeG r s, 0 ≤ x ∧ x ≤ 9
  | [], _, _, _, x, hx => by simp [comeG] at hx
  | c :: r, s, hs, hr, x, hx => by
    have hs' := hs.add (hr c (List.mem_cons_self ..))
    rcases List.mem_cons.1 hx with rfl | hx
    · have h1 := fiC_lt (seenC_mem s c)
      have h2 := hs'.len
      omega
    · exact comeG_lim r _ hs' (fun c hc => hr c (List.mem_cons_of_mem _ hc)) x hx

/-- All places of a colour. -/
def posC : Nat → List Int → Int → List Int
  | _, [], _ => []
  | k, x :: r, c => if x = c then (k : Int) :: posC (k + 1) r c else posC (k + 1) r c

theorem posC_none : ∀ (r : List Int) (k : Nat) (c : Int), c ∉ r → posC k r c = []
  | [], _, _, _ => rfl
  | x :: r, k, c, h => by
    rw [List.mem_cons, not_or] at h
    unfold posC
    rw [if_neg fun e => h.1 e.symm, posC_none r (k + 1) c h.2]

theorem posC_one : ∀ (r : List Int) (k : Nat) (c : Int), r.Nodup → c ∈ r → posC k r c = [((k + fiC r c : Nat) : Int)]
  | x :: r, k, c, hn, h => by
    rw [List.nodup_cons] at hn
    unfold posC fiC
    by_cases e : x = c
    · subst e
      rw [if_pos rfl, if_pos rfl, posC_none r (k + 1) x hn.1]; rfl
    · rw [if_neg e, if_neg e, posC_one r (k + 1) c hn.2 ((List.mem_cons.1 h).resolve_left fun e' => e e'.symm)]
      congr 2
      omega

theorem spec_first_inner (seen cs : List Int) (i : Nat) (z3 z4 z5 z6 z8 z9 z10 z11 z12 z13 z14 z15 : Int) {c : Int} (hi : rd cs (i : Int) = some c) (hn : seen.length ≤ 10) : ∀ (d k : Nat) (out : List Int), k + d = seen.length → out.length ≤ 1000 + k →
    spec_l18First_l1 seen (i : Int) (k : Int) z3 z4 z5 z6 cs z8 z9 z10 z11 z12 z13 z14 z15 out = some (seen, (i : Int), z3, z4, z5, z6, cs, z8, z9, z10, z11, z12, z13, z14, z15, out ++ posC k (seen.drop k) c)
  | 0, k, out, hk, ho => by
    rw [spec_l18First_l1_eq, decide_eq_false (by omega), List.drop_eq_nil_of_le (by omega)]
    simp [posC]
  | d + 1, k, out, hk, ho => by
    have h1 : k < seen.length := by omega
    rw [spec_l18First_l1_eq, inb h1, decide_eq_true (show (k : Int) < (seen.length : Int) by omega), gd h1, hi, wnext h1 (by omega), List.drop_eq_getElem_cons h1]
    simp only [cond_true, Option.bind_some, Option.bind_fun_some, posC]
    by_cases e : seen[k] = c
    · rw [decide_eq_true e, decide_eq_true (by unfold LIM; simp only [List.length_singleton]; omega), if_pos e]
      simp only [cond_true]
      rw [spec_first_inner seen cs i z3 z4 z5 z6 z8 z9 z10 z11 z12 z13 z14 z15 hi hn d (k + 1) _ (by omega) (by simp; omega)]
      simp
    · rw [decide_eq_false e, if_neg e]
      simp only [cond_false]
      rw [spec_first_inner seen cs i z3 z4 z5 z6 z8 z9 z10 z11 z12 z13 z14 z15 hi hn d (k + 1) _ (by omega) (by omega)]

theorem hasC (s : List Int) (c : Int) : (!(s.all fun x => !decide (x = c))) = decide (c ∈ s) := by
  rw [Bool.eq_iff_iff, decide_eq_true_iff]
  simp

theorem spec_first_loop (cs : List Int) (hn : cs.length ≤ 64) (hc : ∀ c ∈ cs, 0 ≤ c ∧ c ≤ 9) (z2 z3 z4 z5 z7 z8 z9 z10 z11 z12 z13 z14 : Int) : ∀ (r : List Int) (i : Nat) (seen out : List Int), cs.drop i = r → i ≤ cs.length → SeenOk seen → out.length ≤ i →
    spec_l18First_l0 seen (i : Int) z2 z3 z4 z5 cs z7 z8 z9 z10 z11 z12 z13 z14 out = some (z7, z8, z9, z10, z11, z12, z13, z14, out ++ comeG r seen)
  | [], i, seen, out, hr, hi, hs, ho => by
    have := List.drop_eq_nil_iff.1 hr
    rw [spec_l18First_l0_eq, decide_eq_false (by omega)]; simp [comeG]
  | c :: r, i, seen, out, hr, hi, hs, ho => by
    have h1 : i < cs.length := by
      apply Nat.lt_of_not_le
      intro h2
      rw [List.drop_eq_nil_of_le h2] at hr; cases hr
    rw [List.drop_eq_getElem_cons h1, List.cons.injEq] at hr
    obtain ⟨rfl, hr⟩ := hr
    have hci := hc _ (List.getElem_mem h1)
    have hs' := hs.add hci
    have hl := hs.len
    have hl' := hs'.len
    have hrd := rd_lt h1
    have hpos := posC_one (seenC seen cs[i]) 0 cs[i] hs'.nd (seenC_mem _ _)
    have ih := spec_first_loop cs hn hc z2 z3 z4 z5 z7 z8 z9 z10 z11 z12 z13 z14 r (i + 1) (seenC seen cs[i]) (out ++ [(fiC (seenC seen cs[i]) cs[i] : Int)]) hr (by omega) hs' (by simp; omega)
    have hin := spec_first_inner (seenC seen cs[i]) cs i z2 z3 z4 z5 z7 z8 z9 z10 z11 z12 z13 z14 hrd hl' (seenC seen cs[i]).length 0 out (by omega) (by omega)
    rw [List.drop_zero, hpos, show ((0 : Nat) : Int) = 0 from rfl, Nat.zero_add] at hin
    rw [spec_l18First_l0_eq, decide_eq_true (by omega), hrd]
    simp only [cond_true, Option.bind_some, spec_l01Has_v seen _ (show seen.length ≤ 1048576 by omega), hasC]
    by_cases e : cs[i] ∈ seen
    · have es : seenC seen cs[i] = seen := by unfold seenC; rw [if_pos e]
      rw [es] at hin ih
      rw [decide_eq_true e]
      simp only [cond_true, hin, Option.bind_some, Option.bind_fun_some]
      rw [wnext h1 (by omega), ih]
      simp [comeG, es]
    · have es : seenC seen cs[i] = seen ++ [cs[i]] := by unfold seenC; rw [if_neg e]
      rw [es] at hin ih
      rw [decide_eq_false e]
      simp only [cond_false]
      rw [decide_eq_true (by unfold LIM; simp only [List.length_singleton]; omega)]
      simp only [cond_true, hin, Option.bind_some, Option.bind_fun_some]
      rw [wnext h1 (by omega), ih]
      simp [comeG, es]

/-- The pattern in the order in which its colours come. -/
def comeP (p : Pat) : Pat := (p.1, p.2.1, comeG p.2.2 [])

theorem seen0 : SeenOk [] := ⟨List.nodup_nil, fun c h => by cases h⟩

theorem pat_cols {p : Pat} (h : isPat p = true) : ∀ c ∈ p.2.2, 0 ≤ c ∧ c ≤ 9 := fun c hc =>
  within_iff.1 (List.all_eq_true.1 (isPat_iff.1 h).2.2.2 c hc)

theorem isPat_come {p : Pat} (h : isPat p = true) : isPat (comeP p) = true := by
  obtain ⟨h1, h2, h3, h4⟩ := isPat_iff.1 h
  refine isPat_iff.2 ⟨h1, h2, by rw [show (comeP p).2.2 = comeG p.2.2 [] from rfl, comeG_len]; exact h3, ?_⟩
  rw [List.all_eq_true]
  exact fun x hx => within_iff.2 (comeG_lim p.2.2 [] seen0 (pat_cols h) x hx)

theorem spec_l18First_v (p : Pat) (h : isPat p = true) : spec_l18First p = some (comeP p) := by
  have hn := pat_len h
  have key := spec_first_loop p.2.2 hn (pat_cols h) p.1 p.2.1.1 p.2.1.2.1 p.2.1.2.2 0 0 0 0 p.1 p.2.1.1 p.2.1.2.1 p.2.1.2.2 p.2.2 0 [] [] (by simp) (by omega) seen0 (by simp)
  rw [spec_l18First_eq, show (0 : Int) = ((0 : Nat) : Int) from rfl] at *
  rw [key]
  rfl

/-! ### The program -/

theorem impl_index_loop (xs : List Int) (c : Int) (hn : xs.length ≤ 1000) : ∀ (d k : Nat), k + d = xs.length → c ∈ xs.drop k → slices_Index_Sint64_int64_l0 xs c (xs.length : Int) (k : Int) = some (.inr ((k + fiC (xs.drop k) c : Nat) : Int))
  | 0, k, hk, hc => by rw [List.drop_eq_nil_of_le (by omega)] at hc; cases hc
  | d + 1, k, hk, hc => by
    have h1 : k < xs.length := by omega
    rw [List.drop_eq_getElem_cons h1] at hc ⊢
    rw [slices_Index_Sint64_int64_l0_eq, decide_eq_true (by omega), rd_lt h1, wnext h1 (by omega)]
    simp only [cond_true, Option.bind_some, Option.bind_fun_some, fiC]
    by_cases e : xs[k] = c
    · rw [decide_eq_true e.symm, if_pos e]; rfl
    · rw [decide_eq_false fun h => e h.symm, if_neg e]
      simp only [cond_false]
      rw [impl_index_loop xs c hn d (k + 1) (by omega) ((List.mem_cons.1 hc).resolve_left fun h => e h.symm)]
      congr 2
      omega

theorem slices_Index_v (xs : List Int) (c : Int) (hn : xs.length ≤ 1000) (hc : c ∈ xs) : slices_Index_Sint64_int64 xs c = some (fiC xs c : Int) := by
  have h := impl_index_loop xs c hn xs.length 0 (by omega) (by simpa using hc)
  rw [slices_Index_Sint64_int64_eq, show (0 : Int) = ((0 : Nat) : Int) from rfl, h]
  simp

theorem impl_first_loop (cs : List Int) (hn : cs.length ≤ 64) (hc : ∀ c ∈ cs, 0 ≤ c ∧ c ≤ 9) (z4 z5 z6 z7 z8 z9 z10 z11 : Int) : ∀ (r : List Int) (i : Nat) (seen out : List Int), cs.drop i = r → i ≤ cs.length → SeenOk seen → out.length ≤ i →
    impl_Pattern_firstCome_l0 seen cs (cs.length : Int) (i : Int) z4 z5 z6 z7 z8 z9 z10 z11 out = some (z4, z5, z6, z7, z8, z9, z10, z11, out ++ comeG r seen)
  | [], i, seen, out, hr, hi, hs, ho => by
    have := List.drop_eq_nil_iff.1 hr
    rw [impl_Pattern_firstCome_l0_eq, decide_eq_false (by omega)]; simp [comeG]
  | c :: r, i, seen, out, hr, hi, hs, ho => by
    have h1 : i < cs.length := by
      apply Nat.lt_of_not_le
      intro h2
      rw [List.drop_eq_nil_of_le h2] at hr; cases hr
    rw [List.drop_eq_getElem_cons h1, List.cons.injEq] at hr
    obtain ⟨rfl, hr⟩ := hr
    have hci := hc _ (List.getElem_mem h1)
    have hs' := hs.add hci
    have hl := hs.len
    have hl' := hs'.len
    have hrd := rd_lt h1
    have hidx := slices_Index_v (seenC seen cs[i]) cs[i] (by omega) (seenC_mem _ _)
    have ih := impl_first_loop cs hn hc z4 z5 z6 z7 z8 z9 z10 z11 r (i + 1) (seenC seen cs[i]) (out ++ [(fiC (seenC seen cs[i]) cs[i] : Int)]) hr (by omega) hs' (by simp; omega)
    rw [impl_Pattern_firstCome_l0_eq, decide_eq_true (by omega), hrd]
    simp only [cond_true, Option.bind_some, slices_Contains_v seen _ (show seen.length ≤ 1048576 by omega), hasC]
    by_cases e : cs[i] ∈ seen
    · have es : seenC seen cs[i] = seen := by unfold seenC; rw [if_pos e]
      rw [es] at hidx ih
      rw [decide_eq_true e]
      simp only [cond_true, hidx, Option.bind_some, Option.bind_fun_some]
      rw [decide_eq_true (by unfold LIM; simp only [List.length_singleton]; omega), wnext h1 (by omega), ih]
      simp [comeG, es]
    · have es : seenC seen cs[i] = seen ++ [cs[i]] := by unfold seenC; rw [if_neg e]
      rw [es] at hidx ih
      rw [decide_eq_false e]
      simp only [cond_false]
      rw [decide_eq_true (by unfold LIM; simp only [List.length_singleton]; omega)]
      simp only [cond_true, hidx, Option.bind_some, Option.bind_fun_some]
      rw [decide_eq_true (by unfold LIM; simp only [List.length_singleton]; omega), wnext h1 (by omega), ih]
      simp [comeG, es]

theorem impl_Pattern_firstCome_v (p : Pat) (h : isPat p = true) : impl_Pattern_firstCome p = some (comeP p) := by
  have hn := pat_len h
  have key := impl_first_loop p.2.2 hn (pat_cols h) 0 0 0 0 p.1 p.2.1.1 p.2.1.2.1 p.2.1.2.2 p.2.2 0 [] [] (by simp) (by omega) seen0 (by simp)
  rw [impl_Pattern_firstCome_eq, show (0 : Int) = ((0 : Nat) : Int) from rfl] at *
  rw [key]
  rfl

end Go.Proofs.YtahlhacmikdimaaGreat
