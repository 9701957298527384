/-
  The canonical form up to colours, by both.
-/
import Derived.Test.YtahlhacmikdimaaGreatPR
namespace Go.Proofs.YtahlhacmikdimaaGreat
open Ai
set_option linter.unusedSimpArgs false
set_option linter.unusedVariables false

theorem loop_setmap {α R : Type} {L : List α → Int → Option R} (xs : List α) (g : α → α)
    (hs : ∀ (s : List α) (k : Nat) (hk : k < s.length) (hx : k < xs.length), s.length = xs.length → s[k] = xs[k] → L s (k : Int) = L (s.set k (g xs[k])) ((k + 1 : Nat) : Int)) :
    ∀ (d k : Nat), k + d = xs.length → L ((xs.take k).map g ++ xs.drop k) (k : Int) = L (xs.map g) (xs.length : Int)
  | 0, k, hk => by
    rw [List.drop_eq_nil_of_le (by omega), List.append_nil, List.take_of_length_le (by omega), show k = xs.length by omega]
  | d + 1, k, hk => by
    have hx : k < xs.length := by omega
    have hl : ((xs.take k).map g).length = k := by simp; omega
    have hlen : ((xs.take k).map g ++ xs.drop k).length = xs.length := by simp; omega
    have hks : k < ((xs.take k).map g ++ xs.drop k).length := by omega
    rw [hs _ k hks hx hlen ?_]
    · rw [← loop_setmap xs g hs d (k + 1) (by omega), List.set_append_right _ _ (by omega), hl, Nat.sub_self, List.drop_eq_getElem_cons hx]
      congr 1
      rw [List.take_add_one, List.getElem?_eq_getElem hx, List.map_append]
      show _ ++ (g xs[k] :: xs.drop (k + 1)) = (_ ++ [g xs[k]]) ++ _
      rw [List.append_assoc]
      rfl
    · have h3 : ((xs.take k).map g ++ xs.drop k)[k]? = some xs[k] := by
        rw [List.getElem?_append_right (by omega), hl, Nat.sub_self, List.getElem?_drop, Nat.add_zero, List.getElem?_eq_getElem hx]
      rw [List.getElem?_eq_getElem hks] at h3
      exact Option.some.inj h3

theorem colours_both (p : Pat) (hp : isPat p = true) : ∃ c, spec_l18Colours p = some c ∧ impl_CanonicalColours p = some (c, 0) ∧ c.2.2.length ≤ 64 ∧ ∀ y s, imgs2 (onLat p (fullOf p)) (pmats p.1) = y :: s → c = minP (comeP y) (s.map comeP) := by
  have hq := isPat_onLat hp (isLat_fullOf hp)
  have hf : p.1 = 0 ∨ p.1 = 1 := isFrame_iff.1 (isPat_iff.1 hp).1
  obtain ⟨l1, l2, k1, k2⟩ := imgs_ok hq hf
  obtain ⟨n1, n2⟩ := imgs_ne hq hf
  have hmem := fun x => imgs_mem (x := x) hq (ms := pmats p.1) (fun m hm => pmats_pm hf hm)
  rw [spec_l18Colours_eq, spec_l18Images_v p hp, impl_CanonicalColours_eq, impl_IsPattern_v p (by have := pat_len hp; unfold MAXN; omega), hp, impl_images_v p hp]
  generalize imgs1 (onLat p (fullOf p)) (pmats p.1) = xs at *
  generalize imgs2 (onLat p (fullOf p)) (pmats p.1) = ys at *
  simp only [Option.bind_some, cond_true]
  have s1 := loop_setmap (L := fun s k => spec_l18Colours_l0 s k 0 0 0 0) xs comeP (fun s k hk hx hl he => by
    show spec_l18Colours_l0 s (k : Int) 0 0 0 0 = _
    have e1 : spec_l18First (xs[k].1, (xs[k].2.1.1, xs[k].2.1.2.1, xs[k].2.1.2.2), xs[k].2.2) = some (comeP xs[k]) := spec_l18First_v xs[k] (k1 _ (List.getElem_mem hx))
    rw [spec_l18Colours_l0_eq, inb hk, decide_eq_true (show (k : Int) < (s.length : Int) by omega), gd hk, he]
    simp only [cond_true]
    rw [e1, wnext hk (by omega)]
    simp only [Option.bind_some, Option.bind_fun_some, Int.toNat_natCast]) xs.length 0 (by omega)
  simp only [List.take_zero, List.map_nil, List.nil_append, List.drop_zero] at s1
  have s2 : spec_l18Colours_l0 xs 0 0 0 0 0 = some (xs.map comeP, 0, 0, 0, 0) := by
    refine (show spec_l18Colours_l0 xs 0 0 0 0 0 = spec_l18Colours_l0 (xs.map comeP) (xs.length : Int) 0 0 0 0 from s1).trans ?_
    rw [spec_l18Colours_l0_eq, decide_eq_false (by simp)]
    rfl
  have i1 := loop_map (L := fun s k => impl_CanonicalColours_l0 s ys (ys.length : Int) k 0 0 0 0) ys comeP (fun k hk s hs => by
    show impl_CanonicalColours_l0 s ys (ys.length : Int) (k : Int) 0 0 0 0 = _
    have e1 : impl_Pattern_firstCome (ys[k].1, (ys[k].2.1.1, ys[k].2.1.2.1, ys[k].2.1.2.2), ys[k].2.2) = some (comeP ys[k]) := impl_Pattern_firstCome_v ys[k] (k2 _ (List.getElem_mem hk))
    rw [impl_CanonicalColours_l0_eq, inb hk, decide_eq_true (show (k : Int) < (ys.length : Int) by omega), gd hk]
    simp only [cond_true]
    rw [e1, wnext hk (by omega)]
    simp only [Option.bind_some, Option.bind_fun_some]
    rw [decide_eq_true (by unfold LIM; simp only [List.length_singleton]; omega)]
    rfl)
  have i2 : impl_CanonicalColours_l0 [] ys (ys.length : Int) 0 0 0 0 0 = some (ys.map comeP, 0, 0, 0, 0) := by
    refine (show impl_CanonicalColours_l0 [] ys (ys.length : Int) 0 0 0 0 0 = impl_CanonicalColours_l0 (ys.map comeP) ys (ys.length : Int) (ys.length : Int) 0 0 0 0 from i1).trans ?_
    rw [impl_CanonicalColours_l0_eq, decide_eq_false (by omega)]
    rfl
  rw [s2, i2]
  simp only [Option.bind_some]
  obtain ⟨x, r, hx⟩ := List.exists_cons_of_ne_nil n1
  obtain ⟨y, s, hy⟩ := List.exists_cons_of_ne_nil n2
  rw [hx] at l1 k1 hmem ⊢
  rw [hy] at l2 k2 hmem ⊢
  have c1 : ∀ z ∈ comeP x :: r.map comeP, isPat z = true := fun z hz => by
    obtain ⟨u, hu, rfl⟩ := List.mem_map.1 (show z ∈ (x :: r).map comeP from hz)
    exact isPat_come (k1 u hu)
  have c2 : ∀ z ∈ comeP y :: s.map comeP, isPat z = true := fun z hz => by
    obtain ⟨u, hu, rfl⟩ := List.mem_map.1 (show z ∈ (y :: s).map comeP from hz)
    exact isPat_come (k2 u hu)
  have t1 := spec_l18Least_v (comeP x) (r.map comeP) (by simpa using l1) c1
  have t2 := impl_MinFunc_v (comeP y) (s.map comeP) (by simpa using l2) c2
  have e : minP (comeP x) (r.map comeP) = minP (comeP y) (s.map comeP) := minP_eq (fun z hz => by
      obtain ⟨u, hu, rfl⟩ := List.mem_map.1 (show z ∈ (x :: r).map comeP from hz)
      exact List.mem_map.2 ⟨u, (hmem u).1 hu, rfl⟩) (fun z hz => by
      obtain ⟨u, hu, rfl⟩ := List.mem_map.1 (show z ∈ (y :: s).map comeP from hz)
      exact List.mem_map.2 ⟨u, (hmem u).2 hu, rfl⟩)
  rw [List.map_cons, List.map_cons, t1, t2, e]
  exact ⟨_, rfl, rfl, pat_len (c2 _ (minP_mem _ _)), fun y' s' e => by cases e; rfl⟩

theorem canonCol_v (p : Pat) (hp : isPat p = true) : spec_l18Colours p = some (canonCol p) ∧ impl_CanonicalColours p = some (canonCol p, 0) ∧ (canonCol p).2.2.length ≤ 64 := by
  obtain ⟨c, h1, h2, h3, h4⟩ := colours_both p hp
  have e : c = canonCol p := by
    have hf := isFrame_iff.1 (isPat_iff.1 hp).1
    obtain ⟨y, s, hy⟩ := List.exists_cons_of_ne_nil (imgs_ne (isPat_lean hp) hf).2
    rw [h4 y s hy]
    unfold canonCol
    rw [hy]
    rfl
  rw [← e]
  exact ⟨h1, h2, h3⟩

end Go.Proofs.YtahlhacmikdimaaGreat
