/-
  Lattices by which a turned tile tiles.
-/
import Derived.Test.YtahlhacmikdimaaPF
import Derived.Test.YtahlhacmikdimaaP32
import Derived.Test.YtahlhacmikdimaaP29
namespace Go.Proofs.Ytahlhacmikdimaa
open Ai
set_option linter.unusedSimpArgs false
set_option linter.unusedVariables false

theorem mem_rowL {n j : Nat} {l : Lat} : l ∈ rowL n j ↔ n % (j + 1) = 0 ∧ l.1 = ((j + 1 : Nat) : Int) ∧ (0 ≤ l.2.1 ∧ l.2.1 ≤ (j : Int)) ∧ l.2.2 = ((n / (j + 1) : Nat) : Int) := by
  unfold rowL
  by_cases h : n % (j + 1) = 0
  · rw [if_pos h, List.mem_map]
    constructor
    · rintro ⟨b, hb, rfl⟩
      rw [List.mem_range] at hb
      exact ⟨h, rfl, ⟨by simp, by simp only; omega⟩, rfl⟩
    · rintro ⟨_, h1, h2, h3⟩
      refine ⟨l.2.1.toNat, List.mem_range.2 (by omega), ?_⟩
      refine Prod.ext h1.symm (Prod.ext ?_ h3.symm)
      show ((l.2.1.toNat : Nat) : Int) = l.2.1
      omega
  · rw [if_neg h]
    simp [h]

theorem mem_subL {n : Nat} (h1 : 1 ≤ n) (h2 : n ≤ 64) {l : Lat} : l ∈ subL n ↔ isLat l = true ∧ l.1 * l.2.2 = (n : Int) := by
  constructor
  · intro h
    refine ⟨subL_lat h1 h2 l h, ?_⟩
    obtain ⟨j, hj, h⟩ := List.mem_flatMap.1 h
    obtain ⟨e1, e2, e3, e4⟩ := mem_rowL.1 h
    rw [e2, e4, ← Int.natCast_mul, Nat.mul_div_cancel' (Nat.dvd_of_mod_eq_zero e1)]
  · rintro ⟨hl, hn⟩
    obtain ⟨l1, l2, l3, l4⟩ := isLat_iff.1 hl
    have ha : l.1 = ((l.1.toNat : Nat) : Int) := by omega
    have hc : l.2.2 = ((l.2.2.toNat : Nat) : Int) := by omega
    have hm : l.1.toNat * l.2.2.toNat = n := by
      rw [ha, hc, ← Int.natCast_mul] at hn
      omega
    have hle : l.1.toNat ≤ n := by
      rw [← hm]; exact Nat.le_mul_of_pos_right _ (by omega)
    refine List.mem_flatMap.2 ⟨l.1.toNat - 1, List.mem_range.2 (by omega), mem_rowL.2 ?_⟩
    have e : l.1.toNat - 1 + 1 = l.1.toNat := by omega
    rw [e]
    refine ⟨by rw [← hm]; exact Nat.mul_mod_right .., ha, by omega, ?_⟩
    rw [← hm, Nat.mul_div_cancel_left _ (by omega)]
    exact hc

theorem subL_nodup (n : Nat) : (subL n).Nodup := by
  unfold subL List.Nodup
  rw [List.pairwise_flatMap]
  refine ⟨fun j _ => ?_, List.pairwise_lt_range.imp fun {a b} hab x hx y hy e => ?_⟩
  · unfold rowL
    split
    · refine List.pairwise_map.2 (List.pairwise_lt_range.imp fun {a b} hab e => ?_)
      have := congrArg (fun l : Lat => l.2.1) e
      simp only at this
      omega
    · exact List.Pairwise.nil
  · subst e
    have h1 := (mem_rowL.1 hx).2.1
    have h2 := (mem_rowL.1 hy).2.1
    omega

theorem cover_nodup (l : Lat) (xs : List V) : (coverL l xs).length = xs.length ↔ (xs.map (red l)).Nodup := by
  obtain ⟨h1, h2⟩ := coverL_ok l xs [] List.Pairwise.nil
  have h2' : ∀ w, w ∈ coverL l xs ↔ w ∈ xs.map (red l) := fun w => by
    unfold coverL
    rw [h2]
    simp only [List.mem_map, List.not_mem_nil, false_or]
    constructor
    · rintro ⟨v, hv, e⟩; exact ⟨v, hv, e.symm⟩
    · rintro ⟨v, hv, e⟩; exact ⟨v, hv, e.symm⟩
  have hn : (coverL l xs).Nodup := h1.nodup
  constructor
  · intro h
    have hlen : ∀ (ys zs : List V), ys.Nodup → (∀ y ∈ ys, y ∈ zs) → zs.length ≤ ys.length → zs.Nodup := by
      intro ys
      induction ys with
      | nil =>
        intro zs _ _ hl
        have h0 : zs = [] := List.eq_nil_of_length_eq_zero (by simpa using hl)
        subst h0
        exact List.Pairwise.nil
      | cons y r ih =>
        intro zs hnd hs hl
        have hy := hs y (List.mem_cons_self ..)
        have hnr := List.nodup_cons.1 hnd
        have hle := List.length_erase_of_mem hy
        have hpos : 0 < zs.length := List.length_pos_of_mem hy
        have hr : (zs.erase y).Nodup := ih (zs.erase y) hnr.2 (fun z hz => (List.mem_erase_of_ne fun e => hnr.1 (by rw [← e]; exact hz)).2 (hs z (List.mem_cons_of_mem _ hz))) (by simp only [List.length_cons] at hl; omega)
        have hnm : y ∉ zs.erase y := by
          intro hm
          have hsub : (y :: r).length ≤ (zs.erase y).length := nodup_le (y :: r) (zs.erase y) hnd fun z hz => by
            rcases List.mem_cons.1 hz with rfl | hz
            · exact hm
            · exact (List.mem_erase_of_ne fun e => hnr.1 (by rw [← e]; exact hz)).2 (hs z (List.mem_cons_of_mem _ hz))
          simp only [List.length_cons] at hsub hl
          omega
        exact (List.perm_cons_erase hy).nodup_iff.2 (List.nodup_cons.2 ⟨hnm, hr⟩)
    exact hlen (coverL l xs) (xs.map (red l)) hn (fun y hy => (h2' y).1 hy) (by rw [List.length_map]; omega)
  · intro h
    have := nodup_eq hn h h2'
    rwa [List.length_map] at this

theorem tilesB_iff (xs : List V) (l : Lat) : tilesB xs l = true ↔ (xs.map (red l)).Nodup ∧ (xs.length : Int) = l.1 * l.2.2 := by
  unfold tilesB
  rw [Bool.and_eq_true, decide_eq_true_iff, decide_eq_true_iff, cover_nodup]

theorem turn_nodup {l : Lat} (hl : isLat l = true) {m : Mat4} (hm : Pm m) {xs : List V} (hx : Inc xs) : ((turnL m xs).map (red (imgL m l))).Nodup ↔ (xs.map (red l)).Nodup := by
  have hp := (turnL_perm hm hx).map (red (imgL m l))
  have hli := (isLat_imgL hl hm).1
  rw [hp.nodup_iff, List.map_map]
  unfold List.Nodup
  rw [List.pairwise_map, List.pairwise_map]
  have key : ∀ u v : V, red (imgL m l) (mapp m u) = red (imgL m l) (mapp m v) ↔ red l u = red l v := fun u v => by
    rw [red_eq_iff hli, red_eq_iff hl, ← mapp_sub]
    exact inL_mapp hl hm _
  constructor
  · exact fun h => h.imp fun {a b} hab e => hab ((key a b).2 e)
  · exact fun h => h.imp fun {a b} hab e => hab ((key a b).1 e)

theorem img_index {l : Lat} (hl : isLat l = true) {m : Mat4} (hm : Pm m) : (imgL m l).1 * (imgL m l).2.2 = l.1 * l.2.2 := by
  obtain ⟨h1, h2⟩ := isLat_imgL hl hm
  have h3 := (cells_len' h1).1
  have h4 := (cells_len' hl).1
  omega

theorem imgL_back {l : Lat} (hl : isLat l = true) {m : Mat4} (hm : Pm m) : imgL (minv m) (imgL m l) = l ∧ imgL m (imgL (minv m) l) = l := by
  have hi := minv_pm hm
  constructor
  · refine lat_ext (isLat_imgL (isLat_imgL hl hm).1 hi).1 hl fun w => ?_
    have h1 := inL_mapp (isLat_imgL hl hm).1 hi (mapp m w)
    rw [minv_left hm.det] at h1
    exact h1.trans (inL_mapp hl hm w)
  · refine lat_ext (isLat_imgL (isLat_imgL hl hi).1 hm).1 hl fun w => ?_
    have h1 := inL_mapp (isLat_imgL hl hi).1 hm (mapp (minv m) w)
    rw [minv_right hm.det] at h1
    exact h1.trans (inL_mapp hl hi w)

theorem turn_count {xs : List V} (hx : Inc xs) (h1 : 1 ≤ xs.length) (h2 : xs.length ≤ 16) {m : Mat4} (hm : Pm m) : ((subL (turnL m xs).length).filter (tilesB (turnL m xs))).length = ((subL xs.length).filter (tilesB xs)).length := by
  rw [turnL_len hm hx]
  have hi := minv_pm hm
  have mem := @mem_subL xs.length h1 (by omega)
  have key : ∀ l, isLat l = true → (tilesB (turnL m xs) (imgL m l) = true ↔ tilesB xs l = true) := fun l hl => by
    rw [tilesB_iff, tilesB_iff, turn_nodup hl hm hx, img_index hl hm, turnL_len hm hx]
  have e1 : (((subL xs.length).filter (tilesB xs)).map (imgL m)).length ≤ ((subL xs.length).filter (tilesB (turnL m xs))).length := by
    refine nodup_le _ _ ?_ fun y hy => ?_
    · refine List.pairwise_map.2 ?_
      have hnd := (subL_nodup xs.length).filter (tilesB xs)
      refine List.Pairwise.imp_of_mem (fun {a b} ha hb hab e => hab ?_) hnd
      have la := (mem.1 (List.mem_filter.1 ha).1).1
      have lb := (mem.1 (List.mem_filter.1 hb).1).1
      rw [← (imgL_back la hm).1, e, (imgL_back lb hm).1]
    · obtain ⟨l, hl, rfl⟩ := List.mem_map.1 hy
      obtain ⟨hl1, hl2⟩ := List.mem_filter.1 hl
      obtain ⟨la, lb⟩ := mem.1 hl1
      exact List.mem_filter.2 ⟨mem.2 ⟨(isLat_imgL la hm).1, by rw [img_index la hm, lb]⟩, (key l la).2 hl2⟩
  have e2 : (((subL xs.length).filter (tilesB (turnL m xs))).map (imgL (minv m))).length ≤ ((subL xs.length).filter (tilesB xs)).length := by
    refine nodup_le _ _ ?_ fun y hy => ?_
    · refine List.pairwise_map.2 ?_
      have hnd := (subL_nodup xs.length).filter (tilesB (turnL m xs))
      refine List.Pairwise.imp_of_mem (fun {a b} ha hb hab e => hab ?_) hnd
      have la := (mem.1 (List.mem_filter.1 ha).1).1
      have lb := (mem.1 (List.mem_filter.1 hb).1).1
      rw [← (imgL_back la hm).2, e, (imgL_back lb hm).2]
    · obtain ⟨l, hl, rfl⟩ := List.mem_map.1 hy
      obtain ⟨hl1, hl2⟩ := List.mem_filter.1 hl
      obtain ⟨la, lb⟩ := mem.1 hl1
      have lc := (isLat_imgL la hi).1
      refine List.mem_filter.2 ⟨mem.2 ⟨lc, by rw [img_index la hi, lb]⟩, (key _ lc).1 ?_⟩
      rw [(imgL_back la hm).2]; exact hl2
  rw [List.length_map] at e1 e2
  omega

end Go.Proofs.Ytahlhacmikdimaa
