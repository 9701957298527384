/-
  TilingLattices: program and reference agree.
-/
import Derived.Test.YtimjlpgacmadcaaLTilesBy
import Derived.Test.YtimjlpgacmadcaaP29
namespace Go.Proofs.Ytimjlpgacmadcaa
open Ai
set_option linter.unusedSimpArgs false
set_option linter.unusedVariables false

theorem impl_Tiling_1_v {t : List V} (ht : isTile t = true) {l : Lat} (hl : isLat l = true) : impl_TilingLattices_1 l t = some (!tilesB t l) := by
  obtain ⟨h1, h2, _⟩ := isTile_vec ht
  rw [impl_TilingLattices_1_eq, impl_tilesBy_v t l hl h1 (by omega)]
  simp only [Option.bind_some]
  cases tilesB t l <;> rfl

theorem impl_del_tiling {t : List V} (ht : isTile t = true) (xs : List Lat) (hx : ∀ l ∈ xs, isLat l = true) (hn : xs.length ≤ 100000) : slices_DeleteFunc_SLattice_Lattice_o__impl_TilingLattices_1 xs t = some (xs.filter (tilesB t)) := by
  have hidx : slices_IndexFunc_SLattice_Lattice__impl_TilingLattices_1 xs t = some (match xs.findIdx? (fun x => !tilesB t x) with | none => -1 | some i => (i : Int)) := by
    rw [slices_IndexFunc_SLattice_Lattice__impl_TilingLattices_1_eq]
    have := find_loop (L := fun k => slices_IndexFunc_SLattice_Lattice__impl_TilingLattices_1_l0 xs t (xs.length : Int) k) (xs := xs) (p := fun x => !tilesB t x) (good := .inl ()) (bad := fun i => .inr (i : Int)) (by unfold MAXN; omega) (fun k hk => by
      show slices_IndexFunc_SLattice_Lattice__impl_TilingLattices_1_l0 xs _ _ k = _
      rw [slices_IndexFunc_SLattice_Lattice__impl_TilingLattices_1_l0_eq, decide_eq_true (by omega), rd_lt hk]
      simp only [cond_true, Option.bind_some, Option.bind_fun_some]
      rw [impl_Tiling_1_v ht (hx _ (List.getElem_mem hk))]
      simp only [Option.bind_some]
      cases tilesB t xs[k] <;> rfl) (by
      show slices_IndexFunc_SLattice_Lattice__impl_TilingLattices_1_l0 xs _ _ _ = _
      rw [slices_IndexFunc_SLattice_Lattice__impl_TilingLattices_1_l0_eq, decide_eq_false (by omega)]; rfl)
    rw [this]
    cases xs.findIdx? (fun x => !tilesB t x) <;> rfl
  rw [slices_DeleteFunc_SLattice_Lattice_o__impl_TilingLattices_1_eq, hidx]
  cases hfi : xs.findIdx? (fun x => !tilesB t x) with
  | none =>
    simp only [Option.bind_some, decide_true, cond_true]
    congr 1
    symm
    rw [List.filter_eq_self]
    intro a ha
    rw [List.findIdx?_eq_none_iff] at hfi
    simpa using hfi a ha
  | some i =>
    obtain ⟨hi, hq⟩ := first_out xs (tilesB t) hfi
    simp only [Option.bind_some]
    rw [decide_eq_false (by omega), wN (by omega)]
    simp only [cond_false]
    obtain ⟨s', i', e1, e2, e3, e4⟩ := del_loop (L := fun s i j => slices_DeleteFunc_SLattice_Lattice_o__impl_TilingLattices_1_l0 s t i j) xs (tilesB t) (fun s i j hj hxj hsl hij he => by
      show slices_DeleteFunc_SLattice_Lattice_o__impl_TilingLattices_1_l0 s t (i : Int) (j : Int) = _
      have hq : impl_TilingLattices_1 (xs[j].1, xs[j].2) t = some (!tilesB t xs[j]) := impl_Tiling_1_v ht (hx _ (List.getElem_mem hxj))
      rw [slices_DeleteFunc_SLattice_Lattice_o__impl_TilingLattices_1_l0_eq, inb hj, decide_eq_true (by omega), gd hj, he]
      simp only [cond_true, Option.bind_fun_some]
      rw [hq, wN (by omega), wN (by omega), decide_eq_true (by omega), decide_eq_true (by omega)]
      simp only [Option.bind_some, Bool.and_true, cond_true, Int.toNat_natCast]
      cases tilesB t xs[j] <;> rfl) (xs.length - (i + 1)) (i + 1) xs i (by omega) rfl (by omega) rfl hq.symm
    have e1' : slices_DeleteFunc_SLattice_Lattice_o__impl_TilingLattices_1_l0 xs t (i : Int) ((i + 1 : Nat) : Int) = slices_DeleteFunc_SLattice_Lattice_o__impl_TilingLattices_1_l0 s' t (i' : Int) (xs.length : Int) := e1
    rw [e1', slices_DeleteFunc_SLattice_Lattice_o__impl_TilingLattices_1_l0_eq, decide_eq_false (by omega)]
    simp only [cond_false, Option.bind_some, Int.toNat_natCast]
    have hol : (overL s' (List.replicate (s'.length - i') ((0, 0, 0) : Int × Int × Int)) i').length = s'.length := by
      unfold overL
      simp
      omega
    rw [decide_eq_true (show (0 : Int) ≤ (i' : Int) by omega), decide_eq_true (show (i' : Int) ≤ (s'.length : Int) by omega), decide_eq_true (by rw [hol]; omega)]
    simp only [Bool.and_true, cond_true]
    rw [cut_over _ _ _ (by omega), e4]

def latsOf (t : List V) : List Lat := (subL t.length).filter (tilesB t)

theorem latsOf_len {t : List V} (ht : isTile t = true) : (latsOf t).length ≤ 4096 := by
  obtain ⟨_, h2, _⟩ := isTile_vec ht
  have h3 := subL_len (n := t.length) (by omega)
  have := List.length_filter_le (tilesB t) (subL t.length)
  unfold latsOf
  omega

theorem spec_l21Lattices_v {t : List V} (ht : isTile t = true) : spec_l21Lattices t = some (latsOf t) := by
  obtain ⟨h1, h2, h3⟩ := isTile_vec ht
  have hx := subL_lat (n := t.length) h3 (by omega)
  have hl := subL_len (n := t.length) (by omega)
  rw [spec_l21Lattices_eq, spec_SublatticesOf_v t.length h3 (by omega)]
  simp only [Option.bind_some]
  have key := loop_filter (L := fun s k => spec_l21Lattices_l0 t (subL t.length) s k) (subL t.length) (tilesB t) [] (fun k hk s hs => by
    show spec_l21Lattices_l0 t (subL t.length) s (k : Int) = _
    have hq : spec_l21Tiles t ((subL t.length)[k].1, (subL t.length)[k].2) = some (tilesB t (subL t.length)[k]) := spec_l21Tiles_v t _ (hx _ (List.getElem_mem hk)) h1 (by omega)
    rw [spec_l21Lattices_l0_eq, inb hk, decide_eq_true (by omega), gd hk, hq, wnext hk (by omega), decide_eq_true (by unfold LIM; simp only [List.length_nil, List.length_singleton] at hs ⊢; omega)]
    simp only [cond_true, Option.bind_some, Option.bind_fun_some]
    cases tilesB t (subL t.length)[k] <;> rfl)
  have key' : spec_l21Lattices_l0 t (subL t.length) [] 0 = spec_l21Lattices_l0 t (subL t.length) (latsOf t) ((subL t.length).length : Int) := key
  rw [key', spec_l21Lattices_l0_eq, decide_eq_false (by omega)]
  rfl

def tilingR (t : List V) : List Lat × Int := if isTile t = true then (latsOf t, 0) else ([], 1)

theorem spec_TilingLattices_v (t : List V) (h : t.length ≤ MAXN) : spec_TilingLattices t = some (tilingR t) := by
  rw [spec_TilingLattices_eq, spec_IsTile_v t h]
  unfold tilingR
  simp only [Option.bind_some]
  cases ht : isTile t
  · rfl
  · simp only [cond_true, if_true, spec_l21Lattices_v ht, Option.bind_some]

theorem impl_TilingLattices_v (t : List V) (h : t.length ≤ MAXN) : impl_TilingLattices t = some (tilingR t) := by
  rw [impl_TilingLattices_eq, impl_IsTile_v t h]
  unfold tilingR
  simp only [Option.bind_some]
  cases ht : isTile t
  · rfl
  · obtain ⟨h1, h2, h3⟩ := isTile_vec ht
    have hl := subL_len (n := t.length) (by omega)
    simp only [cond_true, if_true, impl_sublattices_v t.length h3 (by omega), Option.bind_some, impl_del_tiling ht _ (subL_lat (n := t.length) h3 (by omega)) (by omega)]
    rfl

theorem tilingR_len (t : List V) : (tilingR t).1.length ≤ 1048576 := by
  unfold tilingR
  cases ht : isTile t
  · simp
  · have := latsOf_len ht
    simp only [if_true]; omega

theorem FnExactTilingLattices_true (xs : List V) (h : wfE (.list (.pair (.i .i64) (.i .i64))) xs) : laws_FnExactTilingLattices xs = some true := by
  rw [laws_FnExactTilingLattices_eq, laws_szVecS_v xs _ h.1 (by omega) (by omega)]
  simp only [Option.bind_some]
  rw [szl_neg (by omega)]
  by_cases hc : (xs.length : Int) ≤ 1048576
  · have hc' : xs.length ≤ 1048576 := by omega
    have hs := spec_TilingLattices_v xs (leM hc')
    have hi := impl_TilingLattices_v xs (leM hc')
    have hl := tilingR_len xs
    generalize tilingR xs = r at *
    obtain ⟨m, zs, d1, mx⟩ := laws_markVecS_r_m xs hc'
    have m1 : laws_markVecS_r xs 1 = some (m, zs) := by first | exact mx | exact mx.1
    obtain ⟨m', ys, d2, m2, m3⟩ := laws_markLatticeS_r_m r.1 hl
    simp only [decide_eq_true hc, Bool.not_true, cond_false, laws_toVecS_v xs hc', Option.bind_some, hs, hi, laws_eqVecS_v _ _ (leM hc'), laws_eqLatticeS_v _ _ (leM hl), m1, m2, m3, d1, d2, decide_true, cond_true]
  · simp [hc]

end Go.Proofs.Ytimjlpgacmadcaa
