/-
  TileText: program and reference agree.
-/
import Derived.Test.YtopigbmamejklaaDoorP2
import Derived.Test.YtopigbmamejklaaDoorPL
import Derived.Test.YtopigbmamejklaaDoorW
namespace Go.Proofs.YtopigbmamejklaaDoor
open Ai
open Go.Lib (itoa decDigits join joinTail)
set_option linter.unusedSimpArgs false
set_option linter.unusedVariables false
theorem dec_len (n : Nat) : (decDigits n).length ≤ n + 1 := by
  induction n using Nat.strongRecOn with
  | _ n ih =>
    by_cases h : n < 10
    · rw [Go.Lib.decDigits, dif_pos h]; simp
    · rw [Go.Lib.decDigits, dif_neg h, List.length_append, List.length_singleton]
      have := ih (n / 10) (by omega)
      omega
theorem digit_v : ∀ k : Fin 10, ofInts [IntKind.u8.wrap (IntKind.i64.wrap (48 + (k.val : Int)))] = [UInt8.ofNat (48 + k.val)] := by decide +kernel
theorem dec_v (n : Nat) (hn : n ≤ 1000000) : spec_l01Dec (n : Int) = some (decDigits n) := by
  induction n using Nat.strongRecOn with
  | _ n ih =>
    rw [spec_l01Dec_eq]
    by_cases h : n < 10
    · rw [decide_eq_true (by omega), Go.Lib.decDigits, dif_pos h]
      have := digit_v ⟨n, h⟩
      simp only at this
      rw [this]
      rfl
    · have e1 : Int.tdiv (n : Int) 10 = ((n / 10 : Nat) : Int) := by
        rw [Int.tdiv_eq_ediv_of_nonneg (by omega)]; omega
      have e2 : Int.tmod (n : Int) 10 = ((n % 10 : Nat) : Int) := by
        rw [Int.tmod_eq_emod_of_nonneg (by omega)]; omega
      have hl := dec_len (n / 10)
      have h3 := digit_v ⟨n % 10, by omega⟩
      simp only at h3
      rw [decide_eq_false (by omega), show decide ((10 : Nat) = 0) = false from rfl, e1, e2, w64 (x := ((n / 10 : Nat) : Int)) (by omega) (by omega), ih (n / 10) (by omega) (by omega), h3]
      simp only [cond_false, Option.bind_some]
      rw [decide_eq_true (by simp only [List.length_singleton]; omega)]
      conv => rhs; rw [Go.Lib.decDigits, dif_neg h]
      rfl
theorem itoa_len {x : Int} (h : x.natAbs ≤ 1000) : (itoa x).length ≤ 1002 := by
  unfold Go.Lib.itoa
  split
  · have := dec_len x.natAbs
    rw [List.length_cons]; omega
  · have := dec_len x.toNat
    omega
theorem number_v {x : Int} (h : x.natAbs ≤ 1000) : spec_l01Number x = some (itoa x) := by
  rw [spec_l01Number_eq]
  unfold Go.Lib.itoa
  by_cases h0 : x < 0
  · have e : IntKind.i64.wrap (0 - x) = ((x.natAbs : Nat) : Int) := by rw [w64 (by omega) (by omega)]; omega
    have hl := dec_len x.natAbs
    rw [decide_eq_true h0, if_pos h0, e, dec_v _ (by omega)]
    simp only [cond_true, Option.bind_some]
    rw [decide_eq_true (by simp only [List.length_singleton]; omega)]
    rfl
  · have e : x = ((x.toNat : Nat) : Int) := by omega
    rw [decide_eq_false h0, if_neg h0]
    have := dec_v x.toNat (by omega)
    rw [← e] at this
    rw [this]
    rfl
theorem text_v {x : Int} (h : x.natAbs ≤ 1000) : impl_text x = some (itoa x) := by
  rw [impl_text_eq, strconv_FormatInt_ext]
  unfold fmaX
  rw [if_pos ⟨⟨by simp only; omega, by simp only; omega⟩, rfl⟩]
  rfl
theorem join_v (xs : List (List UInt8)) (sep : List UInt8) (h : xs.length ≤ 1048576) (h2 : (join xs sep).length ≤ 140737488355328) : strings_Join xs sep = some (join xs sep) := by
  rw [strings_Join_ext]
  unfold joiX
  rw [if_pos ⟨h, h2⟩]
def vtext (v : V) : List UInt8 := itoa v.1 ++ ([44] ++ itoa v.2)
theorem isVec_abs {v : V} (h : isVec v = true) : v.1.natAbs ≤ 1000 ∧ v.2.natAbs ≤ 1000 := by
  unfold isVec within at h
  simp only [Bool.and_eq_true, decide_eq_true_iff] at h
  omega
theorem vtext_len {v : V} (h : isVec v = true) : (vtext v).length ≤ 3000 := by
  obtain ⟨h1, h2⟩ := isVec_abs h
  have := itoa_len h1
  have := itoa_len h2
  unfold vtext
  simp only [List.length_append, List.length_singleton]
  omega
theorem joined_v {x y : Int} (hx : x.natAbs ≤ 1000) (hy : y.natAbs ≤ 1000) : impl_joined [44] [x, y] = some (vtext (x, y)) := by
  have hj : join [itoa x, itoa y] [44] = vtext (x, y) := by
    rw [Go.Lib.join_cons]
    simp [joinTail, vtext]
  have hl1 := itoa_len hx
  have hl2 := itoa_len hy
  have e : impl_joined_l0 [44] [] [x, y] 2 0 = some ([44], [itoa x, itoa y]) := by
    rw [impl_joined_l0_eq, show decide ((0 : Int) < 2) = true from rfl, show rd [x, y] 0 = some x from rfl]
    simp only [cond_true, Option.bind_some, text_v hx, Option.bind_fun_some, List.nil_append]
    rw [decide_eq_true (by unfold LIM; simp), cond_true, show IntKind.i64.wrap (0 + 1) = 1 by decide, impl_joined_l0_eq, show decide ((1 : Int) < 2) = true from rfl, show rd [x, y] 1 = some y from rfl]
    simp only [cond_true, Option.bind_some, text_v hy, Option.bind_fun_some]
    rw [decide_eq_true (by unfold LIM; simp), cond_true, show IntKind.i64.wrap (1 + 1) = 2 by decide, impl_joined_l0_eq, show decide ((2 : Int) < 2) = false from rfl]
    rfl
  rw [impl_joined_eq, show (([x, y] : List Int).length : Int) = 2 from rfl, e]
  simp only [Option.bind_some]
  rw [join_v _ _ (by simp) (by rw [hj]; unfold vtext; simp only [List.length_append, List.length_singleton]; omega), hj]
  rfl
theorem impl_vecText_v {v : V} (h : isVec v = true) : impl_VecText v = some (vtext v) := by
  obtain ⟨h1, h2⟩ := isVec_abs h
  rw [impl_VecText_eq, impl_IsVec_v, h]
  simp only [Option.bind_some, cond_true, joined_v h1 h2]
theorem spec_vecText_v {v : V} (h : isVec v = true) : spec_VecText v = some (vtext v) := by
  obtain ⟨h1, h2⟩ := isVec_abs h
  have hl1 := itoa_len h1
  have hl2 := itoa_len h2
  rw [spec_VecText_eq, spec_IsVec_v, h]
  simp only [Option.bind_some, cond_true, number_v h1, number_v h2]
  rw [decide_eq_true (by simp only [List.length_singleton]; omega), cond_true, decide_eq_true (by simp only [List.length_append, List.length_singleton]; omega), cond_true]
  unfold vtext
  rw [List.append_assoc]
theorem joinTail_cons (sep y : List UInt8) (r : List (List UInt8)) : joinTail sep (y :: r) = sep ++ y ++ joinTail sep r := by simp [joinTail]
theorem joinTail_len (sep : List UInt8) (hs : sep.length ≤ 10) : ∀ (r : List (List UInt8)), (∀ x ∈ r, x.length ≤ 3000) → (joinTail sep r).length ≤ 3010 * r.length
  | [], _ => by simp [joinTail]
  | y :: r, h => by
    have ih := joinTail_len sep hs r fun x hx => h x (List.mem_cons_of_mem _ hx)
    have := h y (List.mem_cons_self ..)
    rw [joinTail_cons]
    simp only [List.length_append, List.length_cons]
    omega
theorem spec_tile_loop {xs : List V} (hx : ∀ v ∈ xs, isVec v = true) (hn : xs.length ≤ 16) : ∀ (d k : Nat) (acc : List UInt8), k + d = xs.length → 1 ≤ k → acc.length ≤ 4000 * k → spec_TileText_l0 xs acc (k : Int) = some (acc ++ joinTail [32] ((xs.drop k).map vtext))
  | 0, k, acc, hk, h1, ha => by
    rw [spec_TileText_l0_eq, decide_eq_false (by omega), List.drop_eq_nil_of_le (by omega)]
    simp [joinTail]
  | d + 1, k, acc, hk, h1, ha => by
    have hlt : k < xs.length := by omega
    have hv := hx _ (List.getElem_mem hlt)
    have hl := vtext_len hv
    rw [spec_TileText_l0_eq, decide_eq_true (by omega), decide_eq_true (p := (0 : Int) < (k : Int)) (by omega), rd_lt hlt, List.drop_eq_getElem_cons hlt, List.map_cons, joinTail_cons]
    simp only [cond_true, Option.bind_some, spec_vecText_v hv, Option.bind_fun_some]
    rw [decide_eq_true (by simp only [List.length_singleton]; omega), cond_true, decide_eq_true (by simp only [List.length_append, List.length_singleton]; omega), cond_true, wnext hlt (by omega)]
    rw [spec_tile_loop hx hn d (k + 1) _ (by omega) (by omega) (by simp only [List.length_append, List.length_singleton]; omega)]
    simp only [List.append_assoc]
theorem impl_tile_loop {xs : List V} (hx : ∀ v ∈ xs, isVec v = true) (hn : xs.length ≤ 16) : impl_TileText_l0 [] xs (xs.length : Int) 0 = some (xs.map vtext) := by
  have key := loop_map (L := fun s k => impl_TileText_l0 s xs (xs.length : Int) k) xs vtext (fun k hk s hs => by
    show impl_TileText_l0 s xs (xs.length : Int) (k : Int) = _
    rw [impl_TileText_l0_eq, decide_eq_true (by omega), rd_lt hk]
    simp only [cond_true, Option.bind_some, impl_vecText_v (hx _ (List.getElem_mem hk)), Option.bind_fun_some]
    rw [wnext hk (by omega), decide_eq_true (by unfold LIM; simp only [List.length_singleton]; omega)]
    rfl)
  have key' : impl_TileText_l0 [] xs (xs.length : Int) 0 = impl_TileText_l0 (xs.map vtext) xs (xs.length : Int) (xs.length : Int) := key
  rw [key', impl_TileText_l0_eq, decide_eq_false (by omega)]
  rfl
theorem tileText_v (xs : List V) (hn : xs.length ≤ 1048576) : ∃ s, impl_TileText xs = some s ∧ spec_TileText xs = some s := by
  rw [impl_TileText_eq, spec_TileText_eq, impl_IsTile_v xs (by omega), spec_IsTile_v xs (by omega)]
  simp only [Option.bind_some]
  cases ht : isTile xs
  · exact ⟨_, rfl, rfl⟩
  · unfold isTile at ht
    simp only [Bool.and_eq_true, decide_eq_true_iff] at ht
    obtain ⟨⟨⟨h1, _⟩, h2⟩, h3⟩ := ht
    have hx : ∀ v ∈ xs, isVec v = true := List.all_eq_true.1 h1
    obtain ⟨v, r, rfl⟩ := List.exists_cons_of_ne_nil (show xs ≠ [] by rintro rfl; simp at h2)
    have hv := hx v (List.mem_cons_self ..)
    have hl := vtext_len hv
    have hjl := joinTail_len [32] (by simp) (r.map vtext) (fun x hx' => by
      obtain ⟨u, hu, rfl⟩ := List.mem_map.1 hx'
      exact vtext_len (hx u (List.mem_cons_of_mem _ hu)))
    rw [List.length_map] at hjl
    have hr : r.length ≤ 15 := by simp only [List.length_cons] at h3; omega
    have hj : join ((v :: r).map vtext) [32] = vtext v ++ joinTail [32] (r.map vtext) := by rw [List.map_cons, Go.Lib.join_cons]
    have hs : spec_TileText_l0 (v :: r) [] 0 = some (vtext v ++ joinTail [32] (r.map vtext)) := by
      rw [spec_TileText_l0_eq, decide_eq_true (by simp only [List.length_cons]; omega), show decide ((0 : Int) < 0) = false from rfl, show rd (v :: r) 0 = some v from rfl]
      simp only [cond_true, cond_false, Option.bind_some, spec_vecText_v hv, Option.bind_fun_some, List.nil_append, List.length_nil]
      rw [decide_eq_true (by omega), cond_true, show IntKind.i64.wrap (0 + 1) = ((1 : Nat) : Int) by decide]
      exact spec_tile_loop hx h3 r.length 1 _ (by simp only [List.length_cons]; omega) (by omega) (by omega)
    refine ⟨vtext v ++ joinTail [32] (r.map vtext), ?_, ?_⟩
    · rw [cond_true, impl_tile_loop hx h3]
      simp only [Option.bind_some]
      rw [join_v _ _ (by rw [List.length_map]; omega) (by rw [hj, List.length_append]; omega), hj]
      rfl
    · rw [cond_true, hs]
      rfl
theorem FnExactTileText_true (xs : List V) (h : wfE (.list (.pair (.i .i64) (.i .i64))) xs) : laws_FnExactTileText xs = some true := by
  rw [laws_FnExactTileText_eq, laws_szVecS_v xs _ h.1 (by omega) (by omega)]
  simp only [Option.bind_some]
  rw [szl_neg (by omega)]
  by_cases hc : (xs.length : Int) ≤ 1048576
  · have hc' : xs.length ≤ 1048576 := by omega
    have hm : xs.length ≤ MAXN := by unfold MAXN; omega
    obtain ⟨s, h1, h2⟩ := tileText_v xs hc'
    simp [decide_eq_true hc, laws_toVecS_v xs hc', h1, h2, laws_eqVecS_v xs xs hm]
  · simp [hc]
end Go.Proofs.YtopigbmamejklaaDoor
