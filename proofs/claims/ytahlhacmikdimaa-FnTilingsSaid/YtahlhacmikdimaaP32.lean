/-
  Plain meanings: turned tiles.
-/
import Derived.Test.YtahlhacmikdimaaP28
import Derived.Test.YtahlhacmikdimaaP23
import Derived.Test.YtahlhacmikdimaaP2
namespace Go.Proofs.Ytahlhacmikdimaa
open Ai
set_option linter.unusedSimpArgs false
set_option linter.unusedVariables false

theorem upTo_cons {x y : V} {r : List V} : upTo (x :: y :: r) = (vless x y && upTo (y :: r)) := rfl

theorem upTo_inc : ∀ (xs : List V), upTo xs = true ↔ Inc xs
  | [] => by simp [upTo, Inc]
  | [x] => by simp [upTo, Inc]
  | x :: y :: r => by
    rw [upTo_cons, Bool.and_eq_true, upTo_inc (y :: r)]
    constructor
    · rintro ⟨h1, h2⟩
      refine List.pairwise_cons.2 ⟨fun z hz => ?_, h2⟩
      rcases List.mem_cons.1 hz with rfl | hz
      · exact h1
      · exact vless_trans h1 ((List.pairwise_cons.1 h2).1 z hz)
    · intro h
      obtain ⟨h1, h2⟩ := List.pairwise_cons.1 h
      exact ⟨h1 y (List.mem_cons_self ..), h2⟩

theorem isTile_ok {xs : List V} (h : isTile xs = true) : (∀ v ∈ xs, isVec v = true) ∧ Inc xs ∧ xs ≠ [] ∧ xs.length ≤ 16 := by
  unfold isTile at h
  simp only [Bool.and_eq_true, decide_eq_true_eq, List.all_eq_true] at h
  exact ⟨h.1.1.1, (upTo_inc xs).1 h.1.1.2, List.length_pos_iff.1 h.1.2, h.2⟩

def turnL (m : Mat4) (xs : List V) : List V := xs.foldl (fun s v => insV (mapp m v) s) []

theorem turnL_ok (m : Mat4) : ∀ (xs s : List V), Inc s → Inc (xs.foldl (fun s v => insV (mapp m v) s) s) ∧ (∀ w, w ∈ xs.foldl (fun s v => insV (mapp m v) s) s ↔ w ∈ s ∨ w ∈ xs.map (mapp m)) ∧ (xs.foldl (fun s v => insV (mapp m v) s) s).length ≤ s.length + xs.length
  | [], s, h => ⟨h, fun w => by simp, by simp⟩
  | x :: r, s, h => by
    obtain ⟨h1, h2, h3⟩ := turnL_ok m r (insV (mapp m x) s) (insV_inc h)
    refine ⟨h1, fun w => ?_, ?_⟩
    · rw [List.foldl_cons, h2, mem_insV, List.map_cons, List.mem_cons]
      constructor
      · rintro ((h | h) | h)
        · exact .inr (.inl h)
        · exact .inl h
        · exact .inr (.inr h)
      · rintro (h | h | h)
        · exact .inl (.inr h)
        · exact .inl (.inl h)
        · exact .inr h
    · have := insV_len (mapp m x) s
      rw [List.foldl_cons, List.length_cons]
      omega

theorem mapp_inj {m : Mat4} (hm : Pm m) {u v : V} (h : mapp m u = mapp m v) : u = v := by
  rw [← minv_left hm.det u, h, minv_left hm.det v]

theorem turnL_perm {m : Mat4} (hm : Pm m) {xs : List V} (hx : Inc xs) : (turnL m xs).Perm (xs.map (mapp m)) := by
  obtain ⟨h1, h2, _⟩ := turnL_ok m xs [] List.Pairwise.nil
  refine (List.perm_ext_iff_of_nodup h1.nodup ?_).2 fun w => ?_
  · have hnd : xs.Pairwise (· ≠ ·) := hx.nodup
    exact List.pairwise_map.2 (hnd.imp fun hne he => hne (mapp_inj hm he))
  · show w ∈ xs.foldl (fun s v => insV (mapp m v) s) [] ↔ _
    rw [h2]; simp

theorem turnL_inc (m : Mat4) (xs : List V) : Inc (turnL m xs) := (turnL_ok m xs [] List.Pairwise.nil).1

theorem turnL_len {m : Mat4} (hm : Pm m) {xs : List V} (hx : Inc xs) : (turnL m xs).length = xs.length := by
  have := (turnL_perm hm hx).length_eq
  simpa using this

/-! ### The comparator, and the sort -/

theorem cmpEl_V (u v : V) : cmpEl cV u v = cmpV u v := by
  show (if cmpI64 u.1 v.1 = 0 then cmpI64 u.2 v.2 else cmpI64 u.1 v.1) = if u.1 = v.1 then (if u.2 = v.2 then 0 else if u.2 < v.2 then -1 else 1) else if u.1 < v.1 then -1 else 1
  unfold cmpI64
  rcases Int.lt_trichotomy u.1 v.1 with h | h | h
  · simp [h, Int.ne_of_lt h]
  · rcases Int.lt_trichotomy u.2 v.2 with g | g | g
    · simp [h, g, Int.ne_of_lt g]
    · simp [h, g]
    · simp [h, g, (Int.ne_of_lt g).symm, Int.not_lt.2 (Int.le_of_lt g)]
  · simp [h, (Int.ne_of_lt h).symm, Int.not_lt.2 (Int.le_of_lt h)]

theorem cmpV_lt (u v : V) : cmpV u v < 0 ↔ vless u v = true := by
  have := cmpV_neg u v
  cases hv : vless u v
  · rw [hv] at this
    simp only [Bool.not_false, decide_eq_true_eq] at this
    simp; omega
  · rw [hv] at this
    simp only [Bool.not_true, decide_eq_false_iff_not] at this
    simp; omega

theorem sorts_vecs {xs ys : List V} (hne : xs ≠ []) (hn : xs.length ≤ 1000000) (hp : ys.Perm xs) (hi : Inc ys) : Sorts env0 fi_impl_compareVecs.f cV (cmpEl cV) xs ys := by
  refine ⟨⟨hne, by omega⟩, (cmpEl_tot cV rfl).sortOk fun a _ b _ => ?_, hp, hi.imp fun {a b} hab => ?_⟩
  · have h : run env (.fn fi_impl_compareVecs) ((a, b) : V × V) = some (cmpV a b : Int) := impl_compareVecs_v a b
    rw [cmpEl_V]
    exact run_sound env_ok h
  · rw [cmpEl_V, cmpV_lt]
    cases hba : vless b a with
    | false => simp
    | true =>
      have := vless_trans hab hba
      rw [vless_irr] at this
      cases this

theorem slices_SortFunc_vecs {xs ys : List V} (hne : xs ≠ []) (hn : xs.length ≤ 1000000) (hp : ys.Perm xs) (hi : Inc ys) : slices_SortFunc_SVec_Vec_r__impl_compareVecs xs = some ys := by
  rw [slices_SortFunc_SVec_Vec_r__impl_compareVecs_ext]
  exact sortX_eq (sorts_vecs hne hn hp hi)

theorem impl_turnTile_v {m : Mat4} (hm : Pm m) (xs : List V) (hi : Inc xs) (hne : xs ≠ []) (hv : ∀ v ∈ xs, isVec v = true) (hn : xs.length ≤ 1000) : impl_turnTile xs m = some (turnL m xs) := by
  rw [impl_turnTile_eq]
  have key := loop_map (L := fun s k => impl_turnTile_l0 s xs (xs.length : Int) k m.1 m.2.1 m.2.2.1 m.2.2.2) xs (mapp m) (fun k hk s hs => by
    show impl_turnTile_l0 s xs (xs.length : Int) (k : Int) m.1 m.2.1 m.2.2.1 m.2.2.2 = _
    have e1 : impl_Mat_apply (m.1, m.2.1, m.2.2.1, m.2.2.2) xs[k] = some (mapp m xs[k]) := impl_Mat_apply_v hm (isVec_sv (hv _ (List.getElem_mem hk))).ss
    rw [impl_turnTile_l0_eq, decide_eq_true (by omega), rd_lt hk]
    simp only [cond_true, Option.bind_some, e1, Option.bind_fun_some]
    rw [wnext hk (by omega), decide_eq_true (by unfold LIM; simp only [List.length_singleton]; omega)]
    rfl)
  have h2 : impl_turnTile_l0 [] xs (xs.length : Int) 0 m.1 m.2.1 m.2.2.1 m.2.2.2 = _ := key
  rw [h2]
  have h3 : impl_turnTile_l0 (xs.map (mapp m)) xs (xs.length : Int) (xs.length : Int) m.1 m.2.1 m.2.2.1 m.2.2.2 = some (xs.map (mapp m)) := by
    rw [impl_turnTile_l0_eq, decide_eq_false (by omega)]
    rfl
  rw [h3]
  simp only [Option.bind_some]
  rw [slices_SortFunc_vecs (by simpa using hne) (by simp; omega) (turnL_perm hm hi) (turnL_inc m xs)]
  rfl

end Go.Proofs.Ytahlhacmikdimaa
