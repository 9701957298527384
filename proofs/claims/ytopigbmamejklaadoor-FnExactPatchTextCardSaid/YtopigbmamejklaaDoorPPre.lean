/-
  Plain meanings of the callees of the walked PatchText.
-/
import Derived.Test.YtopigbmamejklaaDoorPTx
import Derived.Test.YtopigbmamejklaaDoorPL
import Derived.Test.YtopigbmamejklaaDoorA39
import Derived.Test.YtopigbmamejklaaDoorQP0
namespace Go.Proofs.YtopigbmamejklaaDoor
open Ai
open Go.Lib (itoa decDigits join joinTail)
set_option linter.unusedSimpArgs false
set_option linter.unusedVariables false
theorem Pre.impl_within_v (x a b : Int) : Pre.impl_within x a b = some (within x a b) := by
  rw [Pre.impl_within_eq]
  unfold within
  by_cases h1 : a ≤ x <;> by_cases h2 : x ≤ b <;> simp [h1, h2]
theorem Pre.impl_isSide_v (x : Int) : Pre.impl_isSide x = some (within x 1 16) := by
  rw [Pre.impl_isSide_eq, Pre.impl_within_v]
  cases h : within x 1 16 <;> simp [h]
theorem Pre.impl_allWithin_1_v (x a b : Int) : Pre.impl_allWithin_1 x a b = some (!within x a b) := by
  rw [Pre.impl_allWithin_1_eq, Pre.impl_within_v]
  cases within x a b <;> rfl
theorem Pre.impl_allWithin_v (xs : List Int) (a b : Int) (h : xs.length ≤ MAXN) : Pre.impl_allWithin xs a b = some (xs.all (within · a b)) := by
  have h1 : Pre.slices_IndexFunc_Sint64_int64__impl_allWithin_1 xs (a, b) = some (match xs.findIdx? (fun x => !within x a b) with | none => -1 | some i => (i : Int)) := by
    rw [Pre.slices_IndexFunc_Sint64_int64__impl_allWithin_1_eq]
    have := find_loop (L := fun k => Pre.slices_IndexFunc_Sint64_int64__impl_allWithin_1_l0 xs (a, b) (xs.length : Int) k) (xs := xs) (p := fun x => !within x a b) (good := .inl ()) (bad := fun i => .inr (i : Int)) h (fun k hk => by
      show Pre.slices_IndexFunc_Sint64_int64__impl_allWithin_1_l0 xs (a, b) _ k = _
      rw [Pre.slices_IndexFunc_Sint64_int64__impl_allWithin_1_l0_eq, decide_eq_true (by omega), rd_lt hk]
      simp only [cond_true, Option.bind_some, Pre.impl_allWithin_1_v, Option.bind_fun_some]
      cases within xs[k] a b <;> rfl) (by
      show Pre.slices_IndexFunc_Sint64_int64__impl_allWithin_1_l0 xs (a, b) _ _ = _
      rw [Pre.slices_IndexFunc_Sint64_int64__impl_allWithin_1_l0_eq, decide_eq_false (by omega)]; rfl)
    rw [this]
    cases xs.findIdx? (fun x => !within x a b) <;> rfl
  rw [Pre.impl_allWithin_eq, Pre.slices_ContainsFunc_Sint64_int64__impl_allWithin_1_eq, h1]
  cases hq : xs.findIdx? (fun x => !within x a b) with
  | none =>
    have : xs.all (within · a b) = true := by
      rw [findIdx_none] at hq
      rw [List.all_eq_not_any_not, hq]; rfl
    rw [this]; rfl
  | some i =>
    have : xs.all (within · a b) = false := by
      rw [List.all_eq_not_any_not]
      cases hany : xs.any (fun x => !within x a b) with
      | true => rfl
      | false => rw [← findIdx_none, hq] at hany; cases hany
    rw [this]
    simp only [Option.bind_some]
    rw [decide_eq_true (by omega)]
    rfl
theorem Pre.impl_IsPatch_v (p : Patch) (h : p.2.2.length ≤ MAXN) : Pre.impl_IsPatch p = some (isPatch p) := by
  rw [Pre.impl_IsPatch_eq]
  simp only [Pre.impl_isSide_v, Option.bind_some, Pre.impl_allWithin_v _ _ _ h]
  unfold isPatch
  cases h1 : within p.1 1 16
  · rfl
  · cases h2 : within p.2.1 1 16
    · rfl
    · rw [within_iff] at h1 h2
      obtain ⟨q1, q2⟩ := mul_lim (a := p.1) (b := p.2.1) (m := 16) (n := 16) (by omega) h1.2 (by omega) h2.2
      rw [w64 (by omega) (by omega)]
      simp only [cond_true, Bool.true_and]
      by_cases hl : (p.2.2.length : Int) = p.1 * p.2.1
      · rw [decide_eq_true hl]
        cases p.2.2.all (within · 0 9) <;> rfl
      · rw [decide_eq_false hl]; rfl
/-! ### Digits -/
theorem itoa_dig {c : Int} (h0 : 0 ≤ c) (h9 : c ≤ 9) : itoa c = [bz c] := by
  unfold Go.Lib.itoa
  rw [if_neg (by omega), Go.Lib.decDigits, dif_pos (by omega)]
  unfold bz
  have : (48 + c).toNat = 48 + c.toNat := by omega
  rw [this]
theorem Pre.impl_text_v {c : Int} (h0 : 0 ≤ c) (h9 : c ≤ 9) : Pre.impl_text c = some [bz c] := by
  rw [Pre.impl_text_eq, Pre.strconv_FormatInt_ext]
  unfold fmaX
  rw [if_pos ⟨⟨by simp only; omega, by simp only; omega⟩, rfl⟩, ← itoa_dig h0 h9]
  rfl
theorem joinTail_nil : ∀ (r : List (List UInt8)), joinTail [] r = r.flatten
  | [] => by simp [joinTail]
  | y :: r => by simp [joinTail]
theorem join_nil (r : List (List UInt8)) : join r [] = r.flatten := by
  cases r with
  | nil => simp [join]
  | cons y r => rw [Go.Lib.join_cons, joinTail_nil, List.flatten_cons]
theorem flat_dig (r : List Int) : (r.map fun c => [bz c]).flatten = r.map bz := by
  induction r with
  | nil => rfl
  | cons c r ih => simp [ih]
theorem Pre.impl_digits_v {r : List Int} (h : ∀ c ∈ r, 0 ≤ c ∧ c ≤ 9) (hn : r.length ≤ 4096) : Pre.impl_digitsText r = some (r.map bz) := by
  have key := loop_map (L := fun s k => Pre.impl_joined_l0 [] s r (r.length : Int) k) r (fun c => [bz c]) (fun k hk s hs => by
    show Pre.impl_joined_l0 [] s r (r.length : Int) (k : Int) = _
    obtain ⟨h0, h9⟩ := h _ (List.getElem_mem hk)
    rw [Pre.impl_joined_l0_eq, decide_eq_true (by omega), rd_lt hk]
    simp only [cond_true, Option.bind_some, Pre.impl_text_v h0 h9, Option.bind_fun_some]
    rw [wnext hk (by omega), decide_eq_true (by unfold LIM; simp only [List.length_singleton]; omega)]
    rfl)
  have key' : Pre.impl_joined_l0 [] [] r (r.length : Int) 0 = Pre.impl_joined_l0 [] (r.map fun c => [bz c]) r (r.length : Int) (r.length : Int) := key
  rw [Pre.impl_digitsText_eq, Pre.impl_joined_eq, key', Pre.impl_joined_l0_eq, decide_eq_false (by omega)]
  simp only [cond_false, Option.bind_some]
  rw [Pre.strings_Join_ext]
  unfold joiX
  rw [if_pos ⟨by simp only [List.length_map]; omega, by simp only [join_nil, flat_dig, List.length_map]; omega⟩]
  simp only [join_nil, flat_dig, Option.bind_some]
/-! ### Rows -/
theorem rowsOf_flatten {w : Nat} (hw : 1 ≤ w) : ∀ (R : List (List Int)), (∀ r ∈ R, r.length = w) → R.flatten.length = R.length * w ∧ rowsOf w R.flatten = R
  | [], _ => by
    refine ⟨by simp, ?_⟩
    unfold rowsOf
    simp
  | r :: R, h => by
    obtain ⟨h1, h2⟩ := rowsOf_flatten hw R fun q hq => h q (List.mem_cons_of_mem _ hq)
    have hr := h r (List.mem_cons_self ..)
    have hl : (r :: R).flatten.length = (R.length + 1) * w := by rw [List.flatten_cons, List.length_append, hr, h1, Nat.add_mul]; omega
    refine ⟨hl, ?_⟩
    have e1 : (r :: R).flatten.length / w = R.length + 1 := by rw [hl]; exact Nat.mul_div_cancel _ (by omega)
    have e2 : R.flatten.length / w = R.length := by rw [h1]; exact Nat.mul_div_cancel _ (by omega)
    unfold rowsOf at h2 ⊢
    rw [e1, List.range_succ_eq_map, List.map_cons, List.map_map]
    rw [e2] at h2
    congr 1
    · rw [Nat.zero_mul, List.drop_zero, List.flatten_cons, ← hr, List.take_left]
    · conv => rhs; rw [← h2]
      apply List.map_congr_left
      intro k _
      show ((r :: R).flatten.drop ((k + 1) * w)).take w = _
      rw [List.flatten_cons, Nat.add_mul, Nat.one_mul, Nat.add_comm, ← List.drop_drop]
      congr 2
      rw [← hr, List.drop_left]
theorem digsL_v : ∀ (R : List (List Int)), (∀ r ∈ R, (∀ c ∈ r, 0 ≤ c ∧ c ≤ 9) ∧ r.length ≤ 4096) → digsL Pre.impl_digitsText R = some (R.map fun r => r.map bz)
  | [], _ => rfl
  | r :: R, h => by
    obtain ⟨h1, h2⟩ := h r (List.mem_cons_self ..)
    unfold digsL
    rw [Pre.impl_digits_v h1 h2, digsL_v R fun q hq => h q (List.mem_cons_of_mem _ hq)]
    rfl
theorem ptx_v (p : Patch) (h : p.2.2.length ≤ MAXN) : ptxX p = if isPatch p = true then (Option.bind (spec_l20Text p) fun t => some (t, 0)) else some ([], 1) := by
  unfold ptxX
  rw [show Pre.impl_IsPatch p = _ from Pre.impl_IsPatch_v p h]
  simp only [Option.bind_some]
  cases hp : isPatch p with
  | false => rfl
  | true =>
    obtain ⟨R, ht, hR, hw, hf⟩ := text_v hp
    obtain ⟨⟨w1, w2⟩, ⟨h1, h2⟩, hl, h9⟩ := isPatch_iff.1 hp
    obtain ⟨w, hwe⟩ : ∃ w : Nat, p.1 = w := ⟨p.1.toNat, by omega⟩
    have hw' : ∀ r ∈ R, r.length = w := fun r hr => by have := hw r hr; omega
    obtain ⟨g1, g2⟩ := rowsOf_flatten (w := w) (by omega) R hw'
    rw [hf] at g1 g2
    have hq := mul_lim (a := p.1) (b := p.2.1) (m := 16) (n := 16) (by omega) w2 (by omega) h2
    have hpos : 1 ≤ R.length := List.length_pos_iff.2 hR
    have hpw : 1 ≤ R.length * w := Nat.mul_pos hpos (by omega)
    have hmem : ∀ r ∈ R, (∀ c ∈ r, 0 ≤ c ∧ c ≤ 9) ∧ r.length ≤ 4096 := fun r hr => by
      refine ⟨fun c hc => h9 c ?_, by rw [hw' r hr]; omega⟩
      rw [← hf]
      exact List.mem_flatten.2 ⟨r, hr, hc⟩
    simp only [if_true]
    have et : p.1.toNat = w := by omega
    rw [if_pos ⟨⟨w1, by omega⟩, by omega, by rw [et, g1]; exact Nat.mul_mod_left _ _, by omega⟩, et, g2, digsL_v R hmem, ht]
    simp only [Option.bind_some]
    rw [if_pos]
    rw [List.all_eq_true]
    intro d hd
    obtain ⟨r, hr, rfl⟩ := List.mem_map.1 hd
    rw [List.length_map]
    exact decide_eq_true (hmem r hr).2
end Go.Proofs.YtopigbmamejklaaDoor
