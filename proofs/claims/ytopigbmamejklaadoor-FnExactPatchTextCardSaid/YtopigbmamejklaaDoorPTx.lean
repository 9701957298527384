/-
  Patches as texts: the reference's text.
-/
import Derived.Test.YtopigbmamejklaaDoorP4
import Derived.Test.YtopigbmamejklaaDoorPL
namespace Go.Proofs.YtopigbmamejklaaDoor
open Ai
set_option linter.unusedSimpArgs false
set_option linter.unusedVariables false
def isDig (b : UInt8) : Bool := decide (48 ≤ b.toNat) && decide (b.toNat ≤ 57)
def dz (b : UInt8) : Int := (b.toNat : Int) - 48
def bz (c : Int) : UInt8 := UInt8.ofNat (48 + c).toNat
theorem bz_dz (b : UInt8) : bz (dz b) = b := by
  unfold bz dz
  have e : (48 + ((b.toNat : Int) - 48)).toNat = b.toNat := by omega
  rw [e]
  exact UInt8.ofNat_toNat
theorem dz_bz {c : Int} (h0 : 0 ≤ c) (h9 : c ≤ 9) : dz (bz c) = c ∧ isDig (bz c) = true := by
  have key : ∀ k : Fin 10, dz (bz (k.val : Int)) = (k.val : Int) ∧ isDig (bz (k.val : Int)) = true := by decide +kernel
  have := key ⟨c.toNat, by omega⟩
  have e : ((c.toNat : Nat) : Int) = c := by omega
  simp only [e] at this
  exact this
theorem u8_small {z : Int} (h0 : 0 ≤ z) (h1 : z ≤ 255) : IntKind.u8.wrap z = z := by
  simp only [IntKind.wrap, IntKind.signed, IntKind.bits]
  simp
  omega
/-! ### The reference's text of a patch -/
def txtI (w : Nat) : Nat → List Int → List Int
  | _, [] => []
  | j, c :: cs => (48 + c) :: (if j + 1 = w then 10 :: txtI w 0 cs else txtI w (j + 1) cs)
theorem txt_loop (w : Nat) (hw : 1 ≤ w ∧ w ≤ 16) (h : Int) (cs : List Int) (h9 : ∀ c ∈ cs, 0 ≤ c ∧ c ≤ 9) (hn : cs.length ≤ 1000) : ∀ (d k q j : Nat) (out : List Int), k + d = cs.length → k = q * w + j → j < w → out.length ≤ 2 * k →
    spec_l20Text_l0 out (k : Int) (w : Int) h cs = some (out ++ txtI w j (cs.drop k))
  | 0, k, q, j, out, hk, hq, hj, ho => by
    rw [spec_l20Text_l0_eq, decide_eq_false (by omega), List.drop_eq_nil_of_le (by omega)]
    simp [txtI]
  | d + 1, k, q, j, out, hk, hq, hj, ho => by
    have hlt : k < cs.length := by omega
    obtain ⟨c0, c9⟩ := h9 _ (List.getElem_mem hlt)
    have e : IntKind.u8.wrap (IntKind.i64.wrap (48 + cs[k])) = 48 + cs[k] := by rw [w64 (by omega) (by omega), u8_small (by omega) (by omega)]
    have hm : Int.tmod (k : Int) (w : Int) = (j : Int) := by
      rw [Int.tmod_eq_emod_of_nonneg (by omega), ← Int.natCast_emod]
      congr 1
      rw [hq, Nat.mul_comm, Nat.mul_add_mod, Nat.mod_eq_of_lt hj]
    rw [spec_l20Text_l0_eq, decide_eq_true (by omega), rd_lt hlt, List.drop_eq_getElem_cons hlt]
    simp only [cond_true, Option.bind_some, Option.bind_fun_some]
    rw [e, decide_eq_true (by unfold LIM; simp only [List.length_singleton]; omega), decide_eq_false (p := (w : Int) = 0) (by omega), hm, w64 (x := (w : Int) - 1) (by omega) (by omega), wnext hlt (by omega)]
    simp only [cond_true, cond_false]
    by_cases hj1 : j + 1 = w
    · rw [decide_eq_true (by omega), decide_eq_true (by unfold LIM; simp only [List.length_append, List.length_singleton]; omega)]
      simp only [cond_true]
      rw [txt_loop w hw h cs h9 hn d (k + 1) (q + 1) 0 _ (by omega) (by rw [Nat.add_mul]; omega) (by omega) (by simp only [List.length_append, List.length_singleton]; omega)]
      simp [txtI, hj1]
    · rw [decide_eq_false (by omega)]
      simp only [cond_false]
      rw [txt_loop w hw h cs h9 hn d (k + 1) q (j + 1) _ (by omega) (by omega) (by omega) (by simp only [List.length_append, List.length_singleton]; omega)]
      simp [txtI, hj1]
theorem txtI_row (w : Nat) (rest : List Int) : ∀ (r : List Int) (j : Nat), r ≠ [] → j + r.length = w → txtI w j (r ++ rest) = r.map (48 + ·) ++ 10 :: txtI w 0 rest
  | [], _, h, _ => (h rfl).elim
  | [c], j, _, h => by
    simp only [List.length_singleton] at h
    simp [txtI, h]
  | c :: c' :: r, j, _, h => by
    simp only [List.length_cons] at h
    have ih := txtI_row w rest (c' :: r) (j + 1) (by simp) (by simp only [List.length_cons]; omega)
    have hne : ¬ j + 1 = w := by omega
    rw [List.cons_append, txtI, if_neg hne, ih]
    rfl
theorem txtI_rows (w : Nat) (hw : 1 ≤ w) : ∀ R : List (List Int), (∀ r ∈ R, r.length = w) → txtI w 0 R.flatten = R.flatMap fun r => r.map (48 + ·) ++ [10]
  | [], _ => rfl
  | r :: R, h => by
    have h1 := h r (List.mem_cons_self ..)
    rw [List.flatten_cons, txtI_row w _ r 0 (fun e => by rw [e] at h1; simp at h1; omega) (by omega), txtI_rows w hw R fun q hq => h q (List.mem_cons_of_mem _ hq)]
    simp
theorem ofInts_rows (R : List (List Int)) : ofInts (R.flatMap fun r => r.map (48 + ·) ++ [10]) = (R.map fun r => r.map bz).flatMap fun r => r ++ [10] := by
  unfold ofInts
  rw [List.map_flatMap, List.flatMap_map]
  congr 1
  funext r
  rw [List.map_append, List.map_map]
  rfl
theorem rows_of (w : Nat) : ∀ (H : Nat) (cs : List Int), cs.length = w * H → ∃ R : List (List Int), R.length = H ∧ (∀ r ∈ R, r.length = w) ∧ R.flatten = cs
  | 0, cs, h => ⟨[], rfl, by simp, by rw [List.length_eq_zero_iff.1 (by omega : cs.length = 0)]; rfl⟩
  | H + 1, cs, h => by
    rw [Nat.mul_succ] at h
    obtain ⟨R, h1, h2, h3⟩ := rows_of w H (cs.drop w) (by rw [List.length_drop]; omega)
    refine ⟨cs.take w :: R, by simp [h1], fun r hr => ?_, by rw [List.flatten_cons, h3, List.take_append_drop]⟩
    rcases List.mem_cons.1 hr with rfl | hr
    · rw [List.length_take]; omega
    · exact h2 r hr
theorem isPatch_iff {p : Patch} : isPatch p = true ↔ (1 ≤ p.1 ∧ p.1 ≤ 16) ∧ (1 ≤ p.2.1 ∧ p.2.1 ≤ 16) ∧ (p.2.2.length : Int) = p.1 * p.2.1 ∧ ∀ c ∈ p.2.2, 0 ≤ c ∧ c ≤ 9 := by
  unfold isPatch
  rw [Bool.and_eq_true, Bool.and_eq_true, Bool.and_eq_true, within_iff, within_iff, decide_eq_true_iff, List.all_eq_true]
  constructor
  · rintro ⟨⟨⟨a, b⟩, c⟩, d⟩
    exact ⟨a, b, c, fun x hx => within_iff.1 (d x hx)⟩
  · rintro ⟨a, b, c, d⟩
    exact ⟨⟨⟨a, b⟩, c⟩, fun x hx => within_iff.2 (d x hx)⟩
theorem text_v {p : Patch} (hp : isPatch p = true) : ∃ R : List (List Int), spec_l20Text p = some ((R.map fun r => r.map bz).flatMap fun r => r ++ [10]) ∧ R ≠ [] ∧ (∀ r ∈ R, (r.length : Int) = p.1) ∧ R.flatten = p.2.2 := by
  obtain ⟨⟨w1, w2⟩, ⟨h1, h2⟩, hl, h9⟩ := isPatch_iff.1 hp
  obtain ⟨w, hw⟩ : ∃ w : Nat, p.1 = w := ⟨p.1.toNat, by omega⟩
  obtain ⟨H, hH⟩ : ∃ H : Nat, p.2.1 = H := ⟨p.2.1.toNat, by omega⟩
  have hl' : p.2.2.length = w * H := by rw [hw, hH] at hl; exact_mod_cast hl
  have hb : w * H ≤ 16 * 16 := Nat.mul_le_mul (by omega) (by omega)
  obtain ⟨R, r1, r2, r3⟩ := rows_of w H p.2.2 hl'
  have ht := txt_loop w (by omega) p.2.1 p.2.2 h9 (by omega) p.2.2.length 0 0 0 [] (by omega) (by omega) (by omega) (by simp)
  refine ⟨R, ?_, fun e => ?_, fun r hr => by rw [r2 r hr, hw], r3⟩
  · rw [spec_l20Text_eq, hw, show spec_l20Text_l0 [] 0 (w : Int) p.2.1 p.2.2 = _ from ht]
    simp only [Option.bind_some, List.nil_append, List.drop_zero]
    rw [← r3, txtI_rows w (by omega) R r2, ofInts_rows]
  · rw [e] at r1; simp at r1; omega
end Go.Proofs.YtopigbmamejklaaDoor
