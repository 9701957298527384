/-
  Patches as texts: rows of digits, each ended by a newline.
-/
import Derived.Test.YtopigbmamejklaaDoorPSp
import Derived.Test.YtopigbmamejklaaDoorP4
namespace Go.Proofs.YtopigbmamejklaaDoor
open Ai
set_option linter.unusedSimpArgs false
set_option linter.unusedVariables false
def isDig (b : UInt8) : Bool := decide (48 ≤ b.toNat) && decide (b.toNat ≤ 57)
def dz (b : UInt8) : Int := (b.toNat : Int) - 48
def bz (c : Int) : UInt8 := UInt8.ofNat (48 + c).toNat
theorem bz_dz (b : UInt8) : bz (dz b) = b := by
  unfold bz dz
  have e : (48 + ((b.toNat : Int) - 48)).toNat = b.toNat := by omega
  rw [e]
  exact UInt8.ofNat_toNat
theorem dz_bz {c : Int} (h0 : 0 ≤ c) (h9 : c ≤ 9) : dz (bz c) = c ∧ isDig (bz c) = true := by
  have key : ∀ k : Fin 10, dz (bz (k.val : Int)) = (k.val : Int) ∧ isDig (bz (k.val : Int)) = true := by decide +kernel
  have := key ⟨c.toNat, by omega⟩
  have e : ((c.toNat : Nat) : Int) = c := by omega
  simp only [e] at this
  exact this
theorem u8_small {z : Int} (h0 : 0 ≤ z) (h1 : z ≤ 255) : IntKind.u8.wrap z = z := by
  simp only [IntKind.wrap, IntKind.signed, IntKind.bits]
  simp
  omega
/-! ### The program's rows -/
theorem digits_loop (r : List UInt8) (hn : r.length ≤ 1048576) : ∀ (d k : Nat) (out : List Int), k + d = r.length → out.length ≤ k →
    impl_readDigits_l0 r out (r.length : Int) (k : Int) = some (if (r.drop k).all isDig = true then .inl (out ++ (r.drop k).map dz) else .inr false)
  | 0, k, out, hk, ho => by
    rw [impl_readDigits_l0_eq, decide_eq_false (by omega), List.drop_eq_nil_of_le (by omega)]
    simp
  | d + 1, k, out, hk, ho => by
    have hlt : k < r.length := by omega
    have ih := fun out ho => digits_loop r hn d (k + 1) out (by omega) ho
    rw [impl_readDigits_l0_eq, decide_eq_true (by omega), rd_lt hlt, List.drop_eq_getElem_cons hlt]
    simp only [cond_true, Option.bind_some, Option.bind_fun_some]
    rw [wnext hlt (by omega), List.all_cons, List.map_cons]
    by_cases h1 : ((r[k].toNat : Nat) : Int) < 48
    · rw [decide_eq_true h1, cond_true]
      have : isDig r[k] = false := by unfold isDig; rw [decide_eq_false (by omega)]; rfl
      rw [this]; rfl
    · rw [decide_eq_false h1, cond_false]
      by_cases h2 : (57 : Int) < ((r[k].toNat : Nat) : Int)
      · rw [decide_eq_true h2, cond_true]
        have : isDig r[k] = false := by unfold isDig; rw [decide_eq_false (p := r[k].toNat ≤ 57) (by omega), Bool.and_false]
        rw [this]; rfl
      · rw [decide_eq_false h2, cond_false]
        have hd : isDig r[k] = true := by unfold isDig; rw [decide_eq_true (by omega), decide_eq_true (by omega)]; rfl
        have e : IntKind.i64.wrap (IntKind.u8.wrap (((r[k].toNat : Nat) : Int) - 48)) = dz r[k] := by
          rw [u8_small (by omega) (by omega), w64 (by omega) (by omega)]; rfl
        rw [e, decide_eq_true (by unfold LIM; simp only [List.length_singleton]; omega), cond_true, ih _ (by rw [List.length_append]; simp only [List.length_singleton]; omega), hd, Bool.true_and]
        simp
theorem readDigits_v (r : List UInt8) (hn : r.length ≤ 1048576) : impl_readDigits r = some (if r.all isDig = true then (r.map dz, true) else ([], false)) := by
  have h := digits_loop r hn r.length 0 [] (by omega) (by simp)
  rw [impl_readDigits_eq, show impl_readDigits_l0 r [] (r.length : Int) 0 = _ from h]
  rw [List.drop_zero]
  split <;> rfl
def goodR (w : Nat) (r : List UInt8) : Bool := r.all isDig && decide (r.length = w)
theorem rows_loop (wh : Bool) (L : List (List UInt8)) (r0 : List UInt8) (L' : List (List UInt8)) (hL : L = r0 :: L') (hn : L.length ≤ 1048577) (hr : ∀ r ∈ L, r.length ≤ 1048576) : ∀ (d k : Nat) (acc : List (List Int)), k + d = L.length → acc.length ≤ k →
    impl_readRows_l0 wh L acc L (L.length : Int) (k : Int) = some (if (L.drop k).all (goodR r0.length) = true then .inl (wh, L, acc ++ (L.drop k).map (fun r => r.map dz)) else .inr (0, false))
  | 0, k, acc, hk, ho => by
    rw [impl_readRows_l0_eq, decide_eq_false (by omega), List.drop_eq_nil_of_le (by omega)]
    simp
  | d + 1, k, acc, hk, ho => by
    have hlt : k < L.length := by omega
    have ih := fun acc ho => rows_loop wh L r0 L' hL hn hr d (k + 1) acc (by omega) ho
    have h0 : rd L 0 = some r0 := by rw [hL]; rfl
    rw [impl_readRows_l0_eq, decide_eq_true (by omega), rd_lt hlt, List.drop_eq_getElem_cons hlt]
    simp only [cond_true, Option.bind_some, Option.bind_fun_some]
    rw [readDigits_v _ (hr _ (List.getElem_mem hlt)), wnext hlt (by omega), List.all_cons, List.map_cons, h0]
    cases hd : L[k].all isDig with
    | false =>
      have : goodR r0.length L[k] = false := by unfold goodR; rw [hd]; rfl
      rw [this]; rfl
    | true =>
      simp only [if_true, cond_true, Option.bind_some]
      by_cases hw : L[k].length = r0.length
      · have : goodR r0.length L[k] = true := by unfold goodR; rw [hd, decide_eq_true hw]; rfl
        rw [decide_eq_true (by rw [hw]), this, decide_eq_true (by unfold LIM; simp only [List.length_singleton]; omega)]
        simp only [Bool.not_true, cond_false, cond_true]
        rw [ih _ (by rw [List.length_append]; simp only [List.length_singleton]; omega), Bool.true_and]
        simp
      · have : goodR r0.length L[k] = false := by unfold goodR; rw [hd, decide_eq_false hw]; rfl
        rw [decide_eq_false (fun h => hw (by omega)), this]
        rfl
theorem concat_sum (R : List (List Int)) (hn : R.length ≤ 1048577) (hb : R.flatten.length ≤ 1048576) : ∀ (d k : Nat) (m : Int), k + d = R.length → m = ((R.take k).flatten.length : Int) →
    slices_Concat_Sint64_int64_l0 R m R (R.length : Int) (k : Int) = some (R, (R.flatten.length : Int))
  | 0, k, m, hk, hm => by
    rw [slices_Concat_Sint64_int64_l0_eq, decide_eq_false (by omega), hm, List.take_of_length_le (by omega)]
    rfl
  | d + 1, k, m, hk, hm => by
    have hlt : k < R.length := by omega
    have e : (R.take (k + 1)).flatten.length = (R.take k).flatten.length + R[k].length := by
      rw [List.take_add_one, List.getElem?_eq_getElem hlt, List.flatten_append, List.length_append]
      simp
    have hle : (R.take (k + 1)).flatten.length ≤ R.flatten.length := by
      conv => rhs; rw [← List.take_append_drop (k + 1) R, List.flatten_append, List.length_append]
      omega
    have hw : IntKind.i64.wrap (m + (R[k].length : Int)) = ((R.take (k + 1)).flatten.length : Int) := by
      rw [w64 (by omega) (by omega)]; omega
    rw [slices_Concat_Sint64_int64_l0_eq, decide_eq_true (by omega), rd_lt hlt]
    simp only [cond_true, Option.bind_some, Option.bind_fun_some]
    rw [wnext hlt (by omega), hw, decide_eq_false (by omega), cond_false]
    exact concat_sum R hn hb d (k + 1) _ (by omega) rfl
theorem concat_app (R : List (List Int)) (hn : R.length ≤ 1048577) (hb : R.flatten.length ≤ 1048576) : ∀ (d k : Nat), k + d = R.length →
    slices_Concat_Sint64_int64_l1 (R.take k).flatten R (R.length : Int) (k : Int) = some R.flatten
  | 0, k, hk => by
    rw [slices_Concat_Sint64_int64_l1_eq, decide_eq_false (by omega), List.take_of_length_le (by omega)]
    rfl
  | d + 1, k, hk => by
    have hlt : k < R.length := by omega
    have e : (R.take (k + 1)).flatten = (R.take k).flatten ++ R[k] := by
      rw [List.take_add_one, List.getElem?_eq_getElem hlt, List.flatten_append]
      simp
    have hle : (R.take (k + 1)).flatten.length ≤ R.flatten.length := by
      conv => rhs; rw [← List.take_append_drop (k + 1) R, List.flatten_append, List.length_append]
      omega
    rw [e, List.length_append] at hle
    rw [slices_Concat_Sint64_int64_l1_eq, decide_eq_true (by omega), rd_lt hlt]
    simp only [cond_true, Option.bind_some, Option.bind_fun_some]
    rw [wnext hlt (by omega), decide_eq_true (by unfold LIM; omega), cond_true, ← e]
    exact concat_app R hn hb d (k + 1) (by omega)
theorem concat_v (R : List (List Int)) (hn : R.length ≤ 1048577) (hb : R.flatten.length ≤ 1048576) : slices_Concat_Sint64_int64 R = some R.flatten := by
  have h1 := concat_sum R hn hb R.length 0 0 (by omega) rfl
  have h2 := concat_app R hn hb R.length 0 (by omega)
  have hg : groX (.i .i64) (R.flatten.length : Int) = some ([] : List Int) := by
    unfold groX
    rw [if_pos ⟨by omega, by omega⟩]
  rw [slices_Concat_Sint64_int64_eq, show slices_Concat_Sint64_int64_l0 R 0 R (R.length : Int) 0 = _ from h1]
  simp only [Option.bind_some, slices_Grow_Sint64_int64_ext]
  rw [hg]
  simp only [Option.bind_some]
  rw [show slices_Concat_Sint64_int64_l1 [] R (R.length : Int) 0 = _ from h2]
  rfl
/-! ### The newline at the end -/
theorem cut_last {s : List UInt8} (h : 0 < s.length) (hn : s.length ≤ 1048576) : cut (Int.toNat (IntKind.i64.wrap ((s.length : Int) - (([10] : List UInt8).length : Int)))) s.length s = [s[s.length - 1]] := by
  rw [w64 (by simp only [List.length_singleton]; omega) (by simp only [List.length_singleton]; omega)]
  have e : Int.toNat ((s.length : Int) - (([10] : List UInt8).length : Int)) = s.length - 1 := by simp only [List.length_singleton]; omega
  rw [e]
  unfold cut
  rw [List.take_length, List.drop_eq_getElem_cons (by omega), List.drop_eq_nil_of_le (by omega)]
theorem suffix_v (s : List UInt8) (hn : s.length ≤ 1048576) : (∃ t, s = t ++ [10] ∧ strings_CutSuffix s [10] = some (t, true)) ∨ ((∀ t, s ≠ t ++ [10]) ∧ strings_CutSuffix s [10] = some (s, false)) := by
  rw [strings_CutSuffix_eq, internal_stringslite_CutSuffix_eq, internal_stringslite_HasSuffix_eq]
  by_cases h0 : s = []
  · right
    subst h0
    refine ⟨fun t e => ?_, rfl⟩
    have := congrArg List.length e
    simp at this
  · have hpos : 0 < s.length := List.length_pos_iff.2 h0
    have hb : (decide (0 ≤ IntKind.i64.wrap ((s.length : Int) - (([10] : List UInt8).length : Int))) && decide (IntKind.i64.wrap ((s.length : Int) - (([10] : List UInt8).length : Int)) ≤ (s.length : Int))) = true := by
      rw [w64 (by simp only [List.length_singleton]; omega) (by simp only [List.length_singleton]; omega), Bool.and_eq_true, decide_eq_true_iff, decide_eq_true_iff]
      simp only [List.length_singleton]; omega
    rw [decide_eq_true (p := (([10] : List UInt8).length : Int) ≤ (s.length : Int)) (by simp only [List.length_singleton]; omega), hb, cut_last hpos hn]
    simp only [cond_true]
    by_cases hl : s[s.length - 1] = 10
    · left
      refine ⟨s.take (s.length - 1), ?_, ?_⟩
      · conv => lhs; rw [← List.take_append_drop (s.length - 1) s]
        rw [List.drop_eq_getElem_cons (by omega), List.drop_eq_nil_of_le (by omega), hl]
      · rw [decide_eq_true (by rw [hl])]
        have e : cut 0 (Int.toNat (IntKind.i64.wrap ((s.length : Int) - (([10] : List UInt8).length : Int)))) s = s.take (s.length - 1) := by
          rw [w64 (by simp only [List.length_singleton]; omega) (by simp only [List.length_singleton]; omega)]
          have e : Int.toNat ((s.length : Int) - (([10] : List UInt8).length : Int)) = s.length - 1 := by simp only [List.length_singleton]; omega
          rw [e]
          rfl
        simp only [cond_true, Option.bind_some]
        rw [e]
    · right
      refine ⟨fun t e => hl ?_, ?_⟩
      · subst e
        simp
      · rw [decide_eq_false fun e => hl (by simpa using e)]
        rfl
/-! ### The reference's cells -/
theorem line_loop (s : List UInt8) (lines : List (List UInt8)) {y : Nat} (hy : y < lines.length) (a b W H : Int) : ∀ (d x : Nat) (cs : List Int), x + d = lines[y].length → cs.length + d ≤ 2000000 → lines[y].length ≤ 1048576 →
    spec_ParsePatch_l1 s lines (y : Int) (x : Int) a b W H cs = some (s, lines, (y : Int), a, b, W, H, cs ++ (lines[y].drop x).map dz)
  | 0, x, cs, hx, hc, hl => by
    rw [spec_ParsePatch_l1_eq, inb hy, gd hy, decide_eq_false (by omega), List.drop_eq_nil_of_le (by omega)]
    simp
  | d + 1, x, cs, hx, hc, hl => by
    have hlt : x < lines[y].length := by omega
    have e : IntKind.i64.wrap (IntKind.i64.wrap ((lines[y][x].toNat : Nat) : Int) - 48) = dz lines[y][x] := by
      have := UInt8.toNat_lt lines[y][x]
      rw [w64 (x := ((lines[y][x].toNat : Nat) : Int)) (by omega) (by omega), w64 (by omega) (by omega)]; rfl
    rw [spec_ParsePatch_l1_eq, inb hy, gd hy, decide_eq_true (p := (x : Int) < (lines[y].length : Int)) (by omega), rd_lt hlt, List.drop_eq_getElem_cons hlt]
    simp only [cond_true, Option.bind_some, Option.bind_fun_some]
    rw [e, wnext hlt (by omega), decide_eq_true (by unfold LIM; simp only [List.length_singleton]; omega), cond_true, line_loop s lines hy a b W H d (x + 1) _ (by omega) (by rw [List.length_append]; simp only [List.length_singleton]; omega) hl, List.append_assoc]
    rfl
def lastW (W : Int) (L : List (List UInt8)) : Int := L.foldl (fun _ r => (r.length : Int)) W
theorem lines_loop (s : List UInt8) (lines : List (List UInt8)) (hn : lines.length ≤ 1048577) (hr : ∀ r ∈ lines, r.length ≤ 1048576) (a b H : Int) : ∀ (d y : Nat) (W : Int) (cs : List Int), y + d + 1 = lines.length → cs.length + (lines.drop y).flatten.length ≤ 1048576 →
    spec_ParsePatch_l0 s lines (y : Int) a b W H cs = some (s, a, b, lastW W (lines.dropLast.drop y), H, cs ++ ((lines.dropLast.drop y).flatten).map dz)
  | 0, y, W, cs, hy, hc => by
    rw [spec_ParsePatch_l0_eq, w64 (by omega) (by omega), decide_eq_false (by omega), List.drop_eq_nil_of_le (by rw [List.length_dropLast]; omega)]
    simp [lastW]
  | d + 1, y, W, cs, hy, hc => by
    have hlt : y < lines.length := by omega
    have hlt2 : y < lines.dropLast.length := by rw [List.length_dropLast]; omega
    have hg : lines.dropLast[y] = lines[y] := List.getElem_dropLast hlt2
    rw [List.drop_eq_getElem_cons hlt, List.flatten_cons, List.length_append] at hc
    have hl := hr _ (List.getElem_mem hlt)
    rw [spec_ParsePatch_l0_eq, w64 (x := (y : Int) + 1) (by omega) (by omega), decide_eq_true (by omega), inb hlt, gd hlt]
    simp only [cond_true, Option.bind_fun_some]
    rw [show (0 : Int) = ((0 : Nat) : Int) from rfl, line_loop s lines hlt a b _ H lines[y].length 0 cs (by omega) (by omega) hl]
    simp only [Option.bind_some, List.drop_zero]
    rw [wnext hlt (by omega), lines_loop s lines hn hr a b H d (y + 1) _ _ (by omega) (by rw [List.length_append, List.length_map]; omega), List.drop_eq_getElem_cons hlt2, hg]
    simp [lastW]
/-! ### The reference's text of a patch -/
def txtI (w : Nat) : Nat → List Int → List Int
  | _, [] => []
  | j, c :: cs => (48 + c) :: (if j + 1 = w then 10 :: txtI w 0 cs else txtI w (j + 1) cs)
theorem txt_loop (w : Nat) (hw : 1 ≤ w ∧ w ≤ 16) (h : Int) (cs : List Int) (h9 : ∀ c ∈ cs, 0 ≤ c ∧ c ≤ 9) (hn : cs.length ≤ 1000) : ∀ (d k q j : Nat) (out : List Int), k + d = cs.length → k = q * w + j → j < w → out.length ≤ 2 * k →
    spec_l20Text_l0 out (k : Int) (w : Int) h cs = some (out ++ txtI w j (cs.drop k))
  | 0, k, q, j, out, hk, hq, hj, ho => by
    rw [spec_l20Text_l0_eq, decide_eq_false (by omega), List.drop_eq_nil_of_le (by omega)]
    simp [txtI]
  | d + 1, k, q, j, out, hk, hq, hj, ho => by
    have hlt : k < cs.length := by omega
    obtain ⟨c0, c9⟩ := h9 _ (List.getElem_mem hlt)
    have e : IntKind.u8.wrap (IntKind.i64.wrap (48 + cs[k])) = 48 + cs[k] := by rw [w64 (by omega) (by omega), u8_small (by omega) (by omega)]
    have hm : Int.tmod (k : Int) (w : Int) = (j : Int) := by
      rw [Int.tmod_eq_emod_of_nonneg (by omega), ← Int.natCast_emod]
      congr 1
      rw [hq, Nat.mul_comm, Nat.mul_add_mod, Nat.mod_eq_of_lt hj]
    rw [spec_l20Text_l0_eq, decide_eq_true (by omega), rd_lt hlt, List.drop_eq_getElem_cons hlt]
    simp only [cond_true, Option.bind_some, Option.bind_fun_some]
    rw [e, decide_eq_true (by unfold LIM; simp only [List.length_singleton]; omega), decide_eq_false (p := (w : Int) = 0) (by omega), hm, w64 (x := (w : Int) - 1) (by omega) (by omega), wnext hlt (by omega)]
    simp only [cond_true, cond_false]
    by_cases hj1 : j + 1 = w
    · rw [decide_eq_true (by omega), decide_eq_true (by unfold LIM; simp only [List.length_append, List.length_singleton]; omega)]
      simp only [cond_true]
      rw [txt_loop w hw h cs h9 hn d (k + 1) (q + 1) 0 _ (by omega) (by rw [Nat.add_mul]; omega) (by omega) (by simp only [List.length_append, List.length_singleton]; omega)]
      simp [txtI, hj1]
    · rw [decide_eq_false (by omega)]
      simp only [cond_false]
      rw [txt_loop w hw h cs h9 hn d (k + 1) q (j + 1) _ (by omega) (by omega) (by omega) (by simp only [List.length_append, List.length_singleton]; omega)]
      simp [txtI, hj1]
theorem txtI_row (w : Nat) (rest : List Int) : ∀ (r : List Int) (j : Nat), r ≠ [] → j + r.length = w → txtI w j (r ++ rest) = r.map (48 + ·) ++ 10 :: txtI w 0 rest
  | [], _, h, _ => (h rfl).elim
  | [c], j, _, h => by
    simp only [List.length_singleton] at h
    simp [txtI, h]
  | c :: c' :: r, j, _, h => by
    simp only [List.length_cons] at h
    have ih := txtI_row w rest (c' :: r) (j + 1) (by simp) (by simp only [List.length_cons]; omega)
    have hne : ¬ j + 1 = w := by omega
    rw [List.cons_append, txtI, if_neg hne, ih]
    rfl
theorem txtI_rows (w : Nat) (hw : 1 ≤ w) : ∀ R : List (List Int), (∀ r ∈ R, r.length = w) → txtI w 0 R.flatten = R.flatMap fun r => r.map (48 + ·) ++ [10]
  | [], _ => rfl
  | r :: R, h => by
    have h1 := h r (List.mem_cons_self ..)
    rw [List.flatten_cons, txtI_row w _ r 0 (fun e => by rw [e] at h1; simp at h1; omega) (by omega), txtI_rows w hw R fun q hq => h q (List.mem_cons_of_mem _ hq)]
    simp
theorem ofInts_rows (R : List (List Int)) : ofInts (R.flatMap fun r => r.map (48 + ·) ++ [10]) = (R.map fun r => r.map bz).flatMap fun r => r ++ [10] := by
  unfold ofInts
  rw [List.map_flatMap, List.flatMap_map]
  congr 1
  funext r
  rw [List.map_append, List.map_map]
  rfl
theorem rows_of (w : Nat) : ∀ (H : Nat) (cs : List Int), cs.length = w * H → ∃ R : List (List Int), R.length = H ∧ (∀ r ∈ R, r.length = w) ∧ R.flatten = cs
  | 0, cs, h => ⟨[], rfl, by simp, by rw [List.length_eq_zero_iff.1 (by omega : cs.length = 0)]; rfl⟩
  | H + 1, cs, h => by
    rw [Nat.mul_succ] at h
    obtain ⟨R, h1, h2, h3⟩ := rows_of w H (cs.drop w) (by rw [List.length_drop]; omega)
    refine ⟨cs.take w :: R, by simp [h1], fun r hr => ?_, by rw [List.flatten_cons, h3, List.take_append_drop]⟩
    rcases List.mem_cons.1 hr with rfl | hr
    · rw [List.length_take]; omega
    · exact h2 r hr
theorem isPatch_iff {p : Patch} : isPatch p = true ↔ (1 ≤ p.1 ∧ p.1 ≤ 16) ∧ (1 ≤ p.2.1 ∧ p.2.1 ≤ 16) ∧ (p.2.2.length : Int) = p.1 * p.2.1 ∧ ∀ c ∈ p.2.2, 0 ≤ c ∧ c ≤ 9 := by
  unfold isPatch
  rw [Bool.and_eq_true, Bool.and_eq_true, Bool.and_eq_true, within_iff, within_iff, decide_eq_true_iff, List.all_eq_true]
  constructor
  · rintro ⟨⟨⟨a, b⟩, c⟩, d⟩
    exact ⟨a, b, c, fun x hx => within_iff.1 (d x hx)⟩
  · rintro ⟨a, b, c, d⟩
    exact ⟨⟨⟨a, b⟩, c⟩, fun x hx => within_iff.2 (d x hx)⟩
theorem text_v {p : Patch} (hp : isPatch p = true) : ∃ R : List (List Int), spec_l20Text p = some ((R.map fun r => r.map bz).flatMap fun r => r ++ [10]) ∧ R ≠ [] ∧ (∀ r ∈ R, (r.length : Int) = p.1) ∧ R.flatten = p.2.2 := by
  obtain ⟨⟨w1, w2⟩, ⟨h1, h2⟩, hl, h9⟩ := isPatch_iff.1 hp
  obtain ⟨w, hw⟩ : ∃ w : Nat, p.1 = w := ⟨p.1.toNat, by omega⟩
  obtain ⟨H, hH⟩ : ∃ H : Nat, p.2.1 = H := ⟨p.2.1.toNat, by omega⟩
  have hl' : p.2.2.length = w * H := by rw [hw, hH] at hl; exact_mod_cast hl
  have hb : w * H ≤ 16 * 16 := Nat.mul_le_mul (by omega) (by omega)
  obtain ⟨R, r1, r2, r3⟩ := rows_of w H p.2.2 hl'
  have ht := txt_loop w (by omega) p.2.1 p.2.2 h9 (by omega) p.2.2.length 0 0 0 [] (by omega) (by omega) (by omega) (by simp)
  refine ⟨R, ?_, fun e => ?_, fun r hr => by rw [r2 r hr, hw], r3⟩
  · rw [spec_l20Text_eq, hw, show spec_l20Text_l0 [] 0 (w : Int) p.2.1 p.2.2 = _ from ht]
    simp only [Option.bind_some, List.nil_append, List.drop_zero]
    rw [← r3, txtI_rows w (by omega) R r2, ofInts_rows]
  · rw [e] at r1; simp at r1; omega
end Go.Proofs.YtopigbmamejklaaDoor
