/-
  Marks in the numbers of a slice, and marks that are still held: laws.markInt64S, laws.heldInt64S by a walk.
-/
import Derived.Test.YtpboclokodgnlaaGreatA40
import Derived.LoopTactic
namespace Go.Proofs.YtpboclokodgnlaaGreat
namespace Ai
open Go.Shelf Go.RowKit Go.Lib
set_option linter.unusedSimpArgs false
set_option linter.unusedVariables false

attribute [local go_sem] Oper.semAt_some

/-- Consecutive numbers. -/
def iota (k : Int) (n : Nat) : List Int := (List.range n).map fun i : Nat => k + (i : Int)

theorem iota_len (k : Int) (n : Nat) : (iota k n).length = n := by simp [iota]

theorem iota_at (k : Int) {n i : Nat} (h : i < n) : (iota k n)[i]? = some (k + (i : Int)) := by simp [iota, h]

theorem iota_succ (k : Int) (n : Nat) : iota k (n + 1) = iota k n ++ [k + (n : Int)] := by simp [iota, List.range_succ]

theorem grown_trans {A B C : World} {r : Option Nat} (h : A.grownBy B r) (k : B.grownBy C r) : A.grownBy C r :=
  ⟨k.os.trans h.os, k.tape.trans h.tape, k.output.trans h.output, Nat.le_trans h.size k.size, fun b hb hr => (k.block b (Nat.lt_of_lt_of_le hb h.size) hr).trans (h.block b hb hr)⟩

theorem grown_refl (A : World) (r : Option Nat) : A.grownBy A r := ⟨rfl, rfl, rfl, Nat.le_refl _, fun _ _ _ => rfl⟩

theorem grown_set (A : World) (b j : Nat) (v : Value) : A.grownBy (A.setCell ⟨b, j, none⟩ v) (some b) :=
  ⟨rfl, rfl, rfl, by simp, fun k _ hr => Below.heap_setCell _ _ _ _ (fun e => hr (congrArg some e))⟩

theorem Holds.set0 {b : Nat} {t : TypeId} {sz : Nat} {xs : List Int} {W : World} (h : Holds b 0 t sz xs W) {i : Nat} (hi : i < xs.length) (y : Int) : Holds b 0 t sz (xs.set i y) (W.setCell ⟨b, i, none⟩ (.int .i64 y)) := by
  have := h.set hi y
  rwa [Nat.zero_add] at this

theorem Holds.cell0 {b : Nat} {t : TypeId} {sz : Nat} {xs : List Int} {W : World} (h : Holds b 0 t sz xs W) {i : Nat} {x : Int} (hx : xs[i]? = some x) : W.cell? ⟨b, i, none⟩ = some (.int .i64 x) := by
  have := h.cell hx
  rwa [Nat.zero_add] at this

set_option maxRecDepth 100000 in
set_option maxHeartbeats 4000000 in
theorem mark_int (W : World) {b sz cap : Nat} {t : TypeId} {xs : List Int} {k : Int} (hb : Holds b 0 t sz xs W) (hk : 0 ≤ k) (hn : xs.length ≤ 4194304) (hk2 : k ≤ 1152921504606846976) :
    Calls Tryz.prog 29 #[.slice (some ⟨b, 0, none⟩) xs.length cap, .int .i64 k] W fun e w' => e = .returned (.int .i64 (k + (xs.length : Int))) ∧ Holds b 0 t sz (iota k xs.length) w' ∧ W.grownBy w' (some b) := by
  go_enter Tryz.func29, Tryz.ntmps29
  go_wp2
  obtain ⟨len, hlen⟩ : ∃ len, xs.length = len := ⟨_, rfl⟩
  rw [hlen] at hn
  rw [hlen]
  go_loopw [1, 5] (fun kk i wr => ∃ (n : Nat) (ys : List Int), n ≤ len ∧ kk = .int .i64 (k + (n : Int)) ∧ i = .int .i64 (n : Int) ∧ ys.length = len ∧ ys.take n = iota k n ∧ Holds b 0 t sz ys wr ∧ W.grownBy wr (some b))
    (fun _ i _ => len - (intOf i).toNat)
  case atStart => exact ⟨0, xs, Nat.zero_le _, by simp, rfl, hlen, rfl, hb, grown_refl _ _⟩
  case round =>
    obtain ⟨n, ys, hle, rfl, rfl, hyl, hyt, hH, hG⟩ := hrel
    by_cases hnl : n < len
    · have c1 := hH.cell0 (List.getElem?_eq_getElem (show n < ys.length by omega))
      have f1 := hH.frozen n
      go_wp2
      go_roundw
      case rel =>
        refine ⟨n + 1, ys.set n (k + (n : Int)), by omega, ?_, by go_num, by simp [hyl], ?_, hH.set0 (by omega) _, grown_trans hG (grown_set _ _ _ _)⟩
        · go_num
        · rw [iota_succ, ← hyt, List.take_add_one, List.take_set_of_le (Nat.le_refl _), List.getElem?_set_self (by omega)]
          rfl
      case measure => simp [intOf]; omega
    · have e : n = len := by omega
      subst e
      rw [List.take_of_length_le (by omega)] at hyt
      go_wp2
      go_ret
      rw [hlen, ← hyt]
      exact ⟨rfl, hH, hG⟩

set_option maxRecDepth 100000 in
set_option maxHeartbeats 4000000 in
theorem held_int (W : World) {b sz cap len : Nat} {t : TypeId} {k : Int} (hb : Holds b 0 t sz (iota k len) W) (hk : 0 ≤ k) (hn : len ≤ 4194304) (hk2 : k ≤ 1152921504606846976) :
    Calls Tryz.prog 30 #[.slice (some ⟨b, 0, none⟩) len cap, .int .i64 k] W fun e w' => e = .returned (.int .i64 (k + (len : Int))) ∧ w' = W := by
  go_enter Tryz.func30, Tryz.ntmps30
  go_wp2
  go_loopw [1, 5] (fun kk i wr => ∃ (n : Nat), n ≤ len ∧ kk = .int .i64 (k + (n : Int)) ∧ i = .int .i64 (n : Int) ∧ wr = W)
    (fun _ i _ => len - (intOf i).toNat)
  case atStart => exact ⟨0, Nat.zero_le _, by simp, rfl, rfl⟩
  case round =>
    obtain ⟨n, hle, rfl, rfl, rfl⟩ := hrel
    by_cases hnl : n < len
    · have c1 := hb.cell0 (iota_at k hnl)
      go_wp2
      go_roundw
      case rel =>
        refine ⟨n + 1, by omega, ?_, by go_num, by trivial⟩
        · go_num
      case measure => simp [intOf]; omega
    · have e : n = len := by omega
      subst e
      go_wp2
      go_ret
      exact ⟨rfl, rfl⟩

end Ai
end Go.Proofs.YtpboclokodgnlaaGreat
