/-
  Plain meanings: tiles at home.
-/
import Derived.Test.YtahkbhmhaddbpaaPShift
namespace Go.Proofs.Ytahkbhmhaddbpaa
open Ai
set_option linter.unusedSimpArgs false
set_option linter.unusedVariables false
set_option linter.unnecessarySimpa false

theorem spec_l01Scale_v (v : V) (n : Int) : spec_l01Scale v n = some (IntKind.i64.wrap (n * v.1), IntKind.i64.wrap (n * v.2)) := spec_l01Scale_eq v n
theorem impl_Vec_times_v (v : V) (n : Int) : impl_Vec_times v n = some (IntKind.i64.wrap (n * v.1), IntKind.i64.wrap (n * v.2)) := impl_Vec_times_eq v n

def low2 (s : V) (v : V) : V := (min s.1 v.1, min s.2 v.2)

theorem upTo_head : ∀ (xs : List V) (x : V), upTo (x :: xs) = true → ∀ y ∈ xs, x.1 ≤ y.1
  | [], _, _, y, h => by cases h
  | z :: r, x, hu, y, hy => by
    have h1 : vless x z = true ∧ upTo (z :: r) = true := by
      have : (vless x z && upTo (z :: r)) = true := hu
      simpa using this
    have hxz : x.1 ≤ z.1 := by
      have := h1.1
      simp only [vless, Bool.or_eq_true, Bool.and_eq_true, decide_eq_true_eq] at this
      omega
    rcases List.mem_cons.1 hy with rfl | hy
    · exact hxz
    · exact Int.le_trans hxz (upTo_head r z h1.2 y hy)

theorem low_fold : ∀ (xs : List V) (s : V), (∀ y ∈ xs, s.1 ≤ y.1) → xs.foldl low2 s = (s.1, xs.foldl (fun m v => min m v.2) s.2)
  | [], s, _ => rfl
  | x :: r, s, h => by
    have h1 : low2 s x = (s.1, min s.2 x.2) := by
      unfold low2
      rw [Int.min_eq_left (h x (List.mem_cons_self ..))]
    rw [List.foldl_cons, h1, low_fold r (s.1, min s.2 x.2) fun y hy => h y (List.mem_cons_of_mem _ hy)]
    rfl

theorem foldl_snd : ∀ (xs : List V) (a b : Int), xs.foldl (fun (s : V) v => (s.1, min s.2 v.2)) (a, b) = (a, xs.foldl (fun m v => min m v.2) b)
  | [], _, _ => rfl
  | x :: r, a, b => by rw [List.foldl_cons, List.foldl_cons]; exact foldl_snd r a (min b x.2)

theorem spec_low (x : V) (xs : List V) (h : (x :: xs).length ≤ 1048576) : ∀ (m k : Nat) (s : V), k + m = xs.length → spec_l21Home_l0 (x :: xs) ((k + 1 : Nat) : Int) s.1 s.2 = some (x :: xs, (xs.drop k).foldl low2 s)
  | 0, k, s, hk => by
    rw [spec_l21Home_l0_eq, decide_eq_false (by simp; omega), List.drop_eq_nil_of_le (by omega)]; rfl
  | m + 1, k, s, hk => by
    have h1 : k + 1 < (x :: xs).length := by simp; omega
    have h2 : k < xs.length := by omega
    rw [spec_l21Home_l0_eq, decide_eq_true (by omega), rd_lt h1]
    simp only [cond_true, Option.bind_some, Option.bind_fun_some, List.getElem_cons_succ]
    rw [wnext h1 (leM h), List.drop_eq_getElem_cons h2, List.foldl_cons]
    exact spec_low x xs h m (k + 1) (low2 s xs[k]) (by omega)

theorem impl_low (xs : List V) (h : xs.length ≤ 1048576) (s : V) : impl_homeTile_l0 xs xs (xs.length : Int) 0 s.1 s.2 = some (xs, xs.foldl (fun (s : V) v => (s.1, min s.2 v.2)) s) := by
  obtain ⟨h1, _⟩ := each_loop (L := fun (s : V) k => impl_homeTile_l0 xs xs (xs.length : Int) k s.1 s.2) (xs := xs) (f := fun (s : V) v => (s.1, min s.2 v.2)) (I := fun _ _ => True) (leM h) (fun k hk s _ => by
    refine ⟨?_, trivial⟩
    show impl_homeTile_l0 xs xs _ k s.1 s.2 = _
    rw [impl_homeTile_l0_eq, decide_eq_true (by omega), rd_lt hk]
    simp only [cond_true, Option.bind_some, Option.bind_fun_some]) s trivial
  have h2 : impl_homeTile_l0 xs xs (xs.length : Int) 0 s.1 s.2 = _ := h1
  rw [h2]
  show impl_homeTile_l0 xs xs (xs.length : Int) (xs.length : Int) _ _ = _
  rw [impl_homeTile_l0_eq, decide_eq_false (by omega)]
  rfl

theorem home_up (xs : List V) (hu : upTo xs = true) (h1 : 1 ≤ xs.length) (h16 : xs.length ≤ 1000) : ∃ v, spec_l21Home xs = some (xs.map (wadd · v)) ∧ impl_homeTile xs = some (xs.map (wadd · v)) := by
  match xs, hu, h1, h16 with
  | x :: r, hu, _, h16 =>
    have hl : (x :: r).length ≤ 1048576 := by omega
    rw [spec_l21Home_eq, impl_homeTile_eq, show (0 : Int) = ((0 : Nat) : Int) from rfl, rd_lt (show 0 < (x :: r).length by simp)]
    simp only [List.getElem_cons_zero, Option.bind_some]
    have e1 := spec_low x r hl r.length 0 x (by omega)
    rw [show ((0 + 1 : Nat) : Int) = 1 from rfl, List.drop_zero] at e1
    have e2 := impl_low (x :: r) hl x
    rw [show ((0 : Nat) : Int) = 0 from rfl, e1, e2]
    simp only [Option.bind_some, spec_l01Scale_v, impl_Vec_times_v, spec_l21Shift_v _ _ hl, impl_shiftTile_v _ _ hl]
    have e3 : r.foldl low2 x = (x :: r).foldl (fun (s : V) v => (s.1, min s.2 v.2)) x := by
      rw [low_fold r x (upTo_head r x hu), List.foldl_cons, Int.min_self]
      exact (foldl_snd r x.1 x.2).symm
    rw [e3]
    exact ⟨_, rfl, rfl⟩

theorem home_both (xs : List V) (ht : isTile xs = true) : ∃ v, spec_l21Home xs = some (xs.map (wadd · v)) ∧ impl_homeTile xs = some (xs.map (wadd · v)) := by
  simp only [isTile, Bool.and_eq_true, decide_eq_true_eq] at ht
  obtain ⟨⟨⟨_, hu⟩, h1⟩, h16⟩ := ht
  exact home_up xs hu h1 (by omega)

end Go.Proofs.Ytahkbhmhaddbpaa
