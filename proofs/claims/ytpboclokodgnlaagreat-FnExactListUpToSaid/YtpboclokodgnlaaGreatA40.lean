/-
  The ideal interpreter against the machine: this program's loop 'for i := range slices.Backward(p.Colours)' of impl.ListUpTo, by a walk.
-/
import Derived.Test.YtpboclokodgnlaaGreatA30
import Derived.Test.YtpboclokodgnlaaGreatProg
import Derived.KernelRfl
import Derived.RangeFuncBox
import Derived.Shelf.RegionOpen
import Derived.RangeFuncCalls
import Derived.RangeFuncLeaves
import Derived.Shelf.Abstract
import Derived.WalkKit
import Derived.OwnWalkIn
import Derived.TacticsInMore
import Derived.LoopNIn
import Derived.LoopIn
namespace Go.Proofs.YtpboclokodgnlaaGreat
namespace Ai
open Go.Shelf Go.RowKit Go.Lib
set_option linter.unusedSimpArgs false
set_option linter.unusedVariables false

attribute [local go_sem] Oper.semAt_some

/-! ### slices.Backward -/

set_option maxHeartbeats 1000000 in
theorem back_in (F : Fence) (n : Nat) (hF : F.fn 25) (hro : F.round = none) (a : Option Addr) (len cap : Nat) (w : World) :
    CallsIn F n Tryz.prog 25 #[.slice a len cap] w fun e w' => e = .returned (.func (.func 47) #[] #[.pointer (some ⟨w.heap.size, 0, none⟩)]) ∧ w' = w.alloc (.cells #[.slice a len cap] 43) := by
  refine callsIn_of_wp Tryz.func25 rfl hF ?_ hro
  simp only [Tryz.ntmps25, List.size_toArray, List.length_cons, List.length_nil, Nat.reduceAdd, Nat.reduceSub, Array.replicate_succ, Array.replicate_zero, List.push_toArray, List.append_toArray, List.nil_append, List.cons_append]
  gi_wp2
  go_ret
  exact ⟨rfl, rfl⟩

/-- A box stays as it is, and some cells go on holding numbers. -/
def KpB (Bs b o H : Nat) (W W' : World) : Prop := W'.heap[Bs]? = W.heap[Bs]? ∧ ((∀ j, j < H → ∃ v, W.cell? ⟨b, o + j, none⟩ = some (.int .i64 v)) → ∀ j, j < H → ∃ v, W'.cell? ⟨b, o + j, none⟩ = some (.int .i64 v))

theorem KpB.trans {Bs b o H : Nat} {A B C : World} (h : KpB Bs b o H A B) (k : KpB Bs b o H B C) : KpB Bs b o H A C := ⟨k.1.trans h.1, fun hh => k.2 (h.2 hh)⟩

theorem KpB.put {Bs b o H : Nat} {w : World} (hx : Bs < w.heap.size) (hy : b < w.heap.size) (W : World) (l : Nat) (ob o' : Obj) (hl : w.heap.size ≤ l) (_ : W.heap[l]? = some ob) (_ : ob.isCells = false) (_ : ob.isWalk = false) : KpB Bs b o H W (W.putObj l o') :=
  ⟨World.putObj_heap_other (by omega), fun hh j hj => by
    obtain ⟨v, hv⟩ := hh j hj
    exact ⟨v, by rw [World.cell?_of_block (w := W) (World.putObj_heap_other (show b ≠ l by omega))]; exact hv⟩⟩

set_option maxRecDepth 100000 in
set_option maxHeartbeats 4000000 in
theorem back1_in (n : Nat) (hn : 1 ≤ n) (l Bs b o cap H : Nat) (hH : H ≤ 4194304) (hcap : H ≤ cap) (J Jx : List (Fin H × Int) → World → Prop)
    (hY : ∀ pre x W, J pre W → pre.length < H → YieldAt Fence.wide (n - 1) Tryz.prog l #[.int .i64 (x.1.1 : Int), .int .i64 x.2] W fun e W' =>
      (e = .returned (.bool true) ∧ J (pre ++ [x]) W' ∧ KpB Bs b o H W W') ∨ (e = .returned (.bool false) ∧ Jx (pre ++ [x]) W'))
    (W : World) (hBs : W.cell? ⟨Bs, 0, none⟩ = some (.slice (some ⟨b, o, none⟩) H cap)) (hcs : ∀ j, j < H → ∃ v, W.cell? ⟨b, o + j, none⟩ = some (.int .i64 v)) (h0 : J [] W) :
    CallsIn Fence.wide n Tryz.prog 47 #[.func (.yield l) #[] #[], .pointer (some ⟨Bs, 0, none⟩)] W fun e W' => (∃ v, e = .returned v) ∧
      ((∃ ys : List (Fin H × Int), ys.map (fun x => x.1.1) = (List.range H).reverse ∧ J ys W') ∨ (∃ pre, True ∧ Jx pre W')) := by
  refine callsIn_of_wp Tryz.func47 rfl trivial ?_ rfl
  simp only [Tryz.ntmps47, List.size_toArray, List.length_cons, List.length_nil, Nat.reduceAdd, Nat.reduceSub, Array.replicate_succ, Array.replicate_zero, List.push_toArray, List.append_toArray, List.nil_append, List.cons_append]
  gi_wp2
  gi_loopw [3] (fun i wr => ∃ k : Nat, k ≤ H ∧ i = .int .i64 ((k : Int) - 1) ∧ (∃ pre : List (Fin H × Int), pre.map (fun x => x.1.1) = ((List.range H).drop k).reverse ∧ J pre wr) ∧ KpB Bs b o H W wr)
    (fun i _ => (Go.RowKit.intOf i + 1).toNat)
  case atStart =>
    refine ⟨H, Nat.le_refl _, by first | rfl | simp, ⟨[], by simp, h0⟩, rfl, fun h => h⟩
  case round =>
    obtain ⟨k, hk, rfl, ⟨pre, hpre, hJs⟩, hnx⟩ := hrel
    have hBs' := (World.cell?_of_block (w := W) (a := ⟨Bs, 0, none⟩) hnx.1).trans hBs
    have hcs' := hnx.2 hcs
    cases k with
    | zero =>
      gi_wp2
      go_end0
      exact ⟨⟨_, rfl⟩, .inl ⟨pre, by simpa using hpre, hJs⟩⟩
    | succ k =>
      obtain ⟨v, hv⟩ := hcs' k (by omega)
      have hlen : pre.length < H := by
        have := congrArg List.length hpre
        simp only [List.length_map, List.length_reverse, List.length_drop, List.length_range] at this
        omega
      obtain ⟨fn, tmps, assign, body, hy, hR⟩ := hY pre (⟨k, by omega⟩, v) wr hJs hlen
      dsimp only at hy
      have e1 : (((k + 1 : Nat) : Int) - 1) = (k : Int) := by omega
      rw [e1]
      gi_wp2
      refine hR.mono ?_
      rintro e W3 (⟨rfl, hJ3, hk3⟩ | ⟨rfl, hJx3⟩)
      · have hn3 : KpB Bs b o H W W3 := hnx.trans hk3
        gi_wp2
        go_roundw
        case rel =>
          refine ⟨k, by omega, rfl, ⟨pre ++ [(⟨k, by omega⟩, v)], ?_, hJ3⟩, hn3⟩
          rw [List.map_append, hpre, List.map_singleton]
          have e2 : (List.range H).drop k = k :: (List.range H).drop (k + 1) := by
            rw [List.drop_eq_getElem_cons (by rw [List.length_range]; omega), List.getElem_range]
          rw [e2, List.reverse_cons]
        case measure => simp [Go.RowKit.intOf]
      · gi_wp2
        refine bodyPost_ret (results_none rfl _ _ _) rfl ?_
        exact ⟨⟨_, rfl⟩, .inr ⟨_, trivial, hJx3⟩⟩

theorem back_stops (n : Nat) (hn : 1 ≤ n) (Bs b o cap H : Nat) (hH : H ≤ 4194304) (hcap : H ≤ cap) (w : World) (hBs0 : Bs < w.heap.size) (hb0 : b < w.heap.size)
    (hBs : w.cell? ⟨Bs, 0, none⟩ = some (.slice (some ⟨b, o, none⟩) H cap)) (hcs : ∀ j, j < H → ∃ v, w.cell? ⟨b, o + j, none⟩ = some (.int .i64 v)) :
    SeqStopsK Fence.wide n Tryz.prog 47 #[.pointer (some ⟨Bs, 0, none⟩)] (fun x : Fin H × Int => #[.int .i64 (x.1.1 : Int), .int .i64 x.2]) (KpB Bs b o H) (fun ys => ys.map (fun x => x.1.1) = (List.range H).reverse) (fun _ => True) H w := fun l J Jx W hW hJ _ hY h0 =>
  back1_in n hn l Bs b o cap H hH hcap J Jx hY W ((hW.cell (p := ⟨Bs, 0, none⟩) hBs0).trans hBs) (fun j hj => by
    obtain ⟨v, hv⟩ := hcs j hj
    exact ⟨v, (hW.cell (p := ⟨b, o + j, none⟩) hb0).trans hv⟩) h0

/-! ### What the loop leaves in memory -/

/-- One digit. -/
def digS (k : Int) (s : List Int × Int) (i : Nat) : List Int × Int := (s.1.set i (Int.tmod s.2 k), IntKind.i64.wrap (Int.tdiv s.2 k))

/-- All digits, from the last. -/
def digX (k n : Int) (xs : List Int) : List Int × Int := (List.range xs.length).reverse.foldl (digS k) (xs, n)

theorem dig_len (k : Int) : ∀ (is : List Nat) (s : List Int × Int), (is.foldl (digS k) s).1.length = s.1.length
  | [], _ => rfl
  | i :: is, s => by
    rw [List.foldl_cons, dig_len k is]
    simp [digS]

theorem heap_setCell_same {W : World} {b off : Nat} {v : Value} {arr : Array Value} {t : TypeId} {q : Nat × Nat} (h : W.heap[b]? = some (.cells arr t q)) : (W.setCell ⟨b, off, none⟩ v).heap[b]? = some (.cells (arr.setIfInBounds off v) t q) := by
  simp only [World.setCell, Array.getElem?_modify]
  simp [h]

/-- The numbers in a block. -/
def Holds (b o : Nat) (t : TypeId) (sz : Nat) (xs : List Int) (W : World) : Prop := ∃ arr, W.heap[b]? = some (.cells arr t (0, 0)) ∧ arr.size = sz ∧ ∀ (i : Nat) (x : Int), xs[i]? = some x → arr[o + i]? = some (.int .i64 x)

theorem Holds.cell {b o : Nat} {t : TypeId} {sz : Nat} {xs : List Int} {W : World} (h : Holds b o t sz xs W) {i : Nat} {x : Int} (hx : xs[i]? = some x) : W.cell? ⟨b, o + i, none⟩ = some (.int .i64 x) := by
  obtain ⟨arr, h1, _, h3⟩ := h
  unfold World.cell?
  simp only [h1]
  exact h3 i x hx

theorem Holds.frozen {b o : Nat} {t : TypeId} {sz : Nat} {xs : List Int} {W : World} (h : Holds b o t sz xs W) (off : Nat) : W.frozen? ⟨b, off, none⟩ = false := by
  obtain ⟨arr, h1, _, h3⟩ := h
  unfold World.frozen?
  simp only [h1]
  simp

theorem Holds.set {b o : Nat} {t : TypeId} {sz : Nat} {xs : List Int} {W : World} (h : Holds b o t sz xs W) {i : Nat} (hi : i < xs.length) (y : Int) : Holds b o t sz (xs.set i y) (W.setCell ⟨b, o + i, none⟩ (.int .i64 y)) := by
  obtain ⟨arr, h1, h2, h3⟩ := h
  have hlt : o + i < arr.size := by
    have := h3 i xs[i] (List.getElem?_eq_getElem hi)
    exact (Array.getElem?_eq_some_iff.1 this).1
  refine ⟨_, heap_setCell_same h1, by rw [Array.size_setIfInBounds]; exact h2, fun j x hx => ?_⟩
  by_cases e : i = j
  · subst e
    rw [List.getElem?_set_self hi] at hx
    cases hx
    rw [Array.getElem?_setIfInBounds_self_of_lt hlt]
  · rw [List.getElem?_set_ne e] at hx
    rw [Array.getElem?_setIfInBounds_ne (by omega)]
    exact h3 j x hx

theorem Holds.same {b o : Nat} {t : TypeId} {sz : Nat} {xs : List Int} {W W' : World} (h : Holds b o t sz xs W) (hw : W'.heap[b]? = W.heap[b]?) : Holds b o t sz xs W' := by
  obtain ⟨arr, h1, h2⟩ := h
  exact ⟨arr, hw.trans h1, h2⟩

/-- All but two blocks stay. -/
structure But2 (x y n0 : Nat) (w w' : World) : Prop where
  os : w'.os = w.os
  tape : w'.tape = w.tape
  output : w'.output = w.output
  size : w.heap.size ≤ w'.heap.size
  block : ∀ k, k < n0 → k ≠ x → k ≠ y → w'.heap[k]? = w.heap[k]?

theorem ownFrom_but2 {β : Type} {x y n0 B : Nat} {w0 : World} (hn : n0 ≤ w0.heap.size) (hB : n0 ≤ B) : OwnFrom B (fun (_ : β) W => But2 x y n0 w0 W) := fun _ W W' row hs hg hr =>
  ⟨hg.os.trans hs.os, hg.tape.trans hs.tape, hg.output.trans hs.output, Nat.le_trans hs.size hg.size, fun k hk h1 h2 => (hg.block k (Nat.lt_of_lt_of_le hk (Nat.le_trans hn hs.size)) (fun e => by have := (hr k e.symm).1; omega)).trans (hs.block k hk h1 h2)⟩

theorem ownFrom_holds {β : Type} {B b o : Nat} {t : TypeId} {sz : Nat} (f : β → List Int) : OwnFrom B (fun (s : β) W => Holds b o t sz (f s) W) := fun s W W' row hs hg hr => by
  obtain ⟨arr, h1, h2⟩ := hs
  exact ⟨arr, (grownBy_keeps_cells hg (fun r e => (hr r e).2) h1 rfl).trans h1, h2⟩


/-! ### The loop, in the interpreter -/

def xcdB (F : Nat) (f : Nat) (st : St) : Option (Bool × St) :=
  match Nat.beq f F with
  | false => none
  | true => match st.tm 12, st.tm 13, st.tm 7 with
    | .v (.one (.ptr a 0)), .v (.one (.ptr b 0)), .v (.one (.ptr c 0)) => match st.bk a, st.bk b, st.bk c with
      | .live (.box [.int .i64 n]), .live (.box [_, _, _, _, .own d]), .live (.box [.int .i64 k]) => match st.bk d, Nat.beq a c with
        | .live (.vec m (.i .i64) xs), false => some (cond (decide (1 ≤ k)) (cond (decide (1 ≤ xs.length)) (decide (xs.length ≤ LIM)) false) false,
            { tm := upd (upd (upd st.tm 37 (one .und)) 38 (one .und)) 39 (one .und), bk := upd (upd st.bk a (.live (.box [.int .i64 (digX k n xs).2]))) d (.live (.vec m (.i .i64) (digX k n xs).1)) })
        | _, _ => none
      | _, _, _ => none
    | _, _, _ => none

theorem xcdB_inv {F f : Nat} {st st' : St} (h : xcdB F f st = some (true, st')) : f = F ∧ ∃ a b c d m s0 s1 s2 s3 n k xs, st.tm 12 = .v (.one (.ptr a 0)) ∧ st.tm 13 = .v (.one (.ptr b 0)) ∧ st.tm 7 = .v (.one (.ptr c 0)) ∧
    st.bk a = .live (.box [.int .i64 n]) ∧ st.bk b = .live (.box [s0, s1, s2, s3, .own d]) ∧ st.bk c = .live (.box [.int .i64 k]) ∧ st.bk d = .live (.vec m (.i .i64) xs) ∧ a ≠ c ∧ 1 ≤ k ∧ 1 ≤ xs.length ∧ xs.length ≤ LIM ∧
    st' = { tm := upd (upd (upd st.tm 37 (one .und)) 38 (one .und)) 39 (one .und), bk := upd (upd st.bk a (.live (.box [.int .i64 (digX k n xs).2]))) d (.live (.vec m (.i .i64) (digX k n xs).1)) } := by
  unfold xcdB at h
  split at h
  · cases h
  · rename_i hF
    split at h
    · rename_i a b c h12 h13 h7
      split at h
      · rename_i n s0 s1 s2 s3 d k ha hb hc
        split at h
        · rename_i m xs hd hac
          have h := Option.some.inj h
          simp only [Prod.mk.injEq] at h
          obtain ⟨hq, rfl⟩ := h
          cases h1 : decide (1 ≤ k) with
          | false => rw [h1] at hq; cases hq
          | true =>
            rw [h1] at hq
            cases h2 : decide (1 ≤ xs.length) with
            | false => rw [h2] at hq; cases hq
            | true =>
              rw [h2] at hq
              exact ⟨Nat.eq_of_beq_eq_true hF, a, b, c, d, m, s0, s1, s2, s3, n, k, xs, h12, h13, h7, ha, hb, hc, hd, Nat.ne_of_beq_eq_false hac, of_decide_eq_true h1, of_decide_eq_true h2, of_decide_eq_true hq, rfl⟩
        · cases h
      · cases h
    · cases h

theorem arr_lit (xs : Array Value) (h : xs.size = 61) : ∃ u0 u1 u2 u3 u4 u5 u6 u7 u8 u9 u10 u11 u12 u13 u14 u15 u16 u17 u18 u19 u20 u21 u22 u23 u24 u25 u26 u27 u28 u29 u30 u31 u32 u33 u34 u35 u36 u37 u38 u39 u40 u41 u42 u43 u44 u45 u46 u47 u48 u49 u50 u51 u52 u53 u54 u55 u56 u57 u58 u59 u60, xs = #[u0, u1, u2, u3, u4, u5, u6, u7, u8, u9, u10, u11, u12, u13, u14, u15, u16, u17, u18, u19, u20, u21, u22, u23, u24, u25, u26, u27, u28, u29, u30, u31, u32, u33, u34, u35, u36, u37, u38, u39, u40, u41, u42, u43, u44, u45, u46, u47, u48, u49, u50, u51, u52, u53, u54, u55, u56, u57, u58, u59, u60] := by
  obtain ⟨l⟩ := xs
  have h : l.length = 61 := h
  obtain ⟨u0, l, rfl⟩ : ∃ u l2, l = u :: l2 := List.exists_cons_of_length_eq_add_one h
  have h : l.length = 60 := by simpa using h
  obtain ⟨u1, l, rfl⟩ : ∃ u l2, l = u :: l2 := List.exists_cons_of_length_eq_add_one h
  have h : l.length = 59 := by simpa using h
  obtain ⟨u2, l, rfl⟩ : ∃ u l2, l = u :: l2 := List.exists_cons_of_length_eq_add_one h
  have h : l.length = 58 := by simpa using h
  obtain ⟨u3, l, rfl⟩ : ∃ u l2, l = u :: l2 := List.exists_cons_of_length_eq_add_one h
  have h : l.length = 57 := by simpa using h
  obtain ⟨u4, l, rfl⟩ : ∃ u l2, l = u :: l2 := List.exists_cons_of_length_eq_add_one h
  have h : l.length = 56 := by simpa using h
  obtain ⟨u5, l, rfl⟩ : ∃ u l2, l = u :: l2 := List.exists_cons_of_length_eq_add_one h
  have h : l.length = 55 := by simpa using h
  obtain ⟨u6, l, rfl⟩ : ∃ u l2, l = u :: l2 := List.exists_cons_of_length_eq_add_one h
  have h : l.length = 54 := by simpa using h
  obtain ⟨u7, l, rfl⟩ : ∃ u l2, l = u :: l2 := List.exists_cons_of_length_eq_add_one h
  have h : l.length = 53 := by simpa using h
  obtain ⟨u8, l, rfl⟩ : ∃ u l2, l = u :: l2 := List.exists_cons_of_length_eq_add_one h
  have h : l.length = 52 := by simpa using h
  obtain ⟨u9, l, rfl⟩ : ∃ u l2, l = u :: l2 := List.exists_cons_of_length_eq_add_one h
  have h : l.length = 51 := by simpa using h
  obtain ⟨u10, l, rfl⟩ : ∃ u l2, l = u :: l2 := List.exists_cons_of_length_eq_add_one h
  have h : l.length = 50 := by simpa using h
  obtain ⟨u11, l, rfl⟩ : ∃ u l2, l = u :: l2 := List.exists_cons_of_length_eq_add_one h
  have h : l.length = 49 := by simpa using h
  obtain ⟨u12, l, rfl⟩ : ∃ u l2, l = u :: l2 := List.exists_cons_of_length_eq_add_one h
  have h : l.length = 48 := by simpa using h
  obtain ⟨u13, l, rfl⟩ : ∃ u l2, l = u :: l2 := List.exists_cons_of_length_eq_add_one h
  have h : l.length = 47 := by simpa using h
  obtain ⟨u14, l, rfl⟩ : ∃ u l2, l = u :: l2 := List.exists_cons_of_length_eq_add_one h
  have h : l.length = 46 := by simpa using h
  obtain ⟨u15, l, rfl⟩ : ∃ u l2, l = u :: l2 := List.exists_cons_of_length_eq_add_one h
  have h : l.length = 45 := by simpa using h
  obtain ⟨u16, l, rfl⟩ : ∃ u l2, l = u :: l2 := List.exists_cons_of_length_eq_add_one h
  have h : l.length = 44 := by simpa using h
  obtain ⟨u17, l, rfl⟩ : ∃ u l2, l = u :: l2 := List.exists_cons_of_length_eq_add_one h
  have h : l.length = 43 := by simpa using h
  obtain ⟨u18, l, rfl⟩ : ∃ u l2, l = u :: l2 := List.exists_cons_of_length_eq_add_one h
  have h : l.length = 42 := by simpa using h
  obtain ⟨u19, l, rfl⟩ : ∃ u l2, l = u :: l2 := List.exists_cons_of_length_eq_add_one h
  have h : l.length = 41 := by simpa using h
  obtain ⟨u20, l, rfl⟩ : ∃ u l2, l = u :: l2 := List.exists_cons_of_length_eq_add_one h
  have h : l.length = 40 := by simpa using h
  obtain ⟨u21, l, rfl⟩ : ∃ u l2, l = u :: l2 := List.exists_cons_of_length_eq_add_one h
  have h : l.length = 39 := by simpa using h
  obtain ⟨u22, l, rfl⟩ : ∃ u l2, l = u :: l2 := List.exists_cons_of_length_eq_add_one h
  have h : l.length = 38 := by simpa using h
  obtain ⟨u23, l, rfl⟩ : ∃ u l2, l = u :: l2 := List.exists_cons_of_length_eq_add_one h
  have h : l.length = 37 := by simpa using h
  obtain ⟨u24, l, rfl⟩ : ∃ u l2, l = u :: l2 := List.exists_cons_of_length_eq_add_one h
  have h : l.length = 36 := by simpa using h
  obtain ⟨u25, l, rfl⟩ : ∃ u l2, l = u :: l2 := List.exists_cons_of_length_eq_add_one h
  have h : l.length = 35 := by simpa using h
  obtain ⟨u26, l, rfl⟩ : ∃ u l2, l = u :: l2 := List.exists_cons_of_length_eq_add_one h
  have h : l.length = 34 := by simpa using h
  obtain ⟨u27, l, rfl⟩ : ∃ u l2, l = u :: l2 := List.exists_cons_of_length_eq_add_one h
  have h : l.length = 33 := by simpa using h
  obtain ⟨u28, l, rfl⟩ : ∃ u l2, l = u :: l2 := List.exists_cons_of_length_eq_add_one h
  have h : l.length = 32 := by simpa using h
  obtain ⟨u29, l, rfl⟩ : ∃ u l2, l = u :: l2 := List.exists_cons_of_length_eq_add_one h
  have h : l.length = 31 := by simpa using h
  obtain ⟨u30, l, rfl⟩ : ∃ u l2, l = u :: l2 := List.exists_cons_of_length_eq_add_one h
  have h : l.length = 30 := by simpa using h
  obtain ⟨u31, l, rfl⟩ : ∃ u l2, l = u :: l2 := List.exists_cons_of_length_eq_add_one h
  have h : l.length = 29 := by simpa using h
  obtain ⟨u32, l, rfl⟩ : ∃ u l2, l = u :: l2 := List.exists_cons_of_length_eq_add_one h
  have h : l.length = 28 := by simpa using h
  obtain ⟨u33, l, rfl⟩ : ∃ u l2, l = u :: l2 := List.exists_cons_of_length_eq_add_one h
  have h : l.length = 27 := by simpa using h
  obtain ⟨u34, l, rfl⟩ : ∃ u l2, l = u :: l2 := List.exists_cons_of_length_eq_add_one h
  have h : l.length = 26 := by simpa using h
  obtain ⟨u35, l, rfl⟩ : ∃ u l2, l = u :: l2 := List.exists_cons_of_length_eq_add_one h
  have h : l.length = 25 := by simpa using h
  obtain ⟨u36, l, rfl⟩ : ∃ u l2, l = u :: l2 := List.exists_cons_of_length_eq_add_one h
  have h : l.length = 24 := by simpa using h
  obtain ⟨u37, l, rfl⟩ : ∃ u l2, l = u :: l2 := List.exists_cons_of_length_eq_add_one h
  have h : l.length = 23 := by simpa using h
  obtain ⟨u38, l, rfl⟩ : ∃ u l2, l = u :: l2 := List.exists_cons_of_length_eq_add_one h
  have h : l.length = 22 := by simpa using h
  obtain ⟨u39, l, rfl⟩ : ∃ u l2, l = u :: l2 := List.exists_cons_of_length_eq_add_one h
  have h : l.length = 21 := by simpa using h
  obtain ⟨u40, l, rfl⟩ : ∃ u l2, l = u :: l2 := List.exists_cons_of_length_eq_add_one h
  have h : l.length = 20 := by simpa using h
  obtain ⟨u41, l, rfl⟩ : ∃ u l2, l = u :: l2 := List.exists_cons_of_length_eq_add_one h
  have h : l.length = 19 := by simpa using h
  obtain ⟨u42, l, rfl⟩ : ∃ u l2, l = u :: l2 := List.exists_cons_of_length_eq_add_one h
  have h : l.length = 18 := by simpa using h
  obtain ⟨u43, l, rfl⟩ : ∃ u l2, l = u :: l2 := List.exists_cons_of_length_eq_add_one h
  have h : l.length = 17 := by simpa using h
  obtain ⟨u44, l, rfl⟩ : ∃ u l2, l = u :: l2 := List.exists_cons_of_length_eq_add_one h
  have h : l.length = 16 := by simpa using h
  obtain ⟨u45, l, rfl⟩ : ∃ u l2, l = u :: l2 := List.exists_cons_of_length_eq_add_one h
  have h : l.length = 15 := by simpa using h
  obtain ⟨u46, l, rfl⟩ : ∃ u l2, l = u :: l2 := List.exists_cons_of_length_eq_add_one h
  have h : l.length = 14 := by simpa using h
  obtain ⟨u47, l, rfl⟩ : ∃ u l2, l = u :: l2 := List.exists_cons_of_length_eq_add_one h
  have h : l.length = 13 := by simpa using h
  obtain ⟨u48, l, rfl⟩ : ∃ u l2, l = u :: l2 := List.exists_cons_of_length_eq_add_one h
  have h : l.length = 12 := by simpa using h
  obtain ⟨u49, l, rfl⟩ : ∃ u l2, l = u :: l2 := List.exists_cons_of_length_eq_add_one h
  have h : l.length = 11 := by simpa using h
  obtain ⟨u50, l, rfl⟩ : ∃ u l2, l = u :: l2 := List.exists_cons_of_length_eq_add_one h
  have h : l.length = 10 := by simpa using h
  obtain ⟨u51, l, rfl⟩ : ∃ u l2, l = u :: l2 := List.exists_cons_of_length_eq_add_one h
  have h : l.length = 9 := by simpa using h
  obtain ⟨u52, l, rfl⟩ : ∃ u l2, l = u :: l2 := List.exists_cons_of_length_eq_add_one h
  have h : l.length = 8 := by simpa using h
  obtain ⟨u53, l, rfl⟩ : ∃ u l2, l = u :: l2 := List.exists_cons_of_length_eq_add_one h
  have h : l.length = 7 := by simpa using h
  obtain ⟨u54, l, rfl⟩ : ∃ u l2, l = u :: l2 := List.exists_cons_of_length_eq_add_one h
  have h : l.length = 6 := by simpa using h
  obtain ⟨u55, l, rfl⟩ : ∃ u l2, l = u :: l2 := List.exists_cons_of_length_eq_add_one h
  have h : l.length = 5 := by simpa using h
  obtain ⟨u56, l, rfl⟩ : ∃ u l2, l = u :: l2 := List.exists_cons_of_length_eq_add_one h
  have h : l.length = 4 := by simpa using h
  obtain ⟨u57, l, rfl⟩ : ∃ u l2, l = u :: l2 := List.exists_cons_of_length_eq_add_one h
  have h : l.length = 3 := by simpa using h
  obtain ⟨u58, l, rfl⟩ : ∃ u l2, l = u :: l2 := List.exists_cons_of_length_eq_add_one h
  have h : l.length = 2 := by simpa using h
  obtain ⟨u59, l, rfl⟩ : ∃ u l2, l = u :: l2 := List.exists_cons_of_length_eq_add_one h
  have h : l.length = 1 := by simpa using h
  obtain ⟨u60, l, rfl⟩ : ∃ u l2, l = u :: l2 := List.exists_cons_of_length_eq_add_one h
  have h : l.length = 0 := by simpa using h
  obtain rfl : l = [] := List.length_eq_zero_iff.1 h
  exact ⟨u0, u1, u2, u3, u4, u5, u6, u7, u8, u9, u10, u11, u12, u13, u14, u15, u16, u17, u18, u19, u20, u21, u22, u23, u24, u25, u26, u27, u28, u29, u30, u31, u32, u33, u34, u35, u36, u37, u38, u39, u40, u41, u42, u43, u44, u45, u46, u47, u48, u49, u50, u51, u52, u53, u54, u55, u56, u57, u58, u59, u60, rfl⟩


theorem box1_of {C : Cx} {l : Loc} {q : IntKind} {n : Int} (h : BR C (.box [.int q n]) l) : l.nil = false ∧ ∃ t, C.w.heap[l.b]? = some (.cells #[.int q n] t (0, 0)) := by
  obtain ⟨⟨_, h0⟩, arr, t, ha, hall⟩ := h
  refine ⟨h0, t, ?_⟩
  obtain ⟨ls⟩ := arr
  match ls, hall with
  | [v], hall =>
    obtain ⟨hv, _⟩ := hall
    have hv : v = .int q n := hv
    subst hv
    exact ha

theorem box5_of {C : Cx} {l : Loc} {s0 s1 s2 s3 : Sc} {d : Nat} (h : BR C (.box [s0, s1, s2, s3, .own d]) l) : l.nil = false ∧ ∃ v0 v1 v2 v3 ld t, C.g d = some ld ∧ C.w.heap[l.b]? = some (.cells #[v0, v1, v2, v3, ld.sl] t (0, 0)) := by
  obtain ⟨⟨_, h0⟩, arr, t, ha, hall⟩ := h
  refine ⟨h0, ?_⟩
  obtain ⟨ls⟩ := arr
  match ls, hall with
  | [v0, v1, v2, v3, v4], hall =>
    obtain ⟨_, _, _, _, ⟨ld, hg, hv⟩, _⟩ := hall
    have hv : v4 = ld.sl := hv
    subst hv
    exact ⟨v0, v1, v2, v3, ld, t, hg, ha⟩

theorem vec_of {C : Cx} {l : Loc} {m : Nat} {xs : List Int} (hx : 1 ≤ xs.length) (h : BR C (.vec m (.i .i64) xs) l) : l.nil = false ∧ C.S m l.b ∧ l.n = xs.length ∧ l.n ≤ l.cap ∧ l.sz = 1 ∧ ∃ t sz, l.o + l.cap ≤ sz ∧ Holds l.b l.o t sz xs C.w := by
  rcases h with ⟨_, h, _⟩ | ⟨hl, hS, hn, hc, hz, arr, t, ha, hs, he⟩
  · have h : xs = [] := h
    rw [h] at hx; simp at hx
  · have hz : l.sz = 1 := hz
    refine ⟨hl, hS, hn, hc, hz, t, arr.size, by rw [hz] at hs; omega, arr, ha, rfl, fun i x hi => ?_⟩
    obtain ⟨cs, hd, hv⟩ := he i x hi
    have hd : cs = [.int .i64 x] := hd
    subst hd
    have := hv 0 _ rfl
    rw [hz] at this
    simpa using this

theorem body_done {H : Nat} {w W0 W : World} {bn bc oc asz tn tc : Nat} {k : Int} {S : List Int × Int} {f : List (Fin H × Int) → List Int × Int} {pre : List (Fin H × Int)} {x : Fin H × Int} (hn0 : bn < w.heap.size) (hc0 : bc < w.heap.size) (d3 : bn ≠ bc) (hsW : W0.heap.size ≤ W.heap.size) (hi : x.1.1 < S.1.length) (hSH : S.1.length = H)
    (hb1 : W.heap[bn]? = some (.cells #[.int .i64 S.2] tn (0, 0))) (hb2 : Holds bc oc tc asz S.1 W) (hB : But2 bn bc w.heap.size w W) (hf : f (pre ++ [x]) = digS k S x.1.1) :
    KeepsFrom W0.heap.size W ((W.setCell ⟨bc, oc + x.1.1, none⟩ (.int .i64 (S.2.tmod k))).setCell ⟨bn, 0, none⟩ (.int .i64 (wrap64 (S.2.tdiv k)))).drew ∧
      KpB w.heap.size bc oc H W ((W.setCell ⟨bc, oc + x.1.1, none⟩ (.int .i64 (S.2.tmod k))).setCell ⟨bn, 0, none⟩ (.int .i64 (wrap64 (S.2.tdiv k)))).drew ∧
      ((((W.setCell ⟨bc, oc + x.1.1, none⟩ (.int .i64 (S.2.tmod k))).setCell ⟨bn, 0, none⟩ (.int .i64 (wrap64 (S.2.tdiv k)))).drew.heap[bn]? = some (.cells #[.int .i64 (f (pre ++ [x])).2] tn (0, 0)) ∧
        W0.heap.size ≤ ((W.setCell ⟨bc, oc + x.1.1, none⟩ (.int .i64 (S.2.tmod k))).setCell ⟨bn, 0, none⟩ (.int .i64 (wrap64 (S.2.tdiv k)))).drew.heap.size) ∧
        Holds bc oc tc asz (f (pre ++ [x])).1 ((W.setCell ⟨bc, oc + x.1.1, none⟩ (.int .i64 (S.2.tmod k))).setCell ⟨bn, 0, none⟩ (.int .i64 (wrap64 (S.2.tdiv k)))).drew) ∧
        But2 bn bc w.heap.size w ((W.setCell ⟨bc, oc + x.1.1, none⟩ (.int .i64 (S.2.tmod k))).setCell ⟨bn, 0, none⟩ (.int .i64 (wrap64 (S.2.tdiv k)))).drew := by
  have hwr : wrap64 (S.2.tdiv k) = IntKind.i64.wrap (S.2.tdiv k) := (IntWalk.i64_left _).symm
  rw [hf]
  generalize hW1 : W.setCell ⟨bc, oc + x.1.1, none⟩ (.int .i64 (S.2.tmod k)) = W1
  have hz1 : W1.heap.size = W.heap.size := by rw [← hW1]; simp
  have hH1 : Holds bc oc tc asz (S.1.set x.1.1 (S.2.tmod k)) W1 := by rw [← hW1]; exact hb2.set hi _
  have ho1 : ∀ b, b ≠ bc → W1.heap[b]? = W.heap[b]? := fun b hb => by rw [← hW1]; exact Below.heap_setCell _ _ _ _ hb
  have hn1 : W1.heap[bn]? = some (.cells #[.int .i64 S.2] tn (0, 0)) := (ho1 bn d3).trans hb1
  generalize hW2 : W1.setCell ⟨bn, 0, none⟩ (.int .i64 (wrap64 (S.2.tdiv k))) = W2
  have hz2 : W2.heap.size = W1.heap.size := by rw [← hW2]; simp
  have ho2 : ∀ b, b ≠ bn → W2.heap[b]? = W1.heap[b]? := fun b hb => by rw [← hW2]; exact Below.heap_setCell _ _ _ _ hb
  have hH2 : Holds bc oc tc asz (S.1.set x.1.1 (S.2.tmod k)) W2 := hH1.same (ho2 bc (Ne.symm d3))
  have hn2 : W2.heap[bn]? = some (.cells #[.int .i64 (wrap64 (S.2.tdiv k))] tn (0, 0)) := by rw [← hW2]; exact heap_setCell_same hn1
  have hKO : KeepsOthers W W2 := by rw [← hW2, ← hW1]; exact (KeepsOthers.setCell _ _ _).trans (KeepsOthers.setCell _ _ _)
  have hos : W2.os = W.os ∧ W2.tape = W.tape ∧ W2.output = W.output := by rw [← hW2, ← hW1]; exact ⟨rfl, rfl, rfl⟩
  refine ⟨(hKO.trans (KeepsOthers.drew _)).from _, ⟨?_, fun _ j hj => ?_⟩, ⟨⟨by show W2.heap[bn]? = some (.cells #[.int .i64 (IntKind.i64.wrap (S.2.tdiv k))] tn (0, 0)); rw [← hwr]; exact hn2, by show _ ≤ W2.heap.size; omega⟩, hH2.same rfl⟩, ⟨hos.1.trans hB.os, hos.2.1.trans hB.tape, hos.2.2.trans hB.output, by show _ ≤ W2.heap.size; have := hB.size; omega, fun b hb h1 h2 => ?_⟩⟩
  · show W2.heap[w.heap.size]? = _
    rw [ho2 _ (by omega), ho1 _ (by omega)]
  · have hlt : j < (S.1.set x.1.1 (S.2.tmod k)).length := by rw [List.length_set, hSH]; exact hj
    exact ⟨_, (hH2.same (W' := W2.drew) rfl).cell (List.getElem?_eq_getElem hlt)⟩
  · show W2.heap[b]? = _
    rw [ho2 _ h1, ho1 _ h2]
    exact hB.block b hb h1 h2

set_option maxRecDepth 100000 in
set_option maxHeartbeats 4000000 in
theorem fill_wp {x y : Code} (hm : (x, y) ∈ rfsOf Tryz.prog 8) {w : World} {bn bp bk bc oc cap H asz tn tp tk tc : Nat} {n k : Int} {xs : List Int} {v0 v1 v2 v3 : Value} {u0 u1 u2 u3 u4 u5 u6 u8 u9 u10 u11 u14 u15 u16 u17 u18 u19 u20 u21 u22 u23 u24 u25 u26 u27 u28 u29 u30 u31 u32 u33 u34 u35 u36 u37 u38 u39 u40 u41 u42 u43 u44 u45 u46 u47 u48 u49 u50 u51 u52 u53 u54 u55 u56 u57 u58 u59 u60 : Value} {ds : List Deferred}
    (hk : 1 ≤ k) (hH : xs.length = H) (hL : H ≤ 4194304) (hcap : H ≤ cap)
    (hbn : w.heap[bn]? = some (.cells #[.int .i64 n] tn (0, 0))) (hbp : w.heap[bp]? = some (.cells #[v0, v1, v2, v3, .slice (some ⟨bc, oc, none⟩) H cap] tp (0, 0))) (hbk : w.heap[bk]? = some (.cells #[.int .i64 k] tk (0, 0)))
    (hbc : Holds bc oc tc asz xs w) (d1 : bn ≠ bp) (d2 : bn ≠ bk) (d3 : bn ≠ bc) (d4 : bp ≠ bc) (d5 : bk ≠ bc) {Q : Exit → Act → World → Prop}
    (hQ : ∀ (D : Nat) (W : World) (v37 v38 v39 : Value), w.heap.size ≤ D → W.heap[D]? = some (.deferred (some [])) → W.heap[bn]? = some (.cells #[.int .i64 (digX k n xs).2] tn (0, 0)) → Holds bc oc tc asz (digX k n xs).1 W → But2 bn bc w.heap.size w W →
      Q .normal { tmps := #[u0, u1, u2, u3, u4, u5, u6, .pointer (some ⟨bk, 0, none⟩), u8, u9, u10, u11, .pointer (some ⟨bn, 0, none⟩), .pointer (some ⟨bp, 0, none⟩), u14, u15, u16, u17, u18, u19, u20, u21, u22, u23, u24, u25, u26, u27, u28, u29, u30, u31, u32, u33, u34, u35, u36, v37, v38, v39, u40, u41, u42, u43, u44, u45, u46, u47, u48, u49, u50, u51, u52, u53, u54, u55, u56, u57, u58, u59, u60], defers := { target := .collected D, args := #[] } :: ds } W) :
    (Code.seq x y).wpIn Fence.wide 6 Tryz.prog Q { tmps := #[u0, u1, u2, u3, u4, u5, u6, .pointer (some ⟨bk, 0, none⟩), u8, u9, u10, u11, .pointer (some ⟨bn, 0, none⟩), .pointer (some ⟨bp, 0, none⟩), u14, u15, u16, u17, u18, u19, u20, u21, u22, u23, u24, u25, u26, u27, u28, u29, u30, u31, u32, u33, u34, u35, u36, u37, u38, u39, u40, u41, u42, u43, u44, u45, u46, u47, u48, u49, u50, u51, u52, u53, u54, u55, u56, u57, u58, u59, u60], defers := ds } w := by
  unfold rfsOf at hm
  rw [Tryz.func8] at hm
  simp only [Option.bind_some, Tryz.f8, rfs, isRf, cond_true, cond_false, List.nil_append, List.append_nil, List.mem_singleton, Prod.mk.injEq] at hm
  obtain ⟨rfl, rfl⟩ := hm
  have hn0 := (Array.getElem?_eq_some_iff.1 hbn).1
  have hp0 := (Array.getElem?_eq_some_iff.1 hbp).1
  have hk0 := (Array.getElem?_eq_some_iff.1 hbk).1
  have hc0 : bc < w.heap.size := by
    obtain ⟨arr, h1, _⟩ := hbc
    exact (Array.getElem?_eq_some_iff.1 h1).1
  have hcp : w.cell? ⟨bp, 4, none⟩ = some (.slice (some ⟨bc, oc, none⟩) H cap) := by unfold World.cell?; simp only [hbp]; rfl
  gi_wp2_with (refine ⟨trivial, ?_⟩; gi_at_call 25; refine (back_in Fence.wide _ trivial rfl _ _ _ _).mono ?_; rintro e w' ⟨rfl, rfl⟩)
  obtain ⟨W0, hW0⟩ : ∃ W0, w.alloc (.cells #[.slice (some ⟨bc, oc, none⟩) H cap] 43) = W0 := ⟨_, rfl⟩
  have hsz : W0.heap.size = w.heap.size + 1 := by rw [← hW0]; simp
  have hold : ∀ b, b < w.heap.size → W0.heap[b]? = w.heap[b]? := fun b hb => by rw [← hW0]; exact Below.heap_alloc w _ b hb
  have bX := Boxed.new w 43 (.slice (some ⟨bc, oc, none⟩) H cap)
  have hbut : But2 bn bc w.heap.size w W0 := ⟨by rw [← hW0]; rfl, by rw [← hW0]; rfl, by rw [← hW0]; rfl, by omega, fun b hb _ _ => hold b hb⟩
  rw [hW0] at bX ⊢
  refine wpIn_rangeFunc_ownG rfl (by omega) (gf := 47) (lb := #[.pointer (some ⟨w.heap.size, 0, none⟩)]) rfl trivial (enters_of Tryz.func47 (by kernel_rfl) rfl)
    (back_stops 5 (by omega) w.heap.size bc oc cap H hL hcap W0 (by omega) (by omega) bX.cell (fun j hj => ⟨xs[j]'(by omega), (hbc.same (hold bc hc0)).cell (List.getElem?_eq_getElem (by omega))⟩)) KpB.trans (KpB.put (by omega) (by omega)) (Below.refl _ _) (fun _ => rfl)
    (fun pre W => ((W.heap[bn]? = some (.cells #[.int .i64 ((pre.map fun x => x.1.1).foldl (digS k) (xs, n)).2] tn (0, 0)) ∧ W0.heap.size ≤ W.heap.size) ∧ Holds bc oc tc asz ((pre.map fun x => x.1.1).foldl (digS k) (xs, n)).1 W) ∧ But2 bn bc w.heap.size w W)
    (fun _ _ _ => False)
    (OwnFrom.and (OwnFrom.and (fun s A B row hs hg hr => ⟨(grownBy_keeps_cells hg (fun r e => (hr r e).2) hs.1 rfl).trans hs.1, Nat.le_trans hs.2 hg.size⟩) (ownFrom_holds _)) (ownFrom_but2 (Nat.le_refl _) (by omega)))
    (fun _ _ _ _ _ hs _ _ => hs)
    ⟨⟨⟨(hold bn hn0).trans hbn, Nat.le_refl _⟩, hbc.same (hold bc hc0)⟩, hbut⟩
    (fun x => { tmps := #[u0, u1, u2, u3, u4, u5, u6, .pointer (some ⟨bk, 0, none⟩), u8, u9, u10, u11, .pointer (some ⟨bn, 0, none⟩), .pointer (some ⟨bp, 0, none⟩), .int .i64 (x.1.1 : Int), u15, u16, u17, u18, u19, u20, u21, u22, u23, u24, u25, u26, u27, u28, u29, u30, u31, u32, u33, u34, u35, u36, .pointer (some ⟨bp, 4, none⟩), .slice (some ⟨bc, oc, none⟩) H cap, .func (.func 47) #[] #[.pointer (some ⟨w.heap.size, 0, none⟩)], .int .i64 (x.1.1 : Int), .int .i64 x.2, u42, u43, u44, u45, u46, u47, u48, u49, u50, u51, u52, u53, u54, u55, u56, u57, u58, u59, u60], defers := [] }) ?assign ?body ?done ?stop
  case assign =>
    intro l x W K hK
    gi_wp2
    exact hK
  case body =>
    rintro l pre x W ⟨⟨⟨hb1, hsW⟩, hb2⟩, hB⟩ hpl
    have hSn : ((pre ++ [x]).map fun x => x.1.1).foldl (digS k) (xs, n) = digS k ((pre.map fun x => x.1.1).foldl (digS k) (xs, n)) x.1.1 := by rw [List.map_append, List.map_singleton, List.foldl_append, List.foldl_cons, List.foldl_nil]
    have hSl := dig_len k (pre.map fun x => x.1.1) (xs, n)
    generalize hS : (pre.map fun x => x.1.1).foldl (digS k) (xs, n) = S at hb1 hb2 hSl hSn
    have hi : x.1.1 < S.1.length := by rw [hSl]; simp only; have := x.1.2; omega
    have hb3 := (hB.block bp hp0 (Ne.symm d1) d4).trans hbp
    have hb4 := (hB.block bk hk0 (Ne.symm d2) d5).trans hbk
    have hiH : x.1.1 < H := x.1.2
    have hkne : ¬ k = 0 := by omega
    have hmx : Tryz.prog.follows .mixedOrders = true := by kernel_rfl
    have cN : W.cell? ⟨bn, 0, none⟩ = some (.int .i64 S.2) := by unfold World.cell?; simp only [hb1]; rfl
    have fN : W.frozen? ⟨bn, 0, none⟩ = false := by unfold World.frozen?; simp only [hb1]; simp
    have cP : W.cell? ⟨bp, 4, none⟩ = some (.slice (some ⟨bc, oc, none⟩) H cap) := by unfold World.cell?; simp only [hb3]; rfl
    have cK : W.cell? ⟨bk, 0, none⟩ = some (.int .i64 k) := by unfold World.cell?; simp only [hb4]; rfl
    have cC := hb2.cell (List.getElem?_eq_getElem hi)
    have fC := hb2.frozen (oc + x.1.1)
    have hN2 : ∀ v, (W.drew.setCell ⟨bc, oc + x.1.1, none⟩ v).cell? ⟨bn, 0, none⟩ = some (.int .i64 S.2) := fun v => (World.cell?_setCell_other _ _ _ _ (fun e => d3 (congrArg Addr.block e).symm)).trans cN
    have hK2 : ∀ v, (W.drew.setCell ⟨bc, oc + x.1.1, none⟩ v).cell? ⟨bk, 0, none⟩ = some (.int .i64 k) := fun v => (World.cell?_setCell_other _ _ _ _ (fun e => d5 (congrArg Addr.block e).symm)).trans cK
    have fN2 : ∀ v, (W.drew.setCell ⟨bc, oc + x.1.1, none⟩ v).frozen? ⟨bn, 0, none⟩ = false := fun v => by rw [World.frozen?_setCell]; exact fN
    gi_wp2
    gi_region_o
    all_goals gi_wp2
    all_goals (try go_bits)
    all_goals exact body_done (f := fun pre => (pre.map fun x => x.1.1).foldl (digS k) (xs, n)) hn0 hc0 d3 hsW hi (hSl.trans hH) hb1 hb2 hB hSn
  case done =>
    rintro D ys W hD hys ⟨⟨⟨hb1, hsW⟩, hb2⟩, hB⟩ hK
    rw [hys, ← hH] at hb1 hb2
    exact hQ D W _ _ _ (by omega) hK hb1 hb2 hB
  case stop =>
    rintro D c pre W _ _ h _
    exact h.elim

end Ai
end Go.Proofs.YtpboclokodgnlaaGreat
