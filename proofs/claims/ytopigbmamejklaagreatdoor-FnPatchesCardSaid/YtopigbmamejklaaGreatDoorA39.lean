/-
  The ideal interpreter against the machine: this program's own function that spells a patch, row by row of slices.Chunk, by a walk.
-/
import Derived.Test.YtopigbmamejklaaGreatDoorEP
import Derived.RangeFuncBox
import Derived.Shelf.RegionOpen
import Derived.RangeFuncCalls
import Derived.RangeFuncLeaves
import Derived.Shelf.Abstract
import Derived.WalkKit
import Derived.OwnWalkIn
import Derived.TacticsInMore
import Derived.LoopNIn
import Derived.LoopIn
namespace Go.Proofs.YtopigbmamejklaaGreatDoor
namespace Ai
open Go.Shelf Go.RowKit Go.Lib
set_option linter.unusedSimpArgs false
set_option linter.unusedVariables false

attribute [local go_sem] Oper.semAt_some

/-! ### A setting in which nothing is owned -/

def baseN (w : World) : Base where
  w0 := w
  S := fun _ _ => True
  X := fun _ => False
  mono := fun _ _ _ _ _ => trivial
  new := fun _ _ _ => trivial
  own := fun _ _ h => h.elim
  pin := fun _ => none
  pinned := fun _ _ h => by cases h
  dm := false

theorem bk0_no {id : Nat} {b : BS} (h : bk0 id = b) : b = .dead ∨ b = .fresh := by
  unfold bk0 at h
  cases hc : Nat.beq (id % 8) 5
  · rw [hc] at h; exact .inr h.symm
  · rw [hc] at h; exact .inl h.symm

theorem memN (w : World) : Mem (baseN w) (fun _ => none) bk0 w where
  br := fun id b h => by rcases bk0_no h with h | h <;> cases h
  ro := fun id org c xs h => by rcases bk0_no h with h | h <;> cases h
  inj := fun id id' b b' l l' h => by rcases bk0_no h with h | h <;> cases h
  fresh := fun _ _ => rfl
  pin := fun _ _ h => by cases h
  fr := ⟨rfl, Tq.refl _, rfl, Nat.le_refl _, fun _ _ _ => rfl⟩

/-- The slice of numbers at a value, in blocks below a bound. -/
def Nums (n0 : Nat) (W : World) (sv : Value) (xs : List Int) : Prop :=
  (sv = .slice none 0 0 ∧ xs = []) ∨ ∃ b o cap, sv = .slice (some ⟨b, o, none⟩) xs.length cap ∧ xs.length ≤ cap ∧ (0 < cap → b < n0) ∧
    (∀ j, j < cap → (W.cell? ⟨b, o + j, none⟩).isSome = true) ∧ ∀ (i : Nat) (x : Int), xs[i]? = some x → W.cell? ⟨b, o + i, none⟩ = some (.int .i64 x)

theorem Nums.below {n0 : Nat} {A B : World} (h : Below n0 A B) {sv : Value} {xs : List Int} : Nums n0 A sv xs → Nums n0 B sv xs
  | .inl e => .inl e
  | .inr ⟨b, o, cap, e, hl, hb, hs, hc⟩ => .inr ⟨b, o, cap, e, hl, hb, fun j hj => by rw [h.cell (p := ⟨b, o + j, none⟩) (hb (by omega))]; exact hs j hj, fun i x hi => by
      rw [h.cell (p := ⟨b, o + i, none⟩) (hb (by have := (List.getElem?_eq_some_iff.1 hi).1; omega))]; exact hc i x hi⟩

theorem Nums.mono {n0 n1 : Nat} (hn : n0 ≤ n1) {A : World} {sv : Value} {xs : List Int} : Nums n0 A sv xs → Nums n1 A sv xs
  | .inl e => .inl e
  | .inr ⟨b, o, cap, e, hl, hb, hs, hc⟩ => .inr ⟨b, o, cap, e, hl, fun h => Nat.lt_of_lt_of_le (hb h) hn, hs, hc⟩

theorem Nums.dr {W : World} {ok : Nat → Prop} (hok : ∀ b, b < W.heap.size → ok b) {sv : Value} {xs : List Int} : Nums W.heap.size W sv xs → DR W ok (.list (.i .i64)) xs [sv]
  | .inl ⟨e, h⟩ => .inl ⟨by rw [e], h⟩
  | .inr ⟨b, o, cap, e, hl, hb, hs, hc⟩ => .inr ⟨b, o, cap, by rw [e], hl, fun h => ⟨hok b (hb h), hb h⟩, fun j hj => hs j (by simpa [csize] using hj), fun i x hi => ⟨[.int .i64 x], rfl, fun j v hj => by
      match j, hj with
      | 0, hj =>
        obtain rfl : Value.int .i64 x = v := by simpa using hj
        have := hc i x hi
        simpa [csize] using this⟩⟩

theorem Nums.of_dr {W : World} {ok : Nat → Prop} {sv : Value} {xs : List Int} (h : DR W ok (.list (.i .i64)) xs [sv]) : Nums W.heap.size W sv xs := by
  rcases h with ⟨e, h⟩ | ⟨b, o, cap, e, hl, hb, hs, hc⟩
  · exact .inl ⟨List.singleton_inj.1 e, h⟩
  · refine .inr ⟨b, o, cap, List.singleton_inj.1 e, hl, fun h => (hb h).2, fun j hj => hs j (by simpa [csize] using hj), fun i x hi => ?_⟩
    obtain ⟨cs, hd, hv⟩ := hc i x hi
    have hcs : cs = [.int .i64 x] := hd
    subst hcs
    have := hv 0 _ rfl
    simpa [csize] using this

/-! ### The callees -/

theorem held0 {W : World} (h : HeldW Pre.env W) : Held Pre.env (baseN W) := ⟨h, fun _ _ h => h, fun _ => rfl⟩

theorem held_below {A B : World} (hb : Below A.heap.size A B) (h : HeldW Pre.env A) : HeldW Pre.env B := fun p hp => by
  obtain ⟨cs, t, q, hw, hc⟩ := h p hp
  exact ⟨cs, t, q, by rw [hb.block _ (Array.getElem?_eq_some_iff.1 hw).1]; exact hw, hc⟩

theorem fr_below {W w' : World} (h : Fr (baseN W) w') : Below W.heap.size W w' := ⟨h.os, h.tape.tape, h.output, h.size, fun k hk => h.old k hk fun h => h⟩

theorem dig_calls (W : World) (hH : HeldW Pre.env W) {sv : Value} {xs : List Int} {y : List UInt8} (hn : Nums W.heap.size W sv xs) (h : Pre.impl_digitsText xs = some y) :
    Calls Tryz.prog 53 #[sv] W fun e w' => e = .returned (.string ⟨y.toArray⟩) ∧ Below W.heap.size W w' := by
  obtain ⟨_, hc⟩ : MFn Pre.env Pre.fi_impl_digitsText xs y := run_sound Pre.env_ok h
  refine (hc (baseN W) (fun _ => none) #[sv] (held0 hH) rfl (memN W) (fun t => ?_) (fun id hm => by simp [Pre.fi_impl_digitsText, refIds] at hm)).mono ?_
  · match t with
    | 0 => exact hn.dr fun b hb => ⟨trivial, (fun ⟨_, _, _, _, e, _⟩ => by cases e), fun h => by rcases h with h | h; exact absurd h (Nat.not_le_of_lt hb); exact h.elim⟩
    | t + 1 => trivial
  · rintro e w' ⟨v, he, hf⟩
    obtain ⟨Z, ⟨us, hv, hus⟩, _⟩ := hf.res
    match us, hus with
    | [u], hus =>
      obtain ⟨⟨hu | hu, _⟩, _⟩ := hus
      · have hu2 : [u] = [Value.string ⟨y.toArray⟩] := hu.2
        exact ⟨by rw [he, hv, List.singleton_inj.1 hu2]; rfl, fr_below hf.fr⟩
      · exact absurd hu.1 (by decide)

theorem isp_calls (W : World) (hH : HeldW Pre.env W) {p0 p1 : Int} {sv : Value} {xs : List Int} {y : Bool} (hn : Nums W.heap.size W sv xs) (h : Pre.impl_IsPatch (p0, p1, xs) = some y) :
    Calls Tryz.prog 24 #[.agg #[.int .i64 p0, .int .i64 p1, sv]] W fun e w' => e = .returned (.bool y) ∧ Below W.heap.size W w' := by
  obtain ⟨_, hc⟩ : MFn Pre.env Pre.fi_impl_IsPatch (p0, p1, xs) y := run_sound Pre.env_ok h
  refine (hc (baseN W) (fun _ => none) #[.agg #[.int .i64 p0, .int .i64 p1, sv]] (held0 hH) rfl (memN W) (fun t => ?_) (fun id hm => by simp [Pre.fi_impl_IsPatch, refIds] at hm)).mono ?_
  · match t with
    | 0 => exact ⟨#[.int .i64 p0, .int .i64 p1, sv], rfl, rfl, rfl, hn.dr fun b hb => ⟨trivial, (fun ⟨_, _, _, _, e, _⟩ => by cases e), fun h => by rcases h with h | h; exact absurd h (Nat.not_le_of_lt hb); exact h.elim⟩, trivial⟩
    | t + 1 => trivial
  · rintro e w' ⟨v, he, hf⟩
    obtain ⟨Z, ⟨us, hv, hus⟩, _⟩ := hf.res
    match us, hus with
    | [u], hus =>
      obtain ⟨⟨hu | hu, _⟩, _⟩ := hus
      · have hu2 : [u] = [Value.bool y] := hu.2
        exact ⟨by rw [he, hv, List.singleton_inj.1 hu2]; rfl, fr_below hf.fr⟩
      · exact absurd hu.1 (by decide)

/-! ### slices.Chunk -/

set_option maxHeartbeats 1000000 in
theorem chunk_in (F : Fence) (n : Nat) (hF : F.fn 52) (hro : F.round = none) (a : Option Addr) (len cap : Nat) (wd : Int) (h1 : 1 ≤ wd) (w : World) :
    CallsIn F n Tryz.prog 52 #[.slice a len cap, .int .i64 wd] w fun e w' => e = .returned (.func (.func 84) #[] #[.pointer (some ⟨w.heap.size, 0, none⟩), .pointer (some ⟨w.heap.size + 1, 0, none⟩)]) ∧
      w' = (w.alloc (.cells #[.slice a len cap] 24)).alloc (.cells #[.int .i64 wd] 3) := by
  refine callsIn_of_wp Tryz.func52 rfl hF ?_ hro
  simp only [Tryz.ntmps52, List.size_toArray, List.length_cons, List.length_nil, Nat.reduceAdd, Nat.reduceSub, Array.replicate_succ, Array.replicate_zero, List.push_toArray, List.append_toArray, List.nil_append, List.cons_append]
  have hlt : ¬ wd < 1 := by omega
  gi_wp2
  go_ret
  exact ⟨rfl, rfl⟩

/-- Two blocks stay as they are. -/
def Kp2 (x y : Nat) (W W' : World) : Prop := W'.heap[x]? = W.heap[x]? ∧ W'.heap[y]? = W.heap[y]?

theorem Kp2.trans {x y : Nat} {A B C : World} (h : Kp2 x y A B) (k : Kp2 x y B C) : Kp2 x y A C := ⟨k.1.trans h.1, k.2.trans h.2⟩

theorem Kp2.put {x y : Nat} {w : World} (hx : x < w.heap.size) (hy : y < w.heap.size) (W : World) (l : Nat) (o o' : Obj) (hl : w.heap.size ≤ l) (_ : W.heap[l]? = some o) (_ : o.isCells = false) (_ : o.isWalk = false) : Kp2 x y W (W.putObj l o') :=
  ⟨World.putObj_heap_other (by omega), World.putObj_heap_other (by omega)⟩

/-- Row number k of a slice of numbers. -/
def rowV (b o wd k : Nat) : Value := .slice (some ⟨b, o + k * wd, none⟩) wd wd

set_option maxRecDepth 100000 in
set_option maxHeartbeats 4000000 in
theorem chunk1_in (n : Nat) (hn : 1 ≤ n) (l Bs Bn b o cap wd H : Nat) (hw1 : 1 ≤ wd) (hH : H * wd ≤ 4194304) (hcap : H * wd ≤ cap) (J Jx : List (Fin H) → World → Prop)
    (hJd : ∀ pre W n, J pre W → J pre (W.drewN n))
    (hY : ∀ pre x W, J pre W → pre.length < H → YieldAt Fence.wide (n - 1) Tryz.prog l #[rowV b o wd x.1] W fun e W' =>
      (e = .returned (.bool true) ∧ J (pre ++ [x]) W' ∧ Kp2 Bs Bn W W') ∨ (e = .returned (.bool false) ∧ Jx (pre ++ [x]) W'))
    (W : World) (hBs : W.cell? ⟨Bs, 0, none⟩ = some (.slice (some ⟨b, o, none⟩) (H * wd) cap)) (hBn : W.cell? ⟨Bn, 0, none⟩ = some (.int .i64 wd)) (h0 : J [] W) :
    CallsIn Fence.wide n Tryz.prog 84 #[.func (.yield l) #[] #[], .pointer (some ⟨Bs, 0, none⟩), .pointer (some ⟨Bn, 0, none⟩)] W fun e W' => (∃ v, e = .returned v) ∧
      ((∃ ys, ys = List.finRange H ∧ J ys W') ∨ (∃ pre, True ∧ Jx pre W')) := by
  refine callsIn_of_wp Tryz.func84 rfl trivial ?_ rfl
  simp only [Tryz.ntmps84, List.size_toArray, List.length_cons, List.length_nil, Nat.reduceAdd, Nat.reduceSub, Array.replicate_succ, Array.replicate_zero, List.push_toArray, List.append_toArray, List.nil_append, List.cons_append]
  gi_wp2
  gi_loopw [4] (fun i wr => ∃ k : Nat, k ≤ H ∧ i = .int .i64 ((k * wd : Nat) : Int) ∧ J ((List.finRange H).take k) wr ∧ Kp2 Bs Bn W wr)
    (fun i _ => H * wd - (Go.RowKit.intOf i).toNat)
  case atStart => exact ⟨0, Nat.zero_le _, by simp, by simpa using h0, rfl, rfl⟩
  case round =>
    obtain ⟨k, hk, rfl, hJs, hnx⟩ := hrel
    have hBs' := (World.cell?_of_block (w := W) hnx.1).trans hBs
    have hBn' := (World.cell?_of_block (w := W) hnx.2).trans hBn
    by_cases hlt : k < H
    · have hk1 : (k + 1) * wd ≤ H * wd := Nat.mul_le_mul_right _ hlt
      have hk2 : (k + 1) * wd = k * wd + wd := Nat.succ_mul _ _
      have hp : (0 : Int) ≤ (k : Int) * wd := by exact_mod_cast Nat.zero_le _
      have hmin : min (wd : Int) ((H * wd - k * wd : Nat) : Int) = wd := by omega
      have hlen : ((k : Int) * wd + wd).toNat - k * wd = wd := by
        have e : ((k : Int) * wd + wd).toNat = k * wd + wd := by
          rw [← Int.natCast_mul, ← Int.natCast_add]; exact Int.toNat_natCast _
        rw [e]; omega
      gi_wp2
      gi_quiet (fail)
      gi_wp2
      obtain ⟨fn, tmps, assign, body, hy, hR⟩ := hY _ ⟨k, hlt⟩ (wr.drewN nq) (hJd _ _ _ hJs) (by rw [List.length_take, List.length_finRange]; omega)
      unfold rowV at hy
      gi_wp2
      refine hR.mono ?_
      rintro e W3 (⟨rfl, hJ3, hk3⟩ | ⟨rfl, hJx3⟩)
      · have hn3 : Kp2 Bs Bn W W3 := hnx.trans hk3
        have hBs3 := (World.cell?_of_block (w := W) hn3.1).trans hBs
        have hBn3 := (World.cell?_of_block (w := W) hn3.2).trans hBn
        gi_wp2
        go_roundw
        case rel =>
          refine ⟨k + 1, hlt, by rw [hk2, Int.natCast_add, Int.natCast_mul], ?_, hn3⟩
          rw [List.take_add_one, List.getElem?_eq_getElem (by rw [List.length_finRange]; exact hlt), List.getElem_finRange]
          exact hJ3
        case measure =>
          have e1 : (Go.RowKit.intOf (.int .i64 ((k : Int) * wd + wd))).toNat = k * wd + wd := by
            show ((k : Int) * wd + wd).toNat = _
            rw [← Int.natCast_mul, ← Int.natCast_add]; exact Int.toNat_natCast _
          have e2 : (Go.RowKit.intOf (.int .i64 ((k * wd : Nat) : Int))).toNat = k * wd := Int.toNat_natCast _
          rw [e1, e2]; omega
      · gi_wp2
        refine bodyPost_ret (results_none rfl _ _ _) rfl ?_
        exact ⟨⟨_, rfl⟩, .inr ⟨_, trivial, hJx3⟩⟩
    · obtain rfl : k = H := by omega
      gi_wp2
      go_end0
      exact ⟨⟨_, rfl⟩, .inl ⟨_, rfl, by rw [List.take_of_length_le (by rw [List.length_finRange]; exact Nat.le_refl _)] at hJs; exact hJs⟩⟩

theorem ownGrown_drewN (w : World) (n : Nat) : w.grownBy (w.drewN n) none := ⟨rfl, rfl, rfl, Nat.le_refl _, fun _ _ _ => rfl⟩

theorem chunk_stops (n : Nat) (hn : 1 ≤ n) (Bs Bn b o cap wd H : Nat) (hw1 : 1 ≤ wd) (hH : H * wd ≤ 4194304) (hcap : H * wd ≤ cap) (w : World) (hBs0 : Bs < w.heap.size) (hBn0 : Bn < w.heap.size)
    (hBs : w.cell? ⟨Bs, 0, none⟩ = some (.slice (some ⟨b, o, none⟩) (H * wd) cap)) (hBn : w.cell? ⟨Bn, 0, none⟩ = some (.int .i64 wd)) :
    SeqStopsK Fence.wide n Tryz.prog 84 #[.pointer (some ⟨Bs, 0, none⟩), .pointer (some ⟨Bn, 0, none⟩)] (fun x : Fin H => #[rowV b o wd x.1]) (Kp2 Bs Bn) (fun ys => ys = List.finRange H) (fun _ => True) H w := fun l J Jx W hW hJ _ hY h0 =>
  chunk1_in n hn l Bs Bn b o cap wd H hw1 hH hcap J Jx (fun pre W n h => hJ pre W _ none h (ownGrown_drewN W n) (fun r e => by cases e)) hY W ((hW.cell (p := ⟨Bs, 0, none⟩) hBs0).trans hBs)
    ((hW.cell (p := ⟨Bn, 0, none⟩) hBn0).trans hBn) h0

/-! ### PatchText -/

def digsL (dig : List Int → Option (List UInt8)) : List (List Int) → Option (List (List UInt8))
  | [] => some []
  | r :: rs => (dig r).bind fun s => (digsL dig rs).bind fun t => some (s :: t)

theorem digsL_get {dig : List Int → Option (List UInt8)} : ∀ {rs : List (List Int)} {ds : List (List UInt8)}, digsL dig rs = some ds → ds.length = rs.length ∧ ∀ (k : Nat) r, rs[k]? = some r → ∃ s, dig r = some s ∧ ds[k]? = some s
  | [], ds, h => by
    cases h
    exact ⟨rfl, fun k r h => by simp at h⟩
  | r :: rs, ds, h => by
    obtain ⟨s, hs, h⟩ := Option.bind_eq_some_iff.1 h
    obtain ⟨t, ht, h⟩ := Option.bind_eq_some_iff.1 h
    cases h
    obtain ⟨h1, h2⟩ := digsL_get ht
    refine ⟨by simp [h1], fun k q hq => ?_⟩
    match k, hq with
    | 0, hq => exact ⟨s, by simp at hq; rw [← hq]; exact hs, rfl⟩
    | k + 1, hq => exact h2 k q (by simpa using hq)

/-- The text of some rows. -/
def textOf {H : Nat} (ds : List (List UInt8)) (pre : List (Fin H)) : List UInt8 := pre.flatMap fun x => (ds[x.1]?.getD []) ++ [10]

theorem textOf_snoc {H : Nat} {ds : List (List UInt8)} {pre : List (Fin H)} {x : Fin H} {y : List UInt8} (h : ds[x.1]? = some y) : textOf ds (pre ++ [x]) = textOf ds pre ++ (y ++ [10]) := by
  unfold textOf
  rw [List.flatMap_append]
  simp [h]

theorem textOf_le {H : Nat} {ds : List (List UInt8)} (h : ds.all (fun d => decide (d.length ≤ 4096)) = true) (pre : List (Fin H)) : (textOf ds pre).length ≤ pre.length * 4097 := by
  unfold textOf
  induction pre with
  | nil => simp
  | cons x pre ih =>
    have h2 : (ds[x.1]?.getD []).length ≤ 4096 := by
      cases hd : ds[x.1]? with
      | none => simp
      | some d => exact of_decide_eq_true (List.all_eq_true.1 h d (List.mem_of_getElem? hd))
    rw [List.flatMap_cons, List.length_append, List.length_append]
    simp only [List.length_cons, List.length_nil]
    omega

theorem textOf_all {H : Nat} {ds : List (List UInt8)} (h : ds.length = H) : textOf ds (List.finRange H) = ds.flatMap (· ++ [10]) := by
  subst h
  unfold textOf
  have e : ds = (List.finRange ds.length).map fun x => ds[x.1]?.getD [] := by
    apply List.ext_getElem
    · simp
    · intro i h1 h2
      simp [h1]
  conv => rhs; rw [e]
  rw [List.flatMap_map]

/-- The rows of so many numbers. -/
def rowsOf (wd : Nat) (xs : List Int) : List (List Int) := (List.range (xs.length / wd)).map fun k => (xs.drop (k * wd)).take wd

noncomputable def ptxX (p : Int × Int × List Int) : Option (List UInt8 × Int) := (Pre.impl_IsPatch p).bind fun q => match q with
  | false => some ([], 1)
  | true => if (1 ≤ p.1 ∧ p.1 ≤ 4096) ∧ p.2.2.length ≤ 4194304 ∧ p.2.2.length % p.1.toNat = 0 ∧ 1 ≤ p.2.2.length then (digsL Pre.impl_digitsText (rowsOf p.1.toNat p.2.2)).bind fun ds => if ds.all (fun d => decide (d.length ≤ 4096)) = true then some (ds.flatMap (· ++ [10]), 0) else none else none

theorem Nums.row {n0 : Nat} {W : World} {b o cap wd k H : Nat} {xs : List Int} (hl : xs.length = H * wd) (hk : k < H) (h : Nums n0 W (.slice (some ⟨b, o, none⟩) xs.length cap) xs) : Nums n0 W (rowV b o wd k) ((xs.drop (k * wd)).take wd) := by
  have hk1 : (k + 1) * wd ≤ H * wd := Nat.mul_le_mul_right _ hk
  have hk2 : (k + 1) * wd = k * wd + wd := Nat.succ_mul _ _
  rcases h with ⟨h, _⟩ | ⟨b', o', cap', h, hle, hb, hs, hc⟩
  · cases h
  · cases h
    have hlen : ((xs.drop (k * wd)).take wd).length = wd := by rw [List.length_take, List.length_drop]; omega
    refine .inr ⟨b, o + k * wd, wd, by unfold rowV; rw [hlen], by rw [hlen]; exact Nat.le_refl _, fun h => hb (by omega), fun j hj => ?_, fun i x hi => ?_⟩
    · rw [Nat.add_assoc]; exact hs _ (by omega)
    · have hi2 : i < wd := by have := (List.getElem?_eq_some_iff.1 hi).1; rw [hlen] at this; exact this
      rw [List.getElem?_take_of_lt hi2, List.getElem?_drop] at hi
      rw [Nat.add_assoc]; exact hc _ _ hi

theorem round_done {H : Nat} {w w1 W0 W w' : World} {f : List (Fin H) → List UInt8} {pre : List (Fin H)} {x : Fin H} {y : List UInt8} (hbd : Below W.drew.heap.size W.drew w') (hB : Below w.heap.size w W) (hww : w.heap.size ≤ w1.heap.size) (hsW : W0.heap.size ≤ W.heap.size) (hsz : W0.heap.size = w1.heap.size + 3)
    (hcw : w'.cell? ⟨w1.heap.size, 0, none⟩ = some (.string ⟨(f pre).toArray⟩)) (hfw : w'.frozen? ⟨w1.heap.size, 0, none⟩ = false) (hf : f (pre ++ [x]) = f pre ++ (y ++ [10])) :
    KeepsFrom W0.heap.size W (w'.setCell ⟨w1.heap.size, 0, none⟩ (.string (⟨(f pre).toArray⟩ ++ (⟨y.toArray⟩ ++ ⟨#[10]⟩)))) ∧ Kp2 (w1.heap.size + 1) (w1.heap.size + 1 + 1) W (w'.setCell ⟨w1.heap.size, 0, none⟩ (.string (⟨(f pre).toArray⟩ ++ (⟨y.toArray⟩ ++ ⟨#[10]⟩)))) ∧
      (((w'.setCell ⟨w1.heap.size, 0, none⟩ (.string (⟨(f pre).toArray⟩ ++ (⟨y.toArray⟩ ++ ⟨#[10]⟩)))).cell? ⟨w1.heap.size, 0, none⟩ = some (.string ⟨(f (pre ++ [x])).toArray⟩) ∧ (w'.setCell ⟨w1.heap.size, 0, none⟩ (.string (⟨(f pre).toArray⟩ ++ (⟨y.toArray⟩ ++ ⟨#[10]⟩)))).frozen? ⟨w1.heap.size, 0, none⟩ = false ∧
        W0.heap.size ≤ (w'.setCell ⟨w1.heap.size, 0, none⟩ (.string (⟨(f pre).toArray⟩ ++ (⟨y.toArray⟩ ++ ⟨#[10]⟩)))).heap.size) ∧ Below w.heap.size w (w'.setCell ⟨w1.heap.size, 0, none⟩ (.string (⟨(f pre).toArray⟩ ++ (⟨y.toArray⟩ ++ ⟨#[10]⟩))))) := by
  have hbW : Below W.heap.size W w' := ⟨hbd.os, hbd.tape, hbd.output, hbd.size, hbd.block⟩
  have hK := (⟨hbW.size, fun k o hk ho => (hbW.block k (Array.getElem?_eq_some_iff.1 hk).1).trans hk⟩ : KeepsOthers W w').trans (KeepsOthers.setCell w' ⟨w1.heap.size, 0, none⟩ (.string (⟨(f pre).toArray⟩ ++ (⟨y.toArray⟩ ++ ⟨#[10]⟩))))
  refine ⟨hK.from _, ⟨(Below.heap_setCell _ _ _ _ (by show w1.heap.size + 1 ≠ w1.heap.size; omega)).trans (hbW.block _ (by omega)), (Below.heap_setCell _ _ _ _ (by show w1.heap.size + 1 + 1 ≠ w1.heap.size; omega)).trans (hbW.block _ (by omega))⟩, ⟨?_, ?_, Nat.le_trans hsW hK.size⟩, (hB.trans (hbW.mono hB.size)).setCell (p := ⟨w1.heap.size, 0, none⟩) hww _⟩
  · rw [World.cell?_setCell_same' _ _ _ (by rw [hcw]; rfl), hf]
    congr 2
  · rw [World.frozen?_setCell]; exact hfw

set_option maxRecDepth 100000 in
set_option maxHeartbeats 4000000 in
theorem pat_calls (w : World) (hH : HeldW Pre.env w) {p0 p1 : Int} {a : Option Addr} {len cap : Nat} {xs : List Int} {y : List UInt8 × Int} (hn : Nums w.heap.size w (.slice a len cap) xs) (h : ptxX (p0, p1, xs) = some y) :
    Calls Tryz.prog 18 #[.agg #[.int .i64 p0, .int .i64 p1, .slice a len cap]] w fun e w' => e = .returned (.tuple #[.string ⟨y.1.toArray⟩, .int .i64 y.2]) ∧ Below w.heap.size w w' := by
  refine (callsIn_wide (n := 6)).1 ?_
  refine callsIn_of_wp_marks Tryz.func18 rfl trivial ?_ rfl
  simp only [Tryz.ntmps18, List.size_toArray, List.length_cons, List.length_nil, Nat.reduceAdd, Nat.reduceSub, Array.replicate_succ, Array.replicate_zero, List.push_toArray, List.append_toArray, List.nil_append, List.cons_append]
  obtain ⟨q, hq, h⟩ := Option.bind_eq_some_iff.1 h
  obtain ⟨W1, hW1⟩ : ∃ W1, w.alloc (.cells #[.int .i64 p0, .int .i64 p1, .slice a len cap] 43) = W1 := ⟨_, rfl⟩
  have hB1 : Below w.heap.size w W1 := by rw [← hW1]; exact (Below.refl _ w).alloc (Nat.le_refl _) _
  have hs1 : W1.heap.size = w.heap.size + 1 := by rw [← hW1]; simp
  have hcall := isp_calls W1 (held_below hB1 hH) ((hn.below hB1).mono (by omega)) hq
  have hnew : W1.heap[w.heap.size]? = some (.cells #[.int .i64 p0, .int .i64 p1, .slice a len cap] 43 (0, 0)) := by rw [← hW1]; exact Array.getElem?_push_size ..
  have hc0 : W1.cell? ⟨w.heap.size, 0, none⟩ = some (.int .i64 p0) := by unfold World.cell?; simp only [hnew]; rfl
  have hc1 : W1.cell? ⟨w.heap.size, 1, none⟩ = some (.int .i64 p1) := by unfold World.cell?; simp only [hnew]; rfl
  have hc2 : W1.cell? ⟨w.heap.size, 2, none⟩ = some (.slice a len cap) := by unfold World.cell?; simp only [hnew]; rfl
  cases q with
  | false =>
    cases h
    gi_wp2_with (refine ⟨trivial, ?_⟩; gi_at_call 24; refine (callsIn_wide.2 hcall).mono ?_; rintro e w1 ⟨rfl, hb1⟩)
    exact ⟨_, results_tmp2 rfl _ _ _, rfl, hB1.trans (hb1.mono hB1.size)⟩
  | true =>
    simp only at h
    split at h
    · rename_i hc
      obtain ⟨⟨hp1, hp2⟩, hl1, hmod, hl2⟩ := hc
      obtain ⟨ds, hds, h⟩ := Option.bind_eq_some_iff.1 h
      obtain ⟨hall, h⟩ := if_some h
      cases h
      obtain ⟨wd, rfl⟩ : ∃ wd : Nat, p0 = (wd : Int) := ⟨p0.toNat, by omega⟩
      rw [Int.toNat_natCast] at hmod hds
      rcases hn with ⟨_, e⟩ | ⟨b, o, cap', hsl, hcl, hb0, hcs, hci⟩
      · rw [e] at hl2; simp at hl2
      obtain ⟨H, hHe⟩ : ∃ H, H = xs.length / wd := ⟨_, rfl⟩
      have hH : xs.length = H * wd := by rw [hHe, Nat.div_mul_cancel (Nat.dvd_of_mod_eq_zero hmod)]
      rw [show rowsOf wd xs = (List.range H).map fun k => (xs.drop (k * wd)).take wd by rw [hHe]; rfl] at hds
      rw [hH] at hsl hcl hl1 hl2
      clear hmod hHe
      cases hsl
      gi_wp2_with (first
        | (refine ⟨trivial, ?_⟩; gi_at_call 24; refine (callsIn_wide.2 hcall).mono ?_; rintro e w1 ⟨rfl, hb1⟩
           have hB2 : Below W1.heap.size W1 (w1.alloc (.cells #[.string ⟨#[]⟩] 9)) := hb1.alloc hb1.size _
           have hd0 := (hB2.cell (p := ⟨w.heap.size, 0, none⟩) (by show w.heap.size < W1.heap.size; omega)).trans hc0
           have hd2 := (hB2.cell (p := ⟨w.heap.size, 2, none⟩) (by show w.heap.size < W1.heap.size; omega)).trans hc2)
        | (refine ⟨trivial, ?_⟩; gi_at_call 52; refine (chunk_in Fence.wide _ trivial rfl _ _ _ _ hp1 _).mono ?_; rintro e w' ⟨rfl, rfl⟩))
      obtain ⟨hdl, hdg⟩ := digsL_get hds
      obtain ⟨W0, hW0⟩ : ∃ W0, ((w1.alloc (.cells #[.string ⟨#[]⟩] 9)).alloc (.cells #[.slice (some ⟨b, o, none⟩) (H * wd) cap] 24)).alloc (.cells #[.int .i64 wd] 3) = W0 := ⟨_, rfl⟩
      have hsz : W0.heap.size = w1.heap.size + 3 := by rw [← hW0]; simp
      have hB0 : Below w1.heap.size w1 W0 := by
        rw [← hW0]; exact (((Below.refl _ w1).alloc (Nat.le_refl _) _).alloc (by simp) _).alloc (by simp; omega) _
      have hww : w.heap.size ≤ w1.heap.size := Nat.le_trans hB1.size hb1.size
      have hBw : Below w.heap.size w W0 := (hB1.trans (hb1.mono hB1.size)).trans (hB0.mono (Nat.le_trans hB1.size hb1.size))
      have bS := ((Boxed.new w1 9 (.string ⟨#[]⟩)).alloc (.cells #[.slice (some ⟨b, o, none⟩) (H * wd) cap] 24)).alloc (.cells #[.int .i64 wd] 3)
      have bX := (Boxed.new (w1.alloc (.cells #[.string ⟨#[]⟩] 9)) 24 (.slice (some ⟨b, o, none⟩) (H * wd) cap)).alloc (.cells #[.int .i64 wd] 3)
      have bN := Boxed.new ((w1.alloc (.cells #[.string ⟨#[]⟩] 9)).alloc (.cells #[.slice (some ⟨b, o, none⟩) (H * wd) cap] 24)) 3 (.int .i64 wd)
      rw [hW0] at bS bX bN ⊢
      simp only [World.size_alloc] at bX bN
      refine wpIn_rangeFunc_ownG rfl (by omega) (gf := 84) (lb := #[.pointer (some ⟨w1.heap.size + 1, 0, none⟩), .pointer (some ⟨w1.heap.size + 1 + 1, 0, none⟩)]) rfl trivial (enters_of Tryz.func84 (by kernel_rfl) rfl)
        (chunk_stops 5 (by omega) (w1.heap.size + 1) (w1.heap.size + 1 + 1) b o cap wd H (by omega) hl1 hcl W0 (by omega) (by omega) bX.cell bN.cell) Kp2.trans (Kp2.put (by omega) (by omega)) (Below.refl _ _) (fun _ => rfl)
        (fun pre W => (W.cell? ⟨w1.heap.size, 0, none⟩ = some (.string ⟨(textOf ds pre).toArray⟩) ∧ W.frozen? ⟨w1.heap.size, 0, none⟩ = false ∧ W0.heap.size ≤ W.heap.size) ∧ Below w.heap.size w W)
        (fun _ _ _ => False)
        (OwnFrom.and (Own.from (fun s A B row hs hg hr => ⟨cell_kept hs.1 hg hr, (frozen_kept hs.1 hg hr).trans hs.2.1, Nat.le_trans hs.2.2 hg.size⟩) _) (ownFrom_below (Nat.le_refl _) (by rw [hsz]; omega)))
        (fun _ _ _ _ _ hs _ _ => hs)
        ⟨⟨bS.cell, bS.frozen, Nat.le_refl _⟩, hBw⟩
        (fun x => { tmps := #[.agg #[.int .i64 wd, .int .i64 p1, .slice (some ⟨b, o, none⟩) (H * wd) cap], .pointer (some ⟨w.heap.size, 0, none⟩), .string ⟨#[]⟩, .int .i64 0, .pointer (some ⟨w1.heap.size, 0, none⟩), rowV b o wd x.1, .agg #[.int .i64 wd, .int .i64 p1, .slice (some ⟨b, o, none⟩) (H * wd) cap], .bool true, .bool false, .pointer (some ⟨w.heap.size, 2, none⟩), .slice (some ⟨b, o, none⟩) (H * wd) cap, .pointer (some ⟨w.heap.size, 0, none⟩), .int .i64 wd, .func (.func 84) #[] #[.pointer (some ⟨w1.heap.size + 1, 0, none⟩), .pointer (some ⟨w1.heap.size + 1 + 1, 0, none⟩)], rowV b o wd x.1, undef, undef, undef, undef, undef, undef], defers := [] }) ?assign ?body ?done ?stop
      case assign =>
        intro l x W K hK
        gi_wp2
        exact hK
      case body =>
        rintro l pre x W ⟨⟨hc, hf, hsW⟩, hB⟩ hpl
        obtain ⟨y, hy, hdy⟩ := hdg x.1 ((xs.drop (x.1 * wd)).take wd) (by rw [List.getElem?_map, List.getElem?_range x.2]; rfl)
        have hHW : HeldW Pre.env W := held_below hB ‹HeldW Pre.env w›
        have hNW : Nums W.heap.size W (rowV b o wd x.1) ((xs.drop (x.1 * wd)).take wd) := by
          refine (Nums.row (cap := cap) hH x.2 ?_ : Nums w.heap.size W _ _).mono hB.size
          exact Nums.below hB (.inr ⟨b, o, cap, rfl, (by rw [hH]; exact hcl), hb0, hcs, hci⟩)
        have hlt : w1.heap.size < W.heap.size := by omega
        have hyl : y.length ≤ 4096 := of_decide_eq_true (List.all_eq_true.1 hall y (List.mem_of_getElem? hdy))
        have hHl : H ≤ 4194304 := Nat.le_trans (Nat.le_mul_of_pos_right _ (by omega)) hl1
        have htl : (textOf ds pre).length ≤ 17188257792 := by have := textOf_le hall pre; omega
        have hmx : Tryz.prog.follows .mixedOrders = true := by kernel_rfl
        gi_wp2
        gi_region_with_o (refine ⟨trivial, ?_⟩; gi_at_call 53; refine (CallsIn.inRound l (callsIn_wide.2 (dig_calls _ (by exact hHW) (by exact hNW) hy))).mono ?_; rintro e w' ⟨rfl, hbd⟩; have hcw := (hbd.cell (p := ⟨w1.heap.size, 0, none⟩) hlt).trans hc; have hfw := (hbd.frozen (p := ⟨w1.heap.size, 0, none⟩) hlt).trans hf)
        all_goals gi_wp2
        all_goals (try go_bits)
        all_goals exact round_done hbd hB hww hsW hsz hcw hfw (textOf_snoc hdy)
      case done =>
        rintro D ys W hD rfl ⟨⟨hc, hf, hsW⟩, hB⟩ hK
        gi_wp2
        refine ⟨by simp, .inl ⟨_, _, rfl, run_takeDeferred hK, ?_⟩⟩
        refine ⟨_, results_tmp2 rfl _ _ _, ?_, hB.trans (belowK_b (w := w) (Nat.le_refl _) W D _ _ (by omega) hK rfl rfl)⟩
        rw [textOf_all (by rw [hdl, List.length_map, List.length_range])]
        rfl
      case stop =>
        rintro D c pre W _ _ h _
        exact h.elim
    · cases h

/-! ### The callee for the interpreter -/

abbrev cdPat : Cd := .pair (.i .i64) (.pair (.i .i64) (.list (.i .i64)))

def ptxI (f : FuncId) : FI := ⟨f, [.d cdPat true], [⟨.str, false, 0⟩, ⟨.i .i64, false, 0⟩]⟩

open Classical in
noncomputable def ptxF (f : FuncId) (k : (i : FI) → Dom (.fn i) → Option (Cod (.fn i))) : (i : FI) → Dom (.fn i) → Option (Cod (.fn i)) := fun i x =>
  if h : i = ptxI f then (match i, h, x with | _, rfl, x => (ptxX x : Option (List UInt8 × Int)))
  else k i x

theorem ptxF_eq {f : FuncId} {k : (i : FI) → Dom (.fn i) → Option (Cod (.fn i))} (x : Int × Int × List Int) : ptxF f k (ptxI f) x = ptxX x := by
  unfold ptxF
  rw [dif_pos rfl]

theorem ptxF_ne {f : FuncId} {k : (i : FI) → Dom (.fn i) → Option (Cod (.fn i))} {i : FI} (h : i.f ≠ f) (x : Dom (.fn i)) : ptxF f k i x = k i x := by
  unfold ptxF
  rw [dif_neg fun e => h (by rw [e]; rfl)]

theorem ptxF_ok {E : Env} {f : FuncId} {k : (i : FI) → Dom (.fn i) → Option (Cod (.fn i))} (hk : ∀ i x y, k i x = some y → MFn E i x y)
    (hs : ∀ x y, ptxX x = some y → MFn E (ptxI f) x y) (i : FI) (x : Dom (.fn i)) (y : Cod (.fn i)) (h : ptxF f k i x = some y) : MFn E i x y := by
  unfold ptxF at h
  split at h
  · rename_i he
    subst he
    exact hs _ _ h
  · exact hk i x y h

theorem ptx_mfn {E : Env} (hE : E.P = Tryz.prog) (hl : E.loose = true) (ht : ∀ p ∈ Pre.env.tabs, p ∈ E.tabs) {x : Int × Int × List Int} {y : List UInt8 × Int} (h : ptxX x = some y) : MFn E (ptxI 18) x y := by
  refine ⟨⟨_, by rw [hE]; exact Tryz.func18, by kernel_rfl⟩, fun A g0 vs hH hsz hM hT hpin => ?_⟩
  have hdm := hH.2.2 hl
  obtain ⟨p0, p1, xs⟩ := x
  obtain ⟨arr, e0, hall⟩ : ∃ arr : Array Value, vs.getD 0 undef = .agg arr ∧ All2 (SR (cxOf A g0 (mkA 0 (ptxI 18).as (p0, p1, xs)).bk A.w0)) [.int .i64 p0, .int .i64 p1, .ps 1 (.i .i64) xs] arr.toList := hT 0
  have hs1 : vs.size = 1 := hsz
  have hvs : vs = #[.agg arr] := by
    apply Array.ext
    · simp [hs1]
    · intro i h3 h4
      match i, h3 with
      | 0, h3 =>
        rw [Array.getD_eq_getD_getElem?, Array.getElem?_eq_getElem h3] at e0
        simpa using e0
      | i + 1, h3 => omega
  obtain ⟨l⟩ := arr
  match l, hall with
  | [v0, v1, v2], hall =>
    obtain ⟨h0, h1, h2, _⟩ := hall
    have h0 : v0 = .int .i64 p0 := h0
    have h1 : v1 = .int .i64 p1 := h1
    subst h0 h1
    have hn := Nums.of_dr h2
    have hH1 : HeldW Pre.env A.w0 := fun p hp => hH.1 p (ht p hp)
    have key : ∀ {a : Option Addr} {len cap : Nat}, v2 = .slice a len cap → Calls E.P (ptxI 18).f vs A.w0 fun e w' => ∃ v, e = .returned v ∧ FinR A (ptxI 18) y v w' := fun hv => by
      subst hv
      rw [show (ptxI 18).f = 18 from rfl, hvs, hE]
      refine (pat_calls A.w0 hH1 hn h).mono fun e w' ⟨he, hb⟩ => ⟨_, he, ?_⟩
      exact ⟨⟨hb.os, ⟨hb.tape, fun e => by rw [hdm] at e; cases e⟩, hb.output, hb.size, fun b hb' _ => hb.block b hb'⟩, fun _ => False, ⟨[_, _], rfl, ⟨.inl ⟨rfl, rfl⟩, fun _ => trivial⟩, ⟨.inl ⟨rfl, rfl⟩, fun _ => trivial⟩, rfl⟩, trivial⟩
    rcases hn with ⟨e, _⟩ | ⟨b, o, cap, e, _⟩
    · exact key e
    · exact key e

end Ai
end Go.Proofs.YtopigbmamejklaaGreatDoor
