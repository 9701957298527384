/-
  impl.ListUpTo by a walk: the patterns that it lists lie in new blocks, all different.
-/
import Derived.Test.YtpboclokodgnlaaGreatA45
import Derived.Laws.NewBlocks
namespace Go.Proofs.YtpboclokodgnlaaGreat
namespace Ai
open Go.Shelf Go.RowKit Go.Lib
set_option linter.unusedSimpArgs false
set_option linter.unusedVariables false

attribute [local go_sem] Oper.semAt_some World.frozen?_setCell

/-- Without a panic. -/
def noP (Q : Exit → Act → World → Prop) : Exit → Act → World → Prop
  | .normal, a, w => Q .normal a w
  | .ret, a, w => Q .ret a w
  | .exit i, a, w => Q (.exit i) a w
  | .goto i, a, w => Q (.goto i) a w
  | .outgrown, a, w => Q .outgrown a w
  | .panic _, _, _ => False

theorem noP_le {Q : Exit → Act → World → Prop} : ∀ (e : Exit) (a : Act) (w : World), noP Q e a w → Q e a w
  | .normal, _, _, h => h
  | .ret, _, _, h => h
  | .exit _, _, _, h => h
  | .goto _, _, _, h => h
  | .outgrown, _, _, h => h
  | .panic _, _, _, h => h.elim

/-- The marks of loops over functions. -/
def MarksW (base : Nat) (w : World) : List Deferred → Prop
  | [] => True
  | d :: ds => (∃ D, d.target = .collected D ∧ base ≤ D ∧ w.heap[D]? = some (.deferred (some [])) ∧ ∀ d' ∈ ds, d'.target ≠ .collected D) ∧ MarksW base w ds

theorem MarksW.kept {base : Nat} {w w' : World} (h : ∀ D : Nat, w.heap[D]? = some (Obj.deferred (some [])) → w'.heap[D]? = w.heap[D]?) : ∀ {ds : List Deferred}, MarksW base w ds → MarksW base w' ds
  | [], _ => trivial
  | d :: ds, ⟨⟨D, h1, h2, h3, h4⟩, hr⟩ => ⟨⟨D, h1, h2, (h D h3).trans h3, h4⟩, MarksW.kept h hr⟩

theorem MarksW.lt {base : Nat} {w : World} : ∀ {ds : List Deferred}, MarksW base w ds → ∀ d ∈ ds, ∀ D, d.target = .collected D → D < w.heap.size
  | d :: ds, ⟨⟨D, h1, h2, h3, h4⟩, hr⟩, d', hd, D', he => by
    rcases List.mem_cons.1 hd with rfl | hd
    · rw [h1] at he
      cases he
      exact (Array.getElem?_eq_some_iff.1 h3).1
    · exact MarksW.lt hr d' hd D' he

/-- The digits of a number. -/
def digs (k : Int) (ix i : Nat) : List Int := (digX k (i : Int) (List.replicate ix 0)).1

/-- The patterns that are listed up to a number. -/
def listP (f : Int) (l : Int × Int × Int) (k : Int) (ix : Nat) (fst : Nat → Bool) (i : Nat) : List PtV := ((List.range i).filter fst).map fun j => (f, l, digs k ix j)

theorem listP_succ (f : Int) (l : Int × Int × Int) (k : Int) (ix : Nat) (fst : Nat → Bool) (i : Nat) : listP f l k ix fst (i + 1) = listP f l k ix fst i ++ cond (fst i) [(f, l, digs k ix i)] [] := by
  unfold listP
  rw [List.range_succ, List.filter_append, List.map_append]
  cases h : fst i <;> simp [h]

/-- The loop's state in memory. -/
structure LI (base : Nat) (W w : World) (B5 B7 : Nat) (l : Int × Int × Int) (k : Int) (ps0 : List PtV) (v : Value) (ds : List Deferred) : Prop where
  below : Below base W w
  hl : w.heap[B5]? = some (.cells #[.int .i64 l.1, .int .i64 l.2.1, .int .i64 l.2.2] 29 (0, 0))
  hk : w.heap[B7]? = some (.cells #[.int .i64 k] 2 (0, 0))
  pats : ∃ ps, Pats base w v ps ∧ ps.map (·.1) = ps0
  marks : MarksW base w ds

theorem dat_holds {b sz : Nat} {t : TypeId} {xs : List Int} {w : World} {n1 : Nat} (h : Holds b 0 t sz xs w) (hsz : sz = xs.length) (hn : n1 ≤ b) : Dat n1 w.heap.size w (.list (.i .i64)) xs [.slice (some ⟨b, 0, none⟩) xs.length xs.length] := by
  refine .inr ⟨b, 0, xs.length, rfl, Nat.le_refl _, fun _ => ⟨⟨hn, h.lt⟩, h.lt⟩, fun j hj => ?_, fun i x hx => ⟨[.int .i64 x], rfl, fun j v hv => ?_⟩⟩
  · have hj : j < xs.length := by simpa [csize] using hj
    rw [h.cell (List.getElem?_eq_getElem hj)]
    rfl
  · cases j with
    | zero =>
      simp at hv
      subst hv
      have := h.cell hx
      simpa [csize] using this
    | succ j => simp at hv

theorem digs_len (k : Int) (ix i : Nat) : (digs k ix i).length = ix := by
  unfold digs digX
  rw [dig_len]
  simp

theorem Dat.wider {n1 n2 m1 m2 : Nat} {w : World} {c : Cd} {x : El c} {cs : List Value} (hd : Dat n1 n2 w c x cs) (h1 : m1 ≤ n1) (h2 : n2 ≤ m2) : Dat m1 m2 w c x cs := hd.mono h1 h2

theorem cellB {w : World} {b j : Nat} {arr : Array Value} {t : TypeId} {v : Value} (h : w.heap[b]? = some (.cells arr t (0, 0))) (hv : arr[j]? = some v) : w.cell? ⟨b, j, none⟩ = some v := by
  unfold World.cell?
  simp only [h]
  exact hv

theorem li_other {base : Nat} {w10 w11 : World} {v : Value} {ps : List (PtV × Nat)} {o : Obj} (hP : Pats base w10 v ps) (hg : (w10.alloc o).grownBy w11 v.ownBlock) {b : Nat} {ob : Obj} (hb : w10.heap[b]? = some ob) (hne : ∀ cur q, ob ≠ .cells cur 55 q) : w11.heap[b]? = some ob := by
  have hlt := (Array.getElem?_eq_some_iff.1 hb).1
  rw [hg.block b (by rw [World.size_alloc]; omega) ?_, Below.heap_alloc _ _ _ hlt]
  · exact hb
  · intro e
    rcases hP.own.2 with ⟨hv, _⟩ | ⟨g, cap, cur, hv, _, hgg, _⟩
    · rw [hv] at e; cases e
    · rw [hv] at e
      have e : b = g := by simpa [Value.ownBlock] using e
      subst e
      rw [hb] at hgg
      cases hgg
      exact hne _ _ rfl

theorem li_step {base : Nat} {W w w10 : World} {B5 B7 : Nat} {l : Int × Int × Int} {k : Int} {P : List PtV} {v : Value} {ds : List Deferred} (hLI : LI base W w B5 B7 l k P v ds) (hbase : base ≤ w.heap.size) (hb : Below w.heap.size w w10) {D : Nat} (hD : w.heap.size ≤ D) (hDe : w10.heap[D]? = some (.deferred (some []))) :
    LI base W w10 B5 B7 l k P v ({ target := .collected D, args := #[] } :: ds) where
  below := ⟨hb.os.trans hLI.below.os, hb.tape.trans hLI.below.tape, hb.output.trans hLI.below.output, Nat.le_trans hLI.below.size hb.size, fun b hbb => (hb.block b (by omega)).trans (hLI.below.block b hbb)⟩
  hl := (hb.block B5 (Array.getElem?_eq_some_iff.1 hLI.hl).1).trans hLI.hl
  hk := (hb.block B7 (Array.getElem?_eq_some_iff.1 hLI.hk).1).trans hLI.hk
  pats := by
    obtain ⟨ps, h1, h2⟩ := hLI.pats
    exact ⟨ps, h1.kept hb, h2⟩
  marks := ⟨⟨D, rfl, by omega, hDe, fun d hd e => by have := hLI.marks.lt d hd D e; omega⟩, hLI.marks.kept fun D' hD' => hb.block D' (Array.getElem?_eq_some_iff.1 hD').1⟩

theorem li_app {base : Nat} {W w10 w11 : World} {B5 B7 : Nat} {l : Int × Int × Int} {k : Int} {P0 : List PtV} {v v' : Value} {ds : List Deferred} {ps : List (PtV × Nat)} {p : PtV} {BC : Nat} {o : Obj} (hLI : LI base W w10 B5 B7 l k P0 v ds) (hP : Pats base w10 v ps) (hps : ps.map (·.1) = P0) (hbase : base ≤ W.heap.size)
    (hBC : Holds BC 0 2 p.2.2.length p.2.2 w10) (hnew : base ≤ BC) (hfresh : ∀ x ∈ ps, x.2 ≠ BC) (hown : w11.ownsRow base 55 5 v' (ps.length + 1) (ps.flatMap rowP ++ rowP (p, BC))) (hg : (w10.alloc o).grownBy w11 v.ownBlock) :
    LI base W w11 B5 B7 l k (P0 ++ [p]) v' ds where
  below := by
    refine ⟨hg.os.trans hLI.below.os, hg.tape.trans hLI.below.tape, hg.output.trans hLI.below.output, Nat.le_trans hLI.below.size (Nat.le_trans (by rw [World.size_alloc]; omega) hg.size), fun b hb => ?_⟩
    have h10 : b < w10.heap.size := Nat.lt_of_lt_of_le (Nat.lt_of_lt_of_le hb hbase) hLI.below.size
    rw [hg.block b (by rw [World.size_alloc]; omega) ?_, Below.heap_alloc _ _ _ h10]
    · exact hLI.below.block b hb
    · intro e
      have := (hP.own.lt b e.symm).1
      omega
  hl := li_other hP hg hLI.hl fun cur q e => by cases e
  hk := li_other hP hg hLI.hk fun cur q e => by cases e
  pats := by
    refine ⟨ps ++ [(p, BC)], ⟨?_, fun x hx => ?_, ?_⟩, by simp [hps]⟩
    · rw [List.length_append, List.flatMap_append]
      simpa using hown
    · have hk : ∀ {b sz : Nat} {xs : List Int}, Holds b 0 2 sz xs w10 → Holds b 0 2 sz xs w11 := fun h => by
        obtain ⟨arr, h1, h2⟩ := h
        exact ⟨arr, li_other hP hg h1 (fun cur q e => by cases e), h2⟩
      rcases List.mem_append.1 hx with hx | hx
      · exact ⟨(hP.inner x hx).1, hk (hP.inner x hx).2⟩
      · rw [List.mem_singleton] at hx
        subst hx
        exact ⟨hnew, hk hBC⟩
    · rw [List.map_append, List.nodup_append]
      refine ⟨hP.dif, by simp, fun a ha b hb e => ?_⟩
      obtain ⟨x, hx, rfl⟩ := List.mem_map.1 ha
      simp at hb
      subst hb
      exact hfresh x hx e
  marks := hLI.marks.kept fun D hD => (li_other hP hg hD fun cur q e => by cases e).trans hD.symm

theorem news5 (V : World) (arr : Array Value) (t : TypeId) : ∀ (j : Nat) (u : Value), arr.toList[j]? = some u → (V.alloc (.cells arr t)).cell? ((⟨V.heap.size, 0, none⟩ : Addr).add j) = some u := fun j u hu => by
  have hadd : (⟨V.heap.size, 0, none⟩ : Addr).add j = ⟨V.heap.size, j, none⟩ := by unfold Addr.add; split <;> simp_all
  rw [hadd]
  exact cellB (t := t) (arr := arr) (Array.getElem?_push_size ..) (by simpa using hu)

theorem three {w W1 : World} {o0 : Obj} (h : w.alloc o0 = W1) (o1 o2 o3 : Obj) : Below w.heap.size w (((W1.alloc o1).alloc o2).alloc o3).drew ∧ (((W1.alloc o1).alloc o2).alloc o3).drew.heap[w.heap.size]? = some o0 ∧ (((W1.alloc o1).alloc o2).alloc o3).drew.heap[w.heap.size + 1]? = some o1 ∧
    (((W1.alloc o1).alloc o2).alloc o3).drew.heap[w.heap.size + 1 + 1]? = some o2 ∧ (((W1.alloc o1).alloc o2).alloc o3).drew.heap[w.heap.size + 1 + 1 + 1]? = some o3 := by
  subst h
  have e : (((((w.alloc o0).alloc o1).alloc o2).alloc o3).drew).heap = (((w.heap.push o0).push o1).push o2).push o3 := rfl
  refine ⟨⟨rfl, rfl, rfl, by rw [e]; simp; omega, fun b hb => ?_⟩, ?_, ?_, ?_, ?_⟩
  · rw [e, Array.getElem?_push, Array.getElem?_push, Array.getElem?_push, Array.getElem?_push]
    simp only [Array.size_push]
    rw [if_neg (by omega), if_neg (by omega), if_neg (by omega), if_neg (by omega)]
  · rw [e, Array.getElem?_push, Array.getElem?_push, Array.getElem?_push, Array.getElem?_push]
    simp only [Array.size_push]
    rw [if_neg (by omega), if_neg (by omega), if_neg (by omega), if_pos trivial]
  · rw [e, Array.getElem?_push, Array.getElem?_push, Array.getElem?_push]
    simp only [Array.size_push]
    rw [if_neg (by omega), if_neg (by omega), if_pos trivial]
  · rw [e, Array.getElem?_push, Array.getElem?_push]
    simp only [Array.size_push]
    rw [if_neg (by omega), if_pos trivial]
  · rw [e, Array.getElem?_push]
    simp only [Array.size_push]
    rw [if_pos trivial]

theorem holds_made {V : World} {b ix : Nat} {t : TypeId} (h : V.heap[b]? = some (.cells (madeCells #[.int .i64 0] ix) t (0, 0))) : Holds b 0 t ix (List.replicate ix 0) V := by
  refine ⟨_, h, size_madeCells _ _, fun i x hx => ?_⟩
  obtain ⟨hlt, rfl⟩ := List.getElem?_eq_some_iff.1 hx
  rw [List.length_replicate] at hlt
  rw [Nat.zero_add, List.getElem_replicate, ← Array.getElem?_toList, toList_madeCells_one, List.getElem?_replicate, if_pos hlt]

def InvL (base : Nat) (W : World) (B5 B7 : Nat) (f k : Int) (l : Int × Int × Int) (ga : Option Addr) (glen gcap N : Nat) (F : Nat → List PtV) (i : Nat) (a : Act) (w : World) : Prop :=
  ∃ (v u1 u3 u4 u6 u8 u9 u10 u12 u13 u14 u15 u16 u17 u18 u19 u20 u21 u22 u23 u24 u25 u26 u29 u30 u31 u32 u33 u34 u35 u36 u37 u38 u39 u40 u41 u42 u43 u44 u45 u46 u47 u48 u49 u50 u51 u52 u53 u54 u55 u56 u57 u58 u59 u60 : Value) (ds : List Deferred), a = { tmps := #[.int .i64 f, u1, .slice ga glen gcap, u3, u4, .pointer (some ⟨B5, 0, none⟩), u6, .pointer (some ⟨B7, 0, none⟩), u8, u9, u10, v, u12, u13, u14, u15, u16, u17, u18, u19, u20, u21, u22, u23, u24, u25, u26, .int .i64 (N : Int), .int .i64 (i : Int), u29, u30, u31, u32, u33, u34, u35, u36, u37, u38, u39, u40, u41, u42, u43, u44, u45, u46, u47, u48, u49, u50, u51, u52, u53, u54, u55, u56, u57, u58, u59, u60], defers := ds } ∧ LI base W w B5 B7 l k (F i) v ds

set_option maxRecDepth 100000 in
set_option maxHeartbeats 2000000 in
theorem list_round {c : Code} (hc : bodyAt Tryz.prog 8 0 = some c) {W : World} {f k : Int} {l : Int × Int × Int} {grp : List (El cdMot)} {ga : Option Addr} {glen gcap base B5 B7 N ix : Nat} {Q : Exit → Act → World → Prop} {fst : Nat → Bool}
    (hix : Pre.impl_Lattice_index l = some (ix : Int)) (hl0 : 1 ≤ ix) (hl1 : ix ≤ 4194304) (hk1 : 1 ≤ k) (hN : N ≤ 4194304) (hg : Dat 0 base W (.list cdMot) grp [.slice ga glen gcap]) (hbase : base ≤ W.heap.size)
    (hfst : ∀ j, j < N → Pre.impl_isFirst (f, l, digs k ix j) grp = some (fst j)) {i : Nat} {a : Act} {w : World} (hi : i < N) (hI : InvL base W B5 B7 f k l ga glen gcap N (listP f l k ix fst) i a w) :
    c.wpIn Fence.wide 6 Tryz.prog (Exit.then (InvL base W B5 B7 f k l ga glen gcap N (listP f l k ix fst) (i + 1)) (noP Q)) a w := by
  obtain ⟨v, u1, u3, u4, u6, u8, u9, u10, u12, u13, u14, u15, u16, u17, u18, u19, u20, u21, u22, u23, u24, u25, u26, u29, u30, u31, u32, u33, u34, u35, u36, u37, u38, u39, u40, u41, u42, u43, u44, u45, u46, u47, u48, u49, u50, u51, u52, u53, u54, u55, u56, u57, u58, u59, u60, ds, rfl, hLI⟩ := hI
  have hl := hLI.hl
  have hk := hLI.hk
  unfold bodyAt at hc
  rw [Tryz.func8] at hc
  simp only [Option.bind_some, Tryz.f8, loopAt, nloops, Nat.lt_irrefl, ↓reduceIte, Nat.zero_add, Nat.add_zero, Nat.sub_zero, Nat.sub_self, Nat.not_lt_zero, Nat.zero_lt_one, Nat.lt_add_one, Option.some.injEq] at hc
  subst hc
  have hb5 := (Array.getElem?_eq_some_iff.1 hl).1
  have hb7 := (Array.getElem?_eq_some_iff.1 hk).1
  obtain ⟨W1, hW1⟩ : ∃ W1, w.alloc (.cells #[.int .i64 (i : Int)] 2) = W1 := ⟨_, rfl⟩
  have hs1 : W1.heap.size = w.heap.size + 1 := by rw [← hW1]; simp
  have hold : ∀ b, b < w.heap.size → W1.heap[b]? = w.heap[b]? := fun b hb => by rw [← hW1]; exact Below.heap_alloc w _ b hb
  have hl1' := (hold B5 hb5).trans hl
  have hk1' := (hold B7 hb7).trans hk
  have c0 : W1.cell? ⟨B5, 0, none⟩ = some (.int .i64 l.1) := by unfold World.cell?; simp only [hl1']; rfl
  have c1 : W1.cell? ⟨B5, 1, none⟩ = some (.int .i64 l.2.1) := by unfold World.cell?; simp only [hl1']; rfl
  have c2 : W1.cell? ⟨B5, 2, none⟩ = some (.int .i64 l.2.2) := by unfold World.cell?; simp only [hl1']; rfl
  have ck : W1.cell? ⟨B7, 0, none⟩ = some (.int .i64 k) := by unfold World.cell?; simp only [hk1']; rfl
  have hix' : ∀ V, Calls Tryz.prog 24 #[.agg #[.int .i64 l.1, .int .i64 l.2.1, .int .i64 l.2.2]] V fun e w' => e = .returned (.int .i64 ix) ∧ w' = V.alloc (.cells #[.int .i64 l.1, .int .i64 l.2.1, .int .i64 l.2.2] 29) := fun V => by have := index_at V hix; unfold latV at this; exact this
  have hmx : Tryz.prog.follows .mixedOrders = true := by kernel_rfl
  have hmk : ∀ V : World, (Instr.makeSlice 43 (.int .i64 (ix : Int)) (.int .i64 (ix : Int))).run Tryz.prog V = .ok (.slice (some ⟨V.heap.size, 0, none⟩) ix ix) (V.alloc (.cells (madeCells #[.int .i64 0] ix) 2)) := fun V => by
    obtain ⟨i0, hi0, hz0, hz1, hz2⟩ := info_parts (P := Tryz.prog) (e := 2) (z := .int .i64 0) (size := 1) (bytes := 8) (by kernel_rfl)
    have := run_make (w := V) 43 2 i0 (.int .i64 0) (by kernel_rfl) hi0 hz0 .i64 .i64 (ix : Int) (ix : Int) (by omega) (Int.le_refl _) (by rw [hz2]; omega) (by omega)
    rw [hz1, Int.toNat_natCast, Nat.mul_one] at this
    exact this
  have n51 : B5 < w.heap.size + 1 := by omega
  have n52 : B5 < w.heap.size + 1 + 1 := by omega
  have n53 : B5 < w.heap.size + 1 + 1 + 1 := by omega
  have n54 : B5 < w.heap.size + 1 + 1 + 1 + 1 := by omega
  have hfi := hfst i hi
  have hK0 : ∀ (v' u1 u3 u4 u6 u8 u9 u10 u12 u13 u14 u15 u16 u17 u18 u19 u20 u21 u22 u23 u24 u25 u26 u29 u30 u31 u32 u33 u34 u35 u36 u37 u38 u39 u40 u41 u42 u43 u44 u45 u46 u47 u48 u49 u50 u51 u52 u53 u54 u55 u56 u57 u58 u59 u60 : Value) (ds' : List Deferred) (w' : World), LI base W w' B5 B7 l k (listP f l k ix fst (i + 1)) v' ds' → InvL base W B5 B7 f k l ga glen gcap N (listP f l k ix fst) (i + 1) { tmps := #[.int .i64 f, u1, .slice ga glen gcap, u3, u4, .pointer (some ⟨B5, 0, none⟩), u6, .pointer (some ⟨B7, 0, none⟩), u8, u9, u10, v', u12, u13, u14, u15, u16, u17, u18, u19, u20, u21, u22, u23, u24, u25, u26, .int .i64 (N : Int), .int .i64 ((i : Int) + 1), u29, u30, u31, u32, u33, u34, u35, u36, u37, u38, u39, u40, u41, u42, u43, u44, u45, u46, u47, u48, u49, u50, u51, u52, u53, u54, u55, u56, u57, u58, u59, u60], defers := ds' } w' := fun v' u1 u3 u4 u6 u8 u9 u10 u12 u13 u14 u15 u16 u17 u18 u19 u20 u21 u22 u23 u24 u25 u26 u29 u30 u31 u32 u33 u34 u35 u36 u37 u38 u39 u40 u41 u42 u43 u44 u45 u46 u47 u48 u49 u50 u51 u52 u53 u54 u55 u56 u57 u58 u59 u60 ds' w' h => ⟨v', u1, u3, u4, u6, u8, u9, u10, u12, u13, u14, u15, u16, u17, u18, u19, u20, u21, u22, u23, u24, u25, u26, u29, u30, u31, u32, u33, u34, u35, u36, u37, u38, u39, u40, u41, u42, u43, u44, u45, u46, u47, u48, u49, u50, u51, u52, u53, u54, u55, u56, u57, u58, u59, u60, ds', rfl, h⟩
  generalize InvL base W B5 B7 f k l ga glen gcap N (listP f l k ix fst) (i + 1) = K0 at hK0 ⊢
  gi_wp2
  rename_i K1 hK1 K2 hK2
  have hrest : ∀ (BP BC : Nat) (W8 : World) (x29 x30 x31 x32 x33 x34 x35 x36 : Value), Below w.heap.size w W8 → W8.heap[w.heap.size]? = some (.cells #[.int .i64 (i : Int)] 2 (0, 0)) →
      W8.heap[BP]? = some (.cells #[.int .i64 f, .int .i64 l.1, .int .i64 l.2.1, .int .i64 l.2.2, .slice (some ⟨BC, 0, none⟩) ix ix] 55 (0, 0)) → Holds BC 0 2 ix (List.replicate ix 0) W8 →
      w.heap.size < BP → w.heap.size < BC → BP ≠ BC → K2 { tmps := #[.int .i64 f, u1, .slice ga glen gcap, u3, u4, .pointer (some ⟨B5, 0, none⟩), u6, .pointer (some ⟨B7, 0, none⟩), u8, u9, u10, v, .pointer (some ⟨w.heap.size, 0, none⟩), .pointer (some ⟨BP, 0, none⟩), u14, u15, u16, u17, u18, u19, u20, u21, u22, u23, u24, u25, u26, .int .i64 (N : Int), .int .i64 (i : Int), x29, x30, x31, x32, x33, x34, x35, x36, u37, u38, u39, u40, u41, u42, u43, u44, u45, u46, u47, u48, u49, u50, u51, u52, u53, u54, u55, u56, u57, u58, u59, u60], defers := ds } W8 := by
    intro BP BC W8 x29 x30 x31 x32 x33 x34 x35 x36 hb8 hBN hBP hBC lp lc hne
    apply hK2
    clear hK2 hfst
    have hk8 : W8.heap[B7]? = some (.cells #[.int .i64 k] 2 (0, 0)) := (hb8.block B7 hb7).trans hk
    refine wpIn_seq (fill_wp (bn := w.heap.size) (bp := BP) (bk := B7) (bc := BC) (oc := 0) (cap := ix) (H := ix) (asz := ix) (n := (i : Int)) (k := k) (xs := List.replicate ix 0) ?hm hk1 (List.length_replicate ..) hl1 (Nat.le_refl _) hBN hBP hk8 hBC (by omega) (by omega) (by omega) hne (by omega) ?_)
    case hm =>
      unfold rfsOf
      rw [Tryz.func8]
      simp only [Option.bind_some, Tryz.f8, rfs, isRf, cond_true, cond_false, List.nil_append, List.append_nil, List.mem_singleton]
    intro D W9 v37 v38 v39 hD hDe hBN9 hBC9 hbut
    have hdl := digs_len k ix i
    have hBC9 : Holds BC 0 2 ix (digs k ix i) W9 := hBC9
    have hc8 := hBC.lt
    have hp8 : BP < W8.heap.size := (Array.getElem?_eq_some_iff.1 hBP).1
    have hs8 := hb8.size
    have hBP9 := (hbut.block BP hp8 (by omega) hne).trans hBP
    have hb9 : Below w.heap.size w W9 := ⟨hbut.os.trans hb8.os, hbut.tape.trans hb8.tape, hbut.output.trans hb8.output, Nat.le_trans hs8 hbut.size, fun b hb => (hbut.block b (by omega) (by omega) (by omega)).trans (hb8.block b hb)⟩
    have hs9 := hb9.size
    have hcol : Dat 0 W9.heap.size W9 (.list (.i .i64)) (digs k ix i) [.slice (some ⟨BC, 0, none⟩) ix ix] := by
      have := dat_holds hBC9 hdl.symm (Nat.zero_le BC)
      rwa [hdl] at this
    have hgrp : Dat 0 base W9 (.list cdMot) grp [.slice ga glen gcap] := (hg.below hLI.below).below ⟨hb9.os, hb9.tape, hb9.output, hs9, fun b hb => hb9.block b (Nat.lt_of_lt_of_le hb (Nat.le_trans hbase hLI.below.size))⟩
    have hfir := first_calls W9 (p := (f, l, digs k ix i)) (Nat.le_trans (Nat.le_trans hbase hLI.below.size) hs9) (Nat.le_refl _) hcol hgrp hfi
    have q0 := cellB (j := 0) hBP9 rfl
    have q1 := cellB (j := 1) hBP9 rfl
    have q2 := cellB (j := 2) hBP9 rfl
    have q3 := cellB (j := 3) hBP9 rfl
    have q4 := cellB (j := 4) hBP9 rfl
    unfold patV at hfir
    clear hix' hmk hcol hgrp hfi
    have hsW := hLI.below.size
    cases hy : fst i with
    | false =>
      rw [hy] at hfir
      gi_wp2_with (refine ⟨trivial, ?_⟩; gi_at_call 26; refine (callsIn_wide.2 hfir).mono ?_; rintro e w10 ⟨rfl, hb10⟩)
      rw [listP_succ, hy, cond_false, List.append_nil]
      exact li_step hLI (by omega) (hb9.trans (hb10.mono hs9)) (by omega) ((hb10.block D (Array.getElem?_eq_some_iff.1 hDe).1).trans hDe)
    | true =>
      rw [hy] at hfir
      obtain ⟨ps, hP, hps⟩ := hLI.pats
      have hpl : ps.length ≤ i := by
        have e := congrArg List.length hps
        rw [List.length_map] at e
        rw [e]
        unfold listP
        rw [List.length_map]
        exact Nat.le_trans (List.length_filter_le _ _) (by rw [List.length_range]; exact Nat.le_refl _)
      have hp9 : BP < W9.heap.size := (Array.getElem?_eq_some_iff.1 hBP9).1
      obtain ⟨i0, hi0, hz0, hz1, hz2⟩ := info_parts (P := Tryz.prog) (e := 55) (z := .agg #[.int .i64 0, .int .i64 0, .int .i64 0, .int .i64 0, .slice none 0 0]) (size := 5) (bytes := 56) (by kernel_rfl)
      have hu : Tryz.prog.underlying 26 = some (.slice 55) := by kernel_rfl
      gi_wp2_with (first
        | (refine ⟨trivial, ?_⟩; gi_at_call 26; refine (callsIn_wide.2 hfir).mono ?_; rintro e w10 ⟨rfl, hb10⟩; have r0 := (hb10.cell (p := ⟨BP, 0, none⟩) hp9).trans q0; have r1 := (hb10.cell (p := ⟨BP, 1, none⟩) hp9).trans q1; have r2 := (hb10.cell (p := ⟨BP, 2, none⟩) hp9).trans q2; have r3 := (hb10.cell (p := ⟨BP, 3, none⟩) hp9).trans q3; have r4 := (hb10.cell (p := ⟨BP, 4, none⟩) hp9).trans q4)
        | (gi_at_builtin; have hP10 := hP.kept (hb9.trans (hb10.mono hs9)); refine wpListIn_append_own _ rfl _ _ 26 rfl base 55 i0 _ 5 56 hu hi0 hz0 hz1 hz2 rfl (by decide) _ _ _ rfl (hP10.own.alloc _) ⟨w10.heap.size, 0, none⟩ 1 1 [.int .i64 f, .int .i64 l.1, .int .i64 l.2.1, .int .i64 l.2.2, .slice (some ⟨BC, 0, none⟩) ix ix] rfl rfl (news5 w10 _ _) (by simp [Value.oneCell']) (by unfold maxLen; omega) (by omega) (by have := hb10.size; rw [World.size_alloc]; omega) ?_; intro v' w11 hown' hg11 _))
      rw [listP_succ, hy, cond_true]
      have hP10 := hP.kept (hb9.trans (hb10.mono hs9))
      have hL10 := li_step hLI (by omega) (hb9.trans (hb10.mono hs9)) (D := D) (by omega) ((hb10.block D (Array.getElem?_eq_some_iff.1 hDe).1).trans hDe)
      refine li_app (p := (f, l, digs k ix i)) (BC := BC) hL10 hP10 hps hbase ?_ (by omega) (fun x hx e => ?_) ?_ hg11
      · show Holds BC 0 2 (digs k ix i).length (digs k ix i) w10
        rw [hdl]
        exact hBC9.same (hb10.block BC hBC9.lt)
      · have := (hP.inner x hx).2.lt
        omega
      · show w11.ownsRow base 55 5 v' (ps.length + 1) (ps.flatMap rowP ++ [_, _, _, _, .slice _ (digs k ix i).length (digs k ix i).length])
        rw [hdl]
        exact hown'
  gi_region_with_o (refine ⟨trivial, ?_⟩; gi_at_call 24; refine (callsIn_wide.2 (hix' _)).mono ?_; rintro e w2 ⟨rfl, rfl⟩)
  all_goals first
    | exact hrest _ _ _ _ _ _ _ _ _ _ _ (three hW1 _ _ _).1 (three hW1 _ _ _).2.1 (three hW1 _ _ _).2.2.2.2 (holds_made (three hW1 _ _ _).2.2.2.1) (by omega) (by omega) (by omega)
    | exact hrest _ _ _ _ _ _ _ _ _ _ _ (three hW1 _ _ _).1 (three hW1 _ _ _).2.1 (three hW1 _ _ _).2.2.2.1 (holds_made (three hW1 _ _ _).2.2.2.2) (by omega) (by omega) (by omega)
    | exact hrest _ _ _ _ _ _ _ _ _ _ _ (three hW1 _ _ _).1 (three hW1 _ _ _).2.1 (three hW1 _ _ _).2.2.1 (holds_made (three hW1 _ _ _).2.2.2.2) (by omega) (by omega) (by omega)

end Ai
end Go.Proofs.YtpboclokodgnlaaGreat
