/-
  From a law's function that comes to 'true' in the ideal interpreter to the row of the law.
-/
import Derived.Test.YtjnfbemiondekaaG3
import Derived.ProofKit
import Derived.SizedLaws
import Derived.OpenShut
import Derived.JoinedOf
import Derived.Laws.StructEq
/-! A29: From a law's function that comes to 'true' in the ideal interpreter to the row of the law. -/
namespace Go.Proofs.Ytjnfbemiondekaa
namespace Ai
open Go.ChangeShapes Go.WideShapes Go.RowKit
set_option linter.unusedSimpArgs false
set_option linter.unusedVariables false

def aShape (P : Program) (t : TypeId) : Option ASh := match tcodeC P 20 t, isAggT P t with
  | some c, some agg => some (.d c agg)
  | _, _ => none

def aShapes (P : Program) : List TypeId → Option (List ASh)
  | [] => some []
  | t :: r => match aShape P t, aShapes P r with
    | some s, some ss => some (s :: ss)
    | _, _ => none

def wf1 : (s : ASh) → In1 s → Prop
  | .d c _, x => wfE c x
  | _, _ => True

def wfA : (as : List ASh) → Tup (acodes as) → Prop
  | [], _ => True
  | s :: r, x => wf1 s (hd1 s x) ∧ wfA r (tl1 s x)

def deepA : List ASh → Bool
  | [] => false
  | .d c _ :: r => deep c || deepA r
  | _ :: r => deepA r

theorem okWide_spot {P : Program} {w : World} {r : Reach} {base : Nat} {u : TypeId} {v : Value} (h : Cell.okWide P w r base u v) : spotV v := by
  cases v with
  | slice a l c =>
    cases a with
    | none => trivial
    | some a =>
      cases hu : P.underlying u with
      | none => simp [Cell.okWide, Cell.ok, hu] at h
      | some d =>
        cases d <;> simp only [Cell.okWide, Cell.ok, hu] at h
        exact h.2.2.2.1
  | _ => trivial

section
variable {H : Type} {enc : TypeId × Value → H} {P : Program} {W : World} {held : Bool}

/-- The setting of the outermost call. -/
def base0 (W : World) : Base where
  w0 := W
  S := fun _ _ => True
  X := fun _ => False
  mono := fun _ _ _ _ _ => trivial
  new := fun _ _ _ => trivial
  own := fun _ _ h => h.elim
  pin := fun _ => none
  pinned := fun _ _ h => by cases h

theorem bk0_lv {id : Nat} {b : Blk} (h : bk0 id = .live b) : False := by
  unfold bk0 at h
  cases hc : Nat.beq (id % 8) 5 <;> rw [hc] at h <;> cases h

theorem bk0_rd {id org : Nat} {c : Cd} {xs : List (El c)} (h : bk0 id = .ro org c xs) : False := by
  unfold bk0 at h
  cases hc : Nat.beq (id % 8) 5 <;> rw [hc] at h <;> cases h

theorem mem0 (W : World) : Mem (base0 W) (fun _ => none) bk0 W where
  br := fun _ _ h => (bk0_lv h).elim
  ro := fun _ _ _ _ h => (bk0_rd h).elim
  inj := fun _ _ _ _ _ _ h => (bk0_lv h).elim
  fresh := fun _ _ => rfl
  pin := fun _ _ h => by cases h
  fr := ⟨rfl, rfl, rfl, Nat.le_refl _, fun _ _ _ => rfl, fun k hk h => by
    rcases h with h | h
    · exact absurd hk (Nat.not_lt.2 h)
    · exact h.elim⟩

theorem ok0 (W : World) (org b : Nat) : (cxOf (base0 W) (fun _ => none) bk0 W).ok org b :=
  ⟨trivial, fun ⟨_, _, _, h, _⟩ => bk0_lv h⟩

theorem arg_in {t : TypeId} {v : Value} {d : DataW H} {ps : List MemPlace} {base : Nat} {s : ASh} (ht : DataW.Trod enc P W 0 (fun _ => true) held t v d ps) (hv : Value.okWide P W .any base t v) (hs : aShape P t = some s)
    (hd : deepA [s] = false ∨ ∀ b o v, W.cell? ⟨b, o, none⟩ = some v → spotV v) :
    ∃ (c : Cd) (agg : Bool), s = .d c agg ∧ ∃ x : El c, wfE c x ∧ ∀ org, VR (cxOf (base0 W) (fun _ => none) bk0 W) (mkVal agg (scells org c x)) v := by
  unfold aShape at hs
  split at hs
  · rename_i c agg hc hagg
    cases hs
    refine ⟨c, agg, rfl, ?_⟩
    obtain ⟨fuel, hf⟩ := ht
    have hdc : deep c = false ∨ ∀ b o v, W.cell? ⟨b, o, none⟩ = some v → spotV v := hd.imp (fun h => by simpa [deepA] using h) id
    cases agg with
    | true =>
      have hu : ∃ cs : Array Value, v = .agg cs ∧ ∀ u ∈ cs.toList, spotV u := by
        unfold isAggT at hagg
        unfold Value.okWide at hv
        split at hagg
        · rename_i hst
          rw [hst] at hv
          obtain ⟨cs, h1, _, ts, _, _, h2⟩ := hv
          refine ⟨cs, h1, fun u hu => ?_⟩
          obtain ⟨i, hi⟩ := List.getElem?_of_mem hu
          obtain ⟨_, _, h3⟩ := h2 i u (by simpa using hi)
          exact okWide_spot h3
        · rename_i hst
          rw [hst] at hv
          obtain ⟨cs, h1, _, ts, _, _, h2⟩ := hv
          refine ⟨cs, h1, fun u hu => ?_⟩
          obtain ⟨i, hi⟩ := List.getElem?_of_mem hu
          obtain ⟨_, _, h3⟩ := h2 i u (by simpa using hi)
          exact okWide_spot h3
        · cases hagg
        · cases hagg
      obtain ⟨cs, rfl, hsp⟩ := hu
      obtain ⟨x, hx, hw⟩ := trod_dr (ok := fun b => (cxOf (base0 W) (fun _ => none) bk0 W).ok 0 b) (fun b _ => ok0 W 0 b) 20 fuel t c _ _ hc hf ⟨.inr (by simpa [Value.cells] using hsp), hdc⟩
      refine ⟨x, hw, fun org => ?_⟩
      have h1 := scells_sr (C := cxOf (base0 W) (fun _ => none) bk0 W) (org := org) (DR.mono (w' := W) (ok' := (cxOf (base0 W) (fun _ => none) bk0 W).ok org) (Nat.le_refl _) (fun b _ _ => ⟨ok0 W org b, rfl⟩) hx)
      refine (show VR _ (Val.agg _) _ from ⟨cs, rfl, ?_⟩)
      simpa [Value.cells] using h1
    | false =>
      have hu : v.cells.toList = [v] ∧ spotV v := by
        cases hst : P.underlying t with
        | none => simp [isAggT, hst] at hagg
        | some td =>
          have hv' : Cell.okWide P W .any base t v := by
            cases td <;> simp only [isAggT, hst, Value.okWide] at hagg hv <;> first | exact hv | cases hagg
          refine ⟨?_, okWide_spot hv'⟩
          cases v with
          | agg cs => cases td <;> simp [Cell.okWide, Cell.ok, hst] at hv'
          | tuple cs => cases td <;> simp [Cell.okWide, Cell.ok, hst] at hv'
          | _ => rfl
      rw [hu.1] at hf
      obtain ⟨x, hx, hw⟩ := trod_dr (ok := fun b => (cxOf (base0 W) (fun _ => none) bk0 W).ok 0 b) (fun b _ => ok0 W 0 b) 20 fuel t c _ _ hc hf ⟨.inr (by simpa using hu.2), hdc⟩
      refine ⟨x, hw, fun org => ?_⟩
      have h1 := scells_sr (C := cxOf (base0 W) (fun _ => none) bk0 W) (org := org) (DR.mono (w' := W) (ok' := (cxOf (base0 W) (fun _ => none) bk0 W).ok org) (Nat.le_refl _) (fun b _ _ => ⟨ok0 W org b, rfl⟩) hx)
      have hl := h1.length
      match hsc : scells org c x, h1, hl with
      | [s], h1, _ => exact h1.1
  · cases hs

theorem args_in {base : Nat} : ∀ (ts : List TypeId) (vs : List Value) (ds : List (DataW H)) (ps : List MemPlace) (as : List ASh), DataW.TrodAll enc P W 0 (fun _ => true) held ts vs ds ps →
    (∀ (j : Nat) t v, ts[j]? = some t → vs[j]? = some v → Value.okWide P W .any base t v) → aShapes P ts = some as → (deepA as = false ∨ ∀ b o v, W.cell? ⟨b, o, none⟩ = some v → spotV v) →
    ∃ x : Tup (acodes as), wfA as x ∧ ∀ p, (mkA p as x).bk = bk0 ∧ (∀ i v, vs[i]? = some v → TR (cxOf (base0 W) (fun _ => none) bk0 W) ((mkA p as x).tm (p + i)) v) ∧ ∀ t, (t < p ∨ p + vs.length ≤ t) → (mkA p as x).tm t = one .und
  | [], vs, ds, ps, as, h, hv, has, hd => by
    obtain ⟨rfl, rfl, rfl⟩ := trodAll_nil h
    cases has
    exact ⟨(), trivial, fun p => ⟨rfl, fun i v hi => by simp at hi, fun t _ => rfl⟩⟩
  | t :: ts, vs, ds, ps, as, h, hv, has, hd => by
    obtain ⟨v, vs', d, ds', p1, p2, rfl, rfl, rfl, h1, h2⟩ := trodAll_cons h
    simp only [aShapes] at has
    split at has
    · rename_i s ss hs hss
      cases has
      have hd1 : deepA [s] = false ∨ ∀ b o v, W.cell? ⟨b, o, none⟩ = some v → spotV v := by
        refine hd.imp (fun h => ?_) id
        cases s <;> first | rfl | (simp only [deepA, Bool.or_eq_false_iff] at h ⊢; exact ⟨h.1, trivial⟩)
      have hd2 : deepA ss = false ∨ ∀ b o v, W.cell? ⟨b, o, none⟩ = some v → spotV v := by
        refine hd.imp (fun h => ?_) id
        cases s <;> first | exact h | (simp only [deepA, Bool.or_eq_false_iff] at h; exact h.2)
      obtain ⟨c, agg, rfl, x1, w1, hx1⟩ := arg_in h1 (hv 0 t v rfl rfl) hs hd1
      obtain ⟨y, wy, hy⟩ := args_in ts vs' ds' p2 ss h2 (fun j t v ht hv' => hv (j + 1) t v (by simpa using ht) (by simpa using hv')) hss hd2
      refine ⟨cons1 (.d c agg) x1 y, ⟨?_, ?_⟩, fun p => ?_⟩
      · rw [hd1_cons]; exact w1
      · rw [tl1_cons]; exact wy
      · obtain ⟨hb, ht, hu⟩ := hy (p + 1)
        simp only [mkA]
        rw [hd1_cons, tl1_cons]
        refine ⟨hb, fun i u hi => ?_, fun k hk => ?_⟩
        · show TR _ (upd _ p _ (p + i)) u
          cases i with
          | zero =>
            simp at hi; subst hi
            show TR _ (upd _ p _ p) v
            rw [upd_same]
            exact hx1 _
          | succ i =>
            rw [upd_ne _ _ (by omega)]
            have := ht i u (by simpa using hi)
            rwa [show p + 1 + i = p + (i + 1) by omega] at this
        · show upd _ p _ k = one .und
          simp only [List.length_cons] at hk
          rw [upd_ne _ _ (by omega)]
          exact hu k (by omega)
    · cases has

end

/-- A law's function that comes to 'true'. -/
theorem law_calls {E : Env} (hE : EnvOk E) {f : FuncId} {as : List ASh} {fn : Func} (hfn : E.P.funcs[f]? = some fn) (has : aShapes E.P fn.params.toList = some as)
    (hrun : ∀ x : Tup (acodes as), wfA as x → ∃ y : Tup (rcodes [⟨.bool, false, 0⟩] as), run E (.fn ⟨f, as, [⟨.bool, false, 0⟩]⟩) x = some y ∧ thd (c := .bool) (r := outs as) y = true)
    {H : Type} {enc : TypeId × Value → H} {W : World} {base : Nat} {args : Array Value} {ds : List (DataW H)} {ps : List MemPlace} (hA : DataW.TrodAll enc E.P W 0 (fun _ => true) true fn.params.toList args.toList ds ps)
    (hval : ∀ (j : Nat) t v, fn.params[j]? = some t → args[j]? = some v → Value.okWide E.P W .any base t v) (hd : deepA as = false ∨ ∀ b o v, W.cell? ⟨b, o, none⟩ = some v → spotV v) :
    Calls E.P f args W fun e w' => e = .returned (.bool true) ∧ Below W.heap.size W w' := by
  obtain ⟨x, hwf, hx⟩ := args_in _ _ _ _ as hA (fun j t v ht hv => hval j t v (by simpa using ht) (by simpa using hv)) has hd
  obtain ⟨y, hy, hyt⟩ := hrun x hwf
  obtain ⟨_, hM⟩ := run_sound hE hy
  obtain ⟨hb, ht, hu⟩ := hx 0
  have href : refIds 0 as = [] := by
    have : ∀ (ts : List TypeId) (as : List ASh) (p : Nat), aShapes E.P ts = some as → refIds p as = [] := by
      intro ts
      induction ts with
      | nil => intro as p h; cases h; rfl
      | cons t ts ih =>
        intro as p h
        simp only [aShapes] at h
        split at h
        · rename_i s ss hs hss
          cases h
          unfold aShape at hs
          split at hs
          · cases hs; exact ih ss (p + 1) hss
          · cases hs
        · cases h
    exact this _ _ _ has
  refine (hM (base0 W) (fun _ => none) args (by rw [hb]; exact mem0 W) (fun t => ?_) (fun id h => by rw [href] at h; cases h)).mono fun e w' ⟨v, he, hF⟩ => ?_
  · rw [hb]
    show TR (cxOf (base0 W) (fun _ => none) bk0 W) ((mkA 0 as x).tm t) (args.getD t undef)
    rcases Nat.lt_or_ge t args.size with h | h
    · have h1 := ht t args[t] (by simp [h])
      rw [Nat.zero_add] at h1
      simpa [Array.getD, h] using h1
    · rw [hu t (.inr (by simpa using h))]
      exact trivial
  · obtain ⟨us, hv, hr⟩ := hF.res
    have : v = .bool true := by
      match us, hr with
      | [u], hr =>
        obtain ⟨h1, _⟩ := hr
        rcases h1 with ⟨_, h1⟩ | ⟨h1, _⟩
        · have h2 : [u] = [Value.bool (thd (c := .bool) (r := outs as) y)] := h1
          rw [hyt] at h2
          cases h2
          exact hv
        · cases h1
      | u :: u' :: r, hr => exact absurd hr.2 (by intro h; cases h)
    subst this
    exact ⟨he, hF.fr.os, hF.fr.tape, hF.fr.output, hF.fr.size, fun k hk => hF.fr.old k hk (fun h => h.elim)⟩

theorem trodAll_back {H : Type} {enc : TypeId × Value → H} {P : Program} (hl : laidOutB P = true) {W W' : World} (bel : Below W.heap.size W W') :
    ∀ (ts : List TypeId) (vs : List Value) (ds : List (DataW H)) (ps : List MemPlace), ts.all (fun t => P.readableRec t && decide (t < P.types.size)) = true → DataW.TrodAll enc P W 0 (fun _ => true) true ts vs ds ps →
    DataW.TrodAll enc P W' 0 (fun b => decide (b < W.heap.size)) true ts vs ds ps
  | [], vs, ds, ps, _, h => by
    obtain ⟨rfl, rfl, rfl⟩ := trodAll_nil h
    exact trodAll_mk0
  | t :: ts, vs, ds, ps, hr, h => by
    obtain ⟨v, vs', d, ds', p1, p2, rfl, rfl, rfl, h1, h2⟩ := trodAll_cons h
    simp only [List.all_cons, Bool.and_eq_true, decide_eq_true_eq] at hr
    refine trodAll_cons_mk (Below.trod hl hr.1.1 hr.1.2 h1 bel ?_) (trodAll_back hl bel ts vs' ds' p2 hr.2 h2)
    obtain ⟨m, hm⟩ := h1
    exact DataW.trod_lt m _ _ _ hm

theorem trodAll_len {H : Type} {enc : TypeId × Value → H} {P : Program} {W : World} {base : Nat} {spare : Nat → Bool} {held : Bool} : ∀ (ts : List TypeId) (vs : List Value) (ds : List (DataW H)) (ps : List MemPlace), DataW.TrodAll enc P W base spare held ts vs ds ps → ds.length = ts.length
  | [], vs, ds, ps, h => by
    obtain ⟨rfl, rfl, rfl⟩ := trodAll_nil h
    rfl
  | t :: ts, vs, ds, ps, h => by
    obtain ⟨v, vs', d, ds', p1, p2, rfl, rfl, rfl, h1, h2⟩ := trodAll_cons h
    simp [trodAll_len ts vs' ds' p2 h2]

/-- The row of a law. -/
theorem law_lifted {E : Env} (hE : EnvOk E) {C : Checked} (hC : C.prog = E.P) {f : FuncId} {as : List ASh} {fn : Func} {s : ChangeSpec} {conds : List PathCond} (own : ownKnob C.prog.godebug = none) (noInit : C.prog.inits.idxOf? f = none) (hfn : C.prog.funcs[f]? = some fn)
    (has : aShapes E.P fn.params.toList = some as) (hlaid : laidOutB C.prog = true) (hpar : fn.params.toList.all (fun t => C.prog.readableRec t && decide (t < C.prog.types.size)) = true)
    {bt : TypeId} (hres : fn.resultTypes = #[bt]) (hbt : C.prog.underlying bt = some .bool) (hvars : s.vars = []) (hd : deepA as = false)
    (hsp : ∀ (H : Type) (ds : List (DataW H)), ds.length = fn.params.toList.length → s.fn H ds = { results := [.lit (.bool true)], args := ds })
    (hrun : ∀ x : Tup (acodes as), wfA as x → ∃ y : Tup (rcodes [⟨.bool, false, 0⟩] as), run E (.fn ⟨f, as, [⟨.bool, false, 0⟩]⟩) x = some y ∧ thd (c := .bool) (r := outs as) y = true)
    {H : Type} {enc : TypeId × Value → H} {os : Os} (started : os.Started)
    (witness : ∃ (w : World) (tape : Tape) (i : Input), w.os = os ∧ (w.forCall tape i).Shaped C.prog ∧ i.vars = [] ∧ Input.okWide C.prog (w.forCall tape i) .any w.heap.size f i ∧
      s.pre6 enc C.prog fn conds false (w.forCall tape i).memory i.args ∧ ({} : Assume).holds C.prog (lone (Frame.enter C.prog f i.args .normal) [] (w.forCall tape i))) :
    ReturnsInHanded {} C os f .any (s.pre6 enc C.prog fn conds false) (s.post enc C.prog fn false true false false) := by
  refine returnsInHanded_of_change_sized own started noInit hfn witness ?_
  intro W base args ds gs before hval hW _ _ _
  have hW' := hW
  obtain ⟨p, q, hA, hV, rfl, _, _⟩ := hW
  rw [hvars] at hV
  obtain ⟨rfl, rfl⟩ := trodVars_none hV
  rw [hC] at hA hval hfn
  have hc := law_calls hE hfn has hrun hA hval (.inl hd)
  rw [hC]
  refine hc.mono fun e W' ⟨he, bel⟩ => ⟨_, he, ?_⟩
  have hf := hsp H (ds ++ []) (by rw [List.append_nil]; exact trodAll_len _ _ _ _ hA)
  rw [hC] at hW' hlaid hpar hbt
  refine ⟨ds, [], _, [], p, [], hW', ?_, ?_, ?_, bel.frame _, fun h => by cases h⟩
  · rw [hf, hres]
    exact trodAll_mk1 (shut_bool hbt true)
  · rw [hf]
    simp only [List.append_nil]
    exact trodAll_back hlaid bel _ _ _ _ hpar hA
  · rw [hf, hvars]
    rfl

end Ai
end Go.Proofs.Ytjnfbemiondekaa

/-! A30: What is asked of a program once: equality of structs, by a look at the types; names and places, by one evaluation. -/
namespace Go.Proofs.Ytjnfbemiondekaa
namespace Ai
set_option linter.unusedSimpArgs false
set_option linter.unusedVariables false

/-- Is the type compared leaf by leaf? -/
def eqTy (P : Program) : Nat → TypeId → List Cd → Bool
  | 0, _, _ => false
  | d + 1, t, ks => match P.underlying t, ks with
    | some .bool, [.bool] => true
    | some (.int k), [.i k'] => k == k'
    | some .string, [.str] => true
    | some (.struct fs), ks => !P.stoodInHeld t && eqFs P (eqTy P d) 0 fs.toList ks
    | _, _ => false
where
  eqFs (P : Program) (rec : TypeId → List Cd → Bool) : Nat → List Field → List Cd → Bool
    | _, [], ks => ks.isEmpty
    | o, f :: r, ks => match szT P f.type, isAggT P f.type with
      | some m, some agg => (f.name != "_") && (f.offset == o) && (agg || m == 1) && decide (m ≤ ks.length) && rec f.type (ks.take m) && eqFs P rec (o + m) r (ks.drop m)
      | _, _ => false

theorem eqV_split : ∀ (n : Nat) (ks : List Cd) (xs ys : List Value) (b : Bool), eqV ks xs ys = some b → ∃ b1 b2, eqV (ks.take n) (xs.take n) (ys.take n) = some b1 ∧ eqV (ks.drop n) (xs.drop n) (ys.drop n) = some b2 ∧ b = (b1 && b2)
  | 0, ks, xs, ys, b, h => ⟨true, b, by simp [eqV], by simpa using h, by simp⟩
  | n + 1, ks, xs, ys, b, h => by
    match ks, xs, ys, h with
    | _ :: _, [], _, h => cases ‹Cd› <;> simp [eqV] at h
    | _ :: _, _ :: _, [], h => cases ‹Cd› <;> simp [eqV] at h
    | [], [], [], h => exact ⟨true, b, by simp [eqV], by simpa using h, by simp⟩
    | k :: ks, x :: xs, y :: ys, h =>
      have key : ∀ (q : Bool), (eqV ks xs ys).map (q && ·) = some b → ∃ b1 b2, (eqV (ks.take n) (xs.take n) (ys.take n)).map (q && ·) = some b1 ∧ eqV (ks.drop n) (xs.drop n) (ys.drop n) = some b2 ∧ b = (b1 && b2) := fun q hq => by
        obtain ⟨b', hb', hbq⟩ := Option.map_eq_some_iff.1 hq
        obtain ⟨b1, b2, h1, h2, h3⟩ := eqV_split n ks xs ys b' hb'
        refine ⟨q && b1, b2, by rw [h1]; rfl, h2, ?_⟩
        subst h3; rw [← hbq, Bool.and_assoc]
      simp only [List.take_succ_cons, List.drop_succ_cons]
      cases k <;> cases x <;> cases y <;> simp only [eqV] at h ⊢ <;> first
        | (split at h
           · rename_i hk; simp only [if_pos hk]; exact key _ h
           · cases h)
        | exact key _ h
        | cases h

theorem eqV_len : ∀ (ks : List Cd) (xs ys : List Value) (b : Bool), eqV ks xs ys = some b → xs.length = ks.length ∧ ys.length = ks.length
  | [], xs, ys, b, h => by
    match xs, ys, h with
    | [], [], _ => exact ⟨rfl, rfl⟩
  | k :: ks, xs, ys, b, h => by
    match xs, ys, h with
    | [], _, h => cases k <;> simp [eqV] at h
    | _ :: _, [], h => cases k <;> simp [eqV] at h
    | x :: xs, y :: ys, h =>
      have key : ∀ q : Bool, (eqV ks xs ys).map (q && ·) = some b → (x :: xs).length = (k :: ks).length ∧ (y :: ys).length = (k :: ks).length := fun q hq => by
        obtain ⟨b', hb', _⟩ := Option.map_eq_some_iff.1 hq
        simp [eqV_len ks xs ys b' hb']
      cases k <;> cases x <;> cases y <;> simp only [eqV] at h <;> first
        | (split at h
           · exact key _ h
           · cases h)
        | exact key _ h
        | cases h

theorem bytes_beq (p q : ByteArray) : (p == q) = decide (p = q) := by
  rw [beq_toListBytes, ByteArray.toList_eq, ByteArray.toList_eq]
  obtain ⟨⟨x⟩⟩ := p
  obtain ⟨⟨y⟩⟩ := q
  by_cases h : x = y
  · subst h; simp
  · have h1 : ((⟨⟨x⟩⟩ : ByteArray) = ⟨⟨y⟩⟩) ↔ False := ⟨fun e => h (by cases e; rfl), False.elim⟩
    simp [h, h1]

section
variable {P : Program}

theorem fields_eq {d k : Nat} (ih : ∀ (t : TypeId) (ks : List Cd) (agg : Bool) (vx vy : Value) (xs ys : List Value) (b : Bool) (w : World), eqTy P d t ks = true → isAggT P t = some agg → eqV ks xs ys = some b →
      (agg = true → vx = .agg xs.toArray ∧ vy = .agg ys.toArray) → (agg = false → xs = [vx] ∧ ys = [vy]) → (Op.equalIn (d + k) t vx vy).run P w = .ok b w) (w : World) (xs ys : Array Value) :
    ∀ (fs : List Field) (o : Nat) (ks : List Cd) (b : Bool), eqTy.eqFs P (eqTy P d) o fs ks = true → eqV ks (xs.toList.drop o) (ys.toList.drop o) = some b → (Op.eqFields (d + k) xs ys fs).run P w = .ok b w
  | [], o, ks, b, h, hb => by
    simp only [eqTy.eqFs, List.isEmpty_iff] at h
    subst h
    match hx : xs.toList.drop o, hy : ys.toList.drop o, hb with
    | [], [], hb => simp only [eqV] at hb; cases hb; simp [Op.eqFields]
  | f :: r, o, ks, b, h, hb => by
    simp only [eqTy.eqFs] at h
    split at h
    · rename_i m agg hm hagg
      simp only [Bool.and_eq_true, beq_iff_eq, bne_iff_ne, decide_eq_true_eq, Bool.or_eq_true] at h
      obtain ⟨⟨⟨⟨⟨h1, h3⟩, hm1⟩, hmk⟩, h2⟩, h⟩ := h
      obtain ⟨b1, b2, e1, e2, e3⟩ := eqV_split m _ _ _ _ hb
      rw [List.drop_drop, List.drop_drop] at e2
      have hrest := fields_eq ih w xs ys r (o + m) (ks.drop m) b2 h e2
      have hlen := eqV_len _ _ _ _ e1
      have hpart : ∀ zs : Array Value, ((zs.toList.drop o).take m).length = m → ∃ v, (part f.type zs f.offset).run P w = .ok v w ∧ (agg = true → v = .agg ((zs.toList.drop o).take m).toArray) ∧ (agg = false → (zs.toList.drop o).take m = [v]) := fun zs hz => by
        obtain ⟨p1, p2⟩ := part_run hagg hm (arr := zs) (off := f.offset) w
        cases hag : agg with
        | true =>
          refine ⟨_, p1 hag, fun _ => ?_, fun h => by cases h⟩
          rw [h3]
          congr 1
          apply Array.ext'
          simp [Array.toList_extract, List.extract_eq_take_drop]
        | false =>
          have hm' : m = 1 := hm1.resolve_left (by rw [hag]; decide)
          subst hm'
          match hq : (zs.toList.drop o).take 1, hz with
          | [v], _ =>
            have : zs[f.offset]? = some v := by
              have h0 : ((zs.toList.drop o).take 1)[0]? = some v := by rw [hq]; rfl
              rw [h3]
              simpa using h0
            exact ⟨v, p2 hag v this, ⟨(fun h => by cases h), (fun _ => rfl)⟩⟩
      have hkl : (ks.take m).length = m := by rw [List.length_take]; omega
      obtain ⟨vx, px, ax, bx⟩ := hpart xs (by rw [hlen.1, hkl])
      obtain ⟨vy, py, ay, by_⟩ := hpart ys (by rw [hlen.2, hkl])
      have he := ih f.type (ks.take m) agg vx vy _ _ b1 w h2 hagg e1 (fun h => ⟨ax h, ay h⟩) (fun h => ⟨bx h, by_ h⟩)
      rw [Op.eqFields]
      simp only [if_pos h1, Sem.run_bind, px, py, he, Result.andThen_ok]
      subst e3
      cases b1
      · simp
      · simpa using hrest
    · cases h

theorem eqTy_run : ∀ (d k : Nat) (t : TypeId) (ks : List Cd) (agg : Bool) (vx vy : Value) (xs ys : List Value) (b : Bool) (w : World), eqTy P d t ks = true → isAggT P t = some agg → eqV ks xs ys = some b →
      (agg = true → vx = .agg xs.toArray ∧ vy = .agg ys.toArray) → (agg = false → xs = [vx] ∧ ys = [vy]) → (Op.equalIn (d + k) t vx vy).run P w = .ok b w
  | 0, _, _, _, _, _, _, _, _, _, _, h, _, _, _, _ => by simp [eqTy] at h
  | d + 1, k, t, ks, agg, vx, vy, xs, ys, b, w, h, hagg, hb, h1, h2 => by
    rw [show d + 1 + k = d + k + 1 by omega]
    simp only [eqTy] at h
    split at h
    · rename_i hu
      simp [isAggT, hu] at hagg
      subst hagg
      obtain ⟨rfl, rfl⟩ := h2 rfl
      cases vx <;> cases vy <;> simp only [eqV] at hb <;> first
        | (cases hb; done)
        | (simp at hb; subst hb; rename_i p q; simp only [Option.map_some, Op.equalIn, Sem.run_bind, run_underlying hu, Result.andThen_ok, Sem.run_pure]; cases p <;> cases q <;> rfl)
    · rename_i k1 k2 hu
      simp at h; subst h
      simp [isAggT, hu] at hagg
      subst hagg
      obtain ⟨rfl, rfl⟩ := h2 rfl
      cases vx <;> cases vy <;> simp only [eqV] at hb <;> first
        | (cases hb; done)
        | (split at hb
           · rename_i hk
             obtain ⟨rfl, rfl⟩ := hk
             simp at hb; subst hb
             simp only [Op.equalIn, Sem.run_bind, run_underlying hu, Result.andThen_ok, if_true, Sem.run_pure]; congr 1
           · cases hb)
    · rename_i hu
      simp [isAggT, hu] at hagg
      subst hagg
      obtain ⟨rfl, rfl⟩ := h2 rfl
      cases vx <;> cases vy <;> simp only [eqV] at hb <;> first
        | (cases hb; done)
        | (simp at hb; subst hb; rename_i p q; simp only [Option.map_some, Op.equalIn, Sem.run_bind, run_underlying hu, Result.andThen_ok, Sem.run_pure]; rw [bytes_beq]; try simp)
    · rename_i fs hu
      simp [isAggT, hu] at hagg
      subst hagg
      obtain ⟨rfl, rfl⟩ := h1 rfl
      simp only [Bool.and_eq_true, Bool.not_eq_true'] at h
      obtain ⟨hs, hf⟩ := h
      have hf' : P.fieldsOf t = fs := by simp [Program.fieldsOf, hu]
      rw [run_equalIn_struct (P := P) w (d + k) t _ _ (by rw [hf']; exact hu) hs, hf']
      exact fields_eq (fun t ks agg vx vy xs ys b w => eqTy_run d k t ks agg vx vy xs ys b w) w _ _ fs.toList 0 _ b hf (by simpa using hb)
    · cases h

theorem eqOk_of {t : TypeId} {ks : List Cd} (h : (match isAggT P t with | some true => eqTy P 20 t ks && !P.eqGuardType P.depth t | _ => false) = true) : EqOk P t ks := by
  split at h
  · rename_i hagg
    simp only [Bool.and_eq_true, Bool.not_eq_true'] at h
    intro x y xs ys b w hb
    have he : (Op.equal t (.agg xs) (.agg ys)).run P w = .ok b w := eqTy_run 20 9980 t ks true _ _ xs.toList ys.toList b w h.1 hagg hb (fun _ => ⟨by simp, by simp⟩) (fun h => by cases h)
    constructor
    · simp [eqGuard, run_program, h.2, binOp, he]
    · simp [eqGuard, run_program, h.2, binOp, he]
  · cases h

def eqAll (P : Program) (l : List (TypeId × List Cd)) : Bool := l.all fun p => match isAggT P p.1 with
  | some true => eqTy P 20 p.1 p.2 && !P.eqGuardType P.depth p.1
  | _ => false

theorem eqAll_ok {l : List (TypeId × List Cd)} (h : eqAll P l = true) : ∀ t ks, eqTyp l t = some ks → EqOk P t ks := by
  induction l with
  | nil => intro t ks h; cases h
  | cons p r ih =>
    obtain ⟨u, us⟩ := p
    intro t ks hk
    simp only [eqAll, List.all_cons, Bool.and_eq_true] at h
    simp only [eqTyp] at hk
    cases hc : Nat.beq u t with
    | true =>
      rw [hc] at hk
      cases hk
      cases Nat.eq_of_beq_eq_true hc
      exact eqOk_of h.1
    | false =>
      rw [hc] at hk
      exact ih h.2 t ks hk

/-- Names and places, function by function. -/
def fnsOk (fs : List Func) : Bool := fs.all fun fn => !(fn.name == "runtime.NumGoroutine") && (match fn.body with
  | some c => dstOk fn.ntmps c
  | none => true)

theorem envOk_of {E : Env} (h1 : eqAll E.P E.eqT = true) (h2 : fnsOk E.P.funcs.toList = true) : EnvOk E where
  eq := eqAll_ok h1
  name := fun f fn hf _ => by
    have := List.all_eq_true.1 h2 fn (List.mem_of_getElem? (by simpa using hf : E.P.funcs.toList[f]? = some fn))
    simp only [Bool.and_eq_true, Bool.not_eq_true'] at this
    exact this.1
  dst := fun f fn c hf hc => by
    have := List.all_eq_true.1 h2 fn (List.mem_of_getElem? (by simpa using hf : E.P.funcs.toList[f]? = some fn))
    simp only [Bool.and_eq_true] at this
    have := this.2
    rw [hc] at this
    exact this

/-- A list with one element changed. -/
def updL {α : Type} (xs : List α) (i : Nat) (d : α) (f : α → α) : List α := xs.set i (f (xs.getD i d))

theorem updL_len {α : Type} (xs : List α) (i : Nat) (d : α) (f : α → α) : (updL xs i d f).length = xs.length := List.length_set ..

theorem updL_updL {α : Type} (xs : List α) (i : Nat) (d : α) (f g : α → α) : updL (updL xs i d f) i d g = updL xs i d (fun w => g (f w)) := by
  unfold updL
  by_cases h : i < xs.length
  · rw [List.set_set, List.getD_eq_getElem?_getD (l := xs.set i _), List.getElem?_set_self h]
    rfl
  · rw [List.set_eq_of_length_le (by simp; omega), List.set_eq_of_length_le (by omega), List.set_eq_of_length_le (by omega)]

theorem updL_set {α : Type} {xs : List α} {i : Nat} (h : i < xs.length) (d : α) (f : α → α) : updL xs i d f = xs.set i (f xs[i]) := by
  unfold updL
  rw [List.getD_eq_getElem?_getD, List.getElem?_eq_getElem h]
  rfl

end
end Ai
end Go.Proofs.Ytjnfbemiondekaa
