/-
  The ideal interpreter against the machine: operations that only compute, read, or make a variable.
-/
import Derived.Test.YtpknhlnoaehffaaA7
import Derived.Deep.MidRow
import Derived.Laws.Strings
import Derived.Laws.Concat
import Derived.Laws.Tables
namespace Go.Proofs.Ytpknhlnoaehffaa
namespace Ai
set_option linter.unusedSimpArgs false
set_option linter.unusedVariables false

/-- What an operation of the machine does, if the ideal interpreter finds 't' and 'd'. -/
def Post (P : Program) (A : Base) (g : Nat → Option Loc) (B : Nat → BS) (a : Act) (w : World) (o : Oper) (t : T) (d : List (Nat × BS)) : Prop :=
  ∃ g' w', Mem A g' (applyB B d) w' ∧ Later (cxOf A g B w) (cxOf A g' (applyB B d) w') ∧
    ((∃ v, (execOp a.eval o).run P w = .ok (.value v) w' ∧ TR (cxOf A g' (applyB B d) w') t v) ∨ ((execOp a.eval o).run P w = .ok .skip w' ∧ t = one .skip))

section
variable {P : Program} {A : Base} {g : Nat → Option Loc} {B Bx : Nat → BS} {tm : Nat → T} {a : Act} {w : World} {o : Oper} {t : T} {d : List (Nat × BS)}

theorem Post.pure (hM : Mem A g B w) {v : Value} (hr : (execOp a.eval o).run P w = .ok (.value v) w) (ht : TR (cxOf A g B w) t v) : Post P A g B a w o t [] :=
  ⟨g, w, hM, Later.refl _, .inl ⟨v, hr, ht⟩⟩

/-- A world with a draw more. -/
theorem Post.same (hM : Mem A g B w) {w' : World} (hh : w'.heap = w.heap) (hos : w'.os = w.os) (htp : w'.tape = w.tape) (hout : w'.output = w.output) {v : Value}
    (hr : (execOp a.eval o).run P w = .ok (.value v) w') (ht : TR (cxOf A g B w) t v) : Post P A g B a w o t [] := by
  obtain ⟨hM', hL⟩ := hM.same hh hos htp hout
  exact ⟨g, w', hM', hL, .inl ⟨v, hr, hL.tr ht⟩⟩

theorem ofOne_sr {C : Cx} {v : Value} {s : Sc} (h : ofOne v = some s) : SR C s v := by
  unfold ofOne at h
  split at h <;> first
    | (cases h; rfl)
    | (cases h; done)
    | skip

theorem ofValue_vr {C : Cx} {v : Value} {x : Val} (h : ofValue v = some x) : VR C x v := by
  unfold ofValue at h
  split at h
  · rename_i cs
    rw [Option.map_eq_some_iff] at h
    obtain ⟨l, hl, rfl⟩ := h
    refine ⟨cs, rfl, ?_⟩
    obtain ⟨cl⟩ := cs
    simp only at hl ⊢
    induction cl generalizing l with
    | nil => simp at hl; subst hl; trivial
    | cons c r ih =>
      simp only [List.mapM_cons, Option.bind_eq_bind, Option.bind_eq_some_iff, Option.pure_def, Option.some.injEq] at hl
      obtain ⟨s, hs, l', hl', rfl⟩ := hl
      exact ⟨ofOne_sr hs, ih l' hl'⟩
  · rw [Option.map_eq_some_iff] at h
    obtain ⟨s, hs, rfl⟩ := h
    exact ofOne_sr hs

theorem evalO_tr {C : Cx} (ht : ∀ n, TR C (tm n) (a.tmps.getD n undef)) (x : Operand) : TR C (evalO tm x) (a.eval x) := by
  cases x with
  | tmp n => exact ht n
  | const v =>
    simp only [evalO]
    split
    · rename_i x hx; exact ofValue_vr hx
    · trivial
  | global n => trivial
  | func f => exact ⟨#[], rfl, trivial⟩

/-! Scalars of one form. -/
theorem tr_int {C : Cx} {k : IntKind} {n : Int} {v : Value} (h : TR C (.v (.one (.int k n))) v) : v = .int k n := h
theorem tr_bool {C : Cx} {b : Bool} {v : Value} (h : TR C (.v (.one (.bool b))) v) : v = .bool b := h
theorem tr_str {C : Cx} {s : List UInt8} {v : Value} (h : TR C (.v (.one (.str s))) v) : v = .string ⟨s.toArray⟩ := h
theorem tr_agg {C : Cx} {cs : List Sc} {v : Value} (h : TR C (.v (.agg cs)) v) : ∃ arr : Array Value, v = .agg arr ∧ All2 (SR C) cs arr.toList := h

theorem sr_oneCell {C : Cx} {s : Sc} {v : Value} (h : SR C s v) (hu : noUnd [s] = true) : v.oneCell' = true := by
  cases s <;> simp only [noUnd] at hu <;> first
    | (cases hu; done)
    | (rw [show v = _ from h]; rfl)
    | skip
  case ps org c xs => exact DR.oneCell (show DR _ _ _ _ _ from h) v (by simp)
  case own id => obtain ⟨l, _, rfl⟩ := h; unfold Loc.sl; cases l.nil <;> rfl
  case sub id lo hi => obtain ⟨l, _, _, _, _, _, rfl⟩ := h; unfold Loc.sub; cases l.nil <;> rfl
  case ptr id off => obtain ⟨l, _, rfl⟩ := h; rfl
  case pel id i off => obtain ⟨l, _, _, rfl⟩ := h; rfl
  case pp org c x off => obtain ⟨b, o, cs, rfl, _⟩ := h; rfl
  case fn f caps => obtain ⟨cs, rfl, _⟩ := h; rfl
  case mp id => obtain ⟨l, _, rfl⟩ := h; rfl
  case errI => obtain ⟨t, x, rfl⟩ := h; rfl

theorem noUnd_cons {s : Sc} {r : List Sc} (h : noUnd (s :: r) = true) : noUnd [s] = true ∧ noUnd r = true := by
  cases s <;> simp_all [noUnd]

theorem all2_oneCell {C : Cx} : ∀ {cs : List Sc} {l : List Value}, All2 (SR C) cs l → noUnd cs = true → ∀ u ∈ l, u.oneCell' = true
  | [], [], _, _, u, hu => by simp at hu
  | s :: r, v :: l, ha, hn, u, hu => by
    obtain ⟨h1, h2⟩ := noUnd_cons hn
    rcases List.mem_cons.1 hu with rfl | hu
    · exact sr_oneCell ha.1 h1
    · exact all2_oneCell ha.2 h2 u hu
  | [], _ :: _, ha, _, _, _ => ha.elim
  | _ :: _, [], ha, _, _, _ => ha.elim

/-- A value as cells. -/
theorem vr_cells {C : Cx} {x : Val} {v : Value} (h : VR C x v) (hu : noUnd x.cells = true) : All2 (SR C) x.cells v.cells.toList ∧ ∀ u ∈ v.cells.toList, u.oneCell' = true := by
  cases x with
  | one s =>
    have h1 := sr_oneCell (show SR C s v from h) hu
    have hc : v.cells = #[v] := by cases v <;> first | rfl | (simp [Value.oneCell'] at h1)
    rw [hc]
    exact ⟨⟨h, trivial⟩, fun u hu => by simp at hu; subst hu; exact h1⟩
  | agg cs =>
    obtain ⟨arr, rfl, ha⟩ := h
    exact ⟨ha, all2_oneCell ha hu⟩

/-! ### Binary operations -/

/-- Equality of plain cells. -/
def eqV : List Cd → List Value → List Value → Option Bool
  | [], [], [] => some true
  | .i k :: ks, .int k1 a :: r, .int k2 b :: s => if k1 = k ∧ k2 = k then (eqV ks r s).map (decide (a = b) && ·) else none
  | .bool :: ks, .bool a :: r, .bool b :: s => (eqV ks r s).map (decide (a = b) && ·)
  | .str :: ks, .string a :: r, .string b :: s => (eqV ks r s).map (decide (a = b) && ·)
  | _, _, _ => none

/-- Two structs of a type are compared cell by cell. -/
def EqOk (P : Program) (t : TypeId) (ks : List Cd) : Prop := ∀ (x y : Operand) (xs ys : Array Value) (b : Bool) (w : World), eqV ks xs.toList ys.toList = some b →
  (do eqGuard .eql t x y (.agg xs) (.agg ys); binOp .eql t (.agg xs) (.agg ys)).run P w = .ok (.bool b) w ∧
  (do eqGuard .neq t x y (.agg xs) (.agg ys); binOp .neq t (.agg xs) (.agg ys)).run P w = .ok (.bool (!b)) w

theorem mk_inj {a b : List UInt8} : ((⟨a.toArray⟩ : ByteArray) = ⟨b.toArray⟩) ↔ a = b := by
  constructor
  · intro h
    have := congrArg ByteArray.toList h
    simpa using this
  · rintro rfl; rfl

theorem eqCells_eqV {C : Cx} : ∀ (ks : List Cd) (xs ys : List Sc) (us vs : List Value) (b : Bool), All2 (SR C) xs us → All2 (SR C) ys vs → eqCells ks xs ys = some b → eqV ks us vs = some b := by
  intro ks
  induction ks with
  | nil =>
    intro xs ys us vs b hx hy h
    cases xs with
    | cons x r => simp [eqCells] at h
    | nil =>
      cases ys with
      | cons y s => simp [eqCells] at h
      | nil =>
        cases us with
        | cons => exact hx.elim
        | nil =>
          cases vs with
          | cons => exact hy.elim
          | nil => simpa [eqCells, eqV] using h
  | cons k ks ih =>
    intro xs ys us vs b hx hy h
    cases xs with
    | nil => simp [eqCells] at h
    | cons x r =>
      cases ys with
      | nil => simp [eqCells] at h
      | cons y s =>
        cases us with
        | nil => exact hx.elim
        | cons u us =>
          cases vs with
          | nil => exact hy.elim
          | cons v vs =>
            obtain ⟨h1, h2⟩ := hx
            obtain ⟨h3, h4⟩ := hy
            cases k <;> cases x <;> cases y <;> first
              | (simp [eqCells] at h; done)
              | (rw [show u = _ from h1, show v = _ from h3]
                 simp only [eqCells] at h
                 simp only [eqV]
                 split at h
                 · rename_i hk
                   rw [if_pos hk]
                   rw [Option.map_eq_some_iff] at h ⊢
                   obtain ⟨b', hb, rfl⟩ := h
                   exact ⟨b', ih _ _ _ _ _ h2 h4 hb, rfl⟩
                 · cases h)
              | (rw [show u = _ from h1, show v = _ from h3]
                 simp only [eqCells] at h
                 simp only [eqV]
                 rw [Option.map_eq_some_iff] at h ⊢
                 obtain ⟨b', hb, rfl⟩ := h
                 exact ⟨b', ih _ _ _ _ _ h2 h4 hb, by first | rfl | (congr 1; simp [mk_inj])⟩)

end
end Ai
end Go.Proofs.Ytpknhlnoaehffaa
