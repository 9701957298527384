/-
  The ideal interpreter against the machine: operations on numbers, strings, and comparisons.
-/
import Derived.Test.YtpknhlnoaehffaaA8
import Derived.WalkSpells
namespace Go.Proofs.Ytpknhlnoaehffaa
namespace Ai
set_option linter.unusedSimpArgs false
set_option linter.unusedVariables false

section
variable {P : Program} {R : Type}

theorem cond_none {α : Type} {b : Bool} {x : Option α} {r : α} (h : cond b none x = some r) : b = false ∧ x = some r := by
  cases b
  · exact ⟨rfl, h⟩
  · cases h

theorem cond_some {α : Type} {b : Bool} {x : Option α} {r : α} (h : cond b x none = some r) : b = true ∧ x = some r := by
  cases b
  · cases h
  · exact ⟨rfl, h⟩

theorem beq_decide (a b : Int) : (a == b) = decide (a = b) := by
  by_cases h : a = b <;> simp [h]

theorem intBin_run {op : BinOp} {k : IntKind} {a b : Int} {K : Sc → Option R} {r : R} (hs : op ≠ .shl ∧ op ≠ .shr) (h : intBin op k a b K = some r) :
    ∃ s v, K s = some r ∧ (∀ C : Cx, SR C s v) ∧ ∀ w t, (binOp op t (.int k a) (.int k b)).run P w = .ok v w := by
  unfold intBin at h
  split at h
  · exact ⟨_, _, h, fun C => rfl, fun w t => by simp [binOp, Op.intArith]⟩
  · exact ⟨_, _, h, fun C => rfl, fun w t => by simp [binOp, Op.intArith]⟩
  · exact ⟨_, _, h, fun C => rfl, fun w t => by simp [binOp, Op.intArith]⟩
  · obtain ⟨hb, h⟩ := cond_none h
    have hb : ¬ b = 0 := by simpa using hb
    exact ⟨_, _, h, fun C => rfl, fun w t => by simp [binOp, Op.intDiv, hb]⟩
  · obtain ⟨hb, h⟩ := cond_none h
    have hb : ¬ b = 0 := by simpa using hb
    exact ⟨_, _, h, fun C => rfl, fun w t => by simp [binOp, Op.intDiv, hb]⟩
  · exact ⟨_, _, h, fun C => rfl, fun w t => by simp [binOp, Op.intBits]⟩
  · exact ⟨_, _, h, fun C => rfl, fun w t => by simp [binOp, Op.intBits]⟩
  · exact ⟨_, _, h, fun C => rfl, fun w t => by simp [binOp, Op.intBits]⟩
  · exact ⟨_, _, h, fun C => rfl, fun w t => by simp [binOp, Op.intCmp, beq_decide]⟩
  · exact ⟨_, _, h, fun C => rfl, fun w t => by simp [binOp, Op.intCmp, bne, beq_decide]⟩
  · exact ⟨_, _, h, fun C => rfl, fun w t => by simp [binOp, Op.intCmp]⟩
  · exact ⟨_, _, h, fun C => rfl, fun w t => by simp [binOp, Op.intCmp]⟩
  · exact ⟨_, _, h, fun C => rfl, fun w t => by simp [binOp, Op.intCmp]⟩
  · exact ⟨_, _, h, fun C => rfl, fun w t => by simp [binOp, Op.intCmp]⟩
  · cases h

theorem shiftBin_run {op : BinOp} {k k' : IntKind} {a b : Int} {K : Sc → Option R} {r : R} (h : shiftBin op k a b K = some r) :
    ∃ s v, K s = some r ∧ (∀ C : Cx, SR C s v) ∧ ∀ w t, (binOp op t (.int k a) (.int k' b)).run P w = .ok v w := by
  unfold shiftBin at h
  split at h
  · obtain ⟨hb, h⟩ := cond_none h
    have hb : ¬ b < 0 := by simpa using hb
    exact ⟨_, _, h, fun C => rfl, fun w t => by simp [binOp, Op.shift, hb]⟩
  · obtain ⟨hb, h⟩ := cond_none h
    have hb : ¬ b < 0 := by simpa using hb
    exact ⟨_, _, h, fun C => rfl, fun w t => by simp [binOp, Op.shift, hb]⟩
  · cases h

theorem strBin_run {op : BinOp} {a b : List UInt8} {K : Sc → Option R} {r : R} (h : strBin op a b K = some r) :
    ∃ s v, K s = some r ∧ (∀ C : Cx, SR C s v) ∧ ∀ w t, (binOp op t (.string ⟨a.toArray⟩) (.string ⟨b.toArray⟩)).run P w = .ok v w := by
  unfold strBin at h
  split at h
  · obtain ⟨hb, h⟩ := cond_some h
    have hb : a.length + b.length ≤ 1099511627776 := by simpa using hb
    refine ⟨_, _, h, fun C => rfl, fun w t => ?_⟩
    have h2 : ¬ (IntKind.i64.max < (((ByteArray.mk a.toArray).size + (ByteArray.mk b.toArray).size : Nat) : Int)) := by
      have : IntKind.i64.max = 9223372036854775807 := rfl
      rw [this]
      show ¬ ((9223372036854775807 : Int) < ((a.toArray.size + b.toArray.size : Nat) : Int))
      simp only [List.size_toArray]
      omega
    simp only [binOp, Op.stringOp]
    rw [Sem.run_ite, if_neg h2, ByteArray.mk_append_mk]
    rfl
  · refine ⟨_, _, h, fun C => rfl, fun w t => ?_⟩
    simp only [binOp, Op.stringOp, ByteArray.toList_mk, Sem.run_pure]
    congr 2
    by_cases e : a = b <;> simp [e]
  · refine ⟨_, _, h, fun C => rfl, fun w t => ?_⟩
    simp only [binOp, Op.stringOp, ByteArray.toList_mk, Sem.run_pure]
    congr 2
    by_cases e : a = b <;> simp [e]
  · refine ⟨_, _, h, fun C => rfl, fun w t => ?_⟩
    simp only [binOp, Op.stringOp, ByteArray.toList_mk, Sem.run_pure]
  · cases h

theorem run_ite_unit {c : Prop} [Decidable c] {X : Sem Unit} {w : World} (h : X.run P w = .ok () w) : (if c then pure () else X).run P w = .ok () w := by
  split
  · rfl
  · exact h

/-- No guard where no interface can be nil. -/
theorem run_eqGuard_plain (op : BinOp) (t : TypeId) (x y : Operand) (a b : Value) (w : World) (h : a.oneCell' = true) (h2 : a ≠ .nilIface ∨ b ≠ .nilIface) :
    (eqGuard op t x y a b).run P w = .ok () w := by
  unfold eqGuard
  refine run_ite_unit ?_
  cases a <;> cases b <;> first | rfl | (simp [Value.oneCell'] at h; done) | (simp at h2; done)

theorem equal_bool {t : TypeId} (hu : P.underlying t = some .bool) (p q : Bool) (w : World) : (Op.equal t (.bool p) (.bool q)).run P w = .ok (p == q) w := by
  have : ∀ d, (Op.equalIn (d + 1) t (.bool p) (.bool q)).run P w = .ok (p == q) w := fun d => by simp [Op.equalIn, run_underlying hu]
  exact this 9999

theorem equal_slice {t e : TypeId} (hu : P.underlying t = some (.slice e)) (a : Option Addr) (n c : Nat) (w : World) : (Op.equal t (.slice a n c) (.slice none 0 0)).run P w = .ok a.isNone w := by
  have : ∀ d, (Op.equalIn (d + 1) t (.slice a n c) (.slice none 0 0)).run P w = .ok a.isNone w := fun d => by cases a <;> simp [Op.equalIn, run_underlying hu]
  exact this 9999

theorem equal_nil {t : TypeId} {ms : Array (String × TypeId)} (hu : P.underlying t = some (.interface ms)) (w : World) : (Op.equal t .nilIface .nilIface).run P w = .ok true w := by
  have : ∀ d, (Op.equalIn (d + 1) t .nilIface .nilIface).run P w = .ok true w := fun d => by simp [Op.equalIn, run_underlying hu]
  exact this 9999

theorem equal_err {t u : TypeId} {x : Value} {ms : Array (String × TypeId)} (hu : P.underlying t = some (.interface ms)) (w : World) : (Op.equal t (.iface u x) .nilIface).run P w = .ok false w := by
  have : ∀ d, (Op.equalIn (d + 1) t (.iface u x) .nilIface).run P w = .ok false w := fun d => by simp [Op.equalIn, run_underlying hu]
  exact this 9999

theorem neg1_some {op : BinOp} {b b' : Bool} (h : neg1 op b = some b') : (op = .eql ∧ b' = b) ∨ (op = .neq ∧ b' = !b) := by
  unfold neg1 at h
  split at h
  · cases h; exact .inl ⟨rfl, rfl⟩
  · cases h; exact .inr ⟨rfl, rfl⟩
  · cases h

end

section
variable {E : Env} {A : Base} {g : Nat → Option Loc} {B Bx : Nat → BS} {tm : Nat → T} {a : Act} {w : World} {o : Oper} {r : T} {d : List (Nat × BS)}

abbrev pk : T → List (Nat × BS) → Option (T × List (Nat × BS)) := fun t d => some (t, d)

theorem pk_one {s : Sc} (h : pk (one s) [] = some (r, d)) : r = one s ∧ d = [] := by
  simp only [pk, Option.some.injEq, Prod.mk.injEq] at h
  exact ⟨h.1.symm, h.2.symm⟩

theorem exec_bin {op : BinOp} {t u : TypeId} {x y : Operand} (ho : o.op = .binOp op t x y u) :
    (execOp a.eval o).run E.P w = ((eqGuard op t x y (a.eval x) (a.eval y)).run E.P w).andThen fun _ w => ((binOp op t (a.eval x) (a.eval y)).run E.P w).andThen fun v w => .ok (.value v) w := by
  simp [execOp, ho]

theorem binK_post (hM : Mem A g B w) (hB : Sub Bx B) (hT : ∀ n, TR (cxOf A g B w) (tm n) (a.tmps.getD n undef)) (hE : ∀ t ks, eqTyp E.eqT t = some ks → EqOk E.P t ks)
    {op : BinOp} {t u : TypeId} {x y : Operand} (ho : o.op = .binOp op t x y u) (h : binK E Bx op t (isConst y) (evalO tm x) (evalO tm y) pk = some (r, d)) : Post E.P A g B a w o r d := by
  have hx := evalO_tr hT x
  have hy := evalO_tr hT y
  have hr := exec_bin (E := E) (a := a) (w := w) ho
  generalize evalO tm x = X at hx h
  generalize evalO tm y = Y at hy h
  generalize a.eval x = vx at hx hr
  generalize a.eval y = vy at hy hr
  unfold binK at h
  split at h
  · rename_i ka m kb n
    rw [tr_int hx, tr_int hy] at hr
    rw [run_eqGuard_plain op t x y _ _ w rfl (.inl (by simp))] at hr
    simp only [Result.andThen_ok] at hr
    split at h
    · obtain ⟨s, v, h1, h2, h3⟩ := shiftBin_run (P := E.P) (k' := kb) h
      obtain ⟨rfl, rfl⟩ := pk_one h1
      rw [h3 w t] at hr
      exact .pure hM hr (h2 _)
    · obtain ⟨s, v, h1, h2, h3⟩ := shiftBin_run (P := E.P) (k' := kb) h
      obtain ⟨rfl, rfl⟩ := pk_one h1
      rw [h3 w t] at hr
      exact .pure hM hr (h2 _)
    · rename_i n1 n2
      split at h
      · rename_i hk
        subst hk
        obtain ⟨s, v, h1, h2, h3⟩ := intBin_run (P := E.P) ⟨fun e => n1 e, fun e => n2 e⟩ h
        obtain ⟨rfl, rfl⟩ := pk_one h1
        rw [h3 w t] at hr
        exact .pure hM hr (h2 _)
      · cases h
  · rw [tr_str hx, tr_str hy] at hr
    rw [run_eqGuard_plain op t x y _ _ w rfl (.inl (by simp))] at hr
    simp only [Result.andThen_ok] at hr
    obtain ⟨s, v, h1, h2, h3⟩ := strBin_run (P := E.P) h
    obtain ⟨rfl, rfl⟩ := pk_one h1
    rw [h3 w t] at hr
    exact .pure hM hr (h2 _)
  · rename_i p q
    rw [tr_bool hx, tr_bool hy] at hr
    rw [run_eqGuard_plain op t x y _ _ w rfl (.inl (by simp))] at hr
    simp only [Result.andThen_ok] at hr
    split at h
    · rename_i b hu hn
      obtain ⟨rfl, rfl⟩ := pk_one h
      have he := equal_bool hu p q w
      have hpq : (p == q) = decide (p = q) := by cases p <;> cases q <;> rfl
      rw [hpq] at he
      rcases neg1_some hn with ⟨rfl, rfl⟩ | ⟨rfl, rfl⟩
      · refine .pure hM (v := .bool (decide (p = q))) ?_ rfl
        rw [hr]; simp [binOp, he]
      · refine .pure hM (v := .bool (!decide (p = q))) ?_ rfl
        rw [hr]; simp [binOp, he]
    · cases h
  · rename_i xs ys
    obtain ⟨us, rfl, hus⟩ := tr_agg hx
    obtain ⟨vs, rfl, hvs⟩ := tr_agg hy
    split at h
    · rename_i ks hc
      split at h
      · rename_i b hb
        split at h
        · rename_i b' hn
          obtain ⟨rfl, rfl⟩ := pk_one h
          have he := hE t ks hc x y us vs b w (eqCells_eqV _ _ _ _ _ _ hus hvs hb)
          simp only [Sem.run_bind] at he
          rcases neg1_some hn with ⟨rfl, rfl⟩ | ⟨rfl, rfl⟩
          · have h1 := he.1
            refine .pure hM (v := .bool b') ?_ rfl
            rw [hr]
            revert h1
            generalize (eqGuard .eql t x y (.agg us) (.agg vs)).run E.P w = q
            cases q with
            | ok _ w1 => simp only [Result.andThen_ok]; intro h1; rw [h1]; rfl
            | halt _ _ => simp
          · have h1 := he.2
            refine .pure hM (v := .bool (!b)) ?_ rfl
            rw [hr]
            revert h1
            generalize (eqGuard .neq t x y (.agg us) (.agg vs)).run E.P w = q
            cases q with
            | ok _ w1 => simp only [Result.andThen_ok]; intro h1; rw [h1]; rfl
            | halt _ _ => simp
        · cases h
      · cases h
    · cases h
  · rename_i s
    have e2 : vy = .slice none 0 0 := hy
    subst e2
    split at h
    · rename_i e hu
      have key : ∀ (p : Option Addr) (n c : Nat), vx = .slice p n c → (match neg1 op p.isNone with | some r => pk (one (.bool r)) [] | none => none) = some (r, d) → Post E.P A g B a w o r d := by
        intro p n c e1 h
        subst e1
        rw [run_eqGuard_plain op t x y _ _ w rfl (.inr (by simp))] at hr
        simp only [Result.andThen_ok] at hr
        have he := equal_slice hu p n c w
        split at h
        · rename_i b' hn
          obtain ⟨rfl, rfl⟩ := pk_one h
          rcases neg1_some hn with ⟨rfl, rfl⟩ | ⟨rfl, rfl⟩
          · refine .pure hM (v := .bool p.isNone) ?_ rfl
            rw [hr]; simp [binOp, he]
          · refine .pure hM (v := .bool (!p.isNone)) ?_ rfl
            rw [hr]; simp [binOp, he]
        · cases h
      unfold isNil at h
      split at h
      · exact key none 0 0 hx h
      · split at h
        · rename_i v hv
          obtain ⟨hb, h⟩ := cond_none h
          obtain ⟨l, hg, e1⟩ := (show SR (cxOf A g B w) (.own _) vx from hx)
          obtain ⟨hd, _⟩ := vecOf_dr hM hB hv hg (I := [_]) (fun _ => List.mem_singleton.2 rfl) (orgLe_refl _)
          rw [← e1] at hd
          rcases hd with ⟨_, e⟩ | ⟨b, o', cap, e1, _⟩
          · rw [e] at hb; simp at hb
          · simp only [List.cons.injEq, and_true] at e1
            exact key (some _) _ _ e1 h
        · cases h
      · rename_i xs
        obtain ⟨hb, h⟩ := cond_none h
        rcases (show DR _ _ (.list _) xs [vx] from hx) with ⟨_, e⟩ | ⟨b, o', cap, e1, _⟩
        · subst e; simp at hb
        · simp only [List.cons.injEq, and_true] at e1
          exact key (some _) _ _ e1 h
      · cases h
    · cases h
  · rename_i s
    have e2 : vy = .nilIface := hy
    subst e2
    have hc : isConst y = true → (eqGuard op t x y .nilIface .nilIface).run E.P w = .ok () w := by
      intro hc
      unfold isConst at hc
      split at hc
      · unfold eqGuard
        generalize (match op with
          | .eql => true
          | .neq => true
          | _ => false) = c
        cases c <;> simp
      · cases hc
    split at h
    · rename_i ms hu
      obtain ⟨u, q, e1⟩ := (show SR (cxOf A g B w) .errI vx from hx)
      subst e1
      rw [run_eqGuard_plain op t x y _ _ w rfl (.inl (by simp))] at hr
      simp only [Result.andThen_ok] at hr
      have he := equal_err (x := q) (u := u) hu w
      split at h
      · rename_i b' hn
        obtain ⟨rfl, rfl⟩ := pk_one h
        rcases neg1_some hn with ⟨rfl, rfl⟩ | ⟨rfl, rfl⟩
        · refine .pure hM (v := .bool false) ?_ rfl
          rw [hr]; simp [binOp, he]
        · refine .pure hM (v := .bool (!false)) ?_ rfl
          rw [hr]; simp [binOp, he]
      · cases h
    · rename_i ms hu
      have e1 : vx = .nilIface := hx
      subst e1
      have he := equal_nil hu w
      split at h
      · rename_i b' hcy hn
        rw [hc hcy] at hr
        simp only [Result.andThen_ok] at hr
        obtain ⟨rfl, rfl⟩ := pk_one h
        rcases neg1_some hn with ⟨rfl, rfl⟩ | ⟨rfl, rfl⟩
        · refine .pure hM (v := .bool true) ?_ rfl
          rw [hr]; simp [binOp, he]
        · refine .pure hM (v := .bool (!true)) ?_ rfl
          rw [hr]; simp [binOp, he]
      · cases h
    · cases h
  · cases h

end
end Ai
end Go.Proofs.Ytpknhlnoaehffaa
