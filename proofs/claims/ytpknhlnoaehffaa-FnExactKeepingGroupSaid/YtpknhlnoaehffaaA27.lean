/-
  The ideal interpreter against the machine: whatever the ideal interpreter finds, the machine does.
-/
import Derived.Test.YtpknhlnoaehffaaA26
namespace Go.Proofs.Ytpknhlnoaehffaa
namespace Ai
set_option linter.unusedSimpArgs false
set_option linter.unusedVariables false

/-- What is asked of a program, once. -/
structure EnvOk (E : Env) : Prop where
  eq : ∀ t ks, eqTyp E.eqT t = some ks → EqOk E.P t ks
  name : ∀ (f : FuncId) (fn : Func), E.P.funcs[f]? = some fn → fn.body.isSome = true → (fn.name == "runtime.NumGoroutine") = false
  dst : ∀ (f : FuncId) (fn : Func) (c : Code), E.P.funcs[f]? = some fn → fn.body = some c → dstOk fn.ntmps c = true

theorem callWith_inv {run : Orc} {Bx : Nat → BS} {dd : Nat} {gf : FuncId} {args : List T} {t : T} {d : List (Nat × BS)} : ∀ (l : List FI), callWith run Bx dd gf args pk l = some (t, d) → ∃ (i : FI) (x : Tup (acodes i.as)) (y : Tup (rcodes i.rs i.as)), i.f = gf ∧ packA Bx i.as args = some x ∧ nodupB (lentA i.as args) = true ∧
    apartB (lentA i.as args) (seenA Bx i.as args) = true ∧ run (.fn i) x = some y ∧ freshAll Bx (impR (ownId dd i.rs i.as) (orgA Bx i.as args) i.rs y).2 = true ∧ t = resT (impR (ownId dd i.rs i.as) (orgA Bx i.as args) i.rs y).1 ∧
    d = frzL Bx (keptA Bx (maskR i.rs) 0 i.as args) ++ (effA i.as args (orgA Bx i.as args) (outR i.rs y) ++ (impR (ownId dd i.rs i.as) (orgA Bx i.as args) i.rs y).2)
  | [], h => by cases h
  | i :: r, h => by
    simp only [callWith] at h
    split at h
    · rename_i x hx
      obtain ⟨hc, h⟩ := if_some h
      simp only [Bool.and_eq_true] at hc
      obtain ⟨y, hy, h⟩ := Option.bind_eq_some_iff.1 h
      obtain ⟨hf, h⟩ := if_some h
      cases h
      exact ⟨i, x, y, Nat.eq_of_beq_eq_true hc.1.1, hx, hc.1.2, hc.2, hy, hf, rfl, rfl⟩
    · exact callWith_inv r h

theorem refIds5 : ∀ (as : List ASh) (p id : Nat), id ∈ refIds p as → id % 8 = 5
  | [], _, _, h => by simp [refIds] at h
  | s :: r, p, id, h => by
    cases s <;> simp only [refIds, List.mem_cons] at h <;> first
      | exact refIds5 r (p + 1) id h
      | (rcases h with rfl | h
         · omega
         · exact refIds5 r (p + 1) id h)

section
variable {E : Env}

theorem args_tr {C : Cx} {tm : Nat → T} {a : Act} (hT : ∀ n, TR C (tm n) (a.tmps.getD n undef)) : ∀ (l : List Operand), All2 (TR C) (l.map (evalO tm)) (l.map a.eval)
  | [] => trivial
  | x :: r => ⟨evalO_tr hT x, args_tr hT r⟩

theorem capsT_tr {C : Cx} : ∀ (caps : List Cap) (vs : List Value), All2 (CapR C) caps vs → All2 (TR C) (caps.map capT) vs
  | [], [], _ => trivial
  | .ptr id :: r, v :: vs, h => ⟨h.1, capsT_tr r vs h.2⟩
  | .pp org c x :: r, v :: vs, h => ⟨h.1, capsT_tr r vs h.2⟩
  | [], _ :: _, h => h.elim
  | _ :: _, [], h => h.elim

theorem op_ok (hE : EnvOk E) {run : Orc} (hfn : ∀ i x y, run (.fn i) x = some y → MFn E i x y) : OpOk E run := by
  intro A g B Bx a w o tm t d hM hB hT h
  unfold opK at h
  split at h
  · rename_i f args ats ho
    split at h
    · rename_i gf caps hf
      have hfv := evalO_tr hT f
      rw [hf] at hfv
      obtain ⟨cs, hv, hcs⟩ := (show SR (cxOf A g B w) (.fn gf caps) _ from hfv)
      obtain ⟨i, x, y, rfl, hp, hnd, hap, hy, hfr, rfl, rfl⟩ := callWith_inv _ h
      obtain ⟨⟨fn, hfn1, hbody⟩, hcalls⟩ := hfn i x y hy
      have ha : All2 (TR (cxOf A g B w)) (args.toList.map (evalO tm) ++ caps.map capT) (args.toList.map a.eval ++ cs.toList) := (args_tr hT _).append (capsT_tr _ _ hcs)
      have hap' : ∀ id ∈ lentA i.as (args.toList.map (evalO tm) ++ caps.map capT), id ∉ seenA Bx i.as (args.toList.map (evalO tm) ++ caps.map capT) := fun id hid => apartB_mem hap hid
      obtain ⟨c1, c2⟩ := call_in hM hB hp ha hnd hap'
      have hr : (execOp a.eval o).run E.P w = .ok (.enter i.f (args.toList.map a.eval ++ cs.toList).toArray) w := by
        have hname := hE.name i.f fn hfn1 hbody
        have hb : fn.body.isNone = false := by cases hb : fn.body <;> simp_all
        simp only [execOp, ho, resolve, hv, Deferred.ofValue, Sem.run_bind, Sem.run_pure, Result.andThen_ok, invoke, callFunc, program, Sem.run, hfn1, hname, hb, Bool.false_eq_true, if_false]
        congr 2
        apply Array.ext'
        simp
      intro K Q hK
      unfold Oper.wp
      rw [hr, Oper.upon_enter]
      have hpin : ∀ id ∈ refIds 0 i.as, (baseA A g B Bx w i.as (args.toList.map (evalO tm) ++ caps.map capT)).pin id = gA g 0 i.as (args.toList.map (evalO tm) ++ caps.map capT) id := fun id hid => if_pos (refIds5 _ _ _ hid)
      refine (hcalls _ _ _ c1 c2 hpin).mono fun e w' he => ?_
      obtain ⟨v, rfl, hF⟩ := he
      obtain ⟨g2, m1, m2, m3⟩ := call_out hM hB hp hnd hap' hF hfr
      exact hK g2 w' v m1 m2 m3
    · cases h
  · exact (semK_post hM hB hT hE.eq h).toW

def Mk (E : Env) : (k : Key) → Dom k → Cod k → Prop
  | .fn i, x, y => MFn E i x y
  | .lp f n ex h, x, y => MLp E f n ex h x y

/-- The machine does what the ideal interpreter finds. -/
theorem run_sound (hE : EnvOk E) {k : Key} {x : Dom k} {y : Cod k} (h : run E k x = some y) : Mk E k x y := by
  refine run_ind E (Mk E) (fun r hr k x y hs => ?_) h
  have hop := op_ok hE (run := r) fun i x y hy => hr (.fn i) x y hy
  have hlp : ∀ f n ex h x y, r (.lp f n ex h) x = some y → MLp E f n ex h x y := fun f n ex h x y hy => hr (.lp f n ex h) x y hy
  cases k with
  | fn i => exact fn_step hop hlp hE.dst hs
  | lp f n ex h => exact lp_step hop hlp hs

end
end Ai
end Go.Proofs.Ytpknhlnoaehffaa
