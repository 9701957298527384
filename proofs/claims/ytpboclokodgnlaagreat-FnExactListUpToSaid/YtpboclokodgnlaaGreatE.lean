/-
  The interpreter's tables for a law that is walked by hand: it is an outside callee.
-/
import Derived.Test.YtpboclokodgnlaaGreatA50
import Derived.KernelRfl
namespace Go.Proofs.YtpboclokodgnlaaGreat
open Ai

noncomputable def fi_laws_FnExactListUpTo : FI := lwxI 3
noncomputable def env : Env := { P := Tryz.prog, fi := fun f => cond (Nat.beq f 3) [fi_laws_FnExactListUpTo] [], heads := fun _ _ => [], exits := fun _ _ => [], eqT := [], mutF := [], isExt := fun f => Nat.beq f 3, exf := lwxF 3 (fun _ _ => none), loose := true }

noncomputable def laws_FnExactListUpTo (x0 : Int) (x1 : Int × Int × Int) (x2 : List ((Int × Int × Int × Int) × Int × Int)) (x3 : Int) : Option Bool := run env (.fn fi_laws_FnExactListUpTo) (x0, x1, x2, x3)
theorem laws_FnExactListUpTo_ext (x0 : Int) (x1 : Int × Int × Int) (x2 : List ((Int × Int × Int × Int) × Int × Int)) (x3 : Int) : laws_FnExactListUpTo x0 x1 x2 x3 = lwxX (x0, x1, x2, x3) := (run_eq env _ _).trans (Eq.trans (b := lwxF 3 (fun _ _ => none) (lwxI 3) (x0, x1, x2, x3)) (by kernel_rfl) (lwxF_eq _))
theorem env_ok : EnvOk env := envOk_of (by kernel_rfl) (by kernel_rfl) (fun i x y _ h => lwxF_ok (f := 3) (k := fun _ _ => none) (fun (i : FI) (x : Dom (.fn i)) (y : Cod (.fn i)) (h : none = some y) => by cases h) (fun x y h => lwx_mfn (E := env) rfl rfl h) i x y h)

end Go.Proofs.YtpboclokodgnlaaGreat
