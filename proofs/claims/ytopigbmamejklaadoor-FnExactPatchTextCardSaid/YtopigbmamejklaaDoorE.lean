/-
  The tables of the ideal interpreter for this program, and a name for each call and each loop; printed by px.py.
-/
import Derived.Test.YtopigbmamejklaaDoorA30
import Derived.Test.YtopigbmamejklaaDoorS
import Derived.Test.YtopigbmamejklaaDoorProg
import Derived.KernelRfl
namespace Go.Proofs.YtopigbmamejklaaDoor
open Ai

noncomputable def fi_laws_szInt64S : FI := ⟨27, [.d (.list (.i .i64)) false, .d (.i .i64) false], [⟨(.i .i64), false, 0⟩]⟩
noncomputable def fi_laws_szPatch : FI := ⟨11, [.d (.pair (.i .i64) (.pair (.i .i64) (.list (.i .i64)))) true, .d (.i .i64) false], [⟨(.i .i64), false, 0⟩]⟩
noncomputable def fi_laws_toInt64S : FI := ⟨30, [.d (.list (.i .i64)) false], [⟨(.list (.i .i64)), false, 0⟩]⟩
noncomputable def fi_laws_toPatch : FI := ⟨13, [.d (.pair (.i .i64) (.pair (.i .i64) (.list (.i .i64)))) true], [⟨(.pair (.i .i64) (.pair (.i .i64) (.list (.i .i64)))), true, 0⟩]⟩
noncomputable def fi_spec_l01In : FI := ⟨49, [.d (.i .i64) false, .d (.i .i64) false, .d (.i .i64) false], [⟨.bool, false, 0⟩]⟩
noncomputable def fi_spec_l01Within : FI := ⟨50, [.d (.list (.i .i64)) false, .d (.i .i64) false, .d (.i .i64) false, .d (.i .i64) false], [⟨.bool, false, 0⟩]⟩
noncomputable def fi_spec_IsPatch : FI := ⟨28, [.d (.pair (.i .i64) (.pair (.i .i64) (.list (.i .i64)))) true], [⟨.bool, false, 0⟩]⟩
noncomputable def fi_spec_l20Text : FI := ⟨29, [.d (.pair (.i .i64) (.pair (.i .i64) (.list (.i .i64)))) true], [⟨.str, false, 0⟩]⟩
noncomputable def fi_spec_PatchText : FI := ⟨12, [.d (.pair (.i .i64) (.pair (.i .i64) (.list (.i .i64)))) true], [⟨.str, false, 0⟩, ⟨(.i .i64), false, 0⟩]⟩
noncomputable def fi_impl_PatchText : FI := ⟨14, [.d (.pair (.i .i64) (.pair (.i .i64) (.list (.i .i64)))) true], [⟨.str, false, 0⟩, ⟨(.i .i64), false, 0⟩]⟩
noncomputable def fi_laws_eqInt64S : FI := ⟨34, [.d (.list (.i .i64)) false, .d (.list (.i .i64)) false], [⟨.bool, false, 0⟩]⟩
noncomputable def fi_laws_eqPatch : FI := ⟨15, [.d (.pair (.i .i64) (.pair (.i .i64) (.list (.i .i64)))) true, .d (.pair (.i .i64) (.pair (.i .i64) (.list (.i .i64)))) true], [⟨.bool, false, 0⟩]⟩
noncomputable def fi_laws_FnExactPatchText : FI := ⟨4, [.d (.pair (.i .i64) (.pair (.i .i64) (.list (.i .i64)))) true], [⟨.bool, false, 0⟩]⟩
noncomputable def tabF (f : FuncId) : List FI := (cond (Nat.ble 27 f) (cond (Nat.ble 30 f) (cond (Nat.ble 49 f) (cond (Nat.ble 50 f) (cond (Nat.beq f 50) [fi_spec_l01Within] []) (cond (Nat.beq f 49) [fi_spec_l01In] [])) (cond (Nat.ble 34 f) (cond (Nat.beq f 34) [fi_laws_eqInt64S] []) (cond (Nat.beq f 30) [fi_laws_toInt64S] []))) (cond (Nat.ble 28 f) (cond (Nat.ble 29 f) (cond (Nat.beq f 29) [fi_spec_l20Text] []) (cond (Nat.beq f 28) [fi_spec_IsPatch] [])) (cond (Nat.beq f 27) [fi_laws_szInt64S] []))) (cond (Nat.ble 13 f) (cond (Nat.ble 14 f) (cond (Nat.ble 15 f) (cond (Nat.beq f 15) [fi_laws_eqPatch] []) (cond (Nat.beq f 14) [fi_impl_PatchText] [])) (cond (Nat.beq f 13) [fi_laws_toPatch] [])) (cond (Nat.ble 11 f) (cond (Nat.ble 12 f) (cond (Nat.beq f 12) [fi_spec_PatchText] []) (cond (Nat.beq f 11) [fi_laws_szPatch] [])) (cond (Nat.beq f 4) [fi_laws_FnExactPatchText] []))))
noncomputable def tabH (f n : Nat) : List (List It) := (cond (Nat.ble 34 f) (cond (Nat.ble 50 f) (cond (Nat.beq f 50) (cond (Nat.beq n 0) [[.sl 0 1 false (.list (.i .i64)), .sl 1 0 false (.i .i64), .sl 2 0 false (.i .i64), .sl 3 0 false (.i .i64), .sl 9 0 false (.i .i64)]] []) []) (cond (Nat.beq f 34) (cond (Nat.beq n 0) [[.sl 0 1 false (.list (.i .i64)), .sl 1 2 false (.list (.i .i64)), .sl 5 0 false (.i .i64)]] []) [])) (cond (Nat.ble 30 f) (cond (Nat.beq f 30) (cond (Nat.beq n 0) [[.sl 0 1 false (.list (.i .i64)), .so 3 0 (.i .i64), .sl 4 0 false (.i .i64)]] []) []) (cond (Nat.beq f 29) (cond (Nat.beq n 0) [[.sk 1 (.ptr 8 0), .so 3 0 (.i .u8), .sl 4 0 false (.i .i64), .bd 8 0 0 (.i .i64), .bd 8 1 0 (.i .i64), .bd 8 2 1 (.list (.i .i64)), .bx 8 3]] []) [])))
noncomputable def tabX (f n : Nat) : Exs := (cond (Nat.ble 34 f) (cond (Nat.ble 50 f) (cond (Nat.beq f 50) (cond (Nat.beq n 0) [(.exit 0, [.sl 0 1 false (.list (.i .i64)), .sl 1 0 false (.i .i64)]), (.ret, [.sl 8 0 false .bool])] []) []) (cond (Nat.beq f 34) (cond (Nat.beq n 0) [(.exit 0, []), (.ret, [.sl 4 0 false .bool])] []) [])) (cond (Nat.ble 30 f) (cond (Nat.beq f 30) (cond (Nat.beq n 0) [(.exit 0, [.so 3 0 (.i .i64)])] []) []) (cond (Nat.beq f 29) (cond (Nat.beq n 0) [(.exit 0, [.so 3 0 (.i .u8)])] []) [])))
/-- The program alone. -/
noncomputable def env0 : Env := { P := Tryd.prog, fi := fun _ => [], heads := fun _ _ => [], exits := fun _ _ => [], eqT := [], mutF := [] }
noncomputable def env : Env := { P := Tryd.prog, fi := tabF, heads := tabH, exits := tabX, eqT := [], mutF := [], srcT := [], joinT := [], isExt := fun f => Nat.beq f 14, exf := (ptxF 14 (fun _ _ => none)), tabs := [(1, (· = pow10Cells))], loose := true }

noncomputable def laws_szInt64S (x0 : List Int) (x1 : Int) : Option (Int) := run env (.fn fi_laws_szInt64S) (x0, x1)
noncomputable def laws_szPatch (x0 : Int × Int × List Int) (x1 : Int) : Option (Int) := run env (.fn fi_laws_szPatch) (x0, x1)
noncomputable def laws_toInt64S_l0 (x0 x1 : List Int) (x2 : Int) : Option (List Int) := run env (.lp 30 0 ([(.exit 0, [.so 3 0 (.i .i64)])]) ([.sl 0 1 false (.list (.i .i64)), .so 3 0 (.i .i64), .sl 4 0 false (.i .i64)])) (x0, x1, x2)
noncomputable def laws_toInt64S (x0 : List Int) : Option (List Int) := run env (.fn fi_laws_toInt64S) x0
noncomputable def laws_toPatch (x0 : Int × Int × List Int) : Option (Int × Int × List Int) := run env (.fn fi_laws_toPatch) x0
noncomputable def spec_l01In (x0 x1 x2 : Int) : Option (Bool) := run env (.fn fi_spec_l01In) (x0, x1, x2)
noncomputable def spec_l01Within_l0 (x0 : List Int) (x1 x2 x3 x4 : Int) : Option (((List Int) × Int) ⊕ Bool) := run env (.lp 50 0 ([(.exit 0, [.sl 0 1 false (.list (.i .i64)), .sl 1 0 false (.i .i64)]), (.ret, [.sl 8 0 false .bool])]) ([.sl 0 1 false (.list (.i .i64)), .sl 1 0 false (.i .i64), .sl 2 0 false (.i .i64), .sl 3 0 false (.i .i64), .sl 9 0 false (.i .i64)])) (x0, x1, x2, x3, x4)
noncomputable def spec_l01Within (x0 : List Int) (x1 x2 x3 : Int) : Option (Bool) := run env (.fn fi_spec_l01Within) (x0, x1, x2, x3)
noncomputable def spec_IsPatch (x0 : Int × Int × List Int) : Option (Bool) := run env (.fn fi_spec_IsPatch) x0
noncomputable def spec_l20Text_l0 (x0 : List Int) (x1 x2 x3 : Int) (x4 : List Int) : Option (List Int) := run env (.lp 29 0 ([(.exit 0, [.so 3 0 (.i .u8)])]) ([.sk 1 (.ptr 8 0), .so 3 0 (.i .u8), .sl 4 0 false (.i .i64), .bd 8 0 0 (.i .i64), .bd 8 1 0 (.i .i64), .bd 8 2 1 (.list (.i .i64)), .bx 8 3])) (x0, x1, x2, x3, x4)
noncomputable def spec_l20Text (x0 : Int × Int × List Int) : Option (List UInt8) := run env (.fn fi_spec_l20Text) x0
noncomputable def spec_PatchText (x0 : Int × Int × List Int) : Option ((List UInt8) × Int) := run env (.fn fi_spec_PatchText) x0
noncomputable def laws_eqInt64S_l0 (x0 x1 : List Int) (x2 : Int) : Option (Unit ⊕ Bool) := run env (.lp 34 0 ([(.exit 0, []), (.ret, [.sl 4 0 false .bool])]) ([.sl 0 1 false (.list (.i .i64)), .sl 1 2 false (.list (.i .i64)), .sl 5 0 false (.i .i64)])) (x0, x1, x2)
noncomputable def laws_eqInt64S (x0 x1 : List Int) : Option (Bool) := run env (.fn fi_laws_eqInt64S) (x0, x1)
noncomputable def laws_eqPatch (x0 x1 : Int × Int × List Int) : Option (Bool) := run env (.fn fi_laws_eqPatch) (x0, x1)
noncomputable def laws_FnExactPatchText (x0 : Int × Int × List Int) : Option (Bool) := run env (.fn fi_laws_FnExactPatchText) x0
noncomputable def impl_PatchText (x0 : Int × Int × List Int) : Option (List UInt8 × Int) := run env (.fn fi_impl_PatchText) x0
theorem impl_PatchText_ext (x0 : Int × Int × List Int) : impl_PatchText x0 = ptxX x0 := (run_eq env _ _).trans (Eq.trans (b := (ptxF 14 (fun _ _ => none)) (ptxI 14) x0) (by kernel_rfl) (ptxF_eq x0))
theorem ptx14_mfn (x : Int × Int × List Int) (y : List UInt8 × Int) (h : ptxX x = some y) : MFn env (ptxI 14) x y := ptx_mfn (E := env) rfl rfl (fun p hp => by obtain rfl := List.mem_singleton.1 hp; exact (List.mem_cons_self ..)) h

theorem env_ok : EnvOk env := envOk_of (by kernel_rfl) (by kernel_rfl) (fun i x y _ h => (ptxF_ok (k := (fun _ _ => none)) (fun (i : FI) (x : Dom (.fn i)) (y : Cod (.fn i)) (h : none = some y) => by cases h) ptx14_mfn) i x y h)

end Go.Proofs.YtopigbmamejklaaDoor
