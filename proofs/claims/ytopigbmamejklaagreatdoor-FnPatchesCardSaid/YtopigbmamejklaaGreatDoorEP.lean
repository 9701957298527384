/-
  The tables of the ideal interpreter for this program, and a name for each call and each loop; printed by px.py.
-/
import Derived.Test.YtopigbmamejklaaGreatDoorA30
import Derived.Test.YtopigbmamejklaaGreatDoorS0
import Derived.Test.YtopigbmamejklaaGreatDoorProg
import Derived.KernelRfl
namespace Go.Proofs.YtopigbmamejklaaGreatDoor.Pre
open Ai

noncomputable def fi_impl_within : FI := ⟨78, [.d (.i .i64) false, .d (.i .i64) false, .d (.i .i64) false], [⟨.bool, false, 0⟩]⟩
noncomputable def fi_impl_isSide : FI := ⟨41, [.d (.i .i64) false], [⟨.bool, false, 0⟩]⟩
noncomputable def fi_impl_allWithin_1 : FI := ⟨91, [.d (.i .i64) false, .rp (.i .i64), .rp (.i .i64)], [⟨.bool, false, 0⟩]⟩
noncomputable def fi_slices_IndexFunc_Sint64_int64__impl_allWithin_1 : FI := ⟨138, [.d (.list (.i .i64)) false, .clo 91 [(.i .i64), (.i .i64)]], [⟨(.i .i64), false, 0⟩]⟩
noncomputable def fi_slices_ContainsFunc_Sint64_int64__impl_allWithin_1 : FI := ⟨90, [.d (.list (.i .i64)) false, .clo 91 [(.i .i64), (.i .i64)]], [⟨.bool, false, 0⟩]⟩
noncomputable def fi_impl_allWithin : FI := ⟨60, [.d (.list (.i .i64)) false, .d (.i .i64) false, .d (.i .i64) false], [⟨.bool, false, 0⟩]⟩
noncomputable def fi_impl_IsPatch : FI := ⟨24, [.d (.pair (.i .i64) (.pair (.i .i64) (.list (.i .i64)))) true], [⟨.bool, false, 0⟩]⟩
noncomputable def fi_strconv_FormatInt : FI := ⟨158, [.d (.i .i64) false, .d (.i .i64) false], [⟨.str, false, 0⟩]⟩
noncomputable def fi_impl_text : FI := ⟨112, [.d (.i .i64) false], [⟨.str, false, 0⟩]⟩
noncomputable def fi_strings_Join : FI := ⟨135, [.d (.list .str) false, .d .str false], [⟨.str, false, 0⟩]⟩
noncomputable def fi_impl_joined : FI := ⟨85, [.d .str false, .d (.list (.i .i64)) false], [⟨.str, false, 0⟩]⟩
noncomputable def fi_impl_digitsText : FI := ⟨53, [.d (.list (.i .i64)) false], [⟨.str, false, 0⟩]⟩
noncomputable def tabF (f : FuncId) : List FI := (cond (Nat.ble 90 f) (cond (Nat.ble 135 f) (cond (Nat.ble 138 f) (cond (Nat.ble 158 f) (cond (Nat.beq f 158) [fi_strconv_FormatInt] []) (cond (Nat.beq f 138) [fi_slices_IndexFunc_Sint64_int64__impl_allWithin_1] [])) (cond (Nat.beq f 135) [fi_strings_Join] [])) (cond (Nat.ble 91 f) (cond (Nat.ble 112 f) (cond (Nat.beq f 112) [fi_impl_text] []) (cond (Nat.beq f 91) [fi_impl_allWithin_1] [])) (cond (Nat.beq f 90) [fi_slices_ContainsFunc_Sint64_int64__impl_allWithin_1] []))) (cond (Nat.ble 60 f) (cond (Nat.ble 78 f) (cond (Nat.ble 85 f) (cond (Nat.beq f 85) [fi_impl_joined] []) (cond (Nat.beq f 78) [fi_impl_within] [])) (cond (Nat.beq f 60) [fi_impl_allWithin] [])) (cond (Nat.ble 41 f) (cond (Nat.ble 53 f) (cond (Nat.beq f 53) [fi_impl_digitsText] []) (cond (Nat.beq f 41) [fi_impl_isSide] [])) (cond (Nat.beq f 24) [fi_impl_IsPatch] []))))
noncomputable def tabH (f n : Nat) : List (List It) := (cond (Nat.ble 138 f) (cond (Nat.beq f 138) (cond (Nat.beq n 0) [[.sl 0 1 false (.list (.i .i64)), .cl 1 91 2 [(.i .i64), (.i .i64)], .sl 7 0 false (.i .i64), .sl 8 0 false (.i .i64)]] []) []) (cond (Nat.beq f 85) (cond (Nat.beq n 0) [[.sl 0 0 false .str, .so 5 0 .str, .sl 9 2 false (.list (.i .i64)), .sl 10 0 false (.i .i64), .sl 11 0 false (.i .i64)]] []) []))
noncomputable def tabX (f n : Nat) : Exs := (cond (Nat.ble 138 f) (cond (Nat.beq f 138) (cond (Nat.beq n 0) [(.exit 0, []), (.ret, [.sl 4 0 false (.i .i64)])] []) []) (cond (Nat.beq f 85) (cond (Nat.beq n 0) [(.exit 0, [.sl 0 0 false .str, .so 5 0 .str])] []) []))
/-- The program alone. -/
noncomputable def env0 : Env := { P := Tryz.prog, fi := fun _ => [], heads := fun _ _ => [], exits := fun _ _ => [], eqT := [], mutF := [] }
noncomputable def env : Env := { P := Tryz.prog, fi := tabF, heads := tabH, exits := tabX, eqT := [], mutF := [], srcT := [], joinT := [], isExt := fun f => Nat.beq f 158 || Nat.beq f 135, exf := (fmaF 158 (joiF 135 (fun _ _ => none))), tabs := [(1, (· = pow10Cells))], loose := true }

noncomputable def impl_within (x0 x1 x2 : Int) : Option (Bool) := run env (.fn fi_impl_within) (x0, x1, x2)
noncomputable def impl_isSide (x0 : Int) : Option (Bool) := run env (.fn fi_impl_isSide) x0
noncomputable def impl_allWithin_1 (x0 x1 x2 : Int) : Option (Bool) := run env (.fn fi_impl_allWithin_1) (x0, x1, x2)
noncomputable def slices_IndexFunc_Sint64_int64__impl_allWithin_1_l0 (x0 : List Int) (x1 : Int × Int) (x2 x3 : Int) : Option (Unit ⊕ Int) := run env (.lp 138 0 ([(.exit 0, []), (.ret, [.sl 4 0 false (.i .i64)])]) ([.sl 0 1 false (.list (.i .i64)), .cl 1 91 2 [(.i .i64), (.i .i64)], .sl 7 0 false (.i .i64), .sl 8 0 false (.i .i64)])) (x0, x1, x2, x3)
noncomputable def slices_IndexFunc_Sint64_int64__impl_allWithin_1 (x0 : List Int) (x1 : Int × Int) : Option (Int) := run env (.fn fi_slices_IndexFunc_Sint64_int64__impl_allWithin_1) (x0, x1)
noncomputable def slices_ContainsFunc_Sint64_int64__impl_allWithin_1 (x0 : List Int) (x1 : Int × Int) : Option (Bool) := run env (.fn fi_slices_ContainsFunc_Sint64_int64__impl_allWithin_1) (x0, x1)
noncomputable def impl_allWithin (x0 : List Int) (x1 x2 : Int) : Option (Bool) := run env (.fn fi_impl_allWithin) (x0, x1, x2)
noncomputable def impl_IsPatch (x0 : Int × Int × List Int) : Option (Bool) := run env (.fn fi_impl_IsPatch) x0
noncomputable def impl_text (x0 : Int) : Option (List UInt8) := run env (.fn fi_impl_text) x0
noncomputable def impl_joined_l0 (x0 : List UInt8) (x1 : List (List UInt8)) (x2 : List Int) (x3 x4 : Int) : Option ((List UInt8) × (List (List UInt8))) := run env (.lp 85 0 ([(.exit 0, [.sl 0 0 false .str, .so 5 0 .str])]) ([.sl 0 0 false .str, .so 5 0 .str, .sl 9 2 false (.list (.i .i64)), .sl 10 0 false (.i .i64), .sl 11 0 false (.i .i64)])) (x0, x1, x2, x3, x4)
noncomputable def impl_joined (x0 : List UInt8) (x1 : List Int) : Option (List UInt8) := run env (.fn fi_impl_joined) (x0, x1)
noncomputable def impl_digitsText (x0 : List Int) : Option (List UInt8) := run env (.fn fi_impl_digitsText) x0
noncomputable def strconv_FormatInt (x0 x1 : Int) : Option (List UInt8) := run env (.fn fi_strconv_FormatInt) (x0, x1)
theorem strconv_FormatInt_ext (x0 x1 : Int) : strconv_FormatInt x0 x1 = fmaX (x0, x1) := (run_eq env _ _).trans (Eq.trans (b := (fmaF 158 (joiF 135 (fun _ _ => none))) (fmaI 158) (x0, x1)) (by kernel_rfl) (fmaF_eq (x0, x1)))
noncomputable def strings_Join (x0 : List (List UInt8)) (x1 : List UInt8) : Option (List UInt8) := run env (.fn fi_strings_Join) (x0, x1)
theorem strings_Join_ext (x0 : List (List UInt8)) (x1 : List UInt8) : strings_Join x0 x1 = joiX (x0, x1) := (run_eq env _ _).trans (Eq.trans (b := (fmaF 158 (joiF 135 (fun _ _ => none))) (joiI 135) (x0, x1)) (by kernel_rfl) ((fmaF_ne (by decide) _).trans (joiF_eq (x0, x1))))
theorem fma158_mfn (x : Int × Int) (y : List UInt8) (h : fmaX x = some y) : MFn env (fmaI 158) x y := fma_mfn (E := env) (ρ := fmt_lays_ren) fmt_lays (by kernel_rfl) (g := 1) (by kernel_rfl) (List.mem_cons_self ..) h
theorem joi135_mfn (x : List (List UInt8) × List UInt8) (y : List UInt8) (h : joiX x = some y) : MFn env (joiI 135) x y := joi_mfn (E := env) (ρ := joi_lays_ren) rfl joi_lays joi_extra (by kernel_rfl) h

theorem env_ok : EnvOk env := envOk_of (by kernel_rfl) (by kernel_rfl) (fun i x y _ h => (fmaF_ok (k := (joiF 135 (fun _ _ => none))) (joiF_ok (k := (fun _ _ => none)) (fun (i : FI) (x : Dom (.fn i)) (y : Cod (.fn i)) (h : none = some y) => by cases h) joi135_mfn) fma158_mfn) i x y h)

end Go.Proofs.YtopigbmamejklaaGreatDoor.Pre
