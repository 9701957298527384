/-
  The tables of the ideal interpreter for this program, and a name for each call and each loop; printed by px.py.
-/
import Derived.Test.YtopigbmamejklaaDoorA30
import Derived.Test.YtopigbmamejklaaDoorS
import Derived.Test.YtopigbmamejklaaDoorProg
import Derived.KernelRfl
namespace Go.Proofs.YtopigbmamejklaaDoor
open Ai

noncomputable def fi_laws_szVecS : FI := ⟨6, [.d (.list (.pair (.i .i64) (.i .i64))) false, .d (.i .i64) false], [⟨(.i .i64), false, 0⟩]⟩
noncomputable def fi_laws_toVec : FI := ⟨22, [.d (.pair (.i .i64) (.i .i64)) true], [⟨(.pair (.i .i64) (.i .i64)), true, 0⟩]⟩
noncomputable def fi_laws_toVecS : FI := ⟨8, [.d (.list (.pair (.i .i64) (.i .i64))) false], [⟨(.list (.pair (.i .i64) (.i .i64))), false, 0⟩]⟩
noncomputable def fi_spec_l01In : FI := ⟨49, [.d (.i .i64) false, .d (.i .i64) false, .d (.i .i64) false], [⟨.bool, false, 0⟩]⟩
noncomputable def fi_spec_IsVec : FI := ⟨40, [.d (.pair (.i .i64) (.i .i64)) true], [⟨.bool, false, 0⟩]⟩
noncomputable def fi_spec_l01Less : FI := ⟨41, [.d (.pair (.i .i64) (.i .i64)) true, .d (.pair (.i .i64) (.i .i64)) true], [⟨.bool, false, 0⟩]⟩
noncomputable def fi_spec_IsTile : FI := ⟨20, [.d (.list (.pair (.i .i64) (.i .i64))) false], [⟨.bool, false, 0⟩]⟩
noncomputable def fi_spec_l01Dec : FI := ⟨58, [.d (.i .i64) false], [⟨.str, false, 0⟩]⟩
noncomputable def fi_spec_l01Number : FI := ⟨42, [.d (.i .i64) false], [⟨.str, false, 0⟩]⟩
noncomputable def fi_spec_VecText : FI := ⟨21, [.d (.pair (.i .i64) (.i .i64)) true], [⟨.str, false, 0⟩]⟩
noncomputable def fi_spec_TileText : FI := ⟨7, [.d (.list (.pair (.i .i64) (.i .i64))) false], [⟨.str, false, 0⟩]⟩
noncomputable def fi_impl_within : FI := ⟨64, [.d (.i .i64) false, .d (.i .i64) false, .d (.i .i64) false], [⟨.bool, false, 0⟩]⟩
noncomputable def fi_impl_isCoordinate : FI := ⟨59, [.d (.i .i64) false], [⟨.bool, false, 0⟩]⟩
noncomputable def fi_impl_IsVec : FI := ⟨43, [.d (.pair (.i .i64) (.i .i64)) true], [⟨.bool, false, 0⟩]⟩
noncomputable def fi_impl_compareNumbers : FI := ⟨60, [.d (.list (.i .i64)) false, .d (.list (.i .i64)) false], [⟨(.i .i64), false, 0⟩]⟩
noncomputable def fi_impl_compareVecs : FI := ⟨44, [.d (.pair (.i .i64) (.i .i64)) true, .d (.pair (.i .i64) (.i .i64)) true], [⟨(.i .i64), false, 0⟩]⟩
noncomputable def fi_impl_IsTile : FI := ⟨23, [.d (.list (.pair (.i .i64) (.i .i64))) false], [⟨.bool, false, 0⟩]⟩
noncomputable def fi_strconv_FormatInt : FI := ⟨69, [.d (.i .i64) false, .d (.i .i64) false], [⟨.str, false, 0⟩]⟩
noncomputable def fi_impl_text : FI := ⟨61, [.d (.i .i64) false], [⟨.str, false, 0⟩]⟩
noncomputable def fi_strings_Join : FI := ⟨25, [.d (.list .str) false, .d .str false], [⟨.str, false, 0⟩]⟩
noncomputable def fi_impl_joined : FI := ⟨45, [.d .str false, .d (.list (.i .i64)) false], [⟨.str, false, 0⟩]⟩
noncomputable def fi_impl_VecText : FI := ⟨24, [.d (.pair (.i .i64) (.i .i64)) true], [⟨.str, false, 0⟩]⟩
noncomputable def fi_impl_TileText : FI := ⟨9, [.d (.list (.pair (.i .i64) (.i .i64))) false], [⟨.str, false, 0⟩]⟩
noncomputable def fi_laws_eqVec : FI := ⟨26, [.d (.pair (.i .i64) (.i .i64)) true, .d (.pair (.i .i64) (.i .i64)) true], [⟨.bool, false, 0⟩]⟩
noncomputable def fi_laws_eqVecS : FI := ⟨10, [.d (.list (.pair (.i .i64) (.i .i64))) false, .d (.list (.pair (.i .i64) (.i .i64))) false], [⟨.bool, false, 0⟩]⟩
noncomputable def fi_laws_FnExactTileText : FI := ⟨3, [.d (.list (.pair (.i .i64) (.i .i64))) false], [⟨.bool, false, 0⟩]⟩
noncomputable def tabF (f : FuncId) : List FI := (cond (Nat.ble 40 f) (cond (Nat.ble 49 f) (cond (Nat.ble 60 f) (cond (Nat.ble 64 f) (cond (Nat.ble 69 f) (cond (Nat.beq f 69) [fi_strconv_FormatInt] []) (cond (Nat.beq f 64) [fi_impl_within] [])) (cond (Nat.ble 61 f) (cond (Nat.beq f 61) [fi_impl_text] []) (cond (Nat.beq f 60) [fi_impl_compareNumbers] []))) (cond (Nat.ble 58 f) (cond (Nat.ble 59 f) (cond (Nat.beq f 59) [fi_impl_isCoordinate] []) (cond (Nat.beq f 58) [fi_spec_l01Dec] [])) (cond (Nat.beq f 49) [fi_spec_l01In] []))) (cond (Nat.ble 43 f) (cond (Nat.ble 44 f) (cond (Nat.ble 45 f) (cond (Nat.beq f 45) [fi_impl_joined] []) (cond (Nat.beq f 44) [fi_impl_compareVecs] [])) (cond (Nat.beq f 43) [fi_impl_IsVec] [])) (cond (Nat.ble 41 f) (cond (Nat.ble 42 f) (cond (Nat.beq f 42) [fi_spec_l01Number] []) (cond (Nat.beq f 41) [fi_spec_l01Less] [])) (cond (Nat.beq f 40) [fi_spec_IsVec] [])))) (cond (Nat.ble 20 f) (cond (Nat.ble 23 f) (cond (Nat.ble 25 f) (cond (Nat.ble 26 f) (cond (Nat.beq f 26) [fi_laws_eqVec] []) (cond (Nat.beq f 25) [fi_strings_Join] [])) (cond (Nat.ble 24 f) (cond (Nat.beq f 24) [fi_impl_VecText] []) (cond (Nat.beq f 23) [fi_impl_IsTile] []))) (cond (Nat.ble 21 f) (cond (Nat.ble 22 f) (cond (Nat.beq f 22) [fi_laws_toVec] []) (cond (Nat.beq f 21) [fi_spec_VecText] [])) (cond (Nat.beq f 20) [fi_spec_IsTile] []))) (cond (Nat.ble 8 f) (cond (Nat.ble 9 f) (cond (Nat.ble 10 f) (cond (Nat.beq f 10) [fi_laws_eqVecS] []) (cond (Nat.beq f 9) [fi_impl_TileText] [])) (cond (Nat.beq f 8) [fi_laws_toVecS] [])) (cond (Nat.ble 6 f) (cond (Nat.ble 7 f) (cond (Nat.beq f 7) [fi_spec_TileText] []) (cond (Nat.beq f 6) [fi_laws_szVecS] [])) (cond (Nat.beq f 3) [fi_laws_FnExactTileText] [])))))
noncomputable def tabH (f n : Nat) : List (List It) := (cond (Nat.ble 20 f) (cond (Nat.ble 45 f) (cond (Nat.ble 60 f) (cond (Nat.beq f 60) (cond (Nat.beq n 0) [[.sl 0 1 false (.list (.i .i64)), .sl 1 2 false (.list (.i .i64)), .sl 7 0 false (.i .i64), .sl 8 0 false (.i .i64)]] []) []) (cond (Nat.beq f 45) (cond (Nat.beq n 0) [[.sl 0 0 false .str, .so 5 0 .str, .sl 9 2 false (.list (.i .i64)), .sl 10 0 false (.i .i64), .sl 11 0 false (.i .i64)]] []) [])) (cond (Nat.ble 23 f) (cond (Nat.beq f 23) (cond (Nat.beq n 0) [[.sl 0 1 false (.list (.pair (.i .i64) (.i .i64))), .sl 5 1 false (.list (.pair (.i .i64) (.i .i64))), .sl 6 0 false (.i .i64), .sl 7 0 false (.i .i64)]] []) []) (cond (Nat.beq f 20) (cond (Nat.beq n 0) [[.sl 0 1 false (.list (.pair (.i .i64) (.i .i64))), .sl 3 0 false (.i .i64)]] []) []))) (cond (Nat.ble 9 f) (cond (Nat.ble 10 f) (cond (Nat.beq f 10) (cond (Nat.beq n 0) [[.sl 0 1 false (.list (.pair (.i .i64) (.i .i64))), .sl 1 2 false (.list (.pair (.i .i64) (.i .i64))), .sl 5 0 false (.i .i64)]] []) []) (cond (Nat.beq f 9) (cond (Nat.beq n 0) [[.so 3 0 .str, .sl 10 1 false (.list (.pair (.i .i64) (.i .i64))), .sl 11 0 false (.i .i64), .sl 12 0 false (.i .i64)]] []) [])) (cond (Nat.ble 8 f) (cond (Nat.beq f 8) (cond (Nat.beq n 0) [[.sl 0 1 false (.list (.pair (.i .i64) (.i .i64))), .so 3 0 (.pair (.i .i64) (.i .i64)), .sl 4 0 false (.i .i64)]] []) []) (cond (Nat.beq f 7) (cond (Nat.beq n 0) [[.sl 0 1 false (.list (.pair (.i .i64) (.i .i64))), .sl 3 0 false .str, .sl 4 0 false (.i .i64)]] []) []))))
noncomputable def tabX (f n : Nat) : Exs := (cond (Nat.ble 20 f) (cond (Nat.ble 45 f) (cond (Nat.ble 60 f) (cond (Nat.beq f 60) (cond (Nat.beq n 0) [(.exit 0, []), (.ret, [.sl 4 0 false (.i .i64)])] []) []) (cond (Nat.beq f 45) (cond (Nat.beq n 0) [(.exit 0, [.sl 0 0 false .str, .so 5 0 .str])] []) [])) (cond (Nat.ble 23 f) (cond (Nat.beq f 23) (cond (Nat.beq n 0) [(.exit 0, [.sl 0 1 false (.list (.pair (.i .i64) (.i .i64)))]), (.ret, [.sl 2 0 false .bool])] []) []) (cond (Nat.beq f 20) (cond (Nat.beq n 0) [(.exit 0, [.sl 0 1 false (.list (.pair (.i .i64) (.i .i64)))]), (.ret, [.sl 2 0 false .bool])] []) []))) (cond (Nat.ble 9 f) (cond (Nat.ble 10 f) (cond (Nat.beq f 10) (cond (Nat.beq n 0) [(.exit 0, []), (.ret, [.sl 4 0 false .bool])] []) []) (cond (Nat.beq f 9) (cond (Nat.beq n 0) [(.exit 0, [.so 3 0 .str])] []) [])) (cond (Nat.ble 8 f) (cond (Nat.beq f 8) (cond (Nat.beq n 0) [(.exit 0, [.so 3 0 (.pair (.i .i64) (.i .i64))])] []) []) (cond (Nat.beq f 7) (cond (Nat.beq n 0) [(.exit 0, [.sl 3 0 false .str])] []) []))))
/-- The program alone. -/
noncomputable def env0 : Env := { P := Tryd.prog, fi := fun _ => [], heads := fun _ _ => [], exits := fun _ _ => [], eqT := [], mutF := [] }
noncomputable def env : Env := { P := Tryd.prog, fi := tabF, heads := tabH, exits := tabX, eqT := [], mutF := [], srcT := [], joinT := [], isExt := fun f => Nat.beq f 69 || Nat.beq f 25, exf := (fmaF 69 (joiF 25 (fun _ _ => none))), tabs := [(1, pow10Cells)], loose := true }

noncomputable def laws_szVecS (x0 : List (Int × Int)) (x1 : Int) : Option (Int) := run env (.fn fi_laws_szVecS) (x0, x1)
noncomputable def laws_toVec (x0 : Int × Int) : Option (Int × Int) := run env (.fn fi_laws_toVec) x0
noncomputable def laws_toVecS_l0 (x0 x1 : List (Int × Int)) (x2 : Int) : Option (List (Int × Int)) := run env (.lp 8 0 ([(.exit 0, [.so 3 0 (.pair (.i .i64) (.i .i64))])]) ([.sl 0 1 false (.list (.pair (.i .i64) (.i .i64))), .so 3 0 (.pair (.i .i64) (.i .i64)), .sl 4 0 false (.i .i64)])) (x0, x1, x2)
noncomputable def laws_toVecS (x0 : List (Int × Int)) : Option (List (Int × Int)) := run env (.fn fi_laws_toVecS) x0
noncomputable def spec_l01In (x0 x1 x2 : Int) : Option (Bool) := run env (.fn fi_spec_l01In) (x0, x1, x2)
noncomputable def spec_IsVec (x0 : Int × Int) : Option (Bool) := run env (.fn fi_spec_IsVec) x0
noncomputable def spec_l01Less (x0 x1 : Int × Int) : Option (Bool) := run env (.fn fi_spec_l01Less) (x0, x1)
noncomputable def spec_IsTile_l0 (x0 : List (Int × Int)) (x1 : Int) : Option ((List (Int × Int)) ⊕ Bool) := run env (.lp 20 0 ([(.exit 0, [.sl 0 1 false (.list (.pair (.i .i64) (.i .i64)))]), (.ret, [.sl 2 0 false .bool])]) ([.sl 0 1 false (.list (.pair (.i .i64) (.i .i64))), .sl 3 0 false (.i .i64)])) (x0, x1)
noncomputable def spec_IsTile (x0 : List (Int × Int)) : Option (Bool) := run env (.fn fi_spec_IsTile) x0
noncomputable def spec_l01Dec (x0 : Int) : Option (List UInt8) := run env (.fn fi_spec_l01Dec) x0
noncomputable def spec_l01Number (x0 : Int) : Option (List UInt8) := run env (.fn fi_spec_l01Number) x0
noncomputable def spec_VecText (x0 : Int × Int) : Option (List UInt8) := run env (.fn fi_spec_VecText) x0
noncomputable def spec_TileText_l0 (x0 : List (Int × Int)) (x1 : List UInt8) (x2 : Int) : Option (List UInt8) := run env (.lp 7 0 ([(.exit 0, [.sl 3 0 false .str])]) ([.sl 0 1 false (.list (.pair (.i .i64) (.i .i64))), .sl 3 0 false .str, .sl 4 0 false (.i .i64)])) (x0, x1, x2)
noncomputable def spec_TileText (x0 : List (Int × Int)) : Option (List UInt8) := run env (.fn fi_spec_TileText) x0
noncomputable def impl_within (x0 x1 x2 : Int) : Option (Bool) := run env (.fn fi_impl_within) (x0, x1, x2)
noncomputable def impl_isCoordinate (x0 : Int) : Option (Bool) := run env (.fn fi_impl_isCoordinate) x0
noncomputable def impl_IsVec (x0 : Int × Int) : Option (Bool) := run env (.fn fi_impl_IsVec) x0
noncomputable def impl_compareNumbers_l0 (x0 x1 : List Int) (x2 x3 : Int) : Option (Unit ⊕ Int) := run env (.lp 60 0 ([(.exit 0, []), (.ret, [.sl 4 0 false (.i .i64)])]) ([.sl 0 1 false (.list (.i .i64)), .sl 1 2 false (.list (.i .i64)), .sl 7 0 false (.i .i64), .sl 8 0 false (.i .i64)])) (x0, x1, x2, x3)
noncomputable def impl_compareNumbers (x0 x1 : List Int) : Option (Int) := run env (.fn fi_impl_compareNumbers) (x0, x1)
noncomputable def impl_compareVecs (x0 x1 : Int × Int) : Option (Int) := run env (.fn fi_impl_compareVecs) (x0, x1)
noncomputable def impl_IsTile_l0 (x0 x1 : List (Int × Int)) (x2 x3 : Int) : Option ((List (Int × Int)) ⊕ Bool) := run env (.lp 23 0 ([(.exit 0, [.sl 0 1 false (.list (.pair (.i .i64) (.i .i64)))]), (.ret, [.sl 2 0 false .bool])]) ([.sl 0 1 false (.list (.pair (.i .i64) (.i .i64))), .sl 5 1 false (.list (.pair (.i .i64) (.i .i64))), .sl 6 0 false (.i .i64), .sl 7 0 false (.i .i64)])) (x0, x1, x2, x3)
noncomputable def impl_IsTile (x0 : List (Int × Int)) : Option (Bool) := run env (.fn fi_impl_IsTile) x0
noncomputable def impl_text (x0 : Int) : Option (List UInt8) := run env (.fn fi_impl_text) x0
noncomputable def impl_joined_l0 (x0 : List UInt8) (x1 : List (List UInt8)) (x2 : List Int) (x3 x4 : Int) : Option ((List UInt8) × (List (List UInt8))) := run env (.lp 45 0 ([(.exit 0, [.sl 0 0 false .str, .so 5 0 .str])]) ([.sl 0 0 false .str, .so 5 0 .str, .sl 9 2 false (.list (.i .i64)), .sl 10 0 false (.i .i64), .sl 11 0 false (.i .i64)])) (x0, x1, x2, x3, x4)
noncomputable def impl_joined (x0 : List UInt8) (x1 : List Int) : Option (List UInt8) := run env (.fn fi_impl_joined) (x0, x1)
noncomputable def impl_VecText (x0 : Int × Int) : Option (List UInt8) := run env (.fn fi_impl_VecText) x0
noncomputable def impl_TileText_l0 (x0 : List (List UInt8)) (x1 : List (Int × Int)) (x2 x3 : Int) : Option (List (List UInt8)) := run env (.lp 9 0 ([(.exit 0, [.so 3 0 .str])]) ([.so 3 0 .str, .sl 10 1 false (.list (.pair (.i .i64) (.i .i64))), .sl 11 0 false (.i .i64), .sl 12 0 false (.i .i64)])) (x0, x1, x2, x3)
noncomputable def impl_TileText (x0 : List (Int × Int)) : Option (List UInt8) := run env (.fn fi_impl_TileText) x0
noncomputable def laws_eqVec (x0 x1 : Int × Int) : Option (Bool) := run env (.fn fi_laws_eqVec) (x0, x1)
noncomputable def laws_eqVecS_l0 (x0 x1 : List (Int × Int)) (x2 : Int) : Option (Unit ⊕ Bool) := run env (.lp 10 0 ([(.exit 0, []), (.ret, [.sl 4 0 false .bool])]) ([.sl 0 1 false (.list (.pair (.i .i64) (.i .i64))), .sl 1 2 false (.list (.pair (.i .i64) (.i .i64))), .sl 5 0 false (.i .i64)])) (x0, x1, x2)
noncomputable def laws_eqVecS (x0 x1 : List (Int × Int)) : Option (Bool) := run env (.fn fi_laws_eqVecS) (x0, x1)
noncomputable def laws_FnExactTileText (x0 : List (Int × Int)) : Option (Bool) := run env (.fn fi_laws_FnExactTileText) x0
noncomputable def strconv_FormatInt (x0 x1 : Int) : Option (List UInt8) := run env (.fn fi_strconv_FormatInt) (x0, x1)
theorem strconv_FormatInt_ext (x0 x1 : Int) : strconv_FormatInt x0 x1 = fmaX (x0, x1) := (run_eq env _ _).trans (Eq.trans (b := (fmaF 69 (joiF 25 (fun _ _ => none))) (fmaI 69) (x0, x1)) (by kernel_rfl) (fmaF_eq (x0, x1)))
noncomputable def strings_Join (x0 : List (List UInt8)) (x1 : List UInt8) : Option (List UInt8) := run env (.fn fi_strings_Join) (x0, x1)
theorem strings_Join_ext (x0 : List (List UInt8)) (x1 : List UInt8) : strings_Join x0 x1 = joiX (x0, x1) := (run_eq env _ _).trans (Eq.trans (b := (fmaF 69 (joiF 25 (fun _ _ => none))) (joiI 25) (x0, x1)) (by kernel_rfl) ((fmaF_ne (by decide) _).trans (joiF_eq (x0, x1))))
theorem fma69_mfn (x : Int × Int) (y : List UInt8) (h : fmaX x = some y) : MFn env (fmaI 69) x y := fma_mfn (E := env) (ρ := fmt_lays_ren) fmt_lays (by kernel_rfl) (g := 1) (by kernel_rfl) (List.mem_cons_self ..) h
theorem joi25_mfn (x : List (List UInt8) × List UInt8) (y : List UInt8) (h : joiX x = some y) : MFn env (joiI 25) x y := joi_mfn (E := env) (ρ := joi_lays_ren) rfl joi_lays joi_extra (by kernel_rfl) h

theorem env_ok : EnvOk env := envOk_of (by kernel_rfl) (by kernel_rfl) (fun i x y _ h => (fmaF_ok (k := (joiF 25 (fun _ _ => none))) (joiF_ok (k := (fun _ _ => none)) (fun (i : FI) (x : Dom (.fn i)) (y : Cod (.fn i)) (h : none = some y) => by cases h) joi25_mfn) fma69_mfn) i x y h)

end Go.Proofs.YtopigbmamejklaaDoor
