/-
  The equations of the calls and loops, printed by px.py: each is checked by the kernel.
-/
import Derived.Test.YtopigbmamejklaaGreatDoorEP
import Derived.KernelRfl
namespace Go.Proofs.YtopigbmamejklaaGreatDoor.Pre
open Ai

theorem impl_within_eq (x0 x1 x2 : Int) : impl_within x0 x1 x2 = (cond (decide (x1 ≤ x0)) (cond (decide (x0 ≤ x2)) (some true) (some false)) (some false)) := (run_eq env _ _).trans (by kernel_rfl)
theorem impl_isSide_eq (x0 : Int) : impl_isSide x0 = (Option.bind (impl_within x0 1 16) fun y1 => (cond y1 (some true) (some false))) := (run_eq env _ _).trans (by kernel_rfl)
theorem impl_allWithin_1_eq (x0 x1 x2 : Int) : impl_allWithin_1 x0 x1 x2 = (Option.bind (impl_within x0 x1 x2) fun y1 => (cond y1 (some false) (some true))) := (run_eq env _ _).trans (by kernel_rfl)
theorem slices_IndexFunc_Sint64_int64__impl_allWithin_1_l0_eq (x0 : List Int) (x1 : Int × Int) (x2 x3 : Int) : slices_IndexFunc_Sint64_int64__impl_allWithin_1_l0 x0 x1 x2 x3 = (cond (decide (x3 < x2)) (Option.bind (rd x0 x3) fun v1 => (Option.bind (impl_allWithin_1 v1 x1.1 x1.2) fun y2 => (cond y2 (some (.inr x3)) (Option.bind (slices_IndexFunc_Sint64_int64__impl_allWithin_1_l0 x0 x1 x2 (IntKind.i64.wrap (x3 + 1))) some)))) (some (.inl ()))) := (run_eq env _ _).trans (by kernel_rfl)
theorem slices_IndexFunc_Sint64_int64__impl_allWithin_1_eq (x0 : List Int) (x1 : Int × Int) : slices_IndexFunc_Sint64_int64__impl_allWithin_1 x0 x1 = (Option.bind (slices_IndexFunc_Sint64_int64__impl_allWithin_1_l0 x0 x1 (List.length x0 : Int) 0) fun (y1 : Unit ⊕ Int) => (match y1 with | .inl _ => (some (-1)) | .inr b3 => (some b3))) := (run_eq env _ _).trans (by kernel_rfl)
theorem slices_ContainsFunc_Sint64_int64__impl_allWithin_1_eq (x0 : List Int) (x1 : Int × Int) : slices_ContainsFunc_Sint64_int64__impl_allWithin_1 x0 x1 = (Option.bind (slices_IndexFunc_Sint64_int64__impl_allWithin_1 x0 x1) fun y1 => (cond (decide (0 ≤ y1)) (some true) (some false))) := (run_eq env _ _).trans (by kernel_rfl)
theorem impl_allWithin_eq (x0 : List Int) (x1 x2 : Int) : impl_allWithin x0 x1 x2 = (Option.bind (slices_ContainsFunc_Sint64_int64__impl_allWithin_1 x0 (x1, x2)) fun y1 => (cond y1 (some false) (some true))) := (run_eq env _ _).trans (by kernel_rfl)
theorem impl_IsPatch_eq (x0 : Int × Int × List Int) : impl_IsPatch x0 = (Option.bind (impl_isSide x0.1) fun y1 => (cond y1 (Option.bind (impl_isSide x0.2.1) fun y2 => (cond y2 (cond (decide ((List.length x0.2.2 : Int) = (IntKind.i64.wrap (x0.1 * x0.2.1)))) (Option.bind (impl_allWithin x0.2.2 0 9) fun y3 => (cond y3 (some true) (some false))) (some false)) (some false))) (some false))) := (run_eq env _ _).trans (by kernel_rfl)
theorem impl_text_eq (x0 : Int) : impl_text x0 = (Option.bind (strconv_FormatInt x0 10) fun y1 => (some y1)) := (run_eq env _ _).trans (by kernel_rfl)
theorem impl_joined_l0_eq (x0 : List UInt8) (x1 : List (List UInt8)) (x2 : List Int) (x3 x4 : Int) : impl_joined_l0 x0 x1 x2 x3 x4 = (cond (decide (x4 < x3)) (Option.bind (rd x2 x4) fun v1 => (Option.bind (impl_text v1) fun y2 => (cond (decide (List.length x1 + List.length ([y2]) ≤ LIM)) (Option.bind (impl_joined_l0 x0 (x1 ++ [y2]) x2 x3 (IntKind.i64.wrap (x4 + 1))) some) none))) (some (x0, x1))) := (run_eq env _ _).trans (by kernel_rfl)
theorem impl_joined_eq (x0 : List UInt8) (x1 : List Int) : impl_joined x0 x1 = (Option.bind (impl_joined_l0 x0 ([] : List (List UInt8)) x1 (List.length x1 : Int) 0) fun (y1 : (List UInt8) × (List (List UInt8))) => (Option.bind (strings_Join y1.2 y1.1) fun y2 => (some y2))) := (run_eq env _ _).trans (by kernel_rfl)
theorem impl_digitsText_eq (x0 : List Int) : impl_digitsText x0 = (Option.bind (impl_joined ([] : List UInt8) x0) fun y1 => (some y1)) := (run_eq env _ _).trans (by kernel_rfl)

end Go.Proofs.YtopigbmamejklaaGreatDoor.Pre
