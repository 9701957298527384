/-
  The ideal interpreter against the machine: this program's own function that reads a number, by the kit's contracts of strconv.ParseInt and strconv.FormatInt.
-/
import Derived.Test.YtimjhlpbpbohbaaDoorA34
import Derived.Shelf.Strconv.ErrVarParseInt
import Derived.Test.YtimjhlpbpbohbaaDoorS0
import Derived.KernelRfl
import Derived.WalkKit
import Derived.BigCall
namespace Go.Proofs.YtimjhlpbpbohbaaDoor
namespace Ai
open Go.Shelf Go.RowKit Go.Lib
set_option linter.unusedSimpArgs false
set_option linter.unusedVariables false

/-- Cells that are some interface value. -/
def someIface (cs : Array Value) : Prop := ∃ tp p, cs = #[.iface tp p]

theorem someIface_of {P : Program} {n : String} {g : Nat} {w : World} {tp : TypeId} {p : Value} (hg : P.globalNamed n = some g) (hv : w.var? P n = some #[.iface tp p]) : ∃ cs t q, w.heap[g]? = some (.cells cs t q) ∧ someIface cs := by
  unfold World.var? at hv
  rw [hg, Option.bind_some] at hv
  split at hv
  · rename_i cs t q hw
    cases hv
    exact ⟨_, t, q, hw, tp, p, rfl⟩
  · cases hv

def numI (f : FuncId) : FI := ⟨f, [.d .str false], [⟨.i .i64, false, 0⟩, ⟨.bool, false, 0⟩]⟩

/-- The number that a text spells, and whether the number's own text is this one. -/
def numV (s : List UInt8) : Int × Bool := match parseIntB 64 s with
  | .ok v => (v, decide (itoa v = s))
  | .«syntax» => (0, false)
  | .range => (intSat 64 s, false)

def numX (s : List UInt8) : Option (Int × Bool) := if s.length ≤ 1073741824 then some (numV s) else none

open Classical in
noncomputable def numF (f : FuncId) (k : (i : FI) → Dom (.fn i) → Option (Cod (.fn i))) : (i : FI) → Dom (.fn i) → Option (Cod (.fn i)) := fun i x =>
  if h : i = numI f then (match i, h, x with | _, rfl, x => (numX x : Option (Int × Bool)))
  else k i x

theorem numF_eq {f : FuncId} {k : (i : FI) → Dom (.fn i) → Option (Cod (.fn i))} (x : List UInt8) : numF f k (numI f) x = numX x := by
  unfold numF
  rw [dif_pos rfl]

theorem numF_ne {f : FuncId} {k : (i : FI) → Dom (.fn i) → Option (Cod (.fn i))} {i : FI} (h : i.f ≠ f) (x : Dom (.fn i)) : numF f k i x = k i x := by
  unfold numF
  rw [dif_neg fun e => h (by rw [e]; rfl)]

theorem numF_ok {E : Env} {f : FuncId} {k : (i : FI) → Dom (.fn i) → Option (Cod (.fn i))} (hk : ∀ i x y, k i x = some y → MFn E i x y)
    (hs : ∀ x y, numX x = some y → MFn E (numI f) x y) (i : FI) (x : Dom (.fn i)) (y : Cod (.fn i)) (h : numF f k i x = some y) : MFn E i x y := by
  unfold numF at h
  split at h
  · rename_i he
    subst he
    exact hs _ _ h
  · exact hk i x y h

/-! ### The walk -/

set_option maxRecDepth 100000 in
theorem text_calls (n : Int) (h0 : -9223372036854775808 ≤ n) (h1 : n ≤ 9223372036854775807) (w : World) (ht : TabIs Tryd.prog w "internal/strconv.uint64pow10" .u64 pow10Tab) :
    Calls Tryd.prog 37 #[.int .i64 n] w fun e w' => e = .returned (.string ⟨(itoa n).toArray⟩) ∧ Below w.heap.size w w' := by
  have c : Calls Tryd.prog 47 #[.int .i64 n, .int .i64 10] w fun e w' => e = .returned (.string ⟨(itoa n).toArray⟩) ∧ Below w.heap.size w w' := by
    have hcon := Any.strconv_FormatInt_10 fmt_lays n h0 h1 w ht
    rw [show fmt_lays_ren.f 173 = 47 from rfl] at hcon
    refine hcon.mono fun e w' ⟨he, k, os, hw⟩ => ⟨he, ?_⟩
    subst hw
    exact ⟨rfl, rfl, rfl, by show w.heap.size ≤ (w.heap ++ os).size; rw [Array.size_append]; omega, fun b hb => Array.getElem?_append_left hb⟩
  go_enter Tryd.func37, Tryd.ntmps37
  go_wp2_with (go_at_call 47; refine c.mono ?_; rintro e w1 ⟨rfl, hb⟩)
  go_ret
  exact ⟨rfl, hb⟩

theorem tab_below {n : String} {k : IntKind} {l : List Int} {w w' : World} (h : TabIs Tryd.prog w n k l) (hb : Below w.heap.size w w') : TabIs Tryd.prog w' n k l := by
  unfold TabIs World.var? at h ⊢
  cases hg : Tryd.prog.globalNamed n with
  | none => rw [hg] at h; cases h
  | some g =>
    rw [hg] at h
    simp only [Option.bind_some] at h ⊢
    have hlt : g < w.heap.size := by
      by_cases hg2 : g < w.heap.size
      · exact hg2
      · rw [Array.getElem?_eq_none (by omega)] at h; cases h
    rw [hb.block g hlt]
    exact h

theorem bytesWorld_below' (w : World) (t : TypeId) (s : ByteArray) : Below w.heap.size w (bytesWorld w t s) := bytesWorld_below w t s

set_option maxRecDepth 100000 in
theorem num_calls (s : ByteArray) (hs : s.size ≤ 1073741824) (w : World) (ht : TabIs Tryd.prog w "internal/strconv.uint64pow10" .u64 pow10Tab)
    {ts tr : TypeId} {ps pr : Value} (hS : w.var? Tryd.prog "strconv.ErrSyntax" = some #[.iface ts ps]) (hR : w.var? Tryd.prog "strconv.ErrRange" = some #[.iface tr pr]) :
    Calls Tryd.prog 28 #[.string s] w fun e w' => e = .returned (.tuple #[.int .i64 (numV s.data.toList).1, .bool (numV s.data.toList).2]) ∧ Below w.heap.size w w' := by
  unfold numV
  cases h : parseIntB 64 s.data.toList with
  | ok v =>
    have hb := parseIntB_bounds h
    have c : Calls Tryd.prog 36 #[.string s, .int .i64 10, .int .i64 64] w fun e w' => e = .returned (.tuple #[.int .i64 v, .nilIface]) ∧ Below w.heap.size w w' := by
      have hcon := Any.strconv_ParseInt_10_at64_ok par_lays s (by omega) v h w
      rw [show par_lays_ren.f 174 = 36 from rfl] at hcon
      refine hcon.mono fun e w' ⟨he, hw⟩ => ⟨he, ?_⟩
      rcases hw with rfl | ⟨t, rfl⟩
      · exact Below.refl _ _
      · exact bytesWorld_below' _ _ _
    have h0 : -9223372036854775808 ≤ v := by have := hb.1; simpa using this
    have h1 : v ≤ 9223372036854775807 := by have := hb.2; simp at this; omega
    go_enter Tryd.func28, Tryd.ntmps28
    go_wp2_with (go_at_call 36; refine c.mono ?_; rintro e w1 ⟨rfl, hb1⟩)
    go_wp2_with (go_at_call 37; refine (text_calls v h0 h1 _ (tab_below ht hb1)).mono ?_; rintro e w2 ⟨rfl, hb2⟩)
    go_ret2
    refine ⟨?_, hb1.trans (hb2.mono hb1.size)⟩
    have e : (itoa v == s.data.toList) = decide (itoa v = s.data.toList) := by
      by_cases h2 : itoa v = s.data.toList
      · rw [decide_eq_true h2, h2]; simp
      · rw [decide_eq_false h2]; simpa using h2
    rw [← e]
    rw [← Go.Lib.toList_data]
    rfl
  | «syntax» =>
    have c : Calls Tryd.prog 36 #[.string s, .int .i64 10, .int .i64 64] w fun e w' => ∃ tt N, e = .returned (.tuple #[.int .i64 0, .iface tt (.pointer (some ⟨N, 0, none⟩))]) ∧ Below w.heap.size w w' := by
      have hcon := Any.strconv_ParseInt_10_at64_syntax_var par_lays s (by omega) h ts ps w hS
      rw [show par_lays_ren.f 174 = 36 from rfl] at hcon
      exact hcon.mono fun e w' ⟨N, he, _, _, hb⟩ => ⟨_, N, he, hb⟩
    go_enter Tryd.func28, Tryd.ntmps28
    go_wp2_with (go_at_call 36; refine c.mono ?_; rintro e w1 ⟨tt, N, rfl, hb1⟩)
    go_wp2
    go_ret2
    exact ⟨rfl, hb1⟩
  | range =>
    have c : Calls Tryd.prog 36 #[.string s, .int .i64 10, .int .i64 64] w fun e w' => ∃ tt N, e = .returned (.tuple #[.int .i64 (intSat 64 s.data.toList), .iface tt (.pointer (some ⟨N, 0, none⟩))]) ∧ Below w.heap.size w w' := by
      have hcon := Any.strconv_ParseInt_10_at64_range_var par_lays s (by omega) h tr pr w hR
      rw [show par_lays_ren.f 174 = 36 from rfl] at hcon
      exact hcon.mono fun e w' ⟨N, he, _, _, hb⟩ => ⟨_, N, he, hb⟩
    go_enter Tryd.func28, Tryd.ntmps28
    go_wp2_with (go_at_call 36; refine c.mono ?_; rintro e w1 ⟨tt, N, rfl, hb1⟩)
    go_wp2
    go_ret2
    exact ⟨rfl, hb1⟩

theorem num_mfn {E : Env} (hE : E.P = Tryd.prog) (hl : E.loose = true) (htab : (5, (· = pow10Cells)) ∈ E.tabs) (hsy : (3, someIface) ∈ E.tabs) (hra : (4, someIface) ∈ E.tabs) {x : List UInt8} {y : Int × Bool} (h : numX x = some y) : MFn E (numI 28) x y := by
  unfold numX at h
  split at h
  · rename_i hc
    cases h
    refine ⟨⟨_, by rw [hE]; exact Tryd.func28, by kernel_rfl⟩, fun A g0 vs hH hsz hM hT hpin => ?_⟩
    have hdm := hH.2.2 hl
    have e0 : vs.getD 0 undef = .string ⟨x.toArray⟩ := hT 0
    have hs1 : vs.size = 1 := hsz
    have hvs : vs = #[.string ⟨x.toArray⟩] := by
      apply Array.ext
      · simp [hs1]
      · intro i h3 h4
        match i, h3 with
        | 0, h3 =>
          rw [Array.getD_eq_getD_getElem?, Array.getElem?_eq_getElem h3] at e0
          simpa using e0
        | i + 1, h3 => omega
    have ht : TabIs Tryd.prog A.w0 "internal/strconv.uint64pow10" .u64 pow10Tab := by
      obtain ⟨cs, t, q, hw, hc⟩ := hH.1 _ htab
      obtain rfl : cs = pow10Cells := hc
      unfold TabIs World.var?
      rw [show Tryd.prog.globalNamed "internal/strconv.uint64pow10" = some 5 by kernel_rfl, Option.bind_some, hw]
      rfl
    have hv : ∀ (n : String) (g : Nat), Tryd.prog.globalNamed n = some g → (g, someIface) ∈ E.tabs → ∃ tp p, A.w0.var? Tryd.prog n = some #[.iface tp p] := fun n g hn hm => by
      obtain ⟨cs, t, q, hw, tp, p, hc⟩ := hH.1 _ hm
      refine ⟨tp, p, ?_⟩
      unfold World.var?
      rw [hn, Option.bind_some, hw, hc]
    obtain ⟨ts, ps, hS⟩ := hv "strconv.ErrSyntax" 3 (by kernel_rfl) hsy
    obtain ⟨tr, pr, hR⟩ := hv "strconv.ErrRange" 4 (by kernel_rfl) hra
    have hcon := num_calls ⟨x.toArray⟩ (by show x.toArray.size ≤ _; rw [List.size_toArray]; exact hc) A.w0 ht hS hR
    rw [show (numI 28).f = 28 from rfl, hvs, hE]
    refine hcon.mono fun e w' ⟨he, hb⟩ => ⟨_, he, ?_⟩
    exact ⟨⟨hb.os, ⟨hb.tape, fun e => by rw [hdm] at e; cases e⟩, hb.output, hb.size, fun b hb' _ => hb.block b hb'⟩, fun _ => False, ⟨[_, _], rfl, ⟨.inl ⟨rfl, rfl⟩, fun _ => trivial⟩, ⟨.inl ⟨rfl, rfl⟩, fun _ => trivial⟩, rfl⟩, trivial⟩
  · cases h

end Ai
end Go.Proofs.YtimjhlpbpbohbaaDoor
