/-
  Drawing: frames, lattices, motions, groups, patterns. What matters is that each draw comes to an end, and how long its lists are.
-/
import Derived.Test.YtahlhacmikdimaaP36
import Derived.Test.YtahlhacmikdimaaP35
import Derived.Test.YtahlhacmikdimaaPQ
namespace Go.Proofs.Ytahlhacmikdimaa
open Ai
set_option linter.unusedSimpArgs false
set_option linter.unusedVariables false

def Ok1 {R : Type} (o : Option R) (P : R → Prop) : Prop := ∃ r, o = some r ∧ P r

theorem Ok1.some {R : Type} {r : R} {P : R → Prop} (h : P r) : Ok1 (some r) P := ⟨r, rfl, h⟩

theorem Ok1.bind {A R : Type} {o : Option A} {k : A → Option R} {P : A → Prop} {Q : R → Prop} (h : Ok1 o P) (hk : ∀ a, P a → Ok1 (k a) Q) : Ok1 (Option.bind o k) Q := by
  obtain ⟨a, rfl, ha⟩ := h
  exact hk a ha

theorem Ok1.cond {R : Type} {b : Bool} {x y : Option R} {P : R → Prop} (h1 : b = true → Ok1 x P) (h2 : b = false → Ok1 y P) : Ok1 (_root_.cond b x y) P := by
  cases b
  · exact h2 rfl
  · exact h1 rfl

theorem Ok1.chk {R : Type} {b : Bool} {x : Option R} {P : R → Prop} (hb : b = true) (h : Ok1 x P) : Ok1 (_root_.cond b x none) P := by rw [hb]; exact h

theorem Ok1.mono {R : Type} {o : Option R} {P Q : R → Prop} (h : Ok1 o P) (hi : ∀ r, P r → Q r) : Ok1 o Q := by
  obtain ⟨r, e, hr⟩ := h
  exact ⟨r, e, hi r hr⟩

/-- A later state of the same source. -/
def Sk (s t : Src) : Prop := SrcOk t ∧ t.1 = s.1

theorem Sk.refl {s : Src} (h : SrcOk s) : Sk s s := ⟨h, rfl⟩
theorem Sk.trans {s t u : Src} (h1 : Sk s t) (h2 : Sk t u) : Sk s u := ⟨h2.1, h2.2.trans h1.2⟩

theorem next_d {s : Src} (h : SrcOk s) (n : Int) (hn : n ≤ 1099511627776) : Ok1 (spec_l01Next s n) fun y => Sk s y.2 ∧ 0 ≤ y.1 ∧ (1 ≤ n → y.1 < n) := by
  obtain ⟨r, s', e, h1, h2, h3, h4⟩ := spec_l01Next_v h n hn
  exact ⟨_, e, ⟨h1, h2⟩, h3, h4⟩

theorem pick_d {s : Src} (h : SrcOk s) (xs : List Int) (h1 : 1 ≤ xs.length) (h2 : xs.length ≤ 1000) : Ok1 (spec_l01Pick s xs) fun y => Sk s y.2 ∧ y.1 ∈ xs := by
  obtain ⟨r, s', e, h1, h2, h3⟩ := spec_l01Pick_v h xs h1 h2
  exact ⟨_, e, ⟨h1, h2⟩, h3⟩

theorem from_d {code : List Int} (hb : ∀ c ∈ code, 0 ≤ c ∧ c ≤ 255) (hn : code.length ≤ 4096) : Ok1 (spec_l01From code) SrcOk := by
  have key : ∀ (d k : Nat) (sd : Int), k + d = 64 → 0 ≤ sd → sd < 2147483647 → Ok1 (spec_l01From_l0 code (k : Int) code 0 sd) SrcOk := by
    intro d
    induction d with
    | zero =>
      intro k sd hk h1 h2
      rw [spec_l01From_l0_eq]
      refine Ok1.cond (fun _ => ?_) fun _ => ?_
      · rw [decide_eq_false (by omega)]
        exact Ok1.some ⟨hb, by simp only; omega, ⟨by simp, by simp⟩, h1, h2⟩
      · exact Ok1.some ⟨hb, by simp only; omega, ⟨by simp, by simp⟩, h1, h2⟩
    | succ d ih =>
      intro k sd hk h1 h2
      rw [spec_l01From_l0_eq]
      refine Ok1.cond (fun hc => ?_) fun _ => ?_
      · have hc' := of_decide_eq_true hc
        have hlt : k < code.length := by omega
        rw [decide_eq_true (by omega), rd_lt hlt]
        have hcb := hb _ (List.getElem_mem hlt)
        simp only [cond_true, Option.bind_some, Option.bind_fun_some]
        rw [show decide (2147483647 = 0) = false from rfl]
        have w1 : IntKind.i64.wrap (sd * 73) = sd * 73 := w64 (by omega) (by omega)
        have w2 : IntKind.i64.wrap code[k] = code[k] := w64 (by omega) (by omega)
        rw [w1, w2, w64 (x := sd * 73 + code[k]) (by omega) (by omega), w64 (x := (k : Int) + 1) (by omega) (by omega)]
        obtain ⟨t1, t2⟩ := tmod_pos (a := sd * 73 + code[k]) (n := 2147483647) (by omega) (by omega)
        exact ih (k + 1) _ (by omega) t1 t2
      · exact Ok1.some ⟨hb, by simp only; omega, ⟨by simp, by simp⟩, h1, h2⟩
  rw [spec_l01From_eq]
  exact (key 64 0 93001 (by omega) (by omega) (by omega)).bind fun a ha => Ok1.some ha

theorem draw_d {s : Src} (h : SrcOk s) : Ok1 (spec_l01Draw s) fun y => Sk s y.2 := by
  rw [spec_l01Draw_eq]
  refine (next_d h 40 (by omega)).bind fun a ⟨ha, _⟩ => Ok1.cond (fun _ => ?_) fun _ => ?_
  · refine (pick_d ha.1 _ (by decide) (by decide)).bind fun b ⟨hb, _⟩ => ?_
    exact (pick_d hb.1 _ (by decide) (by decide)).bind fun c ⟨hc, _⟩ => Ok1.some (ha.trans (hb.trans hc))
  · refine (pick_d ha.1 _ (by decide) (by decide)).bind fun b ⟨hb, hb2⟩ => ?_
    have hw : IntKind.i64.wrap (IntKind.i64.wrap (2 * b.1) + 1) ≤ 1099511627776 := by
      have : b.1 = 4 ∨ b.1 = 9 ∨ b.1 = 30 := by simpa using hb2
      rcases this with e | e | e <;> rw [e] <;> decide
    refine (next_d hb.1 _ hw).bind fun c ⟨hc, _⟩ => ?_
    exact (next_d hc.1 _ hw).bind fun d ⟨hd, _⟩ => Ok1.some (ha.trans (hb.trans (hc.trans hd)))

theorem lat_d {s : Src} (h : SrcOk s) : Ok1 (spec_l03Draw s) fun y => Sk s y.2 := by
  rw [spec_l03Draw_eq]
  refine (next_d h 6 (by omega)).bind fun a ⟨ha, a1, a2⟩ => (next_d ha.1 6 (by omega)).bind fun b ⟨hb, _⟩ => ?_
  have hw : IntKind.i64.wrap (1 + a.1) ≤ 1099511627776 := by
    have := a2 (by omega)
    rw [w64 (by omega) (by omega)]; omega
  refine (next_d hb.1 _ hw).bind fun c ⟨hc, _⟩ => (next_d hc.1 60 (by omega)).bind fun d ⟨hd, _⟩ => Ok1.cond (fun _ => ?_) fun _ => Ok1.cond (fun _ => ?_) fun _ => Ok1.cond (fun _ => ?_) fun _ => ?_
  · exact (pick_d hd.1 _ (by simp) (by simp)).bind fun e ⟨he, _⟩ => Ok1.some (ha.trans (hb.trans (hc.trans (hd.trans he))))
  · exact (pick_d hd.1 _ (by simp) (by simp)).bind fun e ⟨he, _⟩ => Ok1.some (ha.trans (hb.trans (hc.trans (hd.trans he))))
  · exact (pick_d hd.1 _ (by simp) (by simp)).bind fun e ⟨he, _⟩ => Ok1.some (ha.trans (hb.trans (hc.trans (hd.trans he))))
  · exact Ok1.some (ha.trans (hb.trans (hc.trans hd)))

theorem stable_pos {f : Int} (hf : f = 0 ∨ f = 1) {l : Lat} (hl : isLat l = true) : 1 ≤ (stableL f l).length := List.length_pos_of_mem (stable_unit hf hl)

theorem cut_all {α : Type} (k : Nat) (xs : List α) : cut 0 k xs = xs.take k ∧ cut k xs.length xs = xs.drop k := by
  unfold cut
  rw [List.drop_zero, List.take_length]
  exact ⟨rfl, rfl⟩

end Go.Proofs.Ytahlhacmikdimaa
