/-
  Drawing: frames, lattices, motions, groups, patterns. What matters is that each draw comes to an end, and how long its lists are.
-/
import Derived.Test.YtahlhacmikdimaaGreatDoorP36
import Derived.Test.YtahlhacmikdimaaGreatDoorP35
import Derived.Test.YtahlhacmikdimaaGreatDoorPQ
namespace Go.Proofs.YtahlhacmikdimaaGreatDoor
open Ai
set_option linter.unusedSimpArgs false
set_option linter.unusedVariables false
def Ok1 {R : Type} (o : Option R) (P : R → Prop) : Prop := ∃ r, o = some r ∧ P r
theorem Ok1.some {R : Type} {r : R} {P : R → Prop} (h : P r) : Ok1 (some r) P := ⟨r, rfl, h⟩
theorem Ok1.bind {A R : Type} {o : Option A} {k : A → Option R} {P : A → Prop} {Q : R → Prop} (h : Ok1 o P) (hk : ∀ a, P a → Ok1 (k a) Q) : Ok1 (Option.bind o k) Q := by
  obtain ⟨a, rfl, ha⟩ := h
  exact hk a ha
theorem Ok1.cond {R : Type} {b : Bool} {x y : Option R} {P : R → Prop} (h1 : b = true → Ok1 x P) (h2 : b = false → Ok1 y P) : Ok1 (_root_.cond b x y) P := by
  cases b
  · exact h2 rfl
  · exact h1 rfl
theorem Ok1.chk {R : Type} {b : Bool} {x : Option R} {P : R → Prop} (hb : b = true) (h : Ok1 x P) : Ok1 (_root_.cond b x none) P := by rw [hb]; exact h
theorem Ok1.mono {R : Type} {o : Option R} {P Q : R → Prop} (h : Ok1 o P) (hi : ∀ r, P r → Q r) : Ok1 o Q := by
  obtain ⟨r, e, hr⟩ := h
  exact ⟨r, e, hi r hr⟩
def Sk (s t : Src) : Prop := SrcOk t ∧ t.1 = s.1
theorem Sk.refl {s : Src} (h : SrcOk s) : Sk s s := ⟨h, rfl⟩
theorem Sk.trans {s t u : Src} (h1 : Sk s t) (h2 : Sk t u) : Sk s u := ⟨h2.1, h2.2.trans h1.2⟩
theorem next_d {s : Src} (h : SrcOk s) (n : Int) (hn : n ≤ 1099511627776) : Ok1 (spec_l01Next s n) fun y => Sk s y.2 ∧ 0 ≤ y.1 ∧ (1 ≤ n → y.1 < n) := by
  obtain ⟨r, s', e, h1, h2, h3, h4⟩ := spec_l01Next_v h n hn
  exact ⟨_, e, ⟨h1, h2⟩, h3, h4⟩
theorem pick_d {s : Src} (h : SrcOk s) (xs : List Int) (h1 : 1 ≤ xs.length) (h2 : xs.length ≤ 1000) : Ok1 (spec_l01Pick s xs) fun y => Sk s y.2 ∧ y.1 ∈ xs := by
  obtain ⟨r, s', e, h1, h2, h3⟩ := spec_l01Pick_v h xs h1 h2
  exact ⟨_, e, ⟨h1, h2⟩, h3⟩
theorem from_d {code : List Int} (hb : ∀ c ∈ code, 0 ≤ c ∧ c ≤ 255) (hn : code.length ≤ 4096) : Ok1 (spec_l01From code) SrcOk := by
  have key : ∀ (d k : Nat) (sd : Int), k + d = 64 → 0 ≤ sd → sd < 2147483647 → Ok1 (spec_l01From_l0 code (k : Int) code 0 sd) SrcOk := by
    intro d
    induction d with
    | zero =>
      intro k sd hk h1 h2
      rw [spec_l01From_l0_eq]
      refine Ok1.cond (fun _ => ?_) fun _ => ?_
      · rw [decide_eq_false (by omega)]
        exact Ok1.some ⟨hb, by simp only; omega, ⟨by simp, by simp⟩, h1, h2⟩
      · exact Ok1.some ⟨hb, by simp only; omega, ⟨by simp, by simp⟩, h1, h2⟩
    | succ d ih =>
      intro k sd hk h1 h2
      rw [spec_l01From_l0_eq]
      refine Ok1.cond (fun hc => ?_) fun _ => ?_
      · have hc' := of_decide_eq_true hc
        have hlt : k < code.length := by omega
        rw [decide_eq_true (by omega), rd_lt hlt]
        have hcb := hb _ (List.getElem_mem hlt)
        simp only [cond_true, Option.bind_some, Option.bind_fun_some]
        rw [show decide (2147483647 = 0) = false from rfl]
        have w1 : IntKind.i64.wrap (sd * 73) = sd * 73 := w64 (by omega) (by omega)
        have w2 : IntKind.i64.wrap code[k] = code[k] := w64 (by omega) (by omega)
        rw [w1, w2, w64 (x := sd * 73 + code[k]) (by omega) (by omega), w64 (x := (k : Int) + 1) (by omega) (by omega)]
        obtain ⟨t1, t2⟩ := tmod_pos (a := sd * 73 + code[k]) (n := 2147483647) (by omega) (by omega)
        exact ih (k + 1) _ (by omega) t1 t2
      · exact Ok1.some ⟨hb, by simp only; omega, ⟨by simp, by simp⟩, h1, h2⟩
  rw [spec_l01From_eq]
  exact (key 64 0 93001 (by omega) (by omega) (by omega)).bind fun a ha => Ok1.some ha
theorem frame_d {s : Src} (h : SrcOk s) : Ok1 (spec_l04DrawFrame s) fun y => Sk s y.2 := by
  rw [spec_l04DrawFrame_eq]
  refine (next_d h 40 (by omega)).bind fun a ⟨ha, _⟩ => Ok1.cond (fun _ => ?_) fun _ => ?_
  · exact (pick_d ha.1 _ (by decide) (by decide)).bind fun b ⟨hb, _⟩ => Ok1.some (ha.trans hb)
  · exact (next_d ha.1 _ (by omega)).bind fun b ⟨hb, _⟩ => Ok1.some (ha.trans hb)
theorem lat_d {s : Src} (h : SrcOk s) : Ok1 (spec_l03Draw s) fun y => Sk s y.2 := by
  rw [spec_l03Draw_eq]
  refine (next_d h 6 (by omega)).bind fun a ⟨ha, a1, a2⟩ => (next_d ha.1 6 (by omega)).bind fun b ⟨hb, _⟩ => ?_
  have hw : IntKind.i64.wrap (1 + a.1) ≤ 1099511627776 := by
    have := a2 (by omega)
    rw [w64 (by omega) (by omega)]; omega
  refine (next_d hb.1 _ hw).bind fun c ⟨hc, _⟩ => (next_d hc.1 60 (by omega)).bind fun d ⟨hd, _⟩ => Ok1.cond (fun _ => ?_) fun _ => Ok1.cond (fun _ => ?_) fun _ => Ok1.cond (fun _ => ?_) fun _ => ?_
  · exact (pick_d hd.1 _ (by simp) (by simp)).bind fun e ⟨he, _⟩ => Ok1.some (ha.trans (hb.trans (hc.trans (hd.trans he))))
  · exact (pick_d hd.1 _ (by simp) (by simp)).bind fun e ⟨he, _⟩ => Ok1.some (ha.trans (hb.trans (hc.trans (hd.trans he))))
  · exact (pick_d hd.1 _ (by simp) (by simp)).bind fun e ⟨he, _⟩ => Ok1.some (ha.trans (hb.trans (hc.trans (hd.trans he))))
  · exact Ok1.some (ha.trans (hb.trans (hc.trans hd)))
theorem lattice_d {s : Src} (h : SrcOk s) : Ok1 (spec_l06DrawLattice s) fun y => Sk s y.2.2 := by
  rw [spec_l06DrawLattice_eq]
  refine (frame_d h).bind fun a ha => (next_d ha.1 5 (by omega)).bind fun b ⟨hb, _⟩ => Ok1.cond (fun _ => ?_) fun _ => Ok1.cond (fun _ => ?_) fun _ => Ok1.cond (fun _ => ?_) fun _ => ?_
  · exact (lat_d hb.1).bind fun c hc => Ok1.some (ha.trans (hb.trans hc))
  · exact (next_d hb.1 4 (by omega)).bind fun c ⟨hc, _⟩ => (next_d hc.1 4 (by omega)).bind fun d ⟨hd, _⟩ => Ok1.some (ha.trans (hb.trans (hc.trans hd)))
  · exact Ok1.cond (fun _ => Ok1.some (ha.trans hb)) fun _ => Ok1.some (ha.trans hb)
  · exact (next_d hb.1 4 (by omega)).bind fun c ⟨hc, _⟩ => Ok1.some (ha.trans (hb.trans hc))
theorem code_v {f : Int} {l : Lat} : spec_l04Code f (l.1, l.2.1, l.2.2) = some (if (isFrame f && isLat l) = true then 0 else 1) := spec_l04Code_v f l
theorem stable_pos {f : Int} (hf : f = 0 ∨ f = 1) {l : Lat} (hl : isLat l = true) : 1 ≤ (stableL f l).length := List.length_pos_of_mem (stable_unit hf hl)
theorem motion_d {s : Src} (h : SrcOk s) (f : Int) (l : Lat) : Ok1 (spec_l06DrawMotion s f l) fun y => Sk s y.2 ∧ ((isFrame f && isLat l) = true → y.1.1 ∈ stableL f l ∧ Sv y.1.2) := by
  rw [spec_l06DrawMotion_eq, spec_l02Unit_eq, spec_l04Code_v]
  simp only [Option.bind_some]
  have sv : ∀ {x y : Int}, (0 ≤ x ∧ (1 ≤ (9 : Int) → x < 9)) → (0 ≤ y ∧ (1 ≤ (9 : Int) → y < 9)) → Sv (IntKind.i64.wrap (x - 4), IntKind.i64.wrap (y - 4)) := by
    intro x y hx hy
    have := hx.2 (by omega)
    have := hy.2 (by omega)
    unfold Sv
    rw [w64 (by omega) (by omega), w64 (by omega) (by omega)]
    simp only
    omega
  cases hfl : (isFrame f && isLat l) with
  | false =>
    simp only [Bool.false_eq_true, if_false, false_implies, and_true]
    exact (next_d h 9 (by omega)).bind fun c ⟨hc, _⟩ => (next_d hc.1 9 (by omega)).bind fun d ⟨hd, _⟩ => Ok1.some (hc.trans hd)
  | true =>
    rw [Bool.and_eq_true] at hfl
    have hf := isFrame_iff.1 hfl.1
    have hl := hfl.2
    have hn := stable_len f l
    have hp := stable_pos hf hl
    rw [spec_l04Stable_v hf hl]
    simp only [if_true, decide_true, cond_true, Option.bind_some]
    refine (next_d h ((stableL f l).length : Int) (by omega)).bind fun a ⟨ha, a1, a2⟩ => Ok1.chk ?_ ?_
    · have := a2 (by omega)
      rw [decide_eq_true a1, decide_eq_true this]; rfl
    · refine (next_d ha.1 9 (by omega)).bind fun c ⟨hc, hc1⟩ => (next_d hc.1 9 (by omega)).bind fun d ⟨hd, hd1⟩ => Ok1.some ⟨ha.trans (hc.trans hd), fun _ => ⟨?_, sv hc1 hd1⟩⟩
      have := a2 (by omega)
      have hlt : a.1.toNat < (stableL f l).length := by omega
      show (stableL f l).getD a.1.toNat _ ∈ stableL f l
      rw [List.getD_eq_getElem?_getD, List.getElem?_eq_getElem hlt]
      exact List.getElem_mem hlt
theorem reduce_d {f : Int} {l : Lat} (hl : isLat l = true) {m : Mot} (h1 : m.1 ∈ stableL f l) (h2 : Sv m.2) : ∃ r, spec_l06Reduce l m = some r ∧ r ∈ allM f l := by
  have hsm : Sm m.2 := by unfold Sv at h2; unfold Sm; omega
  rw [spec_l06Reduce_eq, spec_l03Reduce_v l m.2 hl hsm]
  exact ⟨_, rfl, mem_allM.2 ⟨h1, red_mem hl _⟩⟩
theorem unit_v : spec_l06Unit = some unitM := by rw [spec_l06Unit_eq, spec_l02Unit_eq]; rfl
theorem cut_all {α : Type} (k : Nat) (xs : List α) : cut 0 k xs = xs.take k ∧ cut k xs.length xs = xs.drop k := by
  unfold cut
  rw [List.drop_zero, List.take_length]
  exact ⟨rfl, rfl⟩
theorem insert_d {xs : List Mot} (hn : xs.length ≤ 1000000) (hi : IncM xs) {m : Mot} (hm : m ∉ xs) : ∃ ys, spec_l06Insert_o xs m = some ys ∧ IncM ys ∧ (∀ w, w ∈ ys ↔ w = m ∨ w ∈ xs) ∧ ys.length = xs.length + 1 := by
  obtain ⟨r, hr, hrl, h1, h2⟩ := spec_place_loop hn m hi xs.length 0 xs.length (by omega) (by omega) (by omega) (fun j hj h => by omega) (fun j hj h => by omega)
  have hp : spec_l06Place xs m = some (r : Int) := by
    rw [spec_l06Place_eq, show (0 : Int) = ((0 : Nat) : Int) from rfl, hr]
    rfl
  rw [spec_l06Insert_o_eq, hp]
  simp only [Option.bind_some]
  have hres : ([] ++ cut 0 (Int.toNat (r : Int)) xs ++ [m]) ++ cut (Int.toNat (r : Int)) xs.length xs = xs.take r ++ m :: xs.drop r := by
    rw [Int.toNat_natCast, (cut_all r xs).1, (cut_all r xs).2]
    simp
  have hl1 : (xs.take r).length ≤ 1000000 := by rw [List.length_take]; omega
  have hl2 : (xs.drop r).length ≤ 1000000 := by rw [List.length_drop]; omega
  have c1 : decide (List.length ([] : List Mot) + List.length (cut 0 (Int.toNat (r : Int)) xs) ≤ LIM) = true := decide_eq_true (by
    rw [Int.toNat_natCast, (cut_all r xs).1]; unfold LIM; simp only [List.length_nil]; omega)
  have c2 : decide (List.length (([] : List Mot) ++ cut 0 (Int.toNat (r : Int)) xs) + List.length [m] ≤ LIM) = true := decide_eq_true (by
    rw [Int.toNat_natCast, (cut_all r xs).1]; unfold LIM; simp only [List.nil_append, List.length_singleton]; omega)
  have c3 : decide (List.length ((([] : List Mot) ++ cut 0 (Int.toNat (r : Int)) xs) ++ [m]) + List.length (cut (Int.toNat (r : Int)) xs.length xs) ≤ LIM) = true := decide_eq_true (by
    rw [Int.toNat_natCast, (cut_all r xs).1, (cut_all r xs).2]; unfold LIM; simp only [List.nil_append, List.length_append, List.length_singleton]; omega)
  have c0 : (decide ((0 : Int) ≤ (r : Int)) && decide ((r : Int) ≤ (xs.length : Int))) = true := by rw [decide_eq_true (by omega), decide_eq_true (by omega)]; rfl
  have fin : ∃ ys, (some (xs.take r ++ m :: xs.drop r) : Option (List Mot)) = some ys ∧ IncM ys ∧ (∀ w, w ∈ ys ↔ w = m ∨ w ∈ xs) ∧ ys.length = xs.length + 1 := by
    refine ⟨_, rfl, ?_, fun w => ?_, ?_⟩
    · refine List.pairwise_append.2 ⟨hi.sublist (List.take_sublist r xs), List.pairwise_cons.2 ⟨fun y hy => ?_, hi.sublist (List.drop_sublist r xs)⟩, fun x hx y hy => ?_⟩
      · obtain ⟨j, hj, rfl⟩ := List.getElem_of_mem hy
        rw [List.length_drop] at hj
        rw [List.getElem_drop]
        have h3 := h2 (r + j) (by omega) (by omega)
        cases h4 : mless m xs[r + j] with
        | true => rfl
        | false => exact (hm (mless_tot h4 h3 ▸ List.getElem_mem (by omega))).elim
      · obtain ⟨i, hi', rfl⟩ := List.getElem_of_mem hx
        rw [List.length_take] at hi'
        rw [List.getElem_take]
        have h3 := h1 i (by omega) (by omega)
        rcases List.mem_cons.1 hy with rfl | hy
        · exact h3
        · obtain ⟨j, hj, rfl⟩ := List.getElem_of_mem hy
          rw [List.length_drop] at hj
          rw [List.getElem_drop]
          exact List.pairwise_iff_getElem.1 hi i (r + j) (by omega) (by omega) (by omega)
    · rw [List.mem_append, List.mem_cons]
      have : w ∈ xs ↔ w ∈ xs.take r ∨ w ∈ xs.drop r := by rw [← List.mem_append, List.take_append_drop]
      rw [this]
      constructor
      · rintro (h | h | h)
        · exact .inr (.inl h)
        · exact .inl h
        · exact .inr (.inr h)
      · rintro (h | h | h)
        · exact .inr (.inl h)
        · exact .inl h
        · exact .inr (.inr h)
    · rw [List.length_append, List.length_cons, List.length_take, List.length_drop]; omega
  rw [c0, c1, c2, c3, hres]
  simp only [cond_true]
  by_cases hlt : r < xs.length
  · rw [decide_eq_true (show (r : Int) < (xs.length : Int) by omega), decide_eq_true (show (0 : Int) ≤ (r : Int) by omega)]
    simp only [Bool.and_self, cond_true]
    rw [mot_beq, decide_eq_false (p := _ = _) (fun e => hm (by
      rw [Int.toNat_natCast] at e
      have : xs.getD r (dflt cM) = xs[r] := by rw [List.getD_eq_getElem?_getD, List.getElem?_eq_getElem hlt]; rfl
      rw [show xs.getD r (dflt (.pair (.pair (.i .i64) (.pair (.i .i64) (.pair (.i .i64) (.i .i64)))) (.pair (.i .i64) (.i .i64)))) = xs[r] from this] at e
      rw [← e]; exact List.getElem_mem hlt))]
    exact fin
  · rw [decide_eq_false (show ¬ ((r : Int) < (xs.length : Int)) by omega)]
    exact fin
end Go.Proofs.YtahlhacmikdimaaGreatDoor
