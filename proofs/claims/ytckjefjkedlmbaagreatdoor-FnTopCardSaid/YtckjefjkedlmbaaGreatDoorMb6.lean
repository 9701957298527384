/-
  Plain meanings, part 6.
-/
import Derived.Test.YtckjefjkedlmbaaGreatDoorMb5
namespace Go.Proofs.YtckjefjkedlmbaaGreatDoor
open Ai
set_option linter.unusedSimpArgs false
set_option linter.unusedVariables false
def Ok1 {R : Type} (o : Option R) (P : R → Prop) : Prop := ∃ r, o = some r ∧ P r
theorem Ok1.some {R : Type} {r : R} {P : R → Prop} (h : P r) : Ok1 (some r) P := ⟨r, rfl, h⟩
theorem Ok1.bind {A R : Type} {o : Option A} {k : A → Option R} {P : A → Prop} {Q : R → Prop} (h : Ok1 o P) (hk : ∀ a, P a → Ok1 (k a) Q) : Ok1 (Option.bind o k) Q := by
  obtain ⟨a, rfl, ha⟩ := h
  exact hk a ha
theorem Ok1.cond {R : Type} {b : Bool} {x y : Option R} {P : R → Prop} (h1 : b = true → Ok1 x P) (h2 : b = false → Ok1 y P) : Ok1 (_root_.cond b x y) P := by
  cases b
  · exact h2 rfl
  · exact h1 rfl
theorem Ok1.chk {R : Type} {b : Bool} {x : Option R} {P : R → Prop} (hb : b = true) (h : Ok1 x P) : Ok1 (_root_.cond b x none) P := by rw [hb]; exact h
theorem Ok1.mono {R : Type} {o : Option R} {P Q : R → Prop} (h : Ok1 o P) (hi : ∀ r, P r → Q r) : Ok1 o Q := by
  obtain ⟨r, e, hr⟩ := h
  exact ⟨r, e, hi r hr⟩
def Sk (s t : Src) : Prop := SrcOk t ∧ t.1 = s.1
theorem Sk.refl {s : Src} (h : SrcOk s) : Sk s s := ⟨h, rfl⟩
theorem Sk.trans {s t u : Src} (h1 : Sk s t) (h2 : Sk t u) : Sk s u := ⟨h2.1, h2.2.trans h1.2⟩
theorem next_d {s : Src} (h : SrcOk s) (n : Int) (hn : n ≤ 1099511627776) : Ok1 (spec_l01Next s n) fun y => Sk s y.2 ∧ 0 ≤ y.1 ∧ (1 ≤ n → y.1 < n) := by
  obtain ⟨r, s', e, h1, h2, h3, h4⟩ := spec_l01Next_v h n hn
  exact ⟨_, e, ⟨h1, h2⟩, h3, h4⟩
theorem pick_d {s : Src} (h : SrcOk s) (xs : List Int) (h1 : 1 ≤ xs.length) (h2 : xs.length ≤ 1000) : Ok1 (spec_l01Pick s xs) fun y => Sk s y.2 ∧ y.1 ∈ xs := by
  obtain ⟨r, s', e, h1, h2, h3⟩ := spec_l01Pick_v h xs h1 h2
  exact ⟨_, e, ⟨h1, h2⟩, h3⟩
theorem from_d {code : List Int} (hb : ∀ c ∈ code, 0 ≤ c ∧ c ≤ 255) (hn : code.length ≤ 4096) : Ok1 (spec_l01From code) SrcOk := by
  have key : ∀ (d k : Nat) (sd : Int), k + d = 64 → 0 ≤ sd → sd < 2147483647 → Ok1 (spec_l01From_l0 code (k : Int) code 0 sd) SrcOk := by
    intro d
    induction d with
    | zero =>
      intro k sd hk h1 h2
      rw [spec_l01From_l0_eq]
      refine Ok1.cond (fun _ => ?_) fun _ => ?_
      · rw [decide_eq_false (by omega)]
        exact Ok1.some ⟨hb, by simp only; omega, ⟨by simp, by simp⟩, h1, h2⟩
      · exact Ok1.some ⟨hb, by simp only; omega, ⟨by simp, by simp⟩, h1, h2⟩
    | succ d ih =>
      intro k sd hk h1 h2
      rw [spec_l01From_l0_eq]
      refine Ok1.cond (fun hc => ?_) fun _ => ?_
      · have hc' := of_decide_eq_true hc
        have hlt : k < code.length := by omega
        rw [decide_eq_true (by omega), rd_lt hlt]
        have hcb := hb _ (List.getElem_mem hlt)
        simp only [cond_true, Option.bind_some, Option.bind_fun_some]
        rw [show decide (2147483647 = 0) = false from rfl]
        have w1 : IntKind.i64.wrap (sd * 73) = sd * 73 := w64 (by omega) (by omega)
        have w2 : IntKind.i64.wrap code[k] = code[k] := w64 (by omega) (by omega)
        rw [w1, w2, w64 (x := sd * 73 + code[k]) (by omega) (by omega), w64 (x := (k : Int) + 1) (by omega) (by omega)]
        obtain ⟨t1, t2⟩ := tmod_pos (a := sd * 73 + code[k]) (n := 2147483647) (by omega) (by omega)
        exact ih (k + 1) _ (by omega) t1 t2
      · exact Ok1.some ⟨hb, by simp only; omega, ⟨by simp, by simp⟩, h1, h2⟩
  rw [spec_l01From_eq]
  exact (key 64 0 93001 (by omega) (by omega) (by omega)).bind fun a ha => Ok1.some ha
theorem frame_d {s : Src} (h : SrcOk s) : Ok1 (spec_l04DrawFrame s) fun y => Sk s y.2 := by
  rw [spec_l04DrawFrame_eq]
  refine (next_d h 40 (by omega)).bind fun a ⟨ha, _⟩ => Ok1.cond (fun _ => ?_) fun _ => ?_
  · exact (pick_d ha.1 _ (by decide) (by decide)).bind fun b ⟨hb, _⟩ => Ok1.some (ha.trans hb)
  · exact (next_d ha.1 _ (by omega)).bind fun b ⟨hb, _⟩ => Ok1.some (ha.trans hb)
theorem lat_d {s : Src} (h : SrcOk s) : Ok1 (spec_l03Draw s) fun y => Sk s y.2 := by
  rw [spec_l03Draw_eq]
  refine (next_d h 6 (by omega)).bind fun a ⟨ha, a1, a2⟩ => (next_d ha.1 6 (by omega)).bind fun b ⟨hb, _⟩ => ?_
  have hw : IntKind.i64.wrap (1 + a.1) ≤ 1099511627776 := by
    have := a2 (by omega)
    rw [w64 (by omega) (by omega)]; omega
  refine (next_d hb.1 _ hw).bind fun c ⟨hc, _⟩ => (next_d hc.1 60 (by omega)).bind fun d ⟨hd, _⟩ => Ok1.cond (fun _ => ?_) fun _ => Ok1.cond (fun _ => ?_) fun _ => Ok1.cond (fun _ => ?_) fun _ => ?_
  · exact (pick_d hd.1 _ (by simp) (by simp)).bind fun e ⟨he, _⟩ => Ok1.some (ha.trans (hb.trans (hc.trans (hd.trans he))))
  · exact (pick_d hd.1 _ (by simp) (by simp)).bind fun e ⟨he, _⟩ => Ok1.some (ha.trans (hb.trans (hc.trans (hd.trans he))))
  · exact (pick_d hd.1 _ (by simp) (by simp)).bind fun e ⟨he, _⟩ => Ok1.some (ha.trans (hb.trans (hc.trans (hd.trans he))))
  · exact Ok1.some (ha.trans (hb.trans (hc.trans hd)))
theorem lattice_d {s : Src} (h : SrcOk s) : Ok1 (spec_l06DrawLattice s) fun y => Sk s y.2.2 := by
  rw [spec_l06DrawLattice_eq]
  refine (frame_d h).bind fun a ha => (next_d ha.1 5 (by omega)).bind fun b ⟨hb, _⟩ => Ok1.cond (fun _ => ?_) fun _ => Ok1.cond (fun _ => ?_) fun _ => Ok1.cond (fun _ => ?_) fun _ => ?_
  · exact (lat_d hb.1).bind fun c hc => Ok1.some (ha.trans (hb.trans hc))
  · exact (next_d hb.1 4 (by omega)).bind fun c ⟨hc, _⟩ => (next_d hc.1 4 (by omega)).bind fun d ⟨hd, _⟩ => Ok1.some (ha.trans (hb.trans (hc.trans hd)))
  · exact Ok1.cond (fun _ => Ok1.some (ha.trans hb)) fun _ => Ok1.some (ha.trans hb)
  · exact (next_d hb.1 4 (by omega)).bind fun c ⟨hc, _⟩ => Ok1.some (ha.trans (hb.trans hc))
theorem stable_pos {f : Int} (hf : f = 0 ∨ f = 1) {l : Lat} (hl : isLat l = true) : 1 ≤ (stableL f l).length := List.length_pos_of_mem (stable_unit hf hl)
theorem motion_d {s : Src} (h : SrcOk s) (f : Int) (l : Lat) : Ok1 (spec_l06DrawMotion s f l) fun y => Sk s y.2 ∧ ((isFrame f && isLat l) = true → y.1.1 ∈ stableL f l ∧ Sv y.1.2) := by
  rw [spec_l06DrawMotion_eq, spec_l02Unit_eq, spec_l04Code_v]
  simp only [Option.bind_some]
  have sv : ∀ {x y : Int}, (0 ≤ x ∧ (1 ≤ (9 : Int) → x < 9)) → (0 ≤ y ∧ (1 ≤ (9 : Int) → y < 9)) → Sv (IntKind.i64.wrap (x - 4), IntKind.i64.wrap (y - 4)) := by
    intro x y hx hy
    have := hx.2 (by omega)
    have := hy.2 (by omega)
    unfold Sv
    rw [w64 (by omega) (by omega), w64 (by omega) (by omega)]
    simp only
    omega
  cases hfl : (isFrame f && isLat l) with
  | false =>
    simp only [Bool.false_eq_true, if_false, false_implies, and_true]
    exact (next_d h 9 (by omega)).bind fun c ⟨hc, _⟩ => (next_d hc.1 9 (by omega)).bind fun d ⟨hd, _⟩ => Ok1.some (hc.trans hd)
  | true =>
    rw [Bool.and_eq_true] at hfl
    have hf := isFrame_iff.1 hfl.1
    have hl := hfl.2
    have hn := stable_len f l
    have hp := stable_pos hf hl
    rw [spec_l04Stable_v hf hl]
    simp only [if_true, decide_true, cond_true, Option.bind_some]
    refine (next_d h ((stableL f l).length : Int) (by omega)).bind fun a ⟨ha, a1, a2⟩ => Ok1.chk ?_ ?_
    · have := a2 (by omega)
      rw [decide_eq_true a1, decide_eq_true this]; rfl
    · refine (next_d ha.1 9 (by omega)).bind fun c ⟨hc, hc1⟩ => (next_d hc.1 9 (by omega)).bind fun d ⟨hd, hd1⟩ => Ok1.some ⟨ha.trans (hc.trans hd), fun _ => ⟨?_, sv hc1 hd1⟩⟩
      have := a2 (by omega)
      have hlt : a.1.toNat < (stableL f l).length := by omega
      show (stableL f l).getD a.1.toNat _ ∈ stableL f l
      rw [List.getD_eq_getElem?_getD, List.getElem?_eq_getElem hlt]
      exact List.getElem_mem hlt
theorem reduce_d {f : Int} {l : Lat} (hl : isLat l = true) {m : Mot} (h1 : m.1 ∈ stableL f l) (h2 : Sv m.2) : ∃ r, spec_l06Reduce l m = some r ∧ r ∈ allM f l := by
  have hsm : Sm m.2 := by unfold Sv at h2; unfold Sm; omega
  rw [spec_l06Reduce_eq, spec_l03Reduce_v l m.2 hl hsm]
  exact ⟨_, rfl, mem_allM.2 ⟨h1, red_mem hl _⟩⟩
theorem unit_v : spec_l06Unit = some unitM := by rw [spec_l06Unit_eq, spec_l02Unit_eq]; rfl
theorem cut_all {α : Type} (k : Nat) (xs : List α) : cut 0 k xs = xs.take k ∧ cut k xs.length xs = xs.drop k := by
  unfold cut
  rw [List.drop_zero, List.take_length]
  exact ⟨rfl, rfl⟩
theorem insert_d {xs : List Mot} (hn : xs.length ≤ 1000000) (hi : IncM xs) {m : Mot} (hm : m ∉ xs) : ∃ ys, spec_l06Insert_o xs m = some ys ∧ IncM ys ∧ (∀ w, w ∈ ys ↔ w = m ∨ w ∈ xs) ∧ ys.length = xs.length + 1 := by
  obtain ⟨r, hr, hrl, h1, h2⟩ := spec_place_loop hn m hi xs.length 0 xs.length (by omega) (by omega) (by omega) (fun j hj h => by omega) (fun j hj h => by omega)
  have hp : spec_l06Place xs m = some (r : Int) := by
    rw [spec_l06Place_eq, show (0 : Int) = ((0 : Nat) : Int) from rfl, hr]
    rfl
  rw [spec_l06Insert_o_eq, hp]
  simp only [Option.bind_some]
  have hres : ([] ++ cut 0 (Int.toNat (r : Int)) xs ++ [m]) ++ cut (Int.toNat (r : Int)) xs.length xs = xs.take r ++ m :: xs.drop r := by
    rw [Int.toNat_natCast, (cut_all r xs).1, (cut_all r xs).2]
    simp
  have hl1 : (xs.take r).length ≤ 1000000 := by rw [List.length_take]; omega
  have hl2 : (xs.drop r).length ≤ 1000000 := by rw [List.length_drop]; omega
  have c1 : decide (List.length ([] : List Mot) + List.length (cut 0 (Int.toNat (r : Int)) xs) ≤ LIM) = true := decide_eq_true (by
    rw [Int.toNat_natCast, (cut_all r xs).1]; unfold LIM; simp only [List.length_nil]; omega)
  have c2 : decide (List.length (([] : List Mot) ++ cut 0 (Int.toNat (r : Int)) xs) + List.length [m] ≤ LIM) = true := decide_eq_true (by
    rw [Int.toNat_natCast, (cut_all r xs).1]; unfold LIM; simp only [List.nil_append, List.length_singleton]; omega)
  have c3 : decide (List.length ((([] : List Mot) ++ cut 0 (Int.toNat (r : Int)) xs) ++ [m]) + List.length (cut (Int.toNat (r : Int)) xs.length xs) ≤ LIM) = true := decide_eq_true (by
    rw [Int.toNat_natCast, (cut_all r xs).1, (cut_all r xs).2]; unfold LIM; simp only [List.nil_append, List.length_append, List.length_singleton]; omega)
  have c0 : (decide ((0 : Int) ≤ (r : Int)) && decide ((r : Int) ≤ (xs.length : Int))) = true := by rw [decide_eq_true (by omega), decide_eq_true (by omega)]; rfl
  have fin : ∃ ys, (some (xs.take r ++ m :: xs.drop r) : Option (List Mot)) = some ys ∧ IncM ys ∧ (∀ w, w ∈ ys ↔ w = m ∨ w ∈ xs) ∧ ys.length = xs.length + 1 := by
    refine ⟨_, rfl, ?_, fun w => ?_, ?_⟩
    · refine List.pairwise_append.2 ⟨hi.sublist (List.take_sublist r xs), List.pairwise_cons.2 ⟨fun y hy => ?_, hi.sublist (List.drop_sublist r xs)⟩, fun x hx y hy => ?_⟩
      · obtain ⟨j, hj, rfl⟩ := List.getElem_of_mem hy
        rw [List.length_drop] at hj
        rw [List.getElem_drop]
        have h3 := h2 (r + j) (by omega) (by omega)
        cases h4 : mless m xs[r + j] with
        | true => rfl
        | false => exact (hm (mless_tot h4 h3 ▸ List.getElem_mem (by omega))).elim
      · obtain ⟨i, hi', rfl⟩ := List.getElem_of_mem hx
        rw [List.length_take] at hi'
        rw [List.getElem_take]
        have h3 := h1 i (by omega) (by omega)
        rcases List.mem_cons.1 hy with rfl | hy
        · exact h3
        · obtain ⟨j, hj, rfl⟩ := List.getElem_of_mem hy
          rw [List.length_drop] at hj
          rw [List.getElem_drop]
          exact List.pairwise_iff_getElem.1 hi i (r + j) (by omega) (by omega) (by omega)
    · rw [List.mem_append, List.mem_cons]
      have : w ∈ xs ↔ w ∈ xs.take r ∨ w ∈ xs.drop r := by rw [← List.mem_append, List.take_append_drop]
      rw [this]
      constructor
      · rintro (h | h | h)
        · exact .inr (.inl h)
        · exact .inl h
        · exact .inr (.inr h)
      · rintro (h | h | h)
        · exact .inr (.inl h)
        · exact .inl h
        · exact .inr (.inr h)
    · rw [List.length_append, List.length_cons, List.length_take, List.length_drop]; omega
  rw [c0, c1, c2, c3, hres]
  simp only [cond_true]
  by_cases hlt : r < xs.length
  · rw [decide_eq_true (show (r : Int) < (xs.length : Int) by omega), decide_eq_true (show (0 : Int) ≤ (r : Int) by omega)]
    simp only [Bool.and_self, cond_true]
    rw [mot_beq, decide_eq_false (p := _ = _) (fun e => hm (by
      rw [Int.toNat_natCast] at e
      have : xs.getD r (dflt cM) = xs[r] := by rw [List.getD_eq_getElem?_getD, List.getElem?_eq_getElem hlt]; rfl
      rw [show xs.getD r (dflt (.pair (.pair (.i .i64) (.pair (.i .i64) (.pair (.i .i64) (.i .i64)))) (.pair (.i .i64) (.i .i64)))) = xs[r] from this] at e
      rw [← e]; exact List.getElem_mem hlt))]
    exact fin
  · rw [decide_eq_false (show ¬ ((r : Int) < (xs.length : Int)) by omega)]
    exact fin
end Go.Proofs.YtckjefjkedlmbaaGreatDoor

namespace Go.Proofs.YtckjefjkedlmbaaGreatDoor
open Ai
set_option linter.unusedSimpArgs false
set_option linter.unusedVariables false
section closing
variable {f : Int} (hf : f = 0 ∨ f = 1) {l : Lat} (hl : isLat l = true) {list : List Mot} (hm : ∀ m ∈ list, m ∈ allM f l) (hln : list.length ≤ 100000)
structure Cl (f : Int) (l : Lat) (out queue : List Mot) : Prop where
  inc : IncM out
  nd : queue.Nodup
  eq : ∀ w, w ∈ queue ↔ w ∈ out
  sub : ∀ w ∈ out, w ∈ allM f l
include hl in
theorem Cl.len {out queue : List Mot} (c : Cl f l out queue) : queue.length ≤ 5184 ∧ out.length ≤ 5184 :=
  ⟨Nat.le_trans (nodup_le _ _ c.nd fun w hw => c.sub w ((c.eq w).1 hw)) (allM_len f hl), Nat.le_trans (nodup_le _ _ c.inc.nodup c.sub) (allM_len f hl)⟩
include hf hl hm hln in
theorem close_inner : ∀ (d i : Nat) (out queue : List Mot) (k : Nat), i + d = list.length → Cl f l out queue → k < queue.length →
    ∃ out' queue', spec_l06Close_l1 list out queue (k : Int) (i : Int) l.1 l.2.1 l.2.2 = some (list, out', queue', (k : Int), l.1, l.2.1, l.2.2) ∧ Cl f l out' queue' ∧ queue.length ≤ queue'.length
  | 0, i, out, queue, k, hi, c, hk => by
    refine ⟨out, queue, ?_, c, Nat.le_refl _⟩
    rw [spec_l06Close_l1_eq, decide_eq_false (by omega)]
    rfl
  | d + 1, i, out, queue, k, hi, c, hk => by
    have hlt : i < list.length := by omega
    obtain ⟨q1, q2⟩ := c.len hl
    have hma := hm _ (List.getElem_mem hlt)
    have hna := c.sub _ ((c.eq _).1 (List.getElem_mem hk))
    have hg : goodL f l (allM f l) = true := inc_goodL (allM_inc hf l) fun m h => h
    obtain ⟨z, e1, e2⟩ := Option.bind_eq_some_iff.1 (spec_prod hf hl hg hma hna)
    have hp := prod_allM hf hl hma hna
    have e1' : spec_l05Compose list[i] ((queue[k].1.1, queue[k].1.2.1, queue[k].1.2.2), queue[k].2) = some z := e1
    have e2' : spec_l06Reduce (l.1, l.2.1, l.2.2) z = some (prodM l list[i] queue[k]) := e2
    rw [spec_l06Close_l1_eq, decide_eq_true (by omega), rd_lt hlt, inb hk, gd hk]
    simp only [cond_true, Option.bind_some, e1', e2', spec_l06Has_v (show out.length ≤ 1000000 by omega) c.inc, Option.bind_fun_some]
    rw [wnext hlt (by omega)]
    by_cases hin : prodM l list[i] queue[k] ∈ out
    · rw [decide_eq_true hin]
      exact close_inner d (i + 1) out queue k (by omega) c hk
    · rw [decide_eq_false hin]
      obtain ⟨ys, e3, y1, y2, y3⟩ := insert_d (show out.length ≤ 1000000 by omega) c.inc hin
      rw [cond_false, e3]
      simp only [Option.bind_some]
      rw [decide_eq_true (show queue.length + List.length [prodM l list[i] queue[k]] ≤ LIM by unfold LIM; simp only [List.length_singleton]; omega)]
      have c' : Cl f l ys (queue ++ [prodM l list[i] queue[k]]) := by
        refine ⟨y1, ?_, fun w => ?_, fun w hw => ?_⟩
        · exact List.pairwise_append.2 ⟨c.nd, List.pairwise_singleton _ _, fun x hx y hy e => hin ((c.eq _).1 (by rw [← List.mem_singleton.1 hy, ← e]; exact hx))⟩
        · rw [y2, List.mem_append, List.mem_singleton, c.eq]
          exact or_comm
        · rcases (y2 w).1 hw with rfl | h
          · exact hp
          · exact c.sub w h
      obtain ⟨o, q, a1, a2, a3⟩ := close_inner d (i + 1) ys _ k (by omega) c' (by rw [List.length_append]; omega)
      exact ⟨o, q, a1, a2, by rw [List.length_append] at a3; omega⟩
include hf hl hm hln in
theorem close_outer : ∀ (d k : Nat) (out queue : List Mot), 5184 ≤ k + d → Cl f l out queue → 1 ≤ queue.length →
    ∃ r, spec_l06Close_l0 list out queue (k : Int) l.1 l.2.1 l.2.2 = some r ∧ IncM r ∧ (∀ w ∈ r, w ∈ allM f l) ∧ r ≠ []
  | d, k, out, queue, hd, c, h1 => by
    obtain ⟨q1, q2⟩ := c.len hl
    rw [spec_l06Close_l0_eq]
    by_cases hk : k < queue.length
    · obtain ⟨o, q, a1, a2, a3⟩ := close_inner hf hl hm hln list.length 0 out queue k (by omega) c hk
      rw [decide_eq_true (show (k : Int) < (queue.length : Int) by omega), show (0 : Int) = ((0 : Nat) : Int) from rfl, a1]
      simp only [cond_true, Option.bind_some, Option.bind_fun_some]
      rw [wnext hk (by omega)]
      match d with
      | 0 => omega
      | d + 1 => exact close_outer d (k + 1) o q (by omega) a2 (by omega)
    · rw [decide_eq_false (show ¬ (k : Int) < (queue.length : Int) by omega)]
      refine ⟨out, rfl, c.inc, c.sub, fun e => ?_⟩
      have := (c.eq _).1 (List.getElem_mem (show 0 < queue.length by omega))
      rw [e] at this; cases this
include hf hl hm hln in
theorem close_d : ∃ r, spec_l06Close l list = some r ∧ IncM r ∧ (∀ w ∈ r, w ∈ allM f l) ∧ r ≠ [] := by
  have c : Cl f l [unitM] [unitM] := ⟨List.pairwise_singleton _ _, List.pairwise_singleton _ _, fun w => Iff.rfl, fun w hw => by rw [List.mem_singleton.1 hw]; exact unit_allM hf hl⟩
  obtain ⟨r, h1, h2⟩ := close_outer hf hl hm hln 5184 0 [unitM] [unitM] (by omega) c (by simp)
  refine ⟨r, ?_, h2⟩
  rw [spec_l06Close_eq, unit_v]
  simp only [Option.bind_some]
  rw [show (0 : Int) = ((0 : Nat) : Int) from rfl, h1]
  rfl
/-! ### Orbits -/
include hf hl hm hln in
theorem orbit_loop {v : V} (hv : v ∈ cells l) : ∀ (d i : Nat) (out : List V), i + d = list.length → Inc out → (∀ u ∈ out, u ∈ cells l) → (1 ≤ d ∨ out ≠ []) →
    ∃ r, spec_l07Orbit_l0 list out (i : Int) l.1 l.2.1 l.2.2 v.1 v.2 = some r ∧ (∀ u ∈ r, u ∈ cells l) ∧ r ≠ [] ∧ r.length ≤ 64
  | 0, i, out, hi, h1, h2, h3 => by
    rw [spec_l07Orbit_l0_eq, decide_eq_false (by omega)]
    exact ⟨out, rfl, h2, by rcases h3 with h | h; omega; exact h, Nat.le_trans (nodup_le _ _ h1.nodup h2) (cells_len' hl).2⟩
  | d + 1, i, out, hi, h1, h2, h3 => by
    have hlt : i < list.length := by omega
    have hln : out.length ≤ 64 := Nat.le_trans (nodup_le _ _ h1.nodup h2) (cells_len' hl).2
    have hma := hm _ (List.getElem_mem hlt)
    have hsm := allM_suit hf hl hma v hv
    have e1 : spec_l07Move (l.1, l.2.1, l.2.2) list[i] (v.1, v.2) = some (red l (wap list[i] v)) := by
      rw [spec_l07Move_eq, show spec_l05Apply list[i] (v.1, v.2) = some (wap list[i] v) from spec_l05Apply_v _ v]
      simp only [Option.bind_some]
      rw [show spec_l03Reduce (l.1, l.2.1, l.2.2) (wap list[i] v) = some (red l (wap list[i] v)) from spec_l03Reduce_v l _ hl hsm]
      rfl
    rw [spec_l07Orbit_l0_eq, decide_eq_true (by omega), rd_lt hlt]
    simp only [cond_true, Option.bind_some, e1, spec_l01Insert_v out _ (show out.length ≤ 1000000 by omega), Option.bind_fun_some]
    rw [w64 (x := (i : Int) + 1) (by omega) (by omega)]
    exact orbit_loop hv d (i + 1) _ (by omega) (insV_inc h1) (fun u hu => by
      rcases mem_insV.1 hu with rfl | hu
      · exact red_mem hl _
      · exact h2 u hu) (.inr fun e => by
        have := (mem_insV (v := red l (wap list[i] v)) (w := red l (wap list[i] v)) (xs := out)).2 (.inl rfl)
        rw [e] at this; cases this)
include hf hl hm hln in
theorem orbit_d (hne : list ≠ []) {v : V} (hv : v ∈ cells l) : ∃ r, spec_l07Orbit (l.1, l.2.1, l.2.2) list v = some r ∧ (∀ u ∈ r, u ∈ cells l) ∧ r ≠ [] ∧ r.length ≤ 64 := by
  obtain ⟨r, h1, h2⟩ := orbit_loop hf hl hm hln hv list.length 0 [] (by omega) List.Pairwise.nil (fun u hu => by cases hu) (.inl (List.length_pos_iff.2 hne))
  refine ⟨r, ?_, h2⟩
  rw [spec_l07Orbit_eq]
  rw [show spec_l07Orbit_l0 list ([] : List (Int × Int)) 0 (l.1, l.2.1, l.2.2).1 (l.1, l.2.1, l.2.2).2.1 (l.1, l.2.1, l.2.2).2.2 v.1 v.2 = some r from h1]
  rfl
include hf hl hm hln in
theorem orbits_loop (hne : list ≠ []) : ∀ (d i : Nat) (out : List (List V)), i + d = (cells l).length → out.length ≤ i → (∀ o ∈ out, (∀ u ∈ o, u ∈ cells l) ∧ o.length ≤ 64) →
    ∃ r, spec_l07Orbits_l0 list (cells l) out (i : Int) l.1 l.2.1 l.2.2 = some r ∧ r.length ≤ (cells l).length ∧ ∀ o ∈ r, (∀ u ∈ o, u ∈ cells l) ∧ o.length ≤ 64
  | 0, i, out, hi, h1, h2 => by
    rw [spec_l07Orbits_l0_eq, decide_eq_false (by omega)]
    exact ⟨out, rfl, by omega, h2⟩
  | d + 1, i, out, hi, h1, h2 => by
    have hlt : i < (cells l).length := by omega
    have hn := (cells_len' hl).2
    obtain ⟨o, e1, o1, o2, o3⟩ := orbit_d hf hl hm hln hne (List.getElem_mem hlt)
    have hpos : 0 < o.length := List.length_pos_iff.2 o2
    rw [spec_l07Orbits_l0_eq, inb hlt, decide_eq_true (p := (i : Int) < ((cells l).length : Int)) (by omega), gd hlt, e1]
    simp only [cond_true, Option.bind_some, Option.bind_fun_some]
    rw [wnext hlt (by omega), show decide (0 ≤ 0) = true from rfl, decide_eq_true (show (0 : Int) < (o.length : Int) by omega)]
    simp only [Bool.and_self, cond_true]
    rw [decide_eq_true (show out.length + List.length [o] ≤ LIM by unfold LIM; simp only [List.length_singleton]; omega)]
    have a := orbits_loop hne d (i + 1) (out ++ [o]) (by omega) (by rw [List.length_append, List.length_singleton]; omega) (fun p hp => by
      rcases List.mem_append.1 hp with h | h
      · exact h2 p h
      · rw [List.mem_singleton.1 h]; exact ⟨o1, o3⟩)
    have b := orbits_loop hne d (i + 1) out (by omega) (by omega) h2
    rw [cond_true]
    generalize (decide ((List.getD o (Int.toNat 0) (dflt (.pair (.i .i64) (.i .i64)))).1 = (cells l)[i].1) && (decide ((List.getD o (Int.toNat 0) (dflt (.pair (.i .i64) (.i .i64)))).2 = (cells l)[i].2) && true)) = q
    cases q
    · exact b
    · exact a
theorem numbers_inner (hl : isLat l = true) {n : Nat} (hn : (n : Int) = l.1 * l.2.2) {orbits : List (List V)} {k : Nat} (hk : k < orbits.length) (ho : ∀ u ∈ orbits[k], u ∈ cells l) : ∀ (d i : Nat) (xs : List Int), i + d = orbits[k].length → xs.length = n → orbits[k].length ≤ 100000 →
    ∃ ys, spec_l07Numbers_l1 xs orbits (k : Int) (i : Int) l.1 l.2.1 l.2.2 = some (ys, orbits, (k : Int), l.1, l.2.1, l.2.2) ∧ ys.length = n ∧ ∀ e ∈ ys, e ∈ xs ∨ e = (k : Int)
  | 0, i, xs, hi, h1, hb => by
    rw [spec_l07Numbers_l1_eq, rd_lt hk]
    simp only [Option.bind_some]
    rw [decide_eq_false (by omega)]
    exact ⟨xs, rfl, h1, fun e he => .inl he⟩
  | d + 1, i, xs, hi, h1, hb => by
    have hlt : i < orbits[k].length := by omega
    have hu := ho _ (List.getElem_mem hlt)
    have hnum := (num_int hl orbits[k][i]).2
    have e1 : spec_l03Number (l.1, l.2.1, l.2.2) orbits[k][i] = some (num l orbits[k][i] : Int) := spec_l03Number_v l _ hl (cells_sm hl hu).1
    rw [spec_l07Numbers_l1_eq, rd_lt hk]
    simp only [Option.bind_some]
    rw [decide_eq_true (by omega), rd_lt hlt]
    simp only [Option.bind_some, cond_true, e1, Option.bind_fun_some]
    rw [decide_eq_true (show (0 : Int) ≤ ((num l orbits[k][i] : Nat) : Int) by omega), decide_eq_true (show ((num l orbits[k][i] : Nat) : Int) < (xs.length : Int) by omega), wnext hlt (by omega)]
    simp only [Bool.and_self, cond_true]
    obtain ⟨ys, a1, a2, a3⟩ := numbers_inner hl hn hk ho d (i + 1) (xs.set (Int.toNat ((num l orbits[k][i] : Nat) : Int)) (k : Int)) (by omega) (by rw [List.length_set]; exact h1) hb
    refine ⟨ys, a1, a2, fun e he => ?_⟩
    rcases a3 e he with h | h
    · rcases List.mem_or_eq_of_mem_set h with h | h
      · exact .inl h
      · exact .inr h
    · exact .inr h
theorem numbers_outer (hl : isLat l = true) {n : Nat} (hn : (n : Int) = l.1 * l.2.2) {orbits : List (List V)} (hon : orbits.length ≤ n) (ho : ∀ o ∈ orbits, ∀ u ∈ o, u ∈ cells l) (hb : ∀ o ∈ orbits, o.length ≤ 100000) : ∀ (d k : Nat) (xs : List Int), k + d = orbits.length → xs.length = n → (∀ e ∈ xs, 0 ≤ e ∧ e < (n : Int)) →
    ∃ ys, spec_l07Numbers_l0 xs orbits (k : Int) l.1 l.2.1 l.2.2 = some ys ∧ ys.length = n ∧ ∀ e ∈ ys, 0 ≤ e ∧ e < (n : Int)
  | 0, k, xs, hk, h1, h2 => by
    rw [spec_l07Numbers_l0_eq, decide_eq_false (by omega)]
    exact ⟨xs, rfl, h1, h2⟩
  | d + 1, k, xs, hk, h1, h2 => by
    have hlt : k < orbits.length := by omega
    have hmem := List.getElem_mem hlt
    obtain ⟨l1, l2, l3, l4⟩ := isLat_iff.1 hl
    obtain ⟨ys, a1, a2, a3⟩ := numbers_inner hl hn hlt (ho _ hmem) orbits[k].length 0 xs (by omega) h1 (hb _ hmem)
    rw [spec_l07Numbers_l0_eq, decide_eq_true (by omega), show (0 : Int) = ((0 : Nat) : Int) from rfl, a1]
    simp only [cond_true, Option.bind_some, Option.bind_fun_some]
    rw [wnext hlt (by omega)]
    exact numbers_outer hl hn hon ho hb d (k + 1) ys (by omega) a2 fun e he => by
      rcases a3 e he with h | rfl
      · exact h2 e h
      · omega
theorem mul64 {l : Lat} (hl : isLat l = true) : IntKind.i64.wrap (l.1 * l.2.2) = l.1 * l.2.2 ∧ 1 ≤ l.1 * l.2.2 ∧ l.1 * l.2.2 ≤ 64 := by
  obtain ⟨l1, l2, l3, l4⟩ := isLat_iff.1 hl
  have : 1 * 1 ≤ l.1 * l.2.2 := Int.mul_le_mul (by omega) (by omega) (by omega) (by omega)
  exact ⟨w64 (by omega) (by omega), by omega, l4⟩
include hf hl hm hln in
theorem numbers_d (hne : list ≠ []) : ∃ ys, spec_l07Numbers l list = some ys ∧ (ys.length : Int) = l.1 * l.2.2 ∧ ∀ e ∈ ys, 0 ≤ e ∧ e < (ys.length : Int) := by
  obtain ⟨w, m1, m2⟩ := mul64 hl
  have hc := (cells_len' hl).1
  obtain ⟨r, e1, r1, r2⟩ := orbits_loop hf hl hm hln hne (cells l).length 0 [] (by omega) (by simp) (fun o h => by cases h)
  have e2 : spec_l07Orbits l list = some r := by
    rw [spec_l07Orbits_eq, spec_l03Cells_v l hl]
    simp only [Option.bind_some]
    rw [show spec_l07Orbits_l0 list (cells l) ([] : List (List (Int × Int))) 0 l.1 l.2.1 l.2.2 = some r from e1]
    rfl
  obtain ⟨ys, e3, y1, y2⟩ := numbers_outer (n := (l.1 * l.2.2).toNat) hl (by omega) (orbits := r) (by omega) (fun o ho => (r2 o ho).1) (fun o ho => Nat.le_trans (r2 o ho).2 (by omega)) r.length 0 (List.replicate (l.1 * l.2.2).toNat 0) (by omega) (by rw [List.length_replicate]) (fun e he => by rw [List.eq_of_mem_replicate he]; omega)
  rw [spec_l07Numbers_eq, w, decide_eq_true (show 0 ≤ l.1 * l.2.2 by omega), decide_eq_true (Int.le_refl (l.1 * l.2.2)), decide_eq_true (show l.1 * l.2.2 ≤ (LIM : Int) by unfold LIM; omega), e2]
  simp only [Bool.and_self, cond_true, Option.bind_some]
  rw [show spec_l07Numbers_l0 (List.replicate (l.1 * l.2.2).toNat (0 : Int)) r 0 l.1 l.2.1 l.2.2 = some ys from e3]
  exact ⟨ys, rfl, by omega, fun e he => by have := y2 e he; omega⟩
end closing
theorem motions_loop {f : Int} (hf : f = 0 ∨ f = 1) {l : Lat} (hl : isLat l = true) (z9 z10 z11 z12 z13 z14 z15 z16 : Int) (z17 : List Int) : ∀ (d : Nat) (list : List Mot) (n : Int) (s : Src), n ≤ (d : Int) → n ≤ 1000 → SrcOk s → list.length + d ≤ 1000 → (∀ m ∈ list, m ∈ allM f l) →
    Ok1 (spec_l09DrawOn_l0 f list n s.1 s.2.1 s.2.2 l.1 l.2.1 l.2.2 z9 z10 z11 z12 z13 z14 z15 z16 z17) fun r => (∀ m ∈ r.1, m ∈ allM f l) ∧ r.1.length ≤ list.length + d ∧ Sk s (r.2.1, r.2.2.1, r.2.2.2.1) ∧ r.2.2.2.2 = (l.1, l.2.1, l.2.2, z9, z10, z11, z12, z13, z14, z15, z16, z17)
  | 0, list, n, s, hn, hn2, hs, hl0, hm => by
    rw [spec_l09DrawOn_l0_eq, decide_eq_false (show ¬ 0 < n by omega)]
    exact Ok1.some ⟨hm, by show list.length ≤ list.length + 0; omega, Sk.refl hs, rfl⟩
  | d + 1, list, n, s, hn, hn2, hs, hl0, hm => by
    rw [spec_l09DrawOn_l0_eq]
    refine Ok1.cond (fun hc => ?_) fun _ => Ok1.some ⟨hm, by show list.length ≤ list.length + (d + 1); omega, Sk.refl hs, rfl⟩
    have hc := of_decide_eq_true hc
    have h1 : Ok1 (spec_l06DrawMotion (s.1, s.2.1, s.2.2) f (l.1, l.2.1, l.2.2)) fun y => Sk s y.2 ∧ ((isFrame f && isLat l) = true → y.1.1 ∈ stableL f l ∧ Sv y.1.2) := motion_d hs f l
    refine h1.bind fun y ⟨hy, hy2⟩ => ?_
    obtain ⟨y3, y4⟩ := hy2 (by rw [isFrame_iff.2 hf, hl]; rfl)
    obtain ⟨r, e1, e2⟩ := reduce_d hl y3 y4
    rw [show spec_l06Reduce (l.1, l.2.1, l.2.2) y.1 = some r from e1]
    simp only [Option.bind_some, Option.bind_fun_some]
    refine Ok1.chk (decide_eq_true (by unfold LIM; simp only [List.length_singleton]; omega)) ?_
    rw [w64 (x := n - 1) (by omega) (by omega)]
    · refine (motions_loop hf hl z9 z10 z11 z12 z13 z14 z15 z16 z17 d (list ++ [r]) (n - 1) y.2 (by omega) (by omega) hy.1 (by rw [List.length_append, List.length_singleton]; omega) fun m hm' => ?_).mono fun x ⟨x1, x2, x3, x4⟩ => ⟨x1, by rw [List.length_append, List.length_singleton] at x2; omega, hy.trans x3, x4⟩
      rcases List.mem_append.1 hm' with h | h
      · exact hm m h
      · rw [List.mem_singleton.1 h]; exact e2
theorem colours_loop {nums : List Int} (hn : nums.length ≤ 64) (most : Int) (hm : most ≤ 1099511627776) (z7 z8 z9 z10 z11 z12 z13 z14 : Int) (z15 : List Int) : ∀ (d i : Nat) (cs : List Int) (s : Src), i + d = nums.length → cs.length = i → SrcOk s →
    Ok1 (spec_l09DrawOn_l1 nums cs most (i : Int) s.1 s.2.1 s.2.2 z7 z8 z9 z10 z11 z12 z13 z14 z15) fun r => r.1 = nums ∧ r.2.1.length = nums.length ∧ Sk s (r.2.2.1, r.2.2.2.1, r.2.2.2.2.1) ∧ r.2.2.2.2.2 = (z7, z8, z9, z10, z11, z12, z13, z14, z15)
  | 0, i, cs, s, hi, hc, hs => by
    rw [spec_l09DrawOn_l1_eq, decide_eq_false (by omega)]
    exact Ok1.some ⟨rfl, by simp only; omega, Sk.refl hs, rfl⟩
  | d + 1, i, cs, s, hi, hc, hs => by
    rw [spec_l09DrawOn_l1_eq, decide_eq_true (by omega)]
    simp only [cond_true]
    have h1 : Ok1 (spec_l01Next (s.1, s.2.1, s.2.2) most) fun y => Sk s y.2 ∧ 0 ≤ y.1 ∧ (1 ≤ most → y.1 < most) := next_d hs most hm
    refine h1.bind fun y ⟨hy, _⟩ => Ok1.chk (decide_eq_true (by unfold LIM; simp only [List.length_singleton]; omega)) ?_
    simp only [Option.bind_fun_some]
    rw [wnext (show i < nums.length by omega) (by omega)]
    exact (colours_loop hn most hm z7 z8 z9 z10 z11 z12 z13 z14 z15 d (i + 1) (cs ++ [y.1]) y.2 (by omega) (by rw [List.length_append, List.length_singleton]; omega) hy.1).mono fun x ⟨x1, x2, x3, x4⟩ => ⟨x1, x2, hy.trans x3, x4⟩
theorem cells_loop {nums cs : List Int} (hn : nums.length ≤ 64) (he : ∀ e ∈ nums, 0 ≤ e ∧ e < (cs.length : Int)) (z3 : List Int) (z4 z5 z6 z7 z8 z9 z10 z11 z12 z13 : Int) : ∀ (d i : Nat) (out : List Int), i + d = nums.length → out.length = i →
    ∃ out', spec_l09DrawOn_l2 nums cs (i : Int) z3 z4 z5 z6 z7 z8 z9 z10 z11 z12 z13 out = some (z3, z4, z5, z6, z7, z8, z9, z10, z11, z12, z13, out') ∧ out'.length = nums.length
  | 0, i, out, hi, ho => by
    rw [spec_l09DrawOn_l2_eq, decide_eq_false (by omega)]
    exact ⟨out, rfl, by omega⟩
  | d + 1, i, out, hi, ho => by
    have hlt : i < nums.length := by omega
    have h2 := he _ (List.getElem_mem hlt)
    rw [spec_l09DrawOn_l2_eq, inb hlt, decide_eq_true (p := (i : Int) < (nums.length : Int)) (by omega), gd hlt, decide_eq_true h2.1, decide_eq_true h2.2]
    simp only [cond_true, Bool.and_self, Option.bind_fun_some]
    rw [wnext hlt (by omega), decide_eq_true (by unfold LIM; simp only [List.length_singleton]; omega)]
    exact cells_loop hn he z3 z4 z5 z6 z7 z8 z9 z10 z11 z12 z13 d (i + 1) _ (by omega) (by rw [List.length_append, List.length_singleton]; omega)
theorem drawOn_d {s : Src} (h : SrcOk s) (f : Int) (l : Lat) : Ok1 (spec_l09DrawOn s f l) fun y => Sk s y.2 ∧ y.1.2.2.length ≤ 64 := by
  rw [spec_l09DrawOn_eq, spec_l04Code_v]
  simp only [Option.bind_some]
  cases hfl : (isFrame f && isLat l) with
  | false => exact Ok1.some ⟨Sk.refl h, by simp⟩
  | true =>
    rw [Bool.and_eq_true] at hfl
    have hf := isFrame_iff.1 hfl.1
    have hl := hfl.2
    obtain ⟨w, m1, m2⟩ := mul64 hl
    simp only [if_true, decide_true, Bool.not_true, cond_false, unit_v, Option.bind_some]
    have most : ∀ x : Int, 0 ≤ x ∧ (1 ≤ (3 : Int) → x < 3) → IntKind.i64.wrap (2 + x) ≤ 1099511627776 := by
      intro x hx
      have := hx.2 (by omega)
      rw [w64 (by omega) (by omega)]; omega
    refine (next_d h 4 (by omega)).bind fun a ⟨ha, a1⟩ => Ok1.cond (fun _ => ?_) fun _ => ?_
    · refine (next_d ha.1 2 (by omega)).bind fun b ⟨hb, b1, b2⟩ => ?_
      have hn : IntKind.i64.wrap (1 + b.1) ≤ 2 := by
        have := b2 (by omega)
        rw [w64 (by omega) (by omega)]; omega
      refine (motions_loop hf hl 0 0 0 0 f l.1 l.2.1 l.2.2 [] 2 [] _ b.2 hn (by omega) hb.1 (by simp) (fun m hm => by cases hm)).bind fun r ⟨r1, r2, r3, r4⟩ => ?_
      obtain ⟨g, g1, g2, g3, g4⟩ := close_d hf hl r1 (by simp at r2; omega)
      have hgl : g.length ≤ 100000 := Nat.le_trans (nodup_le _ _ g2.nodup g3) (Nat.le_trans (allM_len f hl) (by omega))
      obtain ⟨ys, y1, y2, y3⟩ := numbers_d hf hl g3 hgl g4
      rw [r4]
      simp only
      rw [show spec_l06Close (l.1, l.2.1, l.2.2) r.1 = some g from g1]
      simp only [Option.bind_some]
      rw [show spec_l07Numbers (l.1, l.2.1, l.2.2) g = some ys from y1]
      simp only [Option.bind_some]
      refine (next_d (s := (r.2.1, r.2.2.1, r.2.2.2.1)) r3.1 3 (by omega)).bind fun c ⟨hc, c1⟩ => ?_
      refine (colours_loop (nums := ys) (by omega) _ (most c.1 c1) 0 0 0 0 f l.1 l.2.1 l.2.2 [] ys.length 0 [] c.2 (by omega) rfl hc.1).bind fun q ⟨q1, q2, q3, q4⟩ => ?_
      rw [q1, q4]
      simp only
      obtain ⟨o, o1, o2⟩ := cells_loop (nums := ys) (cs := q.2.1) (by omega) (fun e he => by rw [q2]; exact y3 e he) q.2.2.1 q.2.2.2.1 q.2.2.2.2.1 0 0 0 0 f l.1 l.2.1 l.2.2 ys.length 0 [] (by omega) rfl
      rw [show spec_l09DrawOn_l2 ys q.2.1 0 q.2.2.1 q.2.2.2.1 q.2.2.2.2.1 0 0 0 0 f l.1 l.2.1 l.2.2 [] = _ from o1]
      exact Ok1.some ⟨ha.trans (hb.trans (r3.trans (hc.trans q3))), by show o.length ≤ 64; omega⟩
    · obtain ⟨ys, y1, y2, y3⟩ := numbers_d hf hl (list := [unitM]) (fun m hm => by rw [List.mem_singleton.1 hm]; exact unit_allM hf hl) (by simp) (by simp)
      rw [y1]
      simp only [Option.bind_some]
      refine (next_d ha.1 3 (by omega)).bind fun c ⟨hc, c1⟩ => ?_
      refine (colours_loop (nums := ys) (by omega) _ (most c.1 c1) 0 0 0 0 f l.1 l.2.1 l.2.2 [] ys.length 0 [] c.2 (by omega) rfl hc.1).bind fun q ⟨q1, q2, q3, q4⟩ => ?_
      rw [q1, q4]
      simp only
      obtain ⟨o, o1, o2⟩ := cells_loop (nums := ys) (cs := q.2.1) (by omega) (fun e he => by rw [q2]; exact y3 e he) q.2.2.1 q.2.2.2.1 q.2.2.2.2.1 0 0 0 0 f l.1 l.2.1 l.2.2 ys.length 0 [] (by omega) rfl
      rw [show spec_l09DrawOn_l2 ys q.2.1 0 q.2.2.1 q.2.2.2.1 q.2.2.2.2.1 0 0 0 0 f l.1 l.2.1 l.2.2 [] = _ from o1]
      exact Ok1.some ⟨ha.trans (hc.trans q3), by show o.length ≤ 64; omega⟩
theorem pattern_d {s : Src} (h : SrcOk s) : Ok1 (spec_l09Draw s) fun y => Sk s y.2 ∧ y.1.2.2.length ≤ 65 := by
  rw [spec_l09Draw_eq]
  refine (lattice_d h).bind fun a ha => (drawOn_d ha.1 _ _).bind fun b ⟨hb, b1⟩ => (next_d hb.1 60 (by omega)).bind fun c ⟨hc, _⟩ => Ok1.cond (fun _ => ?_) fun _ => Ok1.cond (fun _ => Ok1.cond (fun h0 => ?_) fun _ => ?_) fun _ => ?_
  · exact Ok1.chk (decide_eq_true (by unfold LIM; simp only [List.length_singleton]; omega)) (Ok1.some ⟨ha.trans (hb.trans hc), by simp only [List.length_append, List.length_singleton]; omega⟩)
  · refine (pick_d hc.1 _ (by decide) (by decide)).bind fun d ⟨hd, _⟩ => Ok1.chk ?_ (Ok1.some ⟨ha.trans (hb.trans (hc.trans hd)), by simp only [List.length_set]; omega⟩)
    rw [h0]; rfl
  · exact Ok1.some ⟨ha.trans (hb.trans hc), by show b.1.2.2.length ≤ 65; omega⟩
  · exact Ok1.some ⟨ha.trans (hb.trans hc), by show b.1.2.2.length ≤ 65; omega⟩
end Go.Proofs.YtckjefjkedlmbaaGreatDoor

namespace Go.Proofs.YtckjefjkedlmbaaGreatDoor
open Ai
set_option linter.unusedSimpArgs false
set_option linter.unusedVariables false
theorem code_bytes {x : List Int} (h : wfE (.list (.i .u8)) x) : ∀ c ∈ x, 0 ≤ c ∧ c ≤ 255 := fun c hc => by
  have h1 : (decide (IntKind.u8.min ≤ c) && decide (c ≤ IntKind.u8.max)) = true := h.2 c hc
  rw [Bool.and_eq_true, decide_eq_true_iff, decide_eq_true_iff, show IntKind.u8.min = 0 from rfl, show IntKind.u8.max = 255 from rfl] at h1
  exact h1
theorem laws_likeInts_v (xs ys : List Int) (h : xs.length ≤ MAXN) : laws_likeInts xs ys = some (decide (xs = ys)) := by
  rw [laws_likeInts_eq]; exact eq_all fun hl => eq_loop_int laws_likeInts_l0_eq xs ys h hl
theorem laws_likePatterns9_v (p q : Pat) (h : p.2.2.length ≤ MAXN) : laws_likePatterns9 p q = some (decide (p = q)) := by
  rw [laws_likePatterns9_eq, laws_likeInts_v _ _ h]
  obtain ⟨f, ⟨a, b, c⟩, xs⟩ := p
  obtain ⟨f', ⟨a', b', c'⟩, ys⟩ := q
  simp only [Option.bind_some, Prod.mk.injEq]
  by_cases h1 : f = f' <;> by_cases h2 : a = a' <;> by_cases h3 : b = b' <;> by_cases h4 : c = c' <;> by_cases h5 : xs = ys <;> simp [h1, h2, h3, h4, h5]
theorem likeP_self {p : Pat} (h : p.2.2.length ≤ 1048576) : laws_likePatterns9 p p = some true := by
  rw [laws_likePatterns9_v p p (leM h), decide_eq_true rfl]
structure DiceOk (d : Src) : Prop where
  b : ∀ c ∈ d.1, 0 ≤ c ∧ c ≤ 255
  n : d.1.length ≤ 4096
  p : 0 ≤ d.2.1 ∧ d.2.1 ≤ (d.1.length : Int)
theorem roll_d {code : List Int} (hb : ∀ c ∈ code, 0 ≤ c ∧ c ≤ 255) (hn : code.length ≤ 4096) (seed : Int) : Ok1 (laws_roll code seed) DiceOk := by
  have key : ∀ (d k : Nat) (h : Int), k + d = code.length → Ok1 (laws_roll_l0 code (k : Int) code 0 h) DiceOk := by
    intro d
    induction d with
    | zero =>
      intro k h hk
      rw [laws_roll_l0_eq, decide_eq_false (by omega)]
      exact Ok1.some ⟨hb, hn, by simp, by simp⟩
    | succ d ih =>
      intro k h hk
      have hlt : k < code.length := by omega
      rw [laws_roll_l0_eq, decide_eq_true (by omega), rd_lt hlt]
      simp only [cond_true, Option.bind_some, Option.bind_fun_some]
      rw [wnext hlt (by omega)]
      exact ih (k + 1) _ (by omega)
  rw [laws_roll_eq]
  exact (key code.length 0 _ (by omega)).bind fun a ha => Ok1.some ha
theorem u64_small {z : Int} (h0 : 0 ≤ z) (h1 : z ≤ 16777215) : IntKind.u64.wrap z = z := by
  simp only [IntKind.wrap, IntKind.signed, IntKind.bits]
  simp
  omega
theorem below_d {d : Src} (h : DiceOk d) (n : Int) (h1 : 1 ≤ n) (h2 : n ≤ 1000000) : Ok1 (laws_dice_below d n) fun y => DiceOk y.2 ∧ 0 ≤ y.1 ∧ y.1 < n := by
  obtain ⟨hb, hn, p1, p2⟩ := h
  rw [laws_dice_below_eq]
  rw [show decide (33 < 0) = false from rfl, cond_false, decide_eq_false (show ¬ n = 0 by omega)]
  have hand : ∀ a : Int, 0 ≤ ((BitVec.ofInt IntKind.u64.bits a &&& BitVec.ofInt IntKind.u64.bits 16777215).toNat : Int) ∧ ((BitVec.ofInt IntKind.u64.bits a &&& BitVec.ofInt IntKind.u64.bits 16777215).toNat : Int) ≤ 16777215 := by
    intro a
    refine ⟨by omega, ?_⟩
    rw [BitVec.toNat_and]
    have := @Nat.and_le_right (BitVec.ofInt IntKind.u64.bits a).toNat (BitVec.ofInt IntKind.u64.bits 16777215).toNat
    have e : (BitVec.ofInt IntKind.u64.bits 16777215).toNat = 16777215 := by decide
    rw [e] at this ⊢
    omega
  generalize Int.fdiv (IntKind.u64.wrap ((IntKind.u64.wrap (d.2.2 * 6364136223846793005)) + 1442695040888963407)) (2 ^ (min (Int.toNat 33) IntKind.u64.bits)) = a
  obtain ⟨z1, z2⟩ := hand a
  generalize ((BitVec.ofInt IntKind.u64.bits a &&& BitVec.ofInt IntKind.u64.bits 16777215).toNat : Int) = z at z1 z2
  rw [u64_small z1 z2, w64 (x := z) (by omega) (by omega)]
  simp only [cond_false]
  refine Ok1.cond (fun hc => ?_) fun hc => ?_
  · have hc := of_decide_eq_true hc
    have hlt : d.2.1.toNat < d.1.length := by omega
    have hrd : rd d.1 d.2.1 = some d.1[d.2.1.toNat] := by
      have := rd_lt hlt
      rwa [Int.toNat_of_nonneg p1] at this
    have hcb := hb _ (List.getElem_mem hlt)
    rw [hrd]
    simp only [Option.bind_some]
    rw [w64 (x := d.1[d.2.1.toNat]) (by omega) (by omega), w64 (x := z + d.1[d.2.1.toNat]) (by omega) (by omega), w64 (x := d.2.1 + 1) (by omega) (by omega)]
    obtain ⟨t1, t2⟩ := tmod_pos (a := z + d.1[d.2.1.toNat]) (n := n) (by omega) (by omega)
    exact Ok1.some ⟨⟨hb, hn, by simp only; omega, by simp only; omega⟩, t1, t2⟩
  · obtain ⟨t1, t2⟩ := tmod_pos (a := z) (n := n) (by omega) (by omega)
    exact Ok1.some ⟨⟨hb, hn, p1, p2⟩, t1, t2⟩
/-! ### Two drawn patterns -/
end Go.Proofs.YtckjefjkedlmbaaGreatDoor

namespace Go.Proofs.YtckjefjkedlmbaaGreatDoor
open Ai
set_option linter.unusedSimpArgs false
set_option linter.unusedVariables false
end Go.Proofs.YtckjefjkedlmbaaGreatDoor

namespace Go.Proofs.YtckjefjkedlmbaaGreatDoor
open Ai
set_option linter.unusedSimpArgs false
set_option linter.unusedVariables false
theorem isVec_of {v : V} (h1 : -100 ≤ v.1 ∧ v.1 ≤ 100) (h2 : -100 ≤ v.2 ∧ v.2 ≤ 100) : isVec v = true := by
  unfold isVec
  rw [Bool.and_eq_true, within_iff, within_iff]; omega
theorem laws_hasMotion9_v (xs : List Mot) (m : Mot) (hn : xs.length ≤ 1048576) : laws_hasMotion9 xs m = some (decide (m ∈ xs)) := by
  have key := loop_find (L := fun k => laws_hasMotion9_l0 xs k m.1.1 m.1.2.1 m.1.2.2.1 m.1.2.2.2 m.2.1 m.2.2) xs (fun y => decide (y = m)) (.inl ()) (fun _ => .inr true) (fun k hk => by
    show laws_hasMotion9_l0 xs (k : Int) m.1.1 m.1.2.1 m.1.2.2.1 m.1.2.2.2 m.2.1 m.2.2 = _
    rw [laws_hasMotion9_l0_eq, decide_eq_true (by omega), rd_lt hk]
    simp only [cond_true, Option.bind_some, Option.bind_fun_some]
    rw [mot_beq, wnext hk (by omega)]
    cases decide (xs[k] = m) <;> rfl) (by
    show laws_hasMotion9_l0 xs (xs.length : Int) m.1.1 m.1.2.1 m.1.2.2.1 m.1.2.2.2 m.2.1 m.2.2 = _
    rw [laws_hasMotion9_l0_eq, decide_eq_false (by omega)]; rfl)
  have key' : laws_hasMotion9_l0 xs 0 m.1.1 m.1.2.1 m.1.2.2.1 m.1.2.2.2 m.2.1 m.2.2 = _ := key
  rw [laws_hasMotion9_eq, key']
  simp only [Option.bind_some]
  cases h : xs.find? (fun y => decide (y = m)) with
  | none =>
    rw [List.find?_eq_none] at h
    have : m ∉ xs := fun hm => h m hm (decide_eq_true rfl)
    rw [decide_eq_false this]
  | some y =>
    have h1 := List.find?_some (p := fun y => decide (y = m)) h
    have h2 := List.mem_of_find?_eq_some h
    simp only [decide_eq_true_eq] at h1
    rw [← h1, decide_eq_true h2]
theorem laws_likeMotions9_s (xs : List Mot) (hn : xs.length ≤ 1048576) : laws_likeMotions9 xs xs = some true := by
  have key := loop_all (L := fun k => laws_likeMotions9_l0 xs xs k) xs (fun _ => true) (.inl ()) (.inr false) (fun k hk => by
    show laws_likeMotions9_l0 xs xs (k : Int) = _
    rw [laws_likeMotions9_l0_eq, decide_eq_true (by omega), rd_lt hk]
    simp only [cond_true, Option.bind_some, decide_true, Bool.and_self, Bool.not_true, cond_false, Option.bind_fun_some, if_true]
    rw [wnext hk (by omega)]) (by
    show laws_likeMotions9_l0 xs xs (xs.length : Int) = _
    rw [laws_likeMotions9_l0_eq, decide_eq_false (by omega)]; rfl)
  have key' : laws_likeMotions9_l0 xs xs 0 = _ := key
  rw [laws_likeMotions9_eq, decide_eq_true rfl, key', List.all_eq_true.2 fun _ _ => rfl]
  rfl
end Go.Proofs.YtckjefjkedlmbaaGreatDoor

namespace Go.Proofs.YtckjefjkedlmbaaGreatDoor
open Ai
set_option linter.unusedSimpArgs false
set_option linter.unusedVariables false
set_option linter.unusedSectionVars false
def witF (q : Pat) (m : Mot) : Option V := (cells q.2.1).find? (fun v => !decide (patAt q (wap m v) = patAt q v))
def witR (q : Pat) (m : Mot) : V × Int := match witF q m with
  | none => ((0, 0), 4)
  | some v => (v, 0)
theorem wit_i (p : Pat) (m : Mot) (hp : isPat p = true) (hm : suitB (onLat p (fullOf p)).1 (onLat p (fullOf p)).2.1 m = true) : impl_WitnessAgainst p m = some (witR (onLat p (fullOf p)) m) := by
  have hq := isPat_lean hp
  have hff := (isPat_iff.1 hq).1
  have hl := (isPat_iff.1 hq).2.1
  have hlen := pat_len hp
  have e2 : impl_leanFor p m = some (onLat p (fullOf p), 0) := by
    rw [impl_leanFor_eq, impl_IsPattern_v p (leM (by omega)), hp]
    simp only [Option.bind_some, cond_true, impl_Pattern_lean_v p hp, impl_isSuitable_v (isFrame_iff.1 hff) hl, hm]
  have hs := suit_sm hq hm
  generalize onLat p (fullOf p) = q at *
  rw [impl_WitnessAgainst_eq, e2]
  have hn := (cells_len' hl).2
  simp only [Option.bind_some, decide_true, Bool.not_true, cond_true, cond_false, impl_Lattice_cells_v _ hl]
  have k2 := loop_find (L := fun k => impl_WitnessAgainst_l0 (cells q.2.1) ((cells q.2.1).length : Int) k m.1.1 m.1.2.1 m.1.2.2.1 m.1.2.2.2 m.2.1 m.2.2 0 0 q.1 q.2.1.1 q.2.1.2.1 q.2.1.2.2 q.2.2) (cells q.2.1) (fun v => !decide (patAt q (wap m v) = patAt q v)) (.inl (0, 0)) (fun v => .inr (0, v.1, v.2)) (fun k hk => by
      have hmem : (cells q.2.1)[k] ∈ cells q.2.1 := List.getElem_mem hk
      rw [impl_WitnessAgainst_l0_eq, inb hk, decide_eq_true (p := (k : Int) < ((cells q.2.1).length : Int)) (by omega), gd hk]
      simp only [cond_true, Option.bind_some, Option.bind_fun_some, impl_Motion_apply_v]
      have e1 : impl_Pattern_at (q.1, (q.2.1.1, q.2.1.2.1, q.2.1.2.2), q.2.2) (wap ((m.1.1, m.1.2.1, m.1.2.2.1, m.1.2.2.2), m.2.1, m.2.2) (cells q.2.1)[k]) = some (patAt q (wap m (cells q.2.1)[k])) := impl_Pattern_at_v q _ hq (hs _ hmem)
      have e3 := patAt_cell hq hk
      have hkc : k < q.2.2.length := by
        have h1 := (isPat_iff.1 hq).2.2.1
        have h2 := (cells_len' hl).1
        omega
      rw [rd_lt hkc, Option.some.injEq] at e3
      rw [e1, wnext hk (by omega), inb hkc, gd hkc, e3]
      simp only [Option.bind_some, cond_true]
      cases decide (patAt q (wap m (cells q.2.1)[k]) = patAt q (cells q.2.1)[k]) <;> rfl) (by
      rw [impl_WitnessAgainst_l0_eq, decide_eq_false (by omega)]; rfl)
  rw [k2]
  unfold witR witF
  cases (cells q.2.1).find? (fun v => !decide (patAt q (wap m v) = patAt q v)) with
  | none => rfl
  | some v => rfl
theorem wit_keeps (q : Pat) (m : Mot) : keepsB q m = (witF q m).isNone := by
  unfold keepsB witF
  rw [Bool.eq_iff_iff, List.all_eq_true, Option.isNone_iff_eq_none, List.find?_eq_none]
  constructor
  · intro h v hv; simp [of_decide_eq_true (h v hv)]
  · intro h v hv; have := h v hv; simpa using this
theorem suit_all {f : Int} (hf : f = 0 ∨ f = 1) {l : Lat} (hl : isLat l = true) {m : Mot} (hm : m ∈ allM f l) : suitB f l m = true := by
  obtain ⟨h1, h2⟩ := mem_allM.1 hm
  obtain ⟨h3, h4⟩ := stable_st h1
  unfold suitB
  rw [cells_vec hl h2, (mem_pmats hf _).1 h3, h4]
  rfl
theorem wit_group {p : Pat} (hp : isPat p = true) {m : Mot} (hm : m ∈ allM p.1 (fullOf p)) : ∃ v c, impl_WitnessAgainst p m = some (v, c) ∧ (c = 0 ∨ c = 4) ∧ (decide (m ∈ groupG (onLat p (fullOf p))) = decide (c = 4)) := by
  have hq := isPat_lean hp
  have hf := isFrame_iff.1 (isPat_iff.1 hp).1
  have hs := suit_all hf (isLat_fullOf hp) hm
  have hk := wit_keeps (onLat p (fullOf p)) m
  have hmem : m ∈ groupG (onLat p (fullOf p)) ↔ keepsB (onLat p (fullOf p)) m = true := by
    rw [groupG_filter, List.mem_filter]
    exact ⟨fun h => h.2, fun h => ⟨hm, h⟩⟩
  have hw := wit_i p m hp hs
  unfold witR at hw
  cases hv : witF (onLat p (fullOf p)) m with
  | none =>
    rw [hv] at hw hk
    exact ⟨_, _, hw, .inr rfl, by rw [decide_eq_true (hmem.2 hk)]; rfl⟩
  | some v =>
    rw [hv] at hw hk
    exact ⟨_, _, hw, .inl rfl, by rw [decide_eq_false fun h => by have := hmem.1 h; rw [hk] at this; cases this]; rfl⟩
section vals
variable {p : Pat} (hp : isPat p = true)
include hp
theorem val_group : impl_GroupOfPattern p = some (groupG (onLat p (fullOf p)), 0) ∧ spec_GroupOfPattern p = some (groupG (onLat p (fullOf p)), 0) := by
  have hlen := pat_len hp
  rw [impl_GroupOfPattern_eq, spec_GroupOfPattern_eq, impl_IsPattern_v p (leM (by omega)), spec_IsPattern_v p (leM (by omega)), hp]
  simp only [Option.bind_some, cond_true, impl_Pattern_lean_v p hp, impl_Pattern_groupOf_v _ (isPat_lean hp), spec_l09Lean_v p hp, spec_l10Group_v _ (isPat_lean hp)]
  exact ⟨trivial, trivial⟩
theorem val_canon : impl_CanonicalPattern p = some (canonOf p, 0) := by
  have hlen := pat_len hp
  rw [impl_CanonicalPattern_eq, impl_IsPattern_v p (leM (by omega)), hp]
  simp only [Option.bind_some, cond_true, (canon_both p hp).2.1]
theorem val_canonS : spec_CanonicalPattern p = some (canonOf p, 0) := by
  have hlen := pat_len hp
  have h := (canon_both p hp).1
  rw [spec_CanonicalPattern_eq, spec_IsPattern_v p (leM (by omega)), hp]
  simp only [Option.bind_some, cond_true]
  cases hx : spec_l18Images p with
  | none => rw [hx] at h; cases h
  | some xs =>
    rw [hx] at h
    simp only [Option.bind_some] at h ⊢
    rw [h]
    rfl
theorem val_full : impl_FullLattice p = some (fullOf p, 0) := by
  have hlen := pat_len hp
  rw [impl_FullLattice_eq, impl_IsPattern_v p (leM (by omega)), hp]
  simp only [Option.bind_some, cond_true, impl_Pattern_fullLattice_v p hp]
theorem val_all : impl_AllMotions p.1 (fullOf p) = some (allM p.1 (fullOf p), 0) := by
  have hff := (isPat_iff.1 hp).1
  have hl := isLat_fullOf hp
  rw [impl_AllMotions_eq, impl_frameCode_v, hff, hl]
  simp only [Option.bind_some, Bool.and_self, if_true, decide_true, Bool.not_true, cond_false, impl_allMotions_v (isFrame_iff.1 hff) hl]
theorem grp_len9 : (groupG (onLat p (fullOf p))).length ≤ 1048576 := by
  have ha := isPat_lean hp
  have hf := isFrame_iff.1 (isPat_iff.1 ha).1
  have hg := group_keep ha
  have := (gp_gd hf (isPat_iff.1 ha).2.1 hg).2
  omega
theorem val_isGroup : impl_IsGroup p.1 (fullOf p) (groupG (onLat p (fullOf p))) = some true := by
  have hff := (isPat_iff.1 hp).1
  have hl := isLat_fullOf hp
  have hg : isGroupB p.1 (fullOf p) (groupG (onLat p (fullOf p))) = true := group_keep (isPat_lean hp)
  rw [impl_IsGroup_eq, impl_frameCode_v, hff, hl]
  simp only [Bool.and_self, if_true, Option.bind_some, decide_true, cond_true, impl_isGroup_v (isFrame_iff.1 hff) hl _ (grp_len9 hp), hg]
theorem val_move (m : Mot) : impl_MovePattern p m = some (if (isPm p.1 m.1 && isVec m.2) = true then (moved p m.1 m.2, 0) else ((0, (0, 0, 0), []), 2)) := by
  have hlen := pat_len hp
  rw [impl_MovePattern_eq, impl_IsPattern_v p (leM (by omega)), impl_IsPointMat_v, impl_IsVec_v, hp]
  simp only [Option.bind_some]
  cases hm : isPm p.1 m.1
  · rfl
  · cases hv : isVec m.2
    · rfl
    · have hf := isFrame_iff.1 (isPat_iff.1 hp).1
      have hpm : Pm m.1 := pmB_pm hf (by unfold isPm at hm; rw [Bool.and_eq_true] at hm; exact hm.2)
      have hs := isVec_sv hv
      have e2 : impl_Pattern_move p m = some (moved p m.1 m.2) := impl_Pattern_move_v p m.2 hp hpm hs
      simp only [cond_true, e2, Option.bind_some]
      rfl
theorem pm_iff {m : Mat4} : isPm p.1 m = true ↔ m ∈ pmats p.1 := by
  have hf := isFrame_iff.1 (isPat_iff.1 hp).1
  unfold isPm
  rw [isFrame_iff.2 hf, Bool.true_and, mem_pmats hf]
theorem canon_mv {m : Mat4} (hm : m ∈ pmats p.1) (t : V) : canonOf (moved p m t) = canonOf p :=
  have hpm := pmats_pm (isFrame_iff.1 (isPat_iff.1 hp).1) hm
  (canon_moved hp (isPat_moved hp hpm t) rfl hm (lean_moved hp hm t).symm).symm
end vals
end Go.Proofs.YtckjefjkedlmbaaGreatDoor
