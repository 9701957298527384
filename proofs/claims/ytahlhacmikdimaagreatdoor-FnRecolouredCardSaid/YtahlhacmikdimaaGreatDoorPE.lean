/-
  Drawing a pattern: the group that some motions make, the orbits of the cells, the colours.
-/
import Derived.Test.YtahlhacmikdimaaGreatDoorPD
namespace Go.Proofs.YtahlhacmikdimaaGreatDoor
open Ai
set_option linter.unusedSimpArgs false
set_option linter.unusedVariables false
section closing
variable {f : Int} (hf : f = 0 ∨ f = 1) {l : Lat} (hl : isLat l = true) {list : List Mot} (hm : ∀ m ∈ list, m ∈ allM f l) (hln : list.length ≤ 100000)
structure Cl (f : Int) (l : Lat) (out queue : List Mot) : Prop where
  inc : IncM out
  nd : queue.Nodup
  eq : ∀ w, w ∈ queue ↔ w ∈ out
  sub : ∀ w ∈ out, w ∈ allM f l
include hl in
theorem Cl.len {out queue : List Mot} (c : Cl f l out queue) : queue.length ≤ 5184 ∧ out.length ≤ 5184 :=
  ⟨Nat.le_trans (nodup_le _ _ c.nd fun w hw => c.sub w ((c.eq w).1 hw)) (allM_len f hl), Nat.le_trans (nodup_le _ _ c.inc.nodup c.sub) (allM_len f hl)⟩
include hf hl hm hln in
theorem close_inner : ∀ (d i : Nat) (out queue : List Mot) (k : Nat), i + d = list.length → Cl f l out queue → k < queue.length →
    ∃ out' queue', spec_l06Close_l1 list out queue (k : Int) (i : Int) l.1 l.2.1 l.2.2 = some (list, out', queue', (k : Int), l.1, l.2.1, l.2.2) ∧ Cl f l out' queue' ∧ queue.length ≤ queue'.length
  | 0, i, out, queue, k, hi, c, hk => by
    refine ⟨out, queue, ?_, c, Nat.le_refl _⟩
    rw [spec_l06Close_l1_eq, decide_eq_false (by omega)]
    rfl
  | d + 1, i, out, queue, k, hi, c, hk => by
    have hlt : i < list.length := by omega
    obtain ⟨q1, q2⟩ := c.len hl
    have hma := hm _ (List.getElem_mem hlt)
    have hna := c.sub _ ((c.eq _).1 (List.getElem_mem hk))
    have hg : goodL f l (allM f l) = true := inc_goodL (allM_inc hf l) fun m h => h
    obtain ⟨z, e1, e2⟩ := Option.bind_eq_some_iff.1 (spec_prod hf hl hg hma hna)
    have hp := prod_allM hf hl hma hna
    have e1' : spec_l05Compose list[i] ((queue[k].1.1, queue[k].1.2.1, queue[k].1.2.2), queue[k].2) = some z := e1
    have e2' : spec_l06Reduce (l.1, l.2.1, l.2.2) z = some (prodM l list[i] queue[k]) := e2
    rw [spec_l06Close_l1_eq, decide_eq_true (by omega), rd_lt hlt, inb hk, gd hk]
    simp only [cond_true, Option.bind_some, e1', e2', spec_l06Has_v (show out.length ≤ 1000000 by omega) c.inc, Option.bind_fun_some]
    rw [wnext hlt (by omega)]
    by_cases hin : prodM l list[i] queue[k] ∈ out
    · rw [decide_eq_true hin]
      exact close_inner d (i + 1) out queue k (by omega) c hk
    · rw [decide_eq_false hin]
      obtain ⟨ys, e3, y1, y2, y3⟩ := insert_d (show out.length ≤ 1000000 by omega) c.inc hin
      rw [cond_false, e3]
      simp only [Option.bind_some]
      rw [decide_eq_true (show queue.length + List.length [prodM l list[i] queue[k]] ≤ LIM by unfold LIM; simp only [List.length_singleton]; omega)]
      have c' : Cl f l ys (queue ++ [prodM l list[i] queue[k]]) := by
        refine ⟨y1, ?_, fun w => ?_, fun w hw => ?_⟩
        · exact List.pairwise_append.2 ⟨c.nd, List.pairwise_singleton _ _, fun x hx y hy e => hin ((c.eq _).1 (by rw [← List.mem_singleton.1 hy, ← e]; exact hx))⟩
        · rw [y2, List.mem_append, List.mem_singleton, c.eq]
          exact or_comm
        · rcases (y2 w).1 hw with rfl | h
          · exact hp
          · exact c.sub w h
      obtain ⟨o, q, a1, a2, a3⟩ := close_inner d (i + 1) ys _ k (by omega) c' (by rw [List.length_append]; omega)
      exact ⟨o, q, a1, a2, by rw [List.length_append] at a3; omega⟩
include hf hl hm hln in
theorem close_outer : ∀ (d k : Nat) (out queue : List Mot), 5184 ≤ k + d → Cl f l out queue → 1 ≤ queue.length →
    ∃ r, spec_l06Close_l0 list out queue (k : Int) l.1 l.2.1 l.2.2 = some r ∧ IncM r ∧ (∀ w ∈ r, w ∈ allM f l) ∧ r ≠ []
  | d, k, out, queue, hd, c, h1 => by
    obtain ⟨q1, q2⟩ := c.len hl
    rw [spec_l06Close_l0_eq]
    by_cases hk : k < queue.length
    · obtain ⟨o, q, a1, a2, a3⟩ := close_inner hf hl hm hln list.length 0 out queue k (by omega) c hk
      rw [decide_eq_true (show (k : Int) < (queue.length : Int) by omega), show (0 : Int) = ((0 : Nat) : Int) from rfl, a1]
      simp only [cond_true, Option.bind_some, Option.bind_fun_some]
      rw [wnext hk (by omega)]
      match d with
      | 0 => omega
      | d + 1 => exact close_outer d (k + 1) o q (by omega) a2 (by omega)
    · rw [decide_eq_false (show ¬ (k : Int) < (queue.length : Int) by omega)]
      refine ⟨out, rfl, c.inc, c.sub, fun e => ?_⟩
      have := (c.eq _).1 (List.getElem_mem (show 0 < queue.length by omega))
      rw [e] at this; cases this
include hf hl hm hln in
theorem close_d : ∃ r, spec_l06Close l list = some r ∧ IncM r ∧ (∀ w ∈ r, w ∈ allM f l) ∧ r ≠ [] := by
  have c : Cl f l [unitM] [unitM] := ⟨List.pairwise_singleton _ _, List.pairwise_singleton _ _, fun w => Iff.rfl, fun w hw => by rw [List.mem_singleton.1 hw]; exact unit_allM hf hl⟩
  obtain ⟨r, h1, h2⟩ := close_outer hf hl hm hln 5184 0 [unitM] [unitM] (by omega) c (by simp)
  refine ⟨r, ?_, h2⟩
  rw [spec_l06Close_eq, unit_v]
  simp only [Option.bind_some]
  rw [show (0 : Int) = ((0 : Nat) : Int) from rfl, h1]
  rfl
/-! ### Orbits -/
include hf hl hm hln in
theorem orbit_loop {v : V} (hv : v ∈ cells l) : ∀ (d i : Nat) (out : List V), i + d = list.length → Inc out → (∀ u ∈ out, u ∈ cells l) → (1 ≤ d ∨ out ≠ []) →
    ∃ r, spec_l07Orbit_l0 list out (i : Int) l.1 l.2.1 l.2.2 v.1 v.2 = some r ∧ (∀ u ∈ r, u ∈ cells l) ∧ r ≠ [] ∧ r.length ≤ 64
  | 0, i, out, hi, h1, h2, h3 => by
    rw [spec_l07Orbit_l0_eq, decide_eq_false (by omega)]
    exact ⟨out, rfl, h2, by rcases h3 with h | h; omega; exact h, Nat.le_trans (nodup_le _ _ h1.nodup h2) (cells_len' hl).2⟩
  | d + 1, i, out, hi, h1, h2, h3 => by
    have hlt : i < list.length := by omega
    have hln : out.length ≤ 64 := Nat.le_trans (nodup_le _ _ h1.nodup h2) (cells_len' hl).2
    have hma := hm _ (List.getElem_mem hlt)
    have hsm := allM_suit hf hl hma v hv
    have e1 : spec_l07Move (l.1, l.2.1, l.2.2) list[i] (v.1, v.2) = some (red l (wap list[i] v)) := by
      rw [spec_l07Move_eq, show spec_l05Apply list[i] (v.1, v.2) = some (wap list[i] v) from spec_l05Apply_v _ v]
      simp only [Option.bind_some]
      rw [show spec_l03Reduce (l.1, l.2.1, l.2.2) (wap list[i] v) = some (red l (wap list[i] v)) from spec_l03Reduce_v l _ hl hsm]
      rfl
    rw [spec_l07Orbit_l0_eq, decide_eq_true (by omega), rd_lt hlt]
    simp only [cond_true, Option.bind_some, e1, spec_l01Insert_v out _ (show out.length ≤ 1000000 by omega), Option.bind_fun_some]
    rw [w64 (x := (i : Int) + 1) (by omega) (by omega)]
    exact orbit_loop hv d (i + 1) _ (by omega) (insV_inc h1) (fun u hu => by
      rcases mem_insV.1 hu with rfl | hu
      · exact red_mem hl _
      · exact h2 u hu) (.inr fun e => by
        have := (mem_insV (v := red l (wap list[i] v)) (w := red l (wap list[i] v)) (xs := out)).2 (.inl rfl)
        rw [e] at this; cases this)
include hf hl hm hln in
theorem orbit_d (hne : list ≠ []) {v : V} (hv : v ∈ cells l) : ∃ r, spec_l07Orbit (l.1, l.2.1, l.2.2) list v = some r ∧ (∀ u ∈ r, u ∈ cells l) ∧ r ≠ [] ∧ r.length ≤ 64 := by
  obtain ⟨r, h1, h2⟩ := orbit_loop hf hl hm hln hv list.length 0 [] (by omega) List.Pairwise.nil (fun u hu => by cases hu) (.inl (List.length_pos_iff.2 hne))
  refine ⟨r, ?_, h2⟩
  rw [spec_l07Orbit_eq]
  rw [show spec_l07Orbit_l0 list ([] : List (Int × Int)) 0 (l.1, l.2.1, l.2.2).1 (l.1, l.2.1, l.2.2).2.1 (l.1, l.2.1, l.2.2).2.2 v.1 v.2 = some r from h1]
  rfl
include hf hl hm hln in
theorem orbits_loop (hne : list ≠ []) : ∀ (d i : Nat) (out : List (List V)), i + d = (cells l).length → out.length ≤ i → (∀ o ∈ out, (∀ u ∈ o, u ∈ cells l) ∧ o.length ≤ 64) →
    ∃ r, spec_l07Orbits_l0 list (cells l) out (i : Int) l.1 l.2.1 l.2.2 = some r ∧ r.length ≤ (cells l).length ∧ ∀ o ∈ r, (∀ u ∈ o, u ∈ cells l) ∧ o.length ≤ 64
  | 0, i, out, hi, h1, h2 => by
    rw [spec_l07Orbits_l0_eq, decide_eq_false (by omega)]
    exact ⟨out, rfl, by omega, h2⟩
  | d + 1, i, out, hi, h1, h2 => by
    have hlt : i < (cells l).length := by omega
    have hn := (cells_len' hl).2
    obtain ⟨o, e1, o1, o2, o3⟩ := orbit_d hf hl hm hln hne (List.getElem_mem hlt)
    have hpos : 0 < o.length := List.length_pos_iff.2 o2
    rw [spec_l07Orbits_l0_eq, inb hlt, decide_eq_true (p := (i : Int) < ((cells l).length : Int)) (by omega), gd hlt, e1]
    simp only [cond_true, Option.bind_some, Option.bind_fun_some]
    rw [wnext hlt (by omega), show decide (0 ≤ 0) = true from rfl, decide_eq_true (show (0 : Int) < (o.length : Int) by omega)]
    simp only [Bool.and_self, cond_true]
    rw [decide_eq_true (show out.length + List.length [o] ≤ LIM by unfold LIM; simp only [List.length_singleton]; omega)]
    have a := orbits_loop hne d (i + 1) (out ++ [o]) (by omega) (by rw [List.length_append, List.length_singleton]; omega) (fun p hp => by
      rcases List.mem_append.1 hp with h | h
      · exact h2 p h
      · rw [List.mem_singleton.1 h]; exact ⟨o1, o3⟩)
    have b := orbits_loop hne d (i + 1) out (by omega) (by omega) h2
    rw [cond_true]
    generalize (decide ((List.getD o (Int.toNat 0) (dflt (.pair (.i .i64) (.i .i64)))).1 = (cells l)[i].1) && (decide ((List.getD o (Int.toNat 0) (dflt (.pair (.i .i64) (.i .i64)))).2 = (cells l)[i].2) && true)) = q
    cases q
    · exact b
    · exact a
theorem numbers_inner (hl : isLat l = true) {n : Nat} (hn : (n : Int) = l.1 * l.2.2) {orbits : List (List V)} {k : Nat} (hk : k < orbits.length) (ho : ∀ u ∈ orbits[k], u ∈ cells l) : ∀ (d i : Nat) (xs : List Int), i + d = orbits[k].length → xs.length = n → orbits[k].length ≤ 100000 →
    ∃ ys, spec_l07Numbers_l1 xs orbits (k : Int) (i : Int) l.1 l.2.1 l.2.2 = some (ys, orbits, (k : Int), l.1, l.2.1, l.2.2) ∧ ys.length = n ∧ ∀ e ∈ ys, e ∈ xs ∨ e = (k : Int)
  | 0, i, xs, hi, h1, hb => by
    rw [spec_l07Numbers_l1_eq, rd_lt hk]
    simp only [Option.bind_some]
    rw [decide_eq_false (by omega)]
    exact ⟨xs, rfl, h1, fun e he => .inl he⟩
  | d + 1, i, xs, hi, h1, hb => by
    have hlt : i < orbits[k].length := by omega
    have hu := ho _ (List.getElem_mem hlt)
    have hnum := (num_int hl orbits[k][i]).2
    have e1 : spec_l03Number (l.1, l.2.1, l.2.2) orbits[k][i] = some (num l orbits[k][i] : Int) := spec_l03Number_v l _ hl (cells_sm hl hu).1
    rw [spec_l07Numbers_l1_eq, rd_lt hk]
    simp only [Option.bind_some]
    rw [decide_eq_true (by omega), rd_lt hlt]
    simp only [Option.bind_some, cond_true, e1, Option.bind_fun_some]
    rw [decide_eq_true (show (0 : Int) ≤ ((num l orbits[k][i] : Nat) : Int) by omega), decide_eq_true (show ((num l orbits[k][i] : Nat) : Int) < (xs.length : Int) by omega), wnext hlt (by omega)]
    simp only [Bool.and_self, cond_true]
    obtain ⟨ys, a1, a2, a3⟩ := numbers_inner hl hn hk ho d (i + 1) (xs.set (Int.toNat ((num l orbits[k][i] : Nat) : Int)) (k : Int)) (by omega) (by rw [List.length_set]; exact h1) hb
    refine ⟨ys, a1, a2, fun e he => ?_⟩
    rcases a3 e he with h | h
    · rcases List.mem_or_eq_of_mem_set h with h | h
      · exact .inl h
      · exact .inr h
    · exact .inr h
theorem numbers_outer (hl : isLat l = true) {n : Nat} (hn : (n : Int) = l.1 * l.2.2) {orbits : List (List V)} (hon : orbits.length ≤ n) (ho : ∀ o ∈ orbits, ∀ u ∈ o, u ∈ cells l) (hb : ∀ o ∈ orbits, o.length ≤ 100000) : ∀ (d k : Nat) (xs : List Int), k + d = orbits.length → xs.length = n → (∀ e ∈ xs, 0 ≤ e ∧ e < (n : Int)) →
    ∃ ys, spec_l07Numbers_l0 xs orbits (k : Int) l.1 l.2.1 l.2.2 = some ys ∧ ys.length = n ∧ ∀ e ∈ ys, 0 ≤ e ∧ e < (n : Int)
  | 0, k, xs, hk, h1, h2 => by
    rw [spec_l07Numbers_l0_eq, decide_eq_false (by omega)]
    exact ⟨xs, rfl, h1, h2⟩
  | d + 1, k, xs, hk, h1, h2 => by
    have hlt : k < orbits.length := by omega
    have hmem := List.getElem_mem hlt
    obtain ⟨l1, l2, l3, l4⟩ := isLat_iff.1 hl
    obtain ⟨ys, a1, a2, a3⟩ := numbers_inner hl hn hlt (ho _ hmem) orbits[k].length 0 xs (by omega) h1 (hb _ hmem)
    rw [spec_l07Numbers_l0_eq, decide_eq_true (by omega), show (0 : Int) = ((0 : Nat) : Int) from rfl, a1]
    simp only [cond_true, Option.bind_some, Option.bind_fun_some]
    rw [wnext hlt (by omega)]
    exact numbers_outer hl hn hon ho hb d (k + 1) ys (by omega) a2 fun e he => by
      rcases a3 e he with h | rfl
      · exact h2 e h
      · omega
theorem mul64 {l : Lat} (hl : isLat l = true) : IntKind.i64.wrap (l.1 * l.2.2) = l.1 * l.2.2 ∧ 1 ≤ l.1 * l.2.2 ∧ l.1 * l.2.2 ≤ 64 := by
  obtain ⟨l1, l2, l3, l4⟩ := isLat_iff.1 hl
  have : 1 * 1 ≤ l.1 * l.2.2 := Int.mul_le_mul (by omega) (by omega) (by omega) (by omega)
  exact ⟨w64 (by omega) (by omega), by omega, l4⟩
include hf hl hm hln in
theorem numbers_d (hne : list ≠ []) : ∃ ys, spec_l07Numbers l list = some ys ∧ (ys.length : Int) = l.1 * l.2.2 ∧ ∀ e ∈ ys, 0 ≤ e ∧ e < (ys.length : Int) := by
  obtain ⟨w, m1, m2⟩ := mul64 hl
  have hc := (cells_len' hl).1
  obtain ⟨r, e1, r1, r2⟩ := orbits_loop hf hl hm hln hne (cells l).length 0 [] (by omega) (by simp) (fun o h => by cases h)
  have e2 : spec_l07Orbits l list = some r := by
    rw [spec_l07Orbits_eq, spec_l03Cells_v l hl]
    simp only [Option.bind_some]
    rw [show spec_l07Orbits_l0 list (cells l) ([] : List (List (Int × Int))) 0 l.1 l.2.1 l.2.2 = some r from e1]
    rfl
  obtain ⟨ys, e3, y1, y2⟩ := numbers_outer (n := (l.1 * l.2.2).toNat) hl (by omega) (orbits := r) (by omega) (fun o ho => (r2 o ho).1) (fun o ho => Nat.le_trans (r2 o ho).2 (by omega)) r.length 0 (List.replicate (l.1 * l.2.2).toNat 0) (by omega) (by rw [List.length_replicate]) (fun e he => by rw [List.eq_of_mem_replicate he]; omega)
  rw [spec_l07Numbers_eq, w, decide_eq_true (show 0 ≤ l.1 * l.2.2 by omega), decide_eq_true (Int.le_refl (l.1 * l.2.2)), decide_eq_true (show l.1 * l.2.2 ≤ (LIM : Int) by unfold LIM; omega), e2]
  simp only [Bool.and_self, cond_true, Option.bind_some]
  rw [show spec_l07Numbers_l0 (List.replicate (l.1 * l.2.2).toNat (0 : Int)) r 0 l.1 l.2.1 l.2.2 = some ys from e3]
  exact ⟨ys, rfl, by omega, fun e he => by have := y2 e he; omega⟩
end closing
/-! ### Colours -/
theorem Sk3 {s t : Src} (h : Sk s t) : Sk s (t.1, t.2.1, t.2.2) := h
theorem motions_loop {f : Int} (hf : f = 0 ∨ f = 1) {l : Lat} (hl : isLat l = true) (z9 z10 z11 z12 z13 z14 z15 z16 : Int) (z17 : List Int) : ∀ (d : Nat) (list : List Mot) (n : Int) (s : Src), n ≤ (d : Int) → n ≤ 1000 → SrcOk s → list.length + d ≤ 1000 → (∀ m ∈ list, m ∈ allM f l) →
    Ok1 (spec_l09DrawOn_l0 f list n s.1 s.2.1 s.2.2 l.1 l.2.1 l.2.2 z9 z10 z11 z12 z13 z14 z15 z16 z17) fun r => (∀ m ∈ r.1, m ∈ allM f l) ∧ r.1.length ≤ list.length + d ∧ Sk s (r.2.1, r.2.2.1, r.2.2.2.1) ∧ r.2.2.2.2 = (l.1, l.2.1, l.2.2, z9, z10, z11, z12, z13, z14, z15, z16, z17)
  | 0, list, n, s, hn, hn2, hs, hl0, hm => by
    rw [spec_l09DrawOn_l0_eq, decide_eq_false (show ¬ 0 < n by omega)]
    exact Ok1.some ⟨hm, by show list.length ≤ list.length + 0; omega, Sk.refl hs, rfl⟩
  | d + 1, list, n, s, hn, hn2, hs, hl0, hm => by
    rw [spec_l09DrawOn_l0_eq]
    refine Ok1.cond (fun hc => ?_) fun _ => Ok1.some ⟨hm, by show list.length ≤ list.length + (d + 1); omega, Sk.refl hs, rfl⟩
    have hc := of_decide_eq_true hc
    have h1 : Ok1 (spec_l06DrawMotion (s.1, s.2.1, s.2.2) f (l.1, l.2.1, l.2.2)) fun y => Sk s y.2 ∧ ((isFrame f && isLat l) = true → y.1.1 ∈ stableL f l ∧ Sv y.1.2) := motion_d hs f l
    refine h1.bind fun y ⟨hy, hy2⟩ => ?_
    obtain ⟨y3, y4⟩ := hy2 (by rw [isFrame_iff.2 hf, hl]; rfl)
    obtain ⟨r, e1, e2⟩ := reduce_d hl y3 y4
    rw [show spec_l06Reduce (l.1, l.2.1, l.2.2) y.1 = some r from e1]
    simp only [Option.bind_some, Option.bind_fun_some]
    refine Ok1.chk (decide_eq_true (by unfold LIM; simp only [List.length_singleton]; omega)) ?_
    rw [w64 (x := n - 1) (by omega) (by omega)]
    · refine (motions_loop hf hl z9 z10 z11 z12 z13 z14 z15 z16 z17 d (list ++ [r]) (n - 1) y.2 (by omega) (by omega) hy.1 (by rw [List.length_append, List.length_singleton]; omega) fun m hm' => ?_).mono fun x ⟨x1, x2, x3, x4⟩ => ⟨x1, by rw [List.length_append, List.length_singleton] at x2; omega, hy.trans x3, x4⟩
      rcases List.mem_append.1 hm' with h | h
      · exact hm m h
      · rw [List.mem_singleton.1 h]; exact e2
theorem colours_loop {nums : List Int} (hn : nums.length ≤ 64) (most : Int) (hm : most ≤ 1099511627776) (z7 z8 z9 z10 z11 z12 z13 z14 : Int) (z15 : List Int) : ∀ (d i : Nat) (cs : List Int) (s : Src), i + d = nums.length → cs.length = i → SrcOk s →
    Ok1 (spec_l09DrawOn_l1 nums cs most (i : Int) s.1 s.2.1 s.2.2 z7 z8 z9 z10 z11 z12 z13 z14 z15) fun r => r.1 = nums ∧ r.2.1.length = nums.length ∧ Sk s (r.2.2.1, r.2.2.2.1, r.2.2.2.2.1) ∧ r.2.2.2.2.2 = (z7, z8, z9, z10, z11, z12, z13, z14, z15)
  | 0, i, cs, s, hi, hc, hs => by
    rw [spec_l09DrawOn_l1_eq, decide_eq_false (by omega)]
    exact Ok1.some ⟨rfl, by simp only; omega, Sk.refl hs, rfl⟩
  | d + 1, i, cs, s, hi, hc, hs => by
    rw [spec_l09DrawOn_l1_eq, decide_eq_true (by omega)]
    simp only [cond_true]
    have h1 : Ok1 (spec_l01Next (s.1, s.2.1, s.2.2) most) fun y => Sk s y.2 ∧ 0 ≤ y.1 ∧ (1 ≤ most → y.1 < most) := next_d hs most hm
    refine h1.bind fun y ⟨hy, _⟩ => Ok1.chk (decide_eq_true (by unfold LIM; simp only [List.length_singleton]; omega)) ?_
    simp only [Option.bind_fun_some]
    rw [wnext (show i < nums.length by omega) (by omega)]
    exact (colours_loop hn most hm z7 z8 z9 z10 z11 z12 z13 z14 z15 d (i + 1) (cs ++ [y.1]) y.2 (by omega) (by rw [List.length_append, List.length_singleton]; omega) hy.1).mono fun x ⟨x1, x2, x3, x4⟩ => ⟨x1, x2, hy.trans x3, x4⟩
theorem cells_loop {nums cs : List Int} (hn : nums.length ≤ 64) (he : ∀ e ∈ nums, 0 ≤ e ∧ e < (cs.length : Int)) (z3 : List Int) (z4 z5 z6 z7 z8 z9 z10 z11 z12 z13 : Int) : ∀ (d i : Nat) (out : List Int), i + d = nums.length → out.length = i →
    ∃ out', spec_l09DrawOn_l2 nums cs (i : Int) z3 z4 z5 z6 z7 z8 z9 z10 z11 z12 z13 out = some (z3, z4, z5, z6, z7, z8, z9, z10, z11, z12, z13, out') ∧ out'.length = nums.length
  | 0, i, out, hi, ho => by
    rw [spec_l09DrawOn_l2_eq, decide_eq_false (by omega)]
    exact ⟨out, rfl, by omega⟩
  | d + 1, i, out, hi, ho => by
    have hlt : i < nums.length := by omega
    have h2 := he _ (List.getElem_mem hlt)
    rw [spec_l09DrawOn_l2_eq, inb hlt, decide_eq_true (p := (i : Int) < (nums.length : Int)) (by omega), gd hlt, decide_eq_true h2.1, decide_eq_true h2.2]
    simp only [cond_true, Bool.and_self, Option.bind_fun_some]
    rw [wnext hlt (by omega), decide_eq_true (by unfold LIM; simp only [List.length_singleton]; omega)]
    exact cells_loop hn he z3 z4 z5 z6 z7 z8 z9 z10 z11 z12 z13 d (i + 1) _ (by omega) (by rw [List.length_append, List.length_singleton]; omega)
theorem drawOn_d {s : Src} (h : SrcOk s) (f : Int) (l : Lat) : Ok1 (spec_l09DrawOn s f l) fun y => Sk s y.2 ∧ y.1.2.2.length ≤ 64 := by
  rw [spec_l09DrawOn_eq, spec_l04Code_v]
  simp only [Option.bind_some]
  cases hfl : (isFrame f && isLat l) with
  | false => exact Ok1.some ⟨Sk.refl h, by simp⟩
  | true =>
    rw [Bool.and_eq_true] at hfl
    have hf := isFrame_iff.1 hfl.1
    have hl := hfl.2
    obtain ⟨w, m1, m2⟩ := mul64 hl
    simp only [if_true, decide_true, Bool.not_true, cond_false, unit_v, Option.bind_some]
    have most : ∀ x : Int, 0 ≤ x ∧ (1 ≤ (3 : Int) → x < 3) → IntKind.i64.wrap (2 + x) ≤ 1099511627776 := by
      intro x hx
      have := hx.2 (by omega)
      rw [w64 (by omega) (by omega)]; omega
    refine (next_d h 4 (by omega)).bind fun a ⟨ha, a1⟩ => Ok1.cond (fun _ => ?_) fun _ => ?_
    · refine (next_d ha.1 2 (by omega)).bind fun b ⟨hb, b1, b2⟩ => ?_
      have hn : IntKind.i64.wrap (1 + b.1) ≤ 2 := by
        have := b2 (by omega)
        rw [w64 (by omega) (by omega)]; omega
      refine (motions_loop hf hl 0 0 0 0 f l.1 l.2.1 l.2.2 [] 2 [] _ b.2 hn (by omega) hb.1 (by simp) (fun m hm => by cases hm)).bind fun r ⟨r1, r2, r3, r4⟩ => ?_
      obtain ⟨g, g1, g2, g3, g4⟩ := close_d hf hl r1 (by simp at r2; omega)
      have hgl : g.length ≤ 100000 := Nat.le_trans (nodup_le _ _ g2.nodup g3) (Nat.le_trans (allM_len f hl) (by omega))
      obtain ⟨ys, y1, y2, y3⟩ := numbers_d hf hl g3 hgl g4
      rw [r4]
      simp only
      rw [show spec_l06Close (l.1, l.2.1, l.2.2) r.1 = some g from g1]
      simp only [Option.bind_some]
      rw [show spec_l07Numbers (l.1, l.2.1, l.2.2) g = some ys from y1]
      simp only [Option.bind_some]
      refine (next_d (s := (r.2.1, r.2.2.1, r.2.2.2.1)) r3.1 3 (by omega)).bind fun c ⟨hc, c1⟩ => ?_
      refine (colours_loop (nums := ys) (by omega) _ (most c.1 c1) 0 0 0 0 f l.1 l.2.1 l.2.2 [] ys.length 0 [] c.2 (by omega) rfl hc.1).bind fun q ⟨q1, q2, q3, q4⟩ => ?_
      rw [q1, q4]
      simp only
      obtain ⟨o, o1, o2⟩ := cells_loop (nums := ys) (cs := q.2.1) (by omega) (fun e he => by rw [q2]; exact y3 e he) q.2.2.1 q.2.2.2.1 q.2.2.2.2.1 0 0 0 0 f l.1 l.2.1 l.2.2 ys.length 0 [] (by omega) rfl
      rw [show spec_l09DrawOn_l2 ys q.2.1 0 q.2.2.1 q.2.2.2.1 q.2.2.2.2.1 0 0 0 0 f l.1 l.2.1 l.2.2 [] = _ from o1]
      exact Ok1.some ⟨ha.trans (hb.trans (r3.trans (hc.trans q3))), by show o.length ≤ 64; omega⟩
    · obtain ⟨ys, y1, y2, y3⟩ := numbers_d hf hl (list := [unitM]) (fun m hm => by rw [List.mem_singleton.1 hm]; exact unit_allM hf hl) (by simp) (by simp)
      rw [y1]
      simp only [Option.bind_some]
      refine (next_d ha.1 3 (by omega)).bind fun c ⟨hc, c1⟩ => ?_
      refine (colours_loop (nums := ys) (by omega) _ (most c.1 c1) 0 0 0 0 f l.1 l.2.1 l.2.2 [] ys.length 0 [] c.2 (by omega) rfl hc.1).bind fun q ⟨q1, q2, q3, q4⟩ => ?_
      rw [q1, q4]
      simp only
      obtain ⟨o, o1, o2⟩ := cells_loop (nums := ys) (cs := q.2.1) (by omega) (fun e he => by rw [q2]; exact y3 e he) q.2.2.1 q.2.2.2.1 q.2.2.2.2.1 0 0 0 0 f l.1 l.2.1 l.2.2 ys.length 0 [] (by omega) rfl
      rw [show spec_l09DrawOn_l2 ys q.2.1 0 q.2.2.1 q.2.2.2.1 q.2.2.2.2.1 0 0 0 0 f l.1 l.2.1 l.2.2 [] = _ from o1]
      exact Ok1.some ⟨ha.trans (hc.trans q3), by show o.length ≤ 64; omega⟩
theorem pattern_d {s : Src} (h : SrcOk s) : Ok1 (spec_l09Draw s) fun y => Sk s y.2 ∧ y.1.2.2.length ≤ 65 := by
  rw [spec_l09Draw_eq]
  refine (lattice_d h).bind fun a ha => (drawOn_d ha.1 _ _).bind fun b ⟨hb, b1⟩ => (next_d hb.1 60 (by omega)).bind fun c ⟨hc, _⟩ => Ok1.cond (fun _ => ?_) fun _ => Ok1.cond (fun _ => Ok1.cond (fun h0 => ?_) fun _ => ?_) fun _ => ?_
  · exact Ok1.chk (decide_eq_true (by unfold LIM; simp only [List.length_singleton]; omega)) (Ok1.some ⟨ha.trans (hb.trans hc), by simp only [List.length_append, List.length_singleton]; omega⟩)
  · refine (pick_d hc.1 _ (by decide) (by decide)).bind fun d ⟨hd, _⟩ => Ok1.chk ?_ (Ok1.some ⟨ha.trans (hb.trans (hc.trans hd)), by simp only [List.length_set]; omega⟩)
    rw [h0]; rfl
  · exact Ok1.some ⟨ha.trans (hb.trans hc), by show b.1.2.2.length ≤ 65; omega⟩
  · exact Ok1.some ⟨ha.trans (hb.trans hc), by show b.1.2.2.length ≤ 65; omega⟩
end Go.Proofs.YtahlhacmikdimaaGreatDoor
