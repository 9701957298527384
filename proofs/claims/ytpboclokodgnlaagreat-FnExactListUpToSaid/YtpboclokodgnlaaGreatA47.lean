/-
  What the law of impl.ListUpTo calls besides: contracts at concrete memory; laws.markMotionS by a walk.
-/
import Derived.Test.YtpboclokodgnlaaGreatA46
import Derived.Test.YtpboclokodgnlaaGreatQP1
namespace Go.Proofs.YtpboclokodgnlaaGreat
namespace Ai
open Go.Shelf Go.RowKit Go.Lib
set_option linter.unusedSimpArgs false
set_option linter.unusedVariables false

attribute [local go_sem] Oper.semAt_some

theorem sz_calls (W : World) {grp : List (El cdMot)} {gv : Value} {n1 n2 : Nat} {n y : Int} (hn : n2 ≤ W.heap.size) (hg : Dat n1 n2 W (.list cdMot) grp [gv]) (h : Pre.laws_szMotionS grp n = some y) :
    Calls Tryz.prog 4 #[gv, .int .i64 n] W fun e w' => e = .returned (.int .i64 y) ∧ Below W.heap.size W w' := by
  refine (pre_call (i := Pre.fi_laws_szMotionS) h rfl rfl rfl (fun t => ?_)).mono ?_
  · match t with
    | 0 => exact hg.arg hn (by decide)
    | 1 => exact rfl
    | t + 2 => trivial
  · rintro e w' ⟨v, rfl, hb, Z, hr⟩
    exact ⟨congrArg Ending.returned (res_int hr), hb⟩

theorem lat_calls (W : World) (l : Int × Int × Int) : Calls Tryz.prog 6 #[latV l] W fun e w' => e = .returned (latV l) ∧ Below W.heap.size W w' := by
  refine (pre_call (i := Pre.fi_laws_toLattice) (Pre.laws_toLattice_eq l) rfl rfl rfl (fun t => ?_)).mono ?_
  · match t with
    | 0 => exact ⟨_, rfl, rfl, rfl, rfl, trivial⟩
    | t + 1 => trivial
  · rintro e w' ⟨v, rfl, hb, Z, hr⟩
    refine ⟨congrArg Ending.returned ?_, hb⟩
    obtain ⟨us, hv, hus⟩ := hr
    match us, hus with
    | [u], hus =>
      obtain ⟨⟨hu | hu, _⟩, _⟩ := hus
      · exact absurd hu.1 (by decide)
      · obtain ⟨_, arr, hu, hd⟩ := hu
        obtain ⟨c1, c2, e1, h1, c3, c4, e2, h3, h4⟩ := hd
        have h1 : c1 = [.int .i64 l.1] := h1
        have h3 : c3 = [.int .i64 l.2.1] := h3
        have h4 : c4 = [.int .i64 l.2.2] := h4
        subst h1 h3 h4 e2
        rw [hv]
        show u = _
        rw [hu]
        unfold latV
        congr 1
        exact Array.toList_inj.1 (by rw [e1]; rfl)

/-- A row of motions in a block of its own. -/
def RowM (base : Nat) (w : World) (v : Value) (n : Nat) : Prop := ∃ a cap, v = .slice a n cap ∧ (0 < n → ∃ b o arr t, a = some ⟨b, o, none⟩ ∧ base ≤ b ∧ w.heap[b]? = some (.cells arr t (0, 0)) ∧ o + n * 6 ≤ arr.size)

theorem mot_calls (W : World) {grp y : List (El cdMot)} {gv : Value} {n1 n2 : Nat} (hn : n2 ≤ W.heap.size) (hg : Dat n1 n2 W (.list cdMot) grp [gv]) (h : Pre.laws_toMotionS grp = some y) :
    Calls Tryz.prog 7 #[gv] W fun e w' => ∃ v, e = .returned v ∧ Dat W.heap.size w'.heap.size w' (.list cdMot) y [v] ∧ RowM W.heap.size w' v y.length ∧ Below W.heap.size W w' := by
  refine (pre_call (i := Pre.fi_laws_toMotionS) h rfl rfl rfl (fun t => ?_)).mono ?_
  · match t with
    | 0 => exact hg.arg hn (by decide)
    | t + 1 => trivial
  · rintro e w' ⟨v, rfl, hb, Z, hr⟩
    obtain ⟨us, hv, hus⟩ := hr
    match us, hus with
    | [u], hus =>
      obtain ⟨⟨hu | hu, _⟩, _⟩ := hus
      · have hd : DR w' ((cxE (baseM W) [.d (.list cdMot) false] w').ok 0) (.list cdMot) y [u] := hu.2
        have hv : v = u := hv
        subst hv
        refine ⟨v, rfl, dat_of_res hd, ?_, hb⟩
        rcases hd with ⟨he, hy⟩ | ⟨b, o, cap, he, hc, hok, hcap, hel⟩
        · have hy : y = [] := hy
          subst hy
          exact ⟨none, 0, List.singleton_inj.1 he, fun h => absurd h (Nat.lt_irrefl 0)⟩
        · refine ⟨_, cap, List.singleton_inj.1 he, fun hn0 => ?_⟩
          obtain ⟨⟨hs, _, hp⟩, hlt⟩ := hok (by omega)
          have hs : W.heap.size ≤ b := by
            rcases hs with h | h
            · exact absurd rfl h
            · exact h
          have hcz : cap * csize cdMot = cap * 6 := rfl
          have hc1 := hcap (y.length * 6 - 1) (by rw [hcz]; omega)
          rcases hp (.inl hs) with ⟨arr, t, ha⟩ | ⟨es, clock, ha⟩
          · have ha : w'.heap[b]? = some (.cells arr t (0, 0)) := ha
            refine ⟨b, o, arr, t, rfl, hs, ha, ?_⟩
            unfold World.cell? at hc1
            simp only [ha] at hc1
            have hc1 : (arr[o + (y.length * 6 - 1)]?).isSome = true := hc1
            by_cases hlt2 : o + (y.length * 6 - 1) < arr.size
            · omega
            · rw [Array.getElem?_eq_none (by omega)] at hc1
              cases hc1
          · have ha : w'.heap[b]? = some (.map es clock) := ha
            unfold World.cell? at hc1
            simp only [ha] at hc1
            cases hc1
      · exact absurd hu.1 (by decide)

theorem spec_calls (W : World) {f k c : Int} {l : Int × Int × Int} {grp : List (El cdMot)} {ws : List (El cdPt)} {gv : Value} {n1 n2 : Nat} (hn : n2 ≤ W.heap.size) (hg : Dat n1 n2 W (.list cdMot) grp [gv]) (h : Pre.spec_ListUpTo f l grp k = some (ws, c)) :
    Calls Tryz.prog 5 #[.int .i64 f, latV l, gv, .int .i64 k] W fun e w' => ∃ v, e = .returned (.tuple #[v, .int .i64 c]) ∧ Dat W.heap.size w'.heap.size w' (.list cdPt) ws [v] ∧ Below W.heap.size W w' := by
  refine (pre_call (i := Pre.fi_spec_ListUpTo) h rfl rfl rfl (fun t => ?_)).mono ?_
  · match t with
    | 0 => exact rfl
    | 1 => exact ⟨_, rfl, rfl, rfl, rfl, trivial⟩
    | 2 => exact hg.arg hn (by decide)
    | 3 => exact rfl
    | t + 4 => trivial
  · rintro e w' ⟨v, rfl, hb, Z, hr⟩
    obtain ⟨us, hv, hus⟩ := hr
    match us, hus with
    | [u1, u2], hus =>
      obtain ⟨⟨hu1 | hu1, _⟩, ⟨hu2 | hu2, _⟩, _⟩ := hus
      · refine ⟨u1, ?_, dat_of_res hu1.2, hb⟩
        have e2 : u2 = .int .i64 c := List.singleton_inj.1 hu2.2
        rw [hv, e2]
        rfl
      · exact absurd hu2.1 (by decide)
      · exact absurd hu1.1 (by decide)
      · exact absurd hu1.1 (by decide)
    | [_], hus => exact hus.2.elim
    | [], hus => exact hus.elim
    | _ :: _ :: _ :: _, hus => exact absurd hus.2.2 (by intro h; cases h)

theorem eqp_calls (W : World) {xs ys : List (El cdPt)} {v u : Value} {n1 n2 m1 m2 : Nat} {y : Bool} (hn : n2 ≤ W.heap.size) (hm : m2 ≤ W.heap.size) (hx : Dat n1 n2 W (.list cdPt) xs [v]) (hy : Dat m1 m2 W (.list cdPt) ys [u]) (h : Pre.laws_eqPatternS xs ys = some y) :
    Calls Tryz.prog 9 #[v, u] W fun e w' => e = .returned (.bool y) ∧ Below W.heap.size W w' := by
  refine (pre_call (i := Pre.fi_laws_eqPatternS) h rfl rfl rfl (fun t => ?_)).mono ?_
  · match t with
    | 0 => exact hx.arg hn (by decide)
    | 1 => exact hy.arg hm (by decide)
    | t + 2 => trivial
  · rintro e w' ⟨v, rfl, hb, Z, hr⟩
    exact ⟨congrArg Ending.returned (res_bool hr), hb⟩

theorem eqm_calls (W : World) {xs ys : List (El cdMot)} {v u : Value} {n1 n2 m1 m2 : Nat} {y : Bool} (hn : n2 ≤ W.heap.size) (hm : m2 ≤ W.heap.size) (hx : Dat n1 n2 W (.list cdMot) xs [v]) (hy : Dat m1 m2 W (.list cdMot) ys [u]) (h : Pre.laws_eqMotionS xs ys = some y) :
    Calls Tryz.prog 10 #[v, u] W fun e w' => e = .returned (.bool y) ∧ Below W.heap.size W w' := by
  refine (pre_call (i := Pre.fi_laws_eqMotionS) h rfl rfl rfl (fun t => ?_)).mono ?_
  · match t with
    | 0 => exact hx.arg hn (by decide)
    | 1 => exact hy.arg hm (by decide)
    | t + 2 => trivial
  · rintro e w' ⟨v, rfl, hb, Z, hr⟩
    exact ⟨congrArg Ending.returned (res_bool hr), hb⟩

/-- What one can read of patterns in memory. -/
theorem Pats.dat {base : Nat} {w : World} {v : Value} {ps : List (PtV × Nat)} (h : Pats base w v ps) : Dat base w.heap.size w (.list cdPt) (ps.map (·.1)) [v] := by
  rcases h.own.2 with ⟨hv, hn⟩ | ⟨g, cap, cur, hv, hb, hg, hnc, _, hcs, htk⟩
  · left
    have : ps = [] := List.eq_nil_of_length_eq_zero hn
    subst this
    exact ⟨by rw [hv], rfl⟩
  · right
    have hlt := (Array.getElem?_eq_some_iff.1 hg).1
    have hl : (ps.map (·.1)).length = ps.length := List.length_map ..
    refine ⟨g, 0, cap, by rw [hl, hv], by rw [hl]; exact hnc, fun _ => ⟨⟨hb, hlt⟩, hlt⟩, fun j hj => ?_, fun i x hx => ?_⟩
    · have hj : j < cap * 5 := hj
      unfold World.cell?
      simp only [hg]
      rw [Array.getElem?_eq_getElem (by omega)]
      rfl
    · rw [List.getElem?_map] at hx
      obtain ⟨y, hy, rfl⟩ : ∃ y, ps[i]? = some y ∧ y.1 = x := by
        cases e : ps[i]? with
        | none => rw [e] at hx; cases hx
        | some y => rw [e] at hx; exact ⟨y, rfl, Option.some.inj hx⟩
      obtain ⟨hilt, hyi⟩ := List.getElem?_eq_some_iff.1 hy
      have hsp : ps = ps.take i ++ y :: ps.drop (i + 1) := by rw [← hyi, ← List.drop_eq_getElem_cons hilt, List.take_append_drop]
      obtain ⟨hi1, hi2⟩ := h.inner y (by rw [← hyi]; exact List.getElem_mem ..)
      obtain ⟨⟨p1, ⟨p2, p3, p4⟩, cs⟩, b⟩ := y
      have hdat := dat_holds hi2 rfl hi1
      refine ⟨rowP ((p1, (p2, p3, p4), cs), b), ⟨[.int .i64 p1], [.int .i64 p2, .int .i64 p3, .int .i64 p4, .slice (some ⟨b, 0, none⟩) cs.length cs.length], rfl, rfl, ⟨[.int .i64 p2, .int .i64 p3, .int .i64 p4], _, rfl, ⟨[.int .i64 p2], _, rfl, rfl, ⟨[.int .i64 p3], _, rfl, rfl, rfl⟩⟩, hdat⟩⟩, fun j u hu => ?_⟩
      have hj : j < 5 := (List.getElem?_eq_some_iff.1 hu).1
      have hA : ((ps.take i).flatMap rowP).length = i * 5 := by rw [flat_len, List.length_take]; congr 1; omega
      have hfl : (ps.flatMap rowP)[i * 5 + j]? = some u := by
        rw [hsp, List.flatMap_append, List.flatMap_cons, List.getElem?_append_right (by omega), List.getElem?_append_left (by rw [show (rowP ((p1, (p2, p3, p4), cs), b)).length = 5 from rfl]; omega), hA, show i * 5 + j - i * 5 = j by omega]
        exact hu
      rw [← htk, List.getElem?_take] at hfl
      split at hfl
      · unfold World.cell?
        simp only [hg]
        have hfl : cur[i * 5 + j]? = some u := by simpa using hfl
        show cur[0 + i * 5 + j]? = some u
        rw [Nat.zero_add]
        exact hfl
      · cases hfl

end Ai
end Go.Proofs.YtpboclokodgnlaaGreat
