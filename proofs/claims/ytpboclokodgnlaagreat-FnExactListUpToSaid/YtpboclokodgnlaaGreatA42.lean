/-
  The first environment's calls, at concrete memory: for the law of impl.ListUpTo.
-/
import Derived.Test.YtpboclokodgnlaaGreatA40
import Derived.Test.YtpboclokodgnlaaGreatEP
import Derived.Test.YtpboclokodgnlaaGreatQP0
namespace Go.Proofs.YtpboclokodgnlaaGreat
namespace Ai
open Go.Shelf Go.RowKit Go.Lib
set_option linter.unusedSimpArgs false
set_option linter.unusedVariables false

/-! ### A setting in which nothing is owned -/

theorem orgLe_zero {m m' : Nat} (h : orgLe m m' = true) (h0 : m' = 0) : m = 0 := by
  subst h0
  unfold orgLe at h
  simpa using h

def baseM (w : World) : Base where
  w0 := w
  S := fun m b => m ≠ 0 ∨ w.heap.size ≤ b
  X := fun _ => False
  mono := fun m m' b h hs => by
    rcases hs with hs | hs
    · exact .inl fun e => hs (orgLe_zero h e)
    · exact .inr hs
  new := fun _ _ h => .inr h
  own := fun _ _ h => h.elim
  pin := fun _ => none
  pinned := fun _ _ h => by cases h
  dm := false

theorem bkM_no {id : Nat} {b : BS} (h : bk0 id = b) : b = .dead ∨ b = .fresh := by
  unfold bk0 at h
  cases hc : Nat.beq (id % 8) 5
  · rw [hc] at h; exact .inr h.symm
  · rw [hc] at h; exact .inl h.symm

theorem memM (w : World) : Mem (baseM w) (fun _ => none) bk0 w where
  br := fun id b h => by rcases bkM_no h with h | h <;> cases h
  ro := fun id org c xs h => by rcases bkM_no h with h | h <;> cases h
  inj := fun id id' b b' l l' h => by rcases bkM_no h with h | h <;> cases h
  fresh := fun _ _ => rfl
  pin := fun _ _ h => by cases h
  fr := ⟨rfl, Tq.refl _, rfl, Nat.le_refl _, fun _ _ _ => rfl⟩

/-- A datum in blocks from one bound up to another. -/
def Dat (n1 n2 : Nat) (w : World) (c : Cd) (x : El c) (cs : List Value) : Prop := DR w (fun b => n1 ≤ b ∧ b < n2) c x cs

theorem Dat.below {n1 n2 : Nat} {w w' : World} (h : Below n2 w w') {c : Cd} {x : El c} {cs : List Value} (hd : Dat n1 n2 w c x cs) : Dat n1 n2 w' c x cs :=
  hd.mono h.size fun b _ hb => ⟨hb, h.block b hb.2⟩

theorem Dat.mono {n1 n2 m1 m2 : Nat} (h1 : m1 ≤ n1) (h2 : n2 ≤ m2) {w : World} {c : Cd} {x : El c} {cs : List Value} (hd : Dat n1 n2 w c x cs) : Dat m1 m2 w c x cs :=
  DR.mono (Nat.le_refl _) (fun b _ hb => ⟨⟨by omega, by omega⟩, rfl⟩) hd

/-- As an argument. -/
theorem Dat.arg {n1 n2 : Nat} {w : World} (hn : n2 ≤ w.heap.size) {m : Nat} (hm : m ≠ 0) {c : Cd} {x : El c} {cs : List Value} (hd : Dat n1 n2 w c x cs) : DR w ((cxOf (baseM w) (fun _ => none) bk0 w).ok m) c x cs :=
  DR.mono (Nat.le_refl _) (fun b hb hk => ⟨⟨.inl hm, (fun ⟨_, _, _, _, e, _⟩ => by cases e), fun h => by rcases h with h | h; exact absurd h (Nat.not_le_of_lt hb); exact h.elim⟩, rfl⟩) hd

/-- As a result. -/
theorem dat_of_res {w w' : World} {sh : List ASh} {c : Cd} {x : El c} {cs : List Value} (h : DR w' ((cxE (baseM w) sh w').ok 0) c x cs) : Dat w.heap.size w'.heap.size w' c x cs :=
  DR.mono (Nat.le_refl _) (fun b hb hk => ⟨⟨by rcases hk.1 with h | h; exact absurd rfl h; exact h, hb⟩, rfl⟩) h

theorem frM {w w' : World} (h : Fr (baseM w) w') : Below w.heap.size w w' := ⟨h.os, h.tape.tape, h.output, h.size, fun k hk => h.old k hk fun h => h⟩

theorem pre_call {i : FI} {x : Tup (acodes i.as)} {y : Tup (rcodes i.rs i.as)} (h : run Pre.env (.fn i) x = some y) (hr : refIds 0 i.as = []) (hbk : (mkA 0 i.as x).bk = bk0) {W : World} {vs : Array Value} (hsz : vs.size = i.as.length)
    (hT : ∀ t, TR (cxOf (baseM W) (fun _ => none) bk0 W) ((mkA 0 i.as x).tm t) (vs.getD t undef)) :
    Calls Tryz.prog i.f vs W fun e w' => ∃ v, e = .returned v ∧ Below W.heap.size W w' ∧ ∃ Z, ResOk (baseM W) i.as w' Z i.rs y v := by
  obtain ⟨_, hc⟩ : MFn Pre.env i x y := run_sound Pre.env_ok h
  refine (hc (baseM W) (fun _ => none) vs ⟨HeldW.nil rfl W, fun _ _ h => h, fun h => by cases h⟩ hsz (by rw [hbk]; exact memM W) (by rw [hbk]; exact hT) (fun id hm => by rw [hr] at hm; cases hm)).mono ?_
  rintro e w' ⟨v, he, hf⟩
  obtain ⟨Z, h1, _⟩ := hf.res
  exact ⟨v, he, frM hf.fr, Z, h1⟩

abbrev cdLat : Cd := .pair (.i .i64) (.pair (.i .i64) (.i .i64))
abbrev cdMot : Cd := .pair (.pair (.i .i64) (.pair (.i .i64) (.pair (.i .i64) (.i .i64)))) (.pair (.i .i64) (.i .i64))
abbrev cdPt : Cd := .pair (.i .i64) (.pair cdLat (.list (.i .i64)))

def latV (l : Int × Int × Int) : Value := .agg #[.int .i64 l.1, .int .i64 l.2.1, .int .i64 l.2.2]

theorem res_int {W w' : World} {sh : List ASh} {Z : Nat → Prop} {y : Tup (rcodes [⟨.i .i64, false, 0⟩] sh)} {v : Value} (h : ResOk (baseM W) sh w' Z [⟨.i .i64, false, 0⟩] y v) : v = .int .i64 (thd (c := (.i .i64)) (r := rcodes [] sh) y) := by
  obtain ⟨us, hv, hus⟩ := h
  match us, hus with
  | [u], hus =>
    obtain ⟨⟨hu | hu, _⟩, _⟩ := hus
    · rw [hv]; exact List.singleton_inj.1 hu.2
    · exact absurd hu.1 (by decide)

theorem res_bool {W w' : World} {sh : List ASh} {Z : Nat → Prop} {y : Tup (rcodes [⟨.bool, false, 0⟩] sh)} {v : Value} (h : ResOk (baseM W) sh w' Z [⟨.bool, false, 0⟩] y v) : v = .bool (thd (c := .bool) (r := rcodes [] sh) y) := by
  obtain ⟨us, hv, hus⟩ := h
  match us, hus with
  | [u], hus =>
    obtain ⟨⟨hu | hu, _⟩, _⟩ := hus
    · rw [hv]; exact List.singleton_inj.1 hu.2
    · exact absurd hu.1 (by decide)

theorem index_calls (W : World) {l : Int × Int × Int} {y : Int} (h : Pre.impl_Lattice_index l = some y) : Calls Tryz.prog 24 #[latV l] W fun e w' => e = .returned (.int .i64 y) ∧ Below W.heap.size W w' := by
  refine (pre_call (i := Pre.fi_impl_Lattice_index) h rfl rfl rfl (fun t => ?_)).mono ?_
  · match t with
    | 0 => exact ⟨_, rfl, rfl, rfl, rfl, trivial⟩
    | t + 1 => trivial
  · rintro e w' ⟨v, rfl, hb, Z, hr⟩
    exact ⟨congrArg Ending.returned (res_int hr), hb⟩

set_option maxRecDepth 100000 in
/-- The index exactly: one block is laid. -/
theorem index_at (W : World) {l : Int × Int × Int} {y : Int} (h : Pre.impl_Lattice_index l = some y) : Calls Tryz.prog 24 #[latV l] W fun e w' => e = .returned (.int .i64 y) ∧ w' = W.alloc (.cells #[.int .i64 l.1, .int .i64 l.2.1, .int .i64 l.2.2] 29) := by
  unfold latV
  rw [Pre.impl_Lattice_index_eq] at h
  go_enter Tryz.func24, Tryz.ntmps24
  go_wp2
  go_ret
  have e : wrap64 (l.1 * l.2.2) = y := (IntWalk.i64_left _).symm.trans (Option.some.inj h)
  rw [← e]
  exact ⟨rfl, rfl⟩

theorem power_calls (W : World) {a b c y : Int} (h : Pre.impl_power a b c = some y) : Calls Tryz.prog 23 #[.int .i64 a, .int .i64 b, .int .i64 c] W fun e w' => e = .returned (.int .i64 y) ∧ Below W.heap.size W w' := by
  refine (pre_call (i := Pre.fi_impl_power) h rfl rfl rfl (fun t => ?_)).mono ?_
  · match t with
    | 0 => exact rfl
    | 1 => exact rfl
    | 2 => exact rfl
    | t + 3 => trivial
  · rintro e w' ⟨v, rfl, hb, Z, hr⟩
    exact ⟨congrArg Ending.returned (res_int hr), hb⟩

theorem code_calls (W : World) {f k m y : Int} {l : Int × Int × Int} {grp : List (El cdMot)} {gv : Value} {n1 n2 : Nat} (hn : n2 ≤ W.heap.size) (hg : Dat n1 n2 W (.list cdMot) grp [gv]) (h : Pre.impl_upToCode f l grp k m = some y) :
    Calls Tryz.prog 22 #[.int .i64 f, latV l, gv, .int .i64 k, .int .i64 m] W fun e w' => e = .returned (.int .i64 y) ∧ Below W.heap.size W w' := by
  refine (pre_call (i := Pre.fi_impl_upToCode) h rfl rfl rfl (fun t => ?_)).mono ?_
  · match t with
    | 0 => exact rfl
    | 1 => exact ⟨_, rfl, rfl, rfl, rfl, trivial⟩
    | 2 => exact hg.arg hn (by decide)
    | 3 => exact rfl
    | 4 => exact rfl
    | t + 5 => trivial
  · rintro e w' ⟨v, rfl, hb, Z, hr⟩
    exact ⟨congrArg Ending.returned (res_int hr), hb⟩

/-- A pattern's value, the colours' slice apart. -/
def patV (p : El cdPt) (sv : Value) : Value := .agg #[.int .i64 p.1, .int .i64 p.2.1.1, .int .i64 p.2.1.2.1, .int .i64 p.2.1.2.2, sv]

theorem first_calls (W : World) {p : El cdPt} {sv : Value} {grp : List (El cdMot)} {gv : Value} {n1 n2 m1 m2 : Nat} {y : Bool} (hn : n2 ≤ W.heap.size) (hm : m2 ≤ W.heap.size) (hp : Dat m1 m2 W (.list (.i .i64)) p.2.2 [sv]) (hg : Dat n1 n2 W (.list cdMot) grp [gv]) (h : Pre.impl_isFirst p grp = some y) :
    Calls Tryz.prog 26 #[patV p sv, gv] W fun e w' => e = .returned (.bool y) ∧ Below W.heap.size W w' := by
  refine (pre_call (i := Pre.fi_impl_isFirst) h rfl rfl rfl (fun t => ?_)).mono ?_
  · match t with
    | 0 => exact ⟨_, rfl, rfl, rfl, rfl, rfl, hp.arg hm (by decide), trivial⟩
    | 1 => exact hg.arg hn (by decide)
    | t + 2 => trivial
  · rintro e w' ⟨v, rfl, hb, Z, hr⟩
    exact ⟨congrArg Ending.returned (res_bool hr), hb⟩

end Ai
end Go.Proofs.YtpboclokodgnlaaGreat
