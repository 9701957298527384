/-
  The ideal interpreter: the least solution of its equations.
-/
import Derived.Test.YtpknhlnoaehffaaA4
namespace Go.Proofs.Ytpknhlnoaehffaa
namespace Ai
set_option linter.unusedSimpArgs false
set_option linter.unusedVariables false

def Le (run run' : Orc) : Prop := ∀ k x r, run k x = some r → run' k x = some r

section
variable (E : Env)

theorem nat_callWith (run : Orc) (B : Nat → BS) (d : Nat) (gf : FuncId) (args : List T) : ∀ l : List FI, Nat1 (fun _ k => callWith run B d gf args k l)
  | [] => nat_none
  | i :: r => by
    intro R k
    simp only [callWith]
    split
    · split
      · refine nat_bind (f := fun y R k => if freshAll B (impR (ownId d i.rs i.as) (orgA B i.as args) i.rs y).2 = true then
            k (resT (impR (ownId d i.rs i.as) (orgA B i.as args) i.rs y).1)
              (frzL B (keptA B (maskR i.rs) 0 i.as args) ++ (effA i.as args (orgA B i.as args) (outR i.rs y) ++ (impR (ownId d i.rs i.as) (orgA B i.as args) i.rs y).2))
          else none) (fun y => ?_) R k
        exact nat_ite (nat_hand _ _) nat_none
      · rfl
    · exact nat_callWith run B d gf args r R k

theorem nat_opK (run : Orc) (B : Nat → BS) (tm : Nat → T) (o : Oper) : Nat1 (fun _ k => opK E run B tm o k) := by
  intro R k
  simp only [opK]
  split
  · split
    · exact nat_callWith run B _ _ _ _ R k
    · rfl
  · exact nat_semK E B tm o R k

/-- What an operation finds. -/
def opD (run : Orc) (B : Nat → BS) (tm : Nat → T) (o : Oper) : Option (T × List (Nat × BS)) := opK E run B tm o fun t d => some (t, d)

theorem opK_eq {R : Type} (run : Orc) (B : Nat → BS) (tm : Nat → T) (o : Oper) (k : T → List (Nat × BS) → Option R) :
    opK E run B tm o k = (opD E run B tm o).bind fun p => k p.1 p.2 := nat_opK E run B tm o R k

theorem callWith_mono {run run' : Orc} (h : Le run run') {R : Type} {B : Nat → BS} {d : Nat} {gf : FuncId} {args : List T} {k : T → List (Nat × BS) → Option R} {r : R} :
    ∀ l : List FI, callWith run B d gf args k l = some r → callWith run' B d gf args k l = some r
  | [], hh => hh
  | i :: l, hh => by
    simp only [callWith] at hh ⊢
    split at hh
    · split at hh
      · rename_i hx hc
        rw [if_pos hc]
        obtain ⟨y, hy, hk⟩ := Option.bind_eq_some_iff.1 hh
        exact Option.bind_eq_some_iff.2 ⟨y, h _ _ _ hy, hk⟩
      · cases hh
    · exact callWith_mono h l hh

theorem opK_mono {run run' : Orc} (h : Le run run') {R : Type} {B : Nat → BS} {tm : Nat → T} {o : Oper} {k k' : T → List (Nat × BS) → Option R} {r : R}
    (hk : ∀ t d, k t d = some r → k' t d = some r) (hh : opK E run B tm o k = some r) : opK E run' B tm o k' = some r := by
  have h1 : opK E run' B tm o k = some r := by
    simp only [opK] at hh ⊢
    split at hh
    · split at hh
      · exact callWith_mono h _ hh
      · cases hh
    · exact hh
  rw [opK_eq] at h1 ⊢
  obtain ⟨p, hp, hq⟩ := Option.bind_eq_some_iff.1 h1
  exact Option.bind_eq_some_iff.2 ⟨p, hp, hk _ _ hq⟩

theorem putK_mono {R : Type} {st : St} {dst : Option Tmp} {t : T} {k k' : St → Option R} {r : R}
    (hk : ∀ st, k st = some r → k' st = some r) (hh : putK st dst t k = some r) : putK st dst t k' = some r := by
  unfold putK at *
  split at hh
  · rename_i b
    cases b
    · exact hk _ hh
    · exact hk _ hh
  · exact hk _ hh

theorem wantedK_mono {R : Type} {ops : Array Oper} {tm : Nat → T} {o : Oper} {ky kn ky' kn' : Option R} {r : R}
    (hy : ky = some r → ky' = some r) (hn : kn = some r → kn' = some r) (hh : wantedK ops tm o ky kn = some r) : wantedK ops tm o ky' kn' = some r := by
  unfold wantedK at *
  cases hg : o.guard with
  | none => simp only [hg] at hh ⊢; exact hy hh
  | some p =>
    obtain ⟨j, want⟩ := p
    simp only [hg] at hh ⊢
    split at hh
    · split at hh
      · rename_i b _
        cases b <;> cases want
        · exact hy hh
        · exact hn hh
        · exact hn hh
        · exact hy hh
      · exact hn hh
      · cases hh
    · cases hh

theorem opsK_mono {run run' : Orc} (h : Le run run') {R : Type} {ops : Array Oper} {r : R} {k k' : St → Option R} (hk : ∀ st, k st = some r → k' st = some r) :
    ∀ (l : List Oper) (st : St), opsK E run ops l st k = some r → opsK E run' ops l st k' = some r
  | [], st, hh => hk st hh
  | o :: l, st, hh => by
    simp only [opsK] at hh ⊢
    refine wantedK_mono (fun h1 => ?_) (fun h1 => opsK_mono h hk l _ h1) hh
    refine opK_mono E h (fun t d h2 => ?_) h1
    exact putK_mono (fun st' h3 => opsK_mono h hk l st' h3) h2

theorem opsD_mono {run run' : Orc} (h : Le run run') {R : Type} {ops : Array Oper} {b : List Nat} {r : R} {k k' : St → Option R} (hk : ∀ st, k st = some r → k' st = some r) :
    ∀ (l : List Oper) (n : Nat) (st : St), opsD E run ops b n l st k = some r → opsD E run' ops b n l st k' = some r
  | [], n, st, hh => hk st hh
  | o :: l, n, st, hh => by
    simp only [opsD] at hh ⊢
    refine wantedK_mono (fun h1 => ?_) (fun h1 => opsD_mono h hk l (n + 1) _ h1) hh
    refine opK_mono E h (fun t d h2 => ?_) h1
    split at h2
    · rename_i hc
      rw [if_pos hc]
      exact putK_mono (fun st' h3 => opsD_mono h hk l (n + 1) st' h3) h2
    · cases h2

theorem tryH_mono {run run' : Orc} (h : Le run run') {R : Type} {f n : Nat} {ex : Exs} {st : St} {k k' : ExT ex → Option R} {r : R} (hk : ∀ y, k y = some r → k' y = some r) :
    ∀ l : List (List It), tryH run f n ex st k l = some r → tryH run' f n ex st k' l = some r
  | [], hh => by cases hh
  | hd :: l, hh => by
    simp only [tryH] at hh ⊢
    split at hh
    · obtain ⟨y, hy, h2⟩ := Option.bind_eq_some_iff.1 hh
      exact Option.bind_eq_some_iff.2 ⟨y, h _ _ _ hy, hk _ h2⟩
    · exact tryH_mono h hk l hh

theorem unX_mono {R : Type} {k k' : Ex → St → Option R} {r : R} (hk : ∀ e st, k e st = some r → k' e st = some r) :
    ∀ (ex : Exs) (y : ExT ex), unX ex y k = some r → unX ex y k' = some r
  | [], _, hh => by cases hh
  | [(e, s)], x, hh => hk _ _ hh
  | (e, s) :: d :: l, .inl x, hh => hk _ _ hh
  | (e, s) :: d :: l, .inr x, hh => unX_mono hk (d :: l) x hh

theorem codeK_mono {run run' : Orc} (h : Le run run') {R : Type} {r : R} (f : Nat) : ∀ (c : Code) (n : Nat) (st : St) (k k' : Ex → St → Option R), (∀ e st, k e st = some r → k' e st = some r) →
    codeK E run f n c st k = some r → codeK E run' f n c st k' = some r := by
  intro c
  induction c with
  | skip => intro n st k k' hk hh; simp only [codeK] at hh ⊢; exact hk _ _ hh
  | region id ops draw =>
    intro n st k k' hk hh
    cases draw
    · simp only [codeK] at hh ⊢; exact opsK_mono E h (hk _) _ _ hh
    · simp only [codeK] at hh ⊢
      split at hh
      · rename_i hc
        rw [if_pos hc]
        exact opsD_mono E h (hk _) _ _ _ hh
      · cases hh
  | seq a b iha ihb =>
    intro n st k k' hk hh
    simp only [codeK] at hh ⊢
    refine iha n st _ _ (fun e st' h2 => ?_) hh
    cases e
    · exact ihb _ _ _ _ hk h2
    · exact hk _ _ h2
    · exact hk _ _ h2
  | cond c a b iha ihb =>
    intro n st k k' hk hh
    simp only [codeK] at hh ⊢
    split at hh
    · rename_i q _
      cases q
      · exact ihb _ _ _ _ hk hh
      · exact iha _ _ _ _ hk hh
    · cases hh
  | block id c ih =>
    intro n st k k' hk hh
    simp only [codeK] at hh ⊢
    refine ih n st _ _ (fun e st' h2 => ?_) hh
    cases e
    · exact hk _ _ h2
    · exact hk _ _ h2
    · simp only [] at h2 ⊢
      split at h2
      · rename_i hc; rw [if_pos hc]; exact hk _ _ h2
      · rename_i hc; rw [if_neg hc]; exact hk _ _ h2
  | loop c ih =>
    intro n st k k' hk hh
    simp only [codeK] at hh ⊢
    exact tryH_mono h (fun y h2 => unX_mono hk _ y h2) _ hh
  | exit id => intro n st k k' hk hh; simp only [codeK] at hh ⊢; exact hk _ _ hh
  | ret => intro n st k k' hk hh; simp only [codeK] at hh ⊢; exact hk _ _ hh
  | label l => intro n st k k' hk hh; simp only [codeK] at hh ⊢; exact hk _ _ hh
  | scope c ih => intro n st k k' hk hh; simp only [codeK] at hh; cases hh
  | goto l => intro n st k k' hk hh; simp only [codeK] at hh; cases hh
  | rangeFunc _ _ _ _ _ _ => intro n st k k' hk hh; simp only [codeK] at hh; cases hh
  | refuse w => intro n st k k' hk hh; simp only [codeK] at hh; cases hh

theorem stp_mono {run run' : Orc} (h : Le run run') : Le (stp E run) (stp E run') := by
  intro k x r hh
  cases k with
  | fn i =>
    simp only [stp] at hh ⊢
    split at hh
    · split at hh
      · exact codeK_mono E h _ _ _ _ _ _ (fun _ _ h => h) hh
      · cases hh
    · cases hh
  | lp f n ex hd =>
    simp only [stp] at hh ⊢
    split at hh
    · split at hh
      · refine codeK_mono E h _ _ _ _ _ _ (fun e st h2 => ?_) hh
        cases e
        · exact tryH_mono h (fun _ h => h) _ h2
        · exact h2
        · exact h2
      · cases hh
    · cases hh

/-- A call, or a loop, comes to this answer. -/
inductive Conv : (k : Key) → Dom k → Cod k → Prop where
  | mk (run : Orc) (h : ∀ k x r, run k x = some r → Conv k x r) {k : Key} {x : Dom k} {r : Cod k} (hr : stp E run k x = some r) : Conv k x r

theorem Conv.det {k : Key} {x : Dom k} {r : Cod k} (h : Conv E k x r) : ∀ r', Conv E k x r' → r = r' := by
  induction h with
  | mk run h hr ih =>
    rename_i k x r
    intro r' h'
    cases h' with
    | mk run' g hr' =>
      have e1 : Le run (fun k x => (run k x).or (run' k x)) := by
        intro k x r h1
        simp [h1]
      have e2 : Le run' (fun k x => (run k x).or (run' k x)) := by
        intro k x r h1
        simp only []
        cases h2 : run k x with
        | none => simpa using h1
        | some a => simp [ih k x a h2 r (g k x r h1)]
      have h1 := stp_mono E e1 _ _ _ hr
      have h2 := stp_mono E e2 _ _ _ hr'
      rw [h1] at h2
      exact Option.some.inj h2

open Classical in
/-- What a call, or a loop, comes to. -/
noncomputable def run : Orc := fun k x => if h : ∃ r, Conv E k x r then some h.choose else none

theorem run_conv {k : Key} {x : Dom k} {r : Cod k} : run E k x = some r ↔ Conv E k x r := by
  unfold run
  constructor
  · intro h
    split at h
    · rename_i hx
      have := hx.choose_spec
      rw [Option.some.inj h] at this
      exact this
    · cases h
  · intro h
    have hx : ∃ r, Conv E k x r := ⟨r, h⟩
    rw [dif_pos hx]
    rw [Conv.det E hx.choose_spec r h]

/-- The equation of a call, or a loop. -/
theorem run_eq (k : Key) (x : Dom k) : run E k x = stp E (run E) k x := by
  cases h : stp E (run E) k x with
  | some r => exact (run_conv E).2 (Conv.mk (run E) (fun k x r h => (run_conv E).1 h) h)
  | none =>
    cases h2 : run E k x with
    | none => rfl
    | some r =>
      have := (run_conv E).1 h2
      cases this with
      | mk run' g hr =>
        have := stp_mono E (fun k x r h => (run_conv E).2 (g k x r h)) _ _ _ hr
        rw [h] at this
        cases this

/-- What holds of one step, given that it holds within, holds of every answer. -/
theorem run_ind (M : (k : Key) → Dom k → Cod k → Prop) (h : ∀ run : Orc, (∀ k x r, run k x = some r → M k x r) → ∀ k x r, stp E run k x = some r → M k x r)
    {k : Key} {x : Dom k} {r : Cod k} (hr : run E k x = some r) : M k x r := by
  have := (run_conv E).1 hr
  clear hr
  induction this with
  | mk run' g hr ih => exact h run' ih _ _ _ hr

end
end Ai
end Go.Proofs.Ytpknhlnoaehffaa
