/-
  The ideal interpreter against the machine: regions in the text's order.
-/
import Derived.Test.YtpknhlnoaehffaaA15
import Derived.Tactics
namespace Go.Proofs.Ytpknhlnoaehffaa
namespace Ai
set_option linter.unusedSimpArgs false
set_option linter.unusedVariables false

/-- Every temporary that is written is there. -/
def dstOk (n : Nat) : Code → Bool
  | .seq a b => dstOk n a && dstOk n b
  | .cond _ a b => dstOk n a && dstOk n b
  | .block _ c => dstOk n c
  | .loop c => dstOk n c
  | .region _ ops _ => ops.toList.all fun o => match o.dst with
    | some d => Nat.blt d n
    | none => true
  | _ => true

section
variable {E : Env} {A : Base} {g : Nat → Option Loc} {B Bx : Nat → BS} {tm : Nat → T} {a : Act} {w : World} {o : Oper} {t : T} {d : List (Nat × BS)} {run : Orc} {n : Nat}

/-- What an operation of the machine does, whatever is asked of what follows. -/
def PostW (P : Program) (A : Base) (g : Nat → Option Loc) (B : Nat → BS) (a : Act) (w : World) (o : Oper) (t : T) (d : List (Nat × BS)) : Prop :=
  ∀ (K : Act → World → Prop) (Q : Exit → Act → World → Prop),
    (∀ g' w' v, Mem A g' (applyB B d) w' → Later (cxOf A g B w) (cxOf A g' (applyB B d) w') → TR (cxOf A g' (applyB B d) w') t v → K (a.put o.dst v) w') → o.wp P a w K Q

theorem Post.toW {P : Program} (h : Post P A g B a w o t d) : PostW P A g B a w o t d := by
  intro K Q hK
  obtain ⟨g', w', hM, hL, h | h⟩ := h
  · obtain ⟨v, hr, ht⟩ := h
    unfold Oper.wp
    rw [hr, Oper.upon_value]
    exact hK g' w' v hM hL ht
  · obtain ⟨hr, rfl⟩ := h
    unfold Oper.wp
    rw [hr, Oper.upon_skip]
    exact hK g' w' undef hM hL rfl

/-- Every operation does what the ideal interpreter finds. -/
def OpOk (E : Env) (run : Orc) : Prop :=
  ∀ (A : Base) (g : Nat → Option Loc) (B Bx : Nat → BS) (a : Act) (w : World) (o : Oper) (tm : Nat → T) (t : T) (d : List (Nat × BS)),
    Mem A g B w → Sub Bx B → (∀ n, TR (cxOf A g B w) (tm n) (a.tmps.getD n undef)) → opK E run Bx tm o pk = some (t, d) → PostW E.P A g B a w o t d

/-! ### Guards -/

def gd (ops : Array Oper) (tm : Nat → T) (o : Oper) : Option Bool :=
  match o.guard with
  | none => some true
  | some (j, want) => match (ops[j]?).bind (·.dst) with
    | some d => match tm d with
      | .v (.one (.bool b)) => some (b == want)
      | .v (.one .skip) => some false
      | _ => none
    | none => none

theorem wantedK_inv {R : Type} {ops : Array Oper} {ky kn : Option R} {r : R} (h : wantedK ops tm o ky kn = some r) : (gd ops tm o = some true ∧ ky = some r) ∨ (gd ops tm o = some false ∧ kn = some r) := by
  unfold wantedK at h
  unfold gd
  cases hg : o.guard with
  | none => simp only [hg] at h; exact .inl ⟨rfl, h⟩
  | some p =>
    obtain ⟨j, want⟩ := p
    simp only [hg] at h ⊢
    split at h
    · rename_i d hd
      simp only [hd]
      split at h
      · rename_i b hb
        simp only [hb]
        cases b <;> cases want
        · exact .inl ⟨by simp, h⟩
        · exact .inr ⟨by simp, h⟩
        · exact .inr ⟨by simp, h⟩
        · exact .inl ⟨by simp, h⟩
      · rename_i hb
        simp only [hb]
        exact .inr ⟨by simp, h⟩
      · cases h
    · cases h

theorem gd_wanted {C : Cx} {ops : Array Oper} (hT : ∀ n, TR C (tm n) (a.tmps.getD n undef)) {b : Bool} (h : gd ops tm o = some b) : Region.wanted o (yielded ops a.tmps) = b := by
  unfold gd at h
  unfold Region.wanted
  cases hg : o.guard with
  | none => simp only [hg] at h ⊢; cases h; rfl
  | some p =>
    obtain ⟨j, want⟩ := p
    simp only [hg] at h ⊢
    split at h
    · rename_i d hd
      have ht := hT d
      unfold yielded
      simp only [hd, Option.bind_some]
      split at h
      · rename_i q hq
        rw [hq] at ht
        have hv := tr_bool ht
        cases h
        have : a.tmps[d]? = some (.bool q) := by
          simp only [Array.getD_eq_getD_getElem?] at hv
          cases e : a.tmps[d]? with
          | none => rw [e] at hv; simp [undef] at hv
          | some u => rw [e] at hv; simp at hv; rw [hv]
        rw [this]
        cases q <;> cases want <;> rfl
      · rename_i hq
        rw [hq] at ht
        have hv : a.tmps.getD d undef = undef := ht
        cases h
        simp only [Array.getD_eq_getD_getElem?] at hv
        cases e : a.tmps[d]? with
        | none => rfl
        | some u => rw [e] at hv; simp at hv; rw [hv]; rfl
      · cases h
    · cases h

theorem putK_eq {R : Type} {st : St} {dst : Option Tmp} {t : T} {k : St → Option R} : putK st dst t k = k (st.put dst t) := by
  unfold putK
  split
  · rename_i d b
    cases b <;> rfl
  · rfl

/-! ### States behind an operation -/

theorem tmps_put {d : Nat} {v : Value} (h : d < a.tmps.size) (t : Nat) : (a.put (some d) v).tmps.getD t undef = if t = d then v else a.tmps.getD t undef := by
  simp only [Act.put, Array.getD_eq_getD_getElem?]
  by_cases e : t = d
  · subst e
    simp [h]
  · rw [if_neg e, Array.getElem?_setIfInBounds_ne (by omega)]

theorem Inv.put {st : St} (hI : Inv A n g st a w) {g' : Nat → Option Loc} {B' : Nat → BS} {w' : World} (hM : Mem A g' B' w') (hL : Later (cxOf A g st.bk w) (cxOf A g' B' w')) {dst : Option Tmp} (hd : ∀ d, dst = some d → d < n)
    {v : Value} (ht : TR (cxOf A g' B' w') t v) : Inv A n g' ({ st with bk := B' }.put dst t) (a.put dst v) w' := by
  cases dst with
  | none => exact ⟨fun m => hL.tr (hI.tm m), hM, hI.df, hI.sz⟩
  | some d =>
    have hlt : d < a.tmps.size := Nat.lt_of_lt_of_le (hd d rfl) hI.sz
    refine ⟨fun m => ?_, hM, hI.df, by simp only [Act.put, Array.size_setIfInBounds]; exact hI.sz⟩
    rw [tmps_put hlt]
    show TR _ (upd st.tm d t m) _
    by_cases e : m = d
    · subst e; rw [upd_same, if_pos rfl]; exact ht
    · rw [upd_ne _ _ e, if_neg e]; exact hL.tr (hI.tm m)

/-! ### Regions in the text's order -/

theorem opD_pk (h : opK E run B tm o pk = some (t, d)) : opD E run B tm o = some (t, d) := h

theorem opsK_wp {R : Type} (hop : OpOk E run) {ops : Array Oper} {r : R} {k : St → Option R} {Q : Exit → Act → World → Prop} : ∀ (l : List Oper) (g : Nat → Option Loc) (st : St) (a : Act) (w : World),
    (∀ o ∈ l, ∀ d, o.dst = some d → d < n) → Inv A n g st a w → opsK E run ops l st k = some r → (∀ g' st' a' w', Inv A n g' st' a' w' → k st' = some r → Q .normal a' w') → wpList E.P ops Q l a w
  | [], g, st, a, w, _, hI, h, hQ => hQ g st a w hI h
  | o :: l, g, st, a, w, hd, hI, h, hQ => by
    simp only [opsK] at h
    unfold wpList
    rcases wantedK_inv h with ⟨hg, h⟩ | ⟨hg, h⟩
    · rw [gd_wanted hI.tm hg, if_pos rfl]
      rw [opK_eq] at h
      obtain ⟨⟨t, d⟩, hp, h⟩ := Option.bind_eq_some_iff.1 h
      simp only [putK_eq] at h
      refine .inl (hop A g st.bk st.bk a w o st.tm t d hI.mem (Sub.refl _) hI.tm hp _ _ fun g' w' v hM hL ht => ?_)
      exact opsK_wp hop l g' _ _ w' (fun o' ho => hd o' (List.mem_cons_of_mem _ ho)) (hI.put hM hL (hd o (List.mem_cons_self ..)) ht) h hQ
    · rw [gd_wanted hI.tm hg, if_neg (by simp)]
      refine opsK_wp hop l g _ _ w (fun o' ho => hd o' (List.mem_cons_of_mem _ ho)) ?_ h hQ
      exact hI.put (B' := st.bk) hI.mem (Later.refl _) (hd o (List.mem_cons_self ..)) (v := undef) rfl

end
end Ai
end Go.Proofs.Ytpknhlnoaehffaa
