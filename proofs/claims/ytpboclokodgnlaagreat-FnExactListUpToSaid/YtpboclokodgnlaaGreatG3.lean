/-
  The ideal interpreter against the machine: regions in the text's order.
-/
import Derived.Test.YtpboclokodgnlaaGreatG2
import Derived.Tactics
import Derived.RangeFuncLeaves
import Derived.RangeFuncOwn
/-! A16: The ideal interpreter against the machine: regions in the text's order. -/
namespace Go.Proofs.YtpboclokodgnlaaGreat
namespace Ai
set_option linter.unusedSimpArgs false
set_option linter.unusedVariables false

/-- Every temporary that is written is there. -/
def dstOk (n : Nat) : Code → Bool
  | .seq a b => dstOk n a && dstOk n b
  | .cond _ a b => dstOk n a && dstOk n b
  | .block _ c => dstOk n c
  | .loop c => dstOk n c
  | .region _ ops _ => ops.toList.all fun o => match o.dst with
    | some d => Nat.blt d n
    | none => true
  | _ => true

section
variable {E : Env} {A : Base} {g : Nat → Option Loc} {B Bx : Nat → BS} {tm : Nat → T} {a : Act} {w : World} {o : Oper} {t : T} {d : List (Nat × BS)} {run : Orc} {n : Nat}

/-- What an operation of the machine does, whatever is asked of what follows. -/
def PostW (P : Program) (A : Base) (g : Nat → Option Loc) (B : Nat → BS) (a : Act) (w : World) (o : Oper) (t : T) (d : List (Nat × BS)) : Prop :=
  ∀ (K : Act → World → Prop) (Q : Exit → Act → World → Prop),
    (∀ g' w' v, Mem A g' (applyB B d) w' → Later (cxOf A g B w) (cxOf A g' (applyB B d) w') → TR (cxOf A g' (applyB B d) w') t v → K (a.put o.dst v) w') → o.wp P a w K Q

theorem Post.toW {P : Program} (h : Post P A g B a w o t d) : PostW P A g B a w o t d := by
  intro K Q hK
  obtain ⟨g', w', hM, hL, h | h⟩ := h
  · obtain ⟨v, hr, ht⟩ := h
    unfold Oper.wp
    rw [hr, Oper.upon_value]
    exact hK g' w' v hM hL ht
  · obtain ⟨hr, rfl⟩ := h
    unfold Oper.wp
    rw [hr, Oper.upon_skip]
    exact hK g' w' undef hM hL rfl

/-- Blocks that hold such cells, and that nobody writes. -/
def HeldW (E : Env) (w : World) : Prop := ∀ p ∈ E.tabs, ∃ cs t q, w.heap[p.1]? = some (.cells cs t q) ∧ p.2 cs

def Held (E : Env) (A : Base) : Prop := HeldW E A.w0 ∧ (∀ p ∈ E.tabs, ¬ A.X p.1) ∧ (E.loose = true → A.dm = false)

theorem HeldW.nil {E : Env} (h : E.tabs = []) (w : World) : HeldW E w := fun p hp => by rw [h] at hp; cases hp

theorem Held.later {E : Env} {A : Base} (h : Held E A) {w : World} (hf : Fr A w) : HeldW E w := fun p hp => by
  obtain ⟨cs, t, q, hw, hc⟩ := h.1 p hp
  refine ⟨cs, t, q, ?_, hc⟩
  rw [hf.old _ (Array.getElem?_eq_some_iff.1 hw).1 (h.2.1 p hp)]
  exact hw

/-- Every operation does what the ideal interpreter finds. -/
def OpOk (E : Env) (run : Orc) : Prop :=
  ∀ (A : Base) (g : Nat → Option Loc) (B Bx : Nat → BS) (a : Act) (w : World) (o : Oper) (tm : Nat → T) (t : T) (d : List (Nat × BS)),
    Held E A → Mem A g B w → Sub Bx B → (∀ n, TR (cxOf A g B w) (tm n) (a.tmps.getD n undef)) → opK E run Bx tm o pk = some (t, d) → PostW E.P A g B a w o t d

/-! ### Guards -/

def gd (ops : Array Oper) (tm : Nat → T) (o : Oper) : Option Bool :=
  match o.guard with
  | none => some true
  | some (j, want) => match (ops[j]?).bind (·.dst) with
    | some d => match tm d with
      | .v (.one (.bool b)) => some (b == want)
      | .v (.one .skip) => some false
      | _ => none
    | none => none

theorem wantedK_inv {R : Type} {ops : Array Oper} {ky kn : Option R} {r : R} (h : wantedK ops tm o ky kn = some r) : (gd ops tm o = some true ∧ ky = some r) ∨ (gd ops tm o = some false ∧ kn = some r) := by
  unfold wantedK at h
  unfold gd
  cases hg : o.guard with
  | none => simp only [hg] at h; exact .inl ⟨rfl, h⟩
  | some p =>
    obtain ⟨j, want⟩ := p
    simp only [hg] at h ⊢
    split at h
    · rename_i d hd
      simp only [hd]
      split at h
      · rename_i b hb
        simp only [hb]
        cases b <;> cases want
        · exact .inl ⟨by simp, h⟩
        · exact .inr ⟨by simp, h⟩
        · exact .inr ⟨by simp, h⟩
        · exact .inl ⟨by simp, h⟩
      · rename_i hb
        simp only [hb]
        exact .inr ⟨by simp, h⟩
      · cases h
    · cases h

theorem gd_wanted {C : Cx} {ops : Array Oper} (hT : ∀ n, TR C (tm n) (a.tmps.getD n undef)) {b : Bool} (h : gd ops tm o = some b) : Region.wanted o (yielded ops a.tmps) = b := by
  unfold gd at h
  unfold Region.wanted
  cases hg : o.guard with
  | none => simp only [hg] at h ⊢; cases h; rfl
  | some p =>
    obtain ⟨j, want⟩ := p
    simp only [hg] at h ⊢
    split at h
    · rename_i d hd
      have ht := hT d
      unfold yielded
      simp only [hd, Option.bind_some]
      split at h
      · rename_i q hq
        rw [hq] at ht
        have hv := tr_bool ht
        cases h
        have : a.tmps[d]? = some (.bool q) := by
          simp only [Array.getD_eq_getD_getElem?] at hv
          cases e : a.tmps[d]? with
          | none => rw [e] at hv; simp [undef] at hv
          | some u => rw [e] at hv; simp at hv; rw [hv]
        rw [this]
        cases q <;> cases want <;> rfl
      · rename_i hq
        rw [hq] at ht
        have hv : a.tmps.getD d undef = undef := ht
        cases h
        simp only [Array.getD_eq_getD_getElem?] at hv
        cases e : a.tmps[d]? with
        | none => rfl
        | some u => rw [e] at hv; simp at hv; rw [hv]; rfl
      · cases h
    · cases h

theorem putK_eq {R : Type} {st : St} {dst : Option Tmp} {t : T} {k : St → Option R} : putK st dst t k = k (st.put dst t) := by
  unfold putK
  split
  · rename_i d b
    cases b <;> rfl
  · rfl

/-! ### States behind an operation -/

theorem tmps_put {d : Nat} {v : Value} (h : d < a.tmps.size) (t : Nat) : (a.put (some d) v).tmps.getD t undef = if t = d then v else a.tmps.getD t undef := by
  simp only [Act.put, Array.getD_eq_getD_getElem?]
  by_cases e : t = d
  · subst e
    simp [h]
  · rw [if_neg e, Array.getElem?_setIfInBounds_ne (by omega)]

theorem Inv.put {st : St} (hI : Inv A n g st a w) {g' : Nat → Option Loc} {B' : Nat → BS} {w' : World} (hM : Mem A g' B' w') (hL : Later (cxOf A g st.bk w) (cxOf A g' B' w')) {dst : Option Tmp} (hd : ∀ d, dst = some d → d < n)
    {v : Value} (ht : TR (cxOf A g' B' w') t v) : Inv A n g' ({ st with bk := B' }.put dst t) (a.put dst v) w' := by
  cases dst with
  | none => exact ⟨fun m => hL.tr (hI.tm m), hM, hI.df.later hL, hI.szE⟩
  | some d =>
    have hlt : d < a.tmps.size := Nat.lt_of_lt_of_le (hd d rfl) hI.sz
    refine ⟨fun m => ?_, hM, hI.df.later hL, by simp only [Act.put, Array.size_setIfInBounds]; exact hI.szE⟩
    rw [tmps_put hlt]
    show TR _ (upd st.tm d t m) _
    by_cases e : m = d
    · subst e; rw [upd_same, if_pos rfl]; exact ht
    · rw [upd_ne _ _ e, if_neg e]; exact hL.tr (hI.tm m)

/-! ### Regions in the text's order -/

theorem opD_pk (h : opK E run B tm o pk = some (t, d)) : opD E run B tm o = some (t, d) := h

theorem opsK_wp {R : Type} (hop : OpOk E run) (hH : Held E A) {ops : Array Oper} {r : R} {k : St → Option R} {Q : Exit → Act → World → Prop} : ∀ (l : List Oper) (g : Nat → Option Loc) (st : St) (a : Act) (w : World),
    (∀ o ∈ l, ∀ d, o.dst = some d → d < n) → Inv A n g st a w → opsK E run ops l st k = some r → (∀ g' st' a' w', Inv A n g' st' a' w' → k st' = some r → Q .normal a' w') → wpList E.P ops Q l a w
  | [], g, st, a, w, _, hI, h, hQ => hQ g st a w hI h
  | o :: l, g, st, a, w, hd, hI, h, hQ => by
    simp only [opsK] at h
    unfold wpList
    rcases wantedK_inv h with ⟨hg, h⟩ | ⟨hg, h⟩
    · rw [gd_wanted hI.tm hg, if_pos rfl]
      rw [opK_eq] at h
      obtain ⟨⟨t, d⟩, hp, h⟩ := Option.bind_eq_some_iff.1 h
      simp only [putK_eq] at h
      refine .inl (hop A g st.bk st.bk a w o st.tm t d hH hI.mem (Sub.refl _) hI.tm hp _ _ fun g' w' v hM hL ht => ?_)
      exact opsK_wp hop hH l g' _ _ w' (fun o' ho => hd o' (List.mem_cons_of_mem _ ho)) (hI.put hM hL (hd o (List.mem_cons_self ..)) ht) h hQ
    · rw [gd_wanted hI.tm hg, if_neg (by simp)]
      refine opsK_wp hop hH l g _ _ w (fun o' ho => hd o' (List.mem_cons_of_mem _ ho)) ?_ h hQ
      exact hI.put (B' := st.bk) hI.mem (Later.refl _) (hd o (List.mem_cons_self ..)) (v := undef) rfl

theorem opsJ_wp {R : Type} (hop : OpOk E run) (hH : Held E A) {ops : Array Oper} {r : R} {k : St → Option R} {Q : Exit → Act → World → Prop} : ∀ (l : List Oper) (g : Nat → Option Loc) (st : St) (a : Act) (w : World),
    (∀ o ∈ l, ∀ d, o.dst = some d → d < n) → Inv A n g st a w → opsJ E run ops l st k = some r → (∀ g' st' a' w', Inv A n g' st' a' w' → st'.bk = st.bk → (∀ t, (∀ o ∈ l, o.dst ≠ some t) → st'.tm t = st.tm t) → k st' = some r → Q .normal a' w') → wpList E.P ops Q l a w
  | [], g, st, a, w, _, hI, h, hQ => hQ g st a w hI rfl (fun _ _ => rfl) h
  | o :: l, g, st, a, w, hd, hI, h, hQ => by
    simp only [opsJ] at h
    unfold wpList
    have put_tm : ∀ (t : T) (u : Nat), o.dst ≠ some u → (st.put o.dst t).tm u = st.tm u := fun t u hu => by
      unfold St.put
      cases ho : o.dst with
      | none => rfl
      | some d =>
        rw [ho] at hu
        exact upd_ne _ _ fun e => hu (by rw [e])
    have put_bk : ∀ (t : T), (st.put o.dst t).bk = st.bk := fun t => by
      unfold St.put
      cases o.dst <;> rfl
    rcases wantedK_inv h with ⟨hg, h⟩ | ⟨hg, h⟩
    · rw [gd_wanted hI.tm hg, if_pos rfl]
      rw [opK_eq] at h
      obtain ⟨⟨t, d⟩, hp, h⟩ := Option.bind_eq_some_iff.1 h
      cases d with
      | cons _ _ => cases h
      | nil =>
        simp only [putK_eq] at h
        refine .inl (hop A g st.bk st.bk a w o st.tm t [] hH hI.mem (Sub.refl _) hI.tm hp _ _ fun g' w' v hM hL ht => ?_)
        refine opsJ_wp hop hH l g' _ _ w' (fun o' ho => hd o' (List.mem_cons_of_mem _ ho)) (hI.put (B' := st.bk) hM hL (hd o (List.mem_cons_self ..)) ht) h fun g2 st2 a2 w2 hI2 hb ht2 hk => ?_
        exact hQ g2 st2 a2 w2 hI2 (hb.trans (put_bk t)) (fun u hu => (ht2 u fun o' ho => hu o' (List.mem_cons_of_mem _ ho)).trans (put_tm t u (hu o (List.mem_cons_self ..)))) hk
    · rw [gd_wanted hI.tm hg, if_neg (by simp)]
      refine opsJ_wp hop hH l g _ _ w (fun o' ho => hd o' (List.mem_cons_of_mem _ ho)) ?_ h fun g2 st2 a2 w2 hI2 hb ht2 hk => ?_
      · exact hI.put (B' := st.bk) hI.mem (Later.refl _) (hd o (List.mem_cons_self ..)) (v := undef) rfl
      · exact hQ g2 st2 a2 w2 hI2 (hb.trans (put_bk _)) (fun u hu => (ht2 u fun o' ho => hu o' (List.mem_cons_of_mem _ ho)).trans (put_tm _ u (hu o (List.mem_cons_self ..)))) hk

theorem Inv.join {st st' : St} (hI : Inv A n g st' a w) (hb : st'.bk = st.bk) {ops : Array Oper} (ht : ∀ t, (∀ o ∈ ops.toList, o.dst ≠ some t) → st'.tm t = st.tm t) {b : Bool} (h : boolT (st'.tm (lastD ops)) = some b) : Inv A n g (joinSt st ops b) a w := by
  have hbk : (joinSt st ops b).bk = st'.bk := hb.symm
  refine ⟨fun t => ?_, by rw [hbk]; exact hI.mem, by rw [hbk]; exact hI.df, hI.szE⟩
  rw [hbk]
  show TR _ (cond (Nat.beq t (lastD ops)) (one (.bool b)) (cond (ops.toList.any fun o => match o.dst with | some d => Nat.beq d t | none => false) (one .und) (st.tm t))) _
  cases h1 : Nat.beq t (lastD ops)
  · cases h2 : ops.toList.any fun o => match o.dst with | some d => Nat.beq d t | none => false
    · rw [cond_false, cond_false, ← ht t fun o ho e => ?_]
      · exact hI.tm t
      · have := List.any_eq_false.1 h2 o ho
        rw [e] at this
        simp at this
    · rw [cond_false, cond_true]
      exact trivial
  · rw [cond_true]
    have e := Nat.eq_of_beq_eq_true h1
    have e2 : st'.tm t = one (.bool b) := by
      rw [e]
      unfold boolT at h
      split at h
      · rename_i hq
        cases h
        exact hq
      · cases h
    rw [← e2]
    exact hI.tm t

end
end Ai
end Go.Proofs.YtpboclokodgnlaaGreat

/-! A17: The ideal interpreter against the machine: regions whose order is open. -/
namespace Go.Proofs.YtpboclokodgnlaaGreat
namespace Ai
set_option linter.unusedSimpArgs false
set_option linter.unusedVariables false

/-! ### An operation looks at its operands alone -/

theorem parts_congr {tm tm' : Nat → T} (ps : Array (Nat × Operand)) (h : ∀ x ∈ ps.map (·.2), evalO tm x = evalO tm' x) : (ps.toList.map fun p => (p.1, evalO tm p.2)) = ps.toList.map fun p => (p.1, evalO tm' p.2) := by
  apply List.map_congr_left
  intro p hp
  rw [h p.2 (Array.mem_map.2 ⟨p, by simpa using hp, rfl⟩)]

theorem semK_congr {R : Type} {E : Env} {B : Nat → BS} {tm tm' : Nat → T} {o : Oper} {k : T → List (Nat × BS) → Option R} (h : ∀ x ∈ o.op.operands, evalO tm x = evalO tm' x) : semK E B tm o k = semK E B tm' o k := by
  obtain ⟨dst, op, type, pos, after, guard⟩ := o
  cases op <;> simp only [Op.operands] at h <;> simp only [semK] <;> try rfl
  case build t ps => rw [parts_congr ps fun x hx => h x (by simpa using hx)]
  case buildSlice t n ps => rw [parts_congr ps fun x hx => h x (by simpa using hx)]
  case makeFunc fn first captured =>
    cases fn <;> simp only []
    rw [List.map_congr_left (l := captured.toList) fun x hx => h x (by simp [Array.mem_toList_iff.1 hx])]
  case call c =>
    obtain ⟨callee, args, ats⟩ := c
    cases callee <;> simp only []
    rw [List.map_congr_left (l := args.toList) fun x hx => h x (by simp [Call.operands, Array.mem_toList_iff.1 hx])]
  case slice t x lo hi mx => cases lo <;> cases hi <;> cases mx <;> simp_all
  case makeMap t rs => cases rs <;> simp_all
  all_goals (simp_all; done)

theorem opK_congr {R : Type} {E : Env} {run : Orc} {B : Nat → BS} {tm tm' : Nat → T} {o : Oper} {k : T → List (Nat × BS) → Option R} (h : ∀ x ∈ o.op.operands, evalO tm x = evalO tm' x) : opK E run B tm o k = opK E run B tm' o k := by
  unfold opK
  split
  · rename_i f args ats ho
    rw [ho] at h
    simp only [Op.operands, Call.operands] at h
    rw [h f (by simp)]
    rw [List.map_congr_left (l := args.toList) fun x hx => h x (by simp [Array.mem_toList_iff.1 hx])]
  · exact semK_congr h

/-! ### What the operations of a region leave -/

structure Ef where
  o : Oper
  t : T
  d : List (Nat × BS)

def ap (st : St) (e : Ef) : St := { st with bk := applyB st.bk e.d }.put e.o.dst e.t

def SD (D : Nat → Bool) : Nat → List Ef → St → St
  | _, [], st => st
  | n, e :: r, st => SD D (n + 1) r (cond (D n) (ap st e) st)

theorem ap_tm (st : St) (e : Ef) (t : Nat) : (ap st e).tm t = if e.o.dst = some t then e.t else st.tm t := by
  unfold ap St.put
  cases h : e.o.dst with
  | none => simp
  | some d =>
    simp only [Option.some.injEq]
    by_cases he : d = t
    · subst he; simp [upd_same]
    · rw [if_neg he, upd_ne _ _ (Ne.symm he)]

theorem ap_bk (st : St) (e : Ef) : (ap st e).bk = applyB st.bk e.d := by
  unfold ap St.put
  cases e.o.dst <;> rfl

theorem SD_tm {D D' : Nat → Bool} {t : Nat} : ∀ (es : List Ef) (n : Nat) (st st' : St), (∀ i e, es[i]? = some e → D (n + i) ≠ D' (n + i) → e.o.dst ≠ some t) → st.tm t = st'.tm t → (SD D n es st).tm t = (SD D' n es st').tm t
  | [], _, _, _, _, h => h
  | e :: r, n, st, st', hd, h => by
    simp only [SD]
    refine SD_tm r (n + 1) _ _ (fun i e' hi hD => hd (i + 1) e' (by simpa using hi) (by rwa [show n + (i + 1) = n + 1 + i by omega])) ?_
    have h0 := hd 0 e rfl
    simp only [Nat.add_zero] at h0
    cases h1 : D n <;> cases h2 : D' n <;> rw [h1, h2] at h0 <;> simp only [cond_true, cond_false, ap_tm]
    · exact h
    · rw [if_neg (h0 (by simp))]; exact h
    · rw [if_neg (h0 (by simp))]; exact h
    · rw [h]

theorem applyB_same {id : Nat} : ∀ (d : List (Nat × BS)) (B B' : Nat → BS), B id = B' id → applyB B d id = applyB B' d id
  | [], _, _, h => h
  | (k, b) :: r, B, B', h => by
    simp only [applyB]
    refine applyB_same r _ _ ?_
    by_cases e : id = k
    · subst e; rw [upd_same, upd_same]
    · rw [upd_ne _ _ e, upd_ne _ _ e]; exact h

theorem applyB_in {id : Nat} : ∀ (d : List (Nat × BS)) (B B' : Nat → BS), id ∈ d.map (·.1) → applyB B d id = applyB B' d id
  | [], _, _, h => by simp at h
  | (k, b) :: r, B, B', h => by
    simp only [applyB]
    by_cases e : id = k
    · subst e; exact applyB_same r _ _ (by rw [upd_same, upd_same])
    · simp only [List.map_cons, List.mem_cons] at h
      exact applyB_in r _ _ (h.resolve_left e)

theorem SD_bk {D D' : Nat → Bool} {id : Nat} : ∀ (es : List Ef) (n : Nat) (st st' : St), (∀ i e, es[i]? = some e → D (n + i) ≠ D' (n + i) → id ∉ e.d.map (·.1)) → st.bk id = st'.bk id → (SD D n es st).bk id = (SD D' n es st').bk id
  | [], _, _, _, _, h => h
  | e :: r, n, st, st', hd, h => by
    simp only [SD]
    refine SD_bk r (n + 1) _ _ (fun i e' hi hD => hd (i + 1) e' (by simpa using hi) (by rwa [show n + (i + 1) = n + 1 + i by omega])) ?_
    have h0 := hd 0 e rfl
    simp only [Nat.add_zero] at h0
    cases h1 : D n <;> cases h2 : D' n <;> rw [h1, h2] at h0 <;> simp only [cond_true, cond_false, ap_bk]
    · exact h
    · rw [applyB_notin _ _ (h0 (by simp))]; exact h
    · rw [applyB_notin _ _ (h0 (by simp))]; exact h
    · exact applyB_same _ _ _ h

theorem SD_none {D : Nat → Bool} : ∀ (es : List Ef) (n : Nat) (st : St), (∀ j, n ≤ j → D j = false) → SD D n es st = st
  | [], _, _, _ => rfl
  | e :: r, n, st, h => by
    simp only [SD, h n (Nat.le_refl _), cond_false]
    exact SD_none r (n + 1) st fun j hj => h j (by omega)

/-- One operation more. -/
theorem SD_more {D D' : Nat → Bool} {e0 : Ef} : ∀ (es : List Ef) (n i : Nat) (st : St), es[i]? = some e0 → D (n + i) = false → D' (n + i) = true → (∀ j, j ≠ n + i → D' j = D j) →
    (∀ j e, es[j]? = some e → i < j → D (n + j) = true → (∀ x, e0.o.dst = some x → e.o.dst ≠ some x) ∧ ∀ id ∈ e0.d.map (·.1), id ∉ e.d.map (·.1)) →
    SD D' n es st = ap (SD D n es st) e0
  | [], n, i, st, h, _, _, _, _ => by simp at h
  | e :: r, n, 0, st, h, h1, h2, h3, h4 => by
    simp only [List.getElem?_cons_zero, Option.some.injEq] at h
    subst h
    simp only [Nat.add_zero] at h1 h2 h3
    simp only [SD, h1, h2, cond_true, cond_false]
    have hne : ∀ i e', r[i]? = some e' → D' (n + 1 + i) = true → (∀ x, e.o.dst = some x → e'.o.dst ≠ some x) ∧ ∀ id ∈ e.d.map (·.1), id ∉ e'.d.map (·.1) := fun i e' hi hD => by
      refine h4 (i + 1) e' (by simpa using hi) (by omega) ?_
      rw [← h3 _ (by omega), show n + (i + 1) = n + 1 + i by omega]
      exact hD
    have htm : (SD D' (n + 1) r (ap st e)).tm = (ap (SD D (n + 1) r st) e).tm := by
      funext t
      rw [ap_tm]
      by_cases he : e.o.dst = some t
      · rw [if_pos he]
        have := SD_tm (D := D') (D' := fun _ => false) (t := t) r (n + 1) (ap st e) (ap st e) (fun i e' hi hD => (hne i e' hi (by simpa using hD)).1 t he) rfl
        rw [this, SD_none _ _ _ (fun _ _ => rfl), ap_tm, if_pos he]
      · rw [if_neg he]
        exact SD_tm r (n + 1) _ _ (fun i e' hi hD => (hD (h3 _ (by omega))).elim) (by rw [ap_tm, if_neg he])
    have hbk : (SD D' (n + 1) r (ap st e)).bk = (ap (SD D (n + 1) r st) e).bk := by
      funext id
      rw [ap_bk]
      by_cases he : id ∈ e.d.map (·.1)
      · have := SD_bk (D := D') (D' := fun _ => false) (id := id) r (n + 1) (ap st e) (ap st e) (fun i e' hi hD => (hne i e' hi (by simpa using hD)).2 id he) rfl
        rw [this, SD_none _ _ _ (fun _ _ => rfl), ap_bk]
        exact applyB_in _ _ _ he
      · rw [applyB_notin _ _ he]
        exact SD_bk r (n + 1) _ _ (fun i e' hi hD => (hD (h3 _ (by omega))).elim) (by rw [ap_bk, applyB_notin _ _ he])
    generalize hX : SD D' (n + 1) r (ap st e) = X at htm hbk
    generalize hY : ap (SD D (n + 1) r st) e = Y at htm hbk
    obtain ⟨x1, x2⟩ := X
    obtain ⟨y1, y2⟩ := Y
    simp only at htm hbk
    rw [htm, hbk]
  | e :: r, n, i + 1, st, h, h1, h2, h3, h4 => by
    simp only [SD]
    rw [h3 n (by omega)]
    refine SD_more r (n + 1) i _ (by simpa using h) (by rwa [show n + 1 + i = n + (i + 1) by omega]) (by rwa [show n + 1 + i = n + (i + 1) by omega]) (fun j hj => h3 j (by omega)) fun j e' hj hij hD => ?_
    exact h4 (j + 1) e' (by simpa using hj) (by omega) (by rwa [show n + (j + 1) = n + 1 + j by omega])

section
variable {E : Env} {A : Base} {run : Orc} {ops : Array Oper} {b : List Nat} {n : Nat}

def EfOk (E : Env) (run : Orc) (ops : Array Oper) (b : List Nat) (i : Nat) (st : St) (e : Ef) : Prop :=
  (gd ops st.tm e.o = some false ∧ e.t = one .skip ∧ e.d = []) ∨
  (gd ops st.tm e.o = some true ∧ opK E run (viewB (cls E e.o.op) (others E ops.toList b i) st.bk) st.tm e.o pk = some (e.t, e.d) ∧
    effOk (cls E e.o.op) e.o.dst (tchs E e.o) (soloB E ops.toList b i) (viewB (cls E e.o.op) (others E ops.toList b i) st.bk) e.d = true)

def Runs (E : Env) (run : Orc) (ops : Array Oper) (b : List Nat) : Nat → List Ef → St → Prop
  | _, [], _ => True
  | n, e :: r, st => EfOk E run ops b n st e ∧ Runs E run ops b (n + 1) r (ap st e)

theorem opsD_runs {R : Type} {r : R} {k : St → Option R} : ∀ (l : List Oper) (n : Nat) (st : St), opsD E run ops b n l st k = some r →
    ∃ es : List Ef, es.map (·.o) = l ∧ Runs E run ops b n es st ∧ k (SD (fun _ => true) n es st) = some r
  | [], n, st, h => ⟨[], rfl, trivial, h⟩
  | o :: l, n, st, h => by
    simp only [opsD] at h
    rcases wantedK_inv h with ⟨hg, h⟩ | ⟨hg, h⟩
    · rw [opK_eq] at h
      obtain ⟨⟨t, d⟩, hp, h⟩ := Option.bind_eq_some_iff.1 h
      split at h
      · rename_i hc
        simp only [putK_eq] at h
        obtain ⟨es, h1, h2, h3⟩ := opsD_runs l (n + 1) _ h
        refine ⟨⟨o, t, d⟩ :: es, by simp [h1], ⟨.inr ⟨hg, hp, hc⟩, h2⟩, ?_⟩
        simp only [SD, cond_true]
        exact h3
      · cases h
    · obtain ⟨es, h1, h2, h3⟩ := opsD_runs l (n + 1) _ h
      refine ⟨⟨o, one .skip, []⟩ :: es, by simp [h1], ⟨.inl ⟨hg, rfl, rfl⟩, h2⟩, ?_⟩
      simp only [SD, cond_true]
      exact h3

theorem runs_get : ∀ (es : List Ef) (n i : Nat) (st : St) (e : Ef), Runs E run ops b n es st → es[i]? = some e → EfOk E run ops b (n + i) (SD (fun j => decide (j < n + i)) n es st) e
  | [], _, _, _, _, _, h => by simp at h
  | e0 :: r, n, 0, st, e, h, hi => by
    simp only [List.getElem?_cons_zero, Option.some.injEq] at hi
    subst hi
    rw [SD_none _ _ _ (fun j hj => by simp; omega)]
    exact h.1
  | e0 :: r, n, i + 1, st, e, h, hi => by
    have := runs_get r (n + 1) i _ e h.2 (by simpa using hi)
    simp only [SD, show decide (n < n + (i + 1)) = true by simp, cond_true]
    rwa [show n + (i + 1) = n + 1 + i by omega]

/-! ### Which operations stand ahead of which -/

theorem befs_get : ∀ (l : List Oper) (acc : List Nat) (i : Nat) (o : Oper), l[i]? = some o → (befs acc l).getD (acc.length + i) 0 = bef1 (befs acc l) o ∨
    ∃ acc', (befs acc l).getD (acc.length + i) 0 = bef1 acc' o ∧ ∀ j x, acc'.getD j 0 = x → x = 0 ∨ (befs acc l).getD j 0 = x
  | [], _, _, _, h => by simp at h
  | o0 :: l, acc, 0, o, h => by
    simp only [List.getElem?_cons_zero, Option.some.injEq] at h
    subst h
    right
    have hpre : ∀ (l : List Oper) (acc : List Nat) (j : Nat), j < acc.length → (befs acc l).getD j 0 = acc.getD j 0 := by
      intro l
      induction l with
      | nil => intro acc j _; rfl
      | cons o l ih =>
        intro acc j hj
        simp only [befs]
        rw [ih _ _ (by simp; omega)]
        simp [List.getD, List.getElem?_append_left hj]
    refine ⟨acc, ?_, fun j x hx => ?_⟩
    · simp only [befs, Nat.add_zero]
      rw [hpre _ _ _ (by simp)]
      simp [List.getD]
    · by_cases hj : j < acc.length
      · right; simp only [befs]; rw [hpre _ _ _ (by simp; omega)]
        rw [← hx]; simp [List.getD, List.getElem?_append_left hj]
      · left; rw [← hx]; simp [List.getD, List.getElem?_eq_none (by omega : acc.length ≤ j)]
  | o0 :: l, acc, i + 1, o, h => by
    have := befs_get l (acc ++ [bef1 acc o0]) i o (by simpa using h)
    simp only [befs]
    rw [show acc.length + (i + 1) = (acc ++ [bef1 acc o0]).length + i by simp; omega]
    exact this

/-- A set of operations with all that stand ahead of each. -/
def Closed (ops : Array Oper) (L : Nat → Bool) : Prop := ∀ i o, ops[i]? = some o → L i = true → ∀ e ∈ o.after, Region.binds .any e = true → L e.on = true

theorem bef1_bit {acc : List Nat} {o : Oper} {j : Nat} (h : (bef1 acc o).testBit j = true) : ∃ e ∈ o.after, Region.binds .any e = true ∧ (j = e.on ∨ (acc.getD e.on 0).testBit j = true) := by
  unfold bef1 at h
  have key : ∀ (l : List Edge) (s : Nat), (l.foldl (fun s e => match Region.binds .any e with
      | true => s ||| 2 ^ e.on ||| acc.getD e.on 0
      | false => s) s).testBit j = true → s.testBit j = true ∨ ∃ e ∈ l, Region.binds .any e = true ∧ (j = e.on ∨ (acc.getD e.on 0).testBit j = true) := by
    intro l
    induction l with
    | nil => intro s h; exact .inl h
    | cons e l ih =>
      intro s h
      rw [List.foldl_cons] at h
      rcases ih _ h with h | ⟨e', h1, h2⟩
      · cases hb : Region.binds .any e
        · rw [hb] at h; exact .inl h
        · rw [hb] at h
          simp only [Nat.testBit_or, Bool.or_eq_true, Nat.testBit_two_pow, decide_eq_true_eq] at h
          rcases h with (h | h) | h
          · exact .inl h
          · exact .inr ⟨e, List.mem_cons_self .., hb, .inl h.symm⟩
          · exact .inr ⟨e, List.mem_cons_self .., hb, .inr h⟩
      · exact .inr ⟨e', List.mem_cons_of_mem _ h1, h2⟩
  rcases key o.after.toList 0 h with h | ⟨e, h1, h2⟩
  · simp at h
  · exact ⟨e, by simpa using h1, h2⟩

def Edges (ops : Array Oper) : Prop := ∀ i o, ops[i]? = some o → ∀ e ∈ o.after, Region.binds .any e = true → e.on < i

/-- What stands ahead of an operation is in each such set. -/
theorem closed_bef (hE : Edges ops) {L : Nat → Bool} (hc : Closed ops L) : ∀ (m i : Nat) (o : Oper), i ≤ m → ops[i]? = some o → (∀ e ∈ o.after, Region.binds .any e = true → L e.on = true) →
    ∀ j, ((befs [] ops.toList).getD i 0).testBit j = true → L j = true := by
  intro m
  induction m with
  | zero =>
    intro i o hi ho he j hj
    have hb := befs_get ops.toList [] i o (by simpa using ho)
    simp only [List.length_nil, Nat.zero_add] at hb
    have none : ∀ acc, (bef1 acc o).testBit j = true → False := fun acc h => by
      obtain ⟨e, hem, hbd, _⟩ := bef1_bit h
      have := hE i o ho e hem hbd
      omega
    rcases hb with hb | ⟨acc', hb, _⟩
    · rw [hb] at hj; exact (none _ hj).elim
    · rw [hb] at hj; exact (none _ hj).elim
  | succ m ih =>
    intro i o hi ho he j hj
    have hb := befs_get ops.toList [] i o (by simpa using ho)
    simp only [List.length_nil, Nat.zero_add] at hb
    have key : ∀ e ∈ o.after, Region.binds .any e = true → ((befs [] ops.toList).getD e.on 0).testBit j = true → L j = true := by
      intro e hem hbd hbit
      have hlt' := hE i o ho e hem hbd
      have hoe : ∃ oe, ops[e.on]? = some oe := by
        have : i < ops.size := (Array.getElem?_eq_some_iff.1 ho).1
        exact ⟨ops[e.on]'(by omega), by simp [show e.on < ops.size by omega]⟩
      obtain ⟨oe, hoe⟩ := hoe
      exact ih e.on oe (by omega) hoe (fun e' he' hb' => hc _ _ hoe (he e hem hbd) e' he' hb') j hbit
    rcases hb with hb | ⟨acc', hb, hacc⟩
    · rw [hb] at hj
      obtain ⟨e, hem, hbd, h | h⟩ := bef1_bit hj
      · subst h; exact he e hem hbd
      · exact key e hem hbd h
    · rw [hb] at hj
      obtain ⟨e, hem, hbd, h | h⟩ := bef1_bit hj
      · subst h; exact he e hem hbd
      · rcases hacc e.on _ rfl with h0 | h0
        · rw [h0] at h; simp at h
        · exact key e hem hbd (by rw [h0]; exact h)

/-! ### A region whose order is open -/

theorem regOk_edges (h : regOk E ops b = true) : Edges ops := by
  unfold regOk at h
  rw [Bool.and_eq_true] at h
  intro i o hi e he hb
  have h1 := h.1
  rw [List.all_eq_true] at h1
  have h2 := h1 (o, i) (List.mem_zipIdx_iff_getElem?.2 (by simpa using hi))
  rw [List.all_eq_true] at h2
  have h3 := h2 e (by simpa using he)
  rw [hb] at h3
  exact Nat.le_of_ble_eq_true h3

theorem regOk_spec (h : regOk E ops b = true) {i j : Nat} {oi oj : Oper} (hi : ops[i]? = some oi) (hj : ops[j]? = some oj) :
    i < j → unord b i j = true → oi.apart ops oj = true ∧ oj.apart ops oi = true ∧ (cls E oi.op = 2 → cls E oj.op = 0) ∧ (cls E oj.op = 2 → cls E oi.op = 0) ∧ ∀ x ∈ tchs E oi, x ∉ tchs E oj := by
  unfold regOk at h
  rw [Bool.and_eq_true] at h
  replace h := h.2
  rw [List.all_eq_true] at h
  have h1 := h (oi, i) (List.mem_zipIdx_iff_getElem?.2 (by simpa using hi))
  rw [List.all_eq_true] at h1
  have h4 := h1 (oj, j) (List.mem_zipIdx_iff_getElem?.2 (by simpa using hj))
  simp only [Bool.and_eq_true, Bool.or_eq_true, Bool.not_eq_true'] at h4
  intro hlt hu
  rcases h4 with (h4 | h4) | h4
  · have := Nat.le_of_ble_eq_true h4; omega
  · rw [hu] at h4; cases h4
  · obtain ⟨⟨⟨⟨a1, a2⟩, a3⟩, a4⟩, a5⟩ := h4
    refine ⟨a1, a2, fun e => ?_, fun e => ?_, fun x hx => ?_⟩
    · rw [e] at a3
      cases hb : Nat.beq (cls E oj.op) 0
      · rw [hb] at a3; cases a3
      · exact Nat.eq_of_beq_eq_true hb
    · rw [e] at a4
      cases hb : Nat.beq (cls E oi.op) 0
      · rw [hb] at a4; cases a4
      · exact Nat.eq_of_beq_eq_true hb
    · have := List.all_eq_true.1 a5 x hx
      intro hy
      rw [List.contains_iff_mem.2 hy] at this
      cases this

theorem unord_symm {b : List Nat} {i j : Nat} : unord b i j = unord b j i := by simp [unord, Bool.and_comm]

/-- Of two operations without order: either looks past the other. -/
theorem regOk_two (h : regOk E ops b = true) {i j : Nat} {oi oj : Oper} (hi : ops[i]? = some oi) (hj : ops[j]? = some oj) (hne : i ≠ j) (hu : unord b i j = true) :
    oi.apart ops oj = true ∧ (cls E oi.op = 2 → cls E oj.op = 0) ∧ (cls E oj.op = 2 → cls E oi.op = 0) ∧ ∀ x ∈ tchs E oi, x ∉ tchs E oj := by
  rcases Nat.lt_or_gt_of_ne hne with hlt | hgt
  · obtain ⟨a1, a2, a3, a4, a5⟩ := regOk_spec h hi hj hlt hu
    exact ⟨a1, a3, a4, a5⟩
  · obtain ⟨a1, a2, a3, a4, a5⟩ := regOk_spec h hj hi hgt (by rw [unord_symm]; exact hu)
    exact ⟨a2, a4, a3, fun x hx hy => a5 x hy hx⟩

theorem onlyNew_ids {dst : Nat} {B : Nat → BS} : ∀ (d : List (Nat × BS)), onlyNew dst B d = true → ∀ id ∈ d.map (·.1), id / 8 = dst
  | [], _, id, h => by simp at h
  | (k, x) :: r, h, id, hid => by
    cases x with
    | live blk =>
      simp only [onlyNew, Bool.and_eq_true] at h
      simp only [List.map_cons, List.mem_cons] at hid
      rcases hid with rfl | hid
      · exact Nat.eq_of_beq_eq_true h.1.1
      · exact onlyNew_ids r h.2 id hid
    | fresh => simp [onlyNew] at h
    | dead => simp [onlyNew] at h
    | ro o c xs => simp [onlyNew] at h

theorem cls_le (o : Op) : cls E o = 0 ∨ cls E o = 1 ∨ cls E o = 2 ∨ cls E o = 3 := by
  unfold cls
  split <;> first
    | exact .inl rfl
    | exact .inr (.inl rfl)
    | exact .inr (.inr (.inl rfl))
    | exact .inr (.inr (.inr rfl))
    | skip
  have key : ∀ q : Bool, cond q 3 1 = 0 ∨ cond q 3 1 = 1 ∨ cond q 3 1 = 2 ∨ cond q 3 1 = 3 := by intro q; cases q <;> simp
  exact key _

theorem solo_spec {i j : Nat} {oj : Oper} (h : soloB E ops.toList b i = true) (hj : ops[j]? = some oj) (hne : j ≠ i) (hu : unord b i j = true) : cls E oj.op = 0 := by
  have h1 := List.all_eq_true.1 h (oj, j) (List.mem_zipIdx_iff_getElem?.2 (by simpa using hj))
  simp only [Bool.or_eq_true, Bool.not_eq_true'] at h1
  rcases h1 with (h1 | h1) | h1
  · exact (hne (Nat.eq_of_beq_eq_true h1)).elim
  · rw [hu] at h1; cases h1
  · exact Nat.eq_of_beq_eq_true h1

theorem tchs_dst (o : Oper) : ∀ x, o.dst = some x → x ∈ tchs E o := by
  intro x h
  unfold tchs
  split <;> simp [h]

/-- What an operation writes bears a name of its own, unless it is one of those that write. -/
theorem EfOk.ids {i : Nat} {st : St} {e : Ef} (h : EfOk E run ops b i st e) : (cls E e.o.op = 0 → e.d = []) ∧ (cls E e.o.op ≠ 2 → soloB E ops.toList b i = false → ∀ id ∈ e.d.map (·.1), id / 8 ∈ tchs E e.o) := by
  rcases h with ⟨_, _, hd⟩ | ⟨_, _, h⟩
  · rw [hd]; exact ⟨fun _ => rfl, fun _ _ id h => by simp at h⟩
  · unfold effOk at h
    split at h
    · rename_i hc
      have h0 : e.d = [] := by simpa using h
      rw [h0]
      exact ⟨fun _ => rfl, fun _ _ id h => by simp at h⟩
    · rename_i hc
      refine ⟨fun h0 => (by rw [hc] at h0; cases h0), fun _ hs id hid => ?_⟩
      rw [hs, Bool.false_or] at h
      obtain ⟨p, hp, rfl⟩ := List.mem_map.1 hid
      exact List.contains_iff_mem.1 (List.all_eq_true.1 h p hp)
    · rename_i hc
      refine ⟨fun h0 => (by rw [hc] at h0; cases h0), fun _ hs id hid => ?_⟩
      rw [hs, Bool.false_or] at h
      simp only [Bool.and_eq_true, Bool.or_eq_true] at h
      have := onlyNew_ids _ h.1 id hid
      cases hdst : e.o.dst with
      | none =>
        rw [hdst] at h
        rcases h.2 with h2 | h2
        · simp at h2
        · have : e.d = [] := by simpa using h2
          rw [this] at hid; simp at hid
      | some x => rw [hdst] at this; simp at this; exact tchs_dst _ _ (by rw [this]; exact hdst)
    · rename_i h0 h3 h1
      refine ⟨fun e => (h0 e).elim, fun h2 => ?_⟩
      rcases cls_le (E := E) e.o.op with c | c | c | c
      · exact (h0 c).elim
      · exact (h1 c).elim
      · exact (h2 c).elim
      · exact (h3 c).elim

theorem getD_bit {b : List Nat} {i j : Nat} : unord b i j = true ↔ (b.getD j 0).testBit i = false ∧ (b.getD i 0).testBit j = false := by
  simp [unord]

section
variable {es : List Ef} {st0 : St}

theorem es_op (hl : es.map (·.o) = ops.toList) {i : Nat} {e : Ef} (h : es[i]? = some e) : ops[i]? = some e.o := by
  have : (es.map (·.o))[i]? = some e.o := by simp [h]
  rw [hl] at this
  simpa using this

theorem es_of (hl : es.map (·.o) = ops.toList) {i : Nat} {o : Oper} (h : ops[i]? = some o) : ∃ e, es[i]? = some e ∧ e.o = o := by
  have : (es.map (·.o))[i]? = some o := by rw [hl]; simpa using h
  rw [List.getElem?_map, Option.map_eq_some_iff] at this
  exact this

/-- Where a set that is ready for an operation differs from the text's order, there is no order. -/
theorem differ_unord (hE : Edges ops) {L : Nat → Bool} (hc : Closed ops L) {i : Nat} {oi : Oper} (hi : ops[i]? = some oi) (hLi : L i = false) (hrd : ∀ e ∈ oi.after, Region.binds .any e = true → L e.on = true)
    {j : Nat} {oj : Oper} (hj : ops[j]? = some oj) (hne : j ≠ i) (hd : L j ≠ decide (j < i)) : unord (befs [] ops.toList) i j = true := by
  have hT : ∀ k, Closed ops (fun j => decide (j < k)) := fun k m o hm hlt e he hb => by
    have := hE m o hm e he hb
    simp only [decide_eq_true_eq] at hlt ⊢
    omega
  have up : ∀ k o, ops[k]? = some o → ∀ m, ((befs [] ops.toList).getD k 0).testBit m = true → m < k := fun k o hk m hm => by
    have := closed_bef hE (hT k) k k o (Nat.le_refl _) hk (fun e he hb => by simpa using hE k o hk e he hb) m hm
    simpa using this
  rw [getD_bit]
  constructor
  · cases hb : ((befs [] ops.toList).getD j 0).testBit i with
    | false => rfl
    | true =>
      exfalso
      have h1 := up j oj hj i hb
      have hLj : L j = true := by
        cases hL : L j with
        | true => rfl
        | false => rw [hL] at hd; simp at hd; omega
      have := closed_bef hE hc j j oj (Nat.le_refl _) hj (fun e he hb => hc j oj hj hLj e he hb) i hb
      rw [hLi] at this; cases this
  · cases hb : ((befs [] ops.toList).getD i 0).testBit j with
    | false => rfl
    | true =>
      exfalso
      have h1 := up i oi hi j hb
      have h2 := closed_bef hE hc i i oi (Nat.le_refl _) hi hrd j hb
      rw [h2] at hd
      simp at hd
      omega

/-- Between operations without order: no temporary and no name in common. -/
theorem apart_ids (hl : es.map (·.o) = ops.toList) (hr : Runs E run ops (befs [] ops.toList) 0 es st0) (hok : regOk E ops (befs [] ops.toList) = true) {i j : Nat} {ei ej : Ef} (hi : es[i]? = some ei) (hj : es[j]? = some ej) (hne : i ≠ j)
    (hu : unord (befs [] ops.toList) i j = true) : (∀ x, ei.o.dst = some x → ej.o.dst ≠ some x) ∧ ∀ id ∈ ei.d.map (·.1), id ∉ ej.d.map (·.1) := by
  obtain ⟨h1, h2, h3, h4⟩ := regOk_two hok (es_op hl hi) (es_op hl hj) hne hu
  obtain ⟨_, a2, _⟩ := Oper.apart_spec h1
  refine ⟨a2, fun id hid hid' => ?_⟩
  have oi := (runs_get es 0 i st0 ei hr hi).ids
  have oj := (runs_get es 0 j st0 ej hr hj).ids
  by_cases c : cls E ei.o.op = 2
  · rw [oj.1 (h2 c)] at hid'; simp at hid'
  · by_cases c' : cls E ej.o.op = 2
    · rw [oi.1 (h3 c')] at hid; simp at hid
    · cases s1 : soloB E ops.toList (befs [] ops.toList) (0 + i) with
      | true => 
        rw [Nat.zero_add] at s1
        rw [oj.1 (solo_spec s1 (es_op hl hj) (Ne.symm hne) hu)] at hid'; simp at hid'
      | false =>
        cases s2 : soloB E ops.toList (befs [] ops.toList) (0 + j) with
        | true =>
          rw [Nat.zero_add] at s2
          rw [oi.1 (solo_spec s2 (es_op hl hi) hne (by rw [unord_symm]; exact hu))] at hid; simp at hid
        | false => exact h4 _ (oi.2 c s1 id hid) (oj.2 c' s2 id hid')

/-- An operation finds the same in each order. -/
theorem any_find (hl : es.map (·.o) = ops.toList) (hr : Runs E run ops (befs [] ops.toList) 0 es st0) (hok : regOk E ops (befs [] ops.toList) = true) {L : Nat → Bool} (hc : Closed ops L) {i : Nat} {e : Ef} (hi : es[i]? = some e) (hLi : L i = false)
    (hrd : ∀ e' ∈ e.o.after, Region.binds .any e' = true → L e'.on = true) :
    EfOk E run ops (befs [] ops.toList) i (SD L 0 es st0) e := by
  have hE := regOk_edges hok
  have h0 := runs_get es 0 i st0 e hr hi
  simp only [Nat.zero_add] at h0
  have hdf : ∀ j ej, es[j]? = some ej → L (0 + j) ≠ decide (0 + j < i) → j ≠ i ∧ unord (befs [] ops.toList) i j = true := fun j ej hj hd => by
    simp only [Nat.zero_add] at hd
    have hne : j ≠ i := by
      rintro rfl
      rw [hLi] at hd; simp at hd
    exact ⟨hne, differ_unord hE hc (es_op hl hi) hLi hrd (es_op hl hj) hne hd⟩
  -- temporaries
  have htm : ∀ t, t ∈ e.o.looksAt ops → (SD L 0 es st0).tm t = (SD (fun j => decide (j < i)) 0 es st0).tm t := fun t ht => by
    refine SD_tm es 0 st0 st0 (fun j ej hj hd => ?_) rfl
    obtain ⟨hne, hu⟩ := hdf j ej hj hd
    obtain ⟨h1, _, _, _⟩ := regOk_two hok (es_op hl hj) (es_op hl hi) hne (by rw [unord_symm]; exact hu)
    obtain ⟨a1, _, _⟩ := Oper.apart_spec h1
    exact fun hx => a1 t hx ht
  have hev : ∀ x ∈ e.o.op.operands, evalO (SD L 0 es st0).tm x = evalO (SD (fun j => decide (j < i)) 0 es st0).tm x := fun x hx => by
    cases x with
    | tmp t => exact htm t (by
        unfold Oper.looksAt
        refine List.mem_append_left _ (List.mem_filterMap.2 ⟨.tmp t, by simpa using hx, rfl⟩))
    | _ => rfl
  have hgd : gd ops (SD L 0 es st0).tm e.o = gd ops (SD (fun j => decide (j < i)) 0 es st0).tm e.o := by
    unfold gd
    cases hg : e.o.guard with
    | none => rfl
    | some p =>
      obtain ⟨j, want⟩ := p
      simp only []
      cases hd : (ops[j]?).bind (·.dst) with
      | none => rfl
      | some dd =>
        simp only []
        rw [htm dd (by unfold Oper.looksAt; rw [hg]; simp [hd])]
  -- memory
  have hvw : viewB (cls E e.o.op) (others E ops.toList (befs [] ops.toList) i) (SD L 0 es st0).bk = viewB (cls E e.o.op) (others E ops.toList (befs [] ops.toList) i) (SD (fun j => decide (j < i)) 0 es st0).bk := by
    rcases cls_le (E := E) e.o.op with c | c | c | c
    · rw [c]; rfl
    all_goals
      rw [c]
      funext id
      show restr _ _ id = restr _ _ id
      unfold restr
      cases hx : (others E ops.toList (befs [] ops.toList) i).contains (id / 8)
      · simp only [cond_false]
        refine SD_bk es 0 st0 st0 (fun j ej hj hd hid => ?_) rfl
        obtain ⟨hne, hu⟩ := hdf j ej hj hd
        obtain ⟨_, h2, h3, _⟩ := regOk_two hok (es_op hl hi) (es_op hl hj) (Ne.symm hne) hu
        have oj := (runs_get es 0 j st0 ej hr hj).ids
        by_cases c' : cls E ej.o.op = 2
        · have := h3 c'; rw [c] at this; cases this
        · have hs : soloB E ops.toList (befs [] ops.toList) (0 + j) = false := by
            cases s2 : soloB E ops.toList (befs [] ops.toList) (0 + j) with
            | false => rfl
            | true =>
              rw [Nat.zero_add] at s2
              have := solo_spec s2 (es_op hl hi) (Ne.symm hne) (by rw [unord_symm]; exact hu)
              rw [c] at this; cases this
          have hdst := oj.2 c' hs id hid
          have : id / 8 ∈ others E ops.toList (befs [] ops.toList) i := by
            unfold others
            refine List.mem_flatMap.2 ⟨(ej.o, j), List.mem_filter.2 ⟨List.mem_zipIdx_iff_getElem?.2 (by simpa using es_op hl hj), ?_⟩, hdst⟩
            simp only [Bool.and_eq_true, Bool.not_eq_true']
            refine ⟨?_, hu⟩
            cases hb : Nat.beq j i
            · rfl
            · exact (hne (Nat.eq_of_beq_eq_true hb)).elim
          have h4 := List.contains_iff_mem.2 this
          rw [h4] at hx; cases hx
      · rfl
  unfold EfOk at h0 ⊢
  rw [hgd, hvw, opK_congr hev]
  exact h0

/-- Whatever order is drawn. -/
theorem drawn_wp (hop : OpOk E run) (hH : Held E A) (hl : es.map (·.o) = ops.toList) (hr : Runs E run ops (befs [] ops.toList) 0 es st0) (hok : regOk E ops (befs [] ops.toList) = true) (hdst : ∀ o ∈ ops.toList, ∀ d, o.dst = some d → d < n) {Q : Exit → Act → World → Prop}
    (hQ : ∀ g' a' w', Inv A n g' (SD (fun _ => true) 0 es st0) a' w' → Q .normal a' w') :
    ∀ (fuel : Nat) (listed : Array Bool) (U : List Nat) (g : Nat → Option Loc) (a : Act) (w : World), listed.size = ops.size → U.length ≤ fuel → (∀ j, j < ops.size → listed.getD j false = false → j ∈ U) → Closed ops (fun j => listed.getD j false) →
      Inv A n g (SD (fun j => listed.getD j false) 0 es st0) a w → wpAny E.P .any ops Q fuel listed a w := by
  have hE := regOk_edges hok
  have done : ∀ (listed : Array Bool) (g : Nat → Option Loc) (a : Act) (w : World), listed.size = ops.size → Closed ops (fun j => listed.getD j false) → Inv A n g (SD (fun j => listed.getD j false) 0 es st0) a w → Region.ready .any ops listed = [] → Q .normal a w := by
    intro listed g a w hs hc hI hrd
    have hall : ∀ m j, j ≤ m → j < ops.size → listed.getD j false = true := by
      intro m
      induction m with
      | zero =>
        intro j hj hlt
        cases hL : listed.getD j false with
        | true => rfl
        | false =>
          exfalso
          have : j ∈ Region.ready .any ops listed := by
            rw [mem_ready]
            refine ⟨?_, ops[j], by simp [hlt], fun e he hb => ?_⟩
            · simp [hs, hlt] at hL ⊢; exact hL
            · have := hE j ops[j] (by simp [hlt]) e he hb; omega
          rw [hrd] at this; simp at this
      | succ m ih =>
        intro j hj hlt
        cases hL : listed.getD j false with
        | true => rfl
        | false =>
          exfalso
          have : j ∈ Region.ready .any ops listed := by
            rw [mem_ready]
            refine ⟨?_, ops[j], by simp [hlt], fun e he hb => ?_⟩
            · simp [hs, hlt] at hL ⊢; exact hL
            · have := hE j ops[j] (by simp [hlt]) e he hb; exact ih e.on (by omega) (by omega)
          rw [hrd] at this; simp at this
    refine hQ g a w ?_
    have heq : SD (fun j => listed.getD j false) 0 es st0 = SD (fun _ => true) 0 es st0 := by
      have hlen : es.length = ops.size := by have := congrArg List.length hl; simpa using this
      have hd : ∀ i (e : Ef), es[i]? = some e → listed.getD (0 + i) false = true := fun i e hi => by
        rw [Nat.zero_add]
        have : i < es.length := (List.getElem?_eq_some_iff.1 hi).1
        exact hall i i (Nat.le_refl _) (by omega)
      have h1 : (SD (fun j => listed.getD j false) 0 es st0).tm = (SD (fun _ => true) 0 es st0).tm := by
        funext t; exact SD_tm es 0 st0 st0 (fun i e hi hne => (hne (hd i e hi)).elim) rfl
      have h2 : (SD (fun j => listed.getD j false) 0 es st0).bk = (SD (fun _ => true) 0 es st0).bk := by
        funext t; exact SD_bk es 0 st0 st0 (fun i e hi hne => (hne (hd i e hi)).elim) rfl
      generalize SD (fun j => listed.getD j false) 0 es st0 = X at h1 h2
      generalize SD (fun _ => true) 0 es st0 = Y at h1 h2
      obtain ⟨x1, x2⟩ := X
      obtain ⟨y1, y2⟩ := Y
      simp only at h1 h2
      rw [h1, h2]
    rw [← heq]; exact hI
  intro fuel
  induction fuel with
  | zero =>
    intro listed U g a w hs hU hUm hc hI
    have hnil : Region.ready .any ops listed = [] := by
      cases hrd : Region.ready .any ops listed with
      | nil => rfl
      | cons i r =>
        exfalso
        have hi : i ∈ Region.ready .any ops listed := by rw [hrd]; simp
        rw [mem_ready] at hi
        obtain ⟨h1, oi, h2, _⟩ := hi
        have hlt : i < ops.size := (Array.getElem?_eq_some_iff.1 h2).1
        have hm := hUm i hlt (by simp [hs, hlt] at h1 ⊢; exact h1)
        have hU0 : U = [] := List.eq_nil_of_length_eq_zero (by omega)
        rw [hU0] at hm
        simp at hm
    exact ⟨hnil, done listed g a w hs hc hI hnil⟩
  | succ fuel ih =>
    intro listed U g a w hs hU hUm hc hI
    refine ⟨done listed g a w hs hc hI, fun i hi => ?_⟩
    rw [mem_ready] at hi
    obtain ⟨h1, oi, h2, h3⟩ := hi
    have hlt : i < ops.size := (Array.getElem?_eq_some_iff.1 h2).1
    have hLi : listed.getD i false = false := by simp [hs, hlt] at h1 ⊢; exact h1
    obtain ⟨e, he, heo⟩ := es_of hl h2
    have hfind := any_find hl hr hok hc he hLi (by rw [heo]; exact h3)
    -- the state behind
    have hset : ∀ j, (listed.setIfInBounds i true).getD j false = if j = i then true else listed.getD j false := fun j => by
      by_cases e : j = i
      · subst e; simp [hs, hlt]
      · rw [if_neg e]; exact getD_set_ne false (Ne.symm e)
    have hmore : SD (fun j => (listed.setIfInBounds i true).getD j false) 0 es st0 = ap (SD (fun j => listed.getD j false) 0 es st0) e := by
      refine SD_more es 0 i st0 he (by rw [Nat.zero_add]; exact hLi) (by simp only [Nat.zero_add]; rw [hset, if_pos rfl]) (fun j hj => by rw [Nat.zero_add] at hj; rw [hset, if_neg hj]) fun j ej hj hij hD => ?_
      rw [Nat.zero_add] at hD
      refine apart_ids hl hr hok he hj (by omega) ?_
      refine differ_unord hE hc h2 hLi h3 (es_op hl hj) (by omega) ?_
      rw [hD]
      simp
      omega
    have hclosed : Closed ops (fun j => (listed.setIfInBounds i true).getD j false) := fun j oj hj hL e' he' hb => by
      show (listed.setIfInBounds i true).getD e'.on false = true
      replace hL : (listed.setIfInBounds i true).getD j false = true := hL
      rw [hset] at hL ⊢
      split
      · rfl
      · split at hL
        · rename_i hji
          subst hji
          rw [h2] at hj; cases hj
          exact h3 e' he' hb
        · exact hc j oj hj hL e' he' hb
    have next : ∀ (g' : Nat → Option Loc) (a' : Act) (w' : World), Inv A n g' (ap (SD (fun j => listed.getD j false) 0 es st0) e) a' w' → wpAny E.P .any ops Q fuel (listed.setIfInBounds i true) a' w' := by
      intro g' a' w' hI'
      rw [← hmore] at hI'
      refine ih (listed.setIfInBounds i true) (U.erase i) g' a' w' (by simp [hs]) ?_ (fun j hj hL => ?_) hclosed hI'
      · rw [List.length_erase_of_mem (hUm i hlt hLi)]; omega
      · rw [hset] at hL
        split at hL
        · cases hL
        · rename_i hne
          exact (List.mem_erase_of_ne hne).2 (hUm j hj hL)
    have hdd : ∀ d, e.o.dst = some d → d < n := hdst e.o (by rw [heo]; exact Array.mem_toList_iff.2 (Array.mem_of_getElem? h2))
    unfold wpOp
    rw [h2]
    simp only []
    rw [← heo]
    rcases hfind with ⟨hg, ht, hdn⟩ | ⟨hg, hp, _⟩
    · rw [gd_wanted hI.tm hg, if_neg (by simp)]
      refine next g _ w ?_
      have : ap (SD (fun j => listed.getD j false) 0 es st0) e = (SD (fun j => listed.getD j false) 0 es st0).put e.o.dst (one .skip) := by
        unfold ap
        rw [hdn, ht]
        rfl
      rw [this]
      exact hI.put (B' := _) hI.mem (Later.refl _) hdd (v := undef) rfl
    · rw [gd_wanted hI.tm hg, if_pos rfl]
      refine .inl (hop A g _ _ a w e.o _ e.t e.d hH hI.mem (viewB_sub _ _ _) hI.tm hp _ _ fun g' w' v hM hL ht => ?_)
      refine next g' _ w' ?_
      unfold ap
      exact hI.put hM hL hdd ht

end
end
end Ai
end Go.Proofs.YtpboclokodgnlaaGreat

/-! A18: The ideal interpreter against the machine: states at loops. -/
namespace Go.Proofs.YtpboclokodgnlaaGreat
namespace Ai
set_option linter.unusedSimpArgs false
set_option linter.unusedVariables false

/-- The place that an owned slot takes over. -/
def slotLoc (g : Nat → Option Loc) (c : Cd) : Sc → Option Loc
  | .own id => g id
  | _ => some ⟨0, 0, 0, 0, csize c, true, none⟩

def tmS (t : T) : Sc := match t with
  | .v (.one s) => s
  | _ => .und

def gS (g : Nat → Option Loc) (st : St) : List It → Nat → Option Loc
  | [] => fun _ => none
  | .so t _ c :: r => upd (gS g st r) (8 * t + 7) (slotLoc g c (tmS (st.tm t)))
  | .bo id j _ c :: r => upd (gS g st r) (8 * (id * 64 + j) + 6) (slotLoc g c ((cellAt st id j).getD .und))
  | .bx id _ :: r => upd (gS g st r) id (g id)
  | .vc id _ _ :: r => upd (gS g st r) id (g id)
  | .mp id _ _ :: r => upd (gS g st r) id (g id)
  | .sl _ _ _ _ :: r => gS g st r
  | .sk _ _ :: r => gS g st r
  | .cl _ _ _ _ :: r => gS g st r
  | .rp _ _ _ :: r => gS g st r
  | .bd _ _ _ _ :: r => gS g st r
  | .bk _ _ _ :: r => gS g st r
  | .sb _ _ :: r => gS g st r

/-- Blocks that are taken over. -/
def owS (g : Nat → Option Loc) (st : St) (took : List Nat) : Nat → Prop :=
  fun b => ∃ id0 ∈ took, ∃ blk l, st.bk id0 = .live blk ∧ g id0 = some l ∧ l.nil = false ∧ l.b = b

theorem nodupB_cons {a : Nat} {r : List Nat} (h : nodupB (a :: r) = true) : a ∉ r ∧ nodupB r = true := by
  simp only [nodupB, Bool.and_eq_true, Bool.not_eq_true'] at h
  refine ⟨fun hm => ?_, h.2⟩
  rw [List.contains_iff_mem.2 hm] at h
  cases h.1

theorem nodupB_app {a r : List Nat} (h : nodupB (a ++ r) = true) : nodupB r = true ∧ ∀ x ∈ a, x ∉ r := by
  induction a with
  | nil => exact ⟨h, fun x hx => by simp at hx⟩
  | cons y a ih =>
    obtain ⟨h1, h2⟩ := nodupB_cons h
    obtain ⟨h3, h4⟩ := ih h2
    refine ⟨h3, fun x hx => ?_⟩
    rcases List.mem_cons.1 hx with rfl | hx
    · exact fun hm => h1 (List.mem_append_right _ hm)
    · exact h4 x hx

theorem apartB_mem {a b : List Nat} (h : apartB a b = true) {x : Nat} (ha : x ∈ a) : x ∉ b := by
  unfold apartB at h
  rw [List.all_eq_true] at h
  have := h x ha
  intro hb
  rw [List.contains_iff_mem.2 hb] at this
  cases this

section
variable {E : Env} {A : Base} {g : Nat → Option Loc} {st : St} {a : Act} {w : World} {n : Nat}

/-- The setting behind the packing. -/
def cxS (A : Base) (g : Nat → Option Loc) (st : St) (w : World) (is : List It) : Cx := ⟨gS g st is, A.S, owS g st (tookS st is), fun b => A.w0.heap.size ≤ b ∨ A.X b, w⟩

theorem owS_ow {took : List Nat} {b : Nat} (h : owS g st took b) : owOf g st.bk b := by
  obtain ⟨id0, _, blk, l, h1, h2, h3, h4⟩ := h
  exact ⟨id0, blk, l, h1, h2, h3, h4⟩

/-- What was not looked at by an owned name stays. -/
theorem okI_S {is : List It} {I : List Nat} {org : Nat} {b : Nat} (h : okI A g st.bk w I org b) (hI : ∀ id ∈ I, id ∉ tookS st is) : (cxS A g st w is).ok org b := by
  refine ⟨h.1, ?_, h.2.2⟩
  rintro ⟨id0, hm, blk, l, h1, h2, h3, h4⟩
  exact hI id0 (h.2.1 id0 blk l h1 h2 h3 h4) hm

theorem ok_S {is : List It} {org org' : Nat} {b : Nat} (h : (cxOf A g st.bk w).ok org b) (ho : orgLe org org' = true) : (cxS A g st w is).ok org' b :=
  ⟨A.mono _ _ _ ho h.1, fun hw => h.2.1 (owS_ow hw), h.2.2⟩

/-- An owned slice, in the new setting. -/
theorem br_S {is : List It} {org org' : Nat} {c : Cd} {xs : List (El c)} {l : Loc} (h : BR (cxOf A g st.bk w) (.vec org c xs) l) (ho : orgLe org org' = true) : BR (cxS A g st w is) (.vec org' c xs) l := by
  rcases h with h | ⟨hl, hS, hn, hc, hz, arr, t, ha, hs, he⟩
  · exact .inl h
  · refine .inr ⟨hl, A.mono _ _ _ ho hS, hn, hc, hz, arr, t, ha, hs, fun i x hx => ?_⟩
    obtain ⟨cs, hd, hv⟩ := he i x hx
    exact ⟨cs, hd.mono (Nat.le_refl _) fun b hb hok => ⟨ok_S hok ho, rfl⟩, hv⟩

theorem castL_br {C : Cx} {org : Nat} {c c' : Cd} (h : c' = c) {xs : List (El c')} {l : Loc} (hb : BR C (.vec org c' xs) l) : BR C (.vec org c (castL h xs)) l := by
  subst h; exact hb

/-- What is owned is live. -/
theorem ownedL_inv {B : Nat → BS} {c : Cd} {id : Nat} {xs : List (El c)} (h : ownedL B c id = some xs) : ∃ org c' xs', B id = .live (.vec org c' xs') ∧ orgS B (.own id) = org ∧ ∃ hc : c' = c, xs = castL hc xs' := by
  unfold ownedL at h
  cases hl : isLive B id
  · rw [hl] at h; cases h
  · rw [hl] at h
    simp only [listOf] at h
    split at h
    · rename_i v hv
      split at h
      · rename_i hc
        cases h
        have hv2 := hv
        unfold vecOf at hv
        split at hv
        · rename_i org c' xs' hb
          cases hv
          exact ⟨org, c', xs', hb, by simp [orgS, hv2], hc, rfl⟩
        · rename_i hb; simp [isLive, hb] at hl
        · cases hv
      · cases h
    · cases h

/-- A datum, in the new setting. -/
theorem dec_S {is : List It} (hM : Mem A g st.bk w) {c : Cd} {ss : List Sc} {vs : List Value} {x : El c} {org : Nat} (ha : All2 (SR (cxOf A g st.bk w)) ss vs) (hd : decC st.bk c ss = some x) (ho : orgLe (orgL st.bk ss) org = true)
    (hs : ∀ id ∈ idsL ss, id ∉ tookS st is) : DR w ((cxS A g st w is).ok org) c x vs :=
  (decC_dr hM (Sub.refl _) (I := idsL ss) ha hd (fun id h _ => h) ho).mono (Nat.le_refl _) fun b hb hok => ⟨okI_S hok hs, rfl⟩

theorem mkVal_tr {C : Cx} {org : Nat} {c : Cd} {x : El c} {agg : Bool} {v : Value} (h : match agg with
    | false => DR C.w (C.ok org) c x [v]
    | true => ∃ arr : Array Value, v = .agg arr ∧ DR C.w (C.ok org) c x arr.toList) : TR C (.v (mkVal agg (scells org c x))) v := by
  cases agg
  · have hl := h.length
    have hsl := scells_length org c x
    have hs := scells_sr h
    match hsc : scells org c x, hsl, hs with
    | [s], _, hs => exact hs.1
    | [], hsl, _ => simp at hl hsl; omega
    | _ :: _ :: _, hsl, _ => simp at hl hsl; omega
  · obtain ⟨arr, hv, hd⟩ := h
    have hs := scells_sr hd
    have : mkVal true (scells org c x) = .agg (scells org c x) := by unfold mkVal; rfl
    rw [this]
    exact ⟨arr, hv, hs⟩

theorem eqCap_eq : ∀ {xs ys : List Cap}, eqCap xs ys = true → xs = ys
  | [], [], _ => rfl
  | .ptr a :: r, .ptr b :: s, h => by
    simp only [eqCap, Bool.and_eq_true] at h
    rw [Nat.eq_of_beq_eq_true h.1, eqCap_eq h.2]
  | [], _ :: _, h => by cases h
  | .ptr _ :: _, [], h => by cases h
  | .pp _ _ _ :: _, [], h => by cases h
  | .ptr _ :: _, .pp _ _ _ :: _, h => by cases h
  | .pp _ _ _ :: _, _ :: _, h => by cases h

theorem eqK_eq {s s' : Sc} (h : eqK s s' = true) : s = s' := by
  unfold eqK at h
  split at h <;> first
    | rfl
    | (rw [Nat.eq_of_beq_eq_true h]; done)
    | (simp only [Bool.and_eq_true] at h; rw [Nat.eq_of_beq_eq_true h.1, Nat.eq_of_beq_eq_true h.2]; done)
    | (simp only [Bool.and_eq_true] at h; rw [Nat.eq_of_beq_eq_true h.1, eqCap_eq h.2]; done)
    | (cases h; done)

/-- A constant, in the new setting: the names that it uses are kept. -/
theorem k_S {C C' : Cx} {s s' : Sc} {v : Value} (he : eqK s s' = true) (h : SR C s' v) (hg : ∀ id ∈ kNames s, C'.g id = C.g id) : SR C' s v := by
  have := eqK_eq he
  subst this
  cases s with
  | own id => obtain ⟨l, h1, h2⟩ := h; exact ⟨l, by rw [hg id (by simp [kNames])]; exact h1, h2⟩
  | mp id => obtain ⟨l, h1, h2⟩ := h; exact ⟨l, by rw [hg id (by simp [kNames])]; exact h1, h2⟩
  | ptr id off => obtain ⟨l, h1, h2⟩ := h; exact ⟨l, by rw [hg id (by simp [kNames])]; exact h1, h2⟩
  | fn f caps =>
    obtain ⟨cs, h1, h2⟩ := h
    refine ⟨cs, h1, ?_⟩
    have hc : eqCap caps caps = true := by simpa [eqK] using he
    have hg' : ∀ id ∈ capNames caps, C'.g id = C.g id := hg
    clear he hg h1
    obtain ⟨vs⟩ := cs
    simp only at h2 ⊢
    induction caps generalizing vs with
    | nil => cases vs with
      | nil => trivial
      | cons => exact h2.elim
    | cons p r ih =>
      cases vs with
      | nil => exact h2.elim
      | cons u vs =>
        cases p with
        | ptr id =>
          simp only [eqCap, Bool.and_eq_true] at hc
          obtain ⟨⟨l, q1, q2⟩, q3⟩ := h2
          exact ⟨⟨l, by rw [hg' id (by simp [capNames])]; exact q1, q2⟩, ih hc.2 (fun id hid => hg' id (by simp [capNames, hid])) vs q3⟩
        | pp org c x => cases hc
  | nils => exact h
  | nilp => exact h
  | nilI => exact h
  | errI => exact h
  | skip => exact h
  | und => exact h
  | int _ _ => cases he
  | bool _ => cases he
  | str _ => cases he
  | ps _ _ _ => cases he
  | psn _ _ _ => cases he
  | boolU => cases he
  | sub _ _ _ => cases he
  | pel _ _ _ => cases he
  | pp _ _ _ _ => cases he

theorem bk0_live (id : Nat) (b : Blk) : bk0 id ≠ .live b := by
  unfold bk0; cases Nat.beq (id % 8) 5 <;> simp

theorem bk0_ro (id org : Nat) (c : Cd) (xs : List (El c)) : bk0 id ≠ .ro org c xs := by
  unfold bk0; cases Nat.beq (id % 8) 5 <;> simp

theorem boxSet_cases (B : Nat → BS) (id j : Nat) (s : Sc) : (∃ cs, B id = .live (.box cs) ∧ boxSet B id j s = upd B id (.live (.box (cs.set j s)))) ∨ ((∀ cs, B id ≠ .live (.box cs)) ∧ boxSet B id j s = B) := by
  unfold boxSet
  split
  · rename_i cs h; exact .inl ⟨cs, h, rfl⟩
  · rename_i h; exact .inr ⟨fun cs e => h cs e, rfl⟩

/-- What is known of a packed state, item by item. -/
structure Pk (A : Base) (g : Nat → Option Loc) (st : St) (a : Act) (w : World) (is r : List It) (s : St) : Prop where
  tm : ∀ t, TR (cxS A g st w is) (s.tm t) (a.tmps.getD t undef)
  live : ∀ id, id ∈ makesI r → ∃ blk, s.bk id = .live blk
  br : ∀ id blk, s.bk id = .live blk → id ∈ makesI r ∧ ∃ l, gS g st is id = some l ∧ BR (cxS A g st w is) blk l ∧ (l.nil = false → ∃ id0 ∈ tookS st r, ∃ blk0, st.bk id0 = .live blk0 ∧ g id0 = some l)
  else_ : ∀ id, id ∉ makesI r → s.bk id = bk0 id
  inj : ∀ id id' b b' l l', s.bk id = .live b → s.bk id' = .live b' → gS g st is id = some l → gS g st is id' = some l' → l.nil = false → l'.nil = false → l.b = l'.b → id = id'
  box : ∀ id, id ∈ keepsI r → ∀ cs, s.bk id = .live (.box cs) → ∃ cs0, st.bk id = .live (.box cs0) ∧ cs.length = cs0.length

/-- A box's cell is filled in. -/
theorem Pk.cell {is r : List It} {s : St} (hM : Mem A g st.bk w) (h : Pk A g st a w is r s) {id j : Nat} {s0 sc : Sc} (hk : id ∈ keepsI r) (hgk : gS g st is id = g id) (hc : cellAt st id j = some s0)
    (hs : ∀ v, SR (cxOf A g st.bk w) s0 v → SR (cxS A g st w is) sc v) : Pk A g st a w is r { s with bk := boxSet s.bk id j sc } := by
  rcases boxSet_cases s.bk id j sc with ⟨cs, hb, e⟩ | ⟨_, e⟩
  · rw [e]
    have live : ∀ i b, upd s.bk id (.live (.box (cs.set j sc))) i = .live b → ∃ b, s.bk i = .live b := fun i b hi => by
      rcases upd_cases s.bk id i (.live (.box (cs.set j sc))) with ⟨rfl, _⟩ | ⟨_, h1⟩
      · exact ⟨_, hb⟩
      · exact ⟨_, h1 ▸ hi⟩
    refine ⟨h.tm, fun i hi => ?_, fun i blk hi => ?_, fun i hi => ?_, fun i i' b b' l l' hi hi' => ?_, fun i hi cs' hcs => ?_⟩
    · rcases upd_cases s.bk id i (.live (.box (cs.set j sc))) with ⟨rfl, h1⟩ | ⟨_, h1⟩
      · exact ⟨_, h1⟩
      · obtain ⟨b, hb⟩ := h.live i hi
        exact ⟨b, h1.trans hb⟩
    · rcases upd_cases s.bk id i (.live (.box (cs.set j sc))) with ⟨rfl, h1⟩ | ⟨_, h1⟩
      · have hi2 := h1.symm.trans hi
        cases hi2
        obtain ⟨h2, l, h3, h4, h5⟩ := h.br i _ hb
        refine ⟨h2, l, h3, ?_, h5⟩
        obtain ⟨h0, arr, t, harr, hall⟩ := h4
        refine ⟨h0, arr, t, harr, ?_⟩
        -- the cell of old
        unfold cellAt at hc
        split at hc
        · rename_i cs0 hb0
          obtain ⟨l0, hg0, hbr0, _⟩ := hM.br _ _ hb0
          rw [hgk, hg0] at h3
          cases h3
          obtain ⟨_, arr0, t0, harr0, hall0⟩ := hbr0
          have : arr0 = arr := by
            have := harr0.symm.trans harr
            cases this; rfl
          subst this
          refine All2.of_get (by simp [hall.length]) fun m x y hx hy => ?_
          by_cases e : j = m
          · subst e
            rw [List.getElem?_set] at hx
            simp only [if_true] at hx
            split at hx
            · cases hx
              obtain ⟨y', hy', hsr⟩ := hall0.get hc
              rw [hy] at hy'; cases hy'
              exact hs _ hsr
            · cases hx
          · rw [List.getElem?_set_ne e] at hx
            obtain ⟨y', hy', hsr⟩ := hall.get hx
            rw [hy] at hy'; cases hy'
            exact hsr
        · cases hc
      · exact h.br i blk (h1 ▸ hi)
    · have hne : i ≠ id := by rintro rfl; exact hi (h.br i _ hb).1
      show upd s.bk id _ i = _
      rw [upd_ne _ _ hne]
      exact h.else_ i hi
    · obtain ⟨_, q1⟩ := live i b hi
      obtain ⟨_, q2⟩ := live i' b' hi'
      exact h.inj i i' _ _ l l' q1 q2
    · rcases upd_cases s.bk id i (.live (.box (cs.set j sc))) with ⟨rfl, h1⟩ | ⟨_, h1⟩
      · have hi2 := h1.symm.trans hcs
        cases hi2
        obtain ⟨cs0, q1, q2⟩ := h.box i hi cs hb
        exact ⟨cs0, q1, by simpa using q2⟩
      · exact h.box i hi cs' (h1 ▸ hcs)
  · rw [e]; exact h

/-- A new name. -/
theorem Pk.make {is r : List It} {s : St} (hM : Mem A g st.bk w) (h : Pk A g st a w is r s) {r' : List It} {id : Nat} {took : List Nat} {blk : Blk} {l : Loc} (hmk : makesI r' = id :: makesI r) (hnew : id ∉ makesI r)
    (htk : tookS st r' = took ++ tookS st r) (hnd : ∀ x ∈ took, x ∉ tookS st r) (hg : gS g st is id = some l) (hbr : BR (cxS A g st w is) blk l) (hsrc : l.nil = false → ∃ id0 ∈ took, ∃ blk0, st.bk id0 = .live blk0 ∧ g id0 = some l)
    (hkeep : ∀ i ∈ keepsI r', i = id ∨ i ∈ keepsI r) (hbox : id ∈ keepsI r' → ∀ cs, blk = .box cs → ∃ cs0, st.bk id = .live (.box cs0) ∧ cs.length = cs0.length) (hkn : ∀ i ∈ keepsI r, i ∈ makesI r) :
    Pk A g st a w is r' { s with bk := upd s.bk id (.live blk) } := by
  refine ⟨h.tm, fun i hi => ?_, fun i b hi => ?_, fun i hi => ?_, fun i i' b b' l1 l2 hi hi' g1 g2 n1 n2 e => ?_, fun i hi cs hcs => ?_⟩
  · rcases upd_cases s.bk id i (.live blk) with ⟨rfl, h1⟩ | ⟨ne, h1⟩
    · exact ⟨_, h1⟩
    · rw [hmk] at hi
      obtain ⟨b, hb⟩ := h.live i ((List.mem_cons.1 hi).resolve_left ne)
      exact ⟨b, h1.trans hb⟩
  · rcases upd_cases s.bk id i (.live blk) with ⟨rfl, h1⟩ | ⟨ne, h1⟩
    · have hi2 := h1.symm.trans hi
      cases hi2
      refine ⟨by rw [hmk]; simp, l, hg, hbr, fun hn => ?_⟩
      obtain ⟨id0, q1, q2⟩ := hsrc hn
      exact ⟨id0, by rw [htk]; exact List.mem_append_left _ q1, q2⟩
    · obtain ⟨q1, l', q2, q3, q4⟩ := h.br i b (h1 ▸ hi)
      refine ⟨by rw [hmk]; exact List.mem_cons_of_mem _ q1, l', q2, q3, fun hn => ?_⟩
      obtain ⟨id0, q5, q6⟩ := q4 hn
      exact ⟨id0, by rw [htk]; exact List.mem_append_right _ q5, q6⟩
  · rw [hmk] at hi
    simp only [List.mem_cons, not_or] at hi
    show upd s.bk id _ i = _
    rw [upd_ne _ _ hi.1]
    exact h.else_ i hi.2
  · -- one block has one source
    have src : ∀ i b l1, upd s.bk id (.live blk) i = .live b → gS g st is i = some l1 → l1.nil = false → (i = id ∧ ∃ id0 ∈ took, ∃ blk0, st.bk id0 = .live blk0 ∧ g id0 = some l1) ∨
        (i ≠ id ∧ s.bk i = .live b ∧ ∃ id0 ∈ tookS st r, ∃ blk0, st.bk id0 = .live blk0 ∧ g id0 = some l1) := fun i b l1 hi g1 n1 => by
      rcases upd_cases s.bk id i (.live blk) with ⟨rfl, h1⟩ | ⟨ne, h1⟩
      · rw [hg] at g1; cases g1
        exact .inl ⟨rfl, hsrc n1⟩
      · have hi2 := h1 ▸ hi
        obtain ⟨_, l', q2, _, q4⟩ := h.br i b hi2
        rw [g1] at q2; cases q2
        exact .inr ⟨ne, hi2, q4 n1⟩
    rcases src i b l1 hi g1 n1 with ⟨e1, id0, m1, b0, p1, p2⟩ | ⟨e1, hb1, id0, m1, b0, p1, p2⟩ <;> rcases src i' b' l2 hi' g2 n2 with ⟨e2, id1, m2, b1, p3, p4⟩ | ⟨e2, hb2, id1, m2, b1, p3, p4⟩
    · rw [e1, e2]
    · have := hM.inj id0 id1 _ _ _ _ p1 p3 p2 p4 n1 n2 e
      subst this
      exact (hnd _ m1 m2).elim
    · have := hM.inj id0 id1 _ _ _ _ p1 p3 p2 p4 n1 n2 e
      subst this
      exact (hnd _ m2 m1).elim
    · exact h.inj i i' b b' l1 l2 hb1 hb2 g1 g2 n1 n2 e
  · rcases upd_cases s.bk id i (.live blk) with ⟨rfl, h1⟩ | ⟨ne, h1⟩
    · have hi2 := h1.symm.trans hcs
      simp only [BS.live.injEq] at hi2
      exact hbox hi cs hi2
    · exact h.box i ((hkeep i hi).resolve_left ne) cs (h1 ▸ hcs)

/-- A temporary is filled in. -/
theorem Pk.tmp {is r : List It} {s : St} (h : Pk A g st a w is r s) {t : Nat} {x : T} (hx : TR (cxS A g st w is) x (a.tmps.getD t undef)) : Pk A g st a w is r { s with tm := upd s.tm t x } := by
  refine ⟨fun m => ?_, h.live, h.br, h.else_, h.inj, h.box⟩
  by_cases e : m = t
  · subst e; show TR _ (upd s.tm m x m) _; rw [upd_same]; exact hx
  · show TR _ (upd s.tm t x m) _; rw [upd_ne _ _ e]; exact h.tm m

/-- The same names and the same owned slices. -/
theorem Pk.same {is r r' : List It} {s : St} (h : Pk A g st a w is r s) (h1 : makesI r' = makesI r) (h2 : tookS st r' = tookS st r) (h3 : keepsI r' = keepsI r) : Pk A g st a w is r' s := by
  refine ⟨h.tm, by rw [h1]; exact h.live, ?_, by rw [h1]; exact h.else_, h.inj, by rw [h3]; exact h.box⟩
  rw [h1, h2]; exact h.br

theorem keeps_makes : ∀ (r : List It), ∀ i ∈ keepsI r, i ∈ makesI r
  | [], i, h => by simp [keepsI] at h
  | .bx id n :: r, i, h => by
    simp only [keepsI, makesI, List.mem_cons] at h ⊢; exact h.imp (fun h => h) (keeps_makes r i)
  | .vc id _ _ :: r, i, h => by
    simp only [keepsI, makesI, List.mem_cons] at h ⊢; exact h.imp (fun h => h) (keeps_makes r i)
  | .mp id _ _ :: r, i, h => by
    simp only [keepsI, makesI, List.mem_cons] at h ⊢; exact h.imp (fun h => h) (keeps_makes r i)
  | .so _ _ _ :: r, i, h => by
    simp only [keepsI, makesI, List.mem_cons] at h ⊢; exact .inr (keeps_makes r i h)
  | .bo _ _ _ _ :: r, i, h => by
    simp only [keepsI, makesI, List.mem_cons] at h ⊢; exact .inr (keeps_makes r i h)
  | .sl _ _ _ _ :: r, i, h => keeps_makes r i h
  | .sk _ _ :: r, i, h => keeps_makes r i h
  | .cl _ _ _ _ :: r, i, h => keeps_makes r i h
  | .rp _ _ _ :: r, i, h => keeps_makes r i h
  | .bd _ _ _ _ :: r, i, h => keeps_makes r i h
  | .bk _ _ _ :: r, i, h => keeps_makes r i h
  | .sb _ _ :: r, i, h => keeps_makes r i h

theorem gS_keeps (g : Nat → Option Loc) (st : St) : ∀ (r : List It), nodupB (makesI r) = true → ∀ i ∈ keepsI r, gS g st r i = g i
  | [], _, i, h => by simp [keepsI] at h
  | .bx id n :: r, hn, i, h => by
    obtain ⟨h1, h2⟩ := nodupB_cons hn
    simp only [keepsI, List.mem_cons] at h
    by_cases e : i = id
    · subst e; simp only [gS]; rw [upd_same]
    · simp only [gS]; rw [upd_ne _ _ e]; exact gS_keeps g st r h2 i (h.resolve_left e)
  | .vc id _ _ :: r, hn, i, h => by
    obtain ⟨h1, h2⟩ := nodupB_cons hn
    simp only [keepsI, List.mem_cons] at h
    by_cases e : i = id
    · subst e; simp only [gS]; rw [upd_same]
    · simp only [gS]; rw [upd_ne _ _ e]; exact gS_keeps g st r h2 i (h.resolve_left e)
  | .mp id _ _ :: r, hn, i, h => by
    obtain ⟨h1, h2⟩ := nodupB_cons hn
    simp only [keepsI, List.mem_cons] at h
    by_cases e : i = id
    · subst e; simp only [gS]; rw [upd_same]
    · simp only [gS]; rw [upd_ne _ _ e]; exact gS_keeps g st r h2 i (h.resolve_left e)
  | .so t _ c :: r, hn, i, h => by
    obtain ⟨h1, h2⟩ := nodupB_cons hn
    have h' : i ∈ keepsI r := h
    have e : i ≠ 8 * t + 7 := by rintro rfl; exact h1 (keeps_makes r _ h')
    simp only [gS]; rw [upd_ne _ _ e]; exact gS_keeps g st r h2 i h'
  | .bo id j _ c :: r, hn, i, h => by
    obtain ⟨h1, h2⟩ := nodupB_cons hn
    have h' : i ∈ keepsI r := h
    have e : i ≠ 8 * (id * 64 + j) + 6 := by rintro rfl; exact h1 (keeps_makes r _ h')
    simp only [gS]; rw [upd_ne _ _ e]; exact gS_keeps g st r h2 i h'
  | .sl _ _ _ _ :: r, hn, i, h => gS_keeps g st r hn i h
  | .sk _ _ :: r, hn, i, h => gS_keeps g st r hn i h
  | .cl _ _ _ _ :: r, hn, i, h => gS_keeps g st r hn i h
  | .rp _ _ _ :: r, hn, i, h => gS_keeps g st r hn i h
  | .bd _ _ _ _ :: r, hn, i, h => gS_keeps g st r hn i h
  | .bk _ _ _ :: r, hn, i, h => gS_keeps g st r hn i h
  | .sb _ _ :: r, hn, i, h => gS_keeps g st r hn i h

theorem decArg_inv {B : Nat → BS} {c : Cd} {agg : Bool} {v : Val} {x : El c} (h : decArg B c agg v = some x) : (agg = false ∧ ∃ s, v = .one s ∧ decC B c [s] = some x) ∨ (agg = true ∧ ∃ cs, v = .agg cs ∧ decC B c cs = some x) := by
  unfold decArg at h
  cases v with
  | one s => cases agg <;> simp only [] at h; exact .inl ⟨rfl, s, rfl, h⟩; cases h
  | agg cs => cases agg <;> simp only [] at h; cases h; exact .inr ⟨rfl, cs, rfl, h⟩

/-- A datum argument, in the new setting. -/
theorem arg_S {is : List It} (hM : Mem A g st.bk w) {c : Cd} {agg : Bool} {v : Val} {u : Value} {x : El c} {org : Nat} (hv : VR (cxOf A g st.bk w) v u) (hd : decArg st.bk c agg v = some x) (ho : orgLe (orgL st.bk v.cells) org = true)
    (hs : ∀ id ∈ idsL v.cells, id ∉ tookS st is) : TR (cxS A g st w is) (.v (mkVal agg (scells org c x))) u := by
  refine mkVal_tr ?_
  rcases decArg_inv hd with ⟨rfl, s, rfl, hd⟩ | ⟨rfl, cs, rfl, hd⟩
  · exact dec_S hM (ss := [s]) (vs := [u]) ⟨hv, trivial⟩ hd ho hs
  · obtain ⟨arr, rfl, ha⟩ := hv
    exact ⟨arr, rfl, dec_S hM ha hd ho hs⟩

theorem cellAt_sr (hM : Mem A g st.bk w) {id j : Nat} {s0 : Sc} (hc : cellAt st id j = some s0) : ∃ v, SR (cxOf A g st.bk w) s0 v := by
  unfold cellAt at hc
  split at hc
  · rename_i cs0 hb0
    obtain ⟨l0, hg0, ⟨_, arr0, t0, harr0, hall0⟩, _⟩ := hM.br _ _ hb0
    obtain ⟨v, _, h⟩ := hall0.get hc
    exact ⟨v, h⟩
  · cases hc

theorem head_S {C : Cx} {org : Nat} {c : Cd} {x : El c} {v : Value} (h : DR C.w (C.ok org) c x [v]) : SR C (headS (scells org c x)) v := by
  have hl := h.length
  have hsl := scells_length org c x
  have hs := scells_sr h
  match hsc : scells org c x, hsl, hs with
  | [s], _, hs => exact hs.1
  | [], hsl, _ => simp at hl hsl; omega
  | _ :: _ :: _, hsl, _ => simp at hl hsl; omega

theorem thd_cons {c : Cd} {r : List Cd} (x : El c) (y : Tup r) : thd (c := c) (r := r) (tcons x y) = x := by cases r <;> rfl
theorem ttl_cons {c : Cd} {r : List Cd} (x : El c) (y : Tup r) : ttl (c := c) (r := r) (tcons x y) = y := by cases r <;> rfl

theorem if_some {α : Type} {p : Prop} [Decidable p] {x : Option α} {y : α} (h : (if p then x else none) = some y) : p ∧ x = some y := by
  split at h
  · rename_i hp; exact ⟨hp, h⟩
  · cases h

theorem keeps_live : ∀ (r : List It) (x : Tup (icodes r)), packS1 r st = some x → ∀ id ∈ keepsI r, isLive st.bk id = true
  | [], _, _, id, h => by simp [keepsI] at h
  | .sl t org agg c :: r, x, hp, id, h => by
    simp only [packS1] at hp
    split at hp
    · obtain ⟨_, hp⟩ := if_some hp
      split at hp
      · rename_i y z hy hz; exact keeps_live r z hz id h
      · cases hp
    · cases hp
  | .so t org c :: r, x, hp, id, h => by
    simp only [packS1] at hp
    split at hp
    · obtain ⟨_, hp⟩ := if_some hp
      split at hp
      · rename_i y z hy hz; exact keeps_live r z hz id h
      · cases hp
    · split at hp
      · rename_i z hz; exact keeps_live r z hz id h
      · cases hp
    · cases hp
  | .sk t s :: r, x, hp, id, h => by
    simp only [packS1] at hp
    split at hp
    · obtain ⟨_, hp⟩ := if_some hp
      exact keeps_live r x hp id h
    · cases hp
  | .cl t f org caps :: r, x, hp, id, h => by
    simp only [packS1] at hp
    split at hp
    · obtain ⟨_, hp⟩ := if_some hp
      split at hp
      · rename_i y z hy hz; exact keeps_live r z hz id h
      · cases hp
    · cases hp
  | .rp t org c :: r, x, hp, id, h => by
    simp only [packS1] at hp
    split at hp
    · obtain ⟨_, hp⟩ := if_some hp
      split at hp
      · rename_i y z hy hz; exact keeps_live r z hz id h
      · cases hp
    · cases hp
  | .bx i m :: r, x, hp, id, h => by
    simp only [packS1] at hp
    split at hp
    · rename_i cs hb
      obtain ⟨_, hp⟩ := if_some hp
      simp only [keepsI, List.mem_cons] at h
      rcases h with rfl | h
      · exact isLive_of hb
      · exact keeps_live r x hp id h
    · cases hp
  | .bd i j org c :: r, x, hp, id, h => by
    simp only [packS1] at hp
    split at hp
    · obtain ⟨_, hp⟩ := if_some hp
      split at hp
      · rename_i y z hy hz; exact keeps_live r z hz id h
      · cases hp
    · cases hp
  | .bo i j org c :: r, x, hp, id, h => by
    simp only [packS1] at hp
    split at hp
    · obtain ⟨_, hp⟩ := if_some hp
      split at hp
      · rename_i y z hy hz; exact keeps_live r z hz id h
      · cases hp
    · split at hp
      · rename_i z hz; exact keeps_live r z hz id h
      · cases hp
    · cases hp
  | .bk i j s :: r, x, hp, id, h => by
    simp only [packS1] at hp
    split at hp
    · obtain ⟨_, hp⟩ := if_some hp
      exact keeps_live r x hp id h
    · cases hp
  | .vc i org c :: r, x, hp, id, h => by
    simp only [packS1] at hp
    obtain ⟨_, hp⟩ := if_some hp
    split at hp
    · rename_i y z hy hz
      simp only [keepsI, List.mem_cons] at h
      rcases h with rfl | h
      · obtain ⟨_, _, _, hb, _⟩ := ownedL_inv hy; exact isLive_of hb
      · exact keeps_live r z hz id h
    · cases hp
  | .mp i kc vc :: r, x, hp, id, h => by
    simp only [packS1] at hp
    split at hp
    · rename_i hb
      split at hp
      · split at hp
        · rename_i z hz
          simp only [keepsI, List.mem_cons] at h
          rcases h with rfl | h
          · exact isLive_of hb
          · exact keeps_live r z hz id h
        · cases hp
      · cases hp
    · cases hp
  | .sb t i :: r, x, hp, id, h => by
    simp only [packS1] at hp
    split at hp
    · obtain ⟨_, hp⟩ := if_some hp
      split at hp
      · rename_i z hz; exact keeps_live r z hz id h
      · cases hp
    · cases hp

theorem makes_keeps5 : ∀ (r : List It) (id : Nat), id ∈ makesI r → id % 8 = 5 → id ∈ keepsI r
  | [], id, h, _ => by simp [makesI] at h
  | .bx i m :: r, id, h, h5 => by simp only [makesI, keepsI, List.mem_cons] at h ⊢; exact h.imp (fun h => h) fun h => makes_keeps5 r id h h5
  | .vc i _ _ :: r, id, h, h5 => by simp only [makesI, keepsI, List.mem_cons] at h ⊢; exact h.imp (fun h => h) fun h => makes_keeps5 r id h h5
  | .mp i _ _ :: r, id, h, h5 => by simp only [makesI, keepsI, List.mem_cons] at h ⊢; exact h.imp (fun h => h) fun h => makes_keeps5 r id h h5
  | .so t _ _ :: r, id, h, h5 => by
    simp only [makesI, List.mem_cons] at h
    rcases h with rfl | h
    · omega
    · exact makes_keeps5 r id h h5
  | .bo i j _ _ :: r, id, h, h5 => by
    simp only [makesI, List.mem_cons] at h
    rcases h with rfl | h
    · omega
    · exact makes_keeps5 r id h h5
  | .sl _ _ _ _ :: r, id, h, h5 => makes_keeps5 r id h h5
  | .sk _ _ :: r, id, h, h5 => makes_keeps5 r id h h5
  | .cl _ _ _ _ :: r, id, h, h5 => makes_keeps5 r id h h5
  | .rp _ _ _ :: r, id, h, h5 => makes_keeps5 r id h h5
  | .bd _ _ _ _ :: r, id, h, h5 => makes_keeps5 r id h h5
  | .bk _ _ _ :: r, id, h, h5 => makes_keeps5 r id h h5
  | .sb _ _ :: r, id, h, h5 => makes_keeps5 r id h h5

theorem scells_orgle (Bx : Nat → BS) (org0 : Nat) : ∀ (c : Cd) (x : El c), orgLe (orgL Bx (scells org0 c x)) org0 = true := by
  intro c
  induction c with
  | pair p q ihp ihq =>
    intro x
    show orgLe (orgL Bx (scells org0 p x.1 ++ scells org0 q x.2)) org0 = true
    rw [orgL_app]
    have h1 := ihp x.1
    have h2 := ihq x.2
    simp only [orgLe, beq_iff_eq] at h1 h2 ⊢
    rw [Nat.or_assoc, h2, h1]
  | list c _ => intro x; simp [scells, orgL, orgS, orgLe]
  | _ => intro x; simp [scells, orgL, orgS, orgLe]

/-- A read-only pointer, in the new setting. -/
theorem pp_S {is : List It} (hM : Mem A g st.bk w) {o : Nat} {c' c : Cd} {x0 : El c'} {y : El c} {org : Nat} {v : Value} (h : PR (cxOf A g st.bk w) o c' x0 0 v) (hd : decC st.bk c (scells o c' x0) = some y) (ho : orgLe o org = true) : PR (cxS A g st w is) org c y 0 v := by
  obtain ⟨b, k, cs, hv, hno, hb, hdr, hcell⟩ := h
  refine ⟨b, k, cs, hv, fun hw => hno (owS_ow hw), hb, ?_, hcell⟩
  exact dec_S hM (scells_sr hdr) hd (orgLe_trans (scells_orgle _ _ _ _) ho) fun id hid => by rw [scells_ids] at hid; simp at hid

theorem caps_S {is : List It} (hM : Mem A g st.bk w) {org : Nat} : ∀ (cs : List Cd) (caps : List Cap) (vs : List Value) (x : El (pairs cs)), All2 (CapR (cxOf A g st.bk w)) caps vs → decCaps st.bk cs caps = some x → capBox caps = [] → orgLe (capOrg st.bk caps) org = true →
    All2 (CapR (cxS A g st w is)) (capsC org cs x) vs := by
  intro cs
  induction cs with
  | nil =>
    intro caps vs x ha hd _ _
    cases caps with
    | nil => cases vs with
      | nil => trivial
      | cons => exact ha.elim
    | cons => simp [decCaps] at hd
  | cons c r ih =>
    intro caps vs x ha hd hb ho
    cases caps with
    | nil => cases r <;> simp [decCaps] at hd
    | cons q qs =>
      cases vs with
      | nil => exact ha.elim
      | cons v vs =>
        cases q with
        | ptr id => simp [capBox] at hb
        | pp o c' x0 =>
          simp only [capBox] at hb
          simp only [capOrg] at ho
          have ho1 := orgLe_trans (orgLe_or_left o (capOrg st.bk qs)) ho
          have ho2 := orgLe_trans (orgLe_or_right o (capOrg st.bk qs)) ho
          cases r with
          | nil =>
            cases qs with
            | nil =>
              simp only [decCaps, boxOf] at hd
              cases vs with
              | nil => exact ⟨pp_S hM ha.1 hd ho1, trivial⟩
              | cons => exact ha.2.elim
            | cons => simp [decCaps] at hd
          | cons c2 r2 =>
            simp only [decCaps, boxOf] at hd
            split at hd
            · rename_i x1 y1 hx1 hy1
              cases hd
              exact ⟨pp_S hM ha.1 hx1 ho1, ih qs vs y1 ha.2 hy1 hb ho2⟩
            · cases hd

/-- A packed state is a state of the machine. -/
theorem pk_of (hI : Inv A n g st a w) {is : List It} (hnd : nodupB (makesI is) = true) (huse : ∀ id ∈ usesI is, id ∈ keepsI is) (hsn : ∀ id ∈ seenS st is, id ∉ tookS st is) :
    ∀ (r : List It) (x : Tup (icodes r)), packS1 r st = some x → nodupB (makesI r) = true → nodupB (tookS st r) = true → boxesOk r = true → (∀ i ∈ makesI r, gS g st is i = gS g st r i) → (∀ i ∈ keepsI r, i ∈ keepsI is) → (∀ i ∈ usesI r, i ∈ usesI is) → (∀ i ∈ seenS st r, i ∈ seenS st is) →
      Pk A g st a w is r (mkS r x)
  | [], x, _, _, _, _, _, _, _, _ => ⟨fun _ => trivial, fun id h => by simp [makesI] at h, fun id blk h => (bk0_live id blk h).elim, fun _ _ => rfl, fun id _ b _ _ _ h => (bk0_live id b h).elim, fun id h => by simp [keepsI] at h⟩
  | .sl t org agg c :: r, x, hp, h1, h2, h3, h4, h5, h6, h7 => by
    simp only [packS1] at hp
    split at hp
    · rename_i v hv
      split at hp
      · rename_i ho
        split at hp
        · rename_i y z hy hz
          cases hp
          have ih := pk_of hI hnd huse hsn r z hz h1 h2 h3 h4 h5 h6 (fun i hi => h7 i (by simp only [seenS]; exact List.mem_append_right _ hi))
          have ht := hI.tm t
          rw [hv] at ht
          simp only [mkS, thd_cons, ttl_cons]
          refine Pk.tmp (t := t) (x := .v (mkVal agg (scells org c y))) (ih.same (r' := .sl t org agg c :: r) rfl rfl rfl) ?_
          exact arg_S hI.mem ht hy ho fun id hid => hsn id (h7 id (by simp only [seenS, hv]; exact List.mem_append_left _ hid))
        · cases hp
      · cases hp
    · cases hp
  | .so t org c :: r, x, hp, h1, h2, h3, h4, h5, h6, h7 => by
    simp only [packS1] at hp
    obtain ⟨hn1, hn2⟩ := nodupB_cons h1
    have hg0 : gS g st is (8 * t + 7) = slotLoc g c (tmS (st.tm t)) := by
      rw [h4 (8 * t + 7) (by simp [makesI])]
      simp only [gS]; rw [upd_same]
    have hg' : ∀ i ∈ makesI r, gS g st is i = gS g st r i := fun i hi => by
      rw [h4 i (by simp only [makesI, List.mem_cons]; exact .inr hi)]
      simp only [gS]
      rw [upd_ne _ _ (by rintro rfl; exact hn1 hi)]
    obtain ⟨hn3, hn4⟩ := nodupB_app h2
    have ht := hI.tm t
    split at hp
    · rename_i id hid
      split at hp
      · rename_i ho
        split at hp
        · rename_i y z hy hz
          cases hp
          have ih := pk_of hI hnd huse hsn r z hz hn2 hn3 h3 hg' h5 h6 h7
          rw [hid] at ht hg0 hn4
          obtain ⟨org0, c', xs', hb, horg, hc, rfl⟩ := ownedL_inv hy
          obtain ⟨l, hgl, hv⟩ := (show SR (cxOf A g st.bk w) (.own id) _ from ht)
          obtain ⟨l', hgl', hbr, _⟩ := hI.mem.br _ _ hb
          rw [show g id = some l from hgl] at hgl'; cases hgl'
          have hg1 : gS g st is (8 * t + 7) = some l := by rw [hg0]; exact hgl
          simp only [mkS, thd_cons, ttl_cons]
          refine Pk.tmp (s := { mkS r z with bk := _ }) (Pk.make hI.mem ih (r' := .so t org c :: r) (took := [id]) (l := l) rfl hn1 (by simp only [tookS, hid]) hn4 hg1 (castL_br hc (br_S hbr (by rw [horg] at ho; exact ho))) (fun _ => ⟨id, by simp, _, hb, hgl⟩) (fun i hi => .inr hi)
            (fun hk => (hn1 (keeps_makes r _ hk)).elim) (keeps_makes r)) ?_
          exact ⟨l, hg1, hv⟩
        · cases hp
      · cases hp
    · rename_i hid
      split at hp
      · rename_i y hz
        cases hp
        have ih := pk_of hI hnd huse hsn r y hz hn2 hn3 h3 hg' h5 h6 h7
        rw [hid] at ht hg0
        have hg1 : gS g st is (8 * t + 7) = some ⟨0, 0, 0, 0, csize c, true, none⟩ := by rw [hg0]; rfl
        simp only [mkS, thd_cons, ttl_cons]
        refine Pk.tmp (s := { mkS r y with bk := _ }) (Pk.make hI.mem ih (r' := .so t org c :: r) (took := []) (l := ⟨0, 0, 0, 0, csize c, true, none⟩) rfl hn1 (by simp only [tookS, hid]) (fun x hx => by simp at hx) hg1 (show BR _ (.vec org c []) _ from Or.inl ⟨rfl, rfl, rfl, rfl, rfl, Or.inl rfl⟩) (fun h => by cases h) (fun i hi => .inr hi)
          (fun hk => (hn1 (keeps_makes r _ hk)).elim) (keeps_makes r)) ?_
        exact ⟨_, hg1, ht⟩
      · cases hp
    · cases hp
  | .sk t s :: r, x, hp, h1, h2, h3, h4, h5, h6, h7 => by
    simp only [packS1] at hp
    split at hp
    · rename_i s' hv
      obtain ⟨he, hp⟩ := if_some hp
      have ih := pk_of hI hnd huse hsn r x hp h1 h2 h3 h4 h5 (fun i hi => h6 i (by simp only [usesI]; exact List.mem_append_right _ hi)) h7
      have ht := hI.tm t
      rw [hv] at ht
      simp only [mkS]
      refine Pk.tmp (t := t) (x := one s) (ih.same (r' := .sk t s :: r) rfl rfl rfl) ?_
      exact k_S he ht fun id hid => gS_keeps g st is hnd id (huse id (h6 id (by simp only [usesI]; exact List.mem_append_left _ hid)))
    · cases hp
  | .cl t f org caps :: r, x, hp, h1, h2, h3, h4, h5, h6, h7 => by
    simp only [packS1] at hp
    split at hp
    · rename_i gf cs hv
      have hcc := if_some (α := Tup (icodes (.cl t f org caps :: r))) hp
      obtain ⟨hc, hp2⟩ := hcc
      clear hp
      simp only [Bool.and_eq_true, List.isEmpty_iff] at hc
      obtain ⟨hf, hbx, ho⟩ := hc
      have hf := Nat.eq_of_beq_eq_true hf
      subst hf
      cases hy : decCaps st.bk caps cs with
      | none => rw [hy] at hp2; cases hp2
      | some y =>
        cases hz : packS1 r st with
        | none => rw [hy, hz] at hp2; cases hp2
        | some z =>
          rw [hy, hz] at hp2
          cases hp2
          have ih := pk_of hI hnd huse hsn r z hz h1 h2 h3 h4 h5 h6 h7
          have ht := hI.tm t
          rw [hv] at ht
          obtain ⟨vs, hve, hall⟩ := (show SR (cxOf A g st.bk w) (.fn f cs) _ from ht)
          simp only [mkS, thd_cons, ttl_cons]
          refine Pk.tmp (t := t) (x := one (.fn f (capsC org caps y))) (ih.same (r' := .cl t f org caps :: r) rfl rfl rfl) ?_
          exact ⟨vs, hve, caps_S hI.mem caps cs vs.toList y hall hy hbx ho⟩
    · cases hp
  | .rp t org c :: r, x, hp, h1, h2, h3, h4, h5, h6, h7 => by
    simp only [packS1] at hp
    split at hp
    · rename_i o c' x0 hv
      obtain ⟨ho, hp⟩ := if_some hp
      split at hp
      · rename_i y z hy hz
        cases hp
        have ih := pk_of hI hnd huse hsn r z hz h1 h2 h3 h4 h5 h6 h7
        have ht := hI.tm t
        rw [hv] at ht
        simp only [mkS, thd_cons, ttl_cons]
        refine Pk.tmp (t := t) (x := one (.pp org c y 0)) (ih.same (r' := .rp t org c :: r) rfl rfl rfl) ?_
        exact pp_S hI.mem (show PR (cxOf A g st.bk w) o c' x0 0 _ from ht) hy ho
      · cases hp
    · cases hp
  | .bx id m :: r, x, hp, h1, h2, h3, h4, h5, h6, h7 => by
    simp only [packS1] at hp
    obtain ⟨hn1, hn2⟩ := nodupB_cons h1
    have hg0 : gS g st is id = g id := gS_keeps g st is hnd id (h5 id (by simp [keepsI]))
    have hg' : ∀ i ∈ makesI r, gS g st is i = gS g st r i := fun i hi => by
      rw [h4 i (by simp only [makesI, List.mem_cons]; exact .inr hi)]
      simp only [gS]
      rw [upd_ne _ _ (by rintro rfl; exact hn1 hi)]
    obtain ⟨hn5, hn3⟩ := nodupB_cons h2
    split at hp
    · rename_i cs hb
      obtain ⟨hlen, hp⟩ := if_some hp
      have hlen := Nat.eq_of_beq_eq_true hlen
      have ih := pk_of hI hnd huse hsn r x hp hn2 hn3 h3 hg' (fun i hi => h5 i (by simp only [keepsI, List.mem_cons]; exact .inr hi)) h6 h7
      obtain ⟨l, hgl, hbr, _⟩ := hI.mem.br _ _ hb
      simp only [mkS]
      refine Pk.make hI.mem ih (r' := .bx id m :: r) (took := [id]) (l := l) rfl hn1 (by simp only [tookS]; rfl) (fun x hx => by simp at hx; subst hx; exact hn5) (hg0.trans hgl) ?_ (fun _ => ⟨id, by simp, _, hb, hgl⟩) (fun i hi => by simpa [keepsI] using hi)
        (fun _ cs' he => ⟨cs, hb, by cases he; simp [hlen]⟩) (keeps_makes r)
      obtain ⟨h0, arr, t, harr, hall⟩ := hbr
      refine ⟨h0, arr, t, harr, All2.of_get (by have := hall.length; simp at this ⊢; omega) fun i x y hx hy => ?_⟩
      rw [List.getElem?_replicate] at hx
      split at hx
      · cases hx; trivial
      · cases hx
    · cases hp
  | .bd id j org c :: r, x, hp, h1, h2, h3, h4, h5, h6, h7 => by
    simp only [packS1] at hp
    simp only [boxesOk, Bool.and_eq_true] at h3
    split at hp
    · rename_i s0 hc
      split at hp
      · rename_i ho
        split at hp
        · rename_i y z hy hz
          cases hp
          have ih := pk_of hI hnd huse hsn r z hz h1 h2 h3.2 h4 h5 h6 (fun i hi => h7 i (by simp only [seenS]; exact List.mem_append_right _ hi))
          have hk : id ∈ keepsI r := List.contains_iff_mem.1 h3.1
          simp only [mkS, thd_cons, ttl_cons]
          refine Pk.cell hI.mem (ih.same (r' := .bd id j org c :: r) rfl rfl rfl) hk (gS_keeps g st is hnd id (h5 id hk)) hc fun v hv => ?_
          exact head_S (dec_S hI.mem (ss := [s0]) (vs := [v]) ⟨hv, trivial⟩ hy ho fun i hi => hsn i (h7 i (by simp only [seenS, hc]; exact List.mem_append_left _ hi)))
        · cases hp
      · cases hp
    · cases hp
  | .bo id j org c :: r, x, hp, h1, h2, h3, h4, h5, h6, h7 => by
    simp only [packS1] at hp
    simp only [boxesOk, Bool.and_eq_true] at h3
    have hk : id ∈ keepsI r := List.contains_iff_mem.1 h3.1
    obtain ⟨hn1, hn2⟩ := nodupB_cons h1
    have hg0 : gS g st is (8 * (id * 64 + j) + 6) = slotLoc g c ((cellAt st id j).getD .und) := by
      rw [h4 _ (by simp [makesI])]
      simp only [gS]; rw [upd_same]
    have hg' : ∀ i ∈ makesI r, gS g st is i = gS g st r i := fun i hi => by
      rw [h4 i (by simp only [makesI, List.mem_cons]; exact .inr hi)]
      simp only [gS]
      rw [upd_ne _ _ (by rintro rfl; exact hn1 hi)]
    obtain ⟨hn3, hn4⟩ := nodupB_app h2
    split at hp
    · rename_i i0 hc
      split at hp
      · rename_i ho
        split at hp
        · rename_i y z hy hz
          cases hp
          have ih := pk_of hI hnd huse hsn r z hz hn2 hn3 h3.2 hg' h5 h6 h7
          rw [hc] at hg0 hn4
          obtain ⟨org0, c', xs', hb, horg, hcc, rfl⟩ := ownedL_inv hy
          obtain ⟨l, hgl, hbr, _⟩ := hI.mem.br _ _ hb
          have hg1 : gS g st is (8 * (id * 64 + j) + 6) = some l := by rw [hg0]; exact hgl
          simp only [mkS, thd_cons, ttl_cons]
          have ih2 := Pk.cell hI.mem ih hk (gS_keeps g st is hnd id (h5 id hk)) hc (sc := .own (8 * (id * 64 + j) + 6)) (fun v hv => by
            obtain ⟨l1, q1, q2⟩ := hv
            rw [show g i0 = some l1 from q1] at hgl; cases hgl
            exact ⟨l, hg1, q2⟩)
          exact Pk.make hI.mem ih2 (r' := .bo id j org c :: r) (took := [i0]) (l := l) rfl hn1 (by simp only [tookS, hc]) hn4 hg1 (castL_br hcc (br_S hbr (by rw [horg] at ho; exact ho))) (fun _ => ⟨i0, by simp, _, hb, hgl⟩) (fun i hi => .inr hi)
            (fun hk => (hn1 (keeps_makes r _ hk)).elim) (keeps_makes r)
        · cases hp
      · cases hp
    · rename_i hc
      split at hp
      · rename_i y hz
        cases hp
        have ih := pk_of hI hnd huse hsn r y hz hn2 hn3 h3.2 hg' h5 h6 h7
        rw [hc] at hg0
        have hg1 : gS g st is (8 * (id * 64 + j) + 6) = some ⟨0, 0, 0, 0, csize c, true, none⟩ := by rw [hg0]; rfl
        simp only [mkS, thd_cons, ttl_cons]
        have ih2 := Pk.cell hI.mem ih hk (gS_keeps g st is hnd id (h5 id hk)) hc (sc := .own (8 * (id * 64 + j) + 6)) (fun v hv => ⟨_, hg1, hv⟩)
        exact Pk.make hI.mem ih2 (r' := .bo id j org c :: r) (took := []) (l := ⟨0, 0, 0, 0, csize c, true, none⟩) rfl hn1 (by simp only [tookS, hc]) (fun x hx => by simp at hx) hg1 (show BR _ (.vec org c []) _ from Or.inl ⟨rfl, rfl, rfl, rfl, rfl, Or.inl rfl⟩) (fun h => by cases h) (fun i hi => .inr hi)
          (fun hk => (hn1 (keeps_makes r _ hk)).elim) (keeps_makes r)
      · cases hp
    · cases hp
  | .bk id j s :: r, x, hp, h1, h2, h3, h4, h5, h6, h7 => by
    simp only [packS1] at hp
    simp only [boxesOk, Bool.and_eq_true] at h3
    split at hp
    · rename_i s0 hc
      obtain ⟨he, hp⟩ := if_some hp
      have ih := pk_of hI hnd huse hsn r x hp h1 h2 h3.2 h4 h5 (fun i hi => h6 i (by simp only [usesI]; exact List.mem_append_right _ hi)) h7
      have hk : id ∈ keepsI r := List.contains_iff_mem.1 h3.1
      simp only [mkS]
      refine Pk.cell hI.mem (ih.same (r' := .bk id j s :: r) rfl rfl rfl) hk (gS_keeps g st is hnd id (h5 id hk)) hc fun v hv => ?_
      exact k_S he hv fun i hi => gS_keeps g st is hnd i (huse i (h6 i (by simp only [usesI]; exact List.mem_append_left _ hi)))
    · cases hp
  | .vc id org c :: r, x, hp, h1, h2, h3, h4, h5, h6, h7 => by
    simp only [packS1] at hp
    obtain ⟨hn1, hn2⟩ := nodupB_cons h1
    have hg0 : gS g st is id = g id := gS_keeps g st is hnd id (h5 id (by simp [keepsI]))
    have hg' : ∀ i ∈ makesI r, gS g st is i = gS g st r i := fun i hi => by
      rw [h4 i (by simp only [makesI, List.mem_cons]; exact .inr hi)]
      simp only [gS]
      rw [upd_ne _ _ (by rintro rfl; exact hn1 hi)]
    obtain ⟨hn5, hn3⟩ := nodupB_cons h2
    split at hp
    · rename_i ho
      split at hp
      · rename_i y z hy hz
        cases hp
        have ih := pk_of hI hnd huse hsn r z hz hn2 hn3 h3 hg' (fun i hi => h5 i (by simp only [keepsI, List.mem_cons]; exact .inr hi)) h6 h7
        obtain ⟨org0, c', xs', hb, horg, hcc, rfl⟩ := ownedL_inv hy
        obtain ⟨l, hgl, hbr, _⟩ := hI.mem.br _ _ hb
        simp only [mkS, thd_cons, ttl_cons]
        exact Pk.make hI.mem ih (r' := .vc id org c :: r) (took := [id]) (l := l) rfl hn1 (by simp only [tookS]; rfl) (fun x hx => by simp at hx; subst hx; exact hn5) (hg0.trans hgl) (castL_br hcc (br_S hbr (by rw [horg] at ho; exact ho))) (fun _ => ⟨id, by simp, _, hb, hgl⟩)
          (fun i hi => by simpa [keepsI] using hi) (fun _ cs' he => by cases he) (keeps_makes r)
      · cases hp
    · cases hp
  | .mp id kc vc :: r, x, hp, h1, h2, h3, h4, h5, h6, h7 => by
    simp only [packS1] at hp
    obtain ⟨hn1, hn2⟩ := nodupB_cons h1
    have hg0 : gS g st is id = g id := gS_keeps g st is hnd id (h5 id (by simp [keepsI]))
    have hg' : ∀ i ∈ makesI r, gS g st is i = gS g st r i := fun i hi => by
      rw [h4 i (by simp only [makesI, List.mem_cons]; exact .inr hi)]
      simp only [gS]
      rw [upd_ne _ _ (by rintro rfl; exact hn1 hi)]
    obtain ⟨hn5, hn3⟩ := nodupB_cons h2
    split at hp
    · rename_i kc' vc' es hb
      split at hp
      · rename_i hc
        obtain ⟨rfl, rfl⟩ := hc
        split at hp
        · rename_i z hz
          cases hp
          have ih := pk_of hI hnd huse hsn r z hz hn2 hn3 h3 hg' (fun i hi => h5 i (by simp only [keepsI, List.mem_cons]; exact .inr hi)) h6 h7
          obtain ⟨l, hgl, hbr, _⟩ := hI.mem.br _ _ hb
          simp only [mkS, thd_cons, ttl_cons]
          have hbr' : BR (cxS A g st w is) (.mp kc' vc' es) l := by
            obtain ⟨q0, qf, arr, clock, qa, qc⟩ := hbr
            exact ⟨q0, qf, arr, clock, qa, qc.mono fun _ _ hh => ⟨hh.1.flat qf.1, hh.2.flat qf.2⟩⟩
          exact Pk.make hI.mem ih (r' := .mp id kc' vc' :: r) (took := [id]) (l := l) rfl hn1 (by simp only [tookS]; rfl) (fun x hx => by simp at hx; subst hx; exact hn5) (hg0.trans hgl) hbr' (fun _ => ⟨id, by simp, _, hb, hgl⟩)
            (fun i hi => by simpa [keepsI] using hi) (fun _ cs' he => by cases he) (keeps_makes r)
        · cases hp
      · cases hp
    · cases hp
  | .sb t id :: r, x, hp, h1, h2, h3, h4, h5, h6, h7 => by
    simp only [packS1] at hp
    split at hp
    · rename_i id' lo hi hv
      have hcc := if_some (α := Tup (icodes (.sb t id :: r))) hp
      obtain ⟨he, hp2⟩ := hcc
      clear hp
      have he := Nat.eq_of_beq_eq_true he
      subst he
      cases hz : packS1 r st with
      | none => rw [hz] at hp2; cases hp2
      | some z =>
        rw [hz] at hp2
        have hx : tcons (c := .pair (.i .i64) (.i .i64)) (((lo : Int), (hi : Int)) : El (.pair (.i .i64) (.i .i64))) z = x := Option.some.inj hp2
        subst hx
        have ih := pk_of hI hnd huse hsn r z hz h1 h2 h3 h4 h5 (fun i hi => h6 i (by simp only [usesI, List.mem_cons]; exact .inr hi)) h7
        have ht := hI.tm t
        rw [hv] at ht
        simp only [mkS, thd_cons, ttl_cons, Int.toNat_natCast]
        refine Pk.tmp (t := t) (x := one (.sub id lo hi)) (ih.same (r' := .sb t id :: r) rfl rfl rfl) ?_
        obtain ⟨l, hgl, q⟩ := (show SR (cxOf A g st.bk w) (.sub id lo hi) _ from ht)
        exact ⟨l, (gS_keeps g st is hnd id (huse id (h6 id (by simp [usesI])))).trans hgl, q⟩
    · cases hp

theorem packS_inv (hI : Inv A n g st a w) {is : List It} {x : Tup (icodes is)} (h : packS is st = some x) : ∃ g', Inv A n g' (mkS is x) a w := by
  unfold packS at h
  split at h
  · rename_i hc
    simp only [Bool.and_eq_true] at hc
    obtain ⟨⟨⟨⟨c1, c2⟩, c3⟩, c4⟩, c5⟩ := hc
    have huse : ∀ id ∈ usesI is, id ∈ keepsI is := fun id hid => by
      rw [List.all_eq_true] at c3
      exact List.contains_iff_mem.1 (c3 id hid)
    have hsn : ∀ id ∈ seenS st is, id ∉ tookS st is := fun id hs ht => apartB_mem c2 ht hs
    have hp := pk_of hI c4 huse hsn is x h c4 c1 c5 (fun _ _ => rfl) (fun _ h => h) (fun _ h => h) (fun _ h => h)
    -- nobody owns more than was taken over
    have how : ∀ b, owOf (gS g st is) (mkS is x).bk b → owS g st (tookS st is) b := by
      rintro b ⟨id, blk, l, h1, h2, h3, h4⟩
      obtain ⟨_, l', q1, _, q3⟩ := hp.br id blk h1
      rw [h2] at q1; cases q1
      obtain ⟨id0, m0, blk0, p1, p2⟩ := q3 h3
      exact ⟨id0, m0, blk0, l, p1, p2, h3, h4⟩
    have hL : Later (cxS A g st w is) (cxOf A (gS g st is) (mkS is x).bk w) := ⟨fun _ _ h => h, rfl, fun b _ hb => ⟨fun ho => hb (how b ho), rfl⟩, Nat.le_refl _, rfl⟩
    have hdf : Marks (cxOf A (gS g st is) (mkS is x).bk w) A.w0.heap.size a.defers := by
      have hown : ∀ b, owOf (gS g st is) (mkS is x).bk b → owOf g st.bk b := by
        rintro b ⟨id, blk, l, h1, h2, h3, h4⟩
        obtain ⟨_, l', q1, _, q3⟩ := hp.br id blk h1
        rw [h2] at q1; cases q1
        obtain ⟨id0, m0, blk0, p1, p2⟩ := q3 h3
        exact ⟨id0, blk0, l, p1, p2, h3, h4⟩
      have go : ∀ ds : List Deferred, Marks (cxOf A g st.bk w) A.w0.heap.size ds → Marks (cxOf A (gS g st is) (mkS is x).bk w) A.w0.heap.size ds := by
        intro ds
        induction ds with
        | nil => exact fun _ => trivial
        | cons d ds ih => exact fun ⟨⟨D, k1, k2, k3, k4, k5⟩, kr⟩ => ⟨⟨D, k1, k2, k3, fun ho => k4 (hown D ho), k5⟩, ih kr⟩
      exact go _ hI.df
    refine ⟨gS g st is, ⟨fun t => hL.tr (hp.tm t), ⟨fun id blk hb => ?_, fun id org c xs hb => ?_, fun id id' b b' l l' => hp.inj id id' b b' l l', fun id hb => ?_, fun id l hpin => ?_, hI.mem.fr⟩, hdf, hI.szE⟩⟩
    · obtain ⟨hm, l, h1, h2, h3⟩ := hp.br id blk hb
      refine ⟨l, h1, hL.br (fun _ => rfl) h2, fun hn => ?_⟩
      obtain ⟨id0, m0, blk0, p1, p2⟩ := h3 hn
      obtain ⟨l', q1, _, q3⟩ := hI.mem.br id0 blk0 p1
      rw [p2] at q1; cases q1
      exact q3 hn
    · by_cases hm : id ∈ makesI is
      · obtain ⟨blk, h1⟩ := hp.live id hm
        rw [h1] at hb; cases hb
      · rw [hp.else_ id hm] at hb
        exact (bk0_ro _ _ _ _ hb).elim
    · by_cases hm : id ∈ makesI is
      · obtain ⟨blk, h1⟩ := hp.live id hm
        rw [h1] at hb; cases hb
      · have none : ∀ (r : List It), id ∉ makesI r → gS g st r id = none := by
          intro r
          induction r with
          | nil => intro _; rfl
          | cons i r ih =>
            intro hr
            cases i <;> simp only [makesI, List.mem_cons, not_or] at hr <;> simp only [gS] <;> first
              | exact ih hr
              | (rw [upd_ne _ _ hr.1]; exact ih hr.2)
        exact none is hm
    · obtain ⟨p1, p2⟩ := hI.mem.pin id l hpin
      have h5 := A.pinned id l hpin
      by_cases hm : id ∈ makesI is
      · obtain ⟨blk, h1⟩ := hp.live id hm
        refine ⟨by rw [h1]; simp, fun _ => ?_⟩
        have hk := makes_keeps5 is id hm h5
        rw [gS_keeps g st is c4 id hk]
        exact p2 (keeps_live is x h id hk)
      · rw [hp.else_ id hm]
        have hb : bk0 id = .dead := by simp [bk0, h5]
        refine ⟨by rw [hb]; simp, fun hl => ?_⟩
        unfold isLive at hl
        rw [hp.else_ id hm, hb] at hl
        cases hl
  · cases h

end
end Ai
end Go.Proofs.YtpboclokodgnlaaGreat

/-! A19: The ideal interpreter against the machine: code and loops. -/
namespace Go.Proofs.YtpboclokodgnlaaGreat
namespace Ai
set_option linter.unusedSimpArgs false
set_option linter.unusedVariables false

/-- A loop's body, and then the loop again. -/
def LoopWp (P : Program) (c : Code) (Q : Exit → Act → World → Prop) (a : Act) (w : World) : Prop :=
  ∀ (b : Frame) (k : List Item) (cs : List Frame), ∃ e a' w', Q e a' w' ∧ Arrives P (lone (b.at a (.code c :: .inLoop c :: k)) cs w) b k cs e a' w'

theorem loop_of {P : Program} {c : Code} {Q : Exit → Act → World → Prop} {a : Act} {w : World} (h : LoopWp P c Q a w) : (Code.loop c).wp P Q a w := by
  intro b k cs
  obtain ⟨e, a', w', hq, harr⟩ := h b k cs
  exact ⟨e, a', w', hq, .of_steps (.one step_loop) harr⟩

theorem loop_round {P : Program} {c : Code} {Q : Exit → Act → World → Prop} {a : Act} {w : World} (h : c.wp P (Exit.then (fun a w => LoopWp P c Q a w) Q) a w) : LoopWp P c Q a w := by
  intro b k cs
  obtain ⟨e, a₁, w₁, hq, harr⟩ := h b (.inLoop c :: k) cs
  cases e with
  | normal =>
    obtain ⟨e₂, a₂, w₂, hq₂, harr₂⟩ := hq b k cs
    exact ⟨e₂, a₂, w₂, hq₂, .of_steps (Steps.trans harr (.one step_inLoop)) harr₂⟩
  | exit id => exact ⟨_, a₁, w₁, hq, .pass (x := .inLoop c) rfl (fun _ _ => .inl (by simp)) harr⟩
  | goto l => exact ⟨_, a₁, w₁, hq, .pass (x := .inLoop c) rfl (fun _ _ => .inl (by simp)) harr⟩
  | ret => exact ⟨_, a₁, w₁, hq, .pass (x := .inLoop c) rfl (fun _ _ => .inl (by simp)) harr⟩
  | panic ch => exact ⟨_, a₁, w₁, hq, .pass (x := .inLoop c) rfl (fun _ _ => .inl (by simp)) harr⟩
  | outgrown => exact ⟨_, a₁, w₁, hq, .pass (x := .inLoop c) rfl (fun _ _ => .inl (by simp)) harr⟩

def exitOf : Ex → Exit
  | .nrm => .normal
  | .ret => .ret
  | .exit id => .exit id

def unXp (ex : Exs) (y : ExT ex) : Option (Ex × St) := unX ex y fun e s => some (e, s)

theorem unX_eq {R : Type} {k : Ex → St → Option R} : ∀ (ex : Exs) (y : ExT ex), unX ex y k = (unXp ex y).bind fun p => k p.1 p.2
  | [], _ => rfl
  | [(e, s)], x => rfl
  | (e, s) :: d :: r, .inl x => rfl
  | (e, s) :: d :: r, .inr y => unX_eq (d :: r) y

theorem tryH_inv {R : Type} {run : Orc} {f n : Nat} {ex : Exs} {st : St} {k : ExT ex → Option R} {r : R} : ∀ (l : List (List It)), tryH run f n ex st k l = some r → ∃ h x y, packS h st = some x ∧ run (.lp f n ex h) x = some y ∧ k y = some r
  | [], h => by cases h
  | hd :: l, h => by
    simp only [tryH] at h
    split at h
    · rename_i x hx
      obtain ⟨y, hy, hk⟩ := Option.bind_eq_some_iff.1 h
      exact ⟨hd, x, y, hx, hy, hk⟩
    · exact tryH_inv l h

theorem packX_inv {st : St} {e : Ex} : ∀ (ex : Exs) (y : ExT ex), packX ex e st = some y → ∃ is x, packS is st = some x ∧ unXp ex y = some (e, mkS is x)
  | [], y, h => by cases h
  | [(e', s)], y, h => by
    simp only [packX] at h
    split at h
    · rename_i he
      subst he
      exact ⟨s, y, h, rfl⟩
    · cases h
  | (e', s) :: d :: r, y, h => by
    simp only [packX] at h
    split at h
    · rename_i x hx
      cases h
      split at hx
      · rename_i he
        subst he
        exact ⟨s, x, hx, rfl⟩
      · cases hx
    · split at h
      · rename_i y' hy
        cases h
        exact packX_inv (d :: r) y' hy
      · cases h

def bodyAt (P : Program) (f n : Nat) : Option Code := ((P.funcs[f]?).bind (·.body)).bind (loopAt · n)

/-- The loops over functions in some code, each with what stands ahead of it. -/
def rfs : Code → List (Code × Code)
  | .seq a b => (cond (isRf b) [(a, b)] []) ++ (rfs a ++ rfs b)
  | .cond _ a b => rfs a ++ rfs b
  | .block _ c => rfs c
  | .loop c => rfs c
  | _ => []

def rfsOf (P : Program) (f : Nat) : List (Code × Code) := match (P.funcs[f]?).bind (·.body) with
  | some c => rfs c
  | none => []

def ntOf (P : Program) (f : Nat) : Nat := match P.funcs[f]? with
  | some fn => fn.ntmps
  | none => 0

theorem loopAt_rfs : ∀ (c b : Code) (n : Nat), loopAt c n = some b → ∀ q ∈ rfs b, q ∈ rfs c
  | .seq x y, b, n, h, q, hq => by
    simp only [loopAt] at h
    simp only [rfs]
    split at h
    · exact List.mem_append_right _ (List.mem_append_left _ (loopAt_rfs x b n h q hq))
    · exact List.mem_append_right _ (List.mem_append_right _ (loopAt_rfs y b _ h q hq))
  | .cond _ x y, b, n, h, q, hq => by
    simp only [loopAt] at h
    simp only [rfs]
    split at h
    · exact List.mem_append_left _ (loopAt_rfs x b n h q hq)
    · exact List.mem_append_right _ (loopAt_rfs y b _ h q hq)
  | .block _ c, b, n, h, q, hq => by
    simp only [loopAt] at h
    exact loopAt_rfs c b n h q hq
  | .loop c, b, 0, h, q, hq => by
    simp only [loopAt, Option.some.injEq] at h
    subst h
    exact hq
  | .loop c, b, n + 1, h, q, hq => by
    simp only [loopAt] at h
    exact loopAt_rfs c b n h q hq
  | .skip, _, _, h, _, _ => by cases h
  | .region _ _ _, _, _, h, _, _ => by cases h
  | .exit _, _, _, h, _, _ => by cases h
  | .ret, _, _, h, _, _ => by cases h
  | .label _, _, _, h, _, _ => by cases h
  | .scope _, _, _, h, _, _ => by cases h
  | .goto _, _, _, h, _, _ => by cases h
  | .rangeFunc .., _, _, h, _, _ => by cases h
  | .refuse _, _, _, h, _, _ => by cases h

/-- Every loop over a function does what is told beside the program. -/
def XcOk (E : Env) : Prop :=
  ∀ (f : Nat) (x y : Code) (st st' : St), (x, y) ∈ rfsOf E.P f → isRf y = true → E.xcd f st = some (true, st') →
    ∀ (A : Base) (g : Nat → Option Loc) (a : Act) (w : World), Held E A → Inv A (ntOf E.P f) g st a w →
      ∀ Q : Exit → Act → World → Prop, (∀ g' a' w', Inv A (ntOf E.P f) g' st' a' w' → Q .normal a' w') → (Code.seq x y).wp E.P Q a w

theorem xcOk_none {E : Env} (h : E.xcd = fun _ _ => none) : XcOk E := fun f x y st st' _ _ hx => by rw [h] at hx; cases hx

/-- A loop comes to what the ideal interpreter says. -/
def MLp (E : Env) (f n : Nat) (ex : Exs) (h : List It) (x : Tup (icodes h)) (y : ExT ex) : Prop :=
  ∀ (A : Base) (N : Nat) (g : Nat → Option Loc) (a : Act) (w : World) (c : Code), Held E A → ntOf E.P f = N → bodyAt E.P f n = some c → dstOk N c = true → Inv A N g (mkS h x) a w →
    ∀ Q : Exit → Act → World → Prop, (∀ e st g' a' w', unXp ex y = some (e, st) → Inv A N g' st a' w' → Q (exitOf e) a' w') → LoopWp E.P c Q a w

theorem loopAt_in : ∀ (c b : Code) (n m : Nat), loopAt c n = some b → m < nloops b → loopAt c (n + 1 + m) = loopAt b m
  | .seq x y, b, n, m, h, hm => by
    have hlt := loopAt_lt x
    simp only [loopAt] at h ⊢
    split at h
    · rename_i hn
      have := hlt n b h
      rw [if_pos (by omega)]
      exact loopAt_in x b n m h hm
    · rename_i hn
      rw [if_neg (by omega), show n + 1 + m - nloops x = n - nloops x + 1 + m by omega]
      exact loopAt_in y b _ m h hm
  | .cond _ x y, b, n, m, h, hm => by
    have hlt := loopAt_lt x
    simp only [loopAt] at h ⊢
    split at h
    · rename_i hn
      have := hlt n b h
      rw [if_pos (by omega)]
      exact loopAt_in x b n m h hm
    · rename_i hn
      rw [if_neg (by omega), show n + 1 + m - nloops x = n - nloops x + 1 + m by omega]
      exact loopAt_in y b _ m h hm
  | .block _ c, b, n, m, h, hm => by
    simp only [loopAt] at h ⊢
    exact loopAt_in c b n m h hm
  | .loop c, b, 0, m, h, hm => by
    simp only [loopAt, Option.some.injEq] at h
    subst h
    show loopAt (.loop c) (0 + 1 + m) = _
    rw [show 0 + 1 + m = m + 1 by omega]
    rfl
  | .loop c, b, n + 1, m, h, hm => by
    simp only [loopAt] at h
    rw [show n + 1 + 1 + m = (n + 1 + m) + 1 by omega]
    simp only [loopAt]
    exact loopAt_in c b n m h hm
  | .skip, _, _, _, h, _ => by cases h
  | .region _ _ _, _, _, _, h, _ => by cases h
  | .exit _, _, _, _, h, _ => by cases h
  | .ret, _, _, _, h, _ => by cases h
  | .label _, _, _, _, h, _ => by cases h
  | .scope _, _, _, _, h, _ => by cases h
  | .goto _, _, _, _, h, _ => by cases h
  | .rangeFunc .., _, _, _, h, _ => by cases h
  | .refuse _, _, _, _, h, _ => by cases h
where
  loopAt_lt : ∀ (c : Code) (n : Nat) (b : Code), loopAt c n = some b → n + nloops b < nloops c
  | .seq x y, n, b, h => by
    simp only [loopAt] at h
    simp only [nloops]
    split at h
    · have := loopAt_lt x n b h; omega
    · have := loopAt_lt y _ b h; omega
  | .cond _ x y, n, b, h => by
    simp only [loopAt] at h
    simp only [nloops]
    split at h
    · have := loopAt_lt x n b h; omega
    · have := loopAt_lt y _ b h; omega
  | .block _ c, n, b, h => by
    simp only [loopAt] at h
    simp only [nloops]
    exact loopAt_lt c n b h
  | .loop c, 0, b, h => by
    simp only [loopAt, Option.some.injEq] at h
    subst h
    simp only [nloops]; omega
  | .loop c, n + 1, b, h => by
    simp only [loopAt] at h
    have := loopAt_lt c n b h
    simp only [nloops]; omega
  | .skip, _, _, h => by cases h
  | .region _ _ _, _, _, h => by cases h
  | .exit _, _, _, h => by cases h
  | .ret, _, _, h => by cases h
  | .label _, _, _, h => by cases h
  | .scope _, _, _, h => by cases h
  | .goto _, _, _, h => by cases h
  | .rangeFunc .., _, _, h => by cases h
  | .refuse _, _, _, h => by cases h

section
variable {E : Env} {A : Base} {run : Orc} {N : Nat}

theorem region_wp (hop : OpOk E run) (hH : Held E A) {R : Type} {f id : Nat} {ops : Array Oper} {draw : Bool} {g : Nat → Option Loc} {st : St} {a : Act} {w : World} {r : R} {k : St → Option R} {Q : Exit → Act → World → Prop} (hd : dstOk N (.region id ops draw) = true)
    (hI : Inv A N g st a w) (h : (match (generalizing := false) draw with
      | false => match (generalizing := false) isJoin E f id with
        | false => opsK E run ops ops.toList st k
        | true => Option.bind (opsJ E run ops ops.toList st fun st' => boolT (st'.tm (lastD ops))) fun b => k (joinSt st ops b)
      | true => if E.P.follows .mixedOrders && regOk E ops (befs [] ops.toList) then opsD E run ops (befs [] ops.toList) 0 ops.toList st k else none) = some r)
    (hQ : ∀ g' st' a' w', Inv A N g' st' a' w' → k st' = some r → Q .normal a' w') : (Code.region id ops draw).wp E.P Q a w := by
  have hdst : ∀ o ∈ ops.toList, ∀ d, o.dst = some d → d < N := fun o ho d hd' => by
    simp only [dstOk] at hd
    rw [List.all_eq_true] at hd
    have := hd o ho
    rw [hd'] at this
    exact Nat.le_of_ble_eq_true this
  cases draw
  · cases hj : isJoin E f id
    · rw [hj] at h
      exact wp_region_list (opsK_wp hop hH ops.toList g st a w hdst hI h hQ)
    · rw [hj] at h
      obtain ⟨b, h1, h2⟩ := Option.bind_eq_some_iff.1 h
      exact wp_region_list (opsJ_wp hop hH ops.toList g st a w hdst hI h1 fun g' st' a' w' hI' hb ht hk => hQ g' _ a' w' (hI'.join hb ht hk) h2)
  · obtain ⟨hc, h⟩ := if_some h
    simp only [Bool.and_eq_true] at hc
    obtain ⟨es, h1, h2, h3⟩ := opsD_runs _ _ _ h
    refine wp_region_any hc.1 (drawn_wp hop hH h1 h2 hc.2 hdst (fun g' a' w' hI' => hQ g' _ a' w' hI' h3) ops.size _ (List.range ops.size) g a _ (by simp) (by simp) (fun j hj _ => List.mem_range.2 hj) (fun i o hi hL => ?_) ?_)
    · exfalso
      have hlt : i < ops.size := (Array.getElem?_eq_some_iff.1 hi).1
      simp [hlt] at hL
    · have hnone : SD (fun j => (Array.replicate ops.size false).getD j false) 0 es st = st := SD_none _ _ _ fun j _ => by
        by_cases hj : j < ops.size <;> simp [hj]
      rw [hnone]
      obtain ⟨hM, hL⟩ := hI.mem.same (w' := { w with drawn := w.drawn + 1 }) rfl rfl ⟨rfl, Nat.le_succ _⟩ rfl
      exact ⟨fun t => hL.tr (hI.tm t), hM, hI.df.later hL, hI.szE⟩

theorem codeK_wp (hxc : XcOk E) (hop : OpOk E run) (hH : Held E A) (hlp : ∀ f n ex h x y, run (.lp f n ex h) x = some y → MLp E f n ex h x y) {R : Type} {r : R} {f : Nat} (hnt : ntOf E.P f = N) : ∀ (c : Code) (n : Nat) (st : St) (k : Ex → St → Option R) (g : Nat → Option Loc) (a : Act) (w : World) (Q : Exit → Act → World → Prop),
    (∀ m, m < nloops c → bodyAt E.P f (n + m) = loopAt c m) → (∀ q ∈ rfs c, q ∈ rfsOf E.P f) → dstOk N c = true → Inv A N g st a w → codeK E run f n c st k = some r → (∀ e st' g' a' w', Inv A N g' st' a' w' → k e st' = some r → Q (exitOf e) a' w') → c.wp E.P Q a w := by
  intro c
  induction c with
  | skip =>
    intro n st k g a w Q _ _ _ hI h hQ
    simp only [codeK] at h
    exact wp_skip (hQ .nrm st g a w hI h)
  | region id ops draw =>
    intro n st k g a w Q _ _ hd hI h hQ
    simp only [codeK] at h
    exact region_wp hop hH hd hI h fun g' st' a' w' hI' hk => hQ .nrm st' g' a' w' hI' hk
  | seq x y ihx ihy =>
    intro n st k g a w Q hb hq hd hI h hQ
    simp only [codeK] at h
    cases hrf : isRf y with
    | true =>
      rw [hrf] at h
      simp only at h
      split at h
      · rename_i q st' hx
        cases q
        · cases h
        · refine hxc f x y st st' (hq _ (by simp only [rfs, hrf]; exact List.mem_append_left _ (List.mem_singleton.2 rfl))) hrf hx A g a w hH (by rw [hnt]; exact hI) Q fun g' a' w' hI' => hQ .nrm st' g' a' w' (by rw [hnt] at hI'; exact hI') h
      · cases h
    | false =>
    rw [hrf] at h
    simp only at h
    simp only [dstOk, Bool.and_eq_true] at hd
    have hqx : ∀ q ∈ rfs x, q ∈ rfsOf E.P f := fun q hm => hq q (by simp only [rfs]; exact List.mem_append_right _ (List.mem_append_left _ hm))
    have hqy : ∀ q ∈ rfs y, q ∈ rfsOf E.P f := fun q hm => hq q (by simp only [rfs]; exact List.mem_append_right _ (List.mem_append_right _ hm))
    have hx : ∀ m, m < nloops x → bodyAt E.P f (n + m) = loopAt x m := fun m hm => by
      rw [hb m (by simp only [nloops]; omega)]
      simp only [loopAt]; rw [if_pos hm]
    have hy : ∀ m, m < nloops y → bodyAt E.P f (n + nloops x + m) = loopAt y m := fun m hm => by
      rw [Nat.add_assoc, hb (nloops x + m) (by simp only [nloops]; omega)]
      simp only [loopAt]; rw [if_neg (by omega)]
      congr 1; omega
    refine wp_seq (ihx n st _ g a w _ hx hqx hd.1 hI h fun e st' g' a' w' hI' hk => ?_)
    cases e with
    | nrm => exact ihy (n + nloops x) st' k g' a' w' Q hy hqy hd.2 hI' hk hQ
    | ret => exact hQ .ret st' g' a' w' hI' hk
    | exit id => exact hQ (.exit id) st' g' a' w' hI' hk
  | cond c x y ihx ihy =>
    intro n st k g a w Q hb hq0 hd hI h hQ
    simp only [codeK] at h
    simp only [dstOk, Bool.and_eq_true] at hd
    have hqx : ∀ q ∈ rfs x, q ∈ rfsOf E.P f := fun q hm => hq0 q (by simp only [rfs]; exact List.mem_append_left _ hm)
    have hqy : ∀ q ∈ rfs y, q ∈ rfsOf E.P f := fun q hm => hq0 q (by simp only [rfs]; exact List.mem_append_right _ hm)
    have hx : ∀ m, m < nloops x → bodyAt E.P f (n + m) = loopAt x m := fun m hm => by
      rw [hb m (by simp only [nloops]; omega)]
      simp only [loopAt]; rw [if_pos hm]
    have hy : ∀ m, m < nloops y → bodyAt E.P f (n + nloops x + m) = loopAt y m := fun m hm => by
      rw [Nat.add_assoc, hb (nloops x + m) (by simp only [nloops]; omega)]
      simp only [loopAt]; rw [if_neg (by omega)]
      congr 1; omega
    split at h
    · rename_i q hq
      have hc := evalO_tr hI.tm c
      rw [hq] at hc
      refine wp_cond (tr_bool hc) ?_
      cases q
      · exact ihy _ st k g a w Q hy hqy hd.2 hI h hQ
      · exact ihx _ st k g a w Q hx hqx hd.1 hI h hQ
    · rename_i hq
      have hc := evalO_tr hI.tm c
      rw [hq] at hc
      obtain ⟨q, hv⟩ := (show ∃ b, _ = Value.bool b from hc)
      obtain ⟨h1, h2⟩ := both_some h
      refine wp_cond hv ?_
      cases q
      · exact ihy _ st k g a w Q hy hqy hd.2 hI h2 hQ
      · exact ihx _ st k g a w Q hx hqx hd.1 hI h1 hQ
    · cases h
  | block id c ih =>
    intro n st k g a w Q hb hq hd hI h hQ
    simp only [codeK] at h
    refine wp_block (ih n st _ g a w _ (fun m hm => by rw [hb m hm]; rfl) hq hd hI h fun e st' g' a' w' hI' hk => ?_)
    cases e with
    | nrm => exact hQ .nrm st' g' a' w' hI' hk
    | ret => exact hQ .ret st' g' a' w' hI' hk
    | exit j =>
      show (if j = id then Q .normal a' w' else Q (.exit j) a' w')
      simp only [] at hk
      split at hk
      · rename_i hj; rw [if_pos hj]; exact hQ .nrm st' g' a' w' hI' hk
      · rename_i hj; rw [if_neg hj]; exact hQ (.exit j) st' g' a' w' hI' hk
  | loop c ih =>
    intro n st k g a w Q hb _ hd hI h hQ
    simp only [codeK] at h
    obtain ⟨hd', x, y, hp, hr, hk⟩ := tryH_inv _ h
    obtain ⟨g', hI'⟩ := packS_inv hI hp
    have hbody : bodyAt E.P f n = some c := by
      have := hb 0 (by simp only [nloops]; omega)
      simpa [loopAt] using this
    refine loop_of (hlp _ _ _ _ _ _ hr A N g' a w c hH hnt hbody hd hI' Q fun e st' g'' a' w' hu hI'' => ?_)
    rw [unX_eq, hu] at hk
    exact hQ e st' g'' a' w' hI'' hk
  | exit id =>
    intro n st k g a w Q _ _ _ hI h hQ
    simp only [codeK] at h
    exact wp_exit (hQ (.exit id) st g a w hI h)
  | ret =>
    intro n st k g a w Q _ _ _ hI h hQ
    simp only [codeK] at h
    exact wp_ret (hQ .ret st g a w hI h)
  | label l =>
    intro n st k g a w Q _ _ _ hI h hQ
    simp only [codeK] at h
    exact wp_label (hQ .nrm st g a w hI h)
  | scope c ih => intro n st k g a w Q _ _ _ hI h hQ; simp only [codeK] at h; cases h
  | goto l => intro n st k g a w Q _ _ _ hI h hQ; simp only [codeK] at h; cases h
  | rangeFunc _ _ _ _ _ _ => intro n st k g a w Q _ _ _ hI h hQ; simp only [codeK] at h; cases h
  | refuse w => intro n st k g a w Q _ _ _ hI h hQ; simp only [codeK] at h; cases h

/-- One round of a loop. -/
theorem lp_step (hxc : XcOk E) (hop : OpOk E run) (hlp : ∀ f n ex h x y, run (.lp f n ex h) x = some y → MLp E f n ex h x y) {f n : Nat} {ex : Exs} {h : List It} {x : Tup (icodes h)} {y : ExT ex} (hs : stp E run (.lp f n ex h) x = some y) : MLp E f n ex h x y := by
  intro A N g a w c hH hnt hbody hd hI Q hQ
  simp only [stp] at hs
  split at hs
  · rename_i fc hfc
    have hbody' := hbody
    unfold bodyAt at hbody
    rw [hfc] at hbody
    simp only [Option.bind_some] at hbody
    rw [hbody] at hs
    simp only [] at hs
    refine loop_round (codeK_wp hxc hop hH hlp hnt c (n + 1) (mkS h x) _ g a w _ (fun m hm => ?_) (fun q hq => ?_) hd hI hs fun e st' g' a' w' hI' hk => ?_)
    · unfold bodyAt
      rw [hfc]
      exact loopAt_in fc c n m hbody hm
    · unfold rfsOf
      rw [hfc]
      exact loopAt_rfs fc c n hbody q hq
    · cases e with
      | nrm =>
        simp only [] at hk
        obtain ⟨hd', x', y', hp, hr, hk⟩ := tryH_inv _ hk
        cases hk
        obtain ⟨g'', hI''⟩ := packS_inv hI' hp
        exact hlp _ _ _ _ _ _ hr A N g'' a' w' c hH hnt hbody' hd hI'' Q hQ
      | ret =>
        obtain ⟨is, x', hp, hu⟩ := packX_inv _ _ hk
        obtain ⟨g'', hI''⟩ := packS_inv hI' hp
        exact hQ .ret _ g'' a' w' hu hI''
      | exit id =>
        obtain ⟨is, x', hp, hu⟩ := packX_inv _ _ hk
        obtain ⟨g'', hI''⟩ := packS_inv hI' hp
        exact hQ (.exit id) _ g'' a' w' hu hI''
  · cases hs

end
end Ai
end Go.Proofs.YtpboclokodgnlaaGreat

/-! A20: The ideal interpreter against the machine: a function's body, from its arguments to its results. -/
namespace Go.Proofs.YtpboclokodgnlaaGreat
namespace Ai
set_option linter.unusedSimpArgs false
set_option linter.unusedVariables false

/-- The setting behind a call: what the caller goes on owning. -/
def cxE (A : Base) (as : List ASh) (w : World) : Cx :=
  ⟨fun _ => none, A.S, fun b => ∃ id ∈ refIds 0 as, ∃ l, A.pin id = some l ∧ l.nil = false ∧ l.b = b, fun b => A.w0.heap.size ≤ b ∨ A.X b, w⟩

def DRV (w : World) (ok : Nat → Prop) (c : Cd) (agg : Bool) (x : El c) (v : Value) : Prop :=
  (agg = false ∧ DR w ok c x [v]) ∨ (agg = true ∧ ∃ arr : Array Value, v = .agg arr ∧ DR w ok c x arr.toList)

def nilOk : (c : Cd) → El c → Value → Prop
  | .list _, xs, v => xs = [] → v = .slice none 0 0
  | _, _, _ => True

def RsR (A : Base) (as : List ASh) (w : World) : (rs : List RSh) → Tup (rcodes rs as) → List Value → Prop
  | [], _, us => us = []
  | r :: rs, y, u :: us => (DRV w ((cxE A as w).ok r.org) r.c r.agg (thd (r := rcodes rs as) y) u ∧ (nzOf r = true → nilOk r.c (thd (r := rcodes rs as) y) u)) ∧ RsR A as w rs (ttl (r := rcodes rs as) y) us
  | _ :: _, _, [] => False

/-- An owned slice of whatever it is, off its own block. -/
def FL (w : World) (ok : Nat → Prop) (l : Loc) : (c : Cd) → El c → Prop
  | .list c, xs => (l.nil = true ∧ xs = [] ∧ l.n = 0 ∧ l.cap = 0 ∧ l.sz = csize c ∧ (l.ad = none ∨ ∃ b o, l.ad = some ⟨b, o, none⟩)) ∨ l.nil = false ∧ l.n = xs.length ∧ l.n ≤ l.cap ∧ l.sz = csize c ∧
      ∃ arr t, w.heap[l.b]? = some (.cells arr t (0, 0)) ∧ l.o + l.cap * l.sz ≤ arr.size ∧
        ∀ (i : Nat) (x : El c), xs[i]? = some x → ∃ cs, DR w ok c x cs ∧ ∀ (j : Nat) v, cs[j]? = some v → arr[l.o + i * l.sz + j]? = some v
  | _, _ => False

/-- A struct one cell of which is such a slice. -/
def FA (w : World) (ok : Nat → Prop) (l : Loc) : (c : Cd) → El c → List Value → Prop
  | .list c, xs, vs => vs = [l.sl] ∧ FL w ok l (.list c) xs
  | .pair a b, x, vs => ∃ v1 v2, vs = v1 ++ v2 ∧ match Nat.beq (nlist a) 0 with
    | true => DR w ok a x.1 v1 ∧ FA w ok l b x.2 v2
    | false => FA w ok l a x.1 v1 ∧ DR w ok b x.2 v2 ∧ nlist b = 0
  | _, _, _ => False

/-- A result that the caller comes to own. -/
def FV (A : Base) (as : List ASh) (w : World) (Z : Nat → Prop) (r : RSh) (x : El r.c) (v : Value) : Prop :=
  ∃ l : Loc, (l.nil = false → Z l.b ∧ l.b < w.heap.size ∧ (A.w0.heap.size ≤ l.b ∨ A.X l.b) ∧ ¬ (cxE A as w).ow l.b) ∧
    match ptrR r, r.agg with
    | false, true => ∃ arr : Array Value, v = .agg arr ∧ FA w (fun b => (cxE A as w).ok r.org b ∧ (l.nil = false → b ≠ l.b)) l r.c x arr.toList
    | true, _ => v = .pointer (some ⟨l.b, 0, none⟩) ∧ (l.o = 0 ∧ l.nil = false) ∧ ∃ arr t, w.heap[l.b]? = some (.cells arr t (0, 0)) ∧ DR w (fun b => (cxE A as w).ok r.org b ∧ b ≠ l.b) r.c x arr.toList
    | false, false => v = l.sl ∧ FL w (fun b => (cxE A as w).ok r.org b ∧ (l.nil = false → b ≠ l.b)) l r.c x

/-- .. and what the caller comes to own besides. -/
def cxZ (A : Base) (as : List ASh) (w : World) (Z : Nat → Prop) : Cx := ⟨fun _ => none, A.S, fun b => (cxE A as w).ow b ∨ Z b, fun b => A.w0.heap.size ≤ b ∨ A.X b, w⟩

/-- What was lent. -/
def OuR (A : Base) (as0 : List ASh) (w : World) (Z : Nat → Prop) : Nat → (as : List ASh) → Tup (outs as) → Prop
  | _, [], _ => True
  | p, .ref c :: r, y => (∃ l, A.pin (8 * p + 5) = some l ∧ BR (cxZ A as0 w Z) (.vec (2 ^ p) c (thd (c := .list c) (r := outs r) y)) l) ∧ OuR A as0 w Z (p + 1) r (ttl (c := .list c) (r := outs r) y)
  | p, .rbox c :: r, y => (∃ l, A.pin (8 * p + 5) = some l ∧ (l.o = 0 ∧ l.nil = false) ∧ ∃ arr t, w.heap[l.b]? = some (.cells arr t (0, 0)) ∧ DR w ((cxZ A as0 w Z).ok (2 ^ p)) c (thd (r := outs r) y) arr.toList) ∧ OuR A as0 w Z (p + 1) r (ttl (r := outs r) y)
  | p, .d _ _ :: r, y => OuR A as0 w Z (p + 1) r y
  | p, .own _ :: r, y => OuR A as0 w Z (p + 1) r y
  | p, .clo _ _ :: r, y => OuR A as0 w Z (p + 1) r y
  | p, .rp _ :: r, y => OuR A as0 w Z (p + 1) r y
  | p, .rag _ c :: r, y => (∃ l, A.pin (8 * p + 5) = some l ∧ BR (cxZ A as0 w Z) (.vec (2 ^ p) c (thd (c := .list c) (r := outs r) y)) l) ∧ OuR A as0 w Z (p + 1) r (ttl (c := .list c) (r := outs r) y)
  | p, .k _ :: r, y => OuR A as0 w Z (p + 1) r y

def resultVal : List Value → Value
  | [u] => u
  | us => .tuple us.toArray

def outRs : (rs : List RSh) → {as : List ASh} → Tup (rcodes rs as) → Tup (outs as) := outR

def FRes (A : Base) (as : List ASh) (w : World) (Z : Nat → Prop) : (rs : List RSh) → Tup (rcodes rs as) → Value → Prop
  | [r], y, v => FV A as w Z r (thd (r := rcodes [] as) y) v
  | _, _, _ => False

def ResOk (A : Base) (as : List ASh) (w : World) (Z : Nat → Prop) (rs : List RSh) (y : Tup (rcodes rs as)) (v : Value) : Prop :=
  match frL rs with
  | true => FRes A as w Z rs y v
  | false => ∃ us, v = resultVal us ∧ RsR A as w rs y us

/-- What a call comes to. -/
structure FinR (A : Base) (i : FI) (y : Tup (rcodes i.rs i.as)) (v : Value) (w : World) : Prop where
  fr : Fr A w
  res : ∃ Z : Nat → Prop, ResOk A i.as w Z i.rs y v ∧ OuR A i.as w Z 0 i.as (outR i.rs y)

def MFn (E : Env) (i : FI) (x : Tup (acodes i.as)) (y : Tup (rcodes i.rs i.as)) : Prop :=
  (∃ fn, E.P.funcs[i.f]? = some fn ∧ fn.body.isSome = true) ∧
  ∀ (A : Base) (g : Nat → Option Loc) (vs : Array Value), Held E A → vs.size = i.as.length → Mem A g (mkA 0 i.as x).bk A.w0 → (∀ t, TR (cxOf A g (mkA 0 i.as x).bk A.w0) ((mkA 0 i.as x).tm t) (vs.getD t undef)) → (∀ id ∈ refIds 0 i.as, A.pin id = g id) →
    Calls E.P i.f vs A.w0 fun e w' => ∃ v, e = .returned v ∧ FinR A i y v w'

section
variable {E : Env} {A : Base} {g : Nat → Option Loc} {st : St} {a : Act} {w : World} {n : Nat}

/-- A result's value. -/
def resOf (tmps : Array Value) : ResultVar → Sem Value
  | .tmp t => pure (tmps.getD t undef)
  | .cell a t => do loadVar t (← asAddr (tmps.getD a undef))

theorem res_run (hI : Inv A n g st a w) {v : ResultVar} {x : Val} (h : resV E st v = some x) : ∃ u, (resOf a.tmps v).run E.P w = .ok u w ∧ VR (cxOf A g st.bk w) x u := by
  cases v with
  | tmp t =>
    simp only [resV] at h
    split at h
    · rename_i v hv
      cases h
      have ht := hI.tm t
      rw [hv] at ht
      exact ⟨_, rfl, ht⟩
    · cases h
  | cell b t =>
    simp only [resV] at h
    split at h
    · rename_i id agg sz hb hagg hsz
      split at h
      · rename_i cs hbk
        have ht := hI.tm b
        rw [hb] at ht
        obtain ⟨l, hg, hv⟩ := (show SR (cxOf A g st.bk w) (.ptr id 0) _ from ht)
        obtain ⟨l', hg', ⟨_, arr, t', harr, hall⟩, _⟩ := hI.mem.br _ _ hbk
        rw [show g id = some l from hg] at hg'; cases hg'
        obtain ⟨l1, l2⟩ := load_run hagg hsz (w := w) (b := l.b) (o := 0) (off := 0) (vs := arr.toList) (fun j v hj => by rw [cell_of (w := w) harr]; simpa using hj)
        simp only [Nat.add_zero] at l1 l2
        have hr : ∀ u, (loadVar t ⟨l.b, 0, none⟩).run E.P w = .ok u w → (resOf a.tmps (.cell b t)).run E.P w = .ok u w := fun u hu => by
          simp [resOf, hv, asAddr, hu]
        cases agg
        · simp only [] at h
          split at h
          · rename_i s hs
            cases h
            obtain ⟨u, hu, hsr⟩ := hall.get hs
            exact ⟨u, hr u (l2 rfl u hu), hsr⟩
          · cases h
        · simp only [] at h
          obtain ⟨hle, h⟩ := if_some h
          cases h
          refine ⟨_, hr _ (l1 rfl (by rw [← hall.length]; omega)), _, rfl, ?_⟩
          simpa using hall.take sz
      · cases h
    · cases h

theorem dr_exit (hI : Inv A n g st a w) {as : List ASh} (hlive : ∀ id ∈ refIds 0 as, isLive st.bk id = true) {c : Cd} {ss : List Sc} {vs : List Value} {x : El c} {org : Nat} (ha : All2 (SR (cxOf A g st.bk w)) ss vs) (hd : decC st.bk c ss = some x)
    (ho : orgLe (orgL st.bk ss) org = true) (hs : ∀ id ∈ idsL ss, id ∉ refIds 0 as) : DR w ((cxE A as w).ok org) c x vs := by
  refine (decC_dr hI.mem (Sub.refl _) (I := idsL ss) ha hd (fun id h _ => h) ho).mono (Nat.le_refl _) fun b hb hok => ⟨⟨hok.1, ?_, hok.2.2⟩, rfl⟩
  rintro ⟨id, hm, l, hp, hn, hlb⟩
  obtain ⟨_, p2⟩ := hI.mem.pin id l hp
  have hl := hlive id hm
  have hlv : ∃ blk, st.bk id = .live blk := by
    unfold isLive at hl
    split at hl
    · exact ⟨_, ‹_›⟩
    · cases hl
  obtain ⟨blk, hblk⟩ := hlv
  exact hs id (hok.2.1 id blk l hblk (p2 hl) hn hlb) hm

theorem packO_live : ∀ (p : Nat) (as : List ASh) (y : Tup (outs as)), packO st p as = some y → ∀ id ∈ refIds p as, isLive st.bk id = true
  | _, [], _, _, id, h => by simp [refIds] at h
  | p, .ref c :: r, y, hp, id, h => by
    simp only [packO] at hp
    obtain ⟨_, hp⟩ := if_some hp
    split at hp
    · rename_i u z hu hz
      simp only [refIds, List.mem_cons] at h
      rcases h with rfl | h
      · obtain ⟨_, _, _, hb, _⟩ := ownedL_inv hu; exact isLive_of hb
      · exact packO_live (p + 1) r z hz id h
    · cases hp
  | p, .rag _ c :: r, y, hp, id, h => by
    simp only [packO] at hp
    obtain ⟨_, hp⟩ := if_some hp
    split at hp
    · rename_i u z hu hz
      simp only [refIds, List.mem_cons] at h
      rcases h with rfl | h
      · obtain ⟨_, _, _, hb, _⟩ := ownedL_inv hu; exact isLive_of hb
      · exact packO_live (p + 1) r z hz id h
    · cases hp
  | p, .rbox c :: r, y, hp, id, h => by
    simp only [packO] at hp
    split at hp
    · rename_i cs hb
      obtain ⟨_, hp⟩ := if_some hp
      split at hp
      · rename_i u z hu hz
        simp only [refIds, List.mem_cons] at h
        rcases h with rfl | h
        · exact isLive_of hb
        · exact packO_live (p + 1) r z hz id h
      · cases hp
    · cases hp
  | p, .d _ _ :: r, y, hp, id, h => packO_live (p + 1) r y hp id h
  | p, .own _ :: r, y, hp, id, h => packO_live (p + 1) r y hp id h
  | p, .clo _ _ :: r, y, hp, id, h => packO_live (p + 1) r y hp id h
  | p, .rp _ :: r, y, hp, id, h => packO_live (p + 1) r y hp id h
  | p, .k _ :: r, y, hp, id, h => packO_live (p + 1) r y hp id h

/-- Owned blocks that the lent variables do not name. -/
def ZOk (g : Nat → Option Loc) (st : St) (as0 : List ASh) (Z : Nat → Prop) : Prop := ∀ b, Z b → ∃ id blk l, st.bk id = .live blk ∧ g id = some l ∧ l.nil = false ∧ l.b = b ∧ id ∉ idsB st 0 as0

theorem dr_exitZ (hI : Inv A n g st a w) {as : List ASh} (hlive : ∀ id ∈ refIds 0 as, isLive st.bk id = true) {c : Cd} {ss : List Sc} {vs : List Value} {x : El c} {org : Nat} (ha : All2 (SR (cxOf A g st.bk w)) ss vs) (hd : decC st.bk c ss = some x)
    (ho : orgLe (orgL st.bk ss) org = true) (hs : ∀ id ∈ idsL ss, id ∉ refIds 0 as) {Z : Nat → Prop} (hZ : ∀ b, Z b → ∃ id blk l, st.bk id = .live blk ∧ g id = some l ∧ l.nil = false ∧ l.b = b ∧ id ∉ idsL ss) : DR w ((cxZ A as w Z).ok org) c x vs := by
  refine (decC_dr hI.mem (Sub.refl _) (I := idsL ss) ha hd (fun id h _ => h) ho).mono (Nat.le_refl _) fun b hb hok => ⟨⟨hok.1, ?_, hok.2.2⟩, rfl⟩
  rintro (⟨id, hm, l, hp, hn, hlb⟩ | hz)
  · obtain ⟨_, p2⟩ := hI.mem.pin id l hp
    have hl := hlive id hm
    have hlv : ∃ blk, st.bk id = .live blk := by
      unfold isLive at hl
      split at hl
      · exact ⟨_, ‹_›⟩
      · cases hl
    obtain ⟨blk, hblk⟩ := hlv
    exact hs id (hok.2.1 id blk l hblk (p2 hl) hn hlb) hm
  · obtain ⟨id, blk, l, h1, h2, h3, h4, h5⟩ := hZ b hz
    exact h5 (hok.2.1 id blk l h1 h2 h3 h4)

theorem packO_our (hI : Inv A n g st a w) {as0 : List ASh} {Z : Nat → Prop} (hZ : ZOk g st as0 Z) (hlive : ∀ id ∈ refIds 0 as0, isLive st.bk id = true) (hpin : ∀ id ∈ refIds 0 as0, ∃ l, A.pin id = some l) (hidB : ∀ id ∈ idsB st 0 as0, id ∉ refIds 0 as0) :
    ∀ (p : Nat) (as : List ASh) (y : Tup (outs as)), packO st p as = some y → (∀ id ∈ refIds p as, id ∈ refIds 0 as0) → (∀ id ∈ idsB st p as, id ∈ idsB st 0 as0) → OuR A as0 w Z p as y
  | _, [], _, _, _, _ => trivial
  | p, .ref c :: r, y, hp, h1, h2 => by
    simp only [packO] at hp
    obtain ⟨ho, hp⟩ := if_some hp
    split at hp
    · rename_i u z hu hz
      cases hp
      have hid : 8 * p + 5 ∈ refIds 0 as0 := h1 _ (by simp only [refIds]; exact List.mem_cons_self ..)
      obtain ⟨l, hl⟩ := hpin _ hid
      obtain ⟨org, c', xs', hb, horg, hc, rfl⟩ := ownedL_inv hu
      obtain ⟨l', hg', hbr, _⟩ := hI.mem.br _ _ hb
      have := (hI.mem.pin _ l hl).2 (isLive_of hb)
      rw [this] at hg'; cases hg'
      simp only [OuR, thd_cons, ttl_cons]
      refine ⟨⟨l, hl, castL_br hc ?_⟩, packO_our hI hZ hlive hpin hidB (p + 1) r z hz (fun id h => h1 id (by simp only [refIds]; exact List.mem_cons_of_mem _ h)) h2⟩
      rw [horg] at ho
      have hokE : ∀ b, (cxOf A g st.bk w).ok org b → (cxZ A as0 w Z).ok (2 ^ p) b := fun b hok => by
        refine ⟨A.mono _ _ _ ho hok.1, ?_, hok.2.2⟩
        rintro (⟨id, hm, l1, q1, q2, q3⟩ | hz)
        rotate_left
        · obtain ⟨id, blk, l1, q1, q2, q3, q4, _⟩ := hZ b hz
          exact hok.2.1 ⟨id, blk, l1, q1, q2, q3, q4⟩
        have hl1 := hlive id hm
        have hlv : ∃ blk, st.bk id = .live blk := by
          unfold isLive at hl1
          split at hl1
          · exact ⟨_, ‹_›⟩
          · cases hl1
        obtain ⟨blk, hblk⟩ := hlv
        exact hok.2.1 ⟨id, blk, l1, hblk, (hI.mem.pin id l1 q1).2 hl1, q2, q3⟩
      rcases hbr with h | ⟨hnl, hS, hn, hcp, hsz, arr, t, ha, hs, he⟩
      · exact .inl h
      · refine .inr ⟨hnl, A.mono _ _ _ ho hS, hn, hcp, hsz, arr, t, ha, hs, fun i x hx => ?_⟩
        obtain ⟨cs, hd, hv⟩ := he i x hx
        exact ⟨cs, hd.mono (Nat.le_refl _) fun b hb' hok => ⟨hokE b hok, rfl⟩, hv⟩
    · cases hp
  | p, .rag _ c :: r, y, hp, h1, h2 => by
    simp only [packO] at hp
    obtain ⟨ho, hp⟩ := if_some hp
    split at hp
    · rename_i u z hu hz
      cases hp
      have hid : 8 * p + 5 ∈ refIds 0 as0 := h1 _ (by simp only [refIds]; exact List.mem_cons_self ..)
      obtain ⟨l, hl⟩ := hpin _ hid
      obtain ⟨org, c', xs', hb, horg, hc, rfl⟩ := ownedL_inv hu
      obtain ⟨l', hg', hbr, _⟩ := hI.mem.br _ _ hb
      have := (hI.mem.pin _ l hl).2 (isLive_of hb)
      rw [this] at hg'; cases hg'
      simp only [OuR, thd_cons, ttl_cons]
      refine ⟨⟨l, hl, castL_br hc ?_⟩, packO_our hI hZ hlive hpin hidB (p + 1) r z hz (fun id h => h1 id (by simp only [refIds]; exact List.mem_cons_of_mem _ h)) h2⟩
      rw [horg] at ho
      have hokE : ∀ b, (cxOf A g st.bk w).ok org b → (cxZ A as0 w Z).ok (2 ^ p) b := fun b hok => by
        refine ⟨A.mono _ _ _ ho hok.1, ?_, hok.2.2⟩
        rintro (⟨id, hm, l1, q1, q2, q3⟩ | hz)
        rotate_left
        · obtain ⟨id, blk, l1, q1, q2, q3, q4, _⟩ := hZ b hz
          exact hok.2.1 ⟨id, blk, l1, q1, q2, q3, q4⟩
        have hl1 := hlive id hm
        have hlv : ∃ blk, st.bk id = .live blk := by
          unfold isLive at hl1
          split at hl1
          · exact ⟨_, ‹_›⟩
          · cases hl1
        obtain ⟨blk, hblk⟩ := hlv
        exact hok.2.1 ⟨id, blk, l1, hblk, (hI.mem.pin id l1 q1).2 hl1, q2, q3⟩
      rcases hbr with h | ⟨hnl, hS, hn, hcp, hsz, arr, t, ha, hs, he⟩
      · exact .inl h
      · refine .inr ⟨hnl, A.mono _ _ _ ho hS, hn, hcp, hsz, arr, t, ha, hs, fun i x hx => ?_⟩
        obtain ⟨cs, hd, hv⟩ := he i x hx
        exact ⟨cs, hd.mono (Nat.le_refl _) fun b hb' hok => ⟨hokE b hok, rfl⟩, hv⟩
    · cases hp
  | p, .rbox c :: r, y, hp, h1, h2 => by
    simp only [packO] at hp
    split at hp
    · rename_i cs hb
      obtain ⟨ho, hp⟩ := if_some hp
      split at hp
      · rename_i u z hu hz
        cases hp
        have hid : 8 * p + 5 ∈ refIds 0 as0 := h1 _ (by simp only [refIds]; exact List.mem_cons_self ..)
        obtain ⟨l, hl⟩ := hpin _ hid
        obtain ⟨l', hg', ⟨h0, arr, t, harr, hall⟩, _⟩ := hI.mem.br _ _ hb
        have := (hI.mem.pin _ l hl).2 (isLive_of hb)
        rw [this] at hg'; cases hg'
        simp only [OuR, thd_cons, ttl_cons]
        refine ⟨⟨l, hl, h0, arr, t, harr, dr_exitZ hI hlive hall hu ho (fun id hi => hidB id (h2 id ?_)) fun b hz => ?_⟩, packO_our hI hZ hlive hpin hidB (p + 1) r z hz (fun id h => h1 id (by simp only [refIds]; exact List.mem_cons_of_mem _ h)) fun id h => h2 id ?_⟩
        · simp only [idsB, hb]; exact List.mem_append_left _ hi
        · obtain ⟨id, blk, l1, q1, q2, q3, q4, q5⟩ := hZ b hz
          exact ⟨id, blk, l1, q1, q2, q3, q4, fun hi => q5 (h2 id (by simp only [idsB, hb]; exact List.mem_append_left _ hi))⟩
        · simp only [idsB, hb]; exact List.mem_append_right _ h
      · cases hp
    · cases hp
  | p, .d _ _ :: r, y, hp, h1, h2 => packO_our hI hZ hlive hpin hidB (p + 1) r y hp h1 h2
  | p, .own _ :: r, y, hp, h1, h2 => packO_our hI hZ hlive hpin hidB (p + 1) r y hp h1 h2
  | p, .clo _ _ :: r, y, hp, h1, h2 => packO_our hI hZ hlive hpin hidB (p + 1) r y hp h1 h2
  | p, .rp _ :: r, y, hp, h1, h2 => packO_our hI hZ hlive hpin hidB (p + 1) r y hp h1 h2
  | p, .k _ :: r, y, hp, h1, h2 => packO_our hI hZ hlive hpin hidB (p + 1) r y hp h1 h2

theorem nz_some {α : Type} {b : Bool} {x : Option α} {y : α} (h : cond b x none = some y) : b = true ∧ x = some y := by
  cases b
  · cases h
  · exact ⟨rfl, h⟩

/-- What the mark of a nilable result says. -/
theorem nz_ok {C : Cx} {B : Nat → BS} {c : Cd} {agg : Bool} {x : Val} {u : El c} {uv : Value} (hk : nzCk true agg B x.cells = true) (hu : decArg B c agg x = some u) (hv : VR C x uv) : nilOk c u uv := by
  rcases decArg_inv hu with ⟨rfl, s, rfl, hd⟩ | ⟨rfl, cs, rfl, hd⟩
  · cases c with
    | list c' =>
      simp only [nilOk]
      intro he
      subst he
      simp only [decC] at hd
      simp only [Val.cells] at hk
      cases s <;> simp only [nzCk, Bool.false_eq_true, Bool.not_eq_true', List.isEmpty_eq_false_iff] at hk
      case nils => exact hv
      case ps o c0 xs =>
        simp only [listOf] at hd
        split at hd
        · rename_i hc
          subst hc
          simp only [castL, Option.some.injEq] at hd
          exact (hk hd).elim
        · cases hd
      case psn o c0 xs =>
        simp only [listOf] at hd
        split at hd
        · rename_i hc
          subst hc
          simp only [castL, Option.some.injEq] at hd
          exact hv.2 hd
        · cases hd
      case own id =>
        simp only [listOf] at hd
        split at hd
        · rename_i q hq
          rw [hq] at hk
          simp only [Bool.not_eq_true', List.isEmpty_eq_false_iff] at hk
          split at hd
          · rename_i hc
            obtain ⟨o, c0, xs⟩ := q
            simp only at hc
            subst hc
            simp only [castL, Option.some.injEq] at hd
            exact (hk hd).elim
          · cases hd
        · cases hd
    | _ => trivial
  · unfold nzCk at hk
    simp at hk

theorem packR_cons (v : ResultVar) (vs : List ResultVar) (r : RSh) (rs : List RSh) (as : List ASh) : packR E st (v :: vs) (r :: rs) as = (match resV E st v with
    | some x => if orgLe (orgL st.bk x.cells) r.org then
        cond (nzCk (nzOf r) r.agg st.bk x.cells) (match decArg st.bk r.c r.agg x, packR E st vs rs as with
        | some y, some z => some (tcons (r := rcodes rs as) y z)
        | _, _ => none) none
      else none
    | none => none) := rfl

theorem packR_out : ∀ (vs : List ResultVar) (rs : List RSh) (as : List ASh) (y : Tup (rcodes rs as)), packR E st vs rs as = some y → packO st 0 as = some (outR rs y)
  | [], [], as, y, h => h
  | v :: vs, r :: rs, as, y, h => by
    rw [packR_cons] at h
    split at h
    · obtain ⟨_, h⟩ := if_some h
      obtain ⟨_, h⟩ := nz_some h
      split at h
      · rename_i u z hu hz
        cases h
        simp only [outR, ttl_cons]
        exact packR_out vs rs as z hz
      · cases h
    · cases h
  | [], _ :: _, _, _, h => by cases h
  | _ :: _, [], _, _, h => by cases h

theorem packR_res (hI : Inv A n g st a w) {as : List ASh} (hlive : ∀ id ∈ refIds 0 as, isLive st.bk id = true) {vs0 : List ResultVar} (hids : ∀ id ∈ idsR E st vs0, id ∉ refIds 0 as) :
    ∀ (vs : List ResultVar) (rs : List RSh) (y : Tup (rcodes rs as)), packR E st vs rs as = some y → (∀ id ∈ idsR E st vs, id ∈ idsR E st vs0) → ∃ us, (vs.mapM (resOf a.tmps)).run E.P w = .ok us w ∧ RsR A as w rs y us
  | [], [], y, h, _ => ⟨[], by simp, rfl⟩
  | v :: vs, r :: rs, y, h, h1 => by
    rw [packR_cons] at h
    split at h
    · rename_i x hx
      obtain ⟨ho, h⟩ := if_some h
      obtain ⟨hnz, h⟩ := nz_some h
      split at h
      · rename_i u z hu hz
        cases h
        obtain ⟨uv, hrun, hvr⟩ := res_run hI hx
        obtain ⟨us, hus, hrs⟩ := packR_res hI hlive hids vs rs z hz fun id h => h1 id (by simp only [idsR]; exact List.mem_append_right _ h)
        refine ⟨uv :: us, ?_, ⟨?_, ?_⟩, ?_⟩
        · simp only [List.mapM_cons, Sem.run_bind, hrun, Result.andThen_ok, hus, Sem.run_pure]
        · simp only [thd_cons]
          have hs : ∀ id ∈ idsL x.cells, id ∉ refIds 0 as := fun id hi => hids id (h1 id (by simp only [idsR, hx]; exact List.mem_append_left _ hi))
          rcases decArg_inv hu with ⟨e, s, rfl, hd⟩ | ⟨e, cs, rfl, hd⟩
          · exact .inl ⟨e, dr_exit hI hlive (ss := [s]) (vs := [uv]) ⟨hvr, trivial⟩ hd ho hs⟩
          · obtain ⟨arr, rfl, ha⟩ := hvr
            exact .inr ⟨e, arr, rfl, dr_exit hI hlive ha hd ho hs⟩
        · simp only [thd_cons]
          intro e
          rw [e] at hnz
          exact nz_ok hnz hu hvr
        · simp only [ttl_cons]; exact hrs
      · cases h
    · cases h
  | [], _ :: _, _, h, _ => by cases h
  | _ :: _, [], _, h, _ => by cases h

theorem packF_inv {v : ResultVar} {r : RSh} {as : List ASh} {y : Tup (rcodes [r] as)} (h : packF E st [v] [r] as = some y) : ∃ (x : El r.c) (z : Tup (rcodes [] as)), y = tcons (r := rcodes [] as) x z ∧ packO st 0 as = some z ∧
    ((ptrR r = false ∧ ∃ id, resV E st v = some (.one (.own id)) ∧ (apartB [id] (refIds 0 as) = true ∧ apartB [id] (idsB st 0 as) = true) ∧ orgLe (orgS st.bk (.own id)) r.org = true ∧ ownF st.bk r.c id = some x ∧ r.agg = false) ∨
     (ptrR r = false ∧ resV E st v = some (.one .nils) ∧ nilF r.c = some x ∧ r.agg = false) ∨
     (ptrR r = false ∧ ∃ id cs, resV E st v = some (.agg cs) ∧ ownCell r.c cs = some id ∧ ((((apartB [id] (refIds 0 as) = true ∧ apartB [id] (idsB st 0 as) = true) ∧ isLive st.bk id = true) ∧ Nat.beq (nlist r.c) 1 = true) ∧ r.agg = true) ∧ orgLe (orgS st.bk (.own id)) r.org = true ∧ decC st.bk r.c cs = some x) ∨
     (ptrR r = true ∧ ∃ id cs, resV E st v = some (.one (.ptr id 0)) ∧ st.bk id = .live (.box cs) ∧ ((apartB (id :: idsL cs) (refIds 0 as) = true ∧ apartB [id] (idsL cs) = true) ∧ apartB [id] (idsB st 0 as) = true) ∧ orgLe (orgL st.bk cs) r.org = true ∧ decC st.bk r.c cs = some x)) := by
  simp only [packF] at h
  split at h
  · rename_i cs hp hv
    split at h
    · rename_i id hid
      obtain ⟨h1, h⟩ := if_some h
      simp only [Bool.and_eq_true] at h1
      obtain ⟨h2, h⟩ := if_some h
      split at h
      · rename_i x z hx hz
        cases h
        exact ⟨x, z, rfl, hz, .inr (.inr (.inl ⟨hp, id, cs, hv, hid, h1, h2, hx⟩))⟩
      · cases h
    · cases h
  · rename_i hp hv
    obtain ⟨h1, h⟩ := if_some h
    split at h
    · rename_i x z hx hz
      cases h
      exact ⟨x, z, rfl, hz, .inr (.inl ⟨hp, hv, hx, by simpa using h1⟩)⟩
    · cases h
  · rename_i id hp hv
    obtain ⟨h1, h⟩ := if_some h
    simp only [Bool.and_eq_true, Bool.not_eq_true'] at h1
    obtain ⟨h2, h⟩ := if_some h
    split at h
    · rename_i x z hx hz
      cases h
      exact ⟨x, z, rfl, hz, .inl ⟨hp, id, hv, h1.1, h2, hx, h1.2⟩⟩
    · cases h
  · rename_i id hp hv
    split at h
    · rename_i cs hb
      obtain ⟨h1, h⟩ := if_some h
      rw [Bool.and_eq_true, Bool.and_eq_true] at h1
      obtain ⟨h2, h⟩ := if_some h
      split at h
      · rename_i x z hx hz
        cases h
        exact ⟨x, z, rfl, hz, .inr (.inr (.inr ⟨hp, id, cs, hv, hb, h1, h2, hx⟩))⟩
      · cases h
    · cases h
  · cases h

theorem packF_out : ∀ (vs : List ResultVar) (rs : List RSh) (as : List ASh) (y : Tup (rcodes rs as)), packF E st vs rs as = some y → packO st 0 as = some (outR rs y)
  | [v], [r], as, y, h => by
    obtain ⟨x, z, rfl, hz, _⟩ := packF_inv h
    simp only [outR, ttl_cons]
    exact hz
  | [], _, _, _, h => by cases h
  | _ :: _ :: _, _, _, _, h => by cases h
  | [_], [], _, _, h => by cases h
  | [_], _ :: _ :: _, _, _, h => by cases h

theorem nlist_flat0 : ∀ {c : Cd}, nlist c = 0 → cflat c = true
  | .pair a b, h => by
    simp only [nlist] at h
    simp [cflat, nlist_flat0 (c := a) (by omega), nlist_flat0 (c := b) (by omega)]
  | .list _, h => by simp [nlist] at h
  | .i _, _ => rfl
  | .bool, _ => rfl
  | .str, _ => rfl
  | .unit, _ => rfl

/-- What the exit's setting lets lie. -/
theorem okE_of (hI : Inv A n g st a w) {as : List ASh} (hlive : ∀ id ∈ refIds 0 as, isLive st.bk id = true) {org org' : Nat} (ho : orgLe org org' = true) {b : Nat} (hok : (cxOf A g st.bk w).ok org b) : (cxE A as w).ok org' b := by
  refine ⟨A.mono _ _ _ ho hok.1, ?_, hok.2.2⟩
  rintro ⟨id, hm, l1, q1, q2, q3⟩
  have hl1 := hlive id hm
  have hlv : ∃ blk, st.bk id = .live blk := by
    unfold isLive at hl1
    split at hl1
    · exact ⟨_, ‹_›⟩
    · cases hl1
  obtain ⟨blk, hblk⟩ := hlv
  exact hok.2.1 ⟨id, blk, l1, hblk, (hI.mem.pin id l1 q1).2 hl1, q2, q3⟩

/-- A block whose name is none of those that were lent. -/
theorem not_owE (hI : Inv A n g st a w) {as : List ASh} (hlive : ∀ id ∈ refIds 0 as, isLive st.bk id = true) {id : Nat} {blk : Blk} {l : Loc} (hb : st.bk id = .live blk) (hg : g id = some l) (hn : l.nil = false) (hid : id ∉ refIds 0 as) : ¬ (cxE A as w).ow l.b := by
  rintro ⟨id1, hm, l1, q1, q2, q3⟩
  have hl1 := hlive id1 hm
  have hlv : ∃ blk, st.bk id1 = .live blk := by
    unfold isLive at hl1
    split at hl1
    · exact ⟨_, ‹_›⟩
    · cases hl1
  obtain ⟨blk1, hblk1⟩ := hlv
  have := hI.mem.inj id1 id _ _ l1 l hblk1 hb ((hI.mem.pin id1 l1 q1).2 hl1) hg q2 hn q3
  exact hid (this ▸ hm)

theorem ownCell_list {c : Cd} {cs : List Sc} {id : Nat} (h : ownCell (.list c) cs = some id) : cs = [.own id] := by
  cases cs with
  | nil => simp [ownCell] at h
  | cons s r =>
    cases r with
    | nil => cases s <;> simp [ownCell] at h ⊢; exact h
    | cons _ _ => cases s <;> simp [ownCell] at h

/-- What an owned slice in a struct brings. -/
theorem fa_of (hI : Inv A n g st a w) {as : List ASh} (hlive : ∀ id ∈ refIds 0 as, isLive st.bk id = true) {id : Nat} {blk : Blk} {l : Loc} (hb : st.bk id = .live blk) (hg : g id = some l) (hbr : BR (cxOf A g st.bk w) blk l) {ro : Nat} (ho : orgLe (orgS st.bk (.own id)) ro = true) :
    ∀ (c : Cd) (cs : List Sc) (vs : List Value) (x : El c), nlist c = 1 → ownCell c cs = some id → All2 (SR (cxOf A g st.bk w)) cs vs → decC st.bk c cs = some x → FA w (fun b => (cxE A as w).ok ro b ∧ (l.nil = false → b ≠ l.b)) l c x vs
  | .list c, cs, vs, x, _, hoc, hall, hx => by
    · have hcs := ownCell_list hoc
      subst hcs
      match vs, hall with
      | [v], hall =>
        obtain ⟨l', hg', hv⟩ := (show ∃ l, g id = some l ∧ v = l.sl from hall.1)
        rw [hg] at hg'
        cases hg'
        have hx' : listOf st.bk c (.own id) = some x := hx
        obtain ⟨org, c', xs', hb', horg, hcc, hxe⟩ := ownedL_inv (show ownedL st.bk c id = some x by unfold ownedL; rw [isLive_of hb]; exact hx')
        rw [hb] at hb'
        cases hb'
        rw [horg] at ho
        refine ⟨by rw [hv], ?_⟩
        subst hcc
        have hxe' : x = xs' := hxe
        subst hxe'
        rcases hbr with ⟨q1, q2, q3⟩ | ⟨hnl, hS, hn, hcp, hsz, arr, t, ha, hs, he⟩
        · exact .inl ⟨q1, q2, q3⟩
        · refine .inr ⟨hnl, hn, hcp, hsz, arr, t, ha, hs, fun i x hx => ?_⟩
          obtain ⟨cs, hd, hv⟩ := he i x hx
          exact ⟨cs, hd.mono (Nat.le_refl _) fun b _ hok => ⟨⟨okE_of hI hlive ho hok, fun _ e => hok.2.1 ⟨id, _, l, hb, hg, hnl, e.symm⟩⟩, rfl⟩, hv⟩
  | .pair a b, cs, vs, x, hn, hoc, hall, hx => by
    have h1 := hall.take (csize a)
    have h2 := hall.drop (csize a)
    simp only [decC] at hx
    split at hx
    · rename_i y z hy hz
      cases hx
      refine ⟨vs.take (csize a), vs.drop (csize a), (List.take_append_drop _ _).symm, ?_⟩
      simp only [ownCell] at hoc
      cases ha : Nat.beq (nlist a) 0 with
      | true =>
        rw [ha] at hoc
        have ha0 := Nat.eq_of_beq_eq_true ha
        simp only [nlist] at hn
        exact ⟨(decC_dr hI.mem (Sub.refl _) (I := idsL (cs.take (csize a))) h1 hy (fun id h _ => h) (orgLe_refl _)).flat (nlist_flat0 ha0), fa_of hI hlive hb hg hbr ho b _ _ z (by omega) hoc h2 hz⟩
      | false =>
        rw [ha] at hoc
        have ha0 : nlist a ≠ 0 := fun e => by rw [e] at ha; cases ha
        simp only [nlist] at hn
        exact ⟨fa_of hI hlive hb hg hbr ho a _ _ y (by omega) hoc h1 hy, (decC_dr hI.mem (Sub.refl _) (I := idsL (cs.drop (csize a))) h2 hz (fun id h _ => h) (orgLe_refl _)).flat (nlist_flat0 (by omega)), by omega⟩
    · cases hx
  | .i _, _, _, _, hn, _, _, _ => by simp [nlist] at hn
  | .bool, _, _, _, hn, _, _, _ => by simp [nlist] at hn
  | .str, _, _, _, hn, _, _, _ => by simp [nlist] at hn
  | .unit, _, _, _, hn, _, _, _ => by simp [nlist] at hn

/-- The end of a body whose result the caller comes to own. -/
theorem fin_own (hI : Inv A n g st a w) {as : List ASh} (hlive : ∀ id ∈ refIds 0 as, isLive st.bk id = true) {v : ResultVar} {r : RSh} {y : Tup (rcodes [r] as)} (h : packF E st [v] [r] as = some y) :
    ∃ Z, ZOk g st as Z ∧ ∃ u, ([v].mapM (resOf a.tmps)).run E.P w = .ok [u] w ∧ FRes A as w Z [r] y u := by
  obtain ⟨x, z, rfl, _, ⟨hp, id, hv, ⟨h1, hB⟩, h2, hx, hagg⟩ | ⟨hp, hv, hx, hagg⟩ | ⟨hp, id, cs, hv, hoc, ⟨⟨⟨⟨h1, hB⟩, hlive'⟩, hnl⟩, hagg⟩, h2, hx⟩ | ⟨hp, id, cs, hv, hb, ⟨⟨h1, h1'⟩, hB⟩, h2, hx⟩⟩ := packF_inv h
  · obtain ⟨u, hrun, hvr⟩ := res_run hI hv
    have hid : id ∉ refIds 0 as := apartB_mem h1 (List.mem_singleton.2 rfl)
    obtain ⟨l, hg, hu⟩ := (show ∃ l, g id = some l ∧ u = l.sl from hvr)
    have hlv : ∃ blk, st.bk id = .live blk := by
      obtain ⟨rc, ra, ro⟩ := r
      cases rc with
      | list c =>
        obtain ⟨_, _, _, hb, _⟩ := ownedL_inv (show ownedL st.bk c id = some x from hx)
        exact ⟨_, hb⟩
      | _ => cases hx
    obtain ⟨blk0, hlv⟩ := hlv
    refine ⟨fun b => l.nil = false ∧ b = l.b, fun b hz => ⟨id, blk0, l, hlv, hg, hz.1, hz.2.symm, apartB_mem hB (List.mem_singleton.2 rfl)⟩, u, by simp [Sem.run_bind, hrun, Result.andThen_ok, Sem.run_pure], ?_⟩
    obtain ⟨rc, ra, ro⟩ := r
    cases rc with
    | list c =>
      obtain ⟨org, c', xs', hb, horg, hcc, hxe⟩ := ownedL_inv (show ownedL st.bk c id = some x from hx)
      obtain ⟨l', hg', hbr, hX⟩ := hI.mem.br _ _ hb
      rw [show g id = some l from hg] at hg'
      cases hg'
      rw [horg] at h2
      refine ⟨l, fun hn => ⟨⟨hn, rfl⟩, (hX hn).1, (hX hn).2, not_owE hI hlive hb hg hn hid⟩, ?_⟩
      rw [hp, hagg]
      refine ⟨hu, ?_⟩
      rw [thd_cons]
      show FL w (fun b => (cxE A as w).ok ro b ∧ (l.nil = false → b ≠ l.b)) l (.list c) x
      subst hcc
      have hxe' : x = xs' := hxe
      subst hxe'
      rcases hbr with ⟨q1, q2, q3⟩ | ⟨hnl, hS, hn, hcp, hsz, arr, t, ha, hs, he⟩
      · exact .inl ⟨q1, q2, q3⟩
      · refine .inr ⟨hnl, hn, hcp, hsz, arr, t, ha, hs, fun i x hx => ?_⟩
        obtain ⟨cs, hd, hv⟩ := he i x hx
        exact ⟨cs, hd.mono (Nat.le_refl _) fun b _ hok => ⟨⟨okE_of hI hlive h2 hok, fun _ e => hok.2.1 ⟨id, _, l, hb, hg, hnl, e.symm⟩⟩, rfl⟩, hv⟩
    | _ => cases hx
  · obtain ⟨u, hrun, hvr⟩ := res_run hI hv
    have hu : u = .slice none 0 0 := hvr
    refine ⟨fun _ => False, fun _ h => h.elim, u, by simp [Sem.run_bind, hrun, Result.andThen_ok, Sem.run_pure], ?_⟩
    obtain ⟨rc, ra, ro⟩ := r
    cases rc with
    | list c =>
      have hx' : x = [] := by
        have : some [] = some x := hx
        cases this; rfl
      subst hx'
      refine ⟨⟨0, 0, 0, 0, csize c, true, none⟩, (fun hn => by cases hn), ?_⟩
      rw [hp, hagg]
      refine ⟨hu, ?_⟩
      rw [thd_cons]
      exact .inl ⟨rfl, rfl, rfl, rfl, rfl, .inl rfl⟩
    | _ => cases hx
  · obtain ⟨u, hrun, hvr⟩ := res_run hI hv
    have hid : id ∉ refIds 0 as := apartB_mem h1 (List.mem_singleton.2 rfl)
    obtain ⟨arr, hu, hall⟩ := (show ∃ arr : Array Value, u = .agg arr ∧ All2 (SR (cxOf A g st.bk w)) cs arr.toList from hvr)
    have hlv : ∃ blk, st.bk id = .live blk := by
      unfold isLive at hlive'
      split at hlive'
      · exact ⟨_, ‹_›⟩
      · cases hlive'
    obtain ⟨blk, hb⟩ := hlv
    obtain ⟨l, hg, hbr, hX⟩ := hI.mem.br _ _ hb
    refine ⟨fun b => l.nil = false ∧ b = l.b, fun b hz => ⟨id, blk, l, hb, hg, hz.1, hz.2.symm, apartB_mem hB (List.mem_singleton.2 rfl)⟩, u, by simp [Sem.run_bind, hrun, Result.andThen_ok, Sem.run_pure], ?_⟩
    refine ⟨l, fun hn => ⟨⟨hn, rfl⟩, (hX hn).1, (hX hn).2, not_owE hI hlive hb hg hn hid⟩, ?_⟩
    rw [hp, hagg]
    refine ⟨arr, hu, ?_⟩
    rw [thd_cons]
    exact fa_of hI hlive hb hg hbr h2 r.c cs arr.toList x (Nat.eq_of_beq_eq_true hnl) hoc hall hx
  · obtain ⟨u, hrun, hvr⟩ := res_run hI hv
    have hid : id ∉ refIds 0 as := apartB_mem h1 (List.mem_cons_self ..)
    obtain ⟨l, hg, hu⟩ := (show ∃ l, g id = some l ∧ u = .pointer (some ⟨l.b, 0, none⟩) from hvr)
    refine ⟨fun b => l.nil = false ∧ b = l.b, fun b hz => ⟨id, _, l, hb, hg, hz.1, hz.2.symm, apartB_mem hB (List.mem_singleton.2 rfl)⟩, u, by simp [Sem.run_bind, hrun, Result.andThen_ok, Sem.run_pure], ?_⟩
    obtain ⟨l', hg', ⟨h0, arr, t, harr, hall⟩, hX⟩ := hI.mem.br _ _ hb
    rw [show g id = some l from hg] at hg'
    cases hg'
    refine ⟨l, fun hn => ⟨⟨hn, rfl⟩, (hX hn).1, (hX hn).2, not_owE hI hlive hb hg hn hid⟩, ?_⟩
    rw [hp]
    refine ⟨hu, h0, arr, t, harr, ?_⟩
    rw [thd_cons]
    have h3 := decC_dr hI.mem (Sub.refl _) (I := idsL cs) (org := r.org) hall hx (fun id h _ => h) h2
    refine h3.mono (Nat.le_refl _) fun b _ hok => ⟨⟨⟨hok.1, ?_, hok.2.2⟩, fun e => ?_⟩, rfl⟩
    · rintro ⟨id1, hm, l1, q1, q2, q3⟩
      have hl1 := hlive id1 hm
      have hlv : ∃ blk, st.bk id1 = .live blk := by
        unfold isLive at hl1
        split at hl1
        · exact ⟨_, ‹_›⟩
        · cases hl1
      obtain ⟨blk1, hblk1⟩ := hlv
      have := hok.2.1 id1 blk1 l1 hblk1 ((hI.mem.pin id1 l1 q1).2 hl1) q2 q3
      exact apartB_mem h1 (List.mem_cons_of_mem _ this) hm
    · have := hok.2.1 id _ l hb hg h0.2 e.symm
      exact apartB_mem h1' (List.mem_singleton.2 rfl) this

theorem fin_own' (hI : Inv A n g st a w) {as : List ASh} (hlive : ∀ id ∈ refIds 0 as, isLive st.bk id = true) : ∀ {vs : List ResultVar} {rs : List RSh} {y : Tup (rcodes rs as)}, packF E st vs rs as = some y →
    ∃ Z, ZOk g st as Z ∧ ∃ u, (vs.mapM (resOf a.tmps)).run E.P w = .ok [u] w ∧ FRes A as w Z rs y u
  | [v], [r], y, h => fin_own hI hlive h
  | [], _, _, h => by cases h
  | _ :: _ :: _, _, _, h => by cases h
  | [_], [], _, h => by cases h
  | [_], _ :: _ :: _, _, h => by cases h

/-- The end of a body. -/
theorem fin_res (hI : Inv A n g st a w) {i : FI} {fn : Func} {y : Tup (rcodes i.rs i.as)} (h : finR E st fn.results.toList i.rs i.as = some y) (hpin : ∀ id ∈ refIds 0 i.as, ∃ l, A.pin id = some l) :
    ∃ v, (results fn a.tmps).run E.P w = .ok v w ∧ FinR A i y v w := by
  unfold finR at h
  obtain ⟨hap, h⟩ := if_some h
  cases hfl : frL i.rs with
  | true =>
    rw [hfl] at h
    simp only at h
    have hpo := h
    have ho := packF_out _ _ _ _ h
    have hlive := packO_live 0 _ _ ho
    have hidB : ∀ id ∈ idsB st 0 i.as, id ∉ refIds 0 i.as := fun id hi => apartB_mem hap (List.mem_append_right _ hi)
    obtain ⟨Z, hZ, u, hus, hF⟩ := fin_own' hI hlive hpo
    refine ⟨u, ?_, hI.mem.fr, Z, ?_, packO_our hI hZ hlive hpin hidB 0 i.as _ ho (fun _ h => h) (fun _ h => h)⟩
    · have hm : (fn.results.mapM (resOf a.tmps)).run E.P w = .ok #[u] w := by
        rw [Array.mapM_eq_mapM_toList]
        simp [hus]
      unfold results
      show Sem.run E.P (fn.results.mapM (resOf a.tmps) >>= fun vs => pure (if h : vs.size = 1 then vs[0] else .tuple vs)) w = _
      rw [Sem.run_bind, hm]
      simp
    · unfold ResOk
      rw [hfl]
      exact hF
  | false =>
  rw [hfl] at h
  simp only at h
  have ho := packR_out _ _ _ _ h
  have hlive := packO_live 0 _ _ ho
  have hids : ∀ id ∈ idsR E st fn.results.toList, id ∉ refIds 0 i.as := fun id hi => apartB_mem hap (List.mem_append_left _ hi)
  have hidB : ∀ id ∈ idsB st 0 i.as, id ∉ refIds 0 i.as := fun id hi => apartB_mem hap (List.mem_append_right _ hi)
  obtain ⟨us, hus, hrs⟩ := packR_res hI hlive hids _ _ _ h (fun _ h => h)
  refine ⟨resultVal us, ?_, hI.mem.fr, fun _ => False, (by unfold ResOk; rw [hfl]; exact ⟨us, rfl, hrs⟩), packO_our hI (fun _ h => h.elim) hlive hpin hidB 0 i.as _ ho (fun _ h => h) (fun _ h => h)⟩
  have hm : (fn.results.mapM (resOf a.tmps)).run E.P w = .ok us.toArray w := by
    rw [Array.mapM_eq_mapM_toList]
    simp [hus]
  unfold results
  show Sem.run E.P (fn.results.mapM (resOf a.tmps) >>= fun vs => pure (if h : vs.size = 1 then vs[0] else .tuple vs)) w = _
  rw [Sem.run_bind, hm]
  simp only [Result.andThen_ok, Sem.run_pure]
  congr 1
  match us with
  | [u] => simp [resultVal]
  | [] => simp [resultVal]
  | _ :: _ :: _ => simp [resultVal]

/-! ### Marks are taken off -/

section marks
variable {D : Nat}

theorem un_ok {C : Cx} (hD : C.w.heap[D]? = some (.deferred (some []))) (hN : C.N D) {C' : Cx} (hS : C'.S = C.S) (how : C'.ow = C.ow) (hNN : C'.N = C.N) (hw : ∀ b, b ≠ D → C'.w.heap[b]? = C.w.heap[b]?) {org b : Nat} (h : C.ok org b) : C'.ok org b ∧ C'.w.heap[b]? = C.w.heap[b]? := by
  have hne : b ≠ D := fun e => by
    subst e
    rcases h.2.2 hN with ⟨arr, t, e⟩ | ⟨es, ck, e⟩ <;> rw [hD] at e <;> cases e
  exact ⟨⟨by rw [hS]; exact h.1, by rw [how]; exact h.2.1, fun hn => by rw [hw b hne]; exact h.2.2 (by rw [← hNN]; exact hn)⟩, hw b hne⟩

/-- One setting and a later one where only a mark's block has turned. -/
structure Un (D : Nat) (C C' : Cx) : Prop where
  d : C.w.heap[D]? = some (.deferred (some []))
  N0 : C.N D
  g : C'.g = C.g
  S : C'.S = C.S
  ow : C'.ow = C.ow
  N : C'.N = C.N
  size : C'.w.heap.size = C.w.heap.size
  w : ∀ b, b ≠ D → C'.w.heap[b]? = C.w.heap[b]?

variable {C C' : Cx} (u : Un D C C')
include u

theorem Un.obj {b : Nat} {o : Obj} (h : C.w.heap[b]? = some o) (hn : o ≠ .deferred (some [])) : C'.w.heap[b]? = some o := by
  rw [u.w b fun e => hn (by subst e; rw [u.d] at h; exact (Option.some.inj h).symm)]
  exact h

theorem Un.cell {p : Addr} {v : Value} (h : C.w.cell? p = some v) : C'.w.cell? p = some v := by
  have hne : p.block ≠ D := fun e => by
    unfold World.cell? at h
    rw [e, u.d] at h
    cases h
  rw [World.cell?_of_block (w := C.w) (u.w _ hne)]
  exact h

theorem Un.dr {org : Nat} {c : Cd} {x : El c} {cs : List Value} (h : DR C.w (C.ok org) c x cs) : DR C'.w (C'.ok org) c x cs :=
  h.mono (Nat.le_of_eq u.size.symm) fun b _ hok => un_ok u.d u.N0 u.S u.ow u.N u.w hok

theorem Un.pr {org : Nat} {c : Cd} {x : El c} {off : Nat} {v : Value} (h : PR C org c x off v) : PR C' org c x off v := by
  obtain ⟨b, o, cs, hv, hok, hb, hd, hc⟩ := h
  exact ⟨b, o, cs, hv, by rw [u.ow]; exact hok, by rw [u.size]; exact hb, u.dr hd, fun j w hj => u.cell (hc j w hj)⟩

theorem Un.capR {p : Cap} {v : Value} (h : CapR C p v) : CapR C' p v := by
  cases p with
  | ptr id => obtain ⟨l, hl, hv⟩ := h; exact ⟨l, by rw [u.g]; exact hl, hv⟩
  | pp org c x => exact u.pr h

theorem Un.sr {s : Sc} {v : Value} (h : SR C s v) : SR C' s v := by
  cases s with
  | ps org c xs => exact u.dr h
  | psn org c xs => exact ⟨u.dr h.1, h.2⟩
  | own id => obtain ⟨l, hl, hv⟩ := h; exact ⟨l, by rw [u.g]; exact hl, hv⟩
  | sub id lo hi => obtain ⟨l, hl, hv⟩ := h; exact ⟨l, by rw [u.g]; exact hl, hv⟩
  | ptr id off => obtain ⟨l, hl, hv⟩ := h; exact ⟨l, by rw [u.g]; exact hl, hv⟩
  | pel id i off => obtain ⟨l, hl, hv⟩ := h; exact ⟨l, by rw [u.g]; exact hl, hv⟩
  | pp org c x off => exact u.pr h
  | fn f caps => obtain ⟨cs, hv, ha⟩ := h; exact ⟨cs, hv, ha.mono fun _ _ => u.capR⟩
  | mp id => obtain ⟨l, hl, hv⟩ := h; exact ⟨l, by rw [u.g]; exact hl, hv⟩
  | _ => exact h

theorem Un.vr {x : Val} {v : Value} (h : VR C x v) : VR C' x v := by
  cases x with
  | one s => exact u.sr h
  | agg cs => obtain ⟨arr, hv, ha⟩ := h; exact ⟨arr, hv, ha.mono fun _ _ => u.sr⟩

theorem Un.tr {t : T} {v : Value} (h : TR C t v) : TR C' t v := by
  cases t with
  | v x => exact u.vr h
  | tup vs => obtain ⟨arr, hv, ha⟩ := h; exact ⟨arr, hv, ha.mono fun _ _ => u.vr⟩

theorem Un.br {b : Blk} {l : Loc} (h : BR C b l) : BR C' b l := by
  cases b with
  | box cs => obtain ⟨h0, arr, t, ha, hc⟩ := h; exact ⟨h0, arr, t, u.obj ha (by simp), hc.mono fun _ _ => u.sr⟩
  | vec org c xs =>
    rcases h with h | ⟨hl, hS, hn, hc, hz, arr, t, ha, hs, he⟩
    · exact .inl h
    exact .inr ⟨hl, by rw [u.S]; exact hS, hn, hc, hz, arr, t, u.obj ha (by simp), hs, fun i x hx => by
      obtain ⟨cs, hd, hv⟩ := he i x hx
      exact ⟨cs, u.dr hd, hv⟩⟩
  | mp kc vc es => obtain ⟨h0, hf, arr, t, ha, hc⟩ := h; exact ⟨h0, hf, arr, t, u.obj ha (by simp), hc.mono fun _ _ hh => ⟨hh.1.flat hf.1, hh.2.flat hf.2⟩⟩
end marks

theorem Inv.unmark (hI : Inv A n g st a w) {d : Deferred} {ds : List Deferred} (hd : a.defers = d :: ds) :
    ∃ D, d.target = .collected D ∧ w.heap[D]? = some (.deferred (some [])) ∧ Inv A n g st { a with defers := ds } (w.putObj D (.deferred none)) := by
  have hm := hI.df
  rw [hd] at hm
  obtain ⟨⟨D, h1, h2, h3, h4, h5⟩, hr⟩ := hm
  refine ⟨D, h1, h2, ?_⟩
  have hw : ∀ b, b ≠ D → (w.putObj D (.deferred none)).heap[b]? = w.heap[b]? := fun b hb => World.putObj_heap_other hb
  have hz : (w.putObj D (.deferred none)).heap.size = w.heap.size := World.putObj_size
  have u : Un D (cxOf A g st.bk w) (cxOf A g st.bk (w.putObj D (.deferred none))) := ⟨h2, .inl h3, rfl, rfl, rfl, rfl, hz, hw⟩
  refine ⟨fun t => u.tr (hI.tm t), ⟨fun id b hb => ?_, fun id org c xs hb => ?_, hI.mem.inj, hI.mem.fresh, hI.mem.pin, ?_⟩, ?_, hI.szE⟩
  · obtain ⟨l, k1, k2, k3⟩ := hI.mem.br id b hb
    exact ⟨l, k1, u.br k2, fun hn => by rw [hz]; exact k3 hn⟩
  · obtain ⟨l, k1, k2, k3⟩ := hI.mem.ro id org c xs hb
    exact ⟨l, k1, u.dr k2, k3⟩
  · have hf := hI.mem.fr
    exact ⟨hf.os, ⟨hf.tape.tape, hf.tape.dr⟩, hf.output, by rw [hz]; exact hf.size, fun k hk hx => by rw [hw k (by omega)]; exact hf.old k hk hx⟩
  · have go : ∀ es : List Deferred, (∀ e ∈ es, e.target ≠ .collected D) → Marks (cxOf A g st.bk w) A.w0.heap.size es → Marks (cxOf A g st.bk (w.putObj D (.deferred none))) A.w0.heap.size es := by
      intro es
      induction es with
      | nil => exact fun _ _ => trivial
      | cons e es ih =>
        rintro hne ⟨⟨E, k1, k2, k3, k4, k5⟩, kr⟩
        refine ⟨⟨E, k1, ?_, k3, k4, k5⟩, ih (fun e' he => hne e' (List.mem_cons_of_mem _ he)) kr⟩
        exact (hw E fun e2 => hne e (List.mem_cons_self ..) (by rw [k1, e2])).trans k2
    exact go ds h5 hr

theorem leaves_marks {P : Program} {fn : Func} {m : Nat} {R : Ending → World → Prop} : ∀ (ds : List Deferred) (a : Act) (w : World), a.defers = ds → Inv A n g st a w →
    (∀ w', Inv A n g st { a with defers := [] } w' → ∃ v, (results fn a.tmps).run P w' = .ok v w' ∧ R (.returned v) w') → LeavesInM Fence.wide m P fn a.tmps R ds .returning w
  | [], a, w, hd, hI, hR => by
    obtain ⟨v, h1, h2⟩ := hR w (by rw [← hd]; exact hI)
    exact ⟨v, h1, h2⟩
  | d :: ds, a, w, hd, hI, hR => by
    obtain ⟨D, h1, h2, h3⟩ := hI.unmark hd
    exact ⟨by simp, .inl ⟨D, _, h1, run_takeDeferred h2, leaves_marks ds { a with defers := ds } _ rfl h3 fun w' hw' => hR w' hw'⟩⟩

/-- A function comes to what the ideal interpreter says. -/
theorem fn_step {run : Orc} (hxc : XcOk E) (hop : OpOk E run) (hlp : ∀ f n ex h x y, run (.lp f n ex h) x = some y → MLp E f n ex h x y) (hD : ∀ (f : FuncId) (fn : Func) (c : Code), E.P.funcs[f]? = some fn → fn.body = some c → dstOk fn.ntmps c = true)
    (hext : ∀ (i : FI) (x : Tup (acodes i.as)) (y : Tup (rcodes i.rs i.as)), E.isExt i.f = true → E.exf i x = some y → MFn E i x y)
    {i : FI} {x : Tup (acodes i.as)} {y : Tup (rcodes i.rs i.as)} (hs : stp E run (.fn i) x = some y) : MFn E i x y := by
  simp only [stp] at hs
  cases hxt : E.isExt i.f with
  | true => rw [hxt] at hs; exact hext i x y hxt hs
  | false =>
  rw [hxt] at hs
  simp only [cond_false] at hs
  split at hs
  · rename_i fn hfn
    split at hs
    · rename_i c hc
      refine ⟨⟨fn, hfn, by simp [hc]⟩, fun A g vs hH hvs hM hT hpin => ?_⟩
      obtain ⟨hle, hs⟩ := cond_some hs
      have hle := Nat.le_of_ble_eq_true hle
      refine (callsIn_wide (n := 1)).1 (callsIn_of_wp_marks (F := Fence.wide) hfn hc trivial (wpIn_wide.2 ?_) rfl)
      have hpin' : ∀ id ∈ refIds 0 i.as, ∃ l, A.pin id = some l := by
        intro id hid
        rw [hpin id hid]
        -- what is lent is live from the beginning
        have live : ∀ (as : List ASh) (p : Nat) (x : Tup (acodes as)), ∀ id ∈ refIds p as, isLive (mkA p as x).bk id = true ∧ 8 * p + 5 ≤ id := by
          intro as
          induction as with
          | nil => intro p x id h; simp [refIds] at h
          | cons s r ih =>
            intro p x id h
            have ih' := ih (p + 1) (tl1 s x)
            cases s <;> simp only [refIds, List.mem_cons] at h <;> simp only [mkA, putA, isLive] at ih' ⊢
            · have := ih' id h
              exact ⟨this.1, by omega⟩
            · have := ih' id h
              rw [upd_ne _ _ (by omega)]
              exact ⟨this.1, by omega⟩
            · rcases h with rfl | h
              · rw [upd_same]; exact ⟨rfl, Nat.le_refl _⟩
              · have := ih' id h
                rw [upd_ne _ _ (by omega)]
                exact ⟨this.1, by omega⟩
            · rcases h with rfl | h
              · rw [upd_same]; exact ⟨rfl, Nat.le_refl _⟩
              · have := ih' id h
                rw [upd_ne _ _ (by omega)]
                exact ⟨this.1, by omega⟩
            · have := ih' id h
              exact ⟨this.1, by omega⟩
            · have := ih' id h
              exact ⟨this.1, by omega⟩
            · rcases h with rfl | h
              · rw [upd_same]; exact ⟨rfl, Nat.le_refl _⟩
              · have := ih' id h
                rw [upd_ne _ _ (by omega)]
                exact ⟨this.1, by omega⟩
            · have := ih' id h
              exact ⟨this.1, by omega⟩
        have hl := (live i.as 0 x id hid).1
        unfold isLive at hl
        split at hl
        · rename_i b hb
          obtain ⟨l, hl, _⟩ := hM.br _ _ hb
          exact ⟨l, hl⟩
        · cases hl
      have hsz : (vs ++ Array.replicate (fn.ntmps - vs.size) undef).size = fn.ntmps := by simp; omega
      have hI : Inv A fn.ntmps g (mkA 0 i.as x) { tmps := vs ++ Array.replicate (fn.ntmps - vs.size) undef, defers := [] } A.w0 := by
        refine ⟨fun t => ?_, hM, trivial, hsz⟩
        have := hT t
        have e : (vs ++ Array.replicate (fn.ntmps - vs.size) undef).getD t undef = vs.getD t undef := by
          simp only [Array.getD_eq_getD_getElem?, Array.getElem?_append]
          split
          · rfl
          · rename_i h
            rw [Array.getElem?_eq_none (by omega : vs.size ≤ t)]
            rw [Array.getElem?_replicate]
            split <;> rfl
        rw [show ({ tmps := vs ++ Array.replicate (fn.ntmps - vs.size) undef, defers := [] } : Act).tmps.getD t undef = vs.getD t undef from e]
        exact this
      refine codeK_wp hxc hop hH hlp (show ntOf E.P i.f = fn.ntmps by unfold ntOf; rw [hfn]) c 0 _ _ g _ A.w0 _ (fun m hm => by unfold bodyAt; rw [hfn, Nat.zero_add]; simp [hc]) (fun q hq => by unfold rfsOf; rw [hfn, Option.bind_some, hc]; exact hq) (hD _ _ _ hfn hc) hI hs fun e st' g' a' w' hI' hk => ?_
      cases e with
      | nrm =>
        refine leaves_marks a'.defers a' w' rfl hI' fun w2 hI2 => ?_
        obtain ⟨v, hr, hf⟩ := fin_res hI2 hk hpin'
        exact ⟨v, hr, v, rfl, hf⟩
      | ret =>
        refine leaves_marks a'.defers a' w' rfl hI' fun w2 hI2 => ?_
        obtain ⟨v, hr, hf⟩ := fin_res hI2 hk hpin'
        exact ⟨v, hr, v, rfl, hf⟩
      | exit id => cases hk
    · cases hs
  · cases hs

end
end Ai
end Go.Proofs.YtpboclokodgnlaaGreat

/-! A21: The ideal interpreter against the machine: what is handed to a call. -/
namespace Go.Proofs.YtpboclokodgnlaaGreat
namespace Ai
set_option linter.unusedSimpArgs false
set_option linter.unusedVariables false

def isLent : ASh → Bool
  | .own _ => true
  | .ref _ => true
  | .rag _ _ => true
  | .rbox _ => true
  | _ => false

def gT (g : Nat → Option Loc) (s : ASh) (t : T) : Option Loc := match lentT s t with
  | id :: _ => g id
  | [] => none

/-- The lent places, by the callee's names. -/
def gA (g : Nat → Option Loc) : Nat → List ASh → List T → Nat → Option Loc
  | p, s :: r, t :: ts => cond (isLent s) (upd (gA g (p + 1) r ts) (8 * p + 5) (gT g s t)) (gA g (p + 1) r ts)
  | _, _, _ => fun _ => none

def lentX (g : Nat → Option Loc) (as : List ASh) (ts : List T) : Nat → Prop := fun b => ∃ id ∈ lentA as ts, ∃ l, g id = some l ∧ l.nil = false ∧ l.b = b

theorem testBit_le {m m' p : Nat} (h : orgLe m m' = true) (hp : m.testBit p = true) : m'.testBit p = true := by
  simp only [orgLe, beq_iff_eq] at h
  rw [← h, Nat.testBit_or, hp, Bool.true_or]

/-- What a call begins with. -/
def baseA (A : Base) (g : Nat → Option Loc) (B Bx : Nat → BS) (w : World) (as : List ASh) (ts : List T) : Base where
  w0 := w
  S := fun m b => w.heap.size ≤ b ∨ lentX g as ts b ∨ ∃ p s t, as[p]? = some s ∧ ts[p]? = some t ∧ m.testBit p = true ∧ okI A g B w (seenT Bx s t) (orgT Bx s t) b
  X := lentX g as ts
  mono := fun m m' b h hs => hs.imp (fun h => h) fun hs => hs.imp (fun h => h) fun ⟨p, s, t, h1, h2, h3, h4⟩ => ⟨p, s, t, h1, h2, testBit_le h h3, h4⟩
  new := fun _ _ h => .inl h
  own := fun _ _ h => .inr (.inl h)
  dm := A.dm
  pin := fun id => if id % 8 = 5 then gA g 0 as ts id else none
  pinned := fun id l h => by
    by_cases h5 : id % 8 = 5
    · exact h5
    · rw [if_neg h5] at h; cases h

section
variable {A : Base} {g : Nat → Option Loc} {B Bx : Nat → BS} {w : World} {as : List ASh} {ts : List T}

def cxF (A : Base) (g : Nat → Option Loc) (B Bx : Nat → BS) (w : World) (as : List ASh) (ts : List T) : Cx := ⟨gA g 0 as ts, (baseA A g B Bx w as ts).S, lentX g as ts, fun b => w.heap.size ≤ b ∨ lentX g as ts b, w⟩

theorem nameT_inv {t : T} {id : Nat} (h : nameT t = some id) : t = .v (.one (.own id)) := by
  unfold nameT at h
  split at h
  · cases h; rfl
  · cases h

theorem ptrT_inv {t : T} {id : Nat} (h : ptrT t = some id) : t = .v (.one (.ptr id 0)) := by
  unfold ptrT at h
  split at h
  · cases h; rfl
  · cases h

theorem packA_cons {s : ASh} {r : List ASh} {t : T} {ts : List T} {x : Tup (acodes (s :: r))} (h : packA Bx (s :: r) (t :: ts) = some x) : ∃ x1 y, packT Bx s t = some x1 ∧ packA Bx r ts = some y ∧ x = cons1 s x1 y := by
  simp only [packA] at h
  split at h
  · rename_i x1 y h1 h2
    cases h
    exact ⟨x1, y, h1, h2, rfl⟩
  · cases h

theorem hd1_cons : ∀ (s : ASh) {r : List ASh} (x : In1 s) (y : Tup (acodes r)), hd1 s (cons1 s x y) = x
  | .d c _, _, x, y => thd_cons (c := c) x y
  | .own c, _, x, y => thd_cons (c := .list c) x y
  | .ref c, _, x, y => thd_cons (c := .list c) x y
  | .rbox c, _, x, y => thd_cons (c := c) x y
  | .clo _ caps, _, x, y => thd_cons (c := pairs caps) x y
  | .rp c, _, x, y => thd_cons (c := c) x y
  | .rag a e, _, x, y => thd_cons (c := .pair a (.list e)) x y
  | .k _, _, _, _ => rfl

theorem tl1_cons : ∀ (s : ASh) {r : List ASh} (x : In1 s) (y : Tup (acodes r)), tl1 s (cons1 s x y) = y
  | .d c _, _, x, y => ttl_cons (c := c) x y
  | .own c, _, x, y => ttl_cons (c := .list c) x y
  | .ref c, _, x, y => ttl_cons (c := .list c) x y
  | .rbox c, _, x, y => ttl_cons (c := c) x y
  | .clo _ caps, _, x, y => ttl_cons (c := pairs caps) x y
  | .rp c, _, x, y => ttl_cons (c := c) x y
  | .rag a e, _, x, y => ttl_cons (c := .pair a (.list e)) x y
  | .k _, _, _, _ => rfl

/-- What is lent is owned. -/
theorem nameG_inv {a : Cd} {t : T} {fl : List Sc} {id : Nat} (h : nameG a t = some (fl, id)) : t = .v (.agg (fl ++ [.own id])) := by
  unfold nameG at h
  split at h
  · rename_i cs
    split at h
    · rename_i id' hd
      cases h
      rw [← hd, List.take_append_drop]
    · cases h
  · cases h

theorem packG_inv {a e : Cd} {p : List Sc × Nat} {x : El a × List (El e)} (h : packG Bx a e p = some x) : cflat a = true ∧ decC Bx a p.1 = some x.1 ∧ ownedL Bx e p.2 = some x.2 := by
  unfold packG at h
  split at h
  · rename_i hf
    split at h
    · rename_i y xs h1 h2
      cases h
      exact ⟨hf, h1, h2⟩
    · cases h
  · cases h

theorem lentT_live (hB : Sub Bx B) {s : ASh} {t : T} {x : In1 s} (h : packT Bx s t = some x) : (∀ id ∈ lentT s t, ∃ blk, Bx id = .live blk ∧ B id = .live blk) ∧ (isLent s = true → ∃ id, lentT s t = [id]) := by
  cases s with
  | d c agg => exact ⟨fun id h => by simp [lentT] at h, fun h => by cases h⟩
  | clo f caps => exact ⟨fun id h => by simp [lentT] at h, fun h => by cases h⟩
  | rp c => exact ⟨fun id h => by simp [lentT] at h, fun h => by cases h⟩
  | k s => exact ⟨fun id h => by simp [lentT] at h, fun h => by cases h⟩
  | own c =>
    simp only [packT] at h
    split at h
    · rename_i id hid
      obtain ⟨_, _, _, hb, _⟩ := ownedL_inv h
      simp only [lentT, hid]
      exact ⟨fun i hi => by simp at hi; subst hi; exact ⟨_, hb, hB.live _ _ hb⟩, fun _ => ⟨id, rfl⟩⟩
    · cases h
  | ref c =>
    simp only [packT] at h
    split at h
    · rename_i id hid
      obtain ⟨_, _, _, hb, _⟩ := ownedL_inv h
      simp only [lentT, hid]
      exact ⟨fun i hi => by simp at hi; subst hi; exact ⟨_, hb, hB.live _ _ hb⟩, fun _ => ⟨id, rfl⟩⟩
    · cases h
  | rag a e =>
    simp only [packT] at h
    split at h
    · rename_i q hid
      obtain ⟨_, _, h⟩ := packG_inv h
      obtain ⟨_, _, _, hb, _⟩ := ownedL_inv h
      simp only [lentT, hid]
      exact ⟨fun i hi => by simp at hi; subst hi; exact ⟨_, hb, hB.live _ _ hb⟩, fun _ => ⟨q.2, rfl⟩⟩
    · cases h
  | rbox c =>
    simp only [packT] at h
    split at h
    · rename_i id hid
      split at h
      · rename_i cs hcs
        simp only [boxOf] at hcs
        split at hcs
        · rename_i cs' hb
          simp only [lentT, hid]
          exact ⟨fun i hi => by simp at hi; subst hi; exact ⟨_, hb, hB.live _ _ hb⟩, fun _ => ⟨id, rfl⟩⟩
        · cases hcs
      · cases h
    · cases h

theorem lentA_live (hB : Sub Bx B) : ∀ (as : List ASh) (ts : List T) (x : Tup (acodes as)), packA Bx as ts = some x → ∀ id ∈ lentA as ts, ∃ blk, Bx id = .live blk ∧ B id = .live blk
  | [], ts, x, h, id, hi => by simp [lentA] at hi
  | s :: r, [], x, h, id, hi => by simp [lentA] at hi
  | s :: r, t :: ts, x, h, id, hi => by
    obtain ⟨x1, y, h1, h2, _⟩ := packA_cons h
    simp only [lentA, List.mem_append] at hi
    rcases hi with hi | hi
    · exact (lentT_live hB h1).1 id hi
    · exact lentA_live hB r ts y h2 id hi

/-- What a call is handed, from one argument on. -/
structure Ak (A : Base) (g : Nat → Option Loc) (B Bx : Nat → BS) (w : World) (as0 : List ASh) (ts0 : List T) (p : Nat) (as : List ASh) (ts : List T) (us : List Value) (s : St) : Prop where
  tm : ∀ i v, us[i]? = some v → TR (cxF A g B Bx w as0 ts0) (s.tm (p + i)) v
  tm0 : ∀ t, (t < p ∨ p + us.length ≤ t) → s.tm t = one .und
  br : ∀ id blk, s.bk id = .live blk → (8 * p + 5 ≤ id ∧ id % 8 = 5) ∧ ∃ l, gA g 0 as0 ts0 id = some l ∧ BR (cxF A g B Bx w as0 ts0) blk l ∧ ∃ id0 ∈ lentA as ts, ∃ blk0, B id0 = .live blk0 ∧ g id0 = some l
  nofresh : ∀ id, s.bk id = .fresh → id % 8 ≠ 5
  noro : ∀ id org c xs, s.bk id ≠ .ro org c xs
  inj : ∀ id id' b b' l l', s.bk id = .live b → s.bk id' = .live b' → gA g 0 as0 ts0 id = some l → gA g 0 as0 ts0 id' = some l' → l.nil = false → l'.nil = false → l.b = l'.b → id = id'

theorem lentX_ow (hl : ∀ id ∈ lentA as ts, ∃ blk, Bx id = .live blk ∧ B id = .live blk) {b : Nat} (h : lentX g as ts b) : owOf g B b := by
  obtain ⟨id, hm, l, h1, h2, h3⟩ := h
  obtain ⟨blk, _, hb⟩ := hl id hm
  exact ⟨id, blk, l, hb, h1, h2, h3⟩

/-- An argument's data may lie where the callee may look. -/
theorem Held.call {E : Env} (hH : Held E A) (hM : Mem A g B w) (hB : Sub Bx B) {x : Tup (acodes as)} (hp : packA Bx as ts = some x) : Held E (baseA A g B Bx w as ts) := by
  refine ⟨hH.later hM.fr, fun p hp' hx => ?_, hH.2.2⟩
  obtain ⟨id, blk, l, h1, h2, h3, h4⟩ := lentX_ow (lentA_live hB as ts x hp) hx
  obtain ⟨_, t, q, hw, _⟩ := hH.1 p hp'
  have hlt := (Array.getElem?_eq_some_iff.1 hw).1
  obtain ⟨l', g1, _, g3⟩ := hM.br id blk h1
  rw [h2] at g1
  cases g1
  rcases (g3 h3).2 with h | h
  · rw [h4] at h; exact absurd hlt (Nat.not_lt.2 h)
  · rw [h4] at h; exact hH.2.1 p hp' h

theorem ok_arg (hl : ∀ id ∈ lentA as ts, ∃ blk, Bx id = .live blk ∧ B id = .live blk) (hap : ∀ id ∈ lentA as ts, id ∉ seenA Bx as ts) {p : Nat} {s : ASh} {t : T} (hs : as[p]? = some s) (ht : ts[p]? = some t) (hsub : ∀ id ∈ seenT Bx s t, id ∈ seenA Bx as ts) {b : Nat}
    (hbl : b < w.heap.size) (h : okI A g B w (seenT Bx s t) (orgT Bx s t) b) : (cxF A g B Bx w as ts).ok (2 ^ p) b := by
  have hno : ¬ lentX g as ts b := by
    rintro ⟨id, hm, l, h1, h2, h3⟩
    obtain ⟨blk, _, hb⟩ := hl id hm
    exact hap id hm (hsub id (h.2.1 id blk l hb h1 h2 h3))
  exact ⟨.inr (.inr ⟨p, s, t, hs, ht, by simp [Nat.testBit_two_pow], h⟩), hno, fun hn => hn.elim (fun h => absurd hbl (by omega)) fun h => (hno h).elim⟩

theorem seenT_sub : ∀ (as : List ASh) (ts : List T) (p : Nat) (s : ASh) (t : T), as[p]? = some s → ts[p]? = some t → ∀ id ∈ seenT Bx s t, id ∈ seenA Bx as ts
  | [], _, _, _, _, h, _, _, _ => by simp at h
  | _ :: _, [], _, _, _, _, h, _, _ => by simp at h
  | s0 :: r, t0 :: ts, 0, s, t, hs, ht, id, hi => by
    simp at hs ht; subst hs ht
    simp only [seenA]; exact List.mem_append_left _ hi
  | s0 :: r, t0 :: ts, p + 1, s, t, hs, ht, id, hi => by
    simp only [seenA]
    exact List.mem_append_right _ (List.mem_append_right _ (seenT_sub r ts p s t (by simpa using hs) (by simpa using ht) id hi))

theorem boxT_sub : ∀ (as : List ASh) (ts : List T) (p : Nat) (s : ASh) (t : T), as[p]? = some s → ts[p]? = some t → ∀ id ∈ boxT s t, id ∈ seenA Bx as ts
  | [], _, _, _, _, h, _, _, _ => by simp at h
  | _ :: _, [], _, _, _, _, h, _, _ => by simp at h
  | s0 :: r, t0 :: ts, 0, s, t, hs, ht, id, hi => by
    simp at hs ht; subst hs ht
    simp only [seenA]; exact List.mem_append_right _ (List.mem_append_left _ hi)
  | s0 :: r, t0 :: ts, p + 1, s, t, hs, ht, id, hi => by
    simp only [seenA]
    exact List.mem_append_right _ (List.mem_append_right _ (boxT_sub r ts p s t (by simpa using hs) (by simpa using ht) id hi))

/-- Captured variables, as the callee finds them. -/
theorem caps_in (hM : Mem A g B w) (hB : Sub Bx B) (hX : ∀ id ∈ lentA as ts, ∃ blk, Bx id = .live blk ∧ B id = .live blk) {C : Cx} (hCw : C.w = w) {m : Nat} (how : C.ow = lentX g as ts) : ∀ (cs : List Cd) (caps : List Cap) (vs : List Value) (x : El (pairs cs)) (I : List Nat) (org : Nat),
    (∀ b, b < w.heap.size → okI A g B w I org b → C.ok m b) → All2 (CapR (cxOf A g B w)) caps vs → decCaps Bx cs caps = some x → (∀ id ∈ capCont Bx caps, id ∈ I) → orgLe (capOrg Bx caps) org = true → (∀ id ∈ lentA as ts, id ∉ capBox caps) → All2 (CapR C) (capsC m cs x) vs := by
  -- one variable
  have one : ∀ (c : Cd) (q : Cap) (v : Value) (l : List Sc) (x : El c) (I : List Nat) (org : Nat), (∀ b, b < w.heap.size → okI A g B w I org b → C.ok m b) → CapR (cxOf A g B w) q v → boxOf Bx q = some l → decC Bx c l = some x → (∀ id ∈ capCont Bx [q], id ∈ I) → orgLe (capOrg Bx [q]) org = true →
      (∀ id ∈ lentA as ts, id ∉ capBox [q]) → PR C m c x 0 v := by
    intro c q v l x I org hok hq hl hd hI ho hnb
    cases q with
    | ptr id =>
      simp only [boxOf] at hl
      split at hl
      · rename_i cs hb
        cases hl
        obtain ⟨lc, hg, hv⟩ := hq
        obtain ⟨l', hg', ⟨h0, arr, t, harr, hall⟩, hX'⟩ := hM.br id _ (hB.live _ _ hb)
        rw [show g id = some lc from hg] at hg'; cases hg'
        have hdr := decC_dr hM hB (I := I) (org := org) hall hd (fun i hi _ => hI i (by simp only [capCont, hb]; simpa using hi)) (by simpa [capOrg, hb] using ho)
        refine ⟨lc.b, 0, arr.toList, by rw [hv], ?_, by rw [hCw]; exact (hX' h0.2).1, ?_, fun j u hj => ?_⟩
        · rw [how]
          rintro ⟨id1, hm1, l1, g1, n1, b1⟩
          obtain ⟨blk1, _, hb1⟩ := hX id1 hm1
          have := hM.inj id1 id _ _ l1 lc hb1 (hB.live _ _ hb) g1 hg n1 h0.2 b1
          subst this
          exact hnb id1 hm1 (by simp [capBox])
        · rw [hCw]; exact hdr.mono (Nat.le_refl _) fun b hb hok' => ⟨hok b hb hok', rfl⟩
        · rw [hCw, cell_of (w := w) harr]; simpa using hj
      · cases hl
    | pp org0 c0 x0 =>
      simp only [boxOf, Option.some.injEq] at hl
      subst hl
      obtain ⟨b, o, cs, hv, hno, hb, hd0, hcell⟩ := hq
      have hdr := decC_dr hM hB (I := I) (org := org) (scells_sr hd0) hd (fun i hi _ => by rw [scells_ids] at hi; simp at hi) (by
        have hsc : ∀ (c : Cd) (x : El c), orgLe (orgL Bx (scells org0 c x)) org0 = true := by
          intro c
          induction c with
          | pair p q ihp ihq =>
            intro x
            show orgLe (orgL Bx (scells org0 p x.1 ++ scells org0 q x.2)) org0 = true
            rw [orgL_app]
            have h1 := ihp x.1
            have h2 := ihq x.2
            simp only [orgLe, beq_iff_eq] at h1 h2 ⊢
            rw [Nat.or_assoc, h2, h1]
          | list c _ => intro x; simp [scells, orgL, orgS, orgLe]
          | _ => intro x; simp [scells, orgL, orgS, orgLe]
        exact orgLe_trans (hsc _ _) (by simpa [capOrg] using ho))
      refine ⟨b, o, cs, hv, ?_, by rw [hCw]; exact hb, ?_, fun j u hj => by rw [hCw]; exact hcell j u hj⟩
      · rw [how]; exact fun h => hno (lentX_ow hX h)
      · rw [hCw]; exact hdr.mono (Nat.le_refl _) fun b hb hok' => ⟨hok b hb hok', rfl⟩
  have cont1 : ∀ (q : Cap) (r : List Cap), capCont Bx (q :: r) = capCont Bx [q] ++ capCont Bx r := by
    intro q r; cases q <;> simp [capCont]
  have org1 : ∀ (q : Cap) (r : List Cap), capOrg Bx (q :: r) = capOrg Bx [q] ||| capOrg Bx r := by
    intro q r; cases q <;> simp [capOrg]
  have box1 : ∀ (q : Cap) (r : List Cap), capBox (q :: r) = capBox [q] ++ capBox r := by
    intro q r; cases q <;> simp [capBox]
  intro cs
  induction cs with
  | nil =>
    intro caps vs x I org hok ha hd hI ho hnb
    cases caps with
    | nil =>
      cases vs with
      | nil => trivial
      | cons => exact ha.elim
    | cons => simp [decCaps] at hd
  | cons c r ih =>
    intro caps vs x I org hok ha hd hI ho hnb
    cases caps with
    | nil => cases r <;> simp [decCaps] at hd
    | cons q qs =>
      cases vs with
      | nil => exact ha.elim
      | cons v vs =>
        rw [cont1] at hI
        rw [org1] at ho
        rw [box1] at hnb
        have one' := fun (l : List Sc) (x : El c) hl hd => one c q v l x I org hok ha.1 hl hd (fun i hi => hI i (List.mem_append_left _ hi)) (orgLe_trans (orgLe_or_left _ _) ho) (fun i hi hm => hnb i hi (List.mem_append_left _ hm))
        cases r with
        | nil =>
          cases qs with
          | nil =>
            simp only [decCaps] at hd
            split at hd
            · rename_i l hl
              cases vs with
              | nil => exact ⟨one' l x hl hd, trivial⟩
              | cons => exact ha.2.elim
            · cases hd
          | cons => simp [decCaps] at hd
        | cons c2 r2 =>
          simp only [decCaps] at hd
          split at hd
          · rename_i l hl
            split at hd
            · rename_i x1 y1 hx1 hy1
              cases hd
              exact ⟨one' l x1 hl hx1, ih qs vs y1 I org hok ha.2 hy1 (fun i hi => hI i (List.mem_append_right _ hi)) (orgLe_trans (orgLe_or_right _ _) ho) (fun i hi hm => hnb i hi (List.mem_append_right _ hm))⟩
            · cases hd
          · cases hd

end
end Ai
end Go.Proofs.YtpboclokodgnlaaGreat
