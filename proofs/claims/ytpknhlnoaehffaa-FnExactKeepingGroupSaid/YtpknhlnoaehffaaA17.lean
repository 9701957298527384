/-
  The ideal interpreter against the machine: regions whose order is open.
-/
import Derived.Test.YtpknhlnoaehffaaA16
namespace Go.Proofs.Ytpknhlnoaehffaa
namespace Ai
set_option linter.unusedSimpArgs false
set_option linter.unusedVariables false

/-! ### An operation looks at its operands alone -/

theorem parts_congr {tm tm' : Nat → T} (ps : Array (Nat × Operand)) (h : ∀ x ∈ ps.map (·.2), evalO tm x = evalO tm' x) : (ps.toList.map fun p => (p.1, evalO tm p.2)) = ps.toList.map fun p => (p.1, evalO tm' p.2) := by
  apply List.map_congr_left
  intro p hp
  rw [h p.2 (Array.mem_map.2 ⟨p, by simpa using hp, rfl⟩)]

theorem semK_congr {R : Type} {E : Env} {B : Nat → BS} {tm tm' : Nat → T} {o : Oper} {k : T → List (Nat × BS) → Option R} (h : ∀ x ∈ o.op.operands, evalO tm x = evalO tm' x) : semK E B tm o k = semK E B tm' o k := by
  obtain ⟨dst, op, type, pos, after, guard⟩ := o
  cases op <;> simp only [Op.operands] at h <;> simp only [semK] <;> try rfl
  case build t ps => rw [parts_congr ps fun x hx => h x (by simpa using hx)]
  case buildSlice t n ps => rw [parts_congr ps fun x hx => h x (by simpa using hx)]
  case makeFunc fn first captured =>
    cases fn <;> simp only []
    rw [List.map_congr_left (l := captured.toList) fun x hx => h x (by simp [Array.mem_toList_iff.1 hx])]
  case call c =>
    obtain ⟨callee, args, ats⟩ := c
    cases callee <;> simp only []
    rw [List.map_congr_left (l := args.toList) fun x hx => h x (by simp [Call.operands, Array.mem_toList_iff.1 hx])]
  case slice t x lo hi mx => cases lo <;> cases hi <;> cases mx <;> simp_all
  all_goals (simp_all; done)

theorem opK_congr {R : Type} {E : Env} {run : Orc} {B : Nat → BS} {tm tm' : Nat → T} {o : Oper} {k : T → List (Nat × BS) → Option R} (h : ∀ x ∈ o.op.operands, evalO tm x = evalO tm' x) : opK E run B tm o k = opK E run B tm' o k := by
  unfold opK
  split
  · rename_i f args ats ho
    rw [ho] at h
    simp only [Op.operands, Call.operands] at h
    rw [h f (by simp)]
    rw [List.map_congr_left (l := args.toList) fun x hx => h x (by simp [Array.mem_toList_iff.1 hx])]
  · exact semK_congr h

/-! ### What the operations of a region leave -/

structure Ef where
  o : Oper
  t : T
  d : List (Nat × BS)

def ap (st : St) (e : Ef) : St := { st with bk := applyB st.bk e.d }.put e.o.dst e.t

def SD (D : Nat → Bool) : Nat → List Ef → St → St
  | _, [], st => st
  | n, e :: r, st => SD D (n + 1) r (cond (D n) (ap st e) st)

theorem ap_tm (st : St) (e : Ef) (t : Nat) : (ap st e).tm t = if e.o.dst = some t then e.t else st.tm t := by
  unfold ap St.put
  cases h : e.o.dst with
  | none => simp
  | some d =>
    simp only [Option.some.injEq]
    by_cases he : d = t
    · subst he; simp [upd_same]
    · rw [if_neg he, upd_ne _ _ (Ne.symm he)]

theorem ap_bk (st : St) (e : Ef) : (ap st e).bk = applyB st.bk e.d := by
  unfold ap St.put
  cases e.o.dst <;> rfl

theorem SD_tm {D D' : Nat → Bool} {t : Nat} : ∀ (es : List Ef) (n : Nat) (st st' : St), (∀ i e, es[i]? = some e → D (n + i) ≠ D' (n + i) → e.o.dst ≠ some t) → st.tm t = st'.tm t → (SD D n es st).tm t = (SD D' n es st').tm t
  | [], _, _, _, _, h => h
  | e :: r, n, st, st', hd, h => by
    simp only [SD]
    refine SD_tm r (n + 1) _ _ (fun i e' hi hD => hd (i + 1) e' (by simpa using hi) (by rwa [show n + (i + 1) = n + 1 + i by omega])) ?_
    have h0 := hd 0 e rfl
    simp only [Nat.add_zero] at h0
    cases h1 : D n <;> cases h2 : D' n <;> rw [h1, h2] at h0 <;> simp only [cond_true, cond_false, ap_tm]
    · exact h
    · rw [if_neg (h0 (by simp))]; exact h
    · rw [if_neg (h0 (by simp))]; exact h
    · rw [h]

theorem applyB_same {id : Nat} : ∀ (d : List (Nat × BS)) (B B' : Nat → BS), B id = B' id → applyB B d id = applyB B' d id
  | [], _, _, h => h
  | (k, b) :: r, B, B', h => by
    simp only [applyB]
    refine applyB_same r _ _ ?_
    by_cases e : id = k
    · subst e; rw [upd_same, upd_same]
    · rw [upd_ne _ _ e, upd_ne _ _ e]; exact h

theorem applyB_in {id : Nat} : ∀ (d : List (Nat × BS)) (B B' : Nat → BS), id ∈ d.map (·.1) → applyB B d id = applyB B' d id
  | [], _, _, h => by simp at h
  | (k, b) :: r, B, B', h => by
    simp only [applyB]
    by_cases e : id = k
    · subst e; exact applyB_same r _ _ (by rw [upd_same, upd_same])
    · simp only [List.map_cons, List.mem_cons] at h
      exact applyB_in r _ _ (h.resolve_left e)

theorem SD_bk {D D' : Nat → Bool} {id : Nat} : ∀ (es : List Ef) (n : Nat) (st st' : St), (∀ i e, es[i]? = some e → D (n + i) ≠ D' (n + i) → id ∉ e.d.map (·.1)) → st.bk id = st'.bk id → (SD D n es st).bk id = (SD D' n es st').bk id
  | [], _, _, _, _, h => h
  | e :: r, n, st, st', hd, h => by
    simp only [SD]
    refine SD_bk r (n + 1) _ _ (fun i e' hi hD => hd (i + 1) e' (by simpa using hi) (by rwa [show n + (i + 1) = n + 1 + i by omega])) ?_
    have h0 := hd 0 e rfl
    simp only [Nat.add_zero] at h0
    cases h1 : D n <;> cases h2 : D' n <;> rw [h1, h2] at h0 <;> simp only [cond_true, cond_false, ap_bk]
    · exact h
    · rw [applyB_notin _ _ (h0 (by simp))]; exact h
    · rw [applyB_notin _ _ (h0 (by simp))]; exact h
    · exact applyB_same _ _ _ h

theorem SD_none {D : Nat → Bool} : ∀ (es : List Ef) (n : Nat) (st : St), (∀ j, n ≤ j → D j = false) → SD D n es st = st
  | [], _, _, _ => rfl
  | e :: r, n, st, h => by
    simp only [SD, h n (Nat.le_refl _), cond_false]
    exact SD_none r (n + 1) st fun j hj => h j (by omega)

/-- One operation more. -/
theorem SD_more {D D' : Nat → Bool} {e0 : Ef} : ∀ (es : List Ef) (n i : Nat) (st : St), es[i]? = some e0 → D (n + i) = false → D' (n + i) = true → (∀ j, j ≠ n + i → D' j = D j) →
    (∀ j e, es[j]? = some e → i < j → D (n + j) = true → (∀ x, e0.o.dst = some x → e.o.dst ≠ some x) ∧ ∀ id ∈ e0.d.map (·.1), id ∉ e.d.map (·.1)) →
    SD D' n es st = ap (SD D n es st) e0
  | [], n, i, st, h, _, _, _, _ => by simp at h
  | e :: r, n, 0, st, h, h1, h2, h3, h4 => by
    simp only [List.getElem?_cons_zero, Option.some.injEq] at h
    subst h
    simp only [Nat.add_zero] at h1 h2 h3
    simp only [SD, h1, h2, cond_true, cond_false]
    have hne : ∀ i e', r[i]? = some e' → D' (n + 1 + i) = true → (∀ x, e.o.dst = some x → e'.o.dst ≠ some x) ∧ ∀ id ∈ e.d.map (·.1), id ∉ e'.d.map (·.1) := fun i e' hi hD => by
      refine h4 (i + 1) e' (by simpa using hi) (by omega) ?_
      rw [← h3 _ (by omega), show n + (i + 1) = n + 1 + i by omega]
      exact hD
    have htm : (SD D' (n + 1) r (ap st e)).tm = (ap (SD D (n + 1) r st) e).tm := by
      funext t
      rw [ap_tm]
      by_cases he : e.o.dst = some t
      · rw [if_pos he]
        have := SD_tm (D := D') (D' := fun _ => false) (t := t) r (n + 1) (ap st e) (ap st e) (fun i e' hi hD => (hne i e' hi (by simpa using hD)).1 t he) rfl
        rw [this, SD_none _ _ _ (fun _ _ => rfl), ap_tm, if_pos he]
      · rw [if_neg he]
        exact SD_tm r (n + 1) _ _ (fun i e' hi hD => (hD (h3 _ (by omega))).elim) (by rw [ap_tm, if_neg he])
    have hbk : (SD D' (n + 1) r (ap st e)).bk = (ap (SD D (n + 1) r st) e).bk := by
      funext id
      rw [ap_bk]
      by_cases he : id ∈ e.d.map (·.1)
      · have := SD_bk (D := D') (D' := fun _ => false) (id := id) r (n + 1) (ap st e) (ap st e) (fun i e' hi hD => (hne i e' hi (by simpa using hD)).2 id he) rfl
        rw [this, SD_none _ _ _ (fun _ _ => rfl), ap_bk]
        exact applyB_in _ _ _ he
      · rw [applyB_notin _ _ he]
        exact SD_bk r (n + 1) _ _ (fun i e' hi hD => (hD (h3 _ (by omega))).elim) (by rw [ap_bk, applyB_notin _ _ he])
    generalize hX : SD D' (n + 1) r (ap st e) = X at htm hbk
    generalize hY : ap (SD D (n + 1) r st) e = Y at htm hbk
    obtain ⟨x1, x2⟩ := X
    obtain ⟨y1, y2⟩ := Y
    simp only at htm hbk
    rw [htm, hbk]
  | e :: r, n, i + 1, st, h, h1, h2, h3, h4 => by
    simp only [SD]
    rw [h3 n (by omega)]
    refine SD_more r (n + 1) i _ (by simpa using h) (by rwa [show n + 1 + i = n + (i + 1) by omega]) (by rwa [show n + 1 + i = n + (i + 1) by omega]) (fun j hj => h3 j (by omega)) fun j e' hj hij hD => ?_
    exact h4 (j + 1) e' (by simpa using hj) (by omega) (by rwa [show n + (j + 1) = n + 1 + j by omega])

section
variable {E : Env} {A : Base} {run : Orc} {ops : Array Oper} {b : List Nat} {n : Nat}

def EfOk (E : Env) (run : Orc) (ops : Array Oper) (b : List Nat) (i : Nat) (st : St) (e : Ef) : Prop :=
  (gd ops st.tm e.o = some false ∧ e.t = one .skip ∧ e.d = []) ∨
  (gd ops st.tm e.o = some true ∧ opK E run (viewB (cls E e.o.op) (others ops.toList b i) st.bk) st.tm e.o pk = some (e.t, e.d) ∧
    effOk (cls E e.o.op) e.o.dst (tchs e.o) (soloB E ops.toList b i) (viewB (cls E e.o.op) (others ops.toList b i) st.bk) e.d = true)

def Runs (E : Env) (run : Orc) (ops : Array Oper) (b : List Nat) : Nat → List Ef → St → Prop
  | _, [], _ => True
  | n, e :: r, st => EfOk E run ops b n st e ∧ Runs E run ops b (n + 1) r (ap st e)

theorem opsD_runs {R : Type} {r : R} {k : St → Option R} : ∀ (l : List Oper) (n : Nat) (st : St), opsD E run ops b n l st k = some r →
    ∃ es : List Ef, es.map (·.o) = l ∧ Runs E run ops b n es st ∧ k (SD (fun _ => true) n es st) = some r
  | [], n, st, h => ⟨[], rfl, trivial, h⟩
  | o :: l, n, st, h => by
    simp only [opsD] at h
    rcases wantedK_inv h with ⟨hg, h⟩ | ⟨hg, h⟩
    · rw [opK_eq] at h
      obtain ⟨⟨t, d⟩, hp, h⟩ := Option.bind_eq_some_iff.1 h
      split at h
      · rename_i hc
        simp only [putK_eq] at h
        obtain ⟨es, h1, h2, h3⟩ := opsD_runs l (n + 1) _ h
        refine ⟨⟨o, t, d⟩ :: es, by simp [h1], ⟨.inr ⟨hg, hp, hc⟩, h2⟩, ?_⟩
        simp only [SD, cond_true]
        exact h3
      · cases h
    · obtain ⟨es, h1, h2, h3⟩ := opsD_runs l (n + 1) _ h
      refine ⟨⟨o, one .skip, []⟩ :: es, by simp [h1], ⟨.inl ⟨hg, rfl, rfl⟩, h2⟩, ?_⟩
      simp only [SD, cond_true]
      exact h3

theorem runs_get : ∀ (es : List Ef) (n i : Nat) (st : St) (e : Ef), Runs E run ops b n es st → es[i]? = some e → EfOk E run ops b (n + i) (SD (fun j => decide (j < n + i)) n es st) e
  | [], _, _, _, _, _, h => by simp at h
  | e0 :: r, n, 0, st, e, h, hi => by
    simp only [List.getElem?_cons_zero, Option.some.injEq] at hi
    subst hi
    rw [SD_none _ _ _ (fun j hj => by simp; omega)]
    exact h.1
  | e0 :: r, n, i + 1, st, e, h, hi => by
    have := runs_get r (n + 1) i _ e h.2 (by simpa using hi)
    simp only [SD, show decide (n < n + (i + 1)) = true by simp, cond_true]
    rwa [show n + (i + 1) = n + 1 + i by omega]

/-! ### Which operations stand ahead of which -/

theorem befs_get : ∀ (l : List Oper) (acc : List Nat) (i : Nat) (o : Oper), l[i]? = some o → (befs acc l).getD (acc.length + i) 0 = bef1 (befs acc l) o ∨
    ∃ acc', (befs acc l).getD (acc.length + i) 0 = bef1 acc' o ∧ ∀ j x, acc'.getD j 0 = x → x = 0 ∨ (befs acc l).getD j 0 = x
  | [], _, _, _, h => by simp at h
  | o0 :: l, acc, 0, o, h => by
    simp only [List.getElem?_cons_zero, Option.some.injEq] at h
    subst h
    right
    have hpre : ∀ (l : List Oper) (acc : List Nat) (j : Nat), j < acc.length → (befs acc l).getD j 0 = acc.getD j 0 := by
      intro l
      induction l with
      | nil => intro acc j _; rfl
      | cons o l ih =>
        intro acc j hj
        simp only [befs]
        rw [ih _ _ (by simp; omega)]
        simp [List.getD, List.getElem?_append_left hj]
    refine ⟨acc, ?_, fun j x hx => ?_⟩
    · simp only [befs, Nat.add_zero]
      rw [hpre _ _ _ (by simp)]
      simp [List.getD]
    · by_cases hj : j < acc.length
      · right; simp only [befs]; rw [hpre _ _ _ (by simp; omega)]
        rw [← hx]; simp [List.getD, List.getElem?_append_left hj]
      · left; rw [← hx]; simp [List.getD, List.getElem?_eq_none (by omega : acc.length ≤ j)]
  | o0 :: l, acc, i + 1, o, h => by
    have := befs_get l (acc ++ [bef1 acc o0]) i o (by simpa using h)
    simp only [befs]
    rw [show acc.length + (i + 1) = (acc ++ [bef1 acc o0]).length + i by simp; omega]
    exact this

/-- A set of operations with all that stand ahead of each. -/
def Closed (ops : Array Oper) (L : Nat → Bool) : Prop := ∀ i o, ops[i]? = some o → L i = true → ∀ e ∈ o.after, Region.binds .any e = true → L e.on = true

theorem bef1_bit {acc : List Nat} {o : Oper} {j : Nat} (h : (bef1 acc o).testBit j = true) : ∃ e ∈ o.after, Region.binds .any e = true ∧ (j = e.on ∨ (acc.getD e.on 0).testBit j = true) := by
  unfold bef1 at h
  have key : ∀ (l : List Edge) (s : Nat), (l.foldl (fun s e => match Region.binds .any e with
      | true => s ||| 2 ^ e.on ||| acc.getD e.on 0
      | false => s) s).testBit j = true → s.testBit j = true ∨ ∃ e ∈ l, Region.binds .any e = true ∧ (j = e.on ∨ (acc.getD e.on 0).testBit j = true) := by
    intro l
    induction l with
    | nil => intro s h; exact .inl h
    | cons e l ih =>
      intro s h
      rw [List.foldl_cons] at h
      rcases ih _ h with h | ⟨e', h1, h2⟩
      · cases hb : Region.binds .any e
        · rw [hb] at h; exact .inl h
        · rw [hb] at h
          simp only [Nat.testBit_or, Bool.or_eq_true, Nat.testBit_two_pow, decide_eq_true_eq] at h
          rcases h with (h | h) | h
          · exact .inl h
          · exact .inr ⟨e, List.mem_cons_self .., hb, .inl h.symm⟩
          · exact .inr ⟨e, List.mem_cons_self .., hb, .inr h⟩
      · exact .inr ⟨e', List.mem_cons_of_mem _ h1, h2⟩
  rcases key o.after.toList 0 h with h | ⟨e, h1, h2⟩
  · simp at h
  · exact ⟨e, by simpa using h1, h2⟩

def Edges (ops : Array Oper) : Prop := ∀ i o, ops[i]? = some o → ∀ e ∈ o.after, Region.binds .any e = true → e.on < i

/-- What stands ahead of an operation is in each such set. -/
theorem closed_bef (hE : Edges ops) {L : Nat → Bool} (hc : Closed ops L) : ∀ (m i : Nat) (o : Oper), i ≤ m → ops[i]? = some o → (∀ e ∈ o.after, Region.binds .any e = true → L e.on = true) →
    ∀ j, ((befs [] ops.toList).getD i 0).testBit j = true → L j = true := by
  intro m
  induction m with
  | zero =>
    intro i o hi ho he j hj
    have hb := befs_get ops.toList [] i o (by simpa using ho)
    simp only [List.length_nil, Nat.zero_add] at hb
    have none : ∀ acc, (bef1 acc o).testBit j = true → False := fun acc h => by
      obtain ⟨e, hem, hbd, _⟩ := bef1_bit h
      have := hE i o ho e hem hbd
      omega
    rcases hb with hb | ⟨acc', hb, _⟩
    · rw [hb] at hj; exact (none _ hj).elim
    · rw [hb] at hj; exact (none _ hj).elim
  | succ m ih =>
    intro i o hi ho he j hj
    have hb := befs_get ops.toList [] i o (by simpa using ho)
    simp only [List.length_nil, Nat.zero_add] at hb
    have key : ∀ e ∈ o.after, Region.binds .any e = true → ((befs [] ops.toList).getD e.on 0).testBit j = true → L j = true := by
      intro e hem hbd hbit
      have hlt' := hE i o ho e hem hbd
      have hoe : ∃ oe, ops[e.on]? = some oe := by
        have : i < ops.size := (Array.getElem?_eq_some_iff.1 ho).1
        exact ⟨ops[e.on]'(by omega), by simp [show e.on < ops.size by omega]⟩
      obtain ⟨oe, hoe⟩ := hoe
      exact ih e.on oe (by omega) hoe (fun e' he' hb' => hc _ _ hoe (he e hem hbd) e' he' hb') j hbit
    rcases hb with hb | ⟨acc', hb, hacc⟩
    · rw [hb] at hj
      obtain ⟨e, hem, hbd, h | h⟩ := bef1_bit hj
      · subst h; exact he e hem hbd
      · exact key e hem hbd h
    · rw [hb] at hj
      obtain ⟨e, hem, hbd, h | h⟩ := bef1_bit hj
      · subst h; exact he e hem hbd
      · rcases hacc e.on _ rfl with h0 | h0
        · rw [h0] at h; simp at h
        · exact key e hem hbd (by rw [h0]; exact h)

/-! ### A region whose order is open -/

theorem regOk_edges (h : regOk E ops b = true) : Edges ops := by
  unfold regOk at h
  rw [Bool.and_eq_true] at h
  intro i o hi e he hb
  have h1 := h.1
  rw [List.all_eq_true] at h1
  have h2 := h1 (o, i) (List.mem_zipIdx_iff_getElem?.2 (by simpa using hi))
  rw [List.all_eq_true] at h2
  have h3 := h2 e (by simpa using he)
  rw [hb] at h3
  exact Nat.le_of_ble_eq_true h3

theorem regOk_spec (h : regOk E ops b = true) {i j : Nat} {oi oj : Oper} (hi : ops[i]? = some oi) (hj : ops[j]? = some oj) :
    i < j → unord b i j = true → oi.apart ops oj = true ∧ oj.apart ops oi = true ∧ (cls E oi.op = 2 → cls E oj.op = 0) ∧ (cls E oj.op = 2 → cls E oi.op = 0) ∧ ∀ x ∈ tchs oi, x ∉ tchs oj := by
  unfold regOk at h
  rw [Bool.and_eq_true] at h
  replace h := h.2
  rw [List.all_eq_true] at h
  have h1 := h (oi, i) (List.mem_zipIdx_iff_getElem?.2 (by simpa using hi))
  rw [List.all_eq_true] at h1
  have h4 := h1 (oj, j) (List.mem_zipIdx_iff_getElem?.2 (by simpa using hj))
  simp only [Bool.and_eq_true, Bool.or_eq_true, Bool.not_eq_true'] at h4
  intro hlt hu
  rcases h4 with (h4 | h4) | h4
  · have := Nat.le_of_ble_eq_true h4; omega
  · rw [hu] at h4; cases h4
  · obtain ⟨⟨⟨⟨a1, a2⟩, a3⟩, a4⟩, a5⟩ := h4
    refine ⟨a1, a2, fun e => ?_, fun e => ?_, fun x hx => ?_⟩
    · rw [e] at a3
      cases hb : Nat.beq (cls E oj.op) 0
      · rw [hb] at a3; cases a3
      · exact Nat.eq_of_beq_eq_true hb
    · rw [e] at a4
      cases hb : Nat.beq (cls E oi.op) 0
      · rw [hb] at a4; cases a4
      · exact Nat.eq_of_beq_eq_true hb
    · have := List.all_eq_true.1 a5 x hx
      intro hy
      rw [List.contains_iff_mem.2 hy] at this
      cases this

theorem unord_symm {b : List Nat} {i j : Nat} : unord b i j = unord b j i := by simp [unord, Bool.and_comm]

/-- Of two operations without order: either looks past the other. -/
theorem regOk_two (h : regOk E ops b = true) {i j : Nat} {oi oj : Oper} (hi : ops[i]? = some oi) (hj : ops[j]? = some oj) (hne : i ≠ j) (hu : unord b i j = true) :
    oi.apart ops oj = true ∧ (cls E oi.op = 2 → cls E oj.op = 0) ∧ (cls E oj.op = 2 → cls E oi.op = 0) ∧ ∀ x ∈ tchs oi, x ∉ tchs oj := by
  rcases Nat.lt_or_gt_of_ne hne with hlt | hgt
  · obtain ⟨a1, a2, a3, a4, a5⟩ := regOk_spec h hi hj hlt hu
    exact ⟨a1, a3, a4, a5⟩
  · obtain ⟨a1, a2, a3, a4, a5⟩ := regOk_spec h hj hi hgt (by rw [unord_symm]; exact hu)
    exact ⟨a2, a4, a3, fun x hx hy => a5 x hy hx⟩

theorem onlyNew_ids {dst : Nat} {B : Nat → BS} : ∀ (d : List (Nat × BS)), onlyNew dst B d = true → ∀ id ∈ d.map (·.1), id / 8 = dst
  | [], _, id, h => by simp at h
  | (k, x) :: r, h, id, hid => by
    cases x with
    | live blk =>
      simp only [onlyNew, Bool.and_eq_true] at h
      simp only [List.map_cons, List.mem_cons] at hid
      rcases hid with rfl | hid
      · exact Nat.eq_of_beq_eq_true h.1.1
      · exact onlyNew_ids r h.2 id hid
    | fresh => simp [onlyNew] at h
    | dead => simp [onlyNew] at h
    | ro o c xs => simp [onlyNew] at h

theorem cls_le (o : Op) : cls E o = 0 ∨ cls E o = 1 ∨ cls E o = 2 ∨ cls E o = 3 := by
  unfold cls
  split <;> first
    | exact .inl rfl
    | exact .inr (.inl rfl)
    | exact .inr (.inr (.inl rfl))
    | exact .inr (.inr (.inr rfl))
    | skip
  have key : ∀ q : Bool, cond q 2 1 = 0 ∨ cond q 2 1 = 1 ∨ cond q 2 1 = 2 ∨ cond q 2 1 = 3 := by intro q; cases q <;> simp
  exact key _

theorem solo_spec {i j : Nat} {oj : Oper} (h : soloB E ops.toList b i = true) (hj : ops[j]? = some oj) (hne : j ≠ i) (hu : unord b i j = true) : cls E oj.op = 0 := by
  have h1 := List.all_eq_true.1 h (oj, j) (List.mem_zipIdx_iff_getElem?.2 (by simpa using hj))
  simp only [Bool.or_eq_true, Bool.not_eq_true'] at h1
  rcases h1 with (h1 | h1) | h1
  · exact (hne (Nat.eq_of_beq_eq_true h1)).elim
  · rw [hu] at h1; cases h1
  · exact Nat.eq_of_beq_eq_true h1

theorem tchs_dst (o : Oper) : ∀ x, o.dst = some x → x ∈ tchs o := by
  intro x h
  unfold tchs
  split <;> simp [h]

/-- What an operation writes bears a name of its own, unless it is one of those that write. -/
theorem EfOk.ids {i : Nat} {st : St} {e : Ef} (h : EfOk E run ops b i st e) : (cls E e.o.op = 0 → e.d = []) ∧ (cls E e.o.op ≠ 2 → soloB E ops.toList b i = false → ∀ id ∈ e.d.map (·.1), id / 8 ∈ tchs e.o) := by
  rcases h with ⟨_, _, hd⟩ | ⟨_, _, h⟩
  · rw [hd]; exact ⟨fun _ => rfl, fun _ _ id h => by simp at h⟩
  · unfold effOk at h
    split at h
    · rename_i hc
      have h0 : e.d = [] := by simpa using h
      rw [h0]
      exact ⟨fun _ => rfl, fun _ _ id h => by simp at h⟩
    · rename_i hc
      refine ⟨fun h0 => (by rw [hc] at h0; cases h0), fun _ hs id hid => ?_⟩
      rw [hs, Bool.false_or] at h
      obtain ⟨p, hp, rfl⟩ := List.mem_map.1 hid
      exact List.contains_iff_mem.1 (List.all_eq_true.1 h p hp)
    · rename_i hc
      refine ⟨fun h0 => (by rw [hc] at h0; cases h0), fun _ _ id hid => ?_⟩
      simp only [Bool.and_eq_true, Bool.or_eq_true] at h
      have := onlyNew_ids _ h.1 id hid
      cases hdst : e.o.dst with
      | none =>
        rw [hdst] at h
        rcases h.2 with h2 | h2
        · simp at h2
        · have : e.d = [] := by simpa using h2
          rw [this] at hid; simp at hid
      | some x => rw [hdst] at this; simp at this; exact tchs_dst _ _ (by rw [this]; exact hdst)
    · rename_i h0 h3 h1
      refine ⟨fun e => (h0 e).elim, fun h2 => ?_⟩
      rcases cls_le (E := E) e.o.op with c | c | c | c
      · exact (h0 c).elim
      · exact (h1 c).elim
      · exact (h2 c).elim
      · exact (h3 c).elim

theorem getD_bit {b : List Nat} {i j : Nat} : unord b i j = true ↔ (b.getD j 0).testBit i = false ∧ (b.getD i 0).testBit j = false := by
  simp [unord]

section
variable {es : List Ef} {st0 : St}

theorem es_op (hl : es.map (·.o) = ops.toList) {i : Nat} {e : Ef} (h : es[i]? = some e) : ops[i]? = some e.o := by
  have : (es.map (·.o))[i]? = some e.o := by simp [h]
  rw [hl] at this
  simpa using this

theorem es_of (hl : es.map (·.o) = ops.toList) {i : Nat} {o : Oper} (h : ops[i]? = some o) : ∃ e, es[i]? = some e ∧ e.o = o := by
  have : (es.map (·.o))[i]? = some o := by rw [hl]; simpa using h
  rw [List.getElem?_map, Option.map_eq_some_iff] at this
  exact this

/-- Where a set that is ready for an operation differs from the text's order, there is no order. -/
theorem differ_unord (hE : Edges ops) {L : Nat → Bool} (hc : Closed ops L) {i : Nat} {oi : Oper} (hi : ops[i]? = some oi) (hLi : L i = false) (hrd : ∀ e ∈ oi.after, Region.binds .any e = true → L e.on = true)
    {j : Nat} {oj : Oper} (hj : ops[j]? = some oj) (hne : j ≠ i) (hd : L j ≠ decide (j < i)) : unord (befs [] ops.toList) i j = true := by
  have hT : ∀ k, Closed ops (fun j => decide (j < k)) := fun k m o hm hlt e he hb => by
    have := hE m o hm e he hb
    simp only [decide_eq_true_eq] at hlt ⊢
    omega
  have up : ∀ k o, ops[k]? = some o → ∀ m, ((befs [] ops.toList).getD k 0).testBit m = true → m < k := fun k o hk m hm => by
    have := closed_bef hE (hT k) k k o (Nat.le_refl _) hk (fun e he hb => by simpa using hE k o hk e he hb) m hm
    simpa using this
  rw [getD_bit]
  constructor
  · cases hb : ((befs [] ops.toList).getD j 0).testBit i with
    | false => rfl
    | true =>
      exfalso
      have h1 := up j oj hj i hb
      have hLj : L j = true := by
        cases hL : L j with
        | true => rfl
        | false => rw [hL] at hd; simp at hd; omega
      have := closed_bef hE hc j j oj (Nat.le_refl _) hj (fun e he hb => hc j oj hj hLj e he hb) i hb
      rw [hLi] at this; cases this
  · cases hb : ((befs [] ops.toList).getD i 0).testBit j with
    | false => rfl
    | true =>
      exfalso
      have h1 := up i oi hi j hb
      have h2 := closed_bef hE hc i i oi (Nat.le_refl _) hi hrd j hb
      rw [h2] at hd
      simp at hd
      omega

/-- Between operations without order: no temporary and no name in common. -/
theorem apart_ids (hl : es.map (·.o) = ops.toList) (hr : Runs E run ops (befs [] ops.toList) 0 es st0) (hok : regOk E ops (befs [] ops.toList) = true) {i j : Nat} {ei ej : Ef} (hi : es[i]? = some ei) (hj : es[j]? = some ej) (hne : i ≠ j)
    (hu : unord (befs [] ops.toList) i j = true) : (∀ x, ei.o.dst = some x → ej.o.dst ≠ some x) ∧ ∀ id ∈ ei.d.map (·.1), id ∉ ej.d.map (·.1) := by
  obtain ⟨h1, h2, h3, h4⟩ := regOk_two hok (es_op hl hi) (es_op hl hj) hne hu
  obtain ⟨_, a2, _⟩ := Oper.apart_spec h1
  refine ⟨a2, fun id hid hid' => ?_⟩
  have oi := (runs_get es 0 i st0 ei hr hi).ids
  have oj := (runs_get es 0 j st0 ej hr hj).ids
  by_cases c : cls E ei.o.op = 2
  · rw [oj.1 (h2 c)] at hid'; simp at hid'
  · by_cases c' : cls E ej.o.op = 2
    · rw [oi.1 (h3 c')] at hid; simp at hid
    · cases s1 : soloB E ops.toList (befs [] ops.toList) (0 + i) with
      | true => 
        rw [Nat.zero_add] at s1
        rw [oj.1 (solo_spec s1 (es_op hl hj) (Ne.symm hne) hu)] at hid'; simp at hid'
      | false =>
        cases s2 : soloB E ops.toList (befs [] ops.toList) (0 + j) with
        | true =>
          rw [Nat.zero_add] at s2
          rw [oi.1 (solo_spec s2 (es_op hl hi) hne (by rw [unord_symm]; exact hu))] at hid; simp at hid
        | false => exact h4 _ (oi.2 c s1 id hid) (oj.2 c' s2 id hid')

/-- An operation finds the same in each order. -/
theorem any_find (hl : es.map (·.o) = ops.toList) (hr : Runs E run ops (befs [] ops.toList) 0 es st0) (hok : regOk E ops (befs [] ops.toList) = true) {L : Nat → Bool} (hc : Closed ops L) {i : Nat} {e : Ef} (hi : es[i]? = some e) (hLi : L i = false)
    (hrd : ∀ e' ∈ e.o.after, Region.binds .any e' = true → L e'.on = true) :
    EfOk E run ops (befs [] ops.toList) i (SD L 0 es st0) e := by
  have hE := regOk_edges hok
  have h0 := runs_get es 0 i st0 e hr hi
  simp only [Nat.zero_add] at h0
  have hdf : ∀ j ej, es[j]? = some ej → L (0 + j) ≠ decide (0 + j < i) → j ≠ i ∧ unord (befs [] ops.toList) i j = true := fun j ej hj hd => by
    simp only [Nat.zero_add] at hd
    have hne : j ≠ i := by
      rintro rfl
      rw [hLi] at hd; simp at hd
    exact ⟨hne, differ_unord hE hc (es_op hl hi) hLi hrd (es_op hl hj) hne hd⟩
  -- temporaries
  have htm : ∀ t, t ∈ e.o.looksAt ops → (SD L 0 es st0).tm t = (SD (fun j => decide (j < i)) 0 es st0).tm t := fun t ht => by
    refine SD_tm es 0 st0 st0 (fun j ej hj hd => ?_) rfl
    obtain ⟨hne, hu⟩ := hdf j ej hj hd
    obtain ⟨h1, _, _, _⟩ := regOk_two hok (es_op hl hj) (es_op hl hi) hne (by rw [unord_symm]; exact hu)
    obtain ⟨a1, _, _⟩ := Oper.apart_spec h1
    exact fun hx => a1 t hx ht
  have hev : ∀ x ∈ e.o.op.operands, evalO (SD L 0 es st0).tm x = evalO (SD (fun j => decide (j < i)) 0 es st0).tm x := fun x hx => by
    cases x with
    | tmp t => exact htm t (by
        unfold Oper.looksAt
        refine List.mem_append_left _ (List.mem_filterMap.2 ⟨.tmp t, by simpa using hx, rfl⟩))
    | _ => rfl
  have hgd : gd ops (SD L 0 es st0).tm e.o = gd ops (SD (fun j => decide (j < i)) 0 es st0).tm e.o := by
    unfold gd
    cases hg : e.o.guard with
    | none => rfl
    | some p =>
      obtain ⟨j, want⟩ := p
      simp only []
      cases hd : (ops[j]?).bind (·.dst) with
      | none => rfl
      | some dd =>
        simp only []
        rw [htm dd (by unfold Oper.looksAt; rw [hg]; simp [hd])]
  -- memory
  have hvw : viewB (cls E e.o.op) (others ops.toList (befs [] ops.toList) i) (SD L 0 es st0).bk = viewB (cls E e.o.op) (others ops.toList (befs [] ops.toList) i) (SD (fun j => decide (j < i)) 0 es st0).bk := by
    rcases cls_le (E := E) e.o.op with c | c | c | c
    · rw [c]; rfl
    all_goals
      rw [c]
      funext id
      show restr _ _ id = restr _ _ id
      unfold restr
      cases hx : (others ops.toList (befs [] ops.toList) i).contains (id / 8)
      · simp only [cond_false]
        refine SD_bk es 0 st0 st0 (fun j ej hj hd hid => ?_) rfl
        obtain ⟨hne, hu⟩ := hdf j ej hj hd
        obtain ⟨_, h2, h3, _⟩ := regOk_two hok (es_op hl hi) (es_op hl hj) (Ne.symm hne) hu
        have oj := (runs_get es 0 j st0 ej hr hj).ids
        by_cases c' : cls E ej.o.op = 2
        · have := h3 c'; rw [c] at this; cases this
        · have hs : soloB E ops.toList (befs [] ops.toList) (0 + j) = false := by
            cases s2 : soloB E ops.toList (befs [] ops.toList) (0 + j) with
            | false => rfl
            | true =>
              rw [Nat.zero_add] at s2
              have := solo_spec s2 (es_op hl hi) (Ne.symm hne) (by rw [unord_symm]; exact hu)
              rw [c] at this; cases this
          have hdst := oj.2 c' hs id hid
          have : id / 8 ∈ others ops.toList (befs [] ops.toList) i := by
            unfold others
            refine List.mem_flatMap.2 ⟨(ej.o, j), List.mem_filter.2 ⟨List.mem_zipIdx_iff_getElem?.2 (by simpa using es_op hl hj), ?_⟩, hdst⟩
            simp only [Bool.and_eq_true, Bool.not_eq_true']
            refine ⟨?_, hu⟩
            cases hb : Nat.beq j i
            · rfl
            · exact (hne (Nat.eq_of_beq_eq_true hb)).elim
          have h4 := List.contains_iff_mem.2 this
          rw [h4] at hx; cases hx
      · rfl
  unfold EfOk at h0 ⊢
  rw [hgd, hvw, opK_congr hev]
  exact h0

/-- Whatever order is drawn. -/
theorem drawn_wp (hop : OpOk E run) (hl : es.map (·.o) = ops.toList) (hr : Runs E run ops (befs [] ops.toList) 0 es st0) (hok : regOk E ops (befs [] ops.toList) = true) (hdst : ∀ o ∈ ops.toList, ∀ d, o.dst = some d → d < n) {Q : Exit → Act → World → Prop}
    (hQ : ∀ g' a' w', Inv A n g' (SD (fun _ => true) 0 es st0) a' w' → Q .normal a' w') :
    ∀ (fuel : Nat) (listed : Array Bool) (U : List Nat) (g : Nat → Option Loc) (a : Act) (w : World), listed.size = ops.size → U.length ≤ fuel → (∀ j, j < ops.size → listed.getD j false = false → j ∈ U) → Closed ops (fun j => listed.getD j false) →
      Inv A n g (SD (fun j => listed.getD j false) 0 es st0) a w → wpAny E.P .any ops Q fuel listed a w := by
  have hE := regOk_edges hok
  have done : ∀ (listed : Array Bool) (g : Nat → Option Loc) (a : Act) (w : World), listed.size = ops.size → Closed ops (fun j => listed.getD j false) → Inv A n g (SD (fun j => listed.getD j false) 0 es st0) a w → Region.ready .any ops listed = [] → Q .normal a w := by
    intro listed g a w hs hc hI hrd
    have hall : ∀ m j, j ≤ m → j < ops.size → listed.getD j false = true := by
      intro m
      induction m with
      | zero =>
        intro j hj hlt
        cases hL : listed.getD j false with
        | true => rfl
        | false =>
          exfalso
          have : j ∈ Region.ready .any ops listed := by
            rw [mem_ready]
            refine ⟨?_, ops[j], by simp [hlt], fun e he hb => ?_⟩
            · simp [hs, hlt] at hL ⊢; exact hL
            · have := hE j ops[j] (by simp [hlt]) e he hb; omega
          rw [hrd] at this; simp at this
      | succ m ih =>
        intro j hj hlt
        cases hL : listed.getD j false with
        | true => rfl
        | false =>
          exfalso
          have : j ∈ Region.ready .any ops listed := by
            rw [mem_ready]
            refine ⟨?_, ops[j], by simp [hlt], fun e he hb => ?_⟩
            · simp [hs, hlt] at hL ⊢; exact hL
            · have := hE j ops[j] (by simp [hlt]) e he hb; exact ih e.on (by omega) (by omega)
          rw [hrd] at this; simp at this
    refine hQ g a w ?_
    have heq : SD (fun j => listed.getD j false) 0 es st0 = SD (fun _ => true) 0 es st0 := by
      have hlen : es.length = ops.size := by have := congrArg List.length hl; simpa using this
      have hd : ∀ i (e : Ef), es[i]? = some e → listed.getD (0 + i) false = true := fun i e hi => by
        rw [Nat.zero_add]
        have : i < es.length := (List.getElem?_eq_some_iff.1 hi).1
        exact hall i i (Nat.le_refl _) (by omega)
      have h1 : (SD (fun j => listed.getD j false) 0 es st0).tm = (SD (fun _ => true) 0 es st0).tm := by
        funext t; exact SD_tm es 0 st0 st0 (fun i e hi hne => (hne (hd i e hi)).elim) rfl
      have h2 : (SD (fun j => listed.getD j false) 0 es st0).bk = (SD (fun _ => true) 0 es st0).bk := by
        funext t; exact SD_bk es 0 st0 st0 (fun i e hi hne => (hne (hd i e hi)).elim) rfl
      generalize SD (fun j => listed.getD j false) 0 es st0 = X at h1 h2
      generalize SD (fun _ => true) 0 es st0 = Y at h1 h2
      obtain ⟨x1, x2⟩ := X
      obtain ⟨y1, y2⟩ := Y
      simp only at h1 h2
      rw [h1, h2]
    rw [← heq]; exact hI
  intro fuel
  induction fuel with
  | zero =>
    intro listed U g a w hs hU hUm hc hI
    have hnil : Region.ready .any ops listed = [] := by
      cases hrd : Region.ready .any ops listed with
      | nil => rfl
      | cons i r =>
        exfalso
        have hi : i ∈ Region.ready .any ops listed := by rw [hrd]; simp
        rw [mem_ready] at hi
        obtain ⟨h1, oi, h2, _⟩ := hi
        have hlt : i < ops.size := (Array.getElem?_eq_some_iff.1 h2).1
        have hm := hUm i hlt (by simp [hs, hlt] at h1 ⊢; exact h1)
        have hU0 : U = [] := List.eq_nil_of_length_eq_zero (by omega)
        rw [hU0] at hm
        simp at hm
    exact ⟨hnil, done listed g a w hs hc hI hnil⟩
  | succ fuel ih =>
    intro listed U g a w hs hU hUm hc hI
    refine ⟨done listed g a w hs hc hI, fun i hi => ?_⟩
    rw [mem_ready] at hi
    obtain ⟨h1, oi, h2, h3⟩ := hi
    have hlt : i < ops.size := (Array.getElem?_eq_some_iff.1 h2).1
    have hLi : listed.getD i false = false := by simp [hs, hlt] at h1 ⊢; exact h1
    obtain ⟨e, he, heo⟩ := es_of hl h2
    have hfind := any_find hl hr hok hc he hLi (by rw [heo]; exact h3)
    -- the state behind
    have hset : ∀ j, (listed.setIfInBounds i true).getD j false = if j = i then true else listed.getD j false := fun j => by
      by_cases e : j = i
      · subst e; simp [hs, hlt]
      · rw [if_neg e]; exact getD_set_ne false (Ne.symm e)
    have hmore : SD (fun j => (listed.setIfInBounds i true).getD j false) 0 es st0 = ap (SD (fun j => listed.getD j false) 0 es st0) e := by
      refine SD_more es 0 i st0 he (by rw [Nat.zero_add]; exact hLi) (by simp only [Nat.zero_add]; rw [hset, if_pos rfl]) (fun j hj => by rw [Nat.zero_add] at hj; rw [hset, if_neg hj]) fun j ej hj hij hD => ?_
      rw [Nat.zero_add] at hD
      refine apart_ids hl hr hok he hj (by omega) ?_
      refine differ_unord hE hc h2 hLi h3 (es_op hl hj) (by omega) ?_
      rw [hD]
      simp
      omega
    have hclosed : Closed ops (fun j => (listed.setIfInBounds i true).getD j false) := fun j oj hj hL e' he' hb => by
      show (listed.setIfInBounds i true).getD e'.on false = true
      replace hL : (listed.setIfInBounds i true).getD j false = true := hL
      rw [hset] at hL ⊢
      split
      · rfl
      · split at hL
        · rename_i hji
          subst hji
          rw [h2] at hj; cases hj
          exact h3 e' he' hb
        · exact hc j oj hj hL e' he' hb
    have next : ∀ (g' : Nat → Option Loc) (a' : Act) (w' : World), Inv A n g' (ap (SD (fun j => listed.getD j false) 0 es st0) e) a' w' → wpAny E.P .any ops Q fuel (listed.setIfInBounds i true) a' w' := by
      intro g' a' w' hI'
      rw [← hmore] at hI'
      refine ih (listed.setIfInBounds i true) (U.erase i) g' a' w' (by simp [hs]) ?_ (fun j hj hL => ?_) hclosed hI'
      · rw [List.length_erase_of_mem (hUm i hlt hLi)]; omega
      · rw [hset] at hL
        split at hL
        · cases hL
        · rename_i hne
          exact (List.mem_erase_of_ne hne).2 (hUm j hj hL)
    have hdd : ∀ d, e.o.dst = some d → d < n := hdst e.o (by rw [heo]; exact Array.mem_toList_iff.2 (Array.mem_of_getElem? h2))
    unfold wpOp
    rw [h2]
    simp only []
    rw [← heo]
    rcases hfind with ⟨hg, ht, hdn⟩ | ⟨hg, hp, _⟩
    · rw [gd_wanted hI.tm hg, if_neg (by simp)]
      refine next g _ w ?_
      have : ap (SD (fun j => listed.getD j false) 0 es st0) e = (SD (fun j => listed.getD j false) 0 es st0).put e.o.dst (one .skip) := by
        unfold ap
        rw [hdn, ht]
        rfl
      rw [this]
      exact hI.put (B' := _) hI.mem (Later.refl _) hdd (v := undef) rfl
    · rw [gd_wanted hI.tm hg, if_pos rfl]
      refine .inl (hop A g _ _ a w e.o _ e.t e.d hI.mem (viewB_sub _ _ _) hI.tm hp _ _ fun g' w' v hM hL ht => ?_)
      refine next g' _ w' ?_
      unfold ap
      exact hI.put hM hL hdd ht

end
end
end Ai
end Go.Proofs.Ytpknhlnoaehffaa
