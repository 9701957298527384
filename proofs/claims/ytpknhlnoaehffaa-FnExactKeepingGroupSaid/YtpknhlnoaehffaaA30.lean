/-
  What is asked of a program once: equality of structs, by a look at the types; names and places, by one evaluation.
-/
import Derived.Test.YtpknhlnoaehffaaA29
import Derived.Laws.StructEq
namespace Go.Proofs.Ytpknhlnoaehffaa
namespace Ai
set_option linter.unusedSimpArgs false
set_option linter.unusedVariables false

/-- Is the type compared leaf by leaf? -/
def eqTy (P : Program) : Nat → TypeId → List Cd → Bool
  | 0, _, _ => false
  | d + 1, t, ks => match P.underlying t, ks with
    | some .bool, [.bool] => true
    | some (.int k), [.i k'] => k == k'
    | some .string, [.str] => true
    | some (.struct fs), ks => !P.stoodInHeld t && eqFs P (eqTy P d) 0 fs.toList ks
    | _, _ => false
where
  eqFs (P : Program) (rec : TypeId → List Cd → Bool) : Nat → List Field → List Cd → Bool
    | _, [], ks => ks.isEmpty
    | o, f :: r, ks => match szT P f.type, isAggT P f.type with
      | some m, some agg => (f.name != "_") && (f.offset == o) && (agg || m == 1) && decide (m ≤ ks.length) && rec f.type (ks.take m) && eqFs P rec (o + m) r (ks.drop m)
      | _, _ => false

theorem eqV_split : ∀ (n : Nat) (ks : List Cd) (xs ys : List Value) (b : Bool), eqV ks xs ys = some b → ∃ b1 b2, eqV (ks.take n) (xs.take n) (ys.take n) = some b1 ∧ eqV (ks.drop n) (xs.drop n) (ys.drop n) = some b2 ∧ b = (b1 && b2)
  | 0, ks, xs, ys, b, h => ⟨true, b, by simp [eqV], by simpa using h, by simp⟩
  | n + 1, ks, xs, ys, b, h => by
    match ks, xs, ys, h with
    | _ :: _, [], _, h => cases ‹Cd› <;> simp [eqV] at h
    | _ :: _, _ :: _, [], h => cases ‹Cd› <;> simp [eqV] at h
    | [], [], [], h => exact ⟨true, b, by simp [eqV], by simpa using h, by simp⟩
    | k :: ks, x :: xs, y :: ys, h =>
      have key : ∀ (q : Bool), (eqV ks xs ys).map (q && ·) = some b → ∃ b1 b2, (eqV (ks.take n) (xs.take n) (ys.take n)).map (q && ·) = some b1 ∧ eqV (ks.drop n) (xs.drop n) (ys.drop n) = some b2 ∧ b = (b1 && b2) := fun q hq => by
        obtain ⟨b', hb', hbq⟩ := Option.map_eq_some_iff.1 hq
        obtain ⟨b1, b2, h1, h2, h3⟩ := eqV_split n ks xs ys b' hb'
        refine ⟨q && b1, b2, by rw [h1]; rfl, h2, ?_⟩
        subst h3; rw [← hbq, Bool.and_assoc]
      simp only [List.take_succ_cons, List.drop_succ_cons]
      cases k <;> cases x <;> cases y <;> simp only [eqV] at h ⊢ <;> first
        | (split at h
           · rename_i hk; simp only [if_pos hk]; exact key _ h
           · cases h)
        | exact key _ h
        | cases h

theorem eqV_len : ∀ (ks : List Cd) (xs ys : List Value) (b : Bool), eqV ks xs ys = some b → xs.length = ks.length ∧ ys.length = ks.length
  | [], xs, ys, b, h => by
    match xs, ys, h with
    | [], [], _ => exact ⟨rfl, rfl⟩
  | k :: ks, xs, ys, b, h => by
    match xs, ys, h with
    | [], _, h => cases k <;> simp [eqV] at h
    | _ :: _, [], h => cases k <;> simp [eqV] at h
    | x :: xs, y :: ys, h =>
      have key : ∀ q : Bool, (eqV ks xs ys).map (q && ·) = some b → (x :: xs).length = (k :: ks).length ∧ (y :: ys).length = (k :: ks).length := fun q hq => by
        obtain ⟨b', hb', _⟩ := Option.map_eq_some_iff.1 hq
        simp [eqV_len ks xs ys b' hb']
      cases k <;> cases x <;> cases y <;> simp only [eqV] at h <;> first
        | (split at h
           · exact key _ h
           · cases h)
        | exact key _ h
        | cases h

theorem bytes_beq (p q : ByteArray) : (p == q) = decide (p = q) := by
  rw [beq_toListBytes, ByteArray.toList_eq, ByteArray.toList_eq]
  obtain ⟨⟨x⟩⟩ := p
  obtain ⟨⟨y⟩⟩ := q
  by_cases h : x = y
  · subst h; simp
  · have h1 : ((⟨⟨x⟩⟩ : ByteArray) = ⟨⟨y⟩⟩) ↔ False := ⟨fun e => h (by cases e; rfl), False.elim⟩
    simp [h, h1]

section
variable {P : Program}

theorem fields_eq {d k : Nat} (ih : ∀ (t : TypeId) (ks : List Cd) (agg : Bool) (vx vy : Value) (xs ys : List Value) (b : Bool) (w : World), eqTy P d t ks = true → isAggT P t = some agg → eqV ks xs ys = some b →
      (agg = true → vx = .agg xs.toArray ∧ vy = .agg ys.toArray) → (agg = false → xs = [vx] ∧ ys = [vy]) → (Op.equalIn (d + k) t vx vy).run P w = .ok b w) (w : World) (xs ys : Array Value) :
    ∀ (fs : List Field) (o : Nat) (ks : List Cd) (b : Bool), eqTy.eqFs P (eqTy P d) o fs ks = true → eqV ks (xs.toList.drop o) (ys.toList.drop o) = some b → (Op.eqFields (d + k) xs ys fs).run P w = .ok b w
  | [], o, ks, b, h, hb => by
    simp only [eqTy.eqFs, List.isEmpty_iff] at h
    subst h
    match hx : xs.toList.drop o, hy : ys.toList.drop o, hb with
    | [], [], hb => simp only [eqV] at hb; cases hb; simp [Op.eqFields]
  | f :: r, o, ks, b, h, hb => by
    simp only [eqTy.eqFs] at h
    split at h
    · rename_i m agg hm hagg
      simp only [Bool.and_eq_true, beq_iff_eq, bne_iff_ne, decide_eq_true_eq, Bool.or_eq_true] at h
      obtain ⟨⟨⟨⟨⟨h1, h3⟩, hm1⟩, hmk⟩, h2⟩, h⟩ := h
      obtain ⟨b1, b2, e1, e2, e3⟩ := eqV_split m _ _ _ _ hb
      rw [List.drop_drop, List.drop_drop] at e2
      have hrest := fields_eq ih w xs ys r (o + m) (ks.drop m) b2 h e2
      have hlen := eqV_len _ _ _ _ e1
      have hpart : ∀ zs : Array Value, ((zs.toList.drop o).take m).length = m → ∃ v, (part f.type zs f.offset).run P w = .ok v w ∧ (agg = true → v = .agg ((zs.toList.drop o).take m).toArray) ∧ (agg = false → (zs.toList.drop o).take m = [v]) := fun zs hz => by
        obtain ⟨p1, p2⟩ := part_run hagg hm (arr := zs) (off := f.offset) w
        cases hag : agg with
        | true =>
          refine ⟨_, p1 hag, fun _ => ?_, fun h => by cases h⟩
          rw [h3]
          congr 1
          apply Array.ext'
          simp [Array.toList_extract, List.extract_eq_take_drop]
        | false =>
          have hm' : m = 1 := hm1.resolve_left (by rw [hag]; decide)
          subst hm'
          match hq : (zs.toList.drop o).take 1, hz with
          | [v], _ =>
            have : zs[f.offset]? = some v := by
              have h0 : ((zs.toList.drop o).take 1)[0]? = some v := by rw [hq]; rfl
              rw [h3]
              simpa using h0
            exact ⟨v, p2 hag v this, ⟨(fun h => by cases h), (fun _ => rfl)⟩⟩
      have hkl : (ks.take m).length = m := by rw [List.length_take]; omega
      obtain ⟨vx, px, ax, bx⟩ := hpart xs (by rw [hlen.1, hkl])
      obtain ⟨vy, py, ay, by_⟩ := hpart ys (by rw [hlen.2, hkl])
      have he := ih f.type (ks.take m) agg vx vy _ _ b1 w h2 hagg e1 (fun h => ⟨ax h, ay h⟩) (fun h => ⟨bx h, by_ h⟩)
      rw [Op.eqFields]
      simp only [if_pos h1, Sem.run_bind, px, py, he, Result.andThen_ok]
      subst e3
      cases b1
      · simp
      · simpa using hrest
    · cases h

theorem eqTy_run : ∀ (d k : Nat) (t : TypeId) (ks : List Cd) (agg : Bool) (vx vy : Value) (xs ys : List Value) (b : Bool) (w : World), eqTy P d t ks = true → isAggT P t = some agg → eqV ks xs ys = some b →
      (agg = true → vx = .agg xs.toArray ∧ vy = .agg ys.toArray) → (agg = false → xs = [vx] ∧ ys = [vy]) → (Op.equalIn (d + k) t vx vy).run P w = .ok b w
  | 0, _, _, _, _, _, _, _, _, _, _, h, _, _, _, _ => by simp [eqTy] at h
  | d + 1, k, t, ks, agg, vx, vy, xs, ys, b, w, h, hagg, hb, h1, h2 => by
    rw [show d + 1 + k = d + k + 1 by omega]
    simp only [eqTy] at h
    split at h
    · rename_i hu
      simp [isAggT, hu] at hagg
      subst hagg
      obtain ⟨rfl, rfl⟩ := h2 rfl
      cases vx <;> cases vy <;> simp only [eqV] at hb <;> first
        | (cases hb; done)
        | (simp at hb; subst hb; rename_i p q; simp only [Option.map_some, Op.equalIn, Sem.run_bind, run_underlying hu, Result.andThen_ok, Sem.run_pure]; cases p <;> cases q <;> rfl)
    · rename_i k1 k2 hu
      simp at h; subst h
      simp [isAggT, hu] at hagg
      subst hagg
      obtain ⟨rfl, rfl⟩ := h2 rfl
      cases vx <;> cases vy <;> simp only [eqV] at hb <;> first
        | (cases hb; done)
        | (split at hb
           · rename_i hk
             obtain ⟨rfl, rfl⟩ := hk
             simp at hb; subst hb
             simp only [Op.equalIn, Sem.run_bind, run_underlying hu, Result.andThen_ok, if_true, Sem.run_pure]; congr 1
           · cases hb)
    · rename_i hu
      simp [isAggT, hu] at hagg
      subst hagg
      obtain ⟨rfl, rfl⟩ := h2 rfl
      cases vx <;> cases vy <;> simp only [eqV] at hb <;> first
        | (cases hb; done)
        | (simp at hb; subst hb; rename_i p q; simp only [Option.map_some, Op.equalIn, Sem.run_bind, run_underlying hu, Result.andThen_ok, Sem.run_pure]; rw [bytes_beq]; try simp)
    · rename_i fs hu
      simp [isAggT, hu] at hagg
      subst hagg
      obtain ⟨rfl, rfl⟩ := h1 rfl
      simp only [Bool.and_eq_true, Bool.not_eq_true'] at h
      obtain ⟨hs, hf⟩ := h
      have hf' : P.fieldsOf t = fs := by simp [Program.fieldsOf, hu]
      rw [run_equalIn_struct (P := P) w (d + k) t _ _ (by rw [hf']; exact hu) hs, hf']
      exact fields_eq (fun t ks agg vx vy xs ys b w => eqTy_run d k t ks agg vx vy xs ys b w) w _ _ fs.toList 0 _ b hf (by simpa using hb)
    · cases h

theorem eqOk_of {t : TypeId} {ks : List Cd} (h : (match isAggT P t with | some true => eqTy P 20 t ks && !P.eqGuardType P.depth t | _ => false) = true) : EqOk P t ks := by
  split at h
  · rename_i hagg
    simp only [Bool.and_eq_true, Bool.not_eq_true'] at h
    intro x y xs ys b w hb
    have he : (Op.equal t (.agg xs) (.agg ys)).run P w = .ok b w := eqTy_run 20 9980 t ks true _ _ xs.toList ys.toList b w h.1 hagg hb (fun _ => ⟨by simp, by simp⟩) (fun h => by cases h)
    constructor
    · simp [eqGuard, run_program, h.2, binOp, he]
    · simp [eqGuard, run_program, h.2, binOp, he]
  · cases h

def eqAll (P : Program) (l : List (TypeId × List Cd)) : Bool := l.all fun p => match isAggT P p.1 with
  | some true => eqTy P 20 p.1 p.2 && !P.eqGuardType P.depth p.1
  | _ => false

theorem eqAll_ok {l : List (TypeId × List Cd)} (h : eqAll P l = true) : ∀ t ks, eqTyp l t = some ks → EqOk P t ks := by
  induction l with
  | nil => intro t ks h; cases h
  | cons p r ih =>
    obtain ⟨u, us⟩ := p
    intro t ks hk
    simp only [eqAll, List.all_cons, Bool.and_eq_true] at h
    simp only [eqTyp] at hk
    cases hc : Nat.beq u t with
    | true =>
      rw [hc] at hk
      cases hk
      cases Nat.eq_of_beq_eq_true hc
      exact eqOk_of h.1
    | false =>
      rw [hc] at hk
      exact ih h.2 t ks hk

/-- Names and places, function by function. -/
def fnsOk (fs : List Func) : Bool := fs.all fun fn => !(fn.name == "runtime.NumGoroutine") && (match fn.body with
  | some c => dstOk fn.ntmps c
  | none => true)

theorem envOk_of {E : Env} (h1 : eqAll E.P E.eqT = true) (h2 : fnsOk E.P.funcs.toList = true) : EnvOk E where
  eq := eqAll_ok h1
  name := fun f fn hf _ => by
    have := List.all_eq_true.1 h2 fn (List.mem_of_getElem? (by simpa using hf : E.P.funcs.toList[f]? = some fn))
    simp only [Bool.and_eq_true, Bool.not_eq_true'] at this
    exact this.1
  dst := fun f fn c hf hc => by
    have := List.all_eq_true.1 h2 fn (List.mem_of_getElem? (by simpa using hf : E.P.funcs.toList[f]? = some fn))
    simp only [Bool.and_eq_true] at this
    have := this.2
    rw [hc] at this
    exact this

/-- A list with one element changed. -/
def updL {α : Type} (xs : List α) (i : Nat) (d : α) (f : α → α) : List α := xs.set i (f (xs.getD i d))

theorem updL_len {α : Type} (xs : List α) (i : Nat) (d : α) (f : α → α) : (updL xs i d f).length = xs.length := List.length_set ..

theorem updL_updL {α : Type} (xs : List α) (i : Nat) (d : α) (f g : α → α) : updL (updL xs i d f) i d g = updL xs i d (fun w => g (f w)) := by
  unfold updL
  by_cases h : i < xs.length
  · rw [List.set_set, List.getD_eq_getElem?_getD (l := xs.set i _), List.getElem?_set_self h]
    rfl
  · rw [List.set_eq_of_length_le (by simp; omega), List.set_eq_of_length_le (by omega), List.set_eq_of_length_le (by omega)]

theorem updL_set {α : Type} {xs : List α} {i : Nat} (h : i < xs.length) (d : α) (f : α → α) : updL xs i d f = xs.set i (f xs[i]) := by
  unfold updL
  rw [List.getD_eq_getElem?_getD, List.getElem?_eq_getElem h]
  rfl

end
end Ai
end Go.Proofs.Ytpknhlnoaehffaa
