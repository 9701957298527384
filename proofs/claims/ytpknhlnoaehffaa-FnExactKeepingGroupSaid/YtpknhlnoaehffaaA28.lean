/-
  From an argument as a statement reads it to a datum of the ideal interpreter.
-/
import Derived.Test.YtpknhlnoaehffaaA27
import Derived.Deep.Slices
import Derived.Carry
import Derived.WideShapes
namespace Go.Proofs.Ytpknhlnoaehffaa
namespace Ai
set_option linter.unusedSimpArgs false
set_option linter.unusedVariables false

/-- The numbers fit their kinds, and the lengths are lengths. -/
def wfE : (c : Cd) → El c → Prop
  | .i k, n => (Lit.int k n).wf = true
  | .bool, _ => True
  | .str, s => s.length ≤ Go.maxLen
  | .list c, xs => xs.length ≤ Go.maxLen ∧ ∀ x ∈ xs, wfE c x
  | .pair a b, x => wfE a x.1 ∧ wfE b x.2
  | .unit, _ => True

def fcode (P : Program) (rec : TypeId → Option Cd) : Nat → List Field → Option (List Cd)
  | _, [] => some []
  | off, f :: r => match rec f.type with
    | some c => if f.offset = off ∧ P.cellsOf f.type = csize c then (fcode P rec (off + csize c) r).map (c :: ·) else none
    | none => none

/-- The code of a type, with its layout looked at. -/
def tcodeC (P : Program) : Nat → TypeId → Option Cd
  | 0, _ => none
  | n + 1, t =>
    match P.underlying t with
    | some (.int k) => some (.i k)
    | some .bool => some .bool
    | some .string => some .str
    | some (.slice e) => match tcodeC P n e with
      | some c => if P.cellsOf e = csize c ∧ 1 ≤ csize c then some (.list c) else none
      | none => none
    | some (.struct fs) => match fcode P (tcodeC P n) 0 fs.toList with
      | some cs => if P.cellsOf t = csize (pairs cs) then some (pairs cs) else none
      | none => none
    | _ => none

def spotV : Value → Prop
  | .slice (some a) _ _ => a.spot = none
  | _ => True

def deep : Cd → Bool
  | .list c => !cflat c
  | .pair a b => deep a || deep b
  | _ => false

theorem deep_flat : ∀ {c : Cd}, cflat c = true → deep c = false
  | .i _, _ => rfl
  | .bool, _ => rfl
  | .str, _ => rfl
  | .unit, _ => rfl
  | .pair a b, h => by
    simp only [cflat, Bool.and_eq_true] at h
    simp [deep, deep_flat h.1, deep_flat h.2]
  | .list c, h => by simp [cflat] at h

theorem exists_list {α : Type} {Q : Nat → α → Prop} : ∀ n : Nat, (∀ i, i < n → ∃ x, Q i x) → ∃ xs : List α, xs.length = n ∧ ∀ i x, xs[i]? = some x → Q i x
  | 0, _ => ⟨[], rfl, fun i x h => by simp at h⟩
  | n + 1, h => by
    obtain ⟨xs, hl, hx⟩ := exists_list n fun i hi => h i (by omega)
    obtain ⟨y, hy⟩ := h n (by omega)
    refine ⟨xs ++ [y], by simp [hl], fun i x hi => ?_⟩
    rw [List.getElem?_append] at hi
    split at hi
    · exact hx i x hi
    · have : i - xs.length = 0 := by
        rcases Nat.eq_zero_or_pos (i - xs.length) with h0 | h0
        · exact h0
        · rw [List.getElem?_eq_none (by simp; omega)] at hi; cases hi
      rw [this] at hi
      simp at hi
      subst hi
      have : i = n := by omega
      subst this; exact hy

theorem exists_list2 {α : Type} {Q : Nat → α → Prop} {R : α → Prop} (n : Nat) (h : ∀ i, i < n → ∃ x, Q i x ∧ R x) : ∃ xs : List α, xs.length = n ∧ (∀ i x, xs[i]? = some x → Q i x) ∧ ∀ x ∈ xs, R x := by
  obtain ⟨xs, hl, hx⟩ := exists_list (Q := fun i x => Q i x ∧ R x) n h
  refine ⟨xs, hl, fun i x hi => (hx i x hi).1, fun x hm => ?_⟩
  obtain ⟨i, hi⟩ := List.getElem?_of_mem hm
  exact (hx i x hi).2

section
variable {H : Type} {enc : TypeId × Value → H} {P : Program} {w : World} {held : Bool} {ok : Nat → Prop}

/-- What is asked of slices' addresses. -/
def spots (w : World) (c : Cd) (cs : List Value) : Prop := (cflat c = true ∨ ∀ v ∈ cs, spotV v) ∧ (deep c = false ∨ ∀ b o v, w.cell? ⟨b, o, none⟩ = some v → spotV v)

theorem fields_dr {m n : Nat} (ih : ∀ (t : TypeId) (c : Cd) (cs : List Value) (x : DataW H × List MemPlace), tcodeC P m t = some c → DataW.trod enc P w 0 (fun _ => true) held n t cs = some x → spots w c cs → ∃ v : El c, DR w ok c v cs ∧ wfE c v) :
    ∀ (fs : List Field) (cds : List Cd) (off : Nat) (cs : List Value), fcode P (tcodeC P m) off fs = some cds → cs.length = off + csize (pairs cds) →
      (∀ f ∈ fs, ∃ x, DataW.trod enc P w 0 (fun _ => true) held n f.type ((cs.drop f.offset).take (P.cellsOf f.type)) = some x) →
      (cflat (pairs cds) = true ∨ ∀ v ∈ cs, spotV v) → (deep (pairs cds) = false ∨ ∀ b o v, w.cell? ⟨b, o, none⟩ = some v → spotV v) →
      ∃ v : El (pairs cds), DR w ok (pairs cds) v (cs.drop off) ∧ wfE (pairs cds) v
  | [], cds, off, cs, hc, hl, _, _, _ => by
    simp only [fcode] at hc; cases hc
    refine ⟨(), ?_, trivial⟩
    simp only [pairs, csize] at hl
    show cs.drop off = []
    rw [List.drop_eq_nil_iff]; omega
  | [f], cds, off, cs, hc, hl, hx, hs, hd => by
    simp only [fcode] at hc
    split at hc
    · rename_i c hfc
      split at hc
      · rename_i hcond
        obtain ⟨h1, h2⟩ := hcond
        simp at hc; subst hc
        obtain ⟨x, hx⟩ := hx f (List.mem_singleton.2 rfl)
        simp only [pairs] at hl hs hd ⊢
        have e : (cs.drop f.offset).take (P.cellsOf f.type) = cs.drop off := by
          rw [h1, h2]; exact List.take_of_length_le (by simp; omega)
        rw [e] at hx
        exact ih f.type c _ x hfc hx ⟨hs.imp id fun h v hv => h v (List.mem_of_mem_drop hv), hd⟩
      · cases hc
    · cases hc
  | f :: g :: r, cds, off, cs, hc, hl, hx, hs, hd => by
    rw [fcode] at hc
    split at hc
    · rename_i c hfc
      split at hc
      · rename_i hcond
        obtain ⟨h1, h2⟩ := hcond
        cases hrest : fcode P (tcodeC P m) (off + csize c) (g :: r) with
        | none => rw [hrest] at hc; cases hc
        | some cds' =>
          rw [hrest] at hc; simp at hc; subst hc
          obtain ⟨d, ds, rfl⟩ : ∃ d ds, cds' = d :: ds := by
            cases cds' with
            | nil =>
              simp only [fcode] at hrest
              split at hrest
              · split at hrest
                · cases hz : fcode P (tcodeC P m) (off + csize c + csize ‹Cd›) r <;> rw [hz] at hrest <;> simp at hrest
                · cases hrest
              · cases hrest
            | cons d ds => exact ⟨d, ds, rfl⟩
          simp only [pairs, csize, cflat, deep, Bool.and_eq_true, Bool.or_eq_false_iff] at hl hs hd ⊢
          obtain ⟨x, hx1⟩ := hx f (List.mem_cons_self ..)
          obtain ⟨v1, d1, w1⟩ := ih f.type c _ x hfc hx1 ⟨hs.imp (·.1) fun h v hv => h v (List.mem_of_mem_drop (List.mem_of_mem_take hv)), hd.imp (·.1) id⟩
          obtain ⟨v2, d2, w2⟩ := fields_dr ih (g :: r) (d :: ds) (off + csize c) cs hrest (by omega) (fun f' h' => hx f' (List.mem_cons_of_mem _ h')) (hs.imp (·.2) id) (hd.imp (·.2) id)
          refine ⟨(v1, v2), ⟨_, _, ?_, d1, d2⟩, w1, w2⟩
          rw [h1, h2]
          rw [← List.drop_drop]
          exact (List.take_append_drop _ _).symm
      · cases hc
    · cases hc

/-- What a statement reads as an argument is a datum. -/
theorem trod_dr (hok : ∀ b, b < w.heap.size → ok b) : ∀ (m n : Nat) (t : TypeId) (c : Cd) (cs : List Value) (x : DataW H × List MemPlace), tcodeC P m t = some c → DataW.trod enc P w 0 (fun _ => true) held n t cs = some x → spots w c cs →
    ∃ v : El c, DR w ok c v cs ∧ wfE c v
  | 0, _, _, _, _, _, hc, _, _ => by cases hc
  | m + 1, n, t, c, cs, x, hc, hx, hs => by
    simp only [tcodeC] at hc
    split at hc
    · rename_i k hu
      cases hc
      obtain ⟨v, rfl, _, hw⟩ := DataW.trod_int hu hx
      exact ⟨v, rfl, hw⟩
    · rename_i hu
      cases hc
      obtain ⟨v, rfl, _⟩ := DataW.trod_bool hu hx
      exact ⟨v, rfl, trivial⟩
    · rename_i hu
      cases hc
      obtain ⟨s, rfl, _, hl⟩ := DataW.trod_string hu hx
      refine ⟨s.data.toList, ?_, by simpa [wfE] using hl⟩
      show [Value.string s] = [Value.string ⟨s.data.toList.toArray⟩]
      simp
    · rename_i e hu
      split at hc
      · rename_i c' hce
        split at hc
        · rename_i hcond
          obtain ⟨hsz, hpos⟩ := hcond
          cases hc
          rcases Go.Deep.open_slice hu hx with ⟨rfl, _⟩ | ⟨a, len, cap, m', n', D, Pl, rfl, _, hl, hm, hmm, _, hel⟩
          · exact ⟨[], .inl ⟨rfl, rfl⟩, by simp [wfE]⟩
          · simp only [if_true] at hmm
            subst hmm
            have hspot : a.spot = none := by
              rcases hs.1 with h | h
              · simp [cflat] at h
              · exact h _ (List.mem_singleton.2 rfl)
            obtain ⟨ab, ao, asp⟩ := a
            simp only at hspot; subst hspot
            have hadd : ∀ b o k, Addr.add ⟨b, o, none⟩ k = ⟨b, o + k, none⟩ := fun b o k => by
              unfold Addr.add
              split
              · rename_i h0; subst h0; rfl
              · rfl
            have hcell : ∀ i, i < m' → ∃ cs', cs'.length = csize c' ∧ (∀ j, j < csize c' → w.cell? ⟨ab, ao + i * csize c' + j, none⟩ = cs'[j]?) ∧ ∃ y, DataW.trod enc P w 0 (fun _ => true) held n' e cs' = some y := fun i hi => by
              obtain ⟨cs', h1, h2⟩ := hel i hi
              obtain ⟨_, h3, h4⟩ := World.cells?_some h1
              refine ⟨cs', by rw [h3, hsz], fun j hj => ?_, _, h2⟩
              have := h4 j (by rw [hsz]; exact hj)
              rw [hadd, hadd, hsz] at this
              exact this
            have hsub : ∀ i cs', i < m' → cs'.length = csize c' → (∀ j, j < csize c' → w.cell? ⟨ab, ao + i * csize c' + j, none⟩ = cs'[j]?) → spots w c' cs' := fun i cs' hi hlen hcc => by
              rcases hs.2 with h | h
              · simp only [deep, Bool.not_eq_false'] at h
                exact ⟨.inl h, .inl (deep_flat h)⟩
              · refine ⟨.inr fun v hv => ?_, .inr h⟩
                obtain ⟨j, hj⟩ := List.getElem?_of_mem hv
                have hjl : j < csize c' := by
                  rw [← hlen]
                  rcases Nat.lt_or_ge j cs'.length with h | h
                  · exact h
                  · rw [List.getElem?_eq_none h] at hj; cases hj
                exact h _ _ _ ((hcc j hjl).trans hj)
            obtain ⟨xs, hxl, hxe, hxw⟩ := exists_list2 (α := El c') (Q := fun i x => ∃ cs', DR w ok c' x cs' ∧ ∀ (j : Nat) v, cs'[j]? = some v → w.cell? ⟨ab, ao + i * csize c' + j, none⟩ = some v) (R := wfE c') len fun i hi => by
              obtain ⟨cs', h1, h2, y, h3⟩ := hcell i (by omega)
              obtain ⟨v, d, hw⟩ := trod_dr hok m n' e c' cs' y hce h3 (hsub i cs' (by omega) h1 h2)
              refine ⟨v, ⟨cs', d, fun j u hj => ?_⟩, hw⟩
              have hjl : j < csize c' := by
                rw [← h1]
                rcases Nat.lt_or_ge j cs'.length with h | h
                · exact h
                · rw [List.getElem?_eq_none h] at hj; cases hj
              exact (h2 j hjl).trans hj
            refine ⟨xs, .inr ⟨ab, ao, m', by rw [hxl], by omega, fun hpos' => ?_, fun j hj => ?_, hxe⟩, by omega, hxw⟩
            · have hb : ab < w.heap.size := by
                obtain ⟨cs', h1, h2, _⟩ := hcell 0 hpos'
                have h3 := h2 0 hpos
                have : (w.cell? ⟨ab, ao + 0 * csize c' + 0, none⟩).isSome = true := by
                  rw [h3]; simp; omega
                unfold World.cell? at this
                rcases Nat.lt_or_ge ab w.heap.size with h | h
                · exact h
                · simp [Array.getElem?_eq_none h] at this
              exact ⟨hok _ hb, hb⟩
            · have hcp : 0 < csize c' := hpos
              have hq : j / csize c' < m' := (Nat.div_lt_iff_lt_mul hcp).2 hj
              obtain ⟨cs', h1, h2, _⟩ := hcell (j / csize c') hq
              have := h2 (j % csize c') (Nat.mod_lt _ hcp)
              have e1 : ao + j / csize c' * csize c' + j % csize c' = ao + j := by
                have := Nat.div_add_mod j (csize c'); rw [Nat.mul_comm] at this; omega
              rw [e1] at this
              rw [this]
              simp [h1, Nat.mod_lt _ hcp]
        · cases hc
      · cases hc
    · rename_i fs hu
      split at hc
      · rename_i cds hfc
        split at hc
        · rename_i hcells
          cases hc
          obtain ⟨xs, n', rfl, _, hl, hxl, hf⟩ := DataW.trod_struct hu hx
          have := fields_dr (ok := ok) (fun t c cs x h1 h2 h3 => trod_dr hok m n' t c cs x h1 h2 h3) fs.toList cds 0 cs hfc (by rw [hl, hcells]; omega) (fun f hmem => by
            obtain ⟨i, hi⟩ := List.getElem?_of_mem hmem
            have hi' : fs[i]? = some f := by simpa using hi
            have hlt : i < fs.size := by
              rcases Nat.lt_or_ge i fs.size with h | h
              · exact h
              · rw [Array.getElem?_eq_none h] at hi'; cases hi'
            exact ⟨xs[i]'(by omega), by rw [hf i f hi', List.getElem?_eq_getElem]⟩) hs.1 hs.2
          simpa using this
        · cases hc
      · cases hc
    · cases hc

end
end Ai
end Go.Proofs.Ytpknhlnoaehffaa
