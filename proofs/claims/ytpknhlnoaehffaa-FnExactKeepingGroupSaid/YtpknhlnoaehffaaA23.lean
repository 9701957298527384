/-
  The ideal interpreter against the machine: memory behind a call.
-/
import Derived.Test.YtpknhlnoaehffaaA22
namespace Go.Proofs.Ytpknhlnoaehffaa
namespace Ai
set_option linter.unusedSimpArgs false
set_option linter.unusedVariables false

theorem nodupB_list : ∀ (l : List Nat), nodupB l = true → l.Nodup
  | [], _ => List.nodup_nil
  | a :: r, h => by
    obtain ⟨h1, h2⟩ := nodupB_cons h
    exact List.nodup_cons.2 ⟨h1, nodupB_list r h2⟩

theorem key_one : ∀ (d : List (Nat × BS)), (d.map (·.1)).Nodup → ∀ (p q : Nat × BS), p ∈ d → q ∈ d → p.1 = q.1 → p.2 = q.2 := by
  intro d
  induction d with
  | nil => intro _ p q hp; simp at hp
  | cons a r ih =>
    intro hn p q hp hq e
    simp only [List.map_cons, List.nodup_cons] at hn
    rcases List.mem_cons.1 hp with h1 | h1 <;> rcases List.mem_cons.1 hq with h2 | h2
    · rw [h1, h2]
    · subst h1; exact (hn.1 (List.mem_map.2 ⟨q, h2, e.symm⟩)).elim
    · subst h2; exact (hn.1 (List.mem_map.2 ⟨p, h1, e⟩)).elim
    · exact ih hn.2 p q h1 h2 e

theorem applyB_mem {id : Nat} {b : BS} (d : List (Nat × BS)) (B : Nat → BS) (hn : (d.map (·.1)).Nodup) (hm : (id, b) ∈ d) : applyB B d id = b :=
  applyB_all d B (fun p hp e => key_one d hn p (id, b) hp hm e) (.inl (List.mem_map.2 ⟨_, hm, rfl⟩))

/-- A slice or a struct's slices that the caller takes over. -/
structure Imp where
  id : Nat
  l : Loc
  blk : Blk

def impG (g : Nat → Option Loc) : Option Imp → Nat → Option Loc
  | none => g
  | some i => upd g i.id (some i.l)

def impB (B : Nat → BS) : Option Imp → Nat → BS
  | none => B
  | some i => upd B i.id (.live i.blk)

section
variable {A : Base} {g : Nat → Option Loc} {B : Nat → BS} {w w' : World} {eff : List (Nat × BS)} {imp : Option Imp}

theorem ret_mem (hM : Mem A g B w) (hn : (eff.map (·.1)).Nodup) (hlive : ∀ p ∈ eff, ∃ blk, B p.1 = .live blk) (heff : ∀ p ∈ eff, p.2 = .dead ∨ ∃ blk l, p.2 = .live blk ∧ g p.1 = some l ∧
      (Later (cxOf A g B w) (cxOf A (impG g imp) (impB (applyB B eff) imp) w') → BR (cxOf A (impG g imp) (impB (applyB B eff) imp) w') blk l))
    (himp : ∀ i, imp = some i → B i.id = .fresh ∧ (Later (cxOf A g B w) (cxOf A (impG g imp) (impB (applyB B eff) imp) w') → BR (cxOf A (impG g imp) (impB (applyB B eff) imp) w') i.blk i.l) ∧
      (i.l.nil = false → i.l.b < w'.heap.size ∧ (w.heap.size ≤ i.l.b ∨ ∃ p ∈ eff, p.2 = .dead ∧ ∃ l, g p.1 = some l ∧ l.nil = false ∧ l.b = i.l.b)))
    (hos : w'.os = w.os) (htp : w'.tape = w.tape) (hout : w'.output = w.output) (hsz : w.heap.size ≤ w'.heap.size)
    (hold : ∀ k, k < w.heap.size → (∀ p ∈ eff, ∀ l, g p.1 = some l → l.nil = false → l.b ≠ k) → w'.heap[k]? = w.heap[k]?)
    (hplain : ∀ k, k < w'.heap.size → (w.heap.size ≤ k ∨ ∃ p ∈ eff, ∃ l, g p.1 = some l ∧ l.nil = false ∧ l.b = k) → Plain w'.heap[k]?) :
    Mem A (impG g imp) (impB (applyB B eff) imp) w' ∧ Later (cxOf A g B w) (cxOf A (impG g imp) (impB (applyB B eff) imp) w') := by
  -- what is live behind the call
  have hg2 : ∀ id, (∀ i, imp = some i → id ≠ i.id) → impG g imp id = g id := fun id h => by
    cases imp with
    | none => rfl
    | some i => exact upd_ne _ _ (h i rfl)
  have heffB : ∀ p ∈ eff, applyB B eff p.1 = p.2 := fun p hp => applyB_mem eff B hn hp
  have hnotB : ∀ id, (∀ p ∈ eff, p.1 ≠ id) → applyB B eff id = B id := fun id h => applyB_notin eff B fun hm => by
    obtain ⟨p, hp, e⟩ := List.mem_map.1 hm
    exact h p hp e
  have himpne : ∀ i, imp = some i → ∀ p ∈ eff, p.1 ≠ i.id := fun i hi p hp e => by
    obtain ⟨blk, hb⟩ := hlive p hp
    rw [e, (himp i hi).1] at hb; cases hb
  -- each live name: the import, one that was lent, or one as before
  have cases3 : ∀ id b, impB (applyB B eff) imp id = b → (∃ i, imp = some i ∧ id = i.id ∧ b = .live i.blk) ∨ ((∀ i, imp = some i → id ≠ i.id) ∧ ((∃ p ∈ eff, p.1 = id ∧ p.2 = b) ∨ ((∀ p ∈ eff, p.1 ≠ id) ∧ B id = b))) := fun id b hb => by
    have key : (∀ i, imp = some i → id ≠ i.id) → impB (applyB B eff) imp id = applyB B eff id := fun h => by
      cases imp with
      | none => rfl
      | some i => exact upd_ne _ _ (h i rfl)
    by_cases h : ∀ i, imp = some i → id ≠ i.id
    · right
      refine ⟨h, ?_⟩
      rw [key h] at hb
      by_cases hm : ∃ p ∈ eff, p.1 = id
      · obtain ⟨p, hp, rfl⟩ := hm
        rw [heffB p hp] at hb
        exact .inl ⟨p, hp, rfl, hb⟩
      · have hm : ∀ p ∈ eff, p.1 ≠ id := fun p hp e => hm ⟨p, hp, e⟩
        rw [hnotB id hm] at hb
        exact .inr ⟨hm, hb⟩
    · left
      cases imp with
      | none => exact (h fun i hi => by cases hi).elim
      | some i =>
        have : id = i.id := by
          by_cases e : id = i.id
          · exact e
          · exact (h fun j hj => by cases hj; exact e).elim
        subst this
        refine ⟨i, rfl, rfl, ?_⟩
        rw [← hb]
        exact upd_same _ _ _
  -- the place of each live name, and whose block it was
  have src : ∀ id b l, impB (applyB B eff) imp id = .live b → impG g imp id = some l → (∃ i, imp = some i ∧ id = i.id ∧ l = i.l ∧ b = i.blk) ∨ ((∀ i, imp = some i → id ≠ i.id) ∧ g id = some l ∧ (∃ b0, B id = .live b0) ∧ (∀ p ∈ eff, p.1 = id → p.2 = .live b)) := fun id b l hb hl => by
    rcases cases3 id _ hb with ⟨i, hi, rfl, e⟩ | ⟨hni, ⟨p, hp, rfl, e⟩ | ⟨hne, e⟩⟩
    · cases e
      rw [hi] at hl
      have : upd g i.id (some i.l) i.id = some l := hl
      rw [upd_same] at this
      cases this
      exact .inl ⟨i, hi, rfl, rfl, rfl⟩
    · rw [hg2 _ hni] at hl
      refine .inr ⟨hni, hl, hlive p hp, fun q hq hqe => ?_⟩
      have h1 := heffB q hq
      rw [hqe, heffB p hp, e] at h1
      exact h1.symm
    · rw [hg2 _ hni] at hl
      exact .inr ⟨hni, hl, ⟨b, e⟩, fun p hp he => (hne p hp he).elim⟩
  have hlt : ∀ id b0 l, B id = .live b0 → g id = some l → l.nil = false → l.b < w.heap.size ∧ (A.w0.heap.size ≤ l.b ∨ A.X l.b) := fun id b0 l hb hl hnl => by
    obtain ⟨l', h1, _, h2⟩ := hM.br id b0 hb
    rw [hl] at h1; cases h1
    exact h2 hnl
  -- blocks stay where nobody owned them
  have howB : ∀ k, k < w.heap.size → ¬ owOf g B k → w'.heap[k]? = w.heap[k]? := fun k hk hno => hold k hk fun p hp l hl hnl e => by
    obtain ⟨blk, hb⟩ := hlive p hp
    exact hno ⟨p.1, blk, l, hb, hl, hnl, e⟩
  have hL : Later (cxOf A g B w) (cxOf A (impG g imp) (impB (applyB B eff) imp) w') := by
    refine ⟨fun id l hl => ?_, rfl, fun b hb hno => ⟨?_, howB b hb hno⟩, hsz⟩
    · refine (hg2 id fun i hi e => ?_).trans hl
      have := hM.fresh i.id (himp i hi).1
      rw [e] at hl
      rw [show g i.id = some l from hl] at this; cases this
    · rintro ⟨id, blk, l, h1, h2, h3, h4⟩
      rcases src id blk l h1 h2 with ⟨i, hi, rfl, rfl, rfl⟩ | ⟨_, hl, ⟨b0, hb0⟩, _⟩
      · obtain ⟨_, _, q⟩ := himp i hi
        obtain ⟨_, q | ⟨p, hp, _, l0, q1, q2, q3⟩⟩ := q h3
        · have : b < w.heap.size := hb
          omega
        · obtain ⟨blk0, hb0⟩ := hlive p hp
          exact hno ⟨p.1, blk0, l0, hb0, q1, q2, by omega⟩
      · exact hno ⟨id, b0, l, hb0, hl, h3, h4⟩
  refine ⟨⟨fun id b hb => ?_, fun id org c xs hb => ?_, fun id id' b b' l l' hb hb' hl hl' n1 n2 e => ?_, fun id hb => ?_, fun id l hpin => ?_, ?_⟩, hL⟩
  · -- blocks
    rcases cases3 id _ hb with ⟨i, hi, rfl, e⟩ | ⟨hni, ⟨p, hp, rfl, e⟩ | ⟨hne, e⟩⟩
    · cases e
      obtain ⟨_, h1, h2⟩ := himp i hi
      refine ⟨i.l, ?_, h1 hL, fun hnl => ?_⟩
      · rw [hi]; exact upd_same _ _ _
      · obtain ⟨q0, q | ⟨p, hp, _, l0, q1, q2, q3⟩⟩ := h2 hnl
        · exact ⟨q0, .inl (by have := hM.fr.size; omega)⟩
        · obtain ⟨blk0, hb0⟩ := hlive p hp
          have := (hlt _ _ _ hb0 q1 q2).2
          rw [q3] at this
          exact ⟨q0, this⟩
    · rcases heff p hp with hd | ⟨blk, l, h1, h2, h3⟩
      · rw [hd] at e; cases e
      · rw [h1] at e; cases e
        obtain ⟨blk0, hb0⟩ := hlive p hp
        exact ⟨l, (hg2 _ hni).trans h2, h3 hL, fun hnl => ⟨by have := (hlt _ _ _ hb0 h2 hnl).1; omega, (hlt _ _ _ hb0 h2 hnl).2⟩⟩
    · obtain ⟨l, h1, h2, h3⟩ := hM.br id b e
      refine ⟨l, (hg2 _ hni).trans h1, hL.br (fun hnl => ?_) h2, fun hnl => ⟨by have := (h3 hnl).1; omega, (h3 hnl).2⟩⟩
      refine hold l.b (h3 hnl).1 fun p hp l0 hl0 hn0 eb => ?_
      obtain ⟨blk0, hb0⟩ := hlive p hp
      exact hne p hp (hM.inj p.1 id _ _ _ _ hb0 e hl0 h1 hn0 hnl eb)
  · rcases cases3 id _ hb with ⟨i, hi, rfl, e⟩ | ⟨hni, ⟨p, hp, rfl, e⟩ | ⟨hne, e⟩⟩
    · cases e
    · rcases heff p hp with hd | ⟨blk, l, h1, _⟩
      · rw [hd] at e; cases e
      · rw [h1] at e; cases e
    · exact ro_later hL (hM.ro id org c xs e)
  · rcases src id b l hb hl with ⟨i, hi, rfl, rfl, rfl⟩ | ⟨m1, hl1, ⟨b0, hb0⟩, he1⟩ <;> rcases src id' b' l' hb' hl' with ⟨j, hj, rfl, rfl, rfl⟩ | ⟨m2, hl2, ⟨b1, hb1⟩, he2⟩
    · rw [hi] at hj; cases hj; rfl
    · exfalso
      obtain ⟨_, _, q⟩ := himp i hi
      obtain ⟨_, q | ⟨p, hp, hd, l0, q1, q2, q3⟩⟩ := q n1
      · have := (hlt _ _ _ hb1 hl2 n2).1; omega
      · obtain ⟨blk0, hbp⟩ := hlive p hp
        have := hM.inj p.1 id' _ _ _ _ hbp hb1 q1 hl2 q2 n2 (by omega)
        have := he2 p hp this
        rw [hd] at this; cases this
    · exfalso
      obtain ⟨_, _, q⟩ := himp j hj
      obtain ⟨_, q | ⟨p, hp, hd, l0, q1, q2, q3⟩⟩ := q n2
      · have := (hlt _ _ _ hb0 hl1 n1).1; omega
      · obtain ⟨blk0, hbp⟩ := hlive p hp
        have := hM.inj p.1 id _ _ _ _ hbp hb0 q1 hl1 q2 n1 (by omega)
        have := he1 p hp this
        rw [hd] at this; cases this
    · exact hM.inj id id' _ _ _ _ hb0 hb1 hl1 hl2 n1 n2 e
  · rcases cases3 id _ hb with ⟨i, hi, rfl, e⟩ | ⟨hni, ⟨p, hp, rfl, e⟩ | ⟨hne, e⟩⟩
    · cases e
    · rcases heff p hp with hd | ⟨blk, l, h1, _⟩
      · rw [hd] at e; cases e
      · rw [h1] at e; cases e
    · exact (hg2 _ hni).trans (hM.fresh id e)
  · obtain ⟨p1, p2⟩ := hM.pin id l hpin
    rcases cases3 id _ rfl with ⟨i, hi, rfl, e⟩ | ⟨hni, ⟨p, hp, rfl, e⟩ | ⟨hne, e⟩⟩
    · exact (p1 (himp i hi).1).elim
    · obtain ⟨blk0, hb0⟩ := hlive p hp
      have hgl := p2 (isLive_of hb0)
      refine ⟨?_, fun _ => (hg2 _ hni).trans hgl⟩
      rw [← e]
      rcases heff p hp with hd | ⟨blk, l, h1, _⟩
      · rw [hd]; simp
      · rw [h1]; simp
    · refine ⟨by rw [← e]; exact p1, fun hlv => (hg2 _ hni).trans (p2 ?_)⟩
      unfold isLive at hlv ⊢
      rw [← e] at hlv; exact hlv
  · refine ⟨hos.trans hM.fr.os, htp.trans hM.fr.tape, hout.trans hM.fr.output, by have := hM.fr.size; omega, fun k hk hX => ?_, fun k hk hX => ?_⟩
    · have hks : k < w.heap.size := by have := hM.fr.size; omega
      rw [hold k hks fun p hp l hl hnl e => ?_]
      · exact hM.fr.old k hk hX
      · obtain ⟨blk0, hb0⟩ := hlive p hp
        rcases (hlt _ _ _ hb0 hl hnl).2 with h | h
        · omega
        · rw [e] at h; exact hX h
    · by_cases h : w.heap.size ≤ k ∨ ∃ p ∈ eff, ∃ l, g p.1 = some l ∧ l.nil = false ∧ l.b = k
      · exact hplain k hk h
      · rw [not_or] at h
        rw [hold k (by omega) fun p hp l hl hnl e => h.2 ⟨p, hp, l, hl, hnl, e⟩]
        exact hM.fr.plain k (by omega) hX

end
end Ai
end Go.Proofs.Ytpknhlnoaehffaa
