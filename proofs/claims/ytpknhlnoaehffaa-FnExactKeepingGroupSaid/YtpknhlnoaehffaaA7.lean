/-
  The ideal interpreter against the machine: steps of memory; what is read, written and packed.
-/
import Derived.Test.YtpknhlnoaehffaaA6
namespace Go.Proofs.Ytpknhlnoaehffaa
namespace Ai
set_option linter.unusedSimpArgs false
set_option linter.unusedVariables false
set_option linter.unnecessarySimpa false

section
variable {α : Type}
theorem upd_same (f : Nat → α) (k : Nat) (x : α) : upd f k x k = x := by simp [upd]
theorem upd_ne (f : Nat → α) {k n : Nat} (x : α) (h : n ≠ k) : upd f k x n = f n := by
  have : Nat.beq n k = false := by
    cases hb : Nat.beq n k
    · rfl
    · exact absurd (Nat.eq_of_beq_eq_true hb) h
  simp [upd, this]
theorem upd_cases (f : Nat → α) (k n : Nat) (x : α) : (n = k ∧ upd f k x n = x) ∨ (n ≠ k ∧ upd f k x n = f n) := by
  by_cases h : n = k
  · exact .inl ⟨h, by rw [h, upd_same]⟩
  · exact .inr ⟨h, upd_ne f x h⟩
end

theorem Plain.cells {arr : Array Value} {t : TypeId} : Plain (some (.cells arr t (0, 0))) := ⟨arr, t, rfl⟩

section
variable {A : Base} {g : Nat → Option Loc} {B : Nat → BS} {w w' : World}

/-- A read-only slice stays what it is. -/
theorem ro_later {g' : Nat → Option Loc} {B' : Nat → BS} (hL : Later (cxOf A g B w) (cxOf A g' B' w')) {org : Nat} {c : Cd} {xs : List (El c)} {id : Nat}
    (h : ∃ l, g id = some l ∧ DR w ((cxOf A g B w).ok org) (.list c) xs [l.sl] ∧ l.sz = csize c ∧ l.n = xs.length ∧ l.n ≤ l.cap) :
    ∃ l, g' id = some l ∧ DR w' ((cxOf A g' B' w').ok org) (.list c) xs [l.sl] ∧ l.sz = csize c ∧ l.n = xs.length ∧ l.n ≤ l.cap := by
  obtain ⟨l, h1, h2, h3⟩ := h
  exact ⟨l, hL.g _ _ h1, hL.dr h2, h3⟩

/-- A world whose blocks are the same. -/
theorem Mem.same (hM : Mem A g B w) (hh : w'.heap = w.heap) (hos : w'.os = w.os) (htp : w'.tape = w.tape) (hout : w'.output = w.output) :
    Mem A g B w' ∧ Later (cxOf A g B w) (cxOf A g B w') := by
  have hL : Later (cxOf A g B w) (cxOf A g B w') := ⟨fun _ _ h => h, rfl, fun b _ h => ⟨h, by show w'.heap[b]? = _; rw [hh]; rfl⟩, by show w.heap.size ≤ w'.heap.size; rw [hh]; exact Nat.le_refl _⟩
  refine ⟨⟨fun id b hb => ?_, fun id org c xs h => ro_later hL (hM.ro id org c xs h), hM.inj, hM.fresh, hM.pin, ⟨hos.trans hM.fr.os, htp.trans hM.fr.tape, hout.trans hM.fr.output, by rw [hh]; exact hM.fr.size, by rw [hh]; exact hM.fr.old, by rw [hh]; exact hM.fr.plain⟩⟩, hL⟩
  obtain ⟨l, hl, hbr, hX⟩ := hM.br id b hb
  exact ⟨l, hl, hL.br (fun _ => by show w'.heap[l.b]? = w.heap[l.b]?; rw [hh]) hbr, by rw [hh]; exact hX⟩

/-- A new block. -/
theorem Mem.make (hM : Mem A g B w) {id : Nat} (hf : B id = .fresh) {blk : Blk} {l : Loc} {o : Obj} (hnil : l.nil = false)
    (hh : w'.heap = w.heap.push o) (ho : Plain (some o)) (hos : w'.os = w.os) (htp : w'.tape = w.tape) (hout : w'.output = w.output) (hl : l.b = w.heap.size)
    (hbr : Later (cxOf A g B w) (cxOf A (upd g id (some l)) (upd B id (.live blk)) w') → BR (cxOf A (upd g id (some l)) (upd B id (.live blk)) w') blk l) :
    Mem A (upd g id (some l)) (upd B id (.live blk)) w' ∧ Later (cxOf A g B w) (cxOf A (upd g id (some l)) (upd B id (.live blk)) w') := by
  have hg : g id = none := hM.fresh id hf
  have hsz : w'.heap.size = w.heap.size + 1 := by rw [hh]; simp
  have hold : ∀ k, k < w.heap.size → w'.heap[k]? = w.heap[k]? := fun k hk => by rw [hh, Array.getElem?_push, if_neg (by omega)]
  have hL : Later (cxOf A g B w) (cxOf A (upd g id (some l)) (upd B id (.live blk)) w') := by
    refine ⟨fun id0 l0 h => ?_, rfl, fun b hb h => ⟨?_, hold b hb⟩, by show w.heap.size ≤ w'.heap.size; omega⟩
    · show upd g id (some l) id0 = some l0
      rw [upd_ne]; exact h
      rintro rfl; rw [show g id0 = some l0 from h] at hg; cases hg
    · rintro ⟨id0, b0, l0, h1, h2, hn, h3⟩
      by_cases e : id0 = id
      · subst e
        rw [upd_same] at h2
        cases h2
        have : b < w.heap.size := hb
        omega
      · rw [upd_ne _ _ e] at h1 h2
        exact h ⟨id0, b0, l0, h1, h2, hn, h3⟩
  refine ⟨⟨fun id0 b hb => ?_, fun id0 org c xs h => ?_, ?_, fun id0 h0 => ?_, ?_, ?_⟩, hL⟩
  · by_cases e : id0 = id
    · subst e
      rw [upd_same] at hb
      cases hb
      exact ⟨l, by rw [upd_same], hbr hL, fun _ => ⟨by omega, .inl (by rw [hl]; exact hM.fr.size)⟩⟩
    · rw [upd_ne _ _ e] at hb
      obtain ⟨l0, h1, h2, h3⟩ := hM.br id0 b hb
      exact ⟨l0, by rw [upd_ne _ _ e]; exact h1, hL.br (fun hn => hold l0.b (h3 hn).1) h2, fun hn => ⟨by have := (h3 hn).1; omega, (h3 hn).2⟩⟩
  · rcases upd_cases B id id0 (.live blk) with ⟨rfl, e⟩ | ⟨ne, e⟩
    · rw [e] at h; cases h
    · rw [e] at h; exact ro_later hL (hM.ro id0 org c xs h)
  · have live : ∀ i b, upd B id (.live blk) i = .live b → i = id ∨ (i ≠ id ∧ B i = .live b) := fun i b h => by
      by_cases e : i = id
      · exact .inl e
      · rw [upd_ne _ _ e] at h; exact .inr ⟨e, h⟩
    intro i j b b' l0 l1 hi hj gi gj n0 n1 e
    rcases live i b hi with e1 | ⟨ne1, h1⟩ <;> rcases live j b' hj with e2 | ⟨ne2, h2⟩
    · rw [e1, e2]
    · exfalso
      rw [e1, upd_same] at gi
      rw [upd_ne _ _ ne2] at gj
      cases gi
      obtain ⟨l2, q1, _, q3⟩ := hM.br j b' h2
      rw [q1] at gj; cases gj
      have := (q3 n1).1
      omega
    · exfalso
      rw [e2, upd_same] at gj
      rw [upd_ne _ _ ne1] at gi
      cases gj
      obtain ⟨l2, q1, _, q3⟩ := hM.br i b h1
      rw [q1] at gi; cases gi
      have := (q3 n0).1
      omega
    · rw [upd_ne _ _ ne1] at gi
      rw [upd_ne _ _ ne2] at gj
      exact hM.inj i j b b' l0 l1 h1 h2 gi gj n0 n1 e
  · by_cases e : id0 = id
    · subst e; rw [upd_same] at h0; cases h0
    · rw [upd_ne _ _ e] at h0 ⊢; exact hM.fresh id0 h0
  · intro id0 l0 hp
    obtain ⟨p1, p2⟩ := hM.pin id0 l0 hp
    by_cases e : id0 = id
    · subst e; exact (p1 hf).elim
    · unfold isLive
      rw [upd_ne _ _ e, upd_ne _ _ e]
      exact ⟨p1, p2⟩
  · refine ⟨hos.trans hM.fr.os, htp.trans hM.fr.tape, hout.trans hM.fr.output, by have := hM.fr.size; omega, fun k hk hX => ?_, fun k hk hX => ?_⟩
    · rw [hold k (by have := hM.fr.size; omega)]; exact hM.fr.old k hk hX
    · by_cases e : k < w.heap.size
      · rw [hold k e]; exact hM.fr.plain k e hX
      · have : k = w.heap.size := by omega
        subst this
        rw [hh]; simpa using ho

/-- A name for the nil slice. -/
theorem Mem.makeNil (hM : Mem A g B w) {id : Nat} (hf : B id = .fresh) {org : Nat} {c : Cd} {l : Loc} (h1 : l.nil = true) (h2 : l.n = 0) (h3 : l.cap = 0) (h4 : l.sz = csize c) (h6 : l.ad = none ∨ ∃ b o, l.ad = some ⟨b, o, none⟩) :
    Mem A (upd g id (some l)) (upd B id (.live (.vec org c []))) w ∧ Later (cxOf A g B w) (cxOf A (upd g id (some l)) (upd B id (.live (.vec org c []))) w) := by
  have hg : g id = none := hM.fresh id hf
  have hL : Later (cxOf A g B w) (cxOf A (upd g id (some l)) (upd B id (.live (.vec org c []))) w) := by
    refine ⟨fun id0 l0 h => ?_, rfl, fun b hb h => ⟨?_, rfl⟩, Nat.le_refl _⟩
    · show upd g id (some l) id0 = some l0
      rw [upd_ne]; exact h
      rintro rfl; rw [show g id0 = some l0 from h] at hg; cases hg
    · rintro ⟨id0, b0, l0, q1, q2, hn, q3⟩
      by_cases e : id0 = id
      · subst e
        rw [upd_same] at q2
        cases q2
        rw [h1] at hn; cases hn
      · rw [upd_ne _ _ e] at q1 q2
        exact h ⟨id0, b0, l0, q1, q2, hn, q3⟩
  refine ⟨⟨fun id0 b hb => ?_, fun id0 org c xs h => ?_, ?_, fun id0 h0 => ?_, ?_, hM.fr⟩, hL⟩
  · by_cases e : id0 = id
    · subst e
      rw [upd_same] at hb
      cases hb
      refine ⟨l, by rw [upd_same], .inl ⟨h1, rfl, h2, h3, h4, h6⟩, fun hn => by rw [h1] at hn; cases hn⟩
    · rw [upd_ne _ _ e] at hb
      obtain ⟨l0, q1, q2, q3⟩ := hM.br id0 b hb
      exact ⟨l0, by rw [upd_ne _ _ e]; exact q1, hL.br (fun hn => rfl) q2, q3⟩
  · by_cases ne : id0 = id
    · subst ne; rw [upd_same] at h; cases h
    · rw [upd_ne _ _ ne] at h; exact ro_later hL (hM.ro id0 org c xs h)
  · intro i j b b' l0 l1 hi hj gi gj n0 n1 e
    have ne : ∀ i l0, upd g id (some l) i = some l0 → l0.nil = false → i ≠ id := fun i l0 h hn => by
      rintro rfl
      rw [upd_same] at h; cases h
      rw [h1] at hn; cases hn
    rw [upd_ne _ _ (ne i l0 gi n0)] at hi gi
    rw [upd_ne _ _ (ne j l1 gj n1)] at hj gj
    exact hM.inj i j b b' l0 l1 hi hj gi gj n0 n1 e
  · by_cases e : id0 = id
    · subst e; rw [upd_same] at h0; cases h0
    · rw [upd_ne _ _ e] at h0 ⊢; exact hM.fresh id0 h0
  · intro id0 l0 hp
    obtain ⟨p1, p2⟩ := hM.pin id0 l0 hp
    by_cases e : id0 = id
    · subst e; exact (p1 hf).elim
    · unfold isLive
      rw [upd_ne _ _ e, upd_ne _ _ e]
      exact ⟨p1, p2⟩

/-- An owned thing is given up. -/
theorem Mem.kill (hM : Mem A g B w) {id : Nat} (hid : B id ≠ .fresh) : Mem A g (upd B id .dead) w ∧ Later (cxOf A g B w) (cxOf A g (upd B id .dead) w) := by
  have hL : Later (cxOf A g B w) (cxOf A g (upd B id .dead) w) := by
    refine ⟨fun _ _ h => h, rfl, fun b hb h => ⟨?_, rfl⟩, Nat.le_refl _⟩
    rintro ⟨id0, b0, l0, h1, h2, h3⟩
    rcases upd_cases B id id0 .dead with ⟨rfl, e⟩ | ⟨ne, e⟩
    · rw [e] at h1; cases h1
    · rw [e] at h1; exact h ⟨id0, b0, l0, h1, h2, h3⟩
  refine ⟨⟨fun id0 b hb => ?_, fun id0 org c xs h => ?_, ?_, fun id0 h0 => ?_, ?_, hM.fr⟩, hL⟩
  · rcases upd_cases B id id0 .dead with ⟨rfl, e⟩ | ⟨ne, e⟩
    · rw [e] at hb; cases hb
    · rw [e] at hb
      obtain ⟨l0, h1, h2, h3⟩ := hM.br id0 b hb
      exact ⟨l0, h1, hL.br (fun _ => rfl) h2, h3⟩
  · rcases upd_cases B id id0 .dead with ⟨rfl, e⟩ | ⟨ne, e⟩
    · rw [e] at h; cases h
    · rw [e] at h; exact ro_later hL (hM.ro id0 org c xs h)
  · intro i j b b' l0 l1 hi hj gi gj n0 n1 e
    rcases upd_cases B id i .dead with ⟨rfl, h1⟩ | ⟨ni, h1⟩
    · rw [h1] at hi; cases hi
    · rcases upd_cases B id j .dead with ⟨rfl, h2⟩ | ⟨nj, h2⟩
      · rw [h2] at hj; cases hj
      · rw [h1] at hi; rw [h2] at hj; exact hM.inj i j b b' l0 l1 hi hj gi gj n0 n1 e
  · rcases upd_cases B id id0 .dead with ⟨rfl, e⟩ | ⟨ne, e⟩
    · rw [e] at h0; cases h0
    · rw [e] at h0; exact hM.fresh id0 h0
  · intro id0 l0 hp
    obtain ⟨p1, p2⟩ := hM.pin id0 l0 hp
    unfold isLive at p2 ⊢
    by_cases e : id0 = id
    · subst e; rw [upd_same]; exact ⟨(by simp), fun h => by simp at h⟩
    · rw [upd_ne _ _ e]
      exact ⟨p1, p2⟩

/-- A store into an owned thing. -/
theorem Mem.set (hM : Mem A g B w) {id : Nat} {old blk : Blk} {l : Loc} (hid : B id = .live old) (hg : g id = some l) (hnil : l.nil = false) {arr : Array Value} {t : TypeId}
    (hsz : w'.heap.size = w.heap.size) (hne : ∀ k, k ≠ l.b → w'.heap[k]? = w.heap[k]?) (hnew : w'.heap[l.b]? = some (.cells arr t (0, 0)))
    (hos : w'.os = w.os) (htp : w'.tape = w.tape) (hout : w'.output = w.output)
    (hbr : Later (cxOf A g B w) (cxOf A g (upd B id (.live blk)) w') → BR (cxOf A g (upd B id (.live blk)) w') blk l) :
    Mem A g (upd B id (.live blk)) w' ∧ Later (cxOf A g B w) (cxOf A g (upd B id (.live blk)) w') := by
  obtain ⟨l', hg', hbr0, hlX⟩ := hM.br id old hid
  rw [hg] at hg'; cases hg'
  obtain ⟨hlt, hX⟩ := hlX hnil
  have hL : Later (cxOf A g B w) (cxOf A g (upd B id (.live blk)) w') := by
    refine ⟨fun _ _ h => h, rfl, fun b hb h => ⟨?_, ?_⟩, by show w.heap.size ≤ w'.heap.size; omega⟩
    · rintro ⟨id0, b0, l0, h1, h2, h3⟩
      rcases upd_cases B id id0 (.live blk) with ⟨rfl, e⟩ | ⟨ne, e⟩
      · exact h ⟨id0, old, l0, hid, h2, h3⟩
      · rw [e] at h1; exact h ⟨id0, b0, l0, h1, h2, h3⟩
    · exact hne b (fun e => h ⟨id, old, l, hid, hg, hnil, e.symm⟩)
  refine ⟨⟨fun id0 b hb => ?_, fun id0 org c xs h => ?_, ?_, fun id0 h0 => ?_, ?_, ?_⟩, hL⟩
  · rcases upd_cases B id id0 (.live blk) with ⟨rfl, e⟩ | ⟨ne, e⟩
    · rw [e] at hb; cases hb
      exact ⟨l, hg, hbr hL, fun _ => ⟨by omega, hX⟩⟩
    · rw [e] at hb
      obtain ⟨l0, h1, h2, h3⟩ := hM.br id0 b hb
      exact ⟨l0, h1, hL.br (fun hn => hne _ fun e2 => ne (hM.inj id0 id b old l0 l hb hid h1 hg hn hnil e2)) h2, fun hn => ⟨by have := (h3 hn).1; omega, (h3 hn).2⟩⟩
  · rcases upd_cases B id id0 (.live blk) with ⟨rfl, e⟩ | ⟨ne, e⟩
    · rw [e] at h; cases h
    · rw [e] at h; exact ro_later hL (hM.ro id0 org c xs h)
  · intro i j b b' l0 l1 hi hj gi gj n0 n1 e
    have live : ∀ i b, upd B id (.live blk) i = .live b → ∃ b, B i = .live b := fun i b h => by
      rcases upd_cases B id i (.live blk) with ⟨rfl, h1⟩ | ⟨ni, h1⟩
      · exact ⟨_, hid⟩
      · exact ⟨_, h1 ▸ h⟩
    obtain ⟨_, hi'⟩ := live i b hi
    obtain ⟨_, hj'⟩ := live j b' hj
    exact hM.inj i j _ _ l0 l1 hi' hj' gi gj n0 n1 e
  · rcases upd_cases B id id0 (.live blk) with ⟨rfl, e⟩ | ⟨ne, e⟩
    · rw [e] at h0; cases h0
    · rw [e] at h0; exact hM.fresh id0 h0
  · intro id0 l0 hp
    obtain ⟨p1, p2⟩ := hM.pin id0 l0 hp
    unfold isLive at p2 ⊢
    by_cases e : id0 = id
    · subst e; rw [upd_same]; exact ⟨(by simp), fun _ => p2 (by rw [hid])⟩
    · rw [upd_ne _ _ e]
      exact ⟨p1, p2⟩
  · refine ⟨hos.trans hM.fr.os, htp.trans hM.fr.tape, hout.trans hM.fr.output, by have := hM.fr.size; omega, fun k hk hX' => ?_, fun k hk hX' => ?_⟩
    · rw [hne k (by rintro rfl; rcases hX with h | h
                    · omega
                    · exact hX' h)]
      exact hM.fr.old k hk hX'
    · by_cases e : k = l.b
      · subst e; rw [hnew]; exact .cells
      · rw [hne k e]; exact hM.fr.plain k (by omega) hX'

/-- An append in place: one name gives its block to another. -/
theorem Mem.move (hM : Mem A g B w) {si id : Nat} {old blk : Blk} {l l' : Loc} (hsi : B si = .live old) (hg : g si = some l) (hnil : l.nil = false) (hf : B id = .fresh) (hl : l'.b = l.b) (hnil' : l'.nil = false) {arr : Array Value} {t : TypeId}
    (hsz : w'.heap.size = w.heap.size) (hne : ∀ k, k ≠ l.b → w'.heap[k]? = w.heap[k]?) (hnew : w'.heap[l.b]? = some (.cells arr t (0, 0)))
    (hos : w'.os = w.os) (htp : w'.tape = w.tape) (hout : w'.output = w.output)
    (hbr : Later (cxOf A g B w) (cxOf A (upd g id (some l')) (upd (upd B si .dead) id (.live blk)) w') → BR (cxOf A (upd g id (some l')) (upd (upd B si .dead) id (.live blk)) w') blk l') :
    Mem A (upd g id (some l')) (upd (upd B si .dead) id (.live blk)) w' ∧ Later (cxOf A g B w) (cxOf A (upd g id (some l')) (upd (upd B si .dead) id (.live blk)) w') := by
  obtain ⟨l0, hg', hbr0, hlX⟩ := hM.br si old hsi
  rw [hg] at hg'; cases hg'
  obtain ⟨hlt, hX⟩ := hlX hnil
  have hgn : g id = none := hM.fresh id hf
  have hid : id ≠ si := by rintro rfl; rw [hf] at hsi; cases hsi
  -- what is live afterwards
  have live : ∀ i b, upd (upd B si .dead) id (.live blk) i = .live b → (i = id ∧ b = blk) ∨ (i ≠ id ∧ i ≠ si ∧ B i = .live b) := fun i b h => by
    rcases upd_cases (upd B si .dead) id i (.live blk) with ⟨rfl, h1⟩ | ⟨ni, h1⟩
    · rw [h1] at h; cases h; exact .inl ⟨rfl, rfl⟩
    · rw [h1] at h
      rcases upd_cases B si i .dead with ⟨rfl, h2⟩ | ⟨nj, h2⟩
      · rw [h2] at h; cases h
      · rw [h2] at h; exact .inr ⟨ni, nj, h⟩
  have hL : Later (cxOf A g B w) (cxOf A (upd g id (some l')) (upd (upd B si .dead) id (.live blk)) w') := by
    refine ⟨fun id0 l0 h => ?_, rfl, fun b hb h => ⟨?_, ?_⟩, by show w.heap.size ≤ w'.heap.size; omega⟩
    · show upd g id (some l') id0 = some l0
      rw [upd_ne]; exact h
      rintro rfl; rw [show g id0 = some l0 from h] at hgn; cases hgn
    · rintro ⟨id0, b0, l0, h1, h2, hn, h3⟩
      rcases live id0 b0 h1 with ⟨rfl, rfl⟩ | ⟨n1, n2, h4⟩
      · rw [upd_same] at h2; cases h2
        exact h ⟨si, old, l, hsi, hg, hnil, by omega⟩
      · rw [upd_ne _ _ n1] at h2; exact h ⟨id0, b0, l0, h4, h2, hn, h3⟩
    · exact hne b (fun e => h ⟨si, old, l, hsi, hg, hnil, e.symm⟩)
  refine ⟨⟨fun id0 b hb => ?_, fun id0 org c xs h => ?_, ?_, fun id0 h0 => ?_, ?_, ?_⟩, hL⟩
  · rcases live id0 b hb with ⟨rfl, rfl⟩ | ⟨n1, n2, h4⟩
    · exact ⟨l', by rw [upd_same], hbr hL, fun _ => ⟨by omega, by rw [hl]; exact hX⟩⟩
    · obtain ⟨l0, h1, h2, h3⟩ := hM.br id0 b h4
      exact ⟨l0, by rw [upd_ne _ _ n1]; exact h1, hL.br (fun hn => hne _ fun e2 => n2 (hM.inj id0 si b old l0 l h4 hsi h1 hg hn hnil e2)) h2, fun hn => ⟨by have := (h3 hn).1; omega, (h3 hn).2⟩⟩
  · rcases upd_cases (upd B si .dead) id id0 (.live blk) with ⟨rfl, h1⟩ | ⟨ni, h1⟩
    · rw [h1] at h; cases h
    · rw [h1] at h
      rcases upd_cases B si id0 .dead with ⟨rfl, h2⟩ | ⟨nj, h2⟩
      · rw [h2] at h; cases h
      · rw [h2] at h; exact ro_later hL (hM.ro id0 org c xs h)
  · intro i j b b' l0 l1 hi hj gi gj k0 k1 e
    rcases live i b hi with ⟨rfl, rfl⟩ | ⟨n1, n2, h4⟩ <;> rcases live j b' hj with ⟨rfl, rfl⟩ | ⟨m1, m2, h5⟩
    · rfl
    · exfalso
      rw [upd_same] at gi; cases gi
      rw [upd_ne _ _ m1] at gj
      exact m2 (hM.inj j si b' old l1 l h5 hsi gj hg k1 hnil (by omega))
    · exfalso
      rw [upd_same] at gj; cases gj
      rw [upd_ne _ _ n1] at gi
      exact n2 (hM.inj i si b old l0 l h4 hsi gi hg k0 hnil (by omega))
    · rw [upd_ne _ _ n1] at gi
      rw [upd_ne _ _ m1] at gj
      exact hM.inj i j b b' l0 l1 h4 h5 gi gj k0 k1 e
  · rcases upd_cases (upd B si .dead) id id0 (.live blk) with ⟨rfl, h1⟩ | ⟨ni, h1⟩
    · rw [h1] at h0; cases h0
    · rw [h1] at h0
      rw [upd_ne _ _ ni]
      rcases upd_cases B si id0 .dead with ⟨rfl, h2⟩ | ⟨nj, h2⟩
      · rw [h2] at h0; cases h0
      · rw [h2] at h0; exact hM.fresh id0 h0
  · intro id0 l0 hp
    obtain ⟨p1, p2⟩ := hM.pin id0 l0 hp
    unfold isLive at p2 ⊢
    by_cases e : id0 = id
    · subst e; exact (p1 hf).elim
    · rw [upd_ne _ _ e, upd_ne _ _ e]
      by_cases e2 : id0 = si
      · subst e2; rw [upd_same]; exact ⟨(by simp), fun h => by simp at h⟩
      · rw [upd_ne _ _ e2]; exact ⟨p1, p2⟩
  · refine ⟨hos.trans hM.fr.os, htp.trans hM.fr.tape, hout.trans hM.fr.output, by have := hM.fr.size; omega, fun k hk hX' => ?_, fun k hk hX' => ?_⟩
    · rw [hne k (by rintro rfl; rcases hX with h | h
                    · omega
                    · exact hX' h)]
      exact hM.fr.old k hk hX'
    · by_cases e : k = l.b
      · subst e; rw [hnew]; exact .cells
      · rw [hne k e]; exact hM.fr.plain k (by omega) hX'

/-- An owned slice read as a datum: its own block is in no one's hands but this name's. -/
theorem vec_dr0 (hM : Mem A g B w) {id org : Nat} {c : Cd} {xs : List (El c)} (hid : B id = .live (.vec org c xs)) {l : Loc} (hg : g id = some l) {ok : Nat → Prop}
    (hok : ∀ b, (cxOf A g B w).ok org b → ok b) (hb : l.nil = false → ok l.b) : DR w ok (.list c) xs [l.sl] := by
  obtain ⟨l', hg', hbr, hX⟩ := hM.br id _ hid
  rw [hg] at hg'; cases hg'
  rcases hbr with ⟨h1, h2, h3, h4, h5, h6 | ⟨b, o, h6⟩⟩ | ⟨hl, hS, hn, hc, hz, arr, t, ha, hs, he⟩
  · exact .inl ⟨by simp [Loc.sl, h1, h6], h2⟩
  · subst h2
    exact .inr ⟨b, o, 0, by simp [Loc.sl, h1, h6], by simp, fun h => by omega, fun j hj => by simp at hj, fun i x hx => by simp at hx⟩
  have cell : ∀ j, w.cell? ⟨l.b, j, none⟩ = arr[j]? := fun j => by
    have : w.heap[l.b]? = some (.cells arr t (0, 0)) := ha
    simp [World.cell?, this]
  refine .inr ⟨l.b, l.o, l.cap, by simp [Loc.sl, hl, hn], by omega, fun _ => ⟨hb hl, (hX hl).1⟩, fun j hj => ?_, fun i x hx => ?_⟩
  · rw [cell]
    rw [← hz] at hj
    have : l.o + j < arr.size := by omega
    simp [this]
  · obtain ⟨cs, hd, hv⟩ := he i x hx
    refine ⟨cs, hd.mono (Nat.le_refl _) fun b hb ho => ⟨hok b ho, rfl⟩, fun j v hj => ?_⟩
    rw [cell, ← hz]; exact hv j v hj

/-- A slice that is not written any more. -/
theorem Mem.freeze (hM : Mem A g B w) {id org : Nat} {c : Cd} {xs : List (El c)} (hid : B id = .live (.vec org c xs)) :
    Mem A g (upd B id (.ro org c xs)) w ∧ Later (cxOf A g B w) (cxOf A g (upd B id (.ro org c xs)) w) := by
  have live : ∀ i b, upd B id (.ro org c xs) i = .live b → i ≠ id ∧ B i = .live b := fun i b h => by
    rcases upd_cases B id i (.ro org c xs) with ⟨rfl, h1⟩ | ⟨ni, h1⟩
    · rw [h1] at h; cases h
    · exact ⟨ni, h1 ▸ h⟩
  have hL : Later (cxOf A g B w) (cxOf A g (upd B id (.ro org c xs)) w) := by
    refine ⟨fun _ _ h => h, rfl, fun b hb h => ⟨?_, rfl⟩, Nat.le_refl _⟩
    rintro ⟨id0, b0, l0, h1, h2, h3⟩
    exact h ⟨id0, b0, l0, (live id0 b0 h1).2, h2, h3⟩
  refine ⟨⟨fun id0 b hb => ?_, fun id0 org' c' xs' h => ?_, ?_, fun id0 h0 => ?_, ?_, hM.fr⟩, hL⟩
  · obtain ⟨l0, h1, h2, h3⟩ := hM.br id0 b (live id0 b hb).2
    exact ⟨l0, h1, hL.br (fun _ => rfl) h2, h3⟩
  · rcases upd_cases B id id0 (.ro org c xs) with ⟨rfl, e⟩ | ⟨ne, e⟩
    · rw [e] at h
      cases h
      obtain ⟨l, hg, hbr, hX⟩ := hM.br id0 _ hid
      refine ⟨l, hg, vec_dr0 hM hid hg (fun b hb => ⟨hb.1, ?_⟩) (fun hn => ?_), ?_, ?_, ?_⟩
      · rintro ⟨i, b0, l0, h1, h2, h3⟩
        exact hb.2 ⟨i, b0, l0, (live i b0 h1).2, h2, h3⟩
      · refine ⟨?_, ?_⟩
        · rcases hbr with ⟨h1, _⟩ | ⟨_, hS, _⟩
          · rw [hn] at h1; cases h1
          · exact hS
        · rintro ⟨i, b0, l0, h1, h2, h3, h4⟩
          obtain ⟨q1, q2⟩ := live i b0 h1
          exact q1 (hM.inj i id0 b0 _ l0 l q2 hid h2 hg h3 hn h4)
      · rcases hbr with ⟨_, _, _, _, h, _⟩ | ⟨_, _, _, _, h, _⟩ <;> exact h
      · rcases hbr with ⟨_, h1, h2, _, h⟩ | ⟨_, _, h, _⟩
        · rw [h1, h2]; rfl
        · exact h
      · rcases hbr with ⟨_, h1, h2, h3, h⟩ | ⟨_, _, _, h, _⟩
        · omega
        · exact h
    · rw [e] at h; exact ro_later hL (hM.ro id0 org' c' xs' h)
  · intro i j b b' l0 l1 hi hj gi gj n0 n1 e
    exact hM.inj i j b b' l0 l1 (live i b hi).2 (live j b' hj).2 gi gj n0 n1 e
  · rcases upd_cases B id id0 (.ro org c xs) with ⟨rfl, e⟩ | ⟨ne, e⟩
    · rw [e] at h0; cases h0
    · rw [e] at h0; exact hM.fresh id0 h0
  · intro id0 l0 hp
    obtain ⟨p1, p2⟩ := hM.pin id0 l0 hp
    unfold isLive at p2 ⊢
    by_cases e : id0 = id
    · subst e; rw [upd_same]; exact ⟨(by simp), fun h => by simp at h⟩
    · rw [upd_ne _ _ e]
      exact ⟨p1, p2⟩
end

/-! ### Cells and data -/

theorem scells_sr {C : Cx} {org : Nat} : ∀ {c : Cd} {x : El c} {cs : List Value}, DR C.w (C.ok org) c x cs → All2 (SR C) (scells org c x) cs
  | .i _, _, _, h => by simp only [DR] at h; subst h; exact ⟨rfl, trivial⟩
  | .bool, _, _, h => by simp only [DR] at h; subst h; exact ⟨rfl, trivial⟩
  | .str, _, _, h => by simp only [DR] at h; subst h; exact ⟨rfl, trivial⟩
  | .unit, _, _, h => by simp only [DR] at h; subst h; trivial
  | .pair a b, _, _, h => by
    obtain ⟨c1, c2, rfl, h1, h2⟩ := h
    exact (scells_sr h1).append (scells_sr h2)
  | .list c, xs, _, h => by
    have hh := h
    rcases h with ⟨rfl, _⟩ | ⟨b, o, cap, rfl, _⟩
    · exact ⟨hh, trivial⟩
    · exact ⟨hh, trivial⟩

theorem scells_length (org : Nat) : ∀ (c : Cd) (x : El c), (scells org c x).length = csize c
  | .i _, _ => rfl
  | .bool, _ => rfl
  | .str, _ => rfl
  | .unit, _ => rfl
  | .list _, _ => rfl
  | .pair a b, x => by simp [scells, csize, scells_length org a, scells_length org b]

/-- What a part of memory that is looked at says holds of memory. -/
structure Sub (B' B : Nat → BS) : Prop where
  live : ∀ id b, B' id = .live b → B id = .live b
  fresh : ∀ id, B' id = .fresh → B id = .fresh
  ro : ∀ id org c xs, B' id = .ro org c xs → B id = .ro org c xs

theorem Sub.refl (B : Nat → BS) : Sub B B := ⟨fun _ _ h => h, fun _ h => h, fun _ _ _ _ h => h⟩

theorem restr_sub (xs : List Nat) (B : Nat → BS) : Sub (restr xs B) B := by
  refine ⟨?_, ?_, ?_⟩
  · intro id b h
    unfold restr at h
    cases hc : xs.contains (id / 8) <;> rw [hc] at h
    · exact h
    · cases h
  · intro id h
    unfold restr at h
    cases hc : xs.contains (id / 8) <;> rw [hc] at h
    · exact h
    · cases h
  · intro id _ _ _ h
    unfold restr at h
    cases hc : xs.contains (id / 8) <;> rw [hc] at h
    · exact h
    · cases h

theorem sub_dead {B : Nat → BS} : Sub (fun _ => BS.dead) B := ⟨fun _ _ h => (by cases h), fun _ h => (by cases h), fun _ _ _ _ h => (by cases h)⟩

theorem viewB_sub (c : Nat) (xs : List Nat) (B : Nat → BS) : Sub (viewB c xs B) B := by
  unfold viewB
  split
  · exact sub_dead
  · exact restr_sub _ _

/-- Blocks that a mark lets lie in, and that nobody owns but by one of these names. -/
def okI (A : Base) (g : Nat → Option Loc) (B : Nat → BS) (I : List Nat) (org : Nat) : Nat → Prop :=
  fun b => A.S org b ∧ ∀ id blk l, B id = .live blk → g id = some l → l.nil = false → l.b = b → id ∈ I

theorem okI_nil {A : Base} {g : Nat → Option Loc} {B : Nat → BS} {w : World} {org : Nat} {b : Nat} (h : okI A g B [] org b) : (cxOf A g B w).ok org b :=
  ⟨h.1, fun ⟨id, blk, l, h1, h2, h3, h4⟩ => by simpa using h.2 id blk l h1 h2 h3 h4⟩

theorem okI_of {A : Base} {g : Nat → Option Loc} {B : Nat → BS} {w : World} {I : List Nat} {org : Nat} {b : Nat} (h : (cxOf A g B w).ok org b) : okI A g B I org b :=
  ⟨h.1, fun id blk l h1 h2 h3 h4 => (h.2 ⟨id, blk, l, h1, h2, h3, h4⟩).elim⟩

theorem orgLe_trans {a b c : Nat} (h : orgLe a b = true) (h' : orgLe b c = true) : orgLe a c = true := by
  simp only [orgLe, beq_iff_eq] at *
  rw [← h', ← Nat.or_assoc, h]

theorem orgLe_or_left (a b : Nat) : orgLe a (a ||| b) = true := by
  simp only [orgLe, beq_iff_eq]
  rw [← Nat.or_assoc, Nat.or_self]

theorem orgLe_or_right (a b : Nat) : orgLe b (a ||| b) = true := by
  simp only [orgLe, beq_iff_eq]
  rw [Nat.or_comm, Nat.or_assoc, Nat.or_self]

theorem orgLe_refl (a : Nat) : orgLe a a = true := by simp [orgLe]

theorem castL_dr {w : World} {ok : Nat → Prop} {c c' : Cd} (h : c' = c) {xs : List (El c')} {cs : List Value} (hd : DR w ok (.list c') xs cs) : DR w ok (.list c) (castL h xs) cs := by
  subst h; exact hd

section
variable {A : Base} {g : Nat → Option Loc} {B Bx : Nat → BS} {w : World}

theorem getElem?_cut {α : Type} (lo hi : Nat) (xs : List α) (i : Nat) : (cut lo hi xs)[i]? = if lo + i < hi then xs[lo + i]? else none := by
  simp [cut, List.getElem?_take]

theorem length_cut {α : Type} {lo hi : Nat} {xs : List α} (h : hi ≤ xs.length) : (cut lo hi xs).length = hi - lo := by
  simp [cut]; omega

theorem isLive_of {id : Nat} {b : Blk} (h : B id = .live b) : isLive B id = true := by simp [isLive, h]

/-- A named slice read as a datum. -/
theorem vecOf_dr (hM : Mem A g B w) (hB : Sub Bx B) {id : Nat} {v : Vc} (hv : vecOf Bx id = some v) {l : Loc} (hg : g id = some l) {I : List Nat} (hI : isLive B id = true → id ∈ I) {org' : Nat} (ho : orgLe v.org org' = true) :
    DR w (okI A g B I org') (.list v.c) v.xs [l.sl] ∧ l.sz = csize v.c ∧ l.n = v.xs.length ∧ l.n ≤ l.cap := by
  unfold vecOf at hv
  split at hv
  · rename_i org c xs hb
    cases hv
    have hb := hB.live _ _ hb
    obtain ⟨l', hg', hbr, hX⟩ := hM.br id _ hb
    rw [hg] at hg'; cases hg'
    refine ⟨vec_dr0 hM hb hg (fun b h => okI_of ⟨A.mono _ _ _ ho h.1, h.2⟩) (fun hn => ?_), ?_⟩
    · rcases hbr with ⟨h1, _⟩ | ⟨_, hS, _⟩
      · rw [hn] at h1; cases h1
      · refine ⟨A.mono _ _ _ ho hS, fun i b l1 h1 h2 h3 h4 => ?_⟩
        have := hM.inj i id b _ l1 l h1 hb h2 hg h3 hn h4
        rw [this]; exact hI (isLive_of hb)
    · rcases hbr with ⟨_, h1, h2, h3, h, _⟩ | ⟨_, _, h1, h2, h3, _⟩
      · exact ⟨h, by rw [h1, h2]; rfl, by omega⟩
      · exact ⟨h3, h1, h2⟩
  · rename_i org c xs hb
    cases hv
    obtain ⟨l', hg', hd, h1, h2, h3⟩ := hM.ro id _ _ _ (hB.ro _ _ _ _ hb)
    rw [hg] at hg'; cases hg'
    exact ⟨hd.mono (Nat.le_refl _) fun b hb hok => ⟨okI_of ⟨A.mono _ _ _ ho hok.1, hok.2⟩, rfl⟩, h1, h2, h3⟩
  · cases hv

theorem cut_dr {ok : Nat → Prop} {c : Cd} {xs : List (El c)} {b o n cap lo hi : Nat} (hd : DR w ok (.list c) xs [.slice (some ⟨b, o, none⟩) n cap]) (h1 : lo ≤ hi) (h2 : hi ≤ n) (h3 : n ≤ cap) :
    DR w ok (.list c) (cut lo hi xs) [.slice (some (if cap = lo then ⟨b, o, none⟩ else ⟨b, o + lo * csize c, none⟩)) (hi - lo) (cap - lo)] := by
  rcases hd with ⟨h, _⟩ | ⟨b', o', cap', h, hc, hokb, hcap, hel⟩
  · simp at h
  · simp only [List.cons.injEq, Value.slice.injEq, Option.some.injEq, Addr.mk.injEq, and_true, true_and] at h
    obtain ⟨⟨rfl, rfl⟩, rfl, rfl⟩ := h
    have hlen : (cut lo hi xs).length = hi - lo := length_cut h2
    by_cases e : cap = lo
    · refine .inr ⟨b, o, cap - lo, by rw [if_pos e, hlen], by rw [hlen]; omega, fun h => by omega, fun j hj => ?_, fun i x hx => ?_⟩
      · rw [show cap - lo = 0 by omega] at hj; simp at hj
      · rw [getElem?_cut] at hx
        split at hx
        · omega
        · cases hx
    · refine .inr ⟨b, o + lo * csize c, cap - lo, by rw [if_neg e, hlen], by rw [hlen]; omega, fun h => hokb (by omega), fun j hj => ?_, fun i x hx => ?_⟩
      · have := hcap (lo * csize c + j) (by
          have : cap * csize c = lo * csize c + (cap - lo) * csize c := by rw [← Nat.add_mul]; congr 1; omega
          omega)
        rwa [← Nat.add_assoc] at this
      · rw [getElem?_cut] at hx
        split at hx
        · obtain ⟨cs, hd, hv⟩ := hel (lo + i) x hx
          refine ⟨cs, hd, fun j v hj => ?_⟩
          have := hv j v hj
          rw [Nat.add_mul] at this
          rw [show o + lo * csize c + i * csize c + j = o + (lo * csize c + i * csize c) + j by omega]
          exact this
        · cases hx

theorem sub_dr {ok : Nat → Prop} {c : Cd} {xs : List (El c)} {l : Loc} {lo hi : Nat} (hd : DR w ok (.list c) xs [l.sl]) (hz : l.sz = csize c) (h1 : lo ≤ hi) (h2 : hi ≤ l.n) (h3 : l.n ≤ l.cap) :
    DR w ok (.list c) (cut lo hi xs) [l.sub lo hi] := by
  unfold Loc.sl at hd
  unfold Loc.sub
  cases hn : l.nil
  · rw [hn] at hd
    rw [hz]
    exact cut_dr hd h1 h2 h3
  · rw [hn] at hd
    simp only [cond_true] at hd ⊢
    rcases hd with ⟨e, h⟩ | ⟨b, o, cap, h, h4, h5⟩
    · subst h
      exact .inl ⟨e, by simp [cut]⟩
    · simp only [List.cons.injEq, Value.slice.injEq, and_true] at h
      obtain ⟨e, e1, e2⟩ := h
      have hx : xs = [] := List.eq_nil_of_length_eq_zero e1.symm
      subst hx
      refine .inr ⟨b, o, cap, ?_, by simpa [cut] using h4, h5.1, h5.2.1, fun i x hx => by simp [cut] at hx⟩
      rw [e, ← e2]; simp [cut]

theorem listOf_dr (hM : Mem A g B w) (hB : Sub Bx B) {c : Cd} {s : Sc} {v : Value} (hs : SR (cxOf A g B w) s v) {xs : List (El c)} (h : listOf Bx c s = some xs) {I : List Nat} (hI : ∀ id ∈ idsL [s], isLive B id = true → id ∈ I)
    {org : Nat} (ho : orgLe (orgS Bx s) org = true) : DR w (okI A g B I org) (.list c) xs [v] := by
  cases s <;> simp only [listOf] at h
  case ps org' c' ys =>
    split at h
    · rename_i hc
      cases h
      refine castL_dr hc ?_
      have : DR w ((cxOf A g B w).ok org') (.list c') ys [v] := hs
      exact this.mono (Nat.le_refl _) fun b hb hok => ⟨okI_of ⟨A.mono _ _ _ ho hok.1, hok.2⟩, rfl⟩
    · cases h
  case nils => cases h; exact .inl ⟨by rw [show v = _ from hs], rfl⟩
  case own id =>
    split at h
    · rename_i q hq
      split at h
      · rename_i hc
        cases h
        obtain ⟨l, hl, rfl⟩ := hs
        exact castL_dr hc (vecOf_dr hM hB hq hl (hI id (by simp [idsL])) (by simpa [orgS, hq] using ho)).1
      · cases h
    · cases h
  case sub id lo hi =>
    split at h
    · rename_i q hq
      split at h
      · rename_i hc
        cases h
        obtain ⟨l, hl, h1, h2, h3, _, rfl⟩ := hs
        obtain ⟨d1, d2, _⟩ := vecOf_dr hM hB hq hl (hI id (by simp [idsL])) (org' := org) (by simpa [orgS, hq] using ho)
        exact sub_dr (castL_dr hc d1) (by rw [d2, hc]) h1 h2 h3
      · cases h
    · cases h
  all_goals cases h

theorem idsL_mem_take (n : Nat) : ∀ (ss : List Sc) (id : Nat), id ∈ idsL (ss.take n) → id ∈ idsL ss := by
  induction n with
  | zero => intro ss id h; simp [idsL] at h
  | succ n ih =>
    intro ss id h
    cases ss with
    | nil => simp [idsL] at h
    | cons s r =>
      rw [List.take_succ_cons] at h
      cases s <;> simp only [idsL, List.mem_cons] at h ⊢ <;> first | exact ih _ _ h | exact h.imp (fun h => h) (ih _ _)

theorem idsL_mem_drop (n : Nat) : ∀ (ss : List Sc) (id : Nat), id ∈ idsL (ss.drop n) → id ∈ idsL ss := by
  induction n with
  | zero => intro ss id h; simpa using h
  | succ n ih =>
    intro ss id h
    cases ss with
    | nil => simp [idsL] at h
    | cons s r =>
      rw [List.drop_succ_cons] at h
      have := ih _ _ h
      cases s <;> simp only [idsL, List.mem_cons] <;> first | exact this | exact .inr this

theorem orgL_take (Bx : Nat → BS) (n : Nat) : ∀ (ss : List Sc), orgLe (orgL Bx (ss.take n)) (orgL Bx ss) = true := by
  induction n with
  | zero => intro ss; simp [orgL, orgLe]
  | succ n ih =>
    intro ss
    cases ss with
    | nil => simp [orgL, orgLe]
    | cons s r =>
      rw [List.take_succ_cons]
      simp only [orgL, orgLe, beq_iff_eq]
      have := ih r
      simp only [orgLe, beq_iff_eq] at this
      rw [Nat.or_assoc, Nat.or_comm (orgS Bx s) (orgL Bx r), ← Nat.or_assoc (orgL Bx (r.take n)), this, Nat.or_comm (orgL Bx r), ← Nat.or_assoc, Nat.or_self]

theorem orgL_drop (Bx : Nat → BS) (n : Nat) : ∀ (ss : List Sc), orgLe (orgL Bx (ss.drop n)) (orgL Bx ss) = true := by
  induction n with
  | zero => intro ss; simpa using orgLe_refl _
  | succ n ih =>
    intro ss
    cases ss with
    | nil => simp [orgL, orgLe]
    | cons s r =>
      rw [List.drop_succ_cons]
      exact orgLe_trans (ih r) (orgLe_or_right _ _)

/-- Cells read as a datum. -/
theorem decC_dr (hM : Mem A g B w) (hB : Sub Bx B) {I : List Nat} {org : Nat} : ∀ {c : Cd} {ss : List Sc} {cs : List Value} {x : El c}, All2 (SR (cxOf A g B w)) ss cs → decC Bx c ss = some x →
    (∀ id ∈ idsL ss, isLive B id = true → id ∈ I) → orgLe (orgL Bx ss) org = true → DR w (okI A g B I org) c x cs
  | .i k, ss, cs, x, ha, h, hI, ho => by
    simp only [decC] at h
    split at h
    · split at h
      · cases h
        rename_i k' n hk
        subst hk
        match cs, ha with
        | [v], ha => rw [show v = _ from ha.1]; rfl
      · cases h
    · cases h
  | .bool, ss, cs, x, ha, h, hI, ho => by
    simp only [decC] at h
    split at h
    · cases h
      match cs, ha with
      | [v], ha => rw [show v = _ from ha.1]; rfl
    · cases h
  | .str, ss, cs, x, ha, h, hI, ho => by
    simp only [decC] at h
    split at h
    · cases h
      match cs, ha with
      | [v], ha => rw [show v = _ from ha.1]; rfl
    · cases h
  | .unit, ss, cs, x, ha, h, hI, ho => by
    simp only [decC] at h
    split at h
    · match cs, ha with
      | [], ha => rfl
    · cases h
  | .list c, ss, cs, x, ha, h, hI, ho => by
    simp only [decC] at h
    split at h
    · rename_i s
      match cs, ha with
      | [v], ha =>
        refine listOf_dr hM hB ha.1 h hI ?_
        simpa [orgL] using ho
    · cases h
  | .pair a b, ss, cs, x, ha, h, hI, ho => by
    simp only [decC] at h
    split at h
    · rename_i y z hy hz
      cases h
      refine ⟨cs.take (csize a), cs.drop (csize a), (List.take_append_drop _ _).symm, ?_, ?_⟩
      · exact decC_dr hM hB (ha.take _) hy (fun id h => hI id (idsL_mem_take _ _ _ h)) (orgLe_trans (orgL_take _ _ _) ho)
      · exact decC_dr hM hB (ha.drop _) hz (fun id h => hI id (idsL_mem_drop _ _ _ h)) (orgLe_trans (orgL_drop _ _ _) ho)
    · cases h

end
end Ai
end Go.Proofs.Ytpknhlnoaehffaa
