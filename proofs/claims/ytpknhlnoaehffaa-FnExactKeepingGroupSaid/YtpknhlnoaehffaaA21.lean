/-
  The ideal interpreter against the machine: what is handed to a call.
-/
import Derived.Test.YtpknhlnoaehffaaA20
namespace Go.Proofs.Ytpknhlnoaehffaa
namespace Ai
set_option linter.unusedSimpArgs false
set_option linter.unusedVariables false

def isLent : ASh → Bool
  | .own _ => true
  | .ref _ => true
  | .rag _ _ => true
  | .rbox _ => true
  | _ => false

def gT (g : Nat → Option Loc) (s : ASh) (t : T) : Option Loc := match lentT s t with
  | id :: _ => g id
  | [] => none

/-- The lent places, by the callee's names. -/
def gA (g : Nat → Option Loc) : Nat → List ASh → List T → Nat → Option Loc
  | p, s :: r, t :: ts => cond (isLent s) (upd (gA g (p + 1) r ts) (8 * p + 5) (gT g s t)) (gA g (p + 1) r ts)
  | _, _, _ => fun _ => none

def lentX (g : Nat → Option Loc) (as : List ASh) (ts : List T) : Nat → Prop := fun b => ∃ id ∈ lentA as ts, ∃ l, g id = some l ∧ l.nil = false ∧ l.b = b

theorem testBit_le {m m' p : Nat} (h : orgLe m m' = true) (hp : m.testBit p = true) : m'.testBit p = true := by
  simp only [orgLe, beq_iff_eq] at h
  rw [← h, Nat.testBit_or, hp, Bool.true_or]

/-- What a call begins with. -/
def baseA (A : Base) (g : Nat → Option Loc) (B Bx : Nat → BS) (w : World) (as : List ASh) (ts : List T) : Base where
  w0 := w
  S := fun m b => w.heap.size ≤ b ∨ lentX g as ts b ∨ ∃ p s t, as[p]? = some s ∧ ts[p]? = some t ∧ m.testBit p = true ∧ okI A g B (seenT Bx s t) (orgT Bx s t) b
  X := lentX g as ts
  mono := fun m m' b h hs => hs.imp (fun h => h) fun hs => hs.imp (fun h => h) fun ⟨p, s, t, h1, h2, h3, h4⟩ => ⟨p, s, t, h1, h2, testBit_le h h3, h4⟩
  new := fun _ _ h => .inl h
  own := fun _ _ h => .inr (.inl h)
  pin := fun id => if id % 8 = 5 then gA g 0 as ts id else none
  pinned := fun id l h => by
    by_cases h5 : id % 8 = 5
    · exact h5
    · rw [if_neg h5] at h; cases h

section
variable {A : Base} {g : Nat → Option Loc} {B Bx : Nat → BS} {w : World} {as : List ASh} {ts : List T}

def cxF (A : Base) (g : Nat → Option Loc) (B Bx : Nat → BS) (w : World) (as : List ASh) (ts : List T) : Cx := ⟨gA g 0 as ts, (baseA A g B Bx w as ts).S, lentX g as ts, w⟩

theorem nameT_inv {t : T} {id : Nat} (h : nameT t = some id) : t = .v (.one (.own id)) := by
  unfold nameT at h
  split at h
  · cases h; rfl
  · cases h

theorem ptrT_inv {t : T} {id : Nat} (h : ptrT t = some id) : t = .v (.one (.ptr id 0)) := by
  unfold ptrT at h
  split at h
  · cases h; rfl
  · cases h

theorem packA_cons {s : ASh} {r : List ASh} {t : T} {ts : List T} {x : Tup (acodes (s :: r))} (h : packA Bx (s :: r) (t :: ts) = some x) : ∃ x1 y, packT Bx s t = some x1 ∧ packA Bx r ts = some y ∧ x = cons1 s x1 y := by
  simp only [packA] at h
  split at h
  · rename_i x1 y h1 h2
    cases h
    exact ⟨x1, y, h1, h2, rfl⟩
  · cases h

theorem hd1_cons : ∀ (s : ASh) {r : List ASh} (x : In1 s) (y : Tup (acodes r)), hd1 s (cons1 s x y) = x
  | .d c _, _, x, y => thd_cons (c := c) x y
  | .own c, _, x, y => thd_cons (c := .list c) x y
  | .ref c, _, x, y => thd_cons (c := .list c) x y
  | .rbox c, _, x, y => thd_cons (c := c) x y
  | .clo _ caps, _, x, y => thd_cons (c := pairs caps) x y
  | .rp c, _, x, y => thd_cons (c := c) x y
  | .rag a e, _, x, y => thd_cons (c := .pair a (.list e)) x y
  | .k _, _, _, _ => rfl

theorem tl1_cons : ∀ (s : ASh) {r : List ASh} (x : In1 s) (y : Tup (acodes r)), tl1 s (cons1 s x y) = y
  | .d c _, _, x, y => ttl_cons (c := c) x y
  | .own c, _, x, y => ttl_cons (c := .list c) x y
  | .ref c, _, x, y => ttl_cons (c := .list c) x y
  | .rbox c, _, x, y => ttl_cons (c := c) x y
  | .clo _ caps, _, x, y => ttl_cons (c := pairs caps) x y
  | .rp c, _, x, y => ttl_cons (c := c) x y
  | .rag a e, _, x, y => ttl_cons (c := .pair a (.list e)) x y
  | .k _, _, _, _ => rfl

/-- What is lent is owned. -/
theorem nameG_inv {a : Cd} {t : T} {fl : List Sc} {id : Nat} (h : nameG a t = some (fl, id)) : t = .v (.agg (fl ++ [.own id])) := by
  unfold nameG at h
  split at h
  · rename_i cs
    split at h
    · rename_i id' hd
      cases h
      rw [← hd, List.take_append_drop]
    · cases h
  · cases h

theorem packG_inv {a e : Cd} {p : List Sc × Nat} {x : El a × List (El e)} (h : packG Bx a e p = some x) : cflat a = true ∧ decC Bx a p.1 = some x.1 ∧ ownedL Bx e p.2 = some x.2 := by
  unfold packG at h
  split at h
  · rename_i hf
    split at h
    · rename_i y xs h1 h2
      cases h
      exact ⟨hf, h1, h2⟩
    · cases h
  · cases h

theorem lentT_live (hB : Sub Bx B) {s : ASh} {t : T} {x : In1 s} (h : packT Bx s t = some x) : (∀ id ∈ lentT s t, ∃ blk, Bx id = .live blk ∧ B id = .live blk) ∧ (isLent s = true → ∃ id, lentT s t = [id]) := by
  cases s with
  | d c agg => exact ⟨fun id h => by simp [lentT] at h, fun h => by cases h⟩
  | clo f caps => exact ⟨fun id h => by simp [lentT] at h, fun h => by cases h⟩
  | rp c => exact ⟨fun id h => by simp [lentT] at h, fun h => by cases h⟩
  | k s => exact ⟨fun id h => by simp [lentT] at h, fun h => by cases h⟩
  | own c =>
    simp only [packT] at h
    split at h
    · rename_i id hid
      obtain ⟨_, _, _, hb, _⟩ := ownedL_inv h
      simp only [lentT, hid]
      exact ⟨fun i hi => by simp at hi; subst hi; exact ⟨_, hb, hB.live _ _ hb⟩, fun _ => ⟨id, rfl⟩⟩
    · cases h
  | ref c =>
    simp only [packT] at h
    split at h
    · rename_i id hid
      obtain ⟨_, _, _, hb, _⟩ := ownedL_inv h
      simp only [lentT, hid]
      exact ⟨fun i hi => by simp at hi; subst hi; exact ⟨_, hb, hB.live _ _ hb⟩, fun _ => ⟨id, rfl⟩⟩
    · cases h
  | rag a e =>
    simp only [packT] at h
    split at h
    · rename_i q hid
      obtain ⟨_, _, h⟩ := packG_inv h
      obtain ⟨_, _, _, hb, _⟩ := ownedL_inv h
      simp only [lentT, hid]
      exact ⟨fun i hi => by simp at hi; subst hi; exact ⟨_, hb, hB.live _ _ hb⟩, fun _ => ⟨q.2, rfl⟩⟩
    · cases h
  | rbox c =>
    simp only [packT] at h
    split at h
    · rename_i id hid
      split at h
      · rename_i cs hcs
        simp only [boxOf] at hcs
        split at hcs
        · rename_i cs' hb
          simp only [lentT, hid]
          exact ⟨fun i hi => by simp at hi; subst hi; exact ⟨_, hb, hB.live _ _ hb⟩, fun _ => ⟨id, rfl⟩⟩
        · cases hcs
      · cases h
    · cases h

theorem lentA_live (hB : Sub Bx B) : ∀ (as : List ASh) (ts : List T) (x : Tup (acodes as)), packA Bx as ts = some x → ∀ id ∈ lentA as ts, ∃ blk, Bx id = .live blk ∧ B id = .live blk
  | [], ts, x, h, id, hi => by simp [lentA] at hi
  | s :: r, [], x, h, id, hi => by simp [lentA] at hi
  | s :: r, t :: ts, x, h, id, hi => by
    obtain ⟨x1, y, h1, h2, _⟩ := packA_cons h
    simp only [lentA, List.mem_append] at hi
    rcases hi with hi | hi
    · exact (lentT_live hB h1).1 id hi
    · exact lentA_live hB r ts y h2 id hi

/-- What a call is handed, from one argument on. -/
structure Ak (A : Base) (g : Nat → Option Loc) (B Bx : Nat → BS) (w : World) (as0 : List ASh) (ts0 : List T) (p : Nat) (as : List ASh) (ts : List T) (us : List Value) (s : St) : Prop where
  tm : ∀ i v, us[i]? = some v → TR (cxF A g B Bx w as0 ts0) (s.tm (p + i)) v
  tm0 : ∀ t, (t < p ∨ p + us.length ≤ t) → s.tm t = one .und
  br : ∀ id blk, s.bk id = .live blk → (8 * p + 5 ≤ id ∧ id % 8 = 5) ∧ ∃ l, gA g 0 as0 ts0 id = some l ∧ BR (cxF A g B Bx w as0 ts0) blk l ∧ ∃ id0 ∈ lentA as ts, ∃ blk0, B id0 = .live blk0 ∧ g id0 = some l
  nofresh : ∀ id, s.bk id = .fresh → id % 8 ≠ 5
  noro : ∀ id org c xs, s.bk id ≠ .ro org c xs
  inj : ∀ id id' b b' l l', s.bk id = .live b → s.bk id' = .live b' → gA g 0 as0 ts0 id = some l → gA g 0 as0 ts0 id' = some l' → l.nil = false → l'.nil = false → l.b = l'.b → id = id'

theorem lentX_ow (hl : ∀ id ∈ lentA as ts, ∃ blk, Bx id = .live blk ∧ B id = .live blk) {b : Nat} (h : lentX g as ts b) : owOf g B b := by
  obtain ⟨id, hm, l, h1, h2, h3⟩ := h
  obtain ⟨blk, _, hb⟩ := hl id hm
  exact ⟨id, blk, l, hb, h1, h2, h3⟩

/-- An argument's data may lie where the callee may look. -/
theorem ok_arg (hl : ∀ id ∈ lentA as ts, ∃ blk, Bx id = .live blk ∧ B id = .live blk) (hap : ∀ id ∈ lentA as ts, id ∉ seenA Bx as ts) {p : Nat} {s : ASh} {t : T} (hs : as[p]? = some s) (ht : ts[p]? = some t) (hsub : ∀ id ∈ seenT Bx s t, id ∈ seenA Bx as ts) {b : Nat}
    (h : okI A g B (seenT Bx s t) (orgT Bx s t) b) : (cxF A g B Bx w as ts).ok (2 ^ p) b := by
  refine ⟨.inr (.inr ⟨p, s, t, hs, ht, by simp [Nat.testBit_two_pow], h⟩), ?_⟩
  rintro ⟨id, hm, l, h1, h2, h3⟩
  obtain ⟨blk, _, hb⟩ := hl id hm
  exact hap id hm (hsub id (h.2 id blk l hb h1 h2 h3))

theorem seenT_sub : ∀ (as : List ASh) (ts : List T) (p : Nat) (s : ASh) (t : T), as[p]? = some s → ts[p]? = some t → ∀ id ∈ seenT Bx s t, id ∈ seenA Bx as ts
  | [], _, _, _, _, h, _, _, _ => by simp at h
  | _ :: _, [], _, _, _, _, h, _, _ => by simp at h
  | s0 :: r, t0 :: ts, 0, s, t, hs, ht, id, hi => by
    simp at hs ht; subst hs ht
    simp only [seenA]; exact List.mem_append_left _ hi
  | s0 :: r, t0 :: ts, p + 1, s, t, hs, ht, id, hi => by
    simp only [seenA]
    exact List.mem_append_right _ (List.mem_append_right _ (seenT_sub r ts p s t (by simpa using hs) (by simpa using ht) id hi))

theorem boxT_sub : ∀ (as : List ASh) (ts : List T) (p : Nat) (s : ASh) (t : T), as[p]? = some s → ts[p]? = some t → ∀ id ∈ boxT s t, id ∈ seenA Bx as ts
  | [], _, _, _, _, h, _, _, _ => by simp at h
  | _ :: _, [], _, _, _, _, h, _, _ => by simp at h
  | s0 :: r, t0 :: ts, 0, s, t, hs, ht, id, hi => by
    simp at hs ht; subst hs ht
    simp only [seenA]; exact List.mem_append_right _ (List.mem_append_left _ hi)
  | s0 :: r, t0 :: ts, p + 1, s, t, hs, ht, id, hi => by
    simp only [seenA]
    exact List.mem_append_right _ (List.mem_append_right _ (boxT_sub r ts p s t (by simpa using hs) (by simpa using ht) id hi))

/-- Captured variables, as the callee finds them. -/
theorem caps_in (hM : Mem A g B w) (hB : Sub Bx B) (hX : ∀ id ∈ lentA as ts, ∃ blk, Bx id = .live blk ∧ B id = .live blk) {C : Cx} (hCw : C.w = w) {m : Nat} (how : C.ow = lentX g as ts) : ∀ (cs : List Cd) (caps : List Cap) (vs : List Value) (x : El (pairs cs)) (I : List Nat) (org : Nat),
    (∀ b, okI A g B I org b → C.ok m b) → All2 (CapR (cxOf A g B w)) caps vs → decCaps Bx cs caps = some x → (∀ id ∈ capCont Bx caps, id ∈ I) → orgLe (capOrg Bx caps) org = true → (∀ id ∈ lentA as ts, id ∉ capBox caps) → All2 (CapR C) (capsC m cs x) vs := by
  -- one variable
  have one : ∀ (c : Cd) (q : Cap) (v : Value) (l : List Sc) (x : El c) (I : List Nat) (org : Nat), (∀ b, okI A g B I org b → C.ok m b) → CapR (cxOf A g B w) q v → boxOf Bx q = some l → decC Bx c l = some x → (∀ id ∈ capCont Bx [q], id ∈ I) → orgLe (capOrg Bx [q]) org = true →
      (∀ id ∈ lentA as ts, id ∉ capBox [q]) → PR C m c x 0 v := by
    intro c q v l x I org hok hq hl hd hI ho hnb
    cases q with
    | ptr id =>
      simp only [boxOf] at hl
      split at hl
      · rename_i cs hb
        cases hl
        obtain ⟨lc, hg, hv⟩ := hq
        obtain ⟨l', hg', ⟨h0, arr, t, harr, hall⟩, hX'⟩ := hM.br id _ (hB.live _ _ hb)
        rw [show g id = some lc from hg] at hg'; cases hg'
        have hdr := decC_dr hM hB (I := I) (org := org) hall hd (fun i hi _ => hI i (by simp only [capCont, hb]; simpa using hi)) (by simpa [capOrg, hb] using ho)
        refine ⟨lc.b, 0, arr.toList, by rw [hv], ?_, by rw [hCw]; exact (hX' h0.2).1, ?_, fun j u hj => ?_⟩
        · rw [how]
          rintro ⟨id1, hm1, l1, g1, n1, b1⟩
          obtain ⟨blk1, _, hb1⟩ := hX id1 hm1
          have := hM.inj id1 id _ _ l1 lc hb1 (hB.live _ _ hb) g1 hg n1 h0.2 b1
          subst this
          exact hnb id1 hm1 (by simp [capBox])
        · rw [hCw]; exact hdr.mono (Nat.le_refl _) fun b hb hok' => ⟨hok b hok', rfl⟩
        · rw [hCw, cell_of (w := w) harr]; simpa using hj
      · cases hl
    | pp org0 c0 x0 =>
      simp only [boxOf, Option.some.injEq] at hl
      subst hl
      obtain ⟨b, o, cs, hv, hno, hb, hd0, hcell⟩ := hq
      have hdr := decC_dr hM hB (I := I) (org := org) (scells_sr hd0) hd (fun i hi _ => by rw [scells_ids] at hi; simp at hi) (by
        have hsc : ∀ (c : Cd) (x : El c), orgLe (orgL Bx (scells org0 c x)) org0 = true := by
          intro c
          induction c with
          | pair p q ihp ihq =>
            intro x
            show orgLe (orgL Bx (scells org0 p x.1 ++ scells org0 q x.2)) org0 = true
            rw [orgL_app]
            have h1 := ihp x.1
            have h2 := ihq x.2
            simp only [orgLe, beq_iff_eq] at h1 h2 ⊢
            rw [Nat.or_assoc, h2, h1]
          | list c _ => intro x; simp [scells, orgL, orgS, orgLe]
          | _ => intro x; simp [scells, orgL, orgS, orgLe]
        exact orgLe_trans (hsc _ _) (by simpa [capOrg] using ho))
      refine ⟨b, o, cs, hv, ?_, by rw [hCw]; exact hb, ?_, fun j u hj => by rw [hCw]; exact hcell j u hj⟩
      · rw [how]; exact fun h => hno (lentX_ow hX h)
      · rw [hCw]; exact hdr.mono (Nat.le_refl _) fun b hb hok' => ⟨hok b hok', rfl⟩
  have cont1 : ∀ (q : Cap) (r : List Cap), capCont Bx (q :: r) = capCont Bx [q] ++ capCont Bx r := by
    intro q r; cases q <;> simp [capCont]
  have org1 : ∀ (q : Cap) (r : List Cap), capOrg Bx (q :: r) = capOrg Bx [q] ||| capOrg Bx r := by
    intro q r; cases q <;> simp [capOrg]
  have box1 : ∀ (q : Cap) (r : List Cap), capBox (q :: r) = capBox [q] ++ capBox r := by
    intro q r; cases q <;> simp [capBox]
  intro cs
  induction cs with
  | nil =>
    intro caps vs x I org hok ha hd hI ho hnb
    cases caps with
    | nil =>
      cases vs with
      | nil => trivial
      | cons => exact ha.elim
    | cons => simp [decCaps] at hd
  | cons c r ih =>
    intro caps vs x I org hok ha hd hI ho hnb
    cases caps with
    | nil => cases r <;> simp [decCaps] at hd
    | cons q qs =>
      cases vs with
      | nil => exact ha.elim
      | cons v vs =>
        rw [cont1] at hI
        rw [org1] at ho
        rw [box1] at hnb
        have one' := fun (l : List Sc) (x : El c) hl hd => one c q v l x I org hok ha.1 hl hd (fun i hi => hI i (List.mem_append_left _ hi)) (orgLe_trans (orgLe_or_left _ _) ho) (fun i hi hm => hnb i hi (List.mem_append_left _ hm))
        cases r with
        | nil =>
          cases qs with
          | nil =>
            simp only [decCaps] at hd
            split at hd
            · rename_i l hl
              cases vs with
              | nil => exact ⟨one' l x hl hd, trivial⟩
              | cons => exact ha.2.elim
            · cases hd
          | cons => simp [decCaps] at hd
        | cons c2 r2 =>
          simp only [decCaps] at hd
          split at hd
          · rename_i l hl
            split at hd
            · rename_i x1 y1 hx1 hy1
              cases hd
              exact ⟨one' l x1 hl hx1, ih qs vs y1 I org hok ha.2 hy1 (fun i hi => hI i (List.mem_append_right _ hi)) (orgLe_trans (orgLe_or_right _ _) ho) (fun i hi hm => hnb i hi (List.mem_append_right _ hm))⟩
            · cases hd
          · cases hd

end
end Ai
end Go.Proofs.Ytpknhlnoaehffaa
