/-
  The ideal interpreter against the machine: states at loops.
-/
import Derived.Test.YtpknhlnoaehffaaA17
namespace Go.Proofs.Ytpknhlnoaehffaa
namespace Ai
set_option linter.unusedSimpArgs false
set_option linter.unusedVariables false

/-- The place that an owned slot takes over. -/
def slotLoc (g : Nat → Option Loc) (c : Cd) : Sc → Option Loc
  | .own id => g id
  | _ => some ⟨0, 0, 0, 0, csize c, true, none⟩

def tmS (t : T) : Sc := match t with
  | .v (.one s) => s
  | _ => .und

def gS (g : Nat → Option Loc) (st : St) : List It → Nat → Option Loc
  | [] => fun _ => none
  | .so t _ c :: r => upd (gS g st r) (8 * t + 7) (slotLoc g c (tmS (st.tm t)))
  | .bo id j _ c :: r => upd (gS g st r) (8 * (id * 64 + j) + 6) (slotLoc g c ((cellAt st id j).getD .und))
  | .bx id _ :: r => upd (gS g st r) id (g id)
  | .vc id _ _ :: r => upd (gS g st r) id (g id)
  | .mp id _ _ :: r => upd (gS g st r) id (g id)
  | .sl _ _ _ _ :: r => gS g st r
  | .sk _ _ :: r => gS g st r
  | .cl _ _ _ _ :: r => gS g st r
  | .rp _ _ _ :: r => gS g st r
  | .bd _ _ _ _ :: r => gS g st r
  | .bk _ _ _ :: r => gS g st r

/-- Blocks that are taken over. -/
def owS (g : Nat → Option Loc) (st : St) (took : List Nat) : Nat → Prop :=
  fun b => ∃ id0 ∈ took, ∃ blk l, st.bk id0 = .live blk ∧ g id0 = some l ∧ l.nil = false ∧ l.b = b

theorem nodupB_cons {a : Nat} {r : List Nat} (h : nodupB (a :: r) = true) : a ∉ r ∧ nodupB r = true := by
  simp only [nodupB, Bool.and_eq_true, Bool.not_eq_true'] at h
  refine ⟨fun hm => ?_, h.2⟩
  rw [List.contains_iff_mem.2 hm] at h
  cases h.1

theorem nodupB_app {a r : List Nat} (h : nodupB (a ++ r) = true) : nodupB r = true ∧ ∀ x ∈ a, x ∉ r := by
  induction a with
  | nil => exact ⟨h, fun x hx => by simp at hx⟩
  | cons y a ih =>
    obtain ⟨h1, h2⟩ := nodupB_cons h
    obtain ⟨h3, h4⟩ := ih h2
    refine ⟨h3, fun x hx => ?_⟩
    rcases List.mem_cons.1 hx with rfl | hx
    · exact fun hm => h1 (List.mem_append_right _ hm)
    · exact h4 x hx

theorem apartB_mem {a b : List Nat} (h : apartB a b = true) {x : Nat} (ha : x ∈ a) : x ∉ b := by
  unfold apartB at h
  rw [List.all_eq_true] at h
  have := h x ha
  intro hb
  rw [List.contains_iff_mem.2 hb] at this
  cases this

section
variable {E : Env} {A : Base} {g : Nat → Option Loc} {st : St} {a : Act} {w : World} {n : Nat}

/-- The setting behind the packing. -/
def cxS (A : Base) (g : Nat → Option Loc) (st : St) (w : World) (is : List It) : Cx := ⟨gS g st is, A.S, owS g st (tookS st is), w⟩

theorem owS_ow {took : List Nat} {b : Nat} (h : owS g st took b) : owOf g st.bk b := by
  obtain ⟨id0, _, blk, l, h1, h2, h3, h4⟩ := h
  exact ⟨id0, blk, l, h1, h2, h3, h4⟩

/-- What was not looked at by an owned name stays. -/
theorem okI_S {is : List It} {I : List Nat} {org : Nat} {b : Nat} (h : okI A g st.bk I org b) (hI : ∀ id ∈ I, id ∉ tookS st is) : (cxS A g st w is).ok org b := by
  refine ⟨h.1, ?_⟩
  rintro ⟨id0, hm, blk, l, h1, h2, h3, h4⟩
  exact hI id0 (h.2 id0 blk l h1 h2 h3 h4) hm

theorem ok_S {is : List It} {org org' : Nat} {b : Nat} (h : (cxOf A g st.bk w).ok org b) (ho : orgLe org org' = true) : (cxS A g st w is).ok org' b :=
  ⟨A.mono _ _ _ ho h.1, fun hw => h.2 (owS_ow hw)⟩

/-- An owned slice, in the new setting. -/
theorem br_S {is : List It} {org org' : Nat} {c : Cd} {xs : List (El c)} {l : Loc} (h : BR (cxOf A g st.bk w) (.vec org c xs) l) (ho : orgLe org org' = true) : BR (cxS A g st w is) (.vec org' c xs) l := by
  rcases h with h | ⟨hl, hS, hn, hc, hz, arr, t, ha, hs, he⟩
  · exact .inl h
  · refine .inr ⟨hl, A.mono _ _ _ ho hS, hn, hc, hz, arr, t, ha, hs, fun i x hx => ?_⟩
    obtain ⟨cs, hd, hv⟩ := he i x hx
    exact ⟨cs, hd.mono (Nat.le_refl _) fun b hb hok => ⟨ok_S hok ho, rfl⟩, hv⟩

theorem castL_br {C : Cx} {org : Nat} {c c' : Cd} (h : c' = c) {xs : List (El c')} {l : Loc} (hb : BR C (.vec org c' xs) l) : BR C (.vec org c (castL h xs)) l := by
  subst h; exact hb

/-- What is owned is live. -/
theorem ownedL_inv {B : Nat → BS} {c : Cd} {id : Nat} {xs : List (El c)} (h : ownedL B c id = some xs) : ∃ org c' xs', B id = .live (.vec org c' xs') ∧ orgS B (.own id) = org ∧ ∃ hc : c' = c, xs = castL hc xs' := by
  unfold ownedL at h
  cases hl : isLive B id
  · rw [hl] at h; cases h
  · rw [hl] at h
    simp only [listOf] at h
    split at h
    · rename_i v hv
      split at h
      · rename_i hc
        cases h
        have hv2 := hv
        unfold vecOf at hv
        split at hv
        · rename_i org c' xs' hb
          cases hv
          exact ⟨org, c', xs', hb, by simp [orgS, hv2], hc, rfl⟩
        · rename_i hb; simp [isLive, hb] at hl
        · cases hv
      · cases h
    · cases h

/-- A datum, in the new setting. -/
theorem dec_S {is : List It} (hM : Mem A g st.bk w) {c : Cd} {ss : List Sc} {vs : List Value} {x : El c} {org : Nat} (ha : All2 (SR (cxOf A g st.bk w)) ss vs) (hd : decC st.bk c ss = some x) (ho : orgLe (orgL st.bk ss) org = true)
    (hs : ∀ id ∈ idsL ss, id ∉ tookS st is) : DR w ((cxS A g st w is).ok org) c x vs :=
  (decC_dr hM (Sub.refl _) (I := idsL ss) ha hd (fun id h _ => h) ho).mono (Nat.le_refl _) fun b hb hok => ⟨okI_S hok hs, rfl⟩

theorem mkVal_tr {C : Cx} {org : Nat} {c : Cd} {x : El c} {agg : Bool} {v : Value} (h : match agg with
    | false => DR C.w (C.ok org) c x [v]
    | true => ∃ arr : Array Value, v = .agg arr ∧ DR C.w (C.ok org) c x arr.toList) : TR C (.v (mkVal agg (scells org c x))) v := by
  cases agg
  · have hl := h.length
    have hsl := scells_length org c x
    have hs := scells_sr h
    match hsc : scells org c x, hsl, hs with
    | [s], _, hs => exact hs.1
    | [], hsl, _ => simp at hl hsl; omega
    | _ :: _ :: _, hsl, _ => simp at hl hsl; omega
  · obtain ⟨arr, hv, hd⟩ := h
    have hs := scells_sr hd
    have : mkVal true (scells org c x) = .agg (scells org c x) := by unfold mkVal; rfl
    rw [this]
    exact ⟨arr, hv, hs⟩

theorem eqCap_eq : ∀ {xs ys : List Cap}, eqCap xs ys = true → xs = ys
  | [], [], _ => rfl
  | .ptr a :: r, .ptr b :: s, h => by
    simp only [eqCap, Bool.and_eq_true] at h
    rw [Nat.eq_of_beq_eq_true h.1, eqCap_eq h.2]
  | [], _ :: _, h => by cases h
  | .ptr _ :: _, [], h => by cases h
  | .pp _ _ _ :: _, [], h => by cases h
  | .ptr _ :: _, .pp _ _ _ :: _, h => by cases h
  | .pp _ _ _ :: _, _ :: _, h => by cases h

theorem eqK_eq {s s' : Sc} (h : eqK s s' = true) : s = s' := by
  unfold eqK at h
  split at h <;> first
    | rfl
    | (rw [Nat.eq_of_beq_eq_true h]; done)
    | (simp only [Bool.and_eq_true] at h; rw [Nat.eq_of_beq_eq_true h.1, Nat.eq_of_beq_eq_true h.2]; done)
    | (simp only [Bool.and_eq_true] at h; rw [Nat.eq_of_beq_eq_true h.1, eqCap_eq h.2]; done)
    | (cases h; done)

/-- A constant, in the new setting: the names that it uses are kept. -/
theorem k_S {C C' : Cx} {s s' : Sc} {v : Value} (he : eqK s s' = true) (h : SR C s' v) (hg : ∀ id ∈ kNames s, C'.g id = C.g id) : SR C' s v := by
  have := eqK_eq he
  subst this
  cases s with
  | own id => obtain ⟨l, h1, h2⟩ := h; exact ⟨l, by rw [hg id (by simp [kNames])]; exact h1, h2⟩
  | mp id => obtain ⟨l, h1, h2⟩ := h; exact ⟨l, by rw [hg id (by simp [kNames])]; exact h1, h2⟩
  | ptr id off => obtain ⟨l, h1, h2⟩ := h; exact ⟨l, by rw [hg id (by simp [kNames])]; exact h1, h2⟩
  | fn f caps =>
    obtain ⟨cs, h1, h2⟩ := h
    refine ⟨cs, h1, ?_⟩
    have hc : eqCap caps caps = true := by simpa [eqK] using he
    have hg' : ∀ id ∈ capNames caps, C'.g id = C.g id := hg
    clear he hg h1
    obtain ⟨vs⟩ := cs
    simp only at h2 ⊢
    induction caps generalizing vs with
    | nil => cases vs with
      | nil => trivial
      | cons => exact h2.elim
    | cons p r ih =>
      cases vs with
      | nil => exact h2.elim
      | cons u vs =>
        cases p with
        | ptr id =>
          simp only [eqCap, Bool.and_eq_true] at hc
          obtain ⟨⟨l, q1, q2⟩, q3⟩ := h2
          exact ⟨⟨l, by rw [hg' id (by simp [capNames])]; exact q1, q2⟩, ih hc.2 (fun id hid => hg' id (by simp [capNames, hid])) vs q3⟩
        | pp org c x => cases hc
  | nils => exact h
  | nilp => exact h
  | nilI => exact h
  | errI => exact h
  | skip => exact h
  | und => exact h
  | int _ _ => cases he
  | bool _ => cases he
  | str _ => cases he
  | ps _ _ _ => cases he
  | sub _ _ _ => cases he
  | pel _ _ _ => cases he
  | pp _ _ _ _ => cases he

theorem bk0_live (id : Nat) (b : Blk) : bk0 id ≠ .live b := by
  unfold bk0; cases Nat.beq (id % 8) 5 <;> simp

theorem bk0_ro (id org : Nat) (c : Cd) (xs : List (El c)) : bk0 id ≠ .ro org c xs := by
  unfold bk0; cases Nat.beq (id % 8) 5 <;> simp

theorem boxSet_cases (B : Nat → BS) (id j : Nat) (s : Sc) : (∃ cs, B id = .live (.box cs) ∧ boxSet B id j s = upd B id (.live (.box (cs.set j s)))) ∨ ((∀ cs, B id ≠ .live (.box cs)) ∧ boxSet B id j s = B) := by
  unfold boxSet
  split
  · rename_i cs h; exact .inl ⟨cs, h, rfl⟩
  · rename_i h; exact .inr ⟨fun cs e => h cs e, rfl⟩

/-- What is known of a packed state, item by item. -/
structure Pk (A : Base) (g : Nat → Option Loc) (st : St) (a : Act) (w : World) (is r : List It) (s : St) : Prop where
  tm : ∀ t, TR (cxS A g st w is) (s.tm t) (a.tmps.getD t undef)
  live : ∀ id, id ∈ makesI r → ∃ blk, s.bk id = .live blk
  br : ∀ id blk, s.bk id = .live blk → id ∈ makesI r ∧ ∃ l, gS g st is id = some l ∧ BR (cxS A g st w is) blk l ∧ (l.nil = false → ∃ id0 ∈ tookS st r, ∃ blk0, st.bk id0 = .live blk0 ∧ g id0 = some l)
  else_ : ∀ id, id ∉ makesI r → s.bk id = bk0 id
  inj : ∀ id id' b b' l l', s.bk id = .live b → s.bk id' = .live b' → gS g st is id = some l → gS g st is id' = some l' → l.nil = false → l'.nil = false → l.b = l'.b → id = id'
  box : ∀ id, id ∈ keepsI r → ∀ cs, s.bk id = .live (.box cs) → ∃ cs0, st.bk id = .live (.box cs0) ∧ cs.length = cs0.length

/-- A box's cell is filled in. -/
theorem Pk.cell {is r : List It} {s : St} (hM : Mem A g st.bk w) (h : Pk A g st a w is r s) {id j : Nat} {s0 sc : Sc} (hk : id ∈ keepsI r) (hgk : gS g st is id = g id) (hc : cellAt st id j = some s0)
    (hs : ∀ v, SR (cxOf A g st.bk w) s0 v → SR (cxS A g st w is) sc v) : Pk A g st a w is r { s with bk := boxSet s.bk id j sc } := by
  rcases boxSet_cases s.bk id j sc with ⟨cs, hb, e⟩ | ⟨_, e⟩
  · rw [e]
    have live : ∀ i b, upd s.bk id (.live (.box (cs.set j sc))) i = .live b → ∃ b, s.bk i = .live b := fun i b hi => by
      rcases upd_cases s.bk id i (.live (.box (cs.set j sc))) with ⟨rfl, _⟩ | ⟨_, h1⟩
      · exact ⟨_, hb⟩
      · exact ⟨_, h1 ▸ hi⟩
    refine ⟨h.tm, fun i hi => ?_, fun i blk hi => ?_, fun i hi => ?_, fun i i' b b' l l' hi hi' => ?_, fun i hi cs' hcs => ?_⟩
    · rcases upd_cases s.bk id i (.live (.box (cs.set j sc))) with ⟨rfl, h1⟩ | ⟨_, h1⟩
      · exact ⟨_, h1⟩
      · obtain ⟨b, hb⟩ := h.live i hi
        exact ⟨b, h1.trans hb⟩
    · rcases upd_cases s.bk id i (.live (.box (cs.set j sc))) with ⟨rfl, h1⟩ | ⟨_, h1⟩
      · have hi2 := h1.symm.trans hi
        cases hi2
        obtain ⟨h2, l, h3, h4, h5⟩ := h.br i _ hb
        refine ⟨h2, l, h3, ?_, h5⟩
        obtain ⟨h0, arr, t, harr, hall⟩ := h4
        refine ⟨h0, arr, t, harr, ?_⟩
        -- the cell of old
        unfold cellAt at hc
        split at hc
        · rename_i cs0 hb0
          obtain ⟨l0, hg0, hbr0, _⟩ := hM.br _ _ hb0
          rw [hgk, hg0] at h3
          cases h3
          obtain ⟨_, arr0, t0, harr0, hall0⟩ := hbr0
          have : arr0 = arr := by
            have := harr0.symm.trans harr
            cases this; rfl
          subst this
          refine All2.of_get (by simp [hall.length]) fun m x y hx hy => ?_
          by_cases e : j = m
          · subst e
            rw [List.getElem?_set] at hx
            simp only [if_true] at hx
            split at hx
            · cases hx
              obtain ⟨y', hy', hsr⟩ := hall0.get hc
              rw [hy] at hy'; cases hy'
              exact hs _ hsr
            · cases hx
          · rw [List.getElem?_set_ne e] at hx
            obtain ⟨y', hy', hsr⟩ := hall.get hx
            rw [hy] at hy'; cases hy'
            exact hsr
        · cases hc
      · exact h.br i blk (h1 ▸ hi)
    · have hne : i ≠ id := by rintro rfl; exact hi (h.br i _ hb).1
      show upd s.bk id _ i = _
      rw [upd_ne _ _ hne]
      exact h.else_ i hi
    · obtain ⟨_, q1⟩ := live i b hi
      obtain ⟨_, q2⟩ := live i' b' hi'
      exact h.inj i i' _ _ l l' q1 q2
    · rcases upd_cases s.bk id i (.live (.box (cs.set j sc))) with ⟨rfl, h1⟩ | ⟨_, h1⟩
      · have hi2 := h1.symm.trans hcs
        cases hi2
        obtain ⟨cs0, q1, q2⟩ := h.box i hi cs hb
        exact ⟨cs0, q1, by simpa using q2⟩
      · exact h.box i hi cs' (h1 ▸ hcs)
  · rw [e]; exact h

/-- A new name. -/
theorem Pk.make {is r : List It} {s : St} (hM : Mem A g st.bk w) (h : Pk A g st a w is r s) {r' : List It} {id : Nat} {took : List Nat} {blk : Blk} {l : Loc} (hmk : makesI r' = id :: makesI r) (hnew : id ∉ makesI r)
    (htk : tookS st r' = took ++ tookS st r) (hnd : ∀ x ∈ took, x ∉ tookS st r) (hg : gS g st is id = some l) (hbr : BR (cxS A g st w is) blk l) (hsrc : l.nil = false → ∃ id0 ∈ took, ∃ blk0, st.bk id0 = .live blk0 ∧ g id0 = some l)
    (hkeep : ∀ i ∈ keepsI r', i = id ∨ i ∈ keepsI r) (hbox : id ∈ keepsI r' → ∀ cs, blk = .box cs → ∃ cs0, st.bk id = .live (.box cs0) ∧ cs.length = cs0.length) (hkn : ∀ i ∈ keepsI r, i ∈ makesI r) :
    Pk A g st a w is r' { s with bk := upd s.bk id (.live blk) } := by
  refine ⟨h.tm, fun i hi => ?_, fun i b hi => ?_, fun i hi => ?_, fun i i' b b' l1 l2 hi hi' g1 g2 n1 n2 e => ?_, fun i hi cs hcs => ?_⟩
  · rcases upd_cases s.bk id i (.live blk) with ⟨rfl, h1⟩ | ⟨ne, h1⟩
    · exact ⟨_, h1⟩
    · rw [hmk] at hi
      obtain ⟨b, hb⟩ := h.live i ((List.mem_cons.1 hi).resolve_left ne)
      exact ⟨b, h1.trans hb⟩
  · rcases upd_cases s.bk id i (.live blk) with ⟨rfl, h1⟩ | ⟨ne, h1⟩
    · have hi2 := h1.symm.trans hi
      cases hi2
      refine ⟨by rw [hmk]; simp, l, hg, hbr, fun hn => ?_⟩
      obtain ⟨id0, q1, q2⟩ := hsrc hn
      exact ⟨id0, by rw [htk]; exact List.mem_append_left _ q1, q2⟩
    · obtain ⟨q1, l', q2, q3, q4⟩ := h.br i b (h1 ▸ hi)
      refine ⟨by rw [hmk]; exact List.mem_cons_of_mem _ q1, l', q2, q3, fun hn => ?_⟩
      obtain ⟨id0, q5, q6⟩ := q4 hn
      exact ⟨id0, by rw [htk]; exact List.mem_append_right _ q5, q6⟩
  · rw [hmk] at hi
    simp only [List.mem_cons, not_or] at hi
    show upd s.bk id _ i = _
    rw [upd_ne _ _ hi.1]
    exact h.else_ i hi.2
  · -- one block has one source
    have src : ∀ i b l1, upd s.bk id (.live blk) i = .live b → gS g st is i = some l1 → l1.nil = false → (i = id ∧ ∃ id0 ∈ took, ∃ blk0, st.bk id0 = .live blk0 ∧ g id0 = some l1) ∨
        (i ≠ id ∧ s.bk i = .live b ∧ ∃ id0 ∈ tookS st r, ∃ blk0, st.bk id0 = .live blk0 ∧ g id0 = some l1) := fun i b l1 hi g1 n1 => by
      rcases upd_cases s.bk id i (.live blk) with ⟨rfl, h1⟩ | ⟨ne, h1⟩
      · rw [hg] at g1; cases g1
        exact .inl ⟨rfl, hsrc n1⟩
      · have hi2 := h1 ▸ hi
        obtain ⟨_, l', q2, _, q4⟩ := h.br i b hi2
        rw [g1] at q2; cases q2
        exact .inr ⟨ne, hi2, q4 n1⟩
    rcases src i b l1 hi g1 n1 with ⟨e1, id0, m1, b0, p1, p2⟩ | ⟨e1, hb1, id0, m1, b0, p1, p2⟩ <;> rcases src i' b' l2 hi' g2 n2 with ⟨e2, id1, m2, b1, p3, p4⟩ | ⟨e2, hb2, id1, m2, b1, p3, p4⟩
    · rw [e1, e2]
    · have := hM.inj id0 id1 _ _ _ _ p1 p3 p2 p4 n1 n2 e
      subst this
      exact (hnd _ m1 m2).elim
    · have := hM.inj id0 id1 _ _ _ _ p1 p3 p2 p4 n1 n2 e
      subst this
      exact (hnd _ m2 m1).elim
    · exact h.inj i i' b b' l1 l2 hb1 hb2 g1 g2 n1 n2 e
  · rcases upd_cases s.bk id i (.live blk) with ⟨rfl, h1⟩ | ⟨ne, h1⟩
    · have hi2 := h1.symm.trans hcs
      simp only [BS.live.injEq] at hi2
      exact hbox hi cs hi2
    · exact h.box i ((hkeep i hi).resolve_left ne) cs (h1 ▸ hcs)

/-- A temporary is filled in. -/
theorem Pk.tmp {is r : List It} {s : St} (h : Pk A g st a w is r s) {t : Nat} {x : T} (hx : TR (cxS A g st w is) x (a.tmps.getD t undef)) : Pk A g st a w is r { s with tm := upd s.tm t x } := by
  refine ⟨fun m => ?_, h.live, h.br, h.else_, h.inj, h.box⟩
  by_cases e : m = t
  · subst e; show TR _ (upd s.tm m x m) _; rw [upd_same]; exact hx
  · show TR _ (upd s.tm t x m) _; rw [upd_ne _ _ e]; exact h.tm m

/-- The same names and the same owned slices. -/
theorem Pk.same {is r r' : List It} {s : St} (h : Pk A g st a w is r s) (h1 : makesI r' = makesI r) (h2 : tookS st r' = tookS st r) (h3 : keepsI r' = keepsI r) : Pk A g st a w is r' s := by
  refine ⟨h.tm, by rw [h1]; exact h.live, ?_, by rw [h1]; exact h.else_, h.inj, by rw [h3]; exact h.box⟩
  rw [h1, h2]; exact h.br

theorem keeps_makes : ∀ (r : List It), ∀ i ∈ keepsI r, i ∈ makesI r
  | [], i, h => by simp [keepsI] at h
  | .bx id n :: r, i, h => by
    simp only [keepsI, makesI, List.mem_cons] at h ⊢; exact h.imp (fun h => h) (keeps_makes r i)
  | .vc id _ _ :: r, i, h => by
    simp only [keepsI, makesI, List.mem_cons] at h ⊢; exact h.imp (fun h => h) (keeps_makes r i)
  | .mp id _ _ :: r, i, h => by
    simp only [keepsI, makesI, List.mem_cons] at h ⊢; exact h.imp (fun h => h) (keeps_makes r i)
  | .so _ _ _ :: r, i, h => by
    simp only [keepsI, makesI, List.mem_cons] at h ⊢; exact .inr (keeps_makes r i h)
  | .bo _ _ _ _ :: r, i, h => by
    simp only [keepsI, makesI, List.mem_cons] at h ⊢; exact .inr (keeps_makes r i h)
  | .sl _ _ _ _ :: r, i, h => keeps_makes r i h
  | .sk _ _ :: r, i, h => keeps_makes r i h
  | .cl _ _ _ _ :: r, i, h => keeps_makes r i h
  | .rp _ _ _ :: r, i, h => keeps_makes r i h
  | .bd _ _ _ _ :: r, i, h => keeps_makes r i h
  | .bk _ _ _ :: r, i, h => keeps_makes r i h

theorem gS_keeps (g : Nat → Option Loc) (st : St) : ∀ (r : List It), nodupB (makesI r) = true → ∀ i ∈ keepsI r, gS g st r i = g i
  | [], _, i, h => by simp [keepsI] at h
  | .bx id n :: r, hn, i, h => by
    obtain ⟨h1, h2⟩ := nodupB_cons hn
    simp only [keepsI, List.mem_cons] at h
    by_cases e : i = id
    · subst e; simp only [gS]; rw [upd_same]
    · simp only [gS]; rw [upd_ne _ _ e]; exact gS_keeps g st r h2 i (h.resolve_left e)
  | .vc id _ _ :: r, hn, i, h => by
    obtain ⟨h1, h2⟩ := nodupB_cons hn
    simp only [keepsI, List.mem_cons] at h
    by_cases e : i = id
    · subst e; simp only [gS]; rw [upd_same]
    · simp only [gS]; rw [upd_ne _ _ e]; exact gS_keeps g st r h2 i (h.resolve_left e)
  | .mp id _ _ :: r, hn, i, h => by
    obtain ⟨h1, h2⟩ := nodupB_cons hn
    simp only [keepsI, List.mem_cons] at h
    by_cases e : i = id
    · subst e; simp only [gS]; rw [upd_same]
    · simp only [gS]; rw [upd_ne _ _ e]; exact gS_keeps g st r h2 i (h.resolve_left e)
  | .so t _ c :: r, hn, i, h => by
    obtain ⟨h1, h2⟩ := nodupB_cons hn
    have h' : i ∈ keepsI r := h
    have e : i ≠ 8 * t + 7 := by rintro rfl; exact h1 (keeps_makes r _ h')
    simp only [gS]; rw [upd_ne _ _ e]; exact gS_keeps g st r h2 i h'
  | .bo id j _ c :: r, hn, i, h => by
    obtain ⟨h1, h2⟩ := nodupB_cons hn
    have h' : i ∈ keepsI r := h
    have e : i ≠ 8 * (id * 64 + j) + 6 := by rintro rfl; exact h1 (keeps_makes r _ h')
    simp only [gS]; rw [upd_ne _ _ e]; exact gS_keeps g st r h2 i h'
  | .sl _ _ _ _ :: r, hn, i, h => gS_keeps g st r hn i h
  | .sk _ _ :: r, hn, i, h => gS_keeps g st r hn i h
  | .cl _ _ _ _ :: r, hn, i, h => gS_keeps g st r hn i h
  | .rp _ _ _ :: r, hn, i, h => gS_keeps g st r hn i h
  | .bd _ _ _ _ :: r, hn, i, h => gS_keeps g st r hn i h
  | .bk _ _ _ :: r, hn, i, h => gS_keeps g st r hn i h

theorem decArg_inv {B : Nat → BS} {c : Cd} {agg : Bool} {v : Val} {x : El c} (h : decArg B c agg v = some x) : (agg = false ∧ ∃ s, v = .one s ∧ decC B c [s] = some x) ∨ (agg = true ∧ ∃ cs, v = .agg cs ∧ decC B c cs = some x) := by
  unfold decArg at h
  cases v with
  | one s => cases agg <;> simp only [] at h; exact .inl ⟨rfl, s, rfl, h⟩; cases h
  | agg cs => cases agg <;> simp only [] at h; cases h; exact .inr ⟨rfl, cs, rfl, h⟩

/-- A datum argument, in the new setting. -/
theorem arg_S {is : List It} (hM : Mem A g st.bk w) {c : Cd} {agg : Bool} {v : Val} {u : Value} {x : El c} {org : Nat} (hv : VR (cxOf A g st.bk w) v u) (hd : decArg st.bk c agg v = some x) (ho : orgLe (orgL st.bk v.cells) org = true)
    (hs : ∀ id ∈ idsL v.cells, id ∉ tookS st is) : TR (cxS A g st w is) (.v (mkVal agg (scells org c x))) u := by
  refine mkVal_tr ?_
  rcases decArg_inv hd with ⟨rfl, s, rfl, hd⟩ | ⟨rfl, cs, rfl, hd⟩
  · exact dec_S hM (ss := [s]) (vs := [u]) ⟨hv, trivial⟩ hd ho hs
  · obtain ⟨arr, rfl, ha⟩ := hv
    exact ⟨arr, rfl, dec_S hM ha hd ho hs⟩

theorem cellAt_sr (hM : Mem A g st.bk w) {id j : Nat} {s0 : Sc} (hc : cellAt st id j = some s0) : ∃ v, SR (cxOf A g st.bk w) s0 v := by
  unfold cellAt at hc
  split at hc
  · rename_i cs0 hb0
    obtain ⟨l0, hg0, ⟨_, arr0, t0, harr0, hall0⟩, _⟩ := hM.br _ _ hb0
    obtain ⟨v, _, h⟩ := hall0.get hc
    exact ⟨v, h⟩
  · cases hc

theorem head_S {C : Cx} {org : Nat} {c : Cd} {x : El c} {v : Value} (h : DR C.w (C.ok org) c x [v]) : SR C (headS (scells org c x)) v := by
  have hl := h.length
  have hsl := scells_length org c x
  have hs := scells_sr h
  match hsc : scells org c x, hsl, hs with
  | [s], _, hs => exact hs.1
  | [], hsl, _ => simp at hl hsl; omega
  | _ :: _ :: _, hsl, _ => simp at hl hsl; omega

theorem thd_cons {c : Cd} {r : List Cd} (x : El c) (y : Tup r) : thd (c := c) (r := r) (tcons x y) = x := by cases r <;> rfl
theorem ttl_cons {c : Cd} {r : List Cd} (x : El c) (y : Tup r) : ttl (c := c) (r := r) (tcons x y) = y := by cases r <;> rfl

theorem if_some {α : Type} {p : Prop} [Decidable p] {x : Option α} {y : α} (h : (if p then x else none) = some y) : p ∧ x = some y := by
  split at h
  · rename_i hp; exact ⟨hp, h⟩
  · cases h

theorem keeps_live : ∀ (r : List It) (x : Tup (icodes r)), packS1 r st = some x → ∀ id ∈ keepsI r, isLive st.bk id = true
  | [], _, _, id, h => by simp [keepsI] at h
  | .sl t org agg c :: r, x, hp, id, h => by
    simp only [packS1] at hp
    split at hp
    · obtain ⟨_, hp⟩ := if_some hp
      split at hp
      · rename_i y z hy hz; exact keeps_live r z hz id h
      · cases hp
    · cases hp
  | .so t org c :: r, x, hp, id, h => by
    simp only [packS1] at hp
    split at hp
    · obtain ⟨_, hp⟩ := if_some hp
      split at hp
      · rename_i y z hy hz; exact keeps_live r z hz id h
      · cases hp
    · split at hp
      · rename_i z hz; exact keeps_live r z hz id h
      · cases hp
    · cases hp
  | .sk t s :: r, x, hp, id, h => by
    simp only [packS1] at hp
    split at hp
    · obtain ⟨_, hp⟩ := if_some hp
      exact keeps_live r x hp id h
    · cases hp
  | .cl t f org caps :: r, x, hp, id, h => by
    simp only [packS1] at hp
    split at hp
    · obtain ⟨_, hp⟩ := if_some hp
      split at hp
      · rename_i y z hy hz; exact keeps_live r z hz id h
      · cases hp
    · cases hp
  | .rp t org c :: r, x, hp, id, h => by
    simp only [packS1] at hp
    split at hp
    · obtain ⟨_, hp⟩ := if_some hp
      split at hp
      · rename_i y z hy hz; exact keeps_live r z hz id h
      · cases hp
    · cases hp
  | .bx i m :: r, x, hp, id, h => by
    simp only [packS1] at hp
    split at hp
    · rename_i cs hb
      obtain ⟨_, hp⟩ := if_some hp
      simp only [keepsI, List.mem_cons] at h
      rcases h with rfl | h
      · exact isLive_of hb
      · exact keeps_live r x hp id h
    · cases hp
  | .bd i j org c :: r, x, hp, id, h => by
    simp only [packS1] at hp
    split at hp
    · obtain ⟨_, hp⟩ := if_some hp
      split at hp
      · rename_i y z hy hz; exact keeps_live r z hz id h
      · cases hp
    · cases hp
  | .bo i j org c :: r, x, hp, id, h => by
    simp only [packS1] at hp
    split at hp
    · obtain ⟨_, hp⟩ := if_some hp
      split at hp
      · rename_i y z hy hz; exact keeps_live r z hz id h
      · cases hp
    · split at hp
      · rename_i z hz; exact keeps_live r z hz id h
      · cases hp
    · cases hp
  | .bk i j s :: r, x, hp, id, h => by
    simp only [packS1] at hp
    split at hp
    · obtain ⟨_, hp⟩ := if_some hp
      exact keeps_live r x hp id h
    · cases hp
  | .vc i org c :: r, x, hp, id, h => by
    simp only [packS1] at hp
    obtain ⟨_, hp⟩ := if_some hp
    split at hp
    · rename_i y z hy hz
      simp only [keepsI, List.mem_cons] at h
      rcases h with rfl | h
      · obtain ⟨_, _, _, hb, _⟩ := ownedL_inv hy; exact isLive_of hb
      · exact keeps_live r z hz id h
    · cases hp
  | .mp i kc vc :: r, x, hp, id, h => by
    simp only [packS1] at hp
    split at hp
    · rename_i hb
      split at hp
      · split at hp
        · rename_i z hz
          simp only [keepsI, List.mem_cons] at h
          rcases h with rfl | h
          · exact isLive_of hb
          · exact keeps_live r z hz id h
        · cases hp
      · cases hp
    · cases hp

theorem makes_keeps5 : ∀ (r : List It) (id : Nat), id ∈ makesI r → id % 8 = 5 → id ∈ keepsI r
  | [], id, h, _ => by simp [makesI] at h
  | .bx i m :: r, id, h, h5 => by simp only [makesI, keepsI, List.mem_cons] at h ⊢; exact h.imp (fun h => h) fun h => makes_keeps5 r id h h5
  | .vc i _ _ :: r, id, h, h5 => by simp only [makesI, keepsI, List.mem_cons] at h ⊢; exact h.imp (fun h => h) fun h => makes_keeps5 r id h h5
  | .mp i _ _ :: r, id, h, h5 => by simp only [makesI, keepsI, List.mem_cons] at h ⊢; exact h.imp (fun h => h) fun h => makes_keeps5 r id h h5
  | .so t _ _ :: r, id, h, h5 => by
    simp only [makesI, List.mem_cons] at h
    rcases h with rfl | h
    · omega
    · exact makes_keeps5 r id h h5
  | .bo i j _ _ :: r, id, h, h5 => by
    simp only [makesI, List.mem_cons] at h
    rcases h with rfl | h
    · omega
    · exact makes_keeps5 r id h h5
  | .sl _ _ _ _ :: r, id, h, h5 => makes_keeps5 r id h h5
  | .sk _ _ :: r, id, h, h5 => makes_keeps5 r id h h5
  | .cl _ _ _ _ :: r, id, h, h5 => makes_keeps5 r id h h5
  | .rp _ _ _ :: r, id, h, h5 => makes_keeps5 r id h h5
  | .bd _ _ _ _ :: r, id, h, h5 => makes_keeps5 r id h h5
  | .bk _ _ _ :: r, id, h, h5 => makes_keeps5 r id h h5

theorem scells_orgle (Bx : Nat → BS) (org0 : Nat) : ∀ (c : Cd) (x : El c), orgLe (orgL Bx (scells org0 c x)) org0 = true := by
  intro c
  induction c with
  | pair p q ihp ihq =>
    intro x
    show orgLe (orgL Bx (scells org0 p x.1 ++ scells org0 q x.2)) org0 = true
    rw [orgL_app]
    have h1 := ihp x.1
    have h2 := ihq x.2
    simp only [orgLe, beq_iff_eq] at h1 h2 ⊢
    rw [Nat.or_assoc, h2, h1]
  | list c _ => intro x; simp [scells, orgL, orgS, orgLe]
  | _ => intro x; simp [scells, orgL, orgS, orgLe]

/-- A read-only pointer, in the new setting. -/
theorem pp_S {is : List It} (hM : Mem A g st.bk w) {o : Nat} {c' c : Cd} {x0 : El c'} {y : El c} {org : Nat} {v : Value} (h : PR (cxOf A g st.bk w) o c' x0 0 v) (hd : decC st.bk c (scells o c' x0) = some y) (ho : orgLe o org = true) : PR (cxS A g st w is) org c y 0 v := by
  obtain ⟨b, k, cs, hv, hno, hb, hdr, hcell⟩ := h
  refine ⟨b, k, cs, hv, fun hw => hno (owS_ow hw), hb, ?_, hcell⟩
  exact dec_S hM (scells_sr hdr) hd (orgLe_trans (scells_orgle _ _ _ _) ho) fun id hid => by rw [scells_ids] at hid; simp at hid

theorem caps_S {is : List It} (hM : Mem A g st.bk w) {org : Nat} : ∀ (cs : List Cd) (caps : List Cap) (vs : List Value) (x : El (pairs cs)), All2 (CapR (cxOf A g st.bk w)) caps vs → decCaps st.bk cs caps = some x → capBox caps = [] → orgLe (capOrg st.bk caps) org = true →
    All2 (CapR (cxS A g st w is)) (capsC org cs x) vs := by
  intro cs
  induction cs with
  | nil =>
    intro caps vs x ha hd _ _
    cases caps with
    | nil => cases vs with
      | nil => trivial
      | cons => exact ha.elim
    | cons => simp [decCaps] at hd
  | cons c r ih =>
    intro caps vs x ha hd hb ho
    cases caps with
    | nil => cases r <;> simp [decCaps] at hd
    | cons q qs =>
      cases vs with
      | nil => exact ha.elim
      | cons v vs =>
        cases q with
        | ptr id => simp [capBox] at hb
        | pp o c' x0 =>
          simp only [capBox] at hb
          simp only [capOrg] at ho
          have ho1 := orgLe_trans (orgLe_or_left o (capOrg st.bk qs)) ho
          have ho2 := orgLe_trans (orgLe_or_right o (capOrg st.bk qs)) ho
          cases r with
          | nil =>
            cases qs with
            | nil =>
              simp only [decCaps, boxOf] at hd
              cases vs with
              | nil => exact ⟨pp_S hM ha.1 hd ho1, trivial⟩
              | cons => exact ha.2.elim
            | cons => simp [decCaps] at hd
          | cons c2 r2 =>
            simp only [decCaps, boxOf] at hd
            split at hd
            · rename_i x1 y1 hx1 hy1
              cases hd
              exact ⟨pp_S hM ha.1 hx1 ho1, ih qs vs y1 ha.2 hy1 hb ho2⟩
            · cases hd

/-- A packed state is a state of the machine. -/
theorem pk_of (hI : Inv A n g st a w) {is : List It} (hnd : nodupB (makesI is) = true) (huse : ∀ id ∈ usesI is, id ∈ keepsI is) (hsn : ∀ id ∈ seenS st is, id ∉ tookS st is) :
    ∀ (r : List It) (x : Tup (icodes r)), packS1 r st = some x → nodupB (makesI r) = true → nodupB (tookS st r) = true → boxesOk r = true → (∀ i ∈ makesI r, gS g st is i = gS g st r i) → (∀ i ∈ keepsI r, i ∈ keepsI is) → (∀ i ∈ usesI r, i ∈ usesI is) → (∀ i ∈ seenS st r, i ∈ seenS st is) →
      Pk A g st a w is r (mkS r x)
  | [], x, _, _, _, _, _, _, _, _ => ⟨fun _ => trivial, fun id h => by simp [makesI] at h, fun id blk h => (bk0_live id blk h).elim, fun _ _ => rfl, fun id _ b _ _ _ h => (bk0_live id b h).elim, fun id h => by simp [keepsI] at h⟩
  | .sl t org agg c :: r, x, hp, h1, h2, h3, h4, h5, h6, h7 => by
    simp only [packS1] at hp
    split at hp
    · rename_i v hv
      split at hp
      · rename_i ho
        split at hp
        · rename_i y z hy hz
          cases hp
          have ih := pk_of hI hnd huse hsn r z hz h1 h2 h3 h4 h5 h6 (fun i hi => h7 i (by simp only [seenS]; exact List.mem_append_right _ hi))
          have ht := hI.tm t
          rw [hv] at ht
          simp only [mkS, thd_cons, ttl_cons]
          refine Pk.tmp (t := t) (x := .v (mkVal agg (scells org c y))) (ih.same (r' := .sl t org agg c :: r) rfl rfl rfl) ?_
          exact arg_S hI.mem ht hy ho fun id hid => hsn id (h7 id (by simp only [seenS, hv]; exact List.mem_append_left _ hid))
        · cases hp
      · cases hp
    · cases hp
  | .so t org c :: r, x, hp, h1, h2, h3, h4, h5, h6, h7 => by
    simp only [packS1] at hp
    obtain ⟨hn1, hn2⟩ := nodupB_cons h1
    have hg0 : gS g st is (8 * t + 7) = slotLoc g c (tmS (st.tm t)) := by
      rw [h4 (8 * t + 7) (by simp [makesI])]
      simp only [gS]; rw [upd_same]
    have hg' : ∀ i ∈ makesI r, gS g st is i = gS g st r i := fun i hi => by
      rw [h4 i (by simp only [makesI, List.mem_cons]; exact .inr hi)]
      simp only [gS]
      rw [upd_ne _ _ (by rintro rfl; exact hn1 hi)]
    obtain ⟨hn3, hn4⟩ := nodupB_app h2
    have ht := hI.tm t
    split at hp
    · rename_i id hid
      split at hp
      · rename_i ho
        split at hp
        · rename_i y z hy hz
          cases hp
          have ih := pk_of hI hnd huse hsn r z hz hn2 hn3 h3 hg' h5 h6 h7
          rw [hid] at ht hg0 hn4
          obtain ⟨org0, c', xs', hb, horg, hc, rfl⟩ := ownedL_inv hy
          obtain ⟨l, hgl, hv⟩ := (show SR (cxOf A g st.bk w) (.own id) _ from ht)
          obtain ⟨l', hgl', hbr, _⟩ := hI.mem.br _ _ hb
          rw [show g id = some l from hgl] at hgl'; cases hgl'
          have hg1 : gS g st is (8 * t + 7) = some l := by rw [hg0]; exact hgl
          simp only [mkS, thd_cons, ttl_cons]
          refine Pk.tmp (s := { mkS r z with bk := _ }) (Pk.make hI.mem ih (r' := .so t org c :: r) (took := [id]) (l := l) rfl hn1 (by simp only [tookS, hid]) hn4 hg1 (castL_br hc (br_S hbr (by rw [horg] at ho; exact ho))) (fun _ => ⟨id, by simp, _, hb, hgl⟩) (fun i hi => .inr hi)
            (fun hk => (hn1 (keeps_makes r _ hk)).elim) (keeps_makes r)) ?_
          exact ⟨l, hg1, hv⟩
        · cases hp
      · cases hp
    · rename_i hid
      split at hp
      · rename_i y hz
        cases hp
        have ih := pk_of hI hnd huse hsn r y hz hn2 hn3 h3 hg' h5 h6 h7
        rw [hid] at ht hg0
        have hg1 : gS g st is (8 * t + 7) = some ⟨0, 0, 0, 0, csize c, true, none⟩ := by rw [hg0]; rfl
        simp only [mkS, thd_cons, ttl_cons]
        refine Pk.tmp (s := { mkS r y with bk := _ }) (Pk.make hI.mem ih (r' := .so t org c :: r) (took := []) (l := ⟨0, 0, 0, 0, csize c, true, none⟩) rfl hn1 (by simp only [tookS, hid]) (fun x hx => by simp at hx) hg1 (show BR _ (.vec org c []) _ from Or.inl ⟨rfl, rfl, rfl, rfl, rfl, Or.inl rfl⟩) (fun h => by cases h) (fun i hi => .inr hi)
          (fun hk => (hn1 (keeps_makes r _ hk)).elim) (keeps_makes r)) ?_
        exact ⟨_, hg1, ht⟩
      · cases hp
    · cases hp
  | .sk t s :: r, x, hp, h1, h2, h3, h4, h5, h6, h7 => by
    simp only [packS1] at hp
    split at hp
    · rename_i s' hv
      obtain ⟨he, hp⟩ := if_some hp
      have ih := pk_of hI hnd huse hsn r x hp h1 h2 h3 h4 h5 (fun i hi => h6 i (by simp only [usesI]; exact List.mem_append_right _ hi)) h7
      have ht := hI.tm t
      rw [hv] at ht
      simp only [mkS]
      refine Pk.tmp (t := t) (x := one s) (ih.same (r' := .sk t s :: r) rfl rfl rfl) ?_
      exact k_S he ht fun id hid => gS_keeps g st is hnd id (huse id (h6 id (by simp only [usesI]; exact List.mem_append_left _ hid)))
    · cases hp
  | .cl t f org caps :: r, x, hp, h1, h2, h3, h4, h5, h6, h7 => by
    simp only [packS1] at hp
    split at hp
    · rename_i gf cs hv
      have hcc := if_some (α := Tup (icodes (.cl t f org caps :: r))) hp
      obtain ⟨hc, hp2⟩ := hcc
      clear hp
      simp only [Bool.and_eq_true, List.isEmpty_iff] at hc
      obtain ⟨hf, hbx, ho⟩ := hc
      have hf := Nat.eq_of_beq_eq_true hf
      subst hf
      cases hy : decCaps st.bk caps cs with
      | none => rw [hy] at hp2; cases hp2
      | some y =>
        cases hz : packS1 r st with
        | none => rw [hy, hz] at hp2; cases hp2
        | some z =>
          rw [hy, hz] at hp2
          cases hp2
          have ih := pk_of hI hnd huse hsn r z hz h1 h2 h3 h4 h5 h6 h7
          have ht := hI.tm t
          rw [hv] at ht
          obtain ⟨vs, hve, hall⟩ := (show SR (cxOf A g st.bk w) (.fn f cs) _ from ht)
          simp only [mkS, thd_cons, ttl_cons]
          refine Pk.tmp (t := t) (x := one (.fn f (capsC org caps y))) (ih.same (r' := .cl t f org caps :: r) rfl rfl rfl) ?_
          exact ⟨vs, hve, caps_S hI.mem caps cs vs.toList y hall hy hbx ho⟩
    · cases hp
  | .rp t org c :: r, x, hp, h1, h2, h3, h4, h5, h6, h7 => by
    simp only [packS1] at hp
    split at hp
    · rename_i o c' x0 hv
      obtain ⟨ho, hp⟩ := if_some hp
      split at hp
      · rename_i y z hy hz
        cases hp
        have ih := pk_of hI hnd huse hsn r z hz h1 h2 h3 h4 h5 h6 h7
        have ht := hI.tm t
        rw [hv] at ht
        simp only [mkS, thd_cons, ttl_cons]
        refine Pk.tmp (t := t) (x := one (.pp org c y 0)) (ih.same (r' := .rp t org c :: r) rfl rfl rfl) ?_
        exact pp_S hI.mem (show PR (cxOf A g st.bk w) o c' x0 0 _ from ht) hy ho
      · cases hp
    · cases hp
  | .bx id m :: r, x, hp, h1, h2, h3, h4, h5, h6, h7 => by
    simp only [packS1] at hp
    obtain ⟨hn1, hn2⟩ := nodupB_cons h1
    have hg0 : gS g st is id = g id := gS_keeps g st is hnd id (h5 id (by simp [keepsI]))
    have hg' : ∀ i ∈ makesI r, gS g st is i = gS g st r i := fun i hi => by
      rw [h4 i (by simp only [makesI, List.mem_cons]; exact .inr hi)]
      simp only [gS]
      rw [upd_ne _ _ (by rintro rfl; exact hn1 hi)]
    obtain ⟨hn5, hn3⟩ := nodupB_cons h2
    split at hp
    · rename_i cs hb
      obtain ⟨hlen, hp⟩ := if_some hp
      have hlen := Nat.eq_of_beq_eq_true hlen
      have ih := pk_of hI hnd huse hsn r x hp hn2 hn3 h3 hg' (fun i hi => h5 i (by simp only [keepsI, List.mem_cons]; exact .inr hi)) h6 h7
      obtain ⟨l, hgl, hbr, _⟩ := hI.mem.br _ _ hb
      simp only [mkS]
      refine Pk.make hI.mem ih (r' := .bx id m :: r) (took := [id]) (l := l) rfl hn1 (by simp only [tookS]; rfl) (fun x hx => by simp at hx; subst hx; exact hn5) (hg0.trans hgl) ?_ (fun _ => ⟨id, by simp, _, hb, hgl⟩) (fun i hi => by simpa [keepsI] using hi)
        (fun _ cs' he => ⟨cs, hb, by cases he; simp [hlen]⟩) (keeps_makes r)
      obtain ⟨h0, arr, t, harr, hall⟩ := hbr
      refine ⟨h0, arr, t, harr, All2.of_get (by have := hall.length; simp at this ⊢; omega) fun i x y hx hy => ?_⟩
      rw [List.getElem?_replicate] at hx
      split at hx
      · cases hx; trivial
      · cases hx
    · cases hp
  | .bd id j org c :: r, x, hp, h1, h2, h3, h4, h5, h6, h7 => by
    simp only [packS1] at hp
    simp only [boxesOk, Bool.and_eq_true] at h3
    split at hp
    · rename_i s0 hc
      split at hp
      · rename_i ho
        split at hp
        · rename_i y z hy hz
          cases hp
          have ih := pk_of hI hnd huse hsn r z hz h1 h2 h3.2 h4 h5 h6 (fun i hi => h7 i (by simp only [seenS]; exact List.mem_append_right _ hi))
          have hk : id ∈ keepsI r := List.contains_iff_mem.1 h3.1
          simp only [mkS, thd_cons, ttl_cons]
          refine Pk.cell hI.mem (ih.same (r' := .bd id j org c :: r) rfl rfl rfl) hk (gS_keeps g st is hnd id (h5 id hk)) hc fun v hv => ?_
          exact head_S (dec_S hI.mem (ss := [s0]) (vs := [v]) ⟨hv, trivial⟩ hy ho fun i hi => hsn i (h7 i (by simp only [seenS, hc]; exact List.mem_append_left _ hi)))
        · cases hp
      · cases hp
    · cases hp
  | .bo id j org c :: r, x, hp, h1, h2, h3, h4, h5, h6, h7 => by
    simp only [packS1] at hp
    simp only [boxesOk, Bool.and_eq_true] at h3
    have hk : id ∈ keepsI r := List.contains_iff_mem.1 h3.1
    obtain ⟨hn1, hn2⟩ := nodupB_cons h1
    have hg0 : gS g st is (8 * (id * 64 + j) + 6) = slotLoc g c ((cellAt st id j).getD .und) := by
      rw [h4 _ (by simp [makesI])]
      simp only [gS]; rw [upd_same]
    have hg' : ∀ i ∈ makesI r, gS g st is i = gS g st r i := fun i hi => by
      rw [h4 i (by simp only [makesI, List.mem_cons]; exact .inr hi)]
      simp only [gS]
      rw [upd_ne _ _ (by rintro rfl; exact hn1 hi)]
    obtain ⟨hn3, hn4⟩ := nodupB_app h2
    split at hp
    · rename_i i0 hc
      split at hp
      · rename_i ho
        split at hp
        · rename_i y z hy hz
          cases hp
          have ih := pk_of hI hnd huse hsn r z hz hn2 hn3 h3.2 hg' h5 h6 h7
          rw [hc] at hg0 hn4
          obtain ⟨org0, c', xs', hb, horg, hcc, rfl⟩ := ownedL_inv hy
          obtain ⟨l, hgl, hbr, _⟩ := hI.mem.br _ _ hb
          have hg1 : gS g st is (8 * (id * 64 + j) + 6) = some l := by rw [hg0]; exact hgl
          simp only [mkS, thd_cons, ttl_cons]
          have ih2 := Pk.cell hI.mem ih hk (gS_keeps g st is hnd id (h5 id hk)) hc (sc := .own (8 * (id * 64 + j) + 6)) (fun v hv => by
            obtain ⟨l1, q1, q2⟩ := hv
            rw [show g i0 = some l1 from q1] at hgl; cases hgl
            exact ⟨l, hg1, q2⟩)
          exact Pk.make hI.mem ih2 (r' := .bo id j org c :: r) (took := [i0]) (l := l) rfl hn1 (by simp only [tookS, hc]) hn4 hg1 (castL_br hcc (br_S hbr (by rw [horg] at ho; exact ho))) (fun _ => ⟨i0, by simp, _, hb, hgl⟩) (fun i hi => .inr hi)
            (fun hk => (hn1 (keeps_makes r _ hk)).elim) (keeps_makes r)
        · cases hp
      · cases hp
    · rename_i hc
      split at hp
      · rename_i y hz
        cases hp
        have ih := pk_of hI hnd huse hsn r y hz hn2 hn3 h3.2 hg' h5 h6 h7
        rw [hc] at hg0
        have hg1 : gS g st is (8 * (id * 64 + j) + 6) = some ⟨0, 0, 0, 0, csize c, true, none⟩ := by rw [hg0]; rfl
        simp only [mkS, thd_cons, ttl_cons]
        have ih2 := Pk.cell hI.mem ih hk (gS_keeps g st is hnd id (h5 id hk)) hc (sc := .own (8 * (id * 64 + j) + 6)) (fun v hv => ⟨_, hg1, hv⟩)
        exact Pk.make hI.mem ih2 (r' := .bo id j org c :: r) (took := []) (l := ⟨0, 0, 0, 0, csize c, true, none⟩) rfl hn1 (by simp only [tookS, hc]) (fun x hx => by simp at hx) hg1 (show BR _ (.vec org c []) _ from Or.inl ⟨rfl, rfl, rfl, rfl, rfl, Or.inl rfl⟩) (fun h => by cases h) (fun i hi => .inr hi)
          (fun hk => (hn1 (keeps_makes r _ hk)).elim) (keeps_makes r)
      · cases hp
    · cases hp
  | .bk id j s :: r, x, hp, h1, h2, h3, h4, h5, h6, h7 => by
    simp only [packS1] at hp
    simp only [boxesOk, Bool.and_eq_true] at h3
    split at hp
    · rename_i s0 hc
      obtain ⟨he, hp⟩ := if_some hp
      have ih := pk_of hI hnd huse hsn r x hp h1 h2 h3.2 h4 h5 (fun i hi => h6 i (by simp only [usesI]; exact List.mem_append_right _ hi)) h7
      have hk : id ∈ keepsI r := List.contains_iff_mem.1 h3.1
      simp only [mkS]
      refine Pk.cell hI.mem (ih.same (r' := .bk id j s :: r) rfl rfl rfl) hk (gS_keeps g st is hnd id (h5 id hk)) hc fun v hv => ?_
      exact k_S he hv fun i hi => gS_keeps g st is hnd i (huse i (h6 i (by simp only [usesI]; exact List.mem_append_left _ hi)))
    · cases hp
  | .vc id org c :: r, x, hp, h1, h2, h3, h4, h5, h6, h7 => by
    simp only [packS1] at hp
    obtain ⟨hn1, hn2⟩ := nodupB_cons h1
    have hg0 : gS g st is id = g id := gS_keeps g st is hnd id (h5 id (by simp [keepsI]))
    have hg' : ∀ i ∈ makesI r, gS g st is i = gS g st r i := fun i hi => by
      rw [h4 i (by simp only [makesI, List.mem_cons]; exact .inr hi)]
      simp only [gS]
      rw [upd_ne _ _ (by rintro rfl; exact hn1 hi)]
    obtain ⟨hn5, hn3⟩ := nodupB_cons h2
    split at hp
    · rename_i ho
      split at hp
      · rename_i y z hy hz
        cases hp
        have ih := pk_of hI hnd huse hsn r z hz hn2 hn3 h3 hg' (fun i hi => h5 i (by simp only [keepsI, List.mem_cons]; exact .inr hi)) h6 h7
        obtain ⟨org0, c', xs', hb, horg, hcc, rfl⟩ := ownedL_inv hy
        obtain ⟨l, hgl, hbr, _⟩ := hI.mem.br _ _ hb
        simp only [mkS, thd_cons, ttl_cons]
        exact Pk.make hI.mem ih (r' := .vc id org c :: r) (took := [id]) (l := l) rfl hn1 (by simp only [tookS]; rfl) (fun x hx => by simp at hx; subst hx; exact hn5) (hg0.trans hgl) (castL_br hcc (br_S hbr (by rw [horg] at ho; exact ho))) (fun _ => ⟨id, by simp, _, hb, hgl⟩)
          (fun i hi => by simpa [keepsI] using hi) (fun _ cs' he => by cases he) (keeps_makes r)
      · cases hp
    · cases hp
  | .mp id kc vc :: r, x, hp, h1, h2, h3, h4, h5, h6, h7 => by
    simp only [packS1] at hp
    split at hp
    · rename_i hb
      obtain ⟨l, hgl, hbr, _⟩ := hI.mem.br _ _ hb
      exact hbr.elim
    · cases hp

theorem packS_inv (hI : Inv A n g st a w) {is : List It} {x : Tup (icodes is)} (h : packS is st = some x) : ∃ g', Inv A n g' (mkS is x) a w := by
  unfold packS at h
  split at h
  · rename_i hc
    simp only [Bool.and_eq_true] at hc
    obtain ⟨⟨⟨⟨c1, c2⟩, c3⟩, c4⟩, c5⟩ := hc
    have huse : ∀ id ∈ usesI is, id ∈ keepsI is := fun id hid => by
      rw [List.all_eq_true] at c3
      exact List.contains_iff_mem.1 (c3 id hid)
    have hsn : ∀ id ∈ seenS st is, id ∉ tookS st is := fun id hs ht => apartB_mem c2 ht hs
    have hp := pk_of hI c4 huse hsn is x h c4 c1 c5 (fun _ _ => rfl) (fun _ h => h) (fun _ h => h) (fun _ h => h)
    -- nobody owns more than was taken over
    have how : ∀ b, owOf (gS g st is) (mkS is x).bk b → owS g st (tookS st is) b := by
      rintro b ⟨id, blk, l, h1, h2, h3, h4⟩
      obtain ⟨_, l', q1, _, q3⟩ := hp.br id blk h1
      rw [h2] at q1; cases q1
      obtain ⟨id0, m0, blk0, p1, p2⟩ := q3 h3
      exact ⟨id0, m0, blk0, l, p1, p2, h3, h4⟩
    have hL : Later (cxS A g st w is) (cxOf A (gS g st is) (mkS is x).bk w) := ⟨fun _ _ h => h, rfl, fun b _ hb => ⟨fun ho => hb (how b ho), rfl⟩, Nat.le_refl _⟩
    refine ⟨gS g st is, ⟨fun t => hL.tr (hp.tm t), ⟨fun id blk hb => ?_, fun id org c xs hb => ?_, fun id id' b b' l l' => hp.inj id id' b b' l l', fun id hb => ?_, fun id l hpin => ?_, hI.mem.fr⟩, hI.df, hI.sz⟩⟩
    · obtain ⟨hm, l, h1, h2, h3⟩ := hp.br id blk hb
      refine ⟨l, h1, hL.br (fun _ => rfl) h2, fun hn => ?_⟩
      obtain ⟨id0, m0, blk0, p1, p2⟩ := h3 hn
      obtain ⟨l', q1, _, q3⟩ := hI.mem.br id0 blk0 p1
      rw [p2] at q1; cases q1
      exact q3 hn
    · by_cases hm : id ∈ makesI is
      · obtain ⟨blk, h1⟩ := hp.live id hm
        rw [h1] at hb; cases hb
      · rw [hp.else_ id hm] at hb
        exact (bk0_ro _ _ _ _ hb).elim
    · by_cases hm : id ∈ makesI is
      · obtain ⟨blk, h1⟩ := hp.live id hm
        rw [h1] at hb; cases hb
      · have none : ∀ (r : List It), id ∉ makesI r → gS g st r id = none := by
          intro r
          induction r with
          | nil => intro _; rfl
          | cons i r ih =>
            intro hr
            cases i <;> simp only [makesI, List.mem_cons, not_or] at hr <;> simp only [gS] <;> first
              | exact ih hr
              | (rw [upd_ne _ _ hr.1]; exact ih hr.2)
        exact none is hm
    · obtain ⟨p1, p2⟩ := hI.mem.pin id l hpin
      have h5 := A.pinned id l hpin
      by_cases hm : id ∈ makesI is
      · obtain ⟨blk, h1⟩ := hp.live id hm
        refine ⟨by rw [h1]; simp, fun _ => ?_⟩
        have hk := makes_keeps5 is id hm h5
        rw [gS_keeps g st is c4 id hk]
        exact p2 (keeps_live is x h id hk)
      · rw [hp.else_ id hm]
        have hb : bk0 id = .dead := by simp [bk0, h5]
        refine ⟨by rw [hb]; simp, fun hl => ?_⟩
        unfold isLive at hl
        rw [hp.else_ id hm, hb] at hl
        cases hl
  · cases h

end
end Ai
end Go.Proofs.Ytpknhlnoaehffaa
