/-
  The ideal interpreter against the machine: calls; the whole.
-/
import Derived.Test.YtpknhlnoaehffaaA25
namespace Go.Proofs.Ytpknhlnoaehffaa
namespace Ai
set_option linter.unusedSimpArgs false
set_option linter.unusedVariables false

theorem ownId_some {dd : Nat} {rs : List RSh} {as : List ASh} {id : Nat} (h : ownId dd rs as = some id) : id = 8 * dd ∧ totL rs = 1 ∧ (∀ r ∈ rs, r.org = 0) ∧ ∀ s ∈ as, (∀ c, (s = .ref c ∨ ∃ a, s = .rag a c) → cflat c = true) ∧ (∀ c, s = .rbox c → cflat c = true) := by
  unfold ownId at h
  split at h
  · rename_i h1 h2
    cases h
    rw [totL_fold, Nat.zero_add] at h1
    rw [Bool.and_eq_true, List.all_eq_true, List.all_eq_true] at h2
    refine ⟨rfl, h1, fun r hr => Nat.eq_of_beq_eq_true (h2.1 r hr), fun s hs => ⟨fun c e => ?_, fun c e => ?_⟩⟩
    · rcases e with rfl | ⟨a, rfl⟩ <;> exact h2.2 _ hs
    · subst e; exact h2.2 _ hs
  · cases h

section
variable {A : Base} {g : Nat → Option Loc} {B Bx : Nat → BS} {w w' : World} {i : FI} {ts : List T}

theorem call_out (hM : Mem A g B w) (hB : Sub Bx B) {x : Tup (acodes i.as)} (hp : packA Bx i.as ts = some x) (hnd : nodupB (lentA i.as ts) = true) (hap : ∀ id ∈ lentA i.as ts, id ∉ seenA Bx i.as ts) {y : Tup (rcodes i.rs i.as)} {v : Value}
    (hF : FinR (baseA A g B Bx w i.as ts) i y v w') {dd : Nat} (hfr : freshAll Bx (impR (ownId dd i.rs i.as) (orgA Bx i.as ts) i.rs y).2 = true) :
    ∃ g2, Mem A g2 (applyB B (frzL Bx (keptA Bx (maskR i.rs) 0 i.as ts) ++ (effA i.as ts (orgA Bx i.as ts) (outR i.rs y) ++ (impR (ownId dd i.rs i.as) (orgA Bx i.as ts) i.rs y).2))) w' ∧
      Later (cxOf A g B w) (cxOf A g2 (applyB B (frzL Bx (keptA Bx (maskR i.rs) 0 i.as ts) ++ (effA i.as ts (orgA Bx i.as ts) (outR i.rs y) ++ (impR (ownId dd i.rs i.as) (orgA Bx i.as ts) i.rs y).2))) w') ∧
      TR (cxOf A g2 (applyB B (frzL Bx (keptA Bx (maskR i.rs) 0 i.as ts) ++ (effA i.as ts (orgA Bx i.as ts) (outR i.rs y) ++ (impR (ownId dd i.rs i.as) (orgA Bx i.as ts) i.rs y).2))) w') (resT (impR (ownId dd i.rs i.as) (orgA Bx i.as ts) i.rs y).1) v := by
  obtain ⟨hFr, ⟨us, rfl, hRs⟩, hOut⟩ := hF
  obtain ⟨hM1, hL1, hB1⟩ := frz_step hM hB (keptA Bx (maskR i.rs) 0 i.as ts)
  have hX := lentA_live hB i.as ts x hp
  rw [applyB_append, applyB_append]
  generalize hB1e : applyB B (frzL Bx (keptA Bx (maskR i.rs) 0 i.as ts)) = B1 at hM1 hL1 hB1 ⊢
  -- lent names stay
  have hlive1 : ∀ id ∈ lentA i.as ts, ∃ blk, B1 id = .live blk := fun id hid => by
    obtain ⟨blk, _, hb⟩ := hX id hid
    refine ⟨blk, ?_⟩
    rw [← hB1e, frz_notin fun hk => hap id hid (keptA_sub _ _ _ id hk)]
    exact hb
  have hkeys := eff_keys (Bx := Bx) i.as ts x (outR i.rs y) hp
  have hent := eff_entry (Bx := Bx) i.as ts 0 (outR i.rs y) hOut
  generalize effA i.as ts (orgA Bx i.as ts) (outR i.rs y) = eff at hkeys hent ⊢
  have hndk : (eff.map (·.1)).Nodup := by rw [hkeys]; exact nodupB_list _ hnd
  have hlent : ∀ q ∈ eff, q.1 ∈ lentA i.as ts := fun q hq => by rw [← hkeys]; exact List.mem_map.2 ⟨q, hq, rfl⟩
  have hliveE : ∀ q ∈ eff, ∃ blk, B1 q.1 = .live blk := fun q hq => hlive1 _ (hlent q hq)
  have hlX : ∀ k, lentX g i.as ts k ↔ ∃ q ∈ eff, ∃ l, g q.1 = some l ∧ l.nil = false ∧ l.b = k := fun k => by
    constructor
    · rintro ⟨id, hid, l, h⟩
      rw [← hkeys] at hid
      obtain ⟨q, hq, rfl⟩ := List.mem_map.1 hid
      exact ⟨q, hq, l, h⟩
    · rintro ⟨q, hq, l, h⟩
      exact ⟨q.1, hlent q hq, l, h⟩
  -- the pinned place of a lent name
  have hpinE : ∀ q ∈ eff, ∀ (j : Nat) s t l, i.as[j]? = some s → ts[j]? = some t → lentT s t = [q.1] → isLent s = true → (baseA A g B Bx w i.as ts).pin (8 * (0 + j) + 5) = some l → g q.1 = some l := fun q hq j s t l hs ht hlt hil hpin => by
    have h5 : (8 * (0 + j) + 5) % 8 = 5 := by omega
    have hpin' : (if (8 * (0 + j) + 5) % 8 = 5 then gA g 0 i.as ts (8 * (0 + j) + 5) else none) = some l := hpin
    rw [if_pos h5, gA_at g i.as ts 0 j s t hs ht hil] at hpin'
    simp only [gT, hlt] at hpin'
    exact hpin'
  -- a block of one that was lent may lie where it likes
  have hSX : ∀ m b, (∃ id b0 l, B1 id = .live b0 ∧ g id = some l ∧ l.nil = false ∧ l.b = b) → A.S m b := by
    rintro m b ⟨id, b0, l, h1, h2, h3, h4⟩
    obtain ⟨l', q1, _, q2⟩ := hM1.br id b0 h1
    rw [h2] at q1; cases q1
    rcases (q2 h3).2 with h | h
    · rw [← h4]; exact A.new _ _ h
    · rw [← h4]; exact A.own _ _ h
  have hlt1 : ∀ id b0 l, B1 id = .live b0 → g id = some l → l.nil = false → l.b < w.heap.size := fun id b0 l h1 h2 h3 => by
    obtain ⟨l', q1, _, q2⟩ := hM1.br id b0 h1
    rw [h2] at q1; cases q1
    exact (q2 h3).1
  -- what is live behind the call, but for what is taken over
  have live2 : ∀ id blk, applyB B1 eff id = .live blk → (∃ b0, B1 id = .live b0) ∧ ∀ q ∈ eff, q.1 = id → q.2 = .live blk := fun id blk h => by
    by_cases hm : ∃ q ∈ eff, q.1 = id
    · obtain ⟨q, hq, rfl⟩ := hm
      refine ⟨hliveE q hq, fun q' hq' e => ?_⟩
      have h1 := applyB_mem eff B1 hndk (show (q'.1, q'.2) ∈ eff from hq')
      rw [e, h] at h1
      exact h1.symm
    · have hn : applyB B1 eff id = B1 id := applyB_notin eff B1 fun hx => by
        obtain ⟨q, hq, e⟩ := List.mem_map.1 hx
        exact hm ⟨q, hq, e⟩
      exact ⟨⟨blk, hn ▸ h⟩, fun q hq e => (hm ⟨q, hq, e⟩).elim⟩
  have refc : ∀ q ∈ eff, ∀ blk, q.2 = .live blk → ∀ l, g q.1 = some l → l.nil = false → (cxE (baseA A g B Bx w i.as ts) i.as w').ow l.b := fun q hq blk hb l hl hn => by
    obtain ⟨j, s, t, hs, ht, hlt, h | ⟨c, xs, l', hsr, _, hpin, _⟩ | ⟨c, xv, l', rfl, _, hpin, _⟩⟩ := hent q hq
    · obtain ⟨c, _, hd⟩ := h
      rw [hd] at hb; cases hb
    · have := hpinE q hq j _ t l' hs ht hlt (by rcases hsr with rfl | ⟨a, rfl⟩ <;> rfl) hpin
      rw [hl] at this; cases this
      exact ⟨8 * (0 + j) + 5, refIds_mem i.as 0 j _ hs (.inl ⟨c, hsr⟩), l, hpin, hn, rfl⟩
    · have := hpinE q hq j _ t l' hs ht hlt rfl hpin
      rw [hl] at this; cases this
      exact ⟨8 * (0 + j) + 5, refIds_mem i.as 0 j _ hs (.inr ⟨c, rfl⟩), l, hpin, hn, rfl⟩
  -- what the callee may hand on, the caller may hold
  have okcl : ∀ (m org' : Nat) (b : Nat), (∀ (p : Nat) s t, i.as[p]? = some s → ts[p]? = some t → m.testBit p = true → orgLe (orgT Bx s t) org' = true ∧ ∀ id ∈ seenT Bx s t, isLive B1 id = false) →
      (cxE (baseA A g B Bx w i.as ts) i.as w').ok m b → A.S org' b ∧ ¬ owOf g (applyB B1 eff) b := by
    rintro m org' b hm ⟨hS, hno⟩
    rcases hS with hS | hS | ⟨p, s, t, hs, ht, hbit, hok⟩
    · refine ⟨A.new _ _ (by have := hM.fr.size; omega), ?_⟩
      rintro ⟨id, blk, l, h1, h2, h3, h4⟩
      obtain ⟨⟨b0, hb0⟩, _⟩ := live2 id blk h1
      have := hlt1 id b0 l hb0 h2 h3
      omega
    · obtain ⟨q, hq, l0, h1, h2, h3⟩ := (hlX b).1 hS
      obtain ⟨b0, hb0⟩ := hliveE q hq
      refine ⟨hSX _ _ ⟨q.1, b0, l0, hb0, h1, h2, h3⟩, ?_⟩
      rintro ⟨id, blk, l, h4, h5, h6, h7⟩
      obtain ⟨⟨b1, hb1⟩, hk⟩ := live2 id blk h4
      have := hM1.inj q.1 id _ _ _ _ hb0 hb1 h1 h5 h2 h6 (by omega)
      exact hno (by rw [← h3]; exact refc q hq blk (hk q hq this) l0 h1 h2)
    · obtain ⟨h1, h2⟩ := hm p s t hs ht hbit
      refine ⟨A.mono _ _ _ h1 hok.1, ?_⟩
      rintro ⟨id, blk, l, h4, h5, h6, h7⟩
      obtain ⟨⟨b1, hb1⟩, _⟩ := live2 id blk h4
      have hb : B id = .live b1 := frz_live (Bx := Bx) (ids := keptA Bx (maskR i.rs) 0 i.as ts) (by rw [hB1e]; exact hb1)
      have := h2 id (hok.2 id b1 l hb h5 h6 h7)
      simp [isLive, hb1] at this
  have dead1 : ∀ (p : Nat) s t, i.as[p]? = some s → ts[p]? = some t → ((maskR i.rs).testBit p = true ∨ ∃ c, s = .rbox c) → ∀ id ∈ seenT Bx s t, isLive B1 id = false := fun p s t hs ht hk id hid => by
    obtain ⟨x1, hx1⟩ := packA_get i.as ts x p s t hp hs ht
    obtain ⟨vc, hvc⟩ := seen_vec hx1 id hid
    rw [← hB1e]
    exact frz_done hB (keptA_mem i.as ts 0 p s t hs ht (by rwa [Nat.zero_add]) id hid) hvc
  have okOut : ∀ (j : Nat) s t b, i.as[j]? = some s → ts[j]? = some t → ((∃ c, s = .ref c ∨ ∃ a, s = .rag a c) ∨ ∃ c, s = .rbox c) → (cxE (baseA A g B Bx w i.as ts) i.as w').ok (2 ^ (0 + j)) b → A.S (orgT Bx s t) b ∧ ¬ owOf g (applyB B1 eff) b := fun j s t b hs ht hr hok => by
    refine okcl _ _ b (fun p s' t' hs' ht' hbit => ?_) hok
    rw [Nat.zero_add, Nat.testBit_two_pow] at hbit
    have hjp : j = p := by simpa using hbit
    subst hjp
    rw [hs] at hs'; rw [ht] at ht'
    cases hs'; cases ht'
    refine ⟨orgLe_refl _, ?_⟩
    rcases hr with ⟨c, rfl | ⟨a, rfl⟩⟩ | ⟨c, rfl⟩
    · intro id hid; simp [seenT] at hid
    · intro id hid; simp [seenT] at hid
    · exact dead1 j _ t hs ht (.inr ⟨c, rfl⟩)
  have okRes : ∀ r ∈ i.rs, ∀ b, (cxE (baseA A g B Bx w i.as ts) i.as w').ok r.org b → A.S (orgR r.org 0 (orgA Bx i.as ts)) b ∧ ¬ owOf g (applyB B1 eff) b := fun r hr b hok =>
    okcl _ _ b (fun p s t hs ht hbit => ⟨orgR_le _ 0 p _ _ (orgA_get i.as ts p s t hs ht) (by rwa [Nat.zero_add]), dead1 p s t hs ht (.inl (mask_bit i.rs 0 r p hr hbit))⟩) hok
  -- the world
  have hold : ∀ k, k < w.heap.size → (∀ q ∈ eff, ∀ l, g q.1 = some l → l.nil = false → l.b ≠ k) → w'.heap[k]? = w.heap[k]? := fun k hk hne =>
    hFr.old k hk fun hx => by
      obtain ⟨q, hq, l, h1, h2, h3⟩ := (hlX k).1 hx
      exact hne q hq l h1 h2 h3
  have hplain : ∀ k, k < w'.heap.size → (w.heap.size ≤ k ∨ ∃ q ∈ eff, ∃ l, g q.1 = some l ∧ l.nil = false ∧ l.b = k) → Plain w'.heap[k]? := fun k hk h =>
    hFr.plain k hk (h.imp (fun h => h) fun h => (hlX k).2 h)
  -- memory, whatever is taken over
  have step : ∀ (imp : Option Imp), (imp = none ∨ ∀ s ∈ i.as, (∀ c, (s = .ref c ∨ ∃ a, s = .rag a c) → cflat c = true) ∧ (∀ c, s = .rbox c → cflat c = true)) →
      (∀ j, imp = some j → B1 j.id = .fresh ∧ (Later (cxOf A g B1 w) (cxOf A (impG g imp) (impB (applyB B1 eff) imp) w') → BR (cxOf A (impG g imp) (impB (applyB B1 eff) imp) w') j.blk j.l) ∧
        (j.l.nil = false → j.l.b < w'.heap.size ∧ (w.heap.size ≤ j.l.b ∨ ∃ q ∈ eff, q.2 = .dead ∧ ∃ l, g q.1 = some l ∧ l.nil = false ∧ l.b = j.l.b))) →
      Mem A (impG g imp) (impB (applyB B1 eff) imp) w' ∧ Later (cxOf A g B1 w) (cxOf A (impG g imp) (impB (applyB B1 eff) imp) w') := by
    intro imp hflat himp
    refine ret_mem hM1 hndk hliveE (fun q hq => ?_) himp hFr.os hFr.tape hFr.output hFr.size hold hplain
    obtain ⟨j, s, t, hs, ht, hlt, ⟨c, _, hd⟩ | ⟨c, xs, l, hsr, hv, hpin, hbr⟩ | ⟨c, xv, l, rfl, hv, hpin, h0, arr, t', harr, hd⟩⟩ := hent q hq
    · exact .inl hd
    · have hgl := hpinE q hq j _ t l hs ht hlt (by rcases hsr with rfl | ⟨a, rfl⟩ <;> rfl) hpin
      refine .inr ⟨_, l, hv, hgl, fun hL => ?_⟩
      rcases hbr with h | ⟨hnl, _, hn, hc, hz, arr, t', harr, hfit, hel⟩
      · exact .inl h
      · obtain ⟨b0, hb0⟩ := hliveE q hq
        refine .inr ⟨hnl, hSX _ _ ⟨q.1, b0, l, hb0, hgl, hnl, rfl⟩, hn, hc, hz, arr, t', harr, hfit, fun m z hm => ?_⟩
        obtain ⟨cs, hd, hcell⟩ := hel m z hm
        refine ⟨cs, ?_, hcell⟩
        rcases hflat with rfl | hflat
        · exact hd.mono (Nat.le_refl _) fun b hb hok => ⟨okOut j _ t b hs ht (.inl ⟨c, hsr⟩) hok, rfl⟩
        · exact hd.flat ((hflat _ (List.mem_of_getElem? hs)).1 c hsr)
    · have hgl := hpinE q hq j _ t l hs ht hlt rfl hpin
      refine .inr ⟨_, l, hv, hgl, fun hL => ⟨h0, arr, t', harr, ?_⟩⟩
      refine scells_sr ?_
      rcases hflat with rfl | hflat
      · exact hd.mono (Nat.le_refl _) fun b hb hok => ⟨okOut j _ t b hs ht (.inr ⟨c, rfl⟩) hok, rfl⟩
      · exact hd.flat ((hflat _ (List.mem_of_getElem? hs)).2 c rfl)
  cases himps : (impR (ownId dd i.rs i.as) (orgA Bx i.as ts) i.rs y).2 with
  | nil =>
    obtain ⟨m1, m2⟩ := step none (.inl rfl) (fun j h => by cases h)
    refine ⟨g, m1, hL1.trans m2, ?_⟩
    have htot : totL i.rs ≤ 1 ∨ ownId dd i.rs i.as = none := by
      cases ho : ownId dd i.rs i.as with
      | none => exact .inr rfl
      | some id => exact .inl (by have := (ownId_some ho).2.1; omega)
    exact resT_tr (res_data (C := cxOf A g (applyB B1 eff) w') i.rs y us hRs (.inr (.inr himps)) (fun r hr _ xx vs hd => hd.mono (Nat.le_refl _) fun b hb hok => ⟨okRes r hr b hok, rfl⟩) htot).2
  | cons e0 e1 =>
    cases ho : ownId dd i.rs i.as with
    | none =>
      exfalso
      have := (res_data (C := cxOf A g (applyB B1 eff) w') (own := none) (orgs := orgA Bx i.as ts) i.rs y us hRs (.inl rfl) (fun r hr _ xx vs hd => hd.mono (Nat.le_refl _) fun b hb hok => ⟨okRes r hr b hok, rfl⟩) (.inr rfl)).1
      rw [ho, this] at himps; cases himps
    | some id =>
      obtain ⟨rfl, htot, horg, hflat⟩ := ownId_some ho
      rw [ho] at himps hfr
      obtain ⟨c', xs, v1, ⟨hf, hsz1⟩, himp2, hd, hres⟩ := res_own i.rs y us hRs htot horg (by rw [himps]; simp)
      rw [himp2] at himps hfr
      rw [← himps]
      have hfresh : Bx (8 * dd) = .fresh := by
        simp only [freshAll, Bool.and_true] at hfr
        split at hfr
        · assumption
        · cases hfr
      have hfr1 : B1 (8 * dd) = .fresh := by
        rw [← hB1e, frz_else fun o c xs e => by rw [hfresh] at e; cases e]
        exact hB.fresh _ hfresh
      rcases hd with ⟨e, rfl⟩ | ⟨b, o, cap, e, hcap, hokb, hcells, hel⟩
      · simp only [List.cons.injEq, and_true] at e
        obtain ⟨m1, m2⟩ := step (some ⟨8 * dd, ⟨0, 0, 0, 0, csize c', true, none⟩, .vec 0 c' []⟩) (.inr hflat) (fun j h => by
          cases h
          exact ⟨hfr1, fun _ => .inl ⟨rfl, rfl, rfl, rfl, rfl, .inl rfl⟩, fun h => by cases h⟩)
        refine ⟨_, m1, hL1.trans m2, resT_tr (hres _ ⟨⟨0, 0, 0, 0, csize c', true, none⟩, upd_same _ _ _, ?_⟩)⟩
        rw [e]; rfl
      · simp only [List.cons.injEq, and_true] at e
        rcases Nat.eq_zero_or_pos cap with h0 | hpos
        · subst h0
          have hx : xs = [] := List.eq_nil_of_length_eq_zero (by omega)
          subst hx
          obtain ⟨m1, m2⟩ := step (some ⟨8 * dd, ⟨0, 0, 0, 0, csize c', true, some ⟨b, o, none⟩⟩, .vec 0 c' []⟩) (.inr hflat) (fun j h => by
            cases h
            exact ⟨hfr1, fun _ => .inl ⟨rfl, rfl, rfl, rfl, rfl, .inr ⟨b, o, rfl⟩⟩, fun h => by cases h⟩)
          refine ⟨_, m1, hL1.trans m2, resT_tr (hres _ ⟨⟨0, 0, 0, 0, csize c', true, some ⟨b, o, none⟩⟩, upd_same _ _ _, ?_⟩)⟩
          rw [e]; rfl
        · obtain ⟨hok, hbl⟩ := hokb hpos
          have hsrc : w.heap.size ≤ b ∨ ∃ q ∈ eff, q.2 = .dead ∧ ∃ l, g q.1 = some l ∧ l.nil = false ∧ l.b = b := by
            rcases hok.1 with h | h | ⟨p, s, t, _, _, hbit, _⟩
            · exact .inl h
            · obtain ⟨q, hq, l, h1, h2, h3⟩ := (hlX b).1 h
              refine .inr ⟨q, hq, ?_, l, h1, h2, h3⟩
              cases hq2 : q.2 with
              | dead => rfl
              | live blk => exact (hok.2 (by rw [← h3]; exact refc q hq blk hq2 l h1 h2)).elim
              | fresh =>
                exfalso
                obtain ⟨j, s, t, _, _, _, ⟨c, _, hd⟩ | ⟨c, xs, l, _, hv, _⟩ | ⟨c, xv, l, _, hv, _⟩⟩ := hent q hq
                · rw [hq2] at hd; cases hd
                · rw [hq2] at hv; cases hv
                · rw [hq2] at hv; cases hv
              | ro _ _ _ =>
                exfalso
                obtain ⟨j, s, t, _, _, _, ⟨c, _, hd⟩ | ⟨c, xs, l, _, hv, _⟩ | ⟨c, xv, l, _, hv, _⟩⟩ := hent q hq
                · rw [hq2] at hd; cases hd
                · rw [hq2] at hv; cases hv
                · rw [hq2] at hv; cases hv
            · simp at hbit
          obtain ⟨arr, t', harr⟩ := hplain b hbl (hsrc.imp (fun h => h) fun ⟨q, hq, _, l, h⟩ => ⟨q, hq, l, h⟩)
          have hS0 : A.S 0 b := by
            rcases hsrc with h | ⟨q, hq, _, l, h1, h2, h3⟩
            · exact A.new _ _ (by have := hM.fr.size; omega)
            · obtain ⟨b0, hb0⟩ := hliveE q hq
              exact hSX _ _ ⟨q.1, b0, l, hb0, h1, h2, h3⟩
          obtain ⟨m1, m2⟩ := step (some ⟨8 * dd, ⟨b, o, xs.length, cap, csize c', false, none⟩, .vec 0 c' xs⟩) (.inr hflat) (fun j h => by
            cases h
            refine ⟨hfr1, fun _ => .inr ⟨rfl, hS0, rfl, hcap, rfl, arr, t', harr, ?_, fun m z hm => ?_⟩, fun _ => ⟨hbl, hsrc⟩⟩
            · have h1 : 0 < cap * csize c' := Nat.mul_pos hpos hsz1
              have := hcells (cap * csize c' - 1) (by omega)
              rw [cell_of (w := w') harr] at this
              have hlt : o + (cap * csize c' - 1) < arr.size := by
                rw [Option.isSome_iff_exists] at this
                obtain ⟨u, hu⟩ := this
                exact (Array.getElem?_eq_some_iff.1 hu).1
              show o + cap * csize c' ≤ arr.size
              omega
            · obtain ⟨cs, hd, hv⟩ := hel m z hm
              refine ⟨cs, hd.flat hf, fun j u hj => ?_⟩
              have := hv j u hj
              rwa [cell_of (w := w') harr] at this)
          refine ⟨_, m1, hL1.trans m2, resT_tr (hres _ ⟨⟨b, o, xs.length, cap, csize c', false, none⟩, upd_same _ _ _, ?_⟩)⟩
          rw [e]; rfl

end
end Ai
end Go.Proofs.Ytpknhlnoaehffaa
