/-
  The ideal interpreter against the machine: a call's end.
-/
import Derived.Test.YtpknhlnoaehffaaA24
namespace Go.Proofs.Ytpknhlnoaehffaa
namespace Ai
set_option linter.unusedSimpArgs false
set_option linter.unusedVariables false

section
variable {A : Base} {g : Nat → Option Loc} {B Bx : Nat → BS} {w w' : World} {mask : Nat}

theorem keptA_sub : ∀ (as : List ASh) (ts : List T) (p : Nat), ∀ id ∈ keptA Bx mask p as ts, id ∈ seenA Bx as ts
  | [], ts, p, id, h => by simp [keptA] at h
  | s :: r, [], p, id, h => by simp [keptA] at h
  | s :: r, t :: ts, p, id, h => by
    simp only [keptA, List.mem_append] at h
    simp only [seenA]
    rcases h with h | h
    · refine List.mem_append_left _ ?_
      unfold keptT at h
      split at h
      · exact h
      · cases hb : mask.testBit p <;> rw [hb] at h
        · simp at h
        · exact h
    · exact List.mem_append_right _ (List.mem_append_right _ (keptA_sub r ts (p + 1) id h))

theorem keptA_mem : ∀ (as : List ASh) (ts : List T) (p i : Nat) (s : ASh) (t : T), as[i]? = some s → ts[i]? = some t → (mask.testBit (p + i) = true ∨ ∃ c, s = .rbox c) → ∀ id ∈ seenT Bx s t, id ∈ keptA Bx mask p as ts
  | [], _, _, _, _, _, h, _, _, _, _ => by simp at h
  | _ :: _, [], _, _, _, _, _, h, _, _, _ => by simp at h
  | s0 :: r, t0 :: ts, p, 0, s, t, hs, ht, hm, id, hi => by
    simp at hs ht; subst hs ht
    simp only [keptA]
    refine List.mem_append_left _ ?_
    rcases hm with hm | ⟨c, rfl⟩
    · unfold keptT
      split
      · exact hi
      · rw [Nat.add_zero] at hm; rw [hm]; exact hi
    · exact hi
  | s0 :: r, t0 :: ts, p, i + 1, s, t, hs, ht, hm, id, hi => by
    simp only [keptA]
    exact List.mem_append_right _ (keptA_mem r ts (p + 1) i s t (by simpa using hs) (by simpa using ht) (by rwa [show p + 1 + i = p + (i + 1) by omega]) id hi)

theorem seen_vec {s : ASh} {t : T} {x1 : In1 s} (h : packT Bx s t = some x1) : ∀ id ∈ seenT Bx s t, ∃ v, vecOf Bx id = some v := by
  cases s with
  | d c agg =>
    simp only [packT] at h
    split at h
    · rename_i v
      intro id hi
      simp only [seenT] at hi
      rcases decArg_inv h with ⟨_, s, rfl, hd⟩ | ⟨_, cs, rfl, hd⟩
      · exact dec_ids _ _ _ hd id hi
      · exact dec_ids _ _ _ hd id hi
    · cases h
  | own c => intro id hi; simp [seenT] at hi
  | ref c => intro id hi; simp [seenT] at hi
  | rag a e => intro id hi; simp [seenT] at hi
  | k s => intro id hi; simp [seenT] at hi
  | rp c =>
    simp only [packT] at h
    split at h
    · rename_i q hq
      split at h
      · rename_i cs hcs
        intro id hi
        simp only [seenT, hq] at hi
        cases q with
        | ptr k =>
          simp only [boxOf] at hcs
          split at hcs
          · rename_i cs' hb
            cases hcs
            simp only [capCont, hb, List.append_nil] at hi
            exact dec_ids _ _ _ h id hi
          · cases hcs
        | pp _ _ _ => simp [capCont] at hi
      · cases h
    · cases h
  | rbox c =>
    simp only [packT] at h
    split at h
    · rename_i id0 hid
      split at h
      · rename_i cs hcs
        simp only [boxOf] at hcs
        split at hcs
        · rename_i cs' hb
          cases hcs
          intro id hi
          simp only [seenT, hid, hb] at hi
          exact dec_ids _ _ _ h id hi
        · cases hcs
      · cases h
    · cases h
  | clo f caps =>
    simp only [packT] at h
    split at h
    · rename_i gf cps
      split at h
      · intro id hi
        simp only [seenT] at hi
        have one : ∀ (c : Cd) (q : Cap) (l : List Sc) (x : El c), boxOf Bx q = some l → decC Bx c l = some x → ∀ id ∈ capCont Bx [q], ∃ v, vecOf Bx id = some v := by
          intro c q l x hl hd id hi
          cases q with
          | ptr k =>
            simp only [boxOf] at hl
            split at hl
            · rename_i cs hb
              cases hl
              simp only [capCont, hb, List.append_nil] at hi
              exact dec_ids _ _ _ hd id hi
            · cases hl
          | pp _ _ _ => simp [capCont] at hi
        have cont1 : ∀ (q : Cap) (r : List Cap), capCont Bx (q :: r) = capCont Bx [q] ++ capCont Bx r := by
          intro q r; cases q <;> simp [capCont]
        have key : ∀ (caps : List Cd) (cps : List Cap) (x : El (pairs caps)), decCaps Bx caps cps = some x → ∀ id ∈ capCont Bx cps, ∃ v, vecOf Bx id = some v := by
          intro caps
          induction caps with
          | nil =>
            intro cps x h id hi
            cases cps with
            | nil => simp [capCont] at hi
            | cons => simp [decCaps] at h
          | cons c r ih =>
            intro cps x h id hi
            cases cps with
            | nil => simp [capCont] at hi
            | cons q qs =>
              rw [cont1, List.mem_append] at hi
              cases r with
              | nil =>
                cases qs with
                | nil =>
                  simp only [decCaps] at h
                  split at h
                  · rename_i l hl
                    rcases hi with hi | hi
                    · exact one c q l x hl h id hi
                    · simp [capCont] at hi
                  · cases h
                | cons => simp [decCaps] at h
              | cons c2 r2 =>
                simp only [decCaps] at h
                split at h
                · rename_i l hl
                  split at h
                  · rename_i x1 y1 hx1 hy1
                    rcases hi with hi | hi
                    · exact one c q l x1 hl hx1 id hi
                    · exact ih qs y1 hy1 id hi
                  · cases h
                · cases h
        exact key caps cps x1 h id hi
      · cases h
    · cases h

theorem packA_get : ∀ (as : List ASh) (ts : List T) (x : Tup (acodes as)) (i : Nat) (s : ASh) (t : T), packA Bx as ts = some x → as[i]? = some s → ts[i]? = some t → ∃ x1, packT Bx s t = some x1
  | [], _, _, _, _, _, _, h, _ => by simp at h
  | _ :: _, [], _, _, _, _, _, _, h => by simp at h
  | s0 :: r, t0 :: ts, x, 0, s, t, hp, hs, ht => by
    simp at hs ht; subst hs ht
    obtain ⟨x1, y, h1, _, _⟩ := packA_cons hp
    exact ⟨x1, h1⟩
  | s0 :: r, t0 :: ts, x, i + 1, s, t, hp, hs, ht => by
    obtain ⟨x1, y, _, h2, _⟩ := packA_cons hp
    exact packA_get r ts y i s t h2 (by simpa using hs) (by simpa using ht)

theorem frz_done (hB : Sub Bx B) {ids : List Nat} {id : Nat} (hi : id ∈ ids) {v : Vc} (hv : vecOf Bx id = some v) : isLive (applyB B (frzL Bx ids)) id = false := by
  by_cases h : ∃ org c xs, Bx id = .live (.vec org c xs)
  · obtain ⟨org, c, xs, h⟩ := h
    simp [isLive, frz_get h hi]
  · have h : ∀ org c xs, Bx id ≠ .live (.vec org c xs) := fun o c xs e => h ⟨o, c, xs, e⟩
    unfold vecOf at hv
    split at hv
    · rename_i e; exact (h _ _ _ e).elim
    · rename_i e
      unfold isLive
      rw [frz_else h, hB.ro _ _ _ _ e]
    · cases hv

theorem frz_notin {ids : List Nat} {id : Nat} (hi : id ∉ ids) : applyB B (frzL Bx ids) id = B id :=
  applyB_notin _ _ fun h => by
    obtain ⟨p, hp, e⟩ := List.mem_map.1 h
    obtain ⟨_, _, _, _, _, hm⟩ := frzL_of ids p hp
    rw [e] at hm
    exact hi hm

theorem frz_live {ids : List Nat} {id : Nat} {b : Blk} (h : applyB B (frzL Bx ids) id = .live b) : B id = .live b := by
  by_cases hm : ∃ p ∈ frzL Bx ids, p.1 = id
  · obtain ⟨p, hp, rfl⟩ := hm
    obtain ⟨o, c, xs, h1, h2, h3⟩ := frzL_of ids p hp
    rw [frz_get h1 h3] at h; cases h
  · rw [applyB_notin] at h
    · exact h
    · intro hx
      obtain ⟨p, hp, e⟩ := List.mem_map.1 hx
      exact hm ⟨p, hp, e⟩

theorem eff_keys : ∀ (as : List ASh) (ts : List T) (x : Tup (acodes as)) (z : Tup (outs as)), packA Bx as ts = some x → (effA as ts (orgA Bx as ts) z).map (·.1) = lentA as ts
  | [], _, _, _, _ => by simp [effA, lentA]
  | _ :: _, [], _, _, _ => by simp [effA, lentA]
  | s :: r, t :: ts, x, z, hp => by
    obtain ⟨x1, y, h1, h2, _⟩ := packA_cons hp
    simp only [orgA, effA, lentA, List.map_append]
    rw [eff_keys r ts y _ h2]
    congr 1
    cases s with
    | d _ _ => rfl
    | clo _ _ => rfl
    | rp _ => rfl
    | k _ => rfl
    | own c => simp only [effT, lentT]; cases nameT t <;> rfl
    | ref c => simp only [effT, lentT]; cases nameT t <;> rfl
    | rag a e => simp only [effT, lentT]; cases nameG a t <;> rfl
    | rbox c => simp only [effT, lentT]; cases ptrT t <;> rfl

theorem eff_entry {A' : Base} {as0 : List ASh} : ∀ (as : List ASh) (ts : List T) (p : Nat) (z : Tup (outs as)), OuR A' as0 w' p as z → ∀ q ∈ effA as ts (orgA Bx as ts) z, ∃ i s t, as[i]? = some s ∧ ts[i]? = some t ∧ lentT s t = [q.1] ∧
    ((∃ c, s = .own c ∧ q.2 = .dead) ∨
     (∃ c xs l, (s = .ref c ∨ ∃ a, s = .rag a c) ∧ q.2 = .live (.vec (orgT Bx s t) c xs) ∧ A'.pin (8 * (p + i) + 5) = some l ∧ BR (cxE A' as0 w') (.vec (2 ^ (p + i)) c xs) l) ∨
     (∃ c xv l, s = .rbox c ∧ q.2 = .live (.box (scells (orgT Bx s t) c xv)) ∧ A'.pin (8 * (p + i) + 5) = some l ∧ (l.o = 0 ∧ l.nil = false) ∧ ∃ arr t', w'.heap[l.b]? = some (.cells arr t' (0, 0)) ∧ DR w' ((cxE A' as0 w').ok (2 ^ (p + i))) c xv arr.toList))
  | [], _, _, _, _, q, h => by simp [effA] at h
  | _ :: _, [], _, _, _, q, h => by simp [effA] at h
  | s :: r, t :: ts, p, z, ho, q, h => by
    simp only [orgA, effA, List.mem_append] at h
    have tail : OuR A' as0 w' (p + 1) r (otl s z) := by
      cases s with
      | d _ _ => exact ho
      | own _ => exact ho
      | clo _ _ => exact ho
      | rp _ => exact ho
      | k _ => exact ho
      | ref c => exact ho.2
      | rag a c => exact ho.2
      | rbox c => exact ho.2
    rcases h with h | h
    · refine ⟨0, s, t, rfl, rfl, ?_⟩
      cases s with
      | d _ _ => simp [effT] at h
      | clo _ _ => simp [effT] at h
      | rp _ => simp [effT] at h
      | k _ => simp [effT] at h
      | own c =>
        simp only [effT] at h
        cases hn : nameT t with
        | none => rw [hn] at h; simp at h
        | some id =>
          rw [hn] at h
          simp only [List.mem_singleton] at h
          subst h
          exact ⟨by simp [lentT, hn], .inl ⟨c, rfl, rfl⟩⟩
      | ref c =>
        simp only [effT] at h
        cases hn : nameT t with
        | none => rw [hn] at h; simp at h
        | some id =>
          rw [hn] at h
          simp only [List.mem_singleton] at h
          subst h
          obtain ⟨⟨l, h1, h2⟩, _⟩ := ho
          exact ⟨by simp [lentT, hn], .inr (.inl ⟨c, _, l, .inl rfl, rfl, h1, h2⟩)⟩
      | rag a c =>
        simp only [effT] at h
        cases hn : nameG a t with
        | none => rw [hn] at h; simp at h
        | some q0 =>
          rw [hn] at h
          simp only [List.mem_singleton] at h
          subst h
          obtain ⟨⟨l, h1, h2⟩, _⟩ := ho
          exact ⟨by simp [lentT, hn], .inr (.inl ⟨c, _, l, .inr ⟨a, rfl⟩, rfl, h1, h2⟩)⟩
      | rbox c =>
        simp only [effT] at h
        cases hn : ptrT t with
        | none => rw [hn] at h; simp at h
        | some id =>
          rw [hn] at h
          simp only [List.mem_singleton] at h
          subst h
          obtain ⟨⟨l, h1, h2, h3⟩, _⟩ := ho
          exact ⟨by simp [lentT, hn], .inr (.inr ⟨c, _, l, rfl, rfl, h1, h2, h3⟩)⟩
    · obtain ⟨i, s', t', h1, h2, h3, h4⟩ := eff_entry r ts (p + 1) _ tail q h
      refine ⟨i + 1, s', t', by simpa using h1, by simpa using h2, h3, ?_⟩
      rw [show p + (i + 1) = p + 1 + i by omega]
      exact h4

theorem gA_at (g : Nat → Option Loc) : ∀ (as : List ASh) (ts : List T) (p i : Nat) (s : ASh) (t : T), as[i]? = some s → ts[i]? = some t → isLent s = true → gA g p as ts (8 * (p + i) + 5) = gT g s t
  | [], _, _, _, _, _, h, _, _ => by simp at h
  | _ :: _, [], _, _, _, _, _, h, _ => by simp at h
  | s0 :: r, t0 :: ts, p, 0, s, t, hs, ht, hl => by
    simp at hs ht; subst hs ht
    simp only [gA, hl, cond_true, Nat.add_zero]
    rw [upd_same]
  | s0 :: r, t0 :: ts, p, i + 1, s, t, hs, ht, hl => by
    have ih := gA_at g r ts (p + 1) i s t (by simpa using hs) (by simpa using ht) hl
    rw [show p + (i + 1) = p + 1 + i by omega]
    simp only [gA]
    cases isLent s0
    · exact ih
    · simp only [cond_true]; rw [upd_ne _ _ (by omega)]; exact ih

theorem refIds_mem : ∀ (as : List ASh) (p i : Nat) (s : ASh), as[i]? = some s → ((∃ c, s = .ref c ∨ ∃ a, s = .rag a c) ∨ ∃ c, s = .rbox c) → 8 * (p + i) + 5 ∈ refIds p as
  | [], _, _, _, h, _ => by simp at h
  | s0 :: r, p, 0, s, hs, hr => by
    simp at hs; subst hs
    rcases hr with ⟨c, rfl | ⟨a, rfl⟩⟩ | ⟨c, rfl⟩ <;> (simp only [refIds, Nat.add_zero]; exact List.mem_cons_self ..)
  | s0 :: r, p, i + 1, s, hs, hr => by
    have ih := refIds_mem r (p + 1) i s (by simpa using hs) hr
    rw [show p + (i + 1) = p + 1 + i by omega]
    cases s0 <;> simp only [refIds] <;> first
      | exact ih
      | exact List.mem_cons_of_mem _ ih

theorem orgR_le : ∀ (orgs : List Nat) (n i o mask : Nat), orgs[i]? = some o → mask.testBit (n + i) = true → orgLe o (orgR mask n orgs) = true
  | [], _, _, _, _, h, _ => by simp at h
  | o0 :: r, n, 0, o, mask, h, hm => by
    simp at h; subst h
    rw [Nat.add_zero] at hm
    simp only [orgR, hm, cond_true]
    exact orgLe_or_left _ _
  | o0 :: r, n, i + 1, o, mask, h, hm => by
    simp only [orgR]
    refine orgLe_trans (orgR_le r (n + 1) i o mask (by simpa using h) (by rwa [show n + 1 + i = n + (i + 1) by omega])) (orgLe_or_right _ _)

theorem orgA_get : ∀ (as : List ASh) (ts : List T) (i : Nat) (s : ASh) (t : T), as[i]? = some s → ts[i]? = some t → (orgA Bx as ts)[i]? = some (orgT Bx s t)
  | [], _, _, _, _, h, _ => by simp at h
  | _ :: _, [], _, _, _, _, h => by simp at h
  | s0 :: r, t0 :: ts, 0, s, t, hs, ht => by
    simp at hs ht; subst hs ht; rfl
  | s0 :: r, t0 :: ts, i + 1, s, t, hs, ht => by
    simp only [orgA, List.getElem?_cons_succ]
    exact orgA_get r ts i s t (by simpa using hs) (by simpa using ht)

theorem mask_bit : ∀ (rs : List RSh) (n : Nat) (r : RSh) (p : Nat), r ∈ rs → r.org.testBit p = true → (rs.foldl (fun m r => m ||| r.org) n).testBit p = true := by
  have mono : ∀ (rs : List RSh) (n p : Nat), n.testBit p = true → (rs.foldl (fun m r => m ||| r.org) n).testBit p = true := by
    intro rs
    induction rs with
    | nil => intro n p h; exact h
    | cons a rs ih => intro n p h; rw [List.foldl_cons]; exact ih _ _ (by rw [Nat.testBit_or, h, Bool.true_or])
  intro rs
  induction rs with
  | nil => intro n r p h; simp at h
  | cons a rs ih =>
    intro n r p h hb
    rw [List.foldl_cons]
    rcases List.mem_cons.1 h with rfl | h
    · exact mono _ _ _ (by rw [Nat.testBit_or, hb, Bool.or_true])
    · exact ih _ r p h hb

end
end Ai
end Go.Proofs.Ytpknhlnoaehffaa
