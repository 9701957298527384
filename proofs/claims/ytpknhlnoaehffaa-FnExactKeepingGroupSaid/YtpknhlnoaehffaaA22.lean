/-
  The ideal interpreter against the machine: a call's beginning.
-/
import Derived.Test.YtpknhlnoaehffaaA21
namespace Go.Proofs.Ytpknhlnoaehffaa
namespace Ai
set_option linter.unusedSimpArgs false
set_option linter.unusedVariables false

section
variable {A : Base} {g : Nat → Option Loc} {B Bx : Nat → BS} {w : World} {as0 : List ASh} {ts0 : List T}

/-- The callee's own names are new. -/
theorem Ak.lend (hM : Mem A g B w) {p : Nat} {as : List ASh} {ts : List T} {us : List Value} {st : St} {s : ASh} {t : T} {v : Value} {sc : T} {blk : Blk} {l : Loc} {id0 : Nat} (h : Ak A g B Bx w as0 ts0 (p + 1) as ts us st)
    (hl : lentT s t = [id0]) (hn : id0 ∉ lentA as ts) (hlive : ∀ id ∈ lentA (s :: as) (t :: ts), ∃ blk, B id = .live blk) (hg : gA g 0 as0 ts0 (8 * p + 5) = some l) (hg0 : g id0 = some l) {blk0 : Blk} (hb0 : B id0 = .live blk0) (hbr : BR (cxF A g B Bx w as0 ts0) blk l)
    (hv : TR (cxF A g B Bx w as0 ts0) sc v) : Ak A g B Bx w as0 ts0 p (s :: as) (t :: ts) (v :: us) { tm := upd st.tm p sc, bk := upd st.bk (8 * p + 5) (.live blk) } := by
  have hle : lentA (s :: as) (t :: ts) = id0 :: lentA as ts := by simp only [lentA, hl]; rfl
  refine ⟨fun i u hi => ?_, fun m hm => ?_, fun id b hb => ?_, fun id hf => ?_, fun id org c xs => ?_, fun id id' b b' l1 l2 hi hi' g1 g2 n1 n2 e => ?_⟩
  · cases i with
    | zero =>
      simp only [List.getElem?_cons_zero, Option.some.injEq] at hi
      subst hi
      show TR _ (upd st.tm p sc (p + 0)) _
      rw [Nat.add_zero, upd_same]; exact hv
    | succ i =>
      show TR _ (upd st.tm p sc (p + (i + 1))) _
      rw [upd_ne _ _ (by omega), show p + (i + 1) = p + 1 + i by omega]
      exact h.tm i u (by simpa using hi)
  · show upd st.tm p sc m = _
    simp only [List.length_cons] at hm
    rw [upd_ne _ _ (by omega)]
    exact h.tm0 m (by omega)
  · rcases upd_cases st.bk (8 * p + 5) id (.live blk) with ⟨rfl, h1⟩ | ⟨ne, h1⟩
    · have hb2 := h1.symm.trans hb
      cases hb2
      exact ⟨⟨Nat.le_refl _, by omega⟩, l, hg, hbr, id0, by rw [hle]; simp, blk0, hb0, hg0⟩
    · obtain ⟨⟨q1, q2⟩, l', q3, q4, id1, q5, q6⟩ := h.br id b (h1 ▸ hb)
      exact ⟨⟨by omega, q2⟩, l', q3, q4, id1, by rw [hle]; exact List.mem_cons_of_mem _ q5, q6⟩
  · rcases upd_cases st.bk (8 * p + 5) id (.live blk) with ⟨rfl, h1⟩ | ⟨ne, h1⟩
    · have hb2 := h1.symm.trans hf
      cases hb2
    · exact h.nofresh id (h1 ▸ hf)
  · rcases upd_cases st.bk (8 * p + 5) id (.live blk) with ⟨rfl, h1⟩ | ⟨ne, h1⟩
    · show upd _ _ _ _ ≠ _
      rw [h1]; simp
    · show upd _ _ _ _ ≠ _
      rw [h1]; exact h.noro id org c xs
  · have src : ∀ i b l1, upd st.bk (8 * p + 5) (.live blk) i = .live b → gA g 0 as0 ts0 i = some l1 → (i = 8 * p + 5 ∧ l1 = l) ∨ (i ≠ 8 * p + 5 ∧ st.bk i = .live b ∧ ∃ id1 ∈ lentA as ts, g id1 = some l1) := fun i b l1 hi g1 => by
      rcases upd_cases st.bk (8 * p + 5) i (.live blk) with ⟨rfl, h1⟩ | ⟨ne, h1⟩
      · rw [hg] at g1; cases g1; exact .inl ⟨rfl, rfl⟩
      · have hi2 := h1 ▸ hi
        obtain ⟨_, l', q3, _, id1, q5, _, _, q6⟩ := h.br i b hi2
        rw [g1] at q3; cases q3
        exact .inr ⟨ne, hi2, id1, q5, q6⟩
    rcases src id b l1 hi g1 with ⟨e1, rfl⟩ | ⟨e1, hb1, id1, m1, p1⟩ <;> rcases src id' b' l2 hi' g2 with ⟨e2, rfl⟩ | ⟨e2, hb2, id2, m2, p2⟩
    · rw [e1, e2]
    · exfalso
      obtain ⟨bb, hbb⟩ := hlive id2 (by rw [hle]; exact List.mem_cons_of_mem _ m2)
      have := hM.inj id0 id2 _ _ _ _ hb0 hbb hg0 p2 n1 n2 e
      subst this; exact hn m2
    · exfalso
      obtain ⟨bb, hbb⟩ := hlive id1 (by rw [hle]; exact List.mem_cons_of_mem _ m1)
      have := hM.inj id1 id0 _ _ _ _ hbb hb0 p1 hg0 n1 n2 e
      subst this; exact hn m1
    · exact h.inj id id' b b' l1 l2 hb1 hb2 g1 g2 n1 n2 e

theorem Ak.keep {p : Nat} {as : List ASh} {ts : List T} {us : List Value} {st : St} {s : ASh} {t : T} {v : Value} {x : T} (h : Ak A g B Bx w as0 ts0 (p + 1) as ts us st) (hl : lentT s t = []) (hv : TR (cxF A g B Bx w as0 ts0) x v) :
    Ak A g B Bx w as0 ts0 p (s :: as) (t :: ts) (v :: us) { st with tm := upd st.tm p x } := by
  have hle : lentA (s :: as) (t :: ts) = lentA as ts := by simp only [lentA, hl]; rfl
  refine ⟨fun i u hi => ?_, fun m hm => ?_, fun id b hb => ?_, h.nofresh, h.noro, h.inj⟩
  · cases i with
    | zero =>
      simp only [List.getElem?_cons_zero, Option.some.injEq] at hi
      subst hi
      show TR _ (upd st.tm p x (p + 0)) _
      rw [Nat.add_zero, upd_same]; exact hv
    | succ i =>
      show TR _ (upd st.tm p x (p + (i + 1))) _
      rw [upd_ne _ _ (by omega), show p + (i + 1) = p + 1 + i by omega]
      exact h.tm i u (by simpa using hi)
  · show upd st.tm p x m = _
    simp only [List.length_cons] at hm
    rw [upd_ne _ _ (by omega)]
    exact h.tm0 m (by omega)
  · obtain ⟨⟨q1, q2⟩, l', q3, q4, id1, q5, q6⟩ := h.br id b hb
    exact ⟨⟨by omega, q2⟩, l', q3, q4, id1, by rw [hle]; exact q5, q6⟩

theorem gA_below (g : Nat → Option Loc) : ∀ (as : List ASh) (ts : List T) (p id : Nat), id < 8 * p + 5 → gA g p as ts id = none
  | [], _, _, _, _ => rfl
  | _ :: _, [], _, _, _ => rfl
  | s :: r, t :: ts, p, id, h => by
    simp only [gA]
    cases isLent s
    · exact gA_below g r ts (p + 1) id (by omega)
    · simp only [cond_true]; rw [upd_ne _ _ (by omega)]; exact gA_below g r ts (p + 1) id (by omega)

theorem ak_of (hM : Mem A g B w) (hB : Sub Bx B) (hX : ∀ id ∈ lentA as0 ts0, ∃ blk, Bx id = .live blk ∧ B id = .live blk) (hap : ∀ id ∈ lentA as0 ts0, id ∉ seenA Bx as0 ts0) :
    ∀ (as : List ASh) (ts : List T) (us : List Value) (p : Nat) (x : Tup (acodes as)), packA Bx as ts = some x → All2 (TR (cxOf A g B w)) ts us → nodupB (lentA as ts) = true → (∀ (i : Nat) s, as[i]? = some s → as0[p + i]? = some s) → (∀ (i : Nat) t, ts[i]? = some t → ts0[p + i]? = some t) →
      (∀ id ∈ lentA as ts, id ∈ lentA as0 ts0) → (∀ id, 8 * p + 5 ≤ id → gA g 0 as0 ts0 id = gA g p as ts id) → Ak A g B Bx w as0 ts0 p as ts us (mkA p as x)
  | [], ts, us, p, x, hp, ha, _, _, _, _, _ => by
    cases ts with
    | nil =>
      cases us with
      | nil =>
        refine ⟨fun i v h => by simp at h, fun _ _ => rfl, fun id blk h => (bk0_live id blk h).elim, fun id h => ?_, fun id org c xs => bk0_ro id org c xs, fun id _ b _ _ _ h => (bk0_live id b h).elim⟩
        intro h5
        simp [mkA, bk0, h5] at h
      | cons => exact ha.elim
    | cons => simp [packA] at hp
  | s :: r, [], us, p, x, hp, _, _, _, _, _, _ => by simp [packA] at hp
  | s :: r, t :: ts, [], p, x, hp, ha, _, _, _, _, _ => ha.elim
  | s :: r, t :: ts, v :: us, p, x, hp, ha, hnd, hs, ht, hle, hg => by
    obtain ⟨x1, y, h1, h2, rfl⟩ := packA_cons hp
    obtain ⟨hv, ha'⟩ := ha
    obtain ⟨hnd', hnd2⟩ := nodupB_app (show nodupB (lentT s t ++ lentA r ts) = true from hnd)
    have hg' : ∀ id, 8 * (p + 1) + 5 ≤ id → gA g 0 as0 ts0 id = gA g (p + 1) r ts id := fun id hid => by
      rw [hg id (by omega)]
      simp only [gA]
      cases isLent s
      · rfl
      · simp only [cond_true]; rw [upd_ne _ _ (by omega)]
    have ih := ak_of hM hB hX hap r ts us (p + 1) y h2 ha' hnd' (fun i s' hi => by have := hs (i + 1) s' (by simpa using hi); rwa [show p + (i + 1) = p + 1 + i by omega] at this)
      (fun i t' hi => by have := ht (i + 1) t' (by simpa using hi); rwa [show p + (i + 1) = p + 1 + i by omega] at this) (fun id hi => hle id (by simp only [lentA]; exact List.mem_append_right _ hi)) hg'
    have hs0 : as0[p]? = some s := by have := hs 0 s rfl; simpa using this
    have ht0 : ts0[p]? = some t := by have := ht 0 t rfl; simpa using this
    have hok : ∀ b, okI A g B (seenT Bx s t) (orgT Bx s t) b → (cxF A g B Bx w as0 ts0).ok (2 ^ p) b := fun b hb => ok_arg hX hap hs0 ht0 (seenT_sub as0 ts0 p s t hs0 ht0) hb
    simp only [mkA, tl1_cons, hd1_cons]
    obtain ⟨hlv, hlent⟩ := lentT_live hB h1
    have hlive : ∀ id ∈ lentA (s :: r) (t :: ts), ∃ blk, B id = .live blk := fun id hi => by
      obtain ⟨blk, _, hb⟩ := hX id (hle id hi)
      exact ⟨blk, hb⟩
    -- an owned slice
    have lendV : ∀ (c : Cd) (m : Nat) (xs : List (El c)) (id : Nat) (X : T), isLent s = true → lentT s t = [id] → ownedL Bx c id = some xs → (cflat c = true ∨ m = 2 ^ p) → seenT Bx s t = [] → orgT Bx s t = orgL Bx [.own id] →
        (∀ l, g id = some l → gA g 0 as0 ts0 (8 * p + 5) = some l → TR (cxF A g B Bx w as0 ts0) X v) →
        Ak A g B Bx w as0 ts0 p (s :: r) (t :: ts) (v :: us) { tm := upd (mkA (p + 1) r y).tm p X, bk := upd (mkA (p + 1) r y).bk (8 * p + 5) (.live (.vec m c xs)) } := by
      intro c m xs id X hil hlt how hm hseen horg hXv
      obtain ⟨org0, c', xs', hb, ho, hc, rfl⟩ := ownedL_inv how
      have hbB := hB.live _ _ hb
      obtain ⟨l, hgl, hbr, _⟩ := hM.br id _ hbB
      have hg0 : gA g 0 as0 ts0 (8 * p + 5) = some l := by
        rw [hg _ (Nat.le_refl _)]
        simp only [gA, hil, cond_true]
        rw [upd_same]
        simp only [gT, hlt]; exact hgl
      refine ih.lend hM hlt (by have := hnd2 id (by rw [hlt]; simp); exact this) hlive hg0 hgl hbB (castL_br hc ?_) (hXv l hgl hg0)
      subst hc
      rcases hbr with h | ⟨hnl, hS, hn, hcp, hsz, arr, tt, harr, hfit, hel⟩
      · exact .inl h
      · have hXl : lentX g as0 ts0 l.b := ⟨id, hle id (by simp only [lentA, hlt]; simp), l, hgl, hnl, rfl⟩
        refine .inr ⟨hnl, .inr (.inl hXl), hn, hcp, hsz, arr, tt, harr, hfit, fun i z hz => ?_⟩
        obtain ⟨cs, hd, hcell⟩ := hel i z hz
        refine ⟨cs, ?_, hcell⟩
        rcases hm with hf | rfl
        · exact hd.flat hf
        · refine hd.mono (Nat.le_refl _) fun b hbb hok' => ⟨hok b ?_, rfl⟩
          rw [hseen, horg]
          refine okI_of ⟨?_, hok'.2⟩
          have : orgL Bx [.own id] = org0 := by simp [orgL, ho]
          rw [this]; exact hok'.1
    have ownX : ∀ id, nameT t = some id → ∀ l, g id = some l → gA g 0 as0 ts0 (8 * p + 5) = some l → TR (cxF A g B Bx w as0 ts0) (one (.own (8 * p + 5))) v := fun id hname l hgl hg0 => by
      have htv : TR (cxOf A g B w) (.v (.one (.own id))) v := by rw [← nameT_inv hname]; exact hv
      obtain ⟨l', hgl', hve⟩ := (show SR (cxOf A g B w) (.own id) v from htv)
      have hgl2 : g id = some l' := hgl'
      rw [hgl] at hgl2; cases hgl2
      exact ⟨l, hg0, hve⟩
    cases s with
    | d c agg =>
      simp only [packT] at h1
      split at h1
      · rename_i vv
        refine ih.keep rfl ?_
        refine mkVal_tr ?_
        rcases decArg_inv h1 with ⟨e, s', rfl, hd⟩ | ⟨e, cs, rfl, hd⟩
        · subst e
          exact (decC_dr hM hB (I := idsL [s']) (org := orgL Bx [s']) (ss := [s']) (cs := [v]) ⟨hv, trivial⟩ hd (fun _ h _ => h) (orgLe_refl _)).mono (Nat.le_refl _) fun b hb hok' => ⟨hok b hok', rfl⟩
        · subst e
          obtain ⟨arr, rfl, hall⟩ := hv
          exact ⟨arr, rfl, (decC_dr hM hB (I := idsL cs) (org := orgL Bx cs) hall hd (fun _ h _ => h) (orgLe_refl _)).mono (Nat.le_refl _) fun b hb hok' => ⟨hok b hok', rfl⟩⟩
      · cases h1
    | own c =>
      simp only [packT] at h1
      split at h1
      · rename_i id hid
        refine lendV c (cond (cflat c) 0 (2 ^ p)) x1 id _ rfl (by simp [lentT, hid]) h1 ?_ rfl ?_ (ownX id hid)
        · cases cflat c
          · exact .inr rfl
          · exact .inl rfl
        · rw [nameT_inv hid]; rfl
      · cases h1
    | ref c =>
      simp only [packT] at h1
      split at h1
      · rename_i id hid
        refine lendV c (2 ^ p) x1 id _ rfl (by simp [lentT, hid]) h1 (.inr rfl) rfl ?_ (ownX id hid)
        rw [nameT_inv hid]; rfl
      · cases h1
    | rag a e =>
      simp only [packT] at h1
      split at h1
      · rename_i q hid
        obtain ⟨hf, hd, how⟩ := packG_inv h1
        refine lendV e (2 ^ p) x1.2 q.2 _ rfl (by simp [lentT, hid]) how (.inr rfl) rfl (by simp only [orgT, hid]) fun l hgl hg0 => ?_
        have ht := nameG_inv (fl := q.1) (id := q.2) hid
        rw [ht] at hv
        obtain ⟨arr, rfl, hall⟩ := (show ∃ arr : Array Value, v = .agg arr ∧ All2 (SR (cxOf A g B w)) (q.1 ++ [.own q.2]) arr.toList from hv)
        have hd0 := hall.take q.1.length
        have hd1 := hall.drop q.1.length
        rw [List.take_left'  rfl] at hd0
        rw [List.drop_left' rfl] at hd1
        refine ⟨arr, rfl, ?_⟩
        rw [← List.take_append_drop q.1.length arr.toList]
        refine All2.append ?_ ?_
        · refine scells_sr ?_
          exact ((decC_dr hM hB (I := idsL q.1) (org := orgL Bx q.1) hd0 hd (fun _ h _ => h) (orgLe_refl _)).flat hf)
        · match hrest : arr.toList.drop q.1.length, hd1 with
          | [u], hd1 =>
            obtain ⟨l', hgl', hve⟩ := (show SR (cxOf A g B w) (.own q.2) u from hd1.1)
            have hgl2 : g q.2 = some l' := hgl'
            rw [hgl] at hgl2; cases hgl2
            exact ⟨⟨l, hg0, hve⟩, trivial⟩
          | [], hd1 => exact hd1.elim
          | _ :: _ :: _, hd1 => exact hd1.2.elim
      · cases h1
    | rbox c =>
      simp only [packT] at h1
      split at h1
      · rename_i id hid
        split at h1
        · rename_i cs hcs
          simp only [boxOf] at hcs
          split at hcs
          · rename_i cs' hb
            cases hcs
            have hbB := hB.live _ _ hb
            obtain ⟨l, hgl, ⟨h0, arr, tt, harr, hall⟩, _⟩ := hM.br id _ hbB
            have hlt : lentT (.rbox c) t = [id] := by simp [lentT, hid]
            have hg0 : gA g 0 as0 ts0 (8 * p + 5) = some l := by
              rw [hg _ (Nat.le_refl _)]
              simp only [gA, isLent, cond_true]
              rw [upd_same]
              simp only [gT, hlt]; exact hgl
            have htv : TR (cxOf A g B w) (.v (.one (.ptr id 0))) v := by rw [← ptrT_inv hid]; exact hv
            obtain ⟨l', hgl', hve⟩ := (show SR (cxOf A g B w) (.ptr id 0) v from htv)
            have hgl2 : g id = some l' := hgl'
            rw [hgl] at hgl2; cases hgl2
            refine ih.lend hM hlt (hnd2 id (by rw [hlt]; simp)) hlive hg0 hgl hbB ⟨h0, arr, tt, harr, ?_⟩ ⟨l, hg0, hve⟩
            refine scells_sr ?_
            have hse : seenT Bx (.rbox c) t = idsL cs := by simp [seenT, hid, hb]
            have hor : orgT Bx (.rbox c) t = orgL Bx cs := by simp [orgT, hid, hb]
            exact (decC_dr hM hB (I := idsL cs) (org := orgL Bx cs) hall h1 (fun _ h _ => h) (orgLe_refl _)).mono (Nat.le_refl _) fun b hb hok' => ⟨hok b (by rw [hse, hor]; exact hok'), rfl⟩
          · cases hcs
        · cases h1
      · cases h1
    | clo f caps =>
      simp only [packT] at h1
      split at h1
      · rename_i gf cps
        split at h1
        · rename_i hf
          have hf := Nat.eq_of_beq_eq_true hf
          subst hf
          refine ih.keep rfl ?_
          obtain ⟨cs, hve, hall⟩ := (show SR (cxOf A g B w) (.fn f cps) v from hv)
          refine ⟨cs, hve, ?_⟩
          refine caps_in hM hB hX rfl (m := 2 ^ p) rfl caps cps cs.toList x1 (capCont Bx cps) (capOrg Bx cps) (fun b hb => hok b hb) hall h1 (fun _ h => h) (orgLe_refl _) fun id hid hm => ?_
          exact hap id hid (boxT_sub as0 ts0 p _ _ hs0 ht0 id hm)
        · cases h1
      · cases h1
    | rp c =>
      simp only [packT] at h1
      split at h1
      · rename_i q hq
        split at h1
        · rename_i cs hcs
          have hqv : CapR (cxOf A g B w) q v := by
            unfold capOfT at hq
            split at hq
            · cases hq; exact hv
            · cases hq; exact hv
            · cases hq
          have hse : seenT Bx (.rp c) t = capCont Bx [q] := by simp [seenT, hq]
          have hor : orgT Bx (.rp c) t = capOrg Bx [q] := by simp [orgT, hq]
          have hbx : boxT (.rp c) t = capBox [q] := by simp [boxT, hq]
          refine ih.keep rfl ?_
          have hdc : decCaps Bx [c] [q] = some x1 := by simp only [decCaps, hcs]; exact h1
          have := caps_in hM hB hX (C := cxF A g B Bx w as0 ts0) rfl (m := 2 ^ p) rfl [c] [q] [v] x1 (capCont Bx [q]) (capOrg Bx [q]) (fun b hb => hok b (by rw [hse, hor]; exact hb)) ⟨hqv, trivial⟩ hdc (fun _ h => h) (orgLe_refl _) fun id hid hm => hap id hid (boxT_sub as0 ts0 p _ _ hs0 ht0 id (by rw [hbx]; exact hm))
          exact this.1
        · cases h1
      · cases h1
    | k sk =>
      simp only [packT] at h1
      split at h1
      · rename_i s'
        split at h1
        · rename_i he
          simp only [Bool.and_eq_true, List.isEmpty_iff] at he
          refine ih.keep rfl ?_
          exact k_S (C := cxOf A g B w) he.1 hv fun id hid => by rw [he.2] at hid; simp at hid
        · cases h1
      · cases h1

/-- A call begins in a state of the callee. -/
theorem call_in (hM : Mem A g B w) (hB : Sub Bx B) {as : List ASh} {ts : List T} {us : List Value} {x : Tup (acodes as)} (hp : packA Bx as ts = some x) (ha : All2 (TR (cxOf A g B w)) ts us) (hnd : nodupB (lentA as ts) = true) (hap : ∀ id ∈ lentA as ts, id ∉ seenA Bx as ts) :
    Mem (baseA A g B Bx w as ts) (gA g 0 as ts) (mkA 0 as x).bk w ∧ ∀ t, TR (cxOf (baseA A g B Bx w as ts) (gA g 0 as ts) (mkA 0 as x).bk w) ((mkA 0 as x).tm t) (us.toArray.getD t undef) := by
  have hX := lentA_live hB as ts x hp
  have h := ak_of hM hB hX hap as ts us 0 x hp ha hnd (fun i s h => by rwa [Nat.zero_add]) (fun i s h => by rwa [Nat.zero_add]) (fun _ h => h) (fun _ _ => rfl)
  have how : ∀ b, owOf (gA g 0 as ts) (mkA 0 as x).bk b → lentX g as ts b := by
    rintro b ⟨id, blk, l, h1, h2, h3, h4⟩
    obtain ⟨_, l', q1, _, id0, m0, blk0, _, q2⟩ := h.br id blk h1
    rw [h2] at q1; cases q1
    exact ⟨id0, m0, l, q2, h3, h4⟩
  have hL : Later (cxF A g B Bx w as ts) (cxOf (baseA A g B Bx w as ts) (gA g 0 as ts) (mkA 0 as x).bk w) := ⟨fun _ _ h => h, rfl, fun b _ hb => ⟨fun ho => hb (how b ho), rfl⟩, Nat.le_refl _⟩
  refine ⟨⟨fun id blk hb => ?_, fun id org c xs hb => (h.noro id org c xs hb).elim, h.inj, fun id hf => ?_, fun id l hpin => ?_, ⟨rfl, rfl, rfl, Nat.le_refl _, fun _ _ _ => rfl, fun k hk hx => ?_⟩⟩, fun t => ?_⟩
  · obtain ⟨_, l, h1, h2, id0, m0, blk0, h3, h4⟩ := h.br id blk hb
    refine ⟨l, h1, hL.br (fun _ => rfl) h2, fun hn => ?_⟩
    obtain ⟨l', q1, _, q2⟩ := hM.br id0 blk0 h3
    rw [h4] at q1; cases q1
    exact ⟨(q2 hn).1, .inr ⟨id0, m0, l, h4, hn, rfl⟩⟩
  · have h5 := h.nofresh id hf
    have : ∀ (as : List ASh) (ts : List T) (p : Nat), gA g p as ts id = none := by
      intro as
      induction as with
      | nil => intro ts p; cases ts <;> rfl
      | cons s r ih =>
        intro ts p
        cases ts with
        | nil => rfl
        | cons t ts =>
          simp only [gA]
          cases isLent s
          · exact ih ts (p + 1)
          · simp only [cond_true]; rw [upd_ne _ _ (by omega)]; exact ih ts (p + 1)
    exact this as ts 0
  · have h5 := (baseA A g B Bx w as ts).pinned id l hpin
    have hg : gA g 0 as ts id = some l := by
      have : (if id % 8 = 5 then gA g 0 as ts id else none) = some l := hpin
      rwa [if_pos h5] at this
    exact ⟨fun hf => h.nofresh id hf h5, fun _ => hg⟩
  · rcases hx with hx | hx
    · have : w.heap.size ≤ k := hx
      omega
    · obtain ⟨id, hm, l, h1, h2, h3⟩ := hx
      obtain ⟨blk, _, hb⟩ := hX id hm
      obtain ⟨l', q1, q2, _⟩ := hM.br id blk hb
      rw [h1] at q1; cases q1
      subst h3
      cases blk with
      | box cs => obtain ⟨_, arr, tt, harr, _⟩ := q2; rw [show w.heap[l.b]? = _ from harr]; exact .cells
      | vec org c xs =>
        rcases q2 with ⟨e, _⟩ | ⟨_, _, _, _, _, arr, tt, harr, _⟩
        · rw [h2] at e; cases e
        · rw [show w.heap[l.b]? = _ from harr]; exact .cells
      | mp _ _ _ => exact q2.elim
  · by_cases ht : t < us.length
    · have := h.tm t us[t] (by simp [ht])
      rw [Nat.zero_add] at this
      have e : us.toArray.getD t undef = us[t] := by simp [ht]
      rw [e]
      exact hL.tr this
    · rw [h.tm0 t (.inr (by omega))]
      trivial

end
end Ai
end Go.Proofs.Ytpknhlnoaehffaa
