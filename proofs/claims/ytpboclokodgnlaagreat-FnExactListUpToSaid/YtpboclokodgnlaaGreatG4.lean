/-
  The ideal interpreter against the machine: a call's beginning.
-/
import Derived.Test.YtpboclokodgnlaaGreatG3
import Derived.Deep.Slices
import Derived.Carry
import Derived.WideShapes
import Derived.ProofKit
import Derived.SizedLaws
import Derived.OpenShut
import Derived.JoinedOf
import Derived.Laws.StructEq
/-! A22: The ideal interpreter against the machine: a call's beginning. -/
namespace Go.Proofs.YtpboclokodgnlaaGreat
namespace Ai
set_option linter.unusedSimpArgs false
set_option linter.unusedVariables false

section
variable {A : Base} {g : Nat → Option Loc} {B Bx : Nat → BS} {w : World} {as0 : List ASh} {ts0 : List T}

/-- The callee's own names are new. -/
theorem Ak.lend (hM : Mem A g B w) {p : Nat} {as : List ASh} {ts : List T} {us : List Value} {st : St} {s : ASh} {t : T} {v : Value} {sc : T} {blk : Blk} {l : Loc} {id0 : Nat} (h : Ak A g B Bx w as0 ts0 (p + 1) as ts us st)
    (hl : lentT s t = [id0]) (hn : id0 ∉ lentA as ts) (hlive : ∀ id ∈ lentA (s :: as) (t :: ts), ∃ blk, B id = .live blk) (hg : gA g 0 as0 ts0 (8 * p + 5) = some l) (hg0 : g id0 = some l) {blk0 : Blk} (hb0 : B id0 = .live blk0) (hbr : BR (cxF A g B Bx w as0 ts0) blk l)
    (hv : TR (cxF A g B Bx w as0 ts0) sc v) : Ak A g B Bx w as0 ts0 p (s :: as) (t :: ts) (v :: us) { tm := upd st.tm p sc, bk := upd st.bk (8 * p + 5) (.live blk) } := by
  have hle : lentA (s :: as) (t :: ts) = id0 :: lentA as ts := by simp only [lentA, hl]; rfl
  refine ⟨fun i u hi => ?_, fun m hm => ?_, fun id b hb => ?_, fun id hf => ?_, fun id org c xs => ?_, fun id id' b b' l1 l2 hi hi' g1 g2 n1 n2 e => ?_⟩
  · cases i with
    | zero =>
      simp only [List.getElem?_cons_zero, Option.some.injEq] at hi
      subst hi
      show TR _ (upd st.tm p sc (p + 0)) _
      rw [Nat.add_zero, upd_same]; exact hv
    | succ i =>
      show TR _ (upd st.tm p sc (p + (i + 1))) _
      rw [upd_ne _ _ (by omega), show p + (i + 1) = p + 1 + i by omega]
      exact h.tm i u (by simpa using hi)
  · show upd st.tm p sc m = _
    simp only [List.length_cons] at hm
    rw [upd_ne _ _ (by omega)]
    exact h.tm0 m (by omega)
  · rcases upd_cases st.bk (8 * p + 5) id (.live blk) with ⟨rfl, h1⟩ | ⟨ne, h1⟩
    · have hb2 := h1.symm.trans hb
      cases hb2
      exact ⟨⟨Nat.le_refl _, by omega⟩, l, hg, hbr, id0, by rw [hle]; simp, blk0, hb0, hg0⟩
    · obtain ⟨⟨q1, q2⟩, l', q3, q4, id1, q5, q6⟩ := h.br id b (h1 ▸ hb)
      exact ⟨⟨by omega, q2⟩, l', q3, q4, id1, by rw [hle]; exact List.mem_cons_of_mem _ q5, q6⟩
  · rcases upd_cases st.bk (8 * p + 5) id (.live blk) with ⟨rfl, h1⟩ | ⟨ne, h1⟩
    · have hb2 := h1.symm.trans hf
      cases hb2
    · exact h.nofresh id (h1 ▸ hf)
  · rcases upd_cases st.bk (8 * p + 5) id (.live blk) with ⟨rfl, h1⟩ | ⟨ne, h1⟩
    · show upd _ _ _ _ ≠ _
      rw [h1]; simp
    · show upd _ _ _ _ ≠ _
      rw [h1]; exact h.noro id org c xs
  · have src : ∀ i b l1, upd st.bk (8 * p + 5) (.live blk) i = .live b → gA g 0 as0 ts0 i = some l1 → (i = 8 * p + 5 ∧ l1 = l) ∨ (i ≠ 8 * p + 5 ∧ st.bk i = .live b ∧ ∃ id1 ∈ lentA as ts, g id1 = some l1) := fun i b l1 hi g1 => by
      rcases upd_cases st.bk (8 * p + 5) i (.live blk) with ⟨rfl, h1⟩ | ⟨ne, h1⟩
      · rw [hg] at g1; cases g1; exact .inl ⟨rfl, rfl⟩
      · have hi2 := h1 ▸ hi
        obtain ⟨_, l', q3, _, id1, q5, _, _, q6⟩ := h.br i b hi2
        rw [g1] at q3; cases q3
        exact .inr ⟨ne, hi2, id1, q5, q6⟩
    rcases src id b l1 hi g1 with ⟨e1, rfl⟩ | ⟨e1, hb1, id1, m1, p1⟩ <;> rcases src id' b' l2 hi' g2 with ⟨e2, rfl⟩ | ⟨e2, hb2, id2, m2, p2⟩
    · rw [e1, e2]
    · exfalso
      obtain ⟨bb, hbb⟩ := hlive id2 (by rw [hle]; exact List.mem_cons_of_mem _ m2)
      have := hM.inj id0 id2 _ _ _ _ hb0 hbb hg0 p2 n1 n2 e
      subst this; exact hn m2
    · exfalso
      obtain ⟨bb, hbb⟩ := hlive id1 (by rw [hle]; exact List.mem_cons_of_mem _ m1)
      have := hM.inj id1 id0 _ _ _ _ hbb hb0 p1 hg0 n1 n2 e
      subst this; exact hn m1
    · exact h.inj id id' b b' l1 l2 hb1 hb2 g1 g2 n1 n2 e

theorem Ak.keep {p : Nat} {as : List ASh} {ts : List T} {us : List Value} {st : St} {s : ASh} {t : T} {v : Value} {x : T} (h : Ak A g B Bx w as0 ts0 (p + 1) as ts us st) (hl : lentT s t = []) (hv : TR (cxF A g B Bx w as0 ts0) x v) :
    Ak A g B Bx w as0 ts0 p (s :: as) (t :: ts) (v :: us) { st with tm := upd st.tm p x } := by
  have hle : lentA (s :: as) (t :: ts) = lentA as ts := by simp only [lentA, hl]; rfl
  refine ⟨fun i u hi => ?_, fun m hm => ?_, fun id b hb => ?_, h.nofresh, h.noro, h.inj⟩
  · cases i with
    | zero =>
      simp only [List.getElem?_cons_zero, Option.some.injEq] at hi
      subst hi
      show TR _ (upd st.tm p x (p + 0)) _
      rw [Nat.add_zero, upd_same]; exact hv
    | succ i =>
      show TR _ (upd st.tm p x (p + (i + 1))) _
      rw [upd_ne _ _ (by omega), show p + (i + 1) = p + 1 + i by omega]
      exact h.tm i u (by simpa using hi)
  · show upd st.tm p x m = _
    simp only [List.length_cons] at hm
    rw [upd_ne _ _ (by omega)]
    exact h.tm0 m (by omega)
  · obtain ⟨⟨q1, q2⟩, l', q3, q4, id1, q5, q6⟩ := h.br id b hb
    exact ⟨⟨by omega, q2⟩, l', q3, q4, id1, by rw [hle]; exact q5, q6⟩

theorem gA_below (g : Nat → Option Loc) : ∀ (as : List ASh) (ts : List T) (p id : Nat), id < 8 * p + 5 → gA g p as ts id = none
  | [], _, _, _, _ => rfl
  | _ :: _, [], _, _, _ => rfl
  | s :: r, t :: ts, p, id, h => by
    simp only [gA]
    cases isLent s
    · exact gA_below g r ts (p + 1) id (by omega)
    · simp only [cond_true]; rw [upd_ne _ _ (by omega)]; exact gA_below g r ts (p + 1) id (by omega)

theorem ak_of (hM : Mem A g B w) (hB : Sub Bx B) (hX : ∀ id ∈ lentA as0 ts0, ∃ blk, Bx id = .live blk ∧ B id = .live blk) (hap : ∀ id ∈ lentA as0 ts0, id ∉ seenA Bx as0 ts0) :
    ∀ (as : List ASh) (ts : List T) (us : List Value) (p : Nat) (x : Tup (acodes as)), packA Bx as ts = some x → All2 (TR (cxOf A g B w)) ts us → nodupB (lentA as ts) = true → (∀ (i : Nat) s, as[i]? = some s → as0[p + i]? = some s) → (∀ (i : Nat) t, ts[i]? = some t → ts0[p + i]? = some t) →
      (∀ id ∈ lentA as ts, id ∈ lentA as0 ts0) → (∀ id, 8 * p + 5 ≤ id → gA g 0 as0 ts0 id = gA g p as ts id) → Ak A g B Bx w as0 ts0 p as ts us (mkA p as x)
  | [], ts, us, p, x, hp, ha, _, _, _, _, _ => by
    cases ts with
    | nil =>
      cases us with
      | nil =>
        refine ⟨fun i v h => by simp at h, fun _ _ => rfl, fun id blk h => (bk0_live id blk h).elim, fun id h => ?_, fun id org c xs => bk0_ro id org c xs, fun id _ b _ _ _ h => (bk0_live id b h).elim⟩
        intro h5
        simp [mkA, bk0, h5] at h
      | cons => exact ha.elim
    | cons => simp [packA] at hp
  | s :: r, [], us, p, x, hp, _, _, _, _, _, _ => by simp [packA] at hp
  | s :: r, t :: ts, [], p, x, hp, ha, _, _, _, _, _ => ha.elim
  | s :: r, t :: ts, v :: us, p, x, hp, ha, hnd, hs, ht, hle, hg => by
    obtain ⟨x1, y, h1, h2, rfl⟩ := packA_cons hp
    obtain ⟨hv, ha'⟩ := ha
    obtain ⟨hnd', hnd2⟩ := nodupB_app (show nodupB (lentT s t ++ lentA r ts) = true from hnd)
    have hg' : ∀ id, 8 * (p + 1) + 5 ≤ id → gA g 0 as0 ts0 id = gA g (p + 1) r ts id := fun id hid => by
      rw [hg id (by omega)]
      simp only [gA]
      cases isLent s
      · rfl
      · simp only [cond_true]; rw [upd_ne _ _ (by omega)]
    have ih := ak_of hM hB hX hap r ts us (p + 1) y h2 ha' hnd' (fun i s' hi => by have := hs (i + 1) s' (by simpa using hi); rwa [show p + (i + 1) = p + 1 + i by omega] at this)
      (fun i t' hi => by have := ht (i + 1) t' (by simpa using hi); rwa [show p + (i + 1) = p + 1 + i by omega] at this) (fun id hi => hle id (by simp only [lentA]; exact List.mem_append_right _ hi)) hg'
    have hs0 : as0[p]? = some s := by have := hs 0 s rfl; simpa using this
    have ht0 : ts0[p]? = some t := by have := ht 0 t rfl; simpa using this
    have hok : ∀ b, b < w.heap.size → okI A g B w (seenT Bx s t) (orgT Bx s t) b → (cxF A g B Bx w as0 ts0).ok (2 ^ p) b := fun b hbl hb => ok_arg hX hap hs0 ht0 (seenT_sub as0 ts0 p s t hs0 ht0) hbl hb
    simp only [mkA, tl1_cons, hd1_cons]
    obtain ⟨hlv, hlent⟩ := lentT_live hB h1
    have hlive : ∀ id ∈ lentA (s :: r) (t :: ts), ∃ blk, B id = .live blk := fun id hi => by
      obtain ⟨blk, _, hb⟩ := hX id (hle id hi)
      exact ⟨blk, hb⟩
    -- an owned slice
    have lendV : ∀ (c : Cd) (m : Nat) (xs : List (El c)) (id : Nat) (X : T), isLent s = true → lentT s t = [id] → ownedL Bx c id = some xs → (cflat c = true ∨ m = 2 ^ p) → seenT Bx s t = [] → orgT Bx s t = orgL Bx [.own id] →
        (∀ l, g id = some l → gA g 0 as0 ts0 (8 * p + 5) = some l → TR (cxF A g B Bx w as0 ts0) X v) →
        Ak A g B Bx w as0 ts0 p (s :: r) (t :: ts) (v :: us) { tm := upd (mkA (p + 1) r y).tm p X, bk := upd (mkA (p + 1) r y).bk (8 * p + 5) (.live (.vec m c xs)) } := by
      intro c m xs id X hil hlt how hm hseen horg hXv
      obtain ⟨org0, c', xs', hb, ho, hc, rfl⟩ := ownedL_inv how
      have hbB := hB.live _ _ hb
      obtain ⟨l, hgl, hbr, _⟩ := hM.br id _ hbB
      have hg0 : gA g 0 as0 ts0 (8 * p + 5) = some l := by
        rw [hg _ (Nat.le_refl _)]
        simp only [gA, hil, cond_true]
        rw [upd_same]
        simp only [gT, hlt]; exact hgl
      refine ih.lend hM hlt (by have := hnd2 id (by rw [hlt]; simp); exact this) hlive hg0 hgl hbB (castL_br hc ?_) (hXv l hgl hg0)
      subst hc
      rcases hbr with h | ⟨hnl, hS, hn, hcp, hsz, arr, tt, harr, hfit, hel⟩
      · exact .inl h
      · have hXl : lentX g as0 ts0 l.b := ⟨id, hle id (by simp only [lentA, hlt]; simp), l, hgl, hnl, rfl⟩
        refine .inr ⟨hnl, .inr (.inl hXl), hn, hcp, hsz, arr, tt, harr, hfit, fun i z hz => ?_⟩
        obtain ⟨cs, hd, hcell⟩ := hel i z hz
        refine ⟨cs, ?_, hcell⟩
        rcases hm with hf | rfl
        · exact hd.flat hf
        · refine hd.mono (Nat.le_refl _) fun b hbb hok' => ⟨hok b hbb ?_, rfl⟩
          rw [hseen, horg]
          refine okI_of ⟨?_, hok'.2⟩
          have : orgL Bx [.own id] = org0 := by simp [orgL, ho]
          rw [this]; exact hok'.1
    have ownX : ∀ id, nameT t = some id → ∀ l, g id = some l → gA g 0 as0 ts0 (8 * p + 5) = some l → TR (cxF A g B Bx w as0 ts0) (one (.own (8 * p + 5))) v := fun id hname l hgl hg0 => by
      have htv : TR (cxOf A g B w) (.v (.one (.own id))) v := by rw [← nameT_inv hname]; exact hv
      obtain ⟨l', hgl', hve⟩ := (show SR (cxOf A g B w) (.own id) v from htv)
      have hgl2 : g id = some l' := hgl'
      rw [hgl] at hgl2; cases hgl2
      exact ⟨l, hg0, hve⟩
    cases s with
    | d c agg =>
      simp only [packT] at h1
      split at h1
      · rename_i vv
        refine ih.keep rfl ?_
        refine mkVal_tr ?_
        rcases decArg_inv h1 with ⟨e, s', rfl, hd⟩ | ⟨e, cs, rfl, hd⟩
        · subst e
          exact (decC_dr hM hB (I := idsL [s']) (org := orgL Bx [s']) (ss := [s']) (cs := [v]) ⟨hv, trivial⟩ hd (fun _ h _ => h) (orgLe_refl _)).mono (Nat.le_refl _) fun b hb hok' => ⟨hok b hb hok', rfl⟩
        · subst e
          obtain ⟨arr, rfl, hall⟩ := hv
          exact ⟨arr, rfl, (decC_dr hM hB (I := idsL cs) (org := orgL Bx cs) hall hd (fun _ h _ => h) (orgLe_refl _)).mono (Nat.le_refl _) fun b hb hok' => ⟨hok b hb hok', rfl⟩⟩
      · cases h1
    | own c =>
      simp only [packT] at h1
      split at h1
      · rename_i id hid
        refine lendV c (cond (cflat c) 0 (2 ^ p)) x1 id _ rfl (by simp [lentT, hid]) h1 ?_ rfl ?_ (ownX id hid)
        · cases cflat c
          · exact .inr rfl
          · exact .inl rfl
        · rw [nameT_inv hid]; rfl
      · cases h1
    | ref c =>
      simp only [packT] at h1
      split at h1
      · rename_i id hid
        refine lendV c (2 ^ p) x1 id _ rfl (by simp [lentT, hid]) h1 (.inr rfl) rfl ?_ (ownX id hid)
        rw [nameT_inv hid]; rfl
      · cases h1
    | rag a e =>
      simp only [packT] at h1
      split at h1
      · rename_i q hid
        obtain ⟨hf, hd, how⟩ := packG_inv h1
        refine lendV e (2 ^ p) x1.2 q.2 _ rfl (by simp [lentT, hid]) how (.inr rfl) rfl (by simp only [orgT, hid]) fun l hgl hg0 => ?_
        have ht := nameG_inv (fl := q.1) (id := q.2) hid
        rw [ht] at hv
        obtain ⟨arr, rfl, hall⟩ := (show ∃ arr : Array Value, v = .agg arr ∧ All2 (SR (cxOf A g B w)) (q.1 ++ [.own q.2]) arr.toList from hv)
        have hd0 := hall.take q.1.length
        have hd1 := hall.drop q.1.length
        rw [List.take_left'  rfl] at hd0
        rw [List.drop_left' rfl] at hd1
        refine ⟨arr, rfl, ?_⟩
        rw [← List.take_append_drop q.1.length arr.toList]
        refine All2.append ?_ ?_
        · refine scells_sr ?_
          exact ((decC_dr hM hB (I := idsL q.1) (org := orgL Bx q.1) hd0 hd (fun _ h _ => h) (orgLe_refl _)).flat hf)
        · match hrest : arr.toList.drop q.1.length, hd1 with
          | [u], hd1 =>
            obtain ⟨l', hgl', hve⟩ := (show SR (cxOf A g B w) (.own q.2) u from hd1.1)
            have hgl2 : g q.2 = some l' := hgl'
            rw [hgl] at hgl2; cases hgl2
            exact ⟨⟨l, hg0, hve⟩, trivial⟩
          | [], hd1 => exact hd1.elim
          | _ :: _ :: _, hd1 => exact hd1.2.elim
      · cases h1
    | rbox c =>
      simp only [packT] at h1
      split at h1
      · rename_i id hid
        split at h1
        · rename_i cs hcs
          simp only [boxOf] at hcs
          split at hcs
          · rename_i cs' hb
            cases hcs
            have hbB := hB.live _ _ hb
            obtain ⟨l, hgl, ⟨h0, arr, tt, harr, hall⟩, _⟩ := hM.br id _ hbB
            have hlt : lentT (.rbox c) t = [id] := by simp [lentT, hid]
            have hg0 : gA g 0 as0 ts0 (8 * p + 5) = some l := by
              rw [hg _ (Nat.le_refl _)]
              simp only [gA, isLent, cond_true]
              rw [upd_same]
              simp only [gT, hlt]; exact hgl
            have htv : TR (cxOf A g B w) (.v (.one (.ptr id 0))) v := by rw [← ptrT_inv hid]; exact hv
            obtain ⟨l', hgl', hve⟩ := (show SR (cxOf A g B w) (.ptr id 0) v from htv)
            have hgl2 : g id = some l' := hgl'
            rw [hgl] at hgl2; cases hgl2
            refine ih.lend hM hlt (hnd2 id (by rw [hlt]; simp)) hlive hg0 hgl hbB ⟨h0, arr, tt, harr, ?_⟩ ⟨l, hg0, hve⟩
            refine scells_sr ?_
            have hse : seenT Bx (.rbox c) t = idsL cs := by simp [seenT, hid, hb]
            have hor : orgT Bx (.rbox c) t = orgL Bx cs := by simp [orgT, hid, hb]
            exact (decC_dr hM hB (I := idsL cs) (org := orgL Bx cs) hall h1 (fun _ h _ => h) (orgLe_refl _)).mono (Nat.le_refl _) fun b hb hok' => ⟨hok b hb (by rw [hse, hor]; exact hok'), rfl⟩
          · cases hcs
        · cases h1
      · cases h1
    | clo f caps =>
      simp only [packT] at h1
      split at h1
      · rename_i gf cps
        split at h1
        · rename_i hf
          have hf := Nat.eq_of_beq_eq_true hf
          subst hf
          refine ih.keep rfl ?_
          obtain ⟨cs, hve, hall⟩ := (show SR (cxOf A g B w) (.fn f cps) v from hv)
          refine ⟨cs, hve, ?_⟩
          refine caps_in hM hB hX rfl (m := 2 ^ p) rfl caps cps cs.toList x1 (capCont Bx cps) (capOrg Bx cps) (fun b hbl hb => hok b hbl hb) hall h1 (fun _ h => h) (orgLe_refl _) fun id hid hm => ?_
          exact hap id hid (boxT_sub as0 ts0 p _ _ hs0 ht0 id hm)
        · cases h1
      · cases h1
    | rp c =>
      simp only [packT] at h1
      split at h1
      · rename_i q hq
        split at h1
        · rename_i cs hcs
          have hqv : CapR (cxOf A g B w) q v := by
            unfold capOfT at hq
            split at hq
            · cases hq; exact hv
            · cases hq; exact hv
            · cases hq
          have hse : seenT Bx (.rp c) t = capCont Bx [q] := by simp [seenT, hq]
          have hor : orgT Bx (.rp c) t = capOrg Bx [q] := by simp [orgT, hq]
          have hbx : boxT (.rp c) t = capBox [q] := by simp [boxT, hq]
          refine ih.keep rfl ?_
          have hdc : decCaps Bx [c] [q] = some x1 := by simp only [decCaps, hcs]; exact h1
          have := caps_in hM hB hX (C := cxF A g B Bx w as0 ts0) rfl (m := 2 ^ p) rfl [c] [q] [v] x1 (capCont Bx [q]) (capOrg Bx [q]) (fun b hbl hb => hok b hbl (by rw [hse, hor]; exact hb)) ⟨hqv, trivial⟩ hdc (fun _ h => h) (orgLe_refl _) fun id hid hm => hap id hid (boxT_sub as0 ts0 p _ _ hs0 ht0 id (by rw [hbx]; exact hm))
          exact this.1
        · cases h1
      · cases h1
    | k sk =>
      simp only [packT] at h1
      split at h1
      · rename_i s'
        split at h1
        · rename_i he
          simp only [Bool.and_eq_true, List.isEmpty_iff] at he
          refine ih.keep rfl ?_
          exact k_S (C := cxOf A g B w) he.1 hv fun id hid => by rw [he.2] at hid; simp at hid
        · cases h1
      · cases h1

/-- A call begins in a state of the callee. -/
theorem call_in (hM : Mem A g B w) (hB : Sub Bx B) {as : List ASh} {ts : List T} {us : List Value} {x : Tup (acodes as)} (hp : packA Bx as ts = some x) (ha : All2 (TR (cxOf A g B w)) ts us) (hnd : nodupB (lentA as ts) = true) (hap : ∀ id ∈ lentA as ts, id ∉ seenA Bx as ts) :
    Mem (baseA A g B Bx w as ts) (gA g 0 as ts) (mkA 0 as x).bk w ∧ ∀ t, TR (cxOf (baseA A g B Bx w as ts) (gA g 0 as ts) (mkA 0 as x).bk w) ((mkA 0 as x).tm t) (us.toArray.getD t undef) := by
  have hX := lentA_live hB as ts x hp
  have h := ak_of hM hB hX hap as ts us 0 x hp ha hnd (fun i s h => by rwa [Nat.zero_add]) (fun i s h => by rwa [Nat.zero_add]) (fun _ h => h) (fun _ _ => rfl)
  have how : ∀ b, owOf (gA g 0 as ts) (mkA 0 as x).bk b → lentX g as ts b := by
    rintro b ⟨id, blk, l, h1, h2, h3, h4⟩
    obtain ⟨_, l', q1, _, id0, m0, blk0, _, q2⟩ := h.br id blk h1
    rw [h2] at q1; cases q1
    exact ⟨id0, m0, l, q2, h3, h4⟩
  have hL : Later (cxF A g B Bx w as ts) (cxOf (baseA A g B Bx w as ts) (gA g 0 as ts) (mkA 0 as x).bk w) := ⟨fun _ _ h => h, rfl, fun b _ hb => ⟨fun ho => hb (how b ho), rfl⟩, Nat.le_refl _, rfl⟩
  refine ⟨⟨fun id blk hb => ?_, fun id org c xs hb => (h.noro id org c xs hb).elim, h.inj, fun id hf => ?_, fun id l hpin => ?_, ⟨rfl, Tq.refl _, rfl, Nat.le_refl _, fun _ _ _ => rfl⟩⟩, fun t => ?_⟩
  · obtain ⟨_, l, h1, h2, id0, m0, blk0, h3, h4⟩ := h.br id blk hb
    refine ⟨l, h1, hL.br (fun _ => rfl) h2, fun hn => ?_⟩
    obtain ⟨l', q1, _, q2⟩ := hM.br id0 blk0 h3
    rw [h4] at q1; cases q1
    exact ⟨(q2 hn).1, .inr ⟨id0, m0, l, h4, hn, rfl⟩⟩
  · have h5 := h.nofresh id hf
    have : ∀ (as : List ASh) (ts : List T) (p : Nat), gA g p as ts id = none := by
      intro as
      induction as with
      | nil => intro ts p; cases ts <;> rfl
      | cons s r ih =>
        intro ts p
        cases ts with
        | nil => rfl
        | cons t ts =>
          simp only [gA]
          cases isLent s
          · exact ih ts (p + 1)
          · simp only [cond_true]; rw [upd_ne _ _ (by omega)]; exact ih ts (p + 1)
    exact this as ts 0
  · have h5 := (baseA A g B Bx w as ts).pinned id l hpin
    have hg : gA g 0 as ts id = some l := by
      have : (if id % 8 = 5 then gA g 0 as ts id else none) = some l := hpin
      rwa [if_pos h5] at this
    exact ⟨fun hf => h.nofresh id hf h5, fun _ => hg⟩
  · by_cases ht : t < us.length
    · have := h.tm t us[t] (by simp [ht])
      rw [Nat.zero_add] at this
      have e : us.toArray.getD t undef = us[t] := by simp [ht]
      rw [e]
      exact hL.tr this
    · rw [h.tm0 t (.inr (by omega))]
      trivial

end
end Ai
end Go.Proofs.YtpboclokodgnlaaGreat

/-! A23: The ideal interpreter against the machine: memory behind a call. -/
namespace Go.Proofs.YtpboclokodgnlaaGreat
namespace Ai
set_option linter.unusedSimpArgs false
set_option linter.unusedVariables false

theorem nodupB_list : ∀ (l : List Nat), nodupB l = true → l.Nodup
  | [], _ => List.nodup_nil
  | a :: r, h => by
    obtain ⟨h1, h2⟩ := nodupB_cons h
    exact List.nodup_cons.2 ⟨h1, nodupB_list r h2⟩

theorem key_one : ∀ (d : List (Nat × BS)), (d.map (·.1)).Nodup → ∀ (p q : Nat × BS), p ∈ d → q ∈ d → p.1 = q.1 → p.2 = q.2 := by
  intro d
  induction d with
  | nil => intro _ p q hp; simp at hp
  | cons a r ih =>
    intro hn p q hp hq e
    simp only [List.map_cons, List.nodup_cons] at hn
    rcases List.mem_cons.1 hp with h1 | h1 <;> rcases List.mem_cons.1 hq with h2 | h2
    · rw [h1, h2]
    · subst h1; exact (hn.1 (List.mem_map.2 ⟨q, h2, e.symm⟩)).elim
    · subst h2; exact (hn.1 (List.mem_map.2 ⟨p, h1, e⟩)).elim
    · exact ih hn.2 p q h1 h2 e

theorem applyB_mem {id : Nat} {b : BS} (d : List (Nat × BS)) (B : Nat → BS) (hn : (d.map (·.1)).Nodup) (hm : (id, b) ∈ d) : applyB B d id = b :=
  applyB_all d B (fun p hp e => key_one d hn p (id, b) hp hm e) (.inl (List.mem_map.2 ⟨_, hm, rfl⟩))

/-- A slice or a struct's slices that the caller takes over. -/
structure Imp where
  id : Nat
  l : Loc
  blk : Blk

def impG (g : Nat → Option Loc) : Option Imp → Nat → Option Loc
  | none => g
  | some i => upd g i.id (some i.l)

def impB (B : Nat → BS) : Option Imp → Nat → BS
  | none => B
  | some i => upd B i.id (.live i.blk)

section
variable {A : Base} {g : Nat → Option Loc} {B : Nat → BS} {w w' : World} {eff : List (Nat × BS)} {imp : Option Imp}

theorem ret_mem (hM : Mem A g B w) (hn : (eff.map (·.1)).Nodup) (hlive : ∀ p ∈ eff, ∃ blk, B p.1 = .live blk) (heff : ∀ p ∈ eff, p.2 = .dead ∨ ∃ blk l, p.2 = .live blk ∧ g p.1 = some l ∧
      (Later (cxOf A g B w) (cxOf A (impG g imp) (impB (applyB B eff) imp) w') → BR (cxOf A (impG g imp) (impB (applyB B eff) imp) w') blk l))
    (himp : ∀ i, imp = some i → B i.id = .fresh ∧ (Later (cxOf A g B w) (cxOf A (impG g imp) (impB (applyB B eff) imp) w') → BR (cxOf A (impG g imp) (impB (applyB B eff) imp) w') i.blk i.l) ∧
      (i.l.nil = false → i.l.b < w'.heap.size ∧ (w.heap.size ≤ i.l.b ∨ ∃ p ∈ eff, p.2 = .dead ∧ ∃ l, g p.1 = some l ∧ l.nil = false ∧ l.b = i.l.b)))
    (hos : w'.os = w.os) (htp : Tq A.dm w w') (hout : w'.output = w.output) (hsz : w.heap.size ≤ w'.heap.size)
    (hold : ∀ k, k < w.heap.size → (∀ p ∈ eff, ∀ l, g p.1 = some l → l.nil = false → l.b ≠ k) → w'.heap[k]? = w.heap[k]?) :
    Mem A (impG g imp) (impB (applyB B eff) imp) w' ∧ Later (cxOf A g B w) (cxOf A (impG g imp) (impB (applyB B eff) imp) w') := by
  -- what is live behind the call
  have hg2 : ∀ id, (∀ i, imp = some i → id ≠ i.id) → impG g imp id = g id := fun id h => by
    cases imp with
    | none => rfl
    | some i => exact upd_ne _ _ (h i rfl)
  have heffB : ∀ p ∈ eff, applyB B eff p.1 = p.2 := fun p hp => applyB_mem eff B hn hp
  have hnotB : ∀ id, (∀ p ∈ eff, p.1 ≠ id) → applyB B eff id = B id := fun id h => applyB_notin eff B fun hm => by
    obtain ⟨p, hp, e⟩ := List.mem_map.1 hm
    exact h p hp e
  have himpne : ∀ i, imp = some i → ∀ p ∈ eff, p.1 ≠ i.id := fun i hi p hp e => by
    obtain ⟨blk, hb⟩ := hlive p hp
    rw [e, (himp i hi).1] at hb; cases hb
  -- each live name: the import, one that was lent, or one as before
  have cases3 : ∀ id b, impB (applyB B eff) imp id = b → (∃ i, imp = some i ∧ id = i.id ∧ b = .live i.blk) ∨ ((∀ i, imp = some i → id ≠ i.id) ∧ ((∃ p ∈ eff, p.1 = id ∧ p.2 = b) ∨ ((∀ p ∈ eff, p.1 ≠ id) ∧ B id = b))) := fun id b hb => by
    have key : (∀ i, imp = some i → id ≠ i.id) → impB (applyB B eff) imp id = applyB B eff id := fun h => by
      cases imp with
      | none => rfl
      | some i => exact upd_ne _ _ (h i rfl)
    by_cases h : ∀ i, imp = some i → id ≠ i.id
    · right
      refine ⟨h, ?_⟩
      rw [key h] at hb
      by_cases hm : ∃ p ∈ eff, p.1 = id
      · obtain ⟨p, hp, rfl⟩ := hm
        rw [heffB p hp] at hb
        exact .inl ⟨p, hp, rfl, hb⟩
      · have hm : ∀ p ∈ eff, p.1 ≠ id := fun p hp e => hm ⟨p, hp, e⟩
        rw [hnotB id hm] at hb
        exact .inr ⟨hm, hb⟩
    · left
      cases imp with
      | none => exact (h fun i hi => by cases hi).elim
      | some i =>
        have : id = i.id := by
          by_cases e : id = i.id
          · exact e
          · exact (h fun j hj => by cases hj; exact e).elim
        subst this
        refine ⟨i, rfl, rfl, ?_⟩
        rw [← hb]
        exact upd_same _ _ _
  -- the place of each live name, and whose block it was
  have src : ∀ id b l, impB (applyB B eff) imp id = .live b → impG g imp id = some l → (∃ i, imp = some i ∧ id = i.id ∧ l = i.l ∧ b = i.blk) ∨ ((∀ i, imp = some i → id ≠ i.id) ∧ g id = some l ∧ (∃ b0, B id = .live b0) ∧ (∀ p ∈ eff, p.1 = id → p.2 = .live b)) := fun id b l hb hl => by
    rcases cases3 id _ hb with ⟨i, hi, rfl, e⟩ | ⟨hni, ⟨p, hp, rfl, e⟩ | ⟨hne, e⟩⟩
    · cases e
      rw [hi] at hl
      have : upd g i.id (some i.l) i.id = some l := hl
      rw [upd_same] at this
      cases this
      exact .inl ⟨i, hi, rfl, rfl, rfl⟩
    · rw [hg2 _ hni] at hl
      refine .inr ⟨hni, hl, hlive p hp, fun q hq hqe => ?_⟩
      have h1 := heffB q hq
      rw [hqe, heffB p hp, e] at h1
      exact h1.symm
    · rw [hg2 _ hni] at hl
      exact .inr ⟨hni, hl, ⟨b, e⟩, fun p hp he => (hne p hp he).elim⟩
  have hlt : ∀ id b0 l, B id = .live b0 → g id = some l → l.nil = false → l.b < w.heap.size ∧ (A.w0.heap.size ≤ l.b ∨ A.X l.b) := fun id b0 l hb hl hnl => by
    obtain ⟨l', h1, _, h2⟩ := hM.br id b0 hb
    rw [hl] at h1; cases h1
    exact h2 hnl
  -- blocks stay where nobody owned them
  have howB : ∀ k, k < w.heap.size → ¬ owOf g B k → w'.heap[k]? = w.heap[k]? := fun k hk hno => hold k hk fun p hp l hl hnl e => by
    obtain ⟨blk, hb⟩ := hlive p hp
    exact hno ⟨p.1, blk, l, hb, hl, hnl, e⟩
  have hL : Later (cxOf A g B w) (cxOf A (impG g imp) (impB (applyB B eff) imp) w') := by
    refine ⟨fun id l hl => ?_, rfl, fun b hb hno => ⟨?_, howB b hb hno⟩, hsz, rfl⟩
    · refine (hg2 id fun i hi e => ?_).trans hl
      have := hM.fresh i.id (himp i hi).1
      rw [e] at hl
      rw [show g i.id = some l from hl] at this; cases this
    · rintro ⟨id, blk, l, h1, h2, h3, h4⟩
      rcases src id blk l h1 h2 with ⟨i, hi, rfl, rfl, rfl⟩ | ⟨_, hl, ⟨b0, hb0⟩, _⟩
      · obtain ⟨_, _, q⟩ := himp i hi
        obtain ⟨_, q | ⟨p, hp, _, l0, q1, q2, q3⟩⟩ := q h3
        · have : b < w.heap.size := hb
          omega
        · obtain ⟨blk0, hb0⟩ := hlive p hp
          exact hno ⟨p.1, blk0, l0, hb0, q1, q2, by omega⟩
      · exact hno ⟨id, b0, l, hb0, hl, h3, h4⟩
  refine ⟨⟨fun id b hb => ?_, fun id org c xs hb => ?_, fun id id' b b' l l' hb hb' hl hl' n1 n2 e => ?_, fun id hb => ?_, fun id l hpin => ?_, ?_⟩, hL⟩
  · -- blocks
    rcases cases3 id _ hb with ⟨i, hi, rfl, e⟩ | ⟨hni, ⟨p, hp, rfl, e⟩ | ⟨hne, e⟩⟩
    · cases e
      obtain ⟨_, h1, h2⟩ := himp i hi
      refine ⟨i.l, ?_, h1 hL, fun hnl => ?_⟩
      · rw [hi]; exact upd_same _ _ _
      · obtain ⟨q0, q | ⟨p, hp, _, l0, q1, q2, q3⟩⟩ := h2 hnl
        · exact ⟨q0, .inl (by have := hM.fr.size; omega)⟩
        · obtain ⟨blk0, hb0⟩ := hlive p hp
          have := (hlt _ _ _ hb0 q1 q2).2
          rw [q3] at this
          exact ⟨q0, this⟩
    · rcases heff p hp with hd | ⟨blk, l, h1, h2, h3⟩
      · rw [hd] at e; cases e
      · rw [h1] at e; cases e
        obtain ⟨blk0, hb0⟩ := hlive p hp
        exact ⟨l, (hg2 _ hni).trans h2, h3 hL, fun hnl => ⟨by have := (hlt _ _ _ hb0 h2 hnl).1; omega, (hlt _ _ _ hb0 h2 hnl).2⟩⟩
    · obtain ⟨l, h1, h2, h3⟩ := hM.br id b e
      refine ⟨l, (hg2 _ hni).trans h1, hL.br (fun hnl => ?_) h2, fun hnl => ⟨by have := (h3 hnl).1; omega, (h3 hnl).2⟩⟩
      refine hold l.b (h3 hnl).1 fun p hp l0 hl0 hn0 eb => ?_
      obtain ⟨blk0, hb0⟩ := hlive p hp
      exact hne p hp (hM.inj p.1 id _ _ _ _ hb0 e hl0 h1 hn0 hnl eb)
  · rcases cases3 id _ hb with ⟨i, hi, rfl, e⟩ | ⟨hni, ⟨p, hp, rfl, e⟩ | ⟨hne, e⟩⟩
    · cases e
    · rcases heff p hp with hd | ⟨blk, l, h1, _⟩
      · rw [hd] at e; cases e
      · rw [h1] at e; cases e
    · exact ro_later hL (hM.ro id org c xs e)
  · rcases src id b l hb hl with ⟨i, hi, rfl, rfl, rfl⟩ | ⟨m1, hl1, ⟨b0, hb0⟩, he1⟩ <;> rcases src id' b' l' hb' hl' with ⟨j, hj, rfl, rfl, rfl⟩ | ⟨m2, hl2, ⟨b1, hb1⟩, he2⟩
    · rw [hi] at hj; cases hj; rfl
    · exfalso
      obtain ⟨_, _, q⟩ := himp i hi
      obtain ⟨_, q | ⟨p, hp, hd, l0, q1, q2, q3⟩⟩ := q n1
      · have := (hlt _ _ _ hb1 hl2 n2).1; omega
      · obtain ⟨blk0, hbp⟩ := hlive p hp
        have := hM.inj p.1 id' _ _ _ _ hbp hb1 q1 hl2 q2 n2 (by omega)
        have := he2 p hp this
        rw [hd] at this; cases this
    · exfalso
      obtain ⟨_, _, q⟩ := himp j hj
      obtain ⟨_, q | ⟨p, hp, hd, l0, q1, q2, q3⟩⟩ := q n2
      · have := (hlt _ _ _ hb0 hl1 n1).1; omega
      · obtain ⟨blk0, hbp⟩ := hlive p hp
        have := hM.inj p.1 id _ _ _ _ hbp hb0 q1 hl1 q2 n1 (by omega)
        have := he1 p hp this
        rw [hd] at this; cases this
    · exact hM.inj id id' _ _ _ _ hb0 hb1 hl1 hl2 n1 n2 e
  · rcases cases3 id _ hb with ⟨i, hi, rfl, e⟩ | ⟨hni, ⟨p, hp, rfl, e⟩ | ⟨hne, e⟩⟩
    · cases e
    · rcases heff p hp with hd | ⟨blk, l, h1, _⟩
      · rw [hd] at e; cases e
      · rw [h1] at e; cases e
    · exact (hg2 _ hni).trans (hM.fresh id e)
  · obtain ⟨p1, p2⟩ := hM.pin id l hpin
    rcases cases3 id _ rfl with ⟨i, hi, rfl, e⟩ | ⟨hni, ⟨p, hp, rfl, e⟩ | ⟨hne, e⟩⟩
    · exact (p1 (himp i hi).1).elim
    · obtain ⟨blk0, hb0⟩ := hlive p hp
      have hgl := p2 (isLive_of hb0)
      refine ⟨?_, fun _ => (hg2 _ hni).trans hgl⟩
      rw [← e]
      rcases heff p hp with hd | ⟨blk, l, h1, _⟩
      · rw [hd]; simp
      · rw [h1]; simp
    · refine ⟨by rw [← e]; exact p1, fun hlv => (hg2 _ hni).trans (p2 ?_)⟩
      unfold isLive at hlv ⊢
      rw [← e] at hlv; exact hlv
  · refine ⟨hos.trans hM.fr.os, hM.fr.tape.transq htp, hout.trans hM.fr.output, by have := hM.fr.size; omega, fun k hk hX => ?_⟩
    · have hks : k < w.heap.size := by have := hM.fr.size; omega
      rw [hold k hks fun p hp l hl hnl e => ?_]
      · exact hM.fr.old k hk hX
      · obtain ⟨blk0, hb0⟩ := hlive p hp
        rcases (hlt _ _ _ hb0 hl hnl).2 with h | h
        · omega
        · rw [e] at h; exact hX h

end
end Ai
end Go.Proofs.YtpboclokodgnlaaGreat

/-! A24: The ideal interpreter against the machine: results. -/
namespace Go.Proofs.YtpboclokodgnlaaGreat
namespace Ai
set_option linter.unusedSimpArgs false
set_option linter.unusedVariables false

/-! ### Results as cells -/

theorem impC_none (org : Nat) : ∀ (c : Cd) (x : El c), impC none org c x = (scells org c x, [])
  | .i _, _ => rfl
  | .bool, _ => rfl
  | .str, _ => rfl
  | .unit, _ => rfl
  | .list _, _ => rfl
  | .pair a b, x => by
    simp only [impC, impC_none org a, impC_none org b, scells]
    rfl

theorem impC_zero (own : Option Nat) (org : Nat) : ∀ (c : Cd) (x : El c), nlist c = 0 → impC own org c x = (scells org c x, [])
  | .i _, _, _ => rfl
  | .bool, _, _ => rfl
  | .str, _, _ => rfl
  | .unit, _, _ => rfl
  | .list _, _, h => by simp [nlist] at h
  | .pair a b, x, h => by
    simp only [nlist] at h
    simp only [impC, impC_zero own org a _ (by omega), impC_zero own org b _ (by omega), scells]
    rfl

theorem nlist_flat : ∀ (c : Cd), nlist c = 0 → cflat c = true
  | .i _, _ => rfl
  | .bool, _ => rfl
  | .str, _ => rfl
  | .unit, _ => rfl
  | .list _, h => by simp [nlist] at h
  | .pair a b, h => by
    simp only [nlist] at h
    simp [cflat, nlist_flat a (by omega), nlist_flat b (by omega)]

theorem scells_any {C : Cx} {w : World} {ok : Nat → Prop} {org : Nat} {c : Cd} {x : El c} {vs : List Value} (h : nlist c = 0) (hd : DR w ok c x vs) : All2 (SR C) (scells org c x) vs :=
  scells_sr (DR.flat (nlist_flat c h) hd)

theorem impC_one (id org : Nat) {w : World} {ok : Nat → Prop} : ∀ (c : Cd) (x : El c) (vs : List Value), nlist c = 1 → DR w ok c x vs →
    (impC (some id) org c x = (scells org c x, [])) ∨ ∃ c' xs v, (cflat c' = true ∧ 1 ≤ csize c') ∧ (impC (some id) org c x).2 = [(id, .live (.vec 0 c' xs))] ∧ DR w ok (.list c') xs [v] ∧ ∀ C : Cx, SR C (.own id) v → All2 (SR C) (impC (some id) org c x).1 vs
  | .i _, _, _, h, _ => by simp [nlist] at h
  | .bool, _, _, h, _ => by simp [nlist] at h
  | .str, _, _, h, _ => by simp [nlist] at h
  | .unit, _, _, h, _ => by simp [nlist] at h
  | .list c, xs, vs, _, hd => by
    cases hf : cflat c && Nat.ble 1 (csize c)
    · left; simp only [impC, hf]; rfl
    · right
      have hf2 := hf
      rw [Bool.and_eq_true] at hf2
      match vs, hd.length with
      | [v], _ => exact ⟨c, xs, v, ⟨hf2.1, Nat.le_of_ble_eq_true hf2.2⟩, by simp only [impC, hf], hd, fun C hv => by simp only [impC, hf]; exact ⟨hv, trivial⟩⟩
  | .pair a b, x, vs, h, hd => by
    obtain ⟨c1, c2, rfl, h1, h2⟩ := hd
    simp only [nlist] at h
    have hab : (nlist a = 1 ∧ nlist b = 0) ∨ (nlist a = 0 ∧ nlist b = 1) := by omega
    rcases hab with ⟨ha, hb⟩ | ⟨ha, hb⟩
    · rcases impC_one id org a x.1 c1 ha h1 with e | ⟨c', xs, v, q1, q2, q3, q4⟩
      · left
        simp only [impC, e, impC_zero _ org b _ hb, scells]
        rfl
      · right
        refine ⟨c', xs, v, q1, ?_, q3, fun C hv => ?_⟩
        · simp only [impC, q2, impC_zero _ org b _ hb]; rfl
        · simp only [impC, impC_zero _ org b _ hb]
          exact (q4 C hv).append (scells_any hb h2)
    · rcases impC_one id org b x.2 c2 hb h2 with e | ⟨c', xs, v, q1, q2, q3, q4⟩
      · left
        simp only [impC, e, impC_zero _ org a _ ha, scells]
        rfl
      · right
        refine ⟨c', xs, v, q1, ?_, q3, fun C hv => ?_⟩
        · simp only [impC, q2, impC_zero _ org a _ ha]; rfl
        · simp only [impC, impC_zero _ org a _ ha]
          exact (scells_any ha h1).append (q4 C hv)

theorem mkVal_vr {C : Cx} {agg : Bool} {cells : List Sc} {u : Value} (h : (agg = false ∧ All2 (SR C) cells [u]) ∨ (agg = true ∧ ∃ arr : Array Value, u = .agg arr ∧ All2 (SR C) cells arr.toList)) : VR C (mkVal agg cells) u := by
  rcases h with ⟨rfl, h⟩ | ⟨rfl, arr, rfl, h⟩
  · match cells, h with
    | [s], h => exact h.1
  · have : mkVal true cells = .agg cells := by unfold mkVal; rfl
    rw [this]
    exact ⟨arr, rfl, h⟩

theorem psnS_false {c : Cd} {l : List Sc} : psnS false c l = l := by
  unfold psnS; rfl

/-- A result that is nil if it is empty. -/
theorem psnS_sr {C : Cx} {b agg : Bool} {org : Nat} {c : Cd} {x : El c} {u : Value} {vs : List Value} (hvs : (agg = false ∧ vs = [u]) ∨ (agg = true ∧ ∃ arr : Array Value, u = .agg arr ∧ vs = arr.toList)) (hn : b = true → nilOk c x u)
    (h : All2 (SR C) (scells org c x) vs) : All2 (SR C) (psnS b c (scells org c x)) vs := by
  cases b with
  | false => rw [psnS_false]; exact h
  | true =>
    cases c with
    | list c' =>
      match vs, h with
      | [v], h =>
        refine ⟨⟨h.1, fun he => ?_⟩, trivial⟩
        have hu := hn rfl he
        rcases hvs with ⟨_, e⟩ | ⟨_, arr, e, _⟩
        · cases e; exact hu
        · rw [e] at hu; cases hu
    | _ => exact h

def totL : List RSh → Nat
  | [] => 0
  | r :: rs => nlist r.c + totL rs

theorem totL_fold : ∀ (rs : List RSh) (n : Nat), rs.foldl (fun n r => n + nlist r.c) n = n + totL rs
  | [], n => rfl
  | r :: rs, n => by rw [List.foldl_cons, totL_fold rs, totL]; omega

section
variable {A : Base} {as : List ASh} {w : World}

/-- Results that are read only. -/
theorem res_data {C : Cx} {own : Option Nat} {orgs : List Nat} : ∀ (rs : List RSh) (y : Tup (rcodes rs as)) (us : List Value), RsR A as w rs y us → (own = none ∨ totL rs = 0 ∨ (impR own orgs rs y).2 = []) →
    (∀ r ∈ rs, nlist r.c ≠ 0 → ∀ (x : El r.c) vs, DR w ((cxE A as w).ok r.org) r.c x vs → DR C.w (C.ok (orgR r.org 0 orgs)) r.c x vs) → totL rs ≤ 1 ∨ own = none → (impR own orgs rs y).2 = [] ∧ All2 (VR C) (impR own orgs rs y).1 us
  | [], y, us, h, _, _, _ => by
    rw [show us = [] from h]
    exact ⟨rfl, trivial⟩
  | r :: rs, y, [], h, _, _, _ => h.elim
  | r :: rs, y, u :: us, h, ho, hK, ht => by
    obtain ⟨⟨h1, hnz⟩, h2⟩ := h
    simp only [totL] at ho ht
    have e1 : impC own (orgR r.org 0 orgs) r.c (thd (r := rcodes rs as) y) = (scells (orgR r.org 0 orgs) r.c (thd (r := rcodes rs as) y), []) := by
      rcases ho with rfl | ho | ho
      · exact impC_none _ _ _
      · exact impC_zero _ _ _ _ (by omega)
      · simp only [impR, List.append_eq_nil_iff] at ho
        have ho1 := ho.1
        cases own with
        | none => exact impC_none _ _ _
        | some id =>
          by_cases hz : nlist r.c = 0
          · exact impC_zero _ _ _ _ hz
          · have : nlist r.c = 1 := by
              rcases ht with ht | ht
              · omega
              · cases ht
            have hd : ∃ vs, DR w ((cxE A as w).ok r.org) r.c (thd (r := rcodes rs as) y) vs := by
              rcases h1 with ⟨_, h1⟩ | ⟨_, arr, _, h1⟩
              · exact ⟨_, h1⟩
              · exact ⟨_, h1⟩
            obtain ⟨vs, hd⟩ := hd
            rcases impC_one id (orgR r.org 0 orgs) r.c _ vs this hd with e | ⟨c', xs, v, _, q2, _⟩
            · exact e
            · rw [q2] at ho1; cases ho1
    have hsc : ∀ vs, DR w ((cxE A as w).ok r.org) r.c (thd (r := rcodes rs as) y) vs → All2 (SR C) (scells (orgR r.org 0 orgs) r.c (thd (r := rcodes rs as) y)) vs := fun vs hd => by
      by_cases hz : nlist r.c = 0
      · exact scells_any hz hd
      · exact scells_sr (hK r (List.mem_cons_self ..) hz _ vs hd)
    obtain ⟨i1, i2⟩ := res_data (own := own) (orgs := orgs) rs (ttl (r := rcodes rs as) y) us h2 (ho.imp (fun h => h) fun ho => ho.imp (fun h => by omega) fun ho => by simp only [impR, List.append_eq_nil_iff] at ho; exact ho.2)
      (fun r' hr => hK r' (List.mem_cons_of_mem _ hr)) (ht.imp (fun h => by omega) fun h => h)
    refine ⟨?_, ?_, ?_⟩
    · simp only [impR, e1, i1]; rfl
    · simp only [e1]
      refine mkVal_vr ?_
      rcases h1 with ⟨ea, h1⟩ | ⟨ea, arr, rfl, h1⟩
      · exact .inl ⟨ea, psnS_sr (.inl ⟨ea, rfl⟩) hnz (hsc _ h1)⟩
      · exact .inr ⟨ea, arr, rfl, psnS_sr (.inr ⟨ea, arr, rfl, rfl⟩) hnz (hsc _ h1)⟩
    · exact i2

/-- Results one slice of which the caller takes over. -/
theorem res_own {id : Nat} {orgs : List Nat} : ∀ (rs : List RSh) (y : Tup (rcodes rs as)) (us : List Value), RsR A as w rs y us → totL rs = 1 → (∀ r ∈ rs, r.org = 0) → (impR (some id) orgs rs y).2 ≠ [] →
    ∃ c' xs v, (cflat c' = true ∧ 1 ≤ csize c') ∧ (impR (some id) orgs rs y).2 = [(id, .live (.vec 0 c' xs))] ∧ DR w ((cxE A as w).ok 0) (.list c') xs [v] ∧ ∀ C : Cx, SR C (.own id) v → All2 (VR C) (impR (some id) orgs rs y).1 us
  | [], y, us, h, ht, _, _ => by simp [totL] at ht
  | r :: rs, y, [], h, _, _, _ => h.elim
  | r :: rs, y, u :: us, h, ht, h0, hne => by
    obtain ⟨⟨h1, hnz⟩, h2⟩ := h
    have hnf : nzOf r = false := by unfold nzOf; rw [h0 r (List.mem_cons_self ..)]; rfl
    simp only [totL] at ht
    have hd : ∃ vs, DR w ((cxE A as w).ok r.org) r.c (thd (r := rcodes rs as) y) vs ∧ ((r.agg = false ∧ vs = [u]) ∨ (r.agg = true ∧ ∃ arr : Array Value, u = .agg arr ∧ vs = arr.toList)) := by
      rcases h1 with ⟨ea, h1⟩ | ⟨ea, arr, e, h1⟩
      · exact ⟨_, h1, .inl ⟨ea, rfl⟩⟩
      · exact ⟨_, h1, .inr ⟨ea, arr, e, rfl⟩⟩
    obtain ⟨vs, hd, hvs⟩ := hd
    have mk : ∀ (C : Cx) (cells : List Sc), All2 (SR C) cells vs → VR C (mkVal r.agg cells) u := fun C cells hc => mkVal_vr (by
      rcases hvs with ⟨ea, rfl⟩ | ⟨ea, arr, e, rfl⟩
      · exact .inl ⟨ea, hc⟩
      · exact .inr ⟨ea, arr, e, hc⟩)
    by_cases hz : nlist r.c = 0
    · have e1 := impC_zero (some id) (orgR r.org 0 orgs) r.c (thd (r := rcodes rs as) y) hz
      have hne' : (impR (some id) orgs rs (ttl (r := rcodes rs as) y)).2 ≠ [] := by
        simp only [impR, e1] at hne
        simpa using hne
      obtain ⟨c', xs, v, q1, q2, q3, q4⟩ := res_own rs (ttl (r := rcodes rs as) y) us h2 (by omega) (fun r' hr => h0 r' (List.mem_cons_of_mem _ hr)) hne'
      refine ⟨c', xs, v, q1, by simp only [impR, e1, q2]; rfl, q3, fun C hv => ⟨?_, q4 C hv⟩⟩
      simp only [e1, hnf, psnS_false]
      exact mk C _ (scells_any hz hd)
    · have e1 : nlist r.c = 1 := by omega
      have h2' := res_data (C := ⟨fun _ => none, fun _ _ => True, fun _ => False, fun _ => False, w⟩) (own := some id) (orgs := orgs) rs (ttl (r := rcodes rs as) y) us h2 (.inr (.inl (by omega))) (fun r' hr hnz => by
        exfalso
        have : ∀ (rs : List RSh), totL rs = 0 → ∀ r' ∈ rs, nlist r'.c = 0 := by
          intro rs
          induction rs with
          | nil => intro _ r' h; simp at h
          | cons a rs ih =>
            intro h r' hr
            simp only [totL] at h
            rcases List.mem_cons.1 hr with rfl | hr
            · omega
            · exact ih (by omega) r' hr
        exact hnz (this rs (by omega) r' hr)) (.inl (by omega))
      rcases impC_one id (orgR r.org 0 orgs) r.c _ vs e1 hd with e | ⟨c', xs, v, q1, q2, q3, q4⟩
      · exfalso
        apply hne
        simp only [impR, e, h2'.1]; rfl
      · refine ⟨c', xs, v, q1, by simp only [impR, q2, h2'.1]; rfl, by rw [h0 r (List.mem_cons_self ..)] at q3; exact q3, fun C hv => ⟨by rw [hnf, psnS_false]; exact mk C _ (q4 C hv), ?_⟩⟩
        have hz2 : totL rs = 0 := by omega
        exact (res_data (C := C) (own := some id) (orgs := orgs) rs (ttl (r := rcodes rs as) y) us h2 (.inr (.inl hz2)) (fun r' hr hnz => by
          exfalso
          have : ∀ (rs : List RSh), totL rs = 0 → ∀ r' ∈ rs, nlist r'.c = 0 := by
            intro rs
            induction rs with
            | nil => intro _ r' h; simp at h
            | cons a rs ih =>
              intro h r' hr
              simp only [totL] at h
              rcases List.mem_cons.1 hr with rfl | hr
              · omega
              · exact ih (by omega) r' hr
          exact hnz (this rs hz2 r' hr)) (.inl (by omega))).2

theorem resT_tr {C : Cx} {vs : List Val} {us : List Value} (h : All2 (VR C) vs us) : TR C (resT vs) (resultVal us) := by
  match vs, us, h with
  | [], [], h => exact ⟨#[], rfl, trivial⟩
  | [v], [u], h => exact h.1
  | v :: v' :: vs, u :: u' :: us, h => exact ⟨(u :: u' :: us).toArray, rfl, h⟩
  | [_], _ :: _ :: _, h => exact h.2.elim
  | _ :: _ :: _, [_], h => exact h.2.elim


theorem fl_own {org : Nat} {c : Cd} {xs : List (El c)} {l : Loc} {ok : Nat → Prop} (hF : FL w ok l (.list c) xs) (C : Cx) (hC : C.w = w) (hS : l.nil = false → C.S org l.b) (hok : ∀ b, b < w.heap.size → ok b → C.ok org b) : BR C (.vec org c xs) l := by
  rcases hF with ⟨q1, q2, q3⟩ | ⟨hnl, hn, hcp, hsz, arr, t, ha, hs, he⟩
  · exact .inl ⟨q1, q2, q3⟩
  · refine .inr ⟨hnl, hS hnl, hn, hcp, hsz, arr, t, by rw [hC]; exact ha, hs, fun i x hx => ?_⟩
    obtain ⟨cs, hd, hv⟩ := he i x hx
    exact ⟨cs, hd.mono (by rw [hC]; exact Nat.le_refl _) fun b hb hk => ⟨hok b hb hk, by rw [hC]⟩, hv⟩

theorem fa_own {id org : Nat} {l : Loc} {ok : Nat → Prop} : ∀ (c : Cd) (x : El c) (vs : List Value), FA w ok l c x vs →
    (∀ C : Cx, C.w = w → (l.nil = false → C.S org l.b) → (∀ b, b < w.heap.size → ok b → C.ok org b) → BR C (aggB org c x) l) ∧ (∀ C : Cx, C.g id = some l → All2 (SR C) (aggS id org c x) vs)
  | .list c, xs, vs, h => by
    obtain ⟨rfl, hF⟩ := h
    exact ⟨fun C hC hS hok => fl_own hF C hC hS hok, fun C hg => ⟨⟨l, hg, rfl⟩, trivial⟩⟩
  | .pair a b, x, vs, h => by
    obtain ⟨v1, v2, rfl, h⟩ := h
    simp only [aggB, aggS]
    cases ha : Nat.beq (nlist a) 0 with
    | true =>
      rw [ha] at h
      obtain ⟨h1, h2⟩ := fa_own (id := id) (org := org) b x.2 v2 h.2
      exact ⟨h1, fun C hg => (scells_any (Nat.eq_of_beq_eq_true ha) h.1).append (h2 C hg)⟩
    | false =>
      rw [ha] at h
      obtain ⟨h1, h2⟩ := fa_own (id := id) (org := org) a x.1 v1 h.1
      exact ⟨h1, fun C hg => (h2 C hg).append (scells_any h.2.2 h.2.1)⟩
  | .i _, _, _, h => h.elim
  | .bool, _, _, h => h.elim
  | .str, _, _, h => h.elim
  | .unit, _, _, h => h.elim

/-- A result that the caller comes to own. -/
theorem fres_own {id : Nat} {orgs : List Nat} : ∀ (rs : List RSh) (y : Tup (rcodes rs as)) (v : Value) (Z : Nat → Prop), FRes A as w Z rs y v → ∃ r ∈ rs, ∃ val blk l, impF id orgs rs y = ([val], [(id, .live blk)]) ∧ (l.nil = false → Z l.b ∧ l.b < w.heap.size ∧ (A.w0.heap.size ≤ l.b ∨ A.X l.b) ∧ ¬ (cxE A as w).ow l.b) ∧
    (∀ C : Cx, C.w = w → (l.nil = false → C.S (orgR r.org 0 orgs) l.b) → (∀ b, b < w.heap.size → (cxE A as w).ok r.org b → (l.nil = false → b ≠ l.b) → C.ok (orgR r.org 0 orgs) b) → BR C blk l) ∧ (∀ C : Cx, C.g id = some l → VR C val v)
  | [r], y, v, Z, h => by
    obtain ⟨l, h1, h2⟩ := h
    refine ⟨r, List.mem_singleton.2 rfl, ?_⟩
    cases hp : ptrR r with
    | true =>
      rw [hp] at h2
      obtain ⟨hv, h0, arr, t, harr, hd⟩ := h2
      refine ⟨.one (.ptr id 0), .box (scells (orgR r.org 0 orgs) r.c (thd (r := rcodes [] as) y)), l, by simp only [impF, hp], h1, fun C hC hS hok => ⟨h0, arr, t, by rw [hC]; exact harr, ?_⟩, fun C hg => ⟨l, hg, hv⟩⟩
      exact scells_sr (hd.mono (by rw [hC]; exact Nat.le_refl _) fun b hb hk => ⟨hok b hb hk.1 fun _ => hk.2, by rw [hC]⟩)
    | false =>
      cases ha : r.agg with
      | true =>
        rw [hp, ha] at h2
        obtain ⟨arr, hv, hF⟩ := h2
        obtain ⟨hb, hs⟩ := fa_own (id := id) (org := orgR r.org 0 orgs) r.c _ _ hF
        refine ⟨.agg (aggS id (orgR r.org 0 orgs) r.c (thd (r := rcodes [] as) y)), aggB (orgR r.org 0 orgs) r.c (thd (r := rcodes [] as) y), l, by simp only [impF, hp, ha], h1, fun C hC hS hok => hb C hC hS fun b hb hk => hok b hb hk.1 hk.2, fun C hg => ⟨arr, hv, hs C hg⟩⟩
      | false =>
      rw [hp, ha] at h2
      obtain ⟨hv, hF⟩ := h2
      refine ⟨.one (.own id), blkF (orgR r.org 0 orgs) r.c (thd (r := rcodes [] as) y), l, by simp only [impF, hp, ha], h1, fun C hC hS hok => ?_, fun C hg => ⟨l, hg, hv⟩⟩
      obtain ⟨rc, ra, ro⟩ := r
      cases rc with
      | list c =>
        rcases hF with ⟨q1, q2, q3⟩ | ⟨hnl, hn, hcp, hsz, arr, t, ha, hs, he⟩
        · exact .inl ⟨q1, q2, q3⟩
        · refine .inr ⟨hnl, hS hnl, hn, hcp, hsz, arr, t, by rw [hC]; exact ha, hs, fun i x hx => ?_⟩
          obtain ⟨cs, hd, hv⟩ := he i x hx
          exact ⟨cs, hd.mono (by rw [hC]; exact Nat.le_refl _) fun b hb hk => ⟨hok b hb hk.1 hk.2, by rw [hC]⟩, hv⟩
      | _ => exact hF.elim
  | [], _, _, _, h => h.elim
  | _ :: _ :: _, _, _, _, h => h.elim

end
end Ai
end Go.Proofs.YtpboclokodgnlaaGreat

/-! A25: The ideal interpreter against the machine: a call's end. -/
namespace Go.Proofs.YtpboclokodgnlaaGreat
namespace Ai
set_option linter.unusedSimpArgs false
set_option linter.unusedVariables false

section
variable {A : Base} {g : Nat → Option Loc} {B Bx : Nat → BS} {w w' : World} {mask : Nat}

theorem keptA_sub : ∀ (as : List ASh) (ts : List T) (p : Nat), ∀ id ∈ keptA Bx mask p as ts, id ∈ seenA Bx as ts
  | [], ts, p, id, h => by simp [keptA] at h
  | s :: r, [], p, id, h => by simp [keptA] at h
  | s :: r, t :: ts, p, id, h => by
    simp only [keptA, List.mem_append] at h
    simp only [seenA]
    rcases h with h | h
    · refine List.mem_append_left _ ?_
      unfold keptT at h
      split at h
      · exact h
      · cases hb : mask.testBit p <;> rw [hb] at h
        · simp at h
        · exact h
    · exact List.mem_append_right _ (List.mem_append_right _ (keptA_sub r ts (p + 1) id h))

theorem keptA_mem : ∀ (as : List ASh) (ts : List T) (p i : Nat) (s : ASh) (t : T), as[i]? = some s → ts[i]? = some t → (mask.testBit (p + i) = true ∨ ∃ c, s = .rbox c) → ∀ id ∈ seenT Bx s t, id ∈ keptA Bx mask p as ts
  | [], _, _, _, _, _, h, _, _, _, _ => by simp at h
  | _ :: _, [], _, _, _, _, _, h, _, _, _ => by simp at h
  | s0 :: r, t0 :: ts, p, 0, s, t, hs, ht, hm, id, hi => by
    simp at hs ht; subst hs ht
    simp only [keptA]
    refine List.mem_append_left _ ?_
    rcases hm with hm | ⟨c, rfl⟩
    · unfold keptT
      split
      · exact hi
      · rw [Nat.add_zero] at hm; rw [hm]; exact hi
    · exact hi
  | s0 :: r, t0 :: ts, p, i + 1, s, t, hs, ht, hm, id, hi => by
    simp only [keptA]
    exact List.mem_append_right _ (keptA_mem r ts (p + 1) i s t (by simpa using hs) (by simpa using ht) (by rwa [show p + 1 + i = p + (i + 1) by omega]) id hi)

theorem seen_vec {s : ASh} {t : T} {x1 : In1 s} (h : packT Bx s t = some x1) : ∀ id ∈ seenT Bx s t, ∃ v, vecOf Bx id = some v := by
  cases s with
  | d c agg =>
    simp only [packT] at h
    split at h
    · rename_i v
      intro id hi
      simp only [seenT] at hi
      rcases decArg_inv h with ⟨_, s, rfl, hd⟩ | ⟨_, cs, rfl, hd⟩
      · exact dec_ids _ _ _ hd id hi
      · exact dec_ids _ _ _ hd id hi
    · cases h
  | own c => intro id hi; simp [seenT] at hi
  | ref c => intro id hi; simp [seenT] at hi
  | rag a e => intro id hi; simp [seenT] at hi
  | k s => intro id hi; simp [seenT] at hi
  | rp c =>
    simp only [packT] at h
    split at h
    · rename_i q hq
      split at h
      · rename_i cs hcs
        intro id hi
        simp only [seenT, hq] at hi
        cases q with
        | ptr k =>
          simp only [boxOf] at hcs
          split at hcs
          · rename_i cs' hb
            cases hcs
            simp only [capCont, hb, List.append_nil] at hi
            exact dec_ids _ _ _ h id hi
          · cases hcs
        | pp _ _ _ => simp [capCont] at hi
      · cases h
    · cases h
  | rbox c =>
    simp only [packT] at h
    split at h
    · rename_i id0 hid
      split at h
      · rename_i cs hcs
        simp only [boxOf] at hcs
        split at hcs
        · rename_i cs' hb
          cases hcs
          intro id hi
          simp only [seenT, hid, hb] at hi
          exact dec_ids _ _ _ h id hi
        · cases hcs
      · cases h
    · cases h
  | clo f caps =>
    simp only [packT] at h
    split at h
    · rename_i gf cps
      split at h
      · intro id hi
        simp only [seenT] at hi
        have one : ∀ (c : Cd) (q : Cap) (l : List Sc) (x : El c), boxOf Bx q = some l → decC Bx c l = some x → ∀ id ∈ capCont Bx [q], ∃ v, vecOf Bx id = some v := by
          intro c q l x hl hd id hi
          cases q with
          | ptr k =>
            simp only [boxOf] at hl
            split at hl
            · rename_i cs hb
              cases hl
              simp only [capCont, hb, List.append_nil] at hi
              exact dec_ids _ _ _ hd id hi
            · cases hl
          | pp _ _ _ => simp [capCont] at hi
        have cont1 : ∀ (q : Cap) (r : List Cap), capCont Bx (q :: r) = capCont Bx [q] ++ capCont Bx r := by
          intro q r; cases q <;> simp [capCont]
        have key : ∀ (caps : List Cd) (cps : List Cap) (x : El (pairs caps)), decCaps Bx caps cps = some x → ∀ id ∈ capCont Bx cps, ∃ v, vecOf Bx id = some v := by
          intro caps
          induction caps with
          | nil =>
            intro cps x h id hi
            cases cps with
            | nil => simp [capCont] at hi
            | cons => simp [decCaps] at h
          | cons c r ih =>
            intro cps x h id hi
            cases cps with
            | nil => simp [capCont] at hi
            | cons q qs =>
              rw [cont1, List.mem_append] at hi
              cases r with
              | nil =>
                cases qs with
                | nil =>
                  simp only [decCaps] at h
                  split at h
                  · rename_i l hl
                    rcases hi with hi | hi
                    · exact one c q l x hl h id hi
                    · simp [capCont] at hi
                  · cases h
                | cons => simp [decCaps] at h
              | cons c2 r2 =>
                simp only [decCaps] at h
                split at h
                · rename_i l hl
                  split at h
                  · rename_i x1 y1 hx1 hy1
                    rcases hi with hi | hi
                    · exact one c q l x1 hl hx1 id hi
                    · exact ih qs y1 hy1 id hi
                  · cases h
                · cases h
        exact key caps cps x1 h id hi
      · cases h
    · cases h

theorem packA_get : ∀ (as : List ASh) (ts : List T) (x : Tup (acodes as)) (i : Nat) (s : ASh) (t : T), packA Bx as ts = some x → as[i]? = some s → ts[i]? = some t → ∃ x1, packT Bx s t = some x1
  | [], _, _, _, _, _, _, h, _ => by simp at h
  | _ :: _, [], _, _, _, _, _, _, h => by simp at h
  | s0 :: r, t0 :: ts, x, 0, s, t, hp, hs, ht => by
    simp at hs ht; subst hs ht
    obtain ⟨x1, y, h1, _, _⟩ := packA_cons hp
    exact ⟨x1, h1⟩
  | s0 :: r, t0 :: ts, x, i + 1, s, t, hp, hs, ht => by
    obtain ⟨x1, y, _, h2, _⟩ := packA_cons hp
    exact packA_get r ts y i s t h2 (by simpa using hs) (by simpa using ht)

theorem frz_done (hB : Sub Bx B) {ids : List Nat} {id : Nat} (hi : id ∈ ids) {v : Vc} (hv : vecOf Bx id = some v) : isLive (applyB B (frzL Bx ids)) id = false := by
  by_cases h : ∃ org c xs, Bx id = .live (.vec org c xs)
  · obtain ⟨org, c, xs, h⟩ := h
    simp [isLive, frz_get h hi]
  · have h : ∀ org c xs, Bx id ≠ .live (.vec org c xs) := fun o c xs e => h ⟨o, c, xs, e⟩
    unfold vecOf at hv
    split at hv
    · rename_i e; exact (h _ _ _ e).elim
    · rename_i e
      unfold isLive
      rw [frz_else h, hB.ro _ _ _ _ e]
    · cases hv

theorem frz_notin {ids : List Nat} {id : Nat} (hi : id ∉ ids) : applyB B (frzL Bx ids) id = B id :=
  applyB_notin _ _ fun h => by
    obtain ⟨p, hp, e⟩ := List.mem_map.1 h
    obtain ⟨_, _, _, _, _, hm⟩ := frzL_of ids p hp
    rw [e] at hm
    exact hi hm

theorem frz_live {ids : List Nat} {id : Nat} {b : Blk} (h : applyB B (frzL Bx ids) id = .live b) : B id = .live b := by
  by_cases hm : ∃ p ∈ frzL Bx ids, p.1 = id
  · obtain ⟨p, hp, rfl⟩ := hm
    obtain ⟨o, c, xs, h1, h2, h3⟩ := frzL_of ids p hp
    rw [frz_get h1 h3] at h; cases h
  · rw [applyB_notin] at h
    · exact h
    · intro hx
      obtain ⟨p, hp, e⟩ := List.mem_map.1 hx
      exact hm ⟨p, hp, e⟩

theorem eff_keys : ∀ (as : List ASh) (ts : List T) (x : Tup (acodes as)) (z : Tup (outs as)), packA Bx as ts = some x → (effA as ts (orgA Bx as ts) z).map (·.1) = lentA as ts
  | [], _, _, _, _ => by simp [effA, lentA]
  | _ :: _, [], _, _, _ => by simp [effA, lentA]
  | s :: r, t :: ts, x, z, hp => by
    obtain ⟨x1, y, h1, h2, _⟩ := packA_cons hp
    simp only [orgA, effA, lentA, List.map_append]
    rw [eff_keys r ts y _ h2]
    congr 1
    cases s with
    | d _ _ => rfl
    | clo _ _ => rfl
    | rp _ => rfl
    | k _ => rfl
    | own c => simp only [effT, lentT]; cases nameT t <;> rfl
    | ref c => simp only [effT, lentT]; cases nameT t <;> rfl
    | rag a e => simp only [effT, lentT]; cases nameG a t <;> rfl
    | rbox c => simp only [effT, lentT]; cases ptrT t <;> rfl

theorem eff_entry {A' : Base} {as0 : List ASh} {Z : Nat → Prop} : ∀ (as : List ASh) (ts : List T) (p : Nat) (z : Tup (outs as)), OuR A' as0 w' Z p as z → ∀ q ∈ effA as ts (orgA Bx as ts) z, ∃ i s t, as[i]? = some s ∧ ts[i]? = some t ∧ lentT s t = [q.1] ∧
    ((∃ c, s = .own c ∧ q.2 = .dead) ∨
     (∃ c xs l, (s = .ref c ∨ ∃ a, s = .rag a c) ∧ q.2 = .live (.vec (orgT Bx s t) c xs) ∧ A'.pin (8 * (p + i) + 5) = some l ∧ BR (cxZ A' as0 w' Z) (.vec (2 ^ (p + i)) c xs) l) ∨
     (∃ c xv l, s = .rbox c ∧ q.2 = .live (.box (scells (orgT Bx s t) c xv)) ∧ A'.pin (8 * (p + i) + 5) = some l ∧ (l.o = 0 ∧ l.nil = false) ∧ ∃ arr t', w'.heap[l.b]? = some (.cells arr t' (0, 0)) ∧ DR w' ((cxZ A' as0 w' Z).ok (2 ^ (p + i))) c xv arr.toList))
  | [], _, _, _, _, q, h => by simp [effA] at h
  | _ :: _, [], _, _, _, q, h => by simp [effA] at h
  | s :: r, t :: ts, p, z, ho, q, h => by
    simp only [orgA, effA, List.mem_append] at h
    have tail : OuR A' as0 w' Z (p + 1) r (otl s z) := by
      cases s with
      | d _ _ => exact ho
      | own _ => exact ho
      | clo _ _ => exact ho
      | rp _ => exact ho
      | k _ => exact ho
      | ref c => exact ho.2
      | rag a c => exact ho.2
      | rbox c => exact ho.2
    rcases h with h | h
    · refine ⟨0, s, t, rfl, rfl, ?_⟩
      cases s with
      | d _ _ => simp [effT] at h
      | clo _ _ => simp [effT] at h
      | rp _ => simp [effT] at h
      | k _ => simp [effT] at h
      | own c =>
        simp only [effT] at h
        cases hn : nameT t with
        | none => rw [hn] at h; simp at h
        | some id =>
          rw [hn] at h
          simp only [List.mem_singleton] at h
          subst h
          exact ⟨by simp [lentT, hn], .inl ⟨c, rfl, rfl⟩⟩
      | ref c =>
        simp only [effT] at h
        cases hn : nameT t with
        | none => rw [hn] at h; simp at h
        | some id =>
          rw [hn] at h
          simp only [List.mem_singleton] at h
          subst h
          obtain ⟨⟨l, h1, h2⟩, _⟩ := ho
          exact ⟨by simp [lentT, hn], .inr (.inl ⟨c, _, l, .inl rfl, rfl, h1, h2⟩)⟩
      | rag a c =>
        simp only [effT] at h
        cases hn : nameG a t with
        | none => rw [hn] at h; simp at h
        | some q0 =>
          rw [hn] at h
          simp only [List.mem_singleton] at h
          subst h
          obtain ⟨⟨l, h1, h2⟩, _⟩ := ho
          exact ⟨by simp [lentT, hn], .inr (.inl ⟨c, _, l, .inr ⟨a, rfl⟩, rfl, h1, h2⟩)⟩
      | rbox c =>
        simp only [effT] at h
        cases hn : ptrT t with
        | none => rw [hn] at h; simp at h
        | some id =>
          rw [hn] at h
          simp only [List.mem_singleton] at h
          subst h
          obtain ⟨⟨l, h1, h2, h3⟩, _⟩ := ho
          exact ⟨by simp [lentT, hn], .inr (.inr ⟨c, _, l, rfl, rfl, h1, h2, h3⟩)⟩
    · obtain ⟨i, s', t', h1, h2, h3, h4⟩ := eff_entry r ts (p + 1) _ tail q h
      refine ⟨i + 1, s', t', by simpa using h1, by simpa using h2, h3, ?_⟩
      rw [show p + (i + 1) = p + 1 + i by omega]
      exact h4

theorem gA_at (g : Nat → Option Loc) : ∀ (as : List ASh) (ts : List T) (p i : Nat) (s : ASh) (t : T), as[i]? = some s → ts[i]? = some t → isLent s = true → gA g p as ts (8 * (p + i) + 5) = gT g s t
  | [], _, _, _, _, _, h, _, _ => by simp at h
  | _ :: _, [], _, _, _, _, _, h, _ => by simp at h
  | s0 :: r, t0 :: ts, p, 0, s, t, hs, ht, hl => by
    simp at hs ht; subst hs ht
    simp only [gA, hl, cond_true, Nat.add_zero]
    rw [upd_same]
  | s0 :: r, t0 :: ts, p, i + 1, s, t, hs, ht, hl => by
    have ih := gA_at g r ts (p + 1) i s t (by simpa using hs) (by simpa using ht) hl
    rw [show p + (i + 1) = p + 1 + i by omega]
    simp only [gA]
    cases isLent s0
    · exact ih
    · simp only [cond_true]; rw [upd_ne _ _ (by omega)]; exact ih

theorem refIds_mem : ∀ (as : List ASh) (p i : Nat) (s : ASh), as[i]? = some s → ((∃ c, s = .ref c ∨ ∃ a, s = .rag a c) ∨ ∃ c, s = .rbox c) → 8 * (p + i) + 5 ∈ refIds p as
  | [], _, _, _, h, _ => by simp at h
  | s0 :: r, p, 0, s, hs, hr => by
    simp at hs; subst hs
    rcases hr with ⟨c, rfl | ⟨a, rfl⟩⟩ | ⟨c, rfl⟩ <;> (simp only [refIds, Nat.add_zero]; exact List.mem_cons_self ..)
  | s0 :: r, p, i + 1, s, hs, hr => by
    have ih := refIds_mem r (p + 1) i s (by simpa using hs) hr
    rw [show p + (i + 1) = p + 1 + i by omega]
    cases s0 <;> simp only [refIds] <;> first
      | exact ih
      | exact List.mem_cons_of_mem _ ih

theorem orgR_le : ∀ (orgs : List Nat) (n i o mask : Nat), orgs[i]? = some o → mask.testBit (n + i) = true → orgLe o (orgR mask n orgs) = true
  | [], _, _, _, _, h, _ => by simp at h
  | o0 :: r, n, 0, o, mask, h, hm => by
    simp at h; subst h
    rw [Nat.add_zero] at hm
    simp only [orgR, hm, cond_true]
    exact orgLe_or_left _ _
  | o0 :: r, n, i + 1, o, mask, h, hm => by
    simp only [orgR]
    refine orgLe_trans (orgR_le r (n + 1) i o mask (by simpa using h) (by rwa [show n + 1 + i = n + (i + 1) by omega])) (orgLe_or_right _ _)

theorem orgA_get : ∀ (as : List ASh) (ts : List T) (i : Nat) (s : ASh) (t : T), as[i]? = some s → ts[i]? = some t → (orgA Bx as ts)[i]? = some (orgT Bx s t)
  | [], _, _, _, _, h, _ => by simp at h
  | _ :: _, [], _, _, _, _, h => by simp at h
  | s0 :: r, t0 :: ts, 0, s, t, hs, ht => by
    simp at hs ht; subst hs ht; rfl
  | s0 :: r, t0 :: ts, i + 1, s, t, hs, ht => by
    simp only [orgA, List.getElem?_cons_succ]
    exact orgA_get r ts i s t (by simpa using hs) (by simpa using ht)

theorem mask_bit : ∀ (rs : List RSh) (n : Nat) (r : RSh) (p : Nat), r ∈ rs → r.org.testBit p = true → (rs.foldl (fun m r => m ||| r.org) n).testBit p = true := by
  have mono : ∀ (rs : List RSh) (n p : Nat), n.testBit p = true → (rs.foldl (fun m r => m ||| r.org) n).testBit p = true := by
    intro rs
    induction rs with
    | nil => intro n p h; exact h
    | cons a rs ih => intro n p h; rw [List.foldl_cons]; exact ih _ _ (by rw [Nat.testBit_or, h, Bool.true_or])
  intro rs
  induction rs with
  | nil => intro n r p h; simp at h
  | cons a rs ih =>
    intro n r p h hb
    rw [List.foldl_cons]
    rcases List.mem_cons.1 h with rfl | h
    · exact mono _ _ _ (by rw [Nat.testBit_or, hb, Bool.or_true])
    · exact ih _ r p h hb

end
end Ai
end Go.Proofs.YtpboclokodgnlaaGreat

/-! A26: The ideal interpreter against the machine: calls; the whole. -/
namespace Go.Proofs.YtpboclokodgnlaaGreat
namespace Ai
set_option linter.unusedSimpArgs false
set_option linter.unusedVariables false

theorem ownId_some {dd : Nat} {rs : List RSh} {as : List ASh} {id : Nat} (h : ownId dd rs as = some id) : id = 8 * dd ∧ totL rs = 1 ∧ (∀ r ∈ rs, r.org = 0) ∧ ∀ s ∈ as, (∀ c, (s = .ref c ∨ ∃ a, s = .rag a c) → cflat c = true) ∧ (∀ c, s = .rbox c → cflat c = true) := by
  unfold ownId at h
  split at h
  · rename_i h1 h2
    cases h
    rw [totL_fold, Nat.zero_add] at h1
    rw [Bool.and_eq_true, List.all_eq_true, List.all_eq_true] at h2
    refine ⟨rfl, h1, fun r hr => Nat.eq_of_beq_eq_true (h2.1 r hr), fun s hs => ⟨fun c e => ?_, fun c e => ?_⟩⟩
    · rcases e with rfl | ⟨a, rfl⟩ <;> exact h2.2 _ hs
    · subst e; exact h2.2 _ hs
  · cases h

section
variable {A : Base} {g : Nat → Option Loc} {B Bx : Nat → BS} {w w' : World} {i : FI} {ts : List T}

theorem call_out (hM : Mem A g B w) (hB : Sub Bx B) {x : Tup (acodes i.as)} (hp : packA Bx i.as ts = some x) (hnd : nodupB (lentA i.as ts) = true) (hap : ∀ id ∈ lentA i.as ts, id ∉ seenA Bx i.as ts) {y : Tup (rcodes i.rs i.as)} {v : Value}
    (hF : FinR (baseA A g B Bx w i.as ts) i y v w') {dd : Nat} (hfr : freshAll Bx (impA dd i.rs i.as (orgA Bx i.as ts) y).2 = true) :
    ∃ g2, Mem A g2 (applyB B (frzL Bx (keptA Bx (maskR i.rs) 0 i.as ts) ++ (effA i.as ts (orgA Bx i.as ts) (outR i.rs y) ++ (impA dd i.rs i.as (orgA Bx i.as ts) y).2))) w' ∧
      Later (cxOf A g B w) (cxOf A g2 (applyB B (frzL Bx (keptA Bx (maskR i.rs) 0 i.as ts) ++ (effA i.as ts (orgA Bx i.as ts) (outR i.rs y) ++ (impA dd i.rs i.as (orgA Bx i.as ts) y).2))) w') ∧
      TR (cxOf A g2 (applyB B (frzL Bx (keptA Bx (maskR i.rs) 0 i.as ts) ++ (effA i.as ts (orgA Bx i.as ts) (outR i.rs y) ++ (impA dd i.rs i.as (orgA Bx i.as ts) y).2))) w') (resT (impA dd i.rs i.as (orgA Bx i.as ts) y).1) v := by
  obtain ⟨hFr, Z, hRes, hOut⟩ := hF
  obtain ⟨hM1, hL1, hB1⟩ := frz_step hM hB (keptA Bx (maskR i.rs) 0 i.as ts)
  have hX := lentA_live hB i.as ts x hp
  rw [applyB_append, applyB_append]
  generalize hB1e : applyB B (frzL Bx (keptA Bx (maskR i.rs) 0 i.as ts)) = B1 at hM1 hL1 hB1 ⊢
  -- lent names stay
  have hlive1 : ∀ id ∈ lentA i.as ts, ∃ blk, B1 id = .live blk := fun id hid => by
    obtain ⟨blk, _, hb⟩ := hX id hid
    refine ⟨blk, ?_⟩
    rw [← hB1e, frz_notin fun hk => hap id hid (keptA_sub _ _ _ id hk)]
    exact hb
  have hkeys := eff_keys (Bx := Bx) i.as ts x (outR i.rs y) hp
  have hent := eff_entry (Bx := Bx) i.as ts 0 (outR i.rs y) hOut
  generalize effA i.as ts (orgA Bx i.as ts) (outR i.rs y) = eff at hkeys hent ⊢
  have hndk : (eff.map (·.1)).Nodup := by rw [hkeys]; exact nodupB_list _ hnd
  have hlent : ∀ q ∈ eff, q.1 ∈ lentA i.as ts := fun q hq => by rw [← hkeys]; exact List.mem_map.2 ⟨q, hq, rfl⟩
  have hliveE : ∀ q ∈ eff, ∃ blk, B1 q.1 = .live blk := fun q hq => hlive1 _ (hlent q hq)
  have hlX : ∀ k, lentX g i.as ts k ↔ ∃ q ∈ eff, ∃ l, g q.1 = some l ∧ l.nil = false ∧ l.b = k := fun k => by
    constructor
    · rintro ⟨id, hid, l, h⟩
      rw [← hkeys] at hid
      obtain ⟨q, hq, rfl⟩ := List.mem_map.1 hid
      exact ⟨q, hq, l, h⟩
    · rintro ⟨q, hq, l, h⟩
      exact ⟨q.1, hlent q hq, l, h⟩
  -- the pinned place of a lent name
  have hpinE : ∀ q ∈ eff, ∀ (j : Nat) s t l, i.as[j]? = some s → ts[j]? = some t → lentT s t = [q.1] → isLent s = true → (baseA A g B Bx w i.as ts).pin (8 * (0 + j) + 5) = some l → g q.1 = some l := fun q hq j s t l hs ht hlt hil hpin => by
    have h5 : (8 * (0 + j) + 5) % 8 = 5 := by omega
    have hpin' : (if (8 * (0 + j) + 5) % 8 = 5 then gA g 0 i.as ts (8 * (0 + j) + 5) else none) = some l := hpin
    rw [if_pos h5, gA_at g i.as ts 0 j s t hs ht hil] at hpin'
    simp only [gT, hlt] at hpin'
    exact hpin'
  -- a block of one that was lent may lie where it likes
  have hSX : ∀ m b, (∃ id b0 l, B1 id = .live b0 ∧ g id = some l ∧ l.nil = false ∧ l.b = b) → A.S m b := by
    rintro m b ⟨id, b0, l, h1, h2, h3, h4⟩
    obtain ⟨l', q1, _, q2⟩ := hM1.br id b0 h1
    rw [h2] at q1; cases q1
    rcases (q2 h3).2 with h | h
    · rw [← h4]; exact A.new _ _ h
    · rw [← h4]; exact A.own _ _ h
  have hlt1 : ∀ id b0 l, B1 id = .live b0 → g id = some l → l.nil = false → l.b < w.heap.size := fun id b0 l h1 h2 h3 => by
    obtain ⟨l', q1, _, q2⟩ := hM1.br id b0 h1
    rw [h2] at q1; cases q1
    exact (q2 h3).1
  -- what is live behind the call, but for what is taken over
  have live2 : ∀ id blk, applyB B1 eff id = .live blk → (∃ b0, B1 id = .live b0) ∧ ∀ q ∈ eff, q.1 = id → q.2 = .live blk := fun id blk h => by
    by_cases hm : ∃ q ∈ eff, q.1 = id
    · obtain ⟨q, hq, rfl⟩ := hm
      refine ⟨hliveE q hq, fun q' hq' e => ?_⟩
      have h1 := applyB_mem eff B1 hndk (show (q'.1, q'.2) ∈ eff from hq')
      rw [e, h] at h1
      exact h1.symm
    · have hn : applyB B1 eff id = B1 id := applyB_notin eff B1 fun hx => by
        obtain ⟨q, hq, e⟩ := List.mem_map.1 hx
        exact hm ⟨q, hq, e⟩
      exact ⟨⟨blk, hn ▸ h⟩, fun q hq e => (hm ⟨q, hq, e⟩).elim⟩
  have refc : ∀ q ∈ eff, ∀ blk, q.2 = .live blk → ∀ l, g q.1 = some l → l.nil = false → (cxE (baseA A g B Bx w i.as ts) i.as w').ow l.b := fun q hq blk hb l hl hn => by
    obtain ⟨j, s, t, hs, ht, hlt, h | ⟨c, xs, l', hsr, _, hpin, _⟩ | ⟨c, xv, l', rfl, _, hpin, _⟩⟩ := hent q hq
    · obtain ⟨c, _, hd⟩ := h
      rw [hd] at hb; cases hb
    · have := hpinE q hq j _ t l' hs ht hlt (by rcases hsr with rfl | ⟨a, rfl⟩ <;> rfl) hpin
      rw [hl] at this; cases this
      exact ⟨8 * (0 + j) + 5, refIds_mem i.as 0 j _ hs (.inl ⟨c, hsr⟩), l, hpin, hn, rfl⟩
    · have := hpinE q hq j _ t l' hs ht hlt rfl hpin
      rw [hl] at this; cases this
      exact ⟨8 * (0 + j) + 5, refIds_mem i.as 0 j _ hs (.inr ⟨c, rfl⟩), l, hpin, hn, rfl⟩
  -- what the callee may hand on, the caller may hold
  have okcl : ∀ (m org' : Nat) (b : Nat), (∀ (p : Nat) s t, i.as[p]? = some s → ts[p]? = some t → m.testBit p = true → orgLe (orgT Bx s t) org' = true ∧ ∀ id ∈ seenT Bx s t, isLive B1 id = false) →
      (cxE (baseA A g B Bx w i.as ts) i.as w').ok m b → A.S org' b ∧ (¬ owOf g (applyB B1 eff) b ∧ ((A.w0.heap.size ≤ b ∨ A.X b) → Plain w'.heap[b]?)) := by
    rintro m org' b hm ⟨hS, hno, hpl⟩
    rcases hS with hS | hS | ⟨p, s, t, hs, ht, hbit, hok⟩
    · refine ⟨A.new _ _ (by have := hM.fr.size; omega), ?_, fun _ => hpl (.inl hS)⟩
      rintro ⟨id, blk, l, h1, h2, h3, h4⟩
      obtain ⟨⟨b0, hb0⟩, _⟩ := live2 id blk h1
      have := hlt1 id b0 l hb0 h2 h3
      omega
    · have hpl' := hpl (.inr hS)
      obtain ⟨q, hq, l0, h1, h2, h3⟩ := (hlX b).1 hS
      obtain ⟨b0, hb0⟩ := hliveE q hq
      refine ⟨hSX _ _ ⟨q.1, b0, l0, hb0, h1, h2, h3⟩, ?_, fun _ => hpl'⟩
      rintro ⟨id, blk, l, h4, h5, h6, h7⟩
      obtain ⟨⟨b1, hb1⟩, hk⟩ := live2 id blk h4
      have := hM1.inj q.1 id _ _ _ _ hb0 hb1 h1 h5 h2 h6 (by omega)
      exact hno (by rw [← h3]; exact refc q hq blk (hk q hq this) l0 h1 h2)
    · obtain ⟨h1, h2⟩ := hm p s t hs ht hbit
      refine ⟨A.mono _ _ _ h1 hok.1, ?_, fun hn => ?_⟩
      rotate_left
      · by_cases hN : w.heap.size ≤ b ∨ lentX g i.as ts b
        · exact hpl hN
        · rw [not_or] at hN
          rw [hFr.old b (by show b < w.heap.size; omega) hN.2]
          exact hok.2.2 hn
      rintro ⟨id, blk, l, h4, h5, h6, h7⟩
      obtain ⟨⟨b1, hb1⟩, _⟩ := live2 id blk h4
      have hb : B id = .live b1 := frz_live (Bx := Bx) (ids := keptA Bx (maskR i.rs) 0 i.as ts) (by rw [hB1e]; exact hb1)
      have := h2 id (hok.2.1 id b1 l hb h5 h6 h7)
      simp [isLive, hb1] at this
  have dead1 : ∀ (p : Nat) s t, i.as[p]? = some s → ts[p]? = some t → ((maskR i.rs).testBit p = true ∨ ∃ c, s = .rbox c) → ∀ id ∈ seenT Bx s t, isLive B1 id = false := fun p s t hs ht hk id hid => by
    obtain ⟨x1, hx1⟩ := packA_get i.as ts x p s t hp hs ht
    obtain ⟨vc, hvc⟩ := seen_vec hx1 id hid
    rw [← hB1e]
    exact frz_done hB (keptA_mem i.as ts 0 p s t hs ht (by rwa [Nat.zero_add]) id hid) hvc
  have okOut : ∀ (j : Nat) s t b, i.as[j]? = some s → ts[j]? = some t → ((∃ c, s = .ref c ∨ ∃ a, s = .rag a c) ∨ ∃ c, s = .rbox c) → (cxZ (baseA A g B Bx w i.as ts) i.as w' Z).ok (2 ^ (0 + j)) b → A.S (orgT Bx s t) b ∧ (¬ owOf g (applyB B1 eff) b ∧ ((A.w0.heap.size ≤ b ∨ A.X b) → Plain w'.heap[b]?)) := fun j s t b hs ht hr hok0 => by
    have hok : (cxE (baseA A g B Bx w i.as ts) i.as w').ok (2 ^ (0 + j)) b := ⟨hok0.1, fun h => hok0.2.1 (.inl h), hok0.2.2⟩
    refine okcl _ _ b (fun p s' t' hs' ht' hbit => ?_) hok
    rw [Nat.zero_add, Nat.testBit_two_pow] at hbit
    have hjp : j = p := by simpa using hbit
    subst hjp
    rw [hs] at hs'; rw [ht] at ht'
    cases hs'; cases ht'
    refine ⟨orgLe_refl _, ?_⟩
    rcases hr with ⟨c, rfl | ⟨a, rfl⟩⟩ | ⟨c, rfl⟩
    · intro id hid; simp [seenT] at hid
    · intro id hid; simp [seenT] at hid
    · exact dead1 j _ t hs ht (.inr ⟨c, rfl⟩)
  have okRes : ∀ r ∈ i.rs, ∀ b, (cxE (baseA A g B Bx w i.as ts) i.as w').ok r.org b → A.S (orgR r.org 0 (orgA Bx i.as ts)) b ∧ (¬ owOf g (applyB B1 eff) b ∧ ((A.w0.heap.size ≤ b ∨ A.X b) → Plain w'.heap[b]?)) := fun r hr b hok =>
    okcl _ _ b (fun p s t hs ht hbit => ⟨orgR_le _ 0 p _ _ (orgA_get i.as ts p s t hs ht) (by rwa [Nat.zero_add]), dead1 p s t hs ht (.inl (mask_bit i.rs 0 r p hr hbit))⟩) hok
  -- the world
  have hold : ∀ k, k < w.heap.size → (∀ q ∈ eff, ∀ l, g q.1 = some l → l.nil = false → l.b ≠ k) → w'.heap[k]? = w.heap[k]? := fun k hk hne =>
    hFr.old k hk fun hx => by
      obtain ⟨q, hq, l, h1, h2, h3⟩ := (hlX k).1 hx
      exact hne q hq l h1 h2 h3
  -- what is taken over lies apart from what comes back
  have okNew : ∀ (k : Imp) (_ : k.l.nil = false → Z k.l.b) (m b : Nat) {m' : Nat}, A.S m b ∧ (¬ owOf g (applyB B1 eff) b ∧ ((A.w0.heap.size ≤ b ∨ A.X b) → Plain w'.heap[b]?)) → (cxZ (baseA A g B Bx w i.as ts) i.as w' Z).ok m' b → (cxOf A (impG g (some k)) (impB (applyB B1 eff) (some k)) w').ok m b := fun k hk m b m' h hok => by
    refine ⟨h.1, ?_, h.2.2⟩
    rintro ⟨id, blk0, l0, h1, h2, h3, h4⟩
    by_cases e : id = k.id
    · subst e
      have h2' : upd g k.id (some k.l) k.id = some l0 := h2
      rw [upd_same] at h2'
      cases h2'
      exact hok.2.1 (.inr (h4 ▸ hk h3))
    · have h1' : upd (applyB B1 eff) k.id (.live k.blk) id = .live blk0 := h1
      have h2' : upd g k.id (some k.l) id = some l0 := h2
      rw [upd_ne _ _ e] at h1' h2'
      exact h.2.1 ⟨id, blk0, l0, h1', h2', h3, h4⟩
  -- memory, whatever is taken over
  have step : ∀ (imp : Option Imp), (imp = none ∨ (∀ s ∈ i.as, (∀ c, (s = .ref c ∨ ∃ a, s = .rag a c) → cflat c = true) ∧ (∀ c, s = .rbox c → cflat c = true)) ∨ ∃ k, imp = some k ∧ (k.l.nil = false → Z k.l.b) ∧ B1 k.id = .fresh) →
      (∀ j, imp = some j → B1 j.id = .fresh ∧ (Later (cxOf A g B1 w) (cxOf A (impG g imp) (impB (applyB B1 eff) imp) w') → BR (cxOf A (impG g imp) (impB (applyB B1 eff) imp) w') j.blk j.l) ∧
        (j.l.nil = false → j.l.b < w'.heap.size ∧ (w.heap.size ≤ j.l.b ∨ ∃ q ∈ eff, q.2 = .dead ∧ ∃ l, g q.1 = some l ∧ l.nil = false ∧ l.b = j.l.b))) →
      Mem A (impG g imp) (impB (applyB B1 eff) imp) w' ∧ Later (cxOf A g B1 w) (cxOf A (impG g imp) (impB (applyB B1 eff) imp) w') := by
    intro imp hflat himp
    refine ret_mem hM1 hndk hliveE (fun q hq => ?_) himp hFr.os hFr.tape hFr.output hFr.size hold
    obtain ⟨j, s, t, hs, ht, hlt, ⟨c, _, hd⟩ | ⟨c, xs, l, hsr, hv, hpin, hbr⟩ | ⟨c, xv, l, rfl, hv, hpin, h0, arr, t', harr, hd⟩⟩ := hent q hq
    · exact .inl hd
    · have hgl := hpinE q hq j _ t l hs ht hlt (by rcases hsr with rfl | ⟨a, rfl⟩ <;> rfl) hpin
      refine .inr ⟨_, l, hv, hgl, fun hL => ?_⟩
      rcases hbr with h | ⟨hnl, _, hn, hc, hz, arr, t', harr, hfit, hel⟩
      · exact .inl h
      · obtain ⟨b0, hb0⟩ := hliveE q hq
        refine .inr ⟨hnl, hSX _ _ ⟨q.1, b0, l, hb0, hgl, hnl, rfl⟩, hn, hc, hz, arr, t', harr, hfit, fun m z hm => ?_⟩
        obtain ⟨cs, hd, hcell⟩ := hel m z hm
        refine ⟨cs, ?_, hcell⟩
        rcases hflat with rfl | hflat | ⟨k, rfl, hk, hkf⟩
        · exact hd.mono (Nat.le_refl _) fun b hb hok => ⟨okOut j _ t b hs ht (.inl ⟨c, hsr⟩) hok, rfl⟩
        · exact hd.flat ((hflat _ (List.mem_of_getElem? hs)).1 c hsr)
        · exact hd.mono (Nat.le_refl _) fun b hb hok => ⟨okNew k hk _ b (okOut j _ t b hs ht (.inl ⟨c, hsr⟩) hok) hok, rfl⟩
    · have hgl := hpinE q hq j _ t l hs ht hlt rfl hpin
      refine .inr ⟨_, l, hv, hgl, fun hL => ⟨h0, arr, t', harr, ?_⟩⟩
      refine scells_sr ?_
      rcases hflat with rfl | hflat | ⟨k, rfl, hk, hkf⟩
      · exact hd.mono (Nat.le_refl _) fun b hb hok => ⟨okOut j _ t b hs ht (.inr ⟨c, rfl⟩) hok, rfl⟩
      · exact hd.flat ((hflat _ (List.mem_of_getElem? hs)).2 c rfl)
      · exact hd.mono (Nat.le_refl _) fun b hb hok => ⟨okNew k hk _ b (okOut j _ t b hs ht (.inr ⟨c, rfl⟩) hok) hok, rfl⟩
  cases hfl : frL i.rs with
  | true =>
    have hA : impA dd i.rs i.as (orgA Bx i.as ts) y = impF (8 * dd) (orgA Bx i.as ts) i.rs y := by unfold impA; rw [hfl]
    have hF : FRes (baseA A g B Bx w i.as ts) i.as w' Z i.rs y v := by
      unfold ResOk at hRes
      rw [hfl] at hRes
      exact hRes
    obtain ⟨r, hr, val, blk, l, himp, hl1, hbr, hval⟩ := fres_own (id := 8 * dd) (orgs := orgA Bx i.as ts) i.rs y v Z hF
    rw [hA, himp] at hfr ⊢
    have hfresh : Bx (8 * dd) = .fresh := by
      simp only [freshAll, Bool.and_true] at hfr
      split at hfr
      · assumption
      · cases hfr
    have hfr1 : B1 (8 * dd) = .fresh := by
      rw [← hB1e, frz_else fun o c xs e => by rw [hfresh] at e; cases e]
      exact hB.fresh _ hfresh
    have hsrc : l.nil = false → w.heap.size ≤ l.b ∨ ∃ q ∈ eff, q.2 = .dead ∧ ∃ l0, g q.1 = some l0 ∧ l0.nil = false ∧ l0.b = l.b := fun hn => by
      obtain ⟨_, _, h, hno⟩ := hl1 hn
      rcases h with h | h
      · exact .inl h
      · obtain ⟨q, hq, l0, h1, h2, h3⟩ := (hlX l.b).1 h
        refine .inr ⟨q, hq, ?_, l0, h1, h2, h3⟩
        cases hq2 : q.2 with
        | dead => rfl
        | live blk => exact (hno (by rw [← h3]; exact refc q hq blk hq2 l0 h1 h2)).elim
        | fresh =>
          exfalso
          obtain ⟨j, s, t, _, _, _, ⟨c, _, hd⟩ | ⟨c, xs, l, _, hv, _⟩ | ⟨c, xv, l, _, hv, _⟩⟩ := hent q hq
          · rw [hq2] at hd; cases hd
          · rw [hq2] at hv; cases hv
          · rw [hq2] at hv; cases hv
        | ro _ _ _ =>
          exfalso
          obtain ⟨j, s, t, _, _, _, ⟨c, _, hd⟩ | ⟨c, xs, l, _, hv, _⟩ | ⟨c, xv, l, _, hv, _⟩⟩ := hent q hq
          · rw [hq2] at hd; cases hd
          · rw [hq2] at hv; cases hv
          · rw [hq2] at hv; cases hv
    have hS : ∀ m, l.nil = false → A.S m l.b := fun m hn => by
      rcases hsrc hn with h | ⟨q, hq, _, l0, h1, h2, h3⟩
      · exact A.new _ _ (by have := hM.fr.size; omega)
      · obtain ⟨b0, hb0⟩ := hliveE q hq
        exact hSX _ _ ⟨q.1, b0, l0, hb0, h1, h2, h3⟩
    obtain ⟨m1, m2⟩ := step (some ⟨8 * dd, l, blk⟩) (.inr (.inr ⟨_, rfl, fun hn => (hl1 hn).1, hfr1⟩)) (fun j h => by
      cases h
      refine ⟨hfr1, fun _ => ?_, fun hn => ⟨(hl1 hn).2.1, hsrc hn⟩⟩
      refine hbr (cxOf A (impG g (some ⟨8 * dd, l, blk⟩)) (impB (applyB B1 eff) (some ⟨8 * dd, l, blk⟩)) w') rfl (hS _) fun b hb hok hne => ?_
      obtain ⟨k1, k2, k3⟩ := okRes r hr b hok
      refine ⟨k1, ?_, k3⟩
      rintro ⟨id, blk0, l0, h1, h2, h3, h4⟩
      by_cases e : id = 8 * dd
      · subst e
        have h2' : upd g (8 * dd) (some l) (8 * dd) = some l0 := h2
        rw [upd_same] at h2'
        cases h2'
        exact hne h3 h4.symm
      · have h1' : upd (applyB B1 eff) (8 * dd) (.live blk) id = .live blk0 := h1
        have h2' : upd g (8 * dd) (some l) id = some l0 := h2
        rw [upd_ne _ _ e] at h1' h2'
        exact k2 ⟨id, blk0, l0, h1', h2', h3, h4⟩)
    exact ⟨_, m1, hL1.trans m2, hval _ (upd_same _ _ _)⟩
  | false =>
  have hA : impA dd i.rs i.as (orgA Bx i.as ts) y = impR (ownId dd i.rs i.as) (orgA Bx i.as ts) i.rs y := by unfold impA; rw [hfl]
  rw [hA] at hfr ⊢
  have hRes' : ∃ us, v = resultVal us ∧ RsR (baseA A g B Bx w i.as ts) i.as w' i.rs y us := by
    unfold ResOk at hRes
    rw [hfl] at hRes
    exact hRes
  obtain ⟨us, rfl, hRs⟩ := hRes'
  cases himps : (impR (ownId dd i.rs i.as) (orgA Bx i.as ts) i.rs y).2 with
  | nil =>
    obtain ⟨m1, m2⟩ := step none (.inl rfl) (fun j h => by cases h)
    refine ⟨g, m1, hL1.trans m2, ?_⟩
    have htot : totL i.rs ≤ 1 ∨ ownId dd i.rs i.as = none := by
      cases ho : ownId dd i.rs i.as with
      | none => exact .inr rfl
      | some id => exact .inl (by have := (ownId_some ho).2.1; omega)
    exact resT_tr (res_data (C := cxOf A g (applyB B1 eff) w') i.rs y us hRs (.inr (.inr himps)) (fun r hr _ xx vs hd => hd.mono (Nat.le_refl _) fun b hb hok => ⟨okRes r hr b hok, rfl⟩) htot).2
  | cons e0 e1 =>
    cases ho : ownId dd i.rs i.as with
    | none =>
      exfalso
      have := (res_data (C := cxOf A g (applyB B1 eff) w') (own := none) (orgs := orgA Bx i.as ts) i.rs y us hRs (.inl rfl) (fun r hr _ xx vs hd => hd.mono (Nat.le_refl _) fun b hb hok => ⟨okRes r hr b hok, rfl⟩) (.inr rfl)).1
      rw [ho, this] at himps; cases himps
    | some id =>
      obtain ⟨rfl, htot, horg, hflat⟩ := ownId_some ho
      rw [ho] at himps hfr
      obtain ⟨c', xs, v1, ⟨hf, hsz1⟩, himp2, hd, hres⟩ := res_own i.rs y us hRs htot horg (by rw [himps]; simp)
      rw [himp2] at himps hfr
      rw [← himps]
      have hfresh : Bx (8 * dd) = .fresh := by
        simp only [freshAll, Bool.and_true] at hfr
        split at hfr
        · assumption
        · cases hfr
      have hfr1 : B1 (8 * dd) = .fresh := by
        rw [← hB1e, frz_else fun o c xs e => by rw [hfresh] at e; cases e]
        exact hB.fresh _ hfresh
      rcases hd with ⟨e, rfl⟩ | ⟨b, o, cap, e, hcap, hokb, hcells, hel⟩
      · simp only [List.cons.injEq, and_true] at e
        obtain ⟨m1, m2⟩ := step (some ⟨8 * dd, ⟨0, 0, 0, 0, csize c', true, none⟩, .vec 0 c' []⟩) (.inr (.inl hflat)) (fun j h => by
          cases h
          exact ⟨hfr1, fun _ => .inl ⟨rfl, rfl, rfl, rfl, rfl, .inl rfl⟩, fun h => by cases h⟩)
        refine ⟨_, m1, hL1.trans m2, resT_tr (hres _ ⟨⟨0, 0, 0, 0, csize c', true, none⟩, upd_same _ _ _, ?_⟩)⟩
        rw [e]; rfl
      · simp only [List.cons.injEq, and_true] at e
        rcases Nat.eq_zero_or_pos cap with h0 | hpos
        · subst h0
          have hx : xs = [] := List.eq_nil_of_length_eq_zero (by omega)
          subst hx
          obtain ⟨m1, m2⟩ := step (some ⟨8 * dd, ⟨0, 0, 0, 0, csize c', true, some ⟨b, o, none⟩⟩, .vec 0 c' []⟩) (.inr (.inl hflat)) (fun j h => by
            cases h
            exact ⟨hfr1, fun _ => .inl ⟨rfl, rfl, rfl, rfl, rfl, .inr ⟨b, o, rfl⟩⟩, fun h => by cases h⟩)
          refine ⟨_, m1, hL1.trans m2, resT_tr (hres _ ⟨⟨0, 0, 0, 0, csize c', true, some ⟨b, o, none⟩⟩, upd_same _ _ _, ?_⟩)⟩
          rw [e]; rfl
        · obtain ⟨hok, hbl⟩ := hokb hpos
          have hsrc : w.heap.size ≤ b ∨ ∃ q ∈ eff, q.2 = .dead ∧ ∃ l, g q.1 = some l ∧ l.nil = false ∧ l.b = b := by
            rcases hok.1 with h | h | ⟨p, s, t, _, _, hbit, _⟩
            · exact .inl h
            · obtain ⟨q, hq, l, h1, h2, h3⟩ := (hlX b).1 h
              refine .inr ⟨q, hq, ?_, l, h1, h2, h3⟩
              cases hq2 : q.2 with
              | dead => rfl
              | live blk => exact (hok.2.1 (by rw [← h3]; exact refc q hq blk hq2 l h1 h2)).elim
              | fresh =>
                exfalso
                obtain ⟨j, s, t, _, _, _, ⟨c, _, hd⟩ | ⟨c, xs, l, _, hv, _⟩ | ⟨c, xv, l, _, hv, _⟩⟩ := hent q hq
                · rw [hq2] at hd; cases hd
                · rw [hq2] at hv; cases hv
                · rw [hq2] at hv; cases hv
              | ro _ _ _ =>
                exfalso
                obtain ⟨j, s, t, _, _, _, ⟨c, _, hd⟩ | ⟨c, xs, l, _, hv, _⟩ | ⟨c, xv, l, _, hv, _⟩⟩ := hent q hq
                · rw [hq2] at hd; cases hd
                · rw [hq2] at hv; cases hv
                · rw [hq2] at hv; cases hv
            · simp at hbit
          obtain ⟨arr, t', harr⟩ : ∃ arr t, w'.heap[b]? = some (.cells arr t (0, 0)) := by
            rcases hok.2.2 (hsrc.imp (fun h => h) fun ⟨q, hq, _, l, h⟩ => (hlX b).2 ⟨q, hq, l, h⟩) with h | ⟨es0, c0, h⟩
            · exact h
            · exfalso
              have := hcells 0 (Nat.mul_pos hpos hsz1)
              have h' : w'.heap[b]? = some (.map es0 c0) := h
              simp [World.cell?, h'] at this
          have hS0 : A.S 0 b := by
            rcases hsrc with h | ⟨q, hq, _, l, h1, h2, h3⟩
            · exact A.new _ _ (by have := hM.fr.size; omega)
            · obtain ⟨b0, hb0⟩ := hliveE q hq
              exact hSX _ _ ⟨q.1, b0, l, hb0, h1, h2, h3⟩
          obtain ⟨m1, m2⟩ := step (some ⟨8 * dd, ⟨b, o, xs.length, cap, csize c', false, none⟩, .vec 0 c' xs⟩) (.inr (.inl hflat)) (fun j h => by
            cases h
            refine ⟨hfr1, fun _ => .inr ⟨rfl, hS0, rfl, hcap, rfl, arr, t', harr, ?_, fun m z hm => ?_⟩, fun _ => ⟨hbl, hsrc⟩⟩
            · have h1 : 0 < cap * csize c' := Nat.mul_pos hpos hsz1
              have := hcells (cap * csize c' - 1) (by omega)
              rw [cell_of (w := w') harr] at this
              have hlt : o + (cap * csize c' - 1) < arr.size := by
                rw [Option.isSome_iff_exists] at this
                obtain ⟨u, hu⟩ := this
                exact (Array.getElem?_eq_some_iff.1 hu).1
              show o + cap * csize c' ≤ arr.size
              omega
            · obtain ⟨cs, hd, hv⟩ := hel m z hm
              refine ⟨cs, hd.flat hf, fun j u hj => ?_⟩
              have := hv j u hj
              rwa [cell_of (w := w') harr] at this)
          refine ⟨_, m1, hL1.trans m2, resT_tr (hres _ ⟨⟨b, o, xs.length, cap, csize c', false, none⟩, upd_same _ _ _, ?_⟩)⟩
          rw [e]; rfl

end
end Ai
end Go.Proofs.YtpboclokodgnlaaGreat

/-! A27: The ideal interpreter against the machine: whatever the ideal interpreter finds, the machine does. -/
namespace Go.Proofs.YtpboclokodgnlaaGreat
namespace Ai
set_option linter.unusedSimpArgs false
set_option linter.unusedVariables false

/-- What is asked of a program, once. -/
structure EnvOk (E : Env) : Prop where
  eq : ∀ t ks, eqTyp E.eqT t = some ks → EqOk E.P t ks
  key : ∀ t ks, eqTyp E.eqT t = some ks → KeyOk E.P t ks
  name : ∀ (f : FuncId) (fn : Func), E.P.funcs[f]? = some fn → fn.body.isSome = true → (fn.name == "runtime.NumGoroutine") = false
  dst : ∀ (f : FuncId) (fn : Func) (c : Code), E.P.funcs[f]? = some fn → fn.body = some c → dstOk fn.ntmps c = true
  xc : XcOk E
  ext : ∀ (i : FI) (x : Tup (acodes i.as)) (y : Tup (rcodes i.rs i.as)), E.isExt i.f = true → E.exf i x = some y → MFn E i x y

theorem callWith_inv {run : Orc} {Bx : Nat → BS} {dd : Nat} {gf : FuncId} {args : List T} {t : T} {d : List (Nat × BS)} : ∀ (l : List FI), callWith run Bx dd gf args pk l = some (t, d) → ∃ (i : FI) (x : Tup (acodes i.as)) (y : Tup (rcodes i.rs i.as)), i.f = gf ∧ packA Bx i.as args = some x ∧ nodupB (lentA i.as args) = true ∧
    apartB (lentA i.as args) (seenA Bx i.as args) = true ∧ run (.fn i) x = some y ∧ freshAll Bx (impA dd i.rs i.as (orgA Bx i.as args) y).2 = true ∧ t = resT (impA dd i.rs i.as (orgA Bx i.as args) y).1 ∧
    d = frzL Bx (keptA Bx (maskR i.rs) 0 i.as args) ++ (effA i.as args (orgA Bx i.as args) (outR i.rs y) ++ (impA dd i.rs i.as (orgA Bx i.as args) y).2)
  | [], h => by cases h
  | i :: r, h => by
    simp only [callWith] at h
    split at h
    · rename_i x hx
      obtain ⟨hc, h⟩ := if_some h
      simp only [Bool.and_eq_true] at hc
      obtain ⟨y, hy, h⟩ := Option.bind_eq_some_iff.1 h
      obtain ⟨hf, h⟩ := if_some h
      cases h
      exact ⟨i, x, y, Nat.eq_of_beq_eq_true hc.1.1, hx, hc.1.2, hc.2, hy, hf, rfl, rfl⟩
    · exact callWith_inv r h

theorem refIds5 : ∀ (as : List ASh) (p id : Nat), id ∈ refIds p as → id % 8 = 5
  | [], _, _, h => by simp [refIds] at h
  | s :: r, p, id, h => by
    cases s <;> simp only [refIds, List.mem_cons] at h <;> first
      | exact refIds5 r (p + 1) id h
      | (rcases h with rfl | h
         · omega
         · exact refIds5 r (p + 1) id h)

section
variable {E : Env}

theorem args_tr {C : Cx} {tm : Nat → T} {a : Act} (hT : ∀ n, TR C (tm n) (a.tmps.getD n undef)) : ∀ (l : List Operand), All2 (TR C) (l.map (evalO tm)) (l.map a.eval)
  | [] => trivial
  | x :: r => ⟨evalO_tr hT x, args_tr hT r⟩

theorem capsT_tr {C : Cx} : ∀ (caps : List Cap) (vs : List Value), All2 (CapR C) caps vs → All2 (TR C) (caps.map capT) vs
  | [], [], _ => trivial
  | .ptr id :: r, v :: vs, h => ⟨h.1, capsT_tr r vs h.2⟩
  | .pp org c x :: r, v :: vs, h => ⟨h.1, capsT_tr r vs h.2⟩
  | [], _ :: _, h => h.elim
  | _ :: _, [], h => h.elim

theorem packA_len {Bx : Nat → BS} : ∀ (as : List ASh) (ts : List T) (x : Tup (acodes as)), packA Bx as ts = some x → as.length = ts.length
  | [], [], _, _ => rfl
  | [], _ :: _, _, h => by simp [packA] at h
  | _ :: _, [], _, h => by simp [packA] at h
  | s :: r, t :: ts, x, h => by
    obtain ⟨_, y, _, h2, _⟩ := packA_cons h
    simp only [List.length_cons]
    rw [packA_len r ts y h2]

theorem op_ok (hE : EnvOk E) {run : Orc} (hfn : ∀ i x y, run (.fn i) x = some y → MFn E i x y) : OpOk E run := by
  intro A g B Bx a w o tm t d hH hM hB hT h
  unfold opK at h
  split at h
  · rename_i f args ats ho
    split at h
    · rename_i gf caps hf
      have hfv := evalO_tr hT f
      rw [hf] at hfv
      obtain ⟨cs, hv, hcs⟩ := (show SR (cxOf A g B w) (.fn gf caps) _ from hfv)
      obtain ⟨i, x, y, rfl, hp, hnd, hap, hy, hfr, rfl, rfl⟩ := callWith_inv _ h
      obtain ⟨⟨fn, hfn1, hbody⟩, hcalls⟩ := hfn i x y hy
      have ha : All2 (TR (cxOf A g B w)) (args.toList.map (evalO tm) ++ caps.map capT) (args.toList.map a.eval ++ cs.toList) := (args_tr hT _).append (capsT_tr _ _ hcs)
      have hap' : ∀ id ∈ lentA i.as (args.toList.map (evalO tm) ++ caps.map capT), id ∉ seenA Bx i.as (args.toList.map (evalO tm) ++ caps.map capT) := fun id hid => apartB_mem hap hid
      obtain ⟨c1, c2⟩ := call_in hM hB hp ha hnd hap'
      have hr : (execOp a.eval o).run E.P w = .ok (.enter i.f (args.toList.map a.eval ++ cs.toList).toArray) w := by
        have hname := hE.name i.f fn hfn1 hbody
        have hb : fn.body.isNone = false := by cases hb : fn.body <;> simp_all
        simp only [execOp, ho, resolve, hv, Deferred.ofValue, Sem.run_bind, Sem.run_pure, Result.andThen_ok, invoke, callFunc, program, Sem.run, hfn1, hname, hb, Bool.false_eq_true, if_false]
        congr 2
        apply Array.ext'
        simp
      intro K Q hK
      unfold Oper.wp
      rw [hr, Oper.upon_enter]
      have hpin : ∀ id ∈ refIds 0 i.as, (baseA A g B Bx w i.as (args.toList.map (evalO tm) ++ caps.map capT)).pin id = gA g 0 i.as (args.toList.map (evalO tm) ++ caps.map capT) id := fun id hid => if_pos (refIds5 _ _ _ hid)
      refine (hcalls _ _ _ (hH.call hM hB hp) (by rw [packA_len _ _ _ hp, ha.length]; simp) c1 c2 hpin).mono fun e w' he => ?_
      obtain ⟨v, rfl, hF⟩ := he
      obtain ⟨g2, m1, m2, m3⟩ := call_out hM hB hp hnd hap' hF hfr
      exact hK g2 w' v m1 m2 m3
    · cases h
  · exact (semK_post hM hB hT hE.eq hE.key h).toW

def Mk (E : Env) : (k : Key) → Dom k → Cod k → Prop
  | .fn i, x, y => MFn E i x y
  | .lp f n ex h, x, y => MLp E f n ex h x y

/-- The machine does what the ideal interpreter finds. -/
theorem run_sound (hE : EnvOk E) {k : Key} {x : Dom k} {y : Cod k} (h : run E k x = some y) : Mk E k x y := by
  refine run_ind E (Mk E) (fun r hr k x y hs => ?_) h
  have hop := op_ok hE (run := r) fun i x y hy => hr (.fn i) x y hy
  have hlp : ∀ f n ex h x y, r (.lp f n ex h) x = some y → MLp E f n ex h x y := fun f n ex h x y hy => hr (.lp f n ex h) x y hy
  cases k with
  | fn i => exact fn_step hE.xc hop hlp hE.dst hE.ext hs
  | lp f n ex h => exact lp_step hE.xc hop hlp hs

end
end Ai
end Go.Proofs.YtpboclokodgnlaaGreat

/-! A28: From an argument as a statement reads it to a datum of the ideal interpreter. -/
namespace Go.Proofs.YtpboclokodgnlaaGreat
namespace Ai
set_option linter.unusedSimpArgs false
set_option linter.unusedVariables false

/-- The numbers fit their kinds, and the lengths are lengths. -/
def wfE : (c : Cd) → El c → Prop
  | .i k, n => (Lit.int k n).wf = true
  | .bool, _ => True
  | .str, s => s.length ≤ Go.maxLen
  | .list c, xs => xs.length ≤ Go.maxLen ∧ ∀ x ∈ xs, wfE c x
  | .pair a b, x => wfE a x.1 ∧ wfE b x.2
  | .unit, _ => True

def fcode (P : Program) (rec : TypeId → Option Cd) : Nat → List Field → Option (List Cd)
  | _, [] => some []
  | off, f :: r => match rec f.type with
    | some c => if f.offset = off ∧ P.cellsOf f.type = csize c then (fcode P rec (off + csize c) r).map (c :: ·) else none
    | none => none

/-- The code of a type, with its layout looked at. -/
def tcodeC (P : Program) : Nat → TypeId → Option Cd
  | 0, _ => none
  | n + 1, t =>
    match P.underlying t with
    | some (.int k) => some (.i k)
    | some .bool => some .bool
    | some .string => some .str
    | some (.slice e) => match tcodeC P n e with
      | some c => if P.cellsOf e = csize c ∧ 1 ≤ csize c then some (.list c) else none
      | none => none
    | some (.struct fs) => match fcode P (tcodeC P n) 0 fs.toList with
      | some cs => if P.cellsOf t = csize (pairs cs) then some (pairs cs) else none
      | none => none
    | _ => none

def spotV : Value → Prop
  | .slice (some a) _ _ => a.spot = none
  | _ => True

def deep : Cd → Bool
  | .list c => !cflat c
  | .pair a b => deep a || deep b
  | _ => false

theorem deep_flat : ∀ {c : Cd}, cflat c = true → deep c = false
  | .i _, _ => rfl
  | .bool, _ => rfl
  | .str, _ => rfl
  | .unit, _ => rfl
  | .pair a b, h => by
    simp only [cflat, Bool.and_eq_true] at h
    simp [deep, deep_flat h.1, deep_flat h.2]
  | .list c, h => by simp [cflat] at h

theorem exists_list {α : Type} {Q : Nat → α → Prop} : ∀ n : Nat, (∀ i, i < n → ∃ x, Q i x) → ∃ xs : List α, xs.length = n ∧ ∀ i x, xs[i]? = some x → Q i x
  | 0, _ => ⟨[], rfl, fun i x h => by simp at h⟩
  | n + 1, h => by
    obtain ⟨xs, hl, hx⟩ := exists_list n fun i hi => h i (by omega)
    obtain ⟨y, hy⟩ := h n (by omega)
    refine ⟨xs ++ [y], by simp [hl], fun i x hi => ?_⟩
    rw [List.getElem?_append] at hi
    split at hi
    · exact hx i x hi
    · have : i - xs.length = 0 := by
        rcases Nat.eq_zero_or_pos (i - xs.length) with h0 | h0
        · exact h0
        · rw [List.getElem?_eq_none (by simp; omega)] at hi; cases hi
      rw [this] at hi
      simp at hi
      subst hi
      have : i = n := by omega
      subst this; exact hy

theorem exists_list2 {α : Type} {Q : Nat → α → Prop} {R : α → Prop} (n : Nat) (h : ∀ i, i < n → ∃ x, Q i x ∧ R x) : ∃ xs : List α, xs.length = n ∧ (∀ i x, xs[i]? = some x → Q i x) ∧ ∀ x ∈ xs, R x := by
  obtain ⟨xs, hl, hx⟩ := exists_list (Q := fun i x => Q i x ∧ R x) n h
  refine ⟨xs, hl, fun i x hi => (hx i x hi).1, fun x hm => ?_⟩
  obtain ⟨i, hi⟩ := List.getElem?_of_mem hm
  exact (hx i x hi).2

section
variable {H : Type} {enc : TypeId × Value → H} {P : Program} {w : World} {held : Bool} {ok : Nat → Prop}

/-- What is asked of slices' addresses. -/
def spots (w : World) (c : Cd) (cs : List Value) : Prop := (cflat c = true ∨ ∀ v ∈ cs, spotV v) ∧ (deep c = false ∨ ∀ b o v, w.cell? ⟨b, o, none⟩ = some v → spotV v)

theorem fields_dr {m n : Nat} (ih : ∀ (t : TypeId) (c : Cd) (cs : List Value) (x : DataW H × List MemPlace), tcodeC P m t = some c → DataW.trod enc P w 0 (fun _ => true) held n t cs = some x → spots w c cs → ∃ v : El c, DR w ok c v cs ∧ wfE c v) :
    ∀ (fs : List Field) (cds : List Cd) (off : Nat) (cs : List Value), fcode P (tcodeC P m) off fs = some cds → cs.length = off + csize (pairs cds) →
      (∀ f ∈ fs, ∃ x, DataW.trod enc P w 0 (fun _ => true) held n f.type ((cs.drop f.offset).take (P.cellsOf f.type)) = some x) →
      (cflat (pairs cds) = true ∨ ∀ v ∈ cs, spotV v) → (deep (pairs cds) = false ∨ ∀ b o v, w.cell? ⟨b, o, none⟩ = some v → spotV v) →
      ∃ v : El (pairs cds), DR w ok (pairs cds) v (cs.drop off) ∧ wfE (pairs cds) v
  | [], cds, off, cs, hc, hl, _, _, _ => by
    simp only [fcode] at hc; cases hc
    refine ⟨(), ?_, trivial⟩
    simp only [pairs, csize] at hl
    show cs.drop off = []
    rw [List.drop_eq_nil_iff]; omega
  | [f], cds, off, cs, hc, hl, hx, hs, hd => by
    simp only [fcode] at hc
    split at hc
    · rename_i c hfc
      split at hc
      · rename_i hcond
        obtain ⟨h1, h2⟩ := hcond
        simp at hc; subst hc
        obtain ⟨x, hx⟩ := hx f (List.mem_singleton.2 rfl)
        simp only [pairs] at hl hs hd ⊢
        have e : (cs.drop f.offset).take (P.cellsOf f.type) = cs.drop off := by
          rw [h1, h2]; exact List.take_of_length_le (by simp; omega)
        rw [e] at hx
        exact ih f.type c _ x hfc hx ⟨hs.imp id fun h v hv => h v (List.mem_of_mem_drop hv), hd⟩
      · cases hc
    · cases hc
  | f :: g :: r, cds, off, cs, hc, hl, hx, hs, hd => by
    rw [fcode] at hc
    split at hc
    · rename_i c hfc
      split at hc
      · rename_i hcond
        obtain ⟨h1, h2⟩ := hcond
        cases hrest : fcode P (tcodeC P m) (off + csize c) (g :: r) with
        | none => rw [hrest] at hc; cases hc
        | some cds' =>
          rw [hrest] at hc; simp at hc; subst hc
          obtain ⟨d, ds, rfl⟩ : ∃ d ds, cds' = d :: ds := by
            cases cds' with
            | nil =>
              simp only [fcode] at hrest
              split at hrest
              · split at hrest
                · cases hz : fcode P (tcodeC P m) (off + csize c + csize ‹Cd›) r <;> rw [hz] at hrest <;> simp at hrest
                · cases hrest
              · cases hrest
            | cons d ds => exact ⟨d, ds, rfl⟩
          simp only [pairs, csize, cflat, deep, Bool.and_eq_true, Bool.or_eq_false_iff] at hl hs hd ⊢
          obtain ⟨x, hx1⟩ := hx f (List.mem_cons_self ..)
          obtain ⟨v1, d1, w1⟩ := ih f.type c _ x hfc hx1 ⟨hs.imp (·.1) fun h v hv => h v (List.mem_of_mem_drop (List.mem_of_mem_take hv)), hd.imp (·.1) id⟩
          obtain ⟨v2, d2, w2⟩ := fields_dr ih (g :: r) (d :: ds) (off + csize c) cs hrest (by omega) (fun f' h' => hx f' (List.mem_cons_of_mem _ h')) (hs.imp (·.2) id) (hd.imp (·.2) id)
          refine ⟨(v1, v2), ⟨_, _, ?_, d1, d2⟩, w1, w2⟩
          rw [h1, h2]
          rw [← List.drop_drop]
          exact (List.take_append_drop _ _).symm
      · cases hc
    · cases hc

/-- What a statement reads as an argument is a datum. -/
theorem trod_dr (hok : ∀ b, b < w.heap.size → ok b) : ∀ (m n : Nat) (t : TypeId) (c : Cd) (cs : List Value) (x : DataW H × List MemPlace), tcodeC P m t = some c → DataW.trod enc P w 0 (fun _ => true) held n t cs = some x → spots w c cs →
    ∃ v : El c, DR w ok c v cs ∧ wfE c v
  | 0, _, _, _, _, _, hc, _, _ => by cases hc
  | m + 1, n, t, c, cs, x, hc, hx, hs => by
    simp only [tcodeC] at hc
    split at hc
    · rename_i k hu
      cases hc
      obtain ⟨v, rfl, _, hw⟩ := DataW.trod_int hu hx
      exact ⟨v, rfl, hw⟩
    · rename_i hu
      cases hc
      obtain ⟨v, rfl, _⟩ := DataW.trod_bool hu hx
      exact ⟨v, rfl, trivial⟩
    · rename_i hu
      cases hc
      obtain ⟨s, rfl, _, hl⟩ := DataW.trod_string hu hx
      refine ⟨s.data.toList, ?_, by simpa [wfE] using hl⟩
      show [Value.string s] = [Value.string ⟨s.data.toList.toArray⟩]
      simp
    · rename_i e hu
      split at hc
      · rename_i c' hce
        split at hc
        · rename_i hcond
          obtain ⟨hsz, hpos⟩ := hcond
          cases hc
          rcases Go.Deep.open_slice hu hx with ⟨rfl, _⟩ | ⟨a, len, cap, m', n', D, Pl, rfl, _, hl, hm, hmm, _, hel⟩
          · exact ⟨[], .inl ⟨rfl, rfl⟩, by simp [wfE]⟩
          · simp only [if_true] at hmm
            subst hmm
            have hspot : a.spot = none := by
              rcases hs.1 with h | h
              · simp [cflat] at h
              · exact h _ (List.mem_singleton.2 rfl)
            obtain ⟨ab, ao, asp⟩ := a
            simp only at hspot; subst hspot
            have hadd : ∀ b o k, Addr.add ⟨b, o, none⟩ k = ⟨b, o + k, none⟩ := fun b o k => by
              unfold Addr.add
              split
              · rename_i h0; subst h0; rfl
              · rfl
            have hcell : ∀ i, i < m' → ∃ cs', cs'.length = csize c' ∧ (∀ j, j < csize c' → w.cell? ⟨ab, ao + i * csize c' + j, none⟩ = cs'[j]?) ∧ ∃ y, DataW.trod enc P w 0 (fun _ => true) held n' e cs' = some y := fun i hi => by
              obtain ⟨cs', h1, h2⟩ := hel i hi
              obtain ⟨_, h3, h4⟩ := World.cells?_some h1
              refine ⟨cs', by rw [h3, hsz], fun j hj => ?_, _, h2⟩
              have := h4 j (by rw [hsz]; exact hj)
              rw [hadd, hadd, hsz] at this
              exact this
            have hsub : ∀ i cs', i < m' → cs'.length = csize c' → (∀ j, j < csize c' → w.cell? ⟨ab, ao + i * csize c' + j, none⟩ = cs'[j]?) → spots w c' cs' := fun i cs' hi hlen hcc => by
              rcases hs.2 with h | h
              · simp only [deep, Bool.not_eq_false'] at h
                exact ⟨.inl h, .inl (deep_flat h)⟩
              · refine ⟨.inr fun v hv => ?_, .inr h⟩
                obtain ⟨j, hj⟩ := List.getElem?_of_mem hv
                have hjl : j < csize c' := by
                  rw [← hlen]
                  rcases Nat.lt_or_ge j cs'.length with h | h
                  · exact h
                  · rw [List.getElem?_eq_none h] at hj; cases hj
                exact h _ _ _ ((hcc j hjl).trans hj)
            obtain ⟨xs, hxl, hxe, hxw⟩ := exists_list2 (α := El c') (Q := fun i x => ∃ cs', DR w ok c' x cs' ∧ ∀ (j : Nat) v, cs'[j]? = some v → w.cell? ⟨ab, ao + i * csize c' + j, none⟩ = some v) (R := wfE c') len fun i hi => by
              obtain ⟨cs', h1, h2, y, h3⟩ := hcell i (by omega)
              obtain ⟨v, d, hw⟩ := trod_dr hok m n' e c' cs' y hce h3 (hsub i cs' (by omega) h1 h2)
              refine ⟨v, ⟨cs', d, fun j u hj => ?_⟩, hw⟩
              have hjl : j < csize c' := by
                rw [← h1]
                rcases Nat.lt_or_ge j cs'.length with h | h
                · exact h
                · rw [List.getElem?_eq_none h] at hj; cases hj
              exact (h2 j hjl).trans hj
            refine ⟨xs, .inr ⟨ab, ao, m', by rw [hxl], by omega, fun hpos' => ?_, fun j hj => ?_, hxe⟩, by omega, hxw⟩
            · have hb : ab < w.heap.size := by
                obtain ⟨cs', h1, h2, _⟩ := hcell 0 hpos'
                have h3 := h2 0 hpos
                have : (w.cell? ⟨ab, ao + 0 * csize c' + 0, none⟩).isSome = true := by
                  rw [h3]; simp; omega
                unfold World.cell? at this
                rcases Nat.lt_or_ge ab w.heap.size with h | h
                · exact h
                · simp [Array.getElem?_eq_none h] at this
              exact ⟨hok _ hb, hb⟩
            · have hcp : 0 < csize c' := hpos
              have hq : j / csize c' < m' := (Nat.div_lt_iff_lt_mul hcp).2 hj
              obtain ⟨cs', h1, h2, _⟩ := hcell (j / csize c') hq
              have := h2 (j % csize c') (Nat.mod_lt _ hcp)
              have e1 : ao + j / csize c' * csize c' + j % csize c' = ao + j := by
                have := Nat.div_add_mod j (csize c'); rw [Nat.mul_comm] at this; omega
              rw [e1] at this
              rw [this]
              simp [h1, Nat.mod_lt _ hcp]
        · cases hc
      · cases hc
    · rename_i fs hu
      split at hc
      · rename_i cds hfc
        split at hc
        · rename_i hcells
          cases hc
          obtain ⟨xs, n', rfl, _, hl, hxl, hf⟩ := DataW.trod_struct hu hx
          have := fields_dr (ok := ok) (fun t c cs x h1 h2 h3 => trod_dr hok m n' t c cs x h1 h2 h3) fs.toList cds 0 cs hfc (by rw [hl, hcells]; omega) (fun f hmem => by
            obtain ⟨i, hi⟩ := List.getElem?_of_mem hmem
            have hi' : fs[i]? = some f := by simpa using hi
            have hlt : i < fs.size := by
              rcases Nat.lt_or_ge i fs.size with h | h
              · exact h
              · rw [Array.getElem?_eq_none h] at hi'; cases hi'
            exact ⟨xs[i]'(by omega), by rw [hf i f hi', List.getElem?_eq_getElem]⟩) hs.1 hs.2
          simpa using this
        · cases hc
      · cases hc
    · cases hc

end
end Ai
end Go.Proofs.YtpboclokodgnlaaGreat

/-! A29: From a law's function that comes to 'true' in the ideal interpreter to the row of the law. -/
namespace Go.Proofs.YtpboclokodgnlaaGreat
namespace Ai
open Go.ChangeShapes Go.WideShapes Go.RowKit
set_option linter.unusedSimpArgs false
set_option linter.unusedVariables false

def aShape (P : Program) (t : TypeId) : Option ASh := match tcodeC P 20 t, isAggT P t with
  | some c, some agg => some (.d c agg)
  | _, _ => none

def aShapes (P : Program) : List TypeId → Option (List ASh)
  | [] => some []
  | t :: r => match aShape P t, aShapes P r with
    | some s, some ss => some (s :: ss)
    | _, _ => none

def wf1 : (s : ASh) → In1 s → Prop
  | .d c _, x => wfE c x
  | _, _ => True

def wfA : (as : List ASh) → Tup (acodes as) → Prop
  | [], _ => True
  | s :: r, x => wf1 s (hd1 s x) ∧ wfA r (tl1 s x)

def deepA : List ASh → Bool
  | [] => false
  | .d c _ :: r => deep c || deepA r
  | _ :: r => deepA r

theorem okWide_spot {P : Program} {w : World} {r : Reach} {base : Nat} {u : TypeId} {v : Value} (h : Cell.okWide P w r base u v) : spotV v := by
  cases v with
  | slice a l c =>
    cases a with
    | none => trivial
    | some a =>
      cases hu : P.underlying u with
      | none => simp [Cell.okWide, Cell.ok, hu] at h
      | some d =>
        cases d <;> simp only [Cell.okWide, Cell.ok, hu] at h
        exact h.2.2.2.1
  | _ => trivial

section
variable {H : Type} {enc : TypeId × Value → H} {P : Program} {W : World} {held : Bool}

/-- The setting of the outermost call. -/
def base0 (W : World) (dm : Bool := true) : Base where
  w0 := W
  dm := dm
  S := fun _ _ => True
  X := fun _ => False
  mono := fun _ _ _ _ _ => trivial
  new := fun _ _ _ => trivial
  own := fun _ _ h => h.elim
  pin := fun _ => none
  pinned := fun _ _ h => by cases h

theorem bk0_lv {id : Nat} {b : Blk} (h : bk0 id = .live b) : False := by
  unfold bk0 at h
  cases hc : Nat.beq (id % 8) 5 <;> rw [hc] at h <;> cases h

theorem bk0_rd {id org : Nat} {c : Cd} {xs : List (El c)} (h : bk0 id = .ro org c xs) : False := by
  unfold bk0 at h
  cases hc : Nat.beq (id % 8) 5 <;> rw [hc] at h <;> cases h

theorem mem0 (W : World) {dm : Bool} : Mem (base0 W dm) (fun _ => none) bk0 W where
  br := fun _ _ h => (bk0_lv h).elim
  ro := fun _ _ _ _ h => (bk0_rd h).elim
  inj := fun _ _ _ _ _ _ h => (bk0_lv h).elim
  fresh := fun _ _ => rfl
  pin := fun _ _ h => by cases h
  fr := ⟨rfl, Tq.refl _, rfl, Nat.le_refl _, fun _ _ _ => rfl⟩

theorem ok0 (W : World) (org b : Nat) (hb : b < W.heap.size) : (cxOf (base0 W) (fun _ => none) bk0 W).ok org b :=
  ⟨trivial, fun ⟨_, _, _, h, _⟩ => bk0_lv h, fun h => h.elim (fun h => absurd hb (Nat.not_lt.2 h)) fun h => h.elim⟩

theorem arg_in {t : TypeId} {v : Value} {d : DataW H} {ps : List MemPlace} {base : Nat} {s : ASh} (ht : DataW.Trod enc P W 0 (fun _ => true) held t v d ps) (hv : Value.okWide P W .any base t v) (hs : aShape P t = some s)
    (hd : deepA [s] = false ∨ ∀ b o v, W.cell? ⟨b, o, none⟩ = some v → spotV v) :
    ∃ (c : Cd) (agg : Bool), s = .d c agg ∧ ∃ x : El c, wfE c x ∧ ∀ org, VR (cxOf (base0 W) (fun _ => none) bk0 W) (mkVal agg (scells org c x)) v := by
  unfold aShape at hs
  split at hs
  · rename_i c agg hc hagg
    cases hs
    refine ⟨c, agg, rfl, ?_⟩
    obtain ⟨fuel, hf⟩ := ht
    have hdc : deep c = false ∨ ∀ b o v, W.cell? ⟨b, o, none⟩ = some v → spotV v := hd.imp (fun h => by simpa [deepA] using h) id
    cases agg with
    | true =>
      have hu : ∃ cs : Array Value, v = .agg cs ∧ ∀ u ∈ cs.toList, spotV u := by
        unfold isAggT at hagg
        unfold Value.okWide at hv
        split at hagg
        · rename_i hst
          rw [hst] at hv
          obtain ⟨cs, h1, _, ts, _, _, h2⟩ := hv
          refine ⟨cs, h1, fun u hu => ?_⟩
          obtain ⟨i, hi⟩ := List.getElem?_of_mem hu
          obtain ⟨_, _, h3⟩ := h2 i u (by simpa using hi)
          exact okWide_spot h3
        · rename_i hst
          rw [hst] at hv
          obtain ⟨cs, h1, _, ts, _, _, h2⟩ := hv
          refine ⟨cs, h1, fun u hu => ?_⟩
          obtain ⟨i, hi⟩ := List.getElem?_of_mem hu
          obtain ⟨_, _, h3⟩ := h2 i u (by simpa using hi)
          exact okWide_spot h3
        · cases hagg
        · cases hagg
      obtain ⟨cs, rfl, hsp⟩ := hu
      obtain ⟨x, hx, hw⟩ := trod_dr (ok := fun b => (cxOf (base0 W) (fun _ => none) bk0 W).ok 0 b) (fun b hb => ok0 W 0 b hb) 20 fuel t c _ _ hc hf ⟨.inr (by simpa [Value.cells] using hsp), hdc⟩
      refine ⟨x, hw, fun org => ?_⟩
      have h1 := scells_sr (C := cxOf (base0 W) (fun _ => none) bk0 W) (org := org) (DR.mono (w' := W) (ok' := (cxOf (base0 W) (fun _ => none) bk0 W).ok org) (Nat.le_refl _) (fun b hb _ => ⟨ok0 W org b hb, rfl⟩) hx)
      refine (show VR _ (Val.agg _) _ from ⟨cs, rfl, ?_⟩)
      simpa [Value.cells] using h1
    | false =>
      have hu : v.cells.toList = [v] ∧ spotV v := by
        cases hst : P.underlying t with
        | none => simp [isAggT, hst] at hagg
        | some td =>
          have hv' : Cell.okWide P W .any base t v := by
            cases td <;> simp only [isAggT, hst, Value.okWide] at hagg hv <;> first | exact hv | cases hagg
          refine ⟨?_, okWide_spot hv'⟩
          cases v with
          | agg cs => cases td <;> simp [Cell.okWide, Cell.ok, hst] at hv'
          | tuple cs => cases td <;> simp [Cell.okWide, Cell.ok, hst] at hv'
          | _ => rfl
      rw [hu.1] at hf
      obtain ⟨x, hx, hw⟩ := trod_dr (ok := fun b => (cxOf (base0 W) (fun _ => none) bk0 W).ok 0 b) (fun b hb => ok0 W 0 b hb) 20 fuel t c _ _ hc hf ⟨.inr (by simpa using hu.2), hdc⟩
      refine ⟨x, hw, fun org => ?_⟩
      have h1 := scells_sr (C := cxOf (base0 W) (fun _ => none) bk0 W) (org := org) (DR.mono (w' := W) (ok' := (cxOf (base0 W) (fun _ => none) bk0 W).ok org) (Nat.le_refl _) (fun b hb _ => ⟨ok0 W org b hb, rfl⟩) hx)
      have hl := h1.length
      match hsc : scells org c x, h1, hl with
      | [s], h1, _ => exact h1.1
  · cases hs

theorem args_in {base : Nat} : ∀ (ts : List TypeId) (vs : List Value) (ds : List (DataW H)) (ps : List MemPlace) (as : List ASh), DataW.TrodAll enc P W 0 (fun _ => true) held ts vs ds ps →
    (∀ (j : Nat) t v, ts[j]? = some t → vs[j]? = some v → Value.okWide P W .any base t v) → aShapes P ts = some as → (deepA as = false ∨ ∀ b o v, W.cell? ⟨b, o, none⟩ = some v → spotV v) →
    as.length = vs.length ∧ ∃ x : Tup (acodes as), wfA as x ∧ ∀ p, (mkA p as x).bk = bk0 ∧ (∀ i v, vs[i]? = some v → TR (cxOf (base0 W) (fun _ => none) bk0 W) ((mkA p as x).tm (p + i)) v) ∧ ∀ t, (t < p ∨ p + vs.length ≤ t) → (mkA p as x).tm t = one .und
  | [], vs, ds, ps, as, h, hv, has, hd => by
    obtain ⟨rfl, rfl, rfl⟩ := trodAll_nil h
    cases has
    exact ⟨rfl, (), trivial, fun p => ⟨rfl, fun i v hi => by simp at hi, fun t _ => rfl⟩⟩
  | t :: ts, vs, ds, ps, as, h, hv, has, hd => by
    obtain ⟨v, vs', d, ds', p1, p2, rfl, rfl, rfl, h1, h2⟩ := trodAll_cons h
    simp only [aShapes] at has
    split at has
    · rename_i s ss hs hss
      cases has
      have hd1 : deepA [s] = false ∨ ∀ b o v, W.cell? ⟨b, o, none⟩ = some v → spotV v := by
        refine hd.imp (fun h => ?_) id
        cases s <;> first | rfl | (simp only [deepA, Bool.or_eq_false_iff] at h ⊢; exact ⟨h.1, trivial⟩)
      have hd2 : deepA ss = false ∨ ∀ b o v, W.cell? ⟨b, o, none⟩ = some v → spotV v := by
        refine hd.imp (fun h => ?_) id
        cases s <;> first | exact h | (simp only [deepA, Bool.or_eq_false_iff] at h; exact h.2)
      obtain ⟨c, agg, rfl, x1, w1, hx1⟩ := arg_in h1 (hv 0 t v rfl rfl) hs hd1
      obtain ⟨hlen, y, wy, hy⟩ := args_in ts vs' ds' p2 ss h2 (fun j t v ht hv' => hv (j + 1) t v (by simpa using ht) (by simpa using hv')) hss hd2
      refine ⟨by simp [hlen], cons1 (.d c agg) x1 y, ⟨?_, ?_⟩, fun p => ?_⟩
      · rw [hd1_cons]; exact w1
      · rw [tl1_cons]; exact wy
      · obtain ⟨hb, ht, hu⟩ := hy (p + 1)
        simp only [mkA]
        rw [hd1_cons, tl1_cons]
        refine ⟨hb, fun i u hi => ?_, fun k hk => ?_⟩
        · show TR _ (upd _ p _ (p + i)) u
          cases i with
          | zero =>
            simp at hi; subst hi
            show TR _ (upd _ p _ p) v
            rw [upd_same]
            exact hx1 _
          | succ i =>
            rw [upd_ne _ _ (by omega)]
            have := ht i u (by simpa using hi)
            rwa [show p + 1 + i = p + (i + 1) by omega] at this
        · show upd _ p _ k = one .und
          simp only [List.length_cons] at hk
          rw [upd_ne _ _ (by omega)]
          exact hu k (by omega)
    · cases has

end

/-- A law's function that comes to 'true'. -/
theorem law_calls {E : Env} (hE : EnvOk E) {f : FuncId} {as : List ASh} {fn : Func} (hfn : E.P.funcs[f]? = some fn) (has : aShapes E.P fn.params.toList = some as)
    (hrun : ∀ x : Tup (acodes as), wfA as x → ∃ y : Tup (rcodes [⟨.bool, false, 0⟩] as), run E (.fn ⟨f, as, [⟨.bool, false, 0⟩]⟩) x = some y ∧ thd (c := .bool) (r := outs as) y = true)
    {H : Type} {enc : TypeId × Value → H} {W : World} {base : Nat} {args : Array Value} {ds : List (DataW H)} {ps : List MemPlace} (hA : DataW.TrodAll enc E.P W 0 (fun _ => true) true fn.params.toList args.toList ds ps)
    (hval : ∀ (j : Nat) t v, fn.params[j]? = some t → args[j]? = some v → Value.okWide E.P W .any base t v) (hd : deepA as = false ∨ ∀ b o v, W.cell? ⟨b, o, none⟩ = some v → spotV v) (hT : HeldW E W) :
    Calls E.P f args W fun e w' => e = .returned (.bool true) ∧ Below W.heap.size W w' := by
  obtain ⟨hlen, x, hwf, hx⟩ := args_in _ _ _ _ as hA (fun j t v ht hv => hval j t v (by simpa using ht) (by simpa using hv)) has hd
  obtain ⟨y, hy, hyt⟩ := hrun x hwf
  obtain ⟨_, hM⟩ := run_sound hE hy
  obtain ⟨hb, ht, hu⟩ := hx 0
  have href : refIds 0 as = [] := by
    have : ∀ (ts : List TypeId) (as : List ASh) (p : Nat), aShapes E.P ts = some as → refIds p as = [] := by
      intro ts
      induction ts with
      | nil => intro as p h; cases h; rfl
      | cons t ts ih =>
        intro as p h
        simp only [aShapes] at h
        split at h
        · rename_i s ss hs hss
          cases h
          unfold aShape at hs
          split at hs
          · cases hs; exact ih ss (p + 1) hss
          · cases hs
        · cases h
    exact this _ _ _ has
  refine (hM (base0 W (!E.loose)) (fun _ => none) args ⟨hT, fun _ _ h => h, fun h => by show (!E.loose) = false; rw [h]; rfl⟩ (by rw [hlen]; simp) (by rw [hb]; exact mem0 W) (fun t => ?_) (fun id h => by rw [href] at h; cases h)).mono fun e w' ⟨v, he, hF⟩ => ?_
  · rw [hb]
    show TR (cxOf (base0 W) (fun _ => none) bk0 W) ((mkA 0 as x).tm t) (args.getD t undef)
    rcases Nat.lt_or_ge t args.size with h | h
    · have h1 := ht t args[t] (by simp [h])
      rw [Nat.zero_add] at h1
      simpa [Array.getD, h] using h1
    · rw [hu t (.inr (by simpa using h))]
      exact trivial
  · obtain ⟨_, ⟨us, hv, hr⟩, _⟩ := hF.res
    have : v = .bool true := by
      match us, hr with
      | [u], hr =>
        obtain ⟨h1, _⟩ := hr
        rcases h1 with ⟨_, h1⟩ | ⟨h1, _⟩
        · have h2 : [u] = [Value.bool (thd (c := .bool) (r := outs as) y)] := h1
          rw [hyt] at h2
          cases h2
          exact hv
        · cases h1
      | u :: u' :: r, hr => exact absurd hr.2 (by intro h; cases h)
    subst this
    exact ⟨he, hF.fr.os, hF.fr.tape.tape, hF.fr.output, hF.fr.size, fun k hk => hF.fr.old k hk (fun h => h.elim)⟩

theorem trodAll_back {H : Type} {enc : TypeId × Value → H} {P : Program} (hl : laidOutB P = true) {W W' : World} (bel : Below W.heap.size W W') :
    ∀ (ts : List TypeId) (vs : List Value) (ds : List (DataW H)) (ps : List MemPlace), ts.all (fun t => P.readableRec t && decide (t < P.types.size)) = true → DataW.TrodAll enc P W 0 (fun _ => true) true ts vs ds ps →
    DataW.TrodAll enc P W' 0 (fun b => decide (b < W.heap.size)) true ts vs ds ps
  | [], vs, ds, ps, _, h => by
    obtain ⟨rfl, rfl, rfl⟩ := trodAll_nil h
    exact trodAll_mk0
  | t :: ts, vs, ds, ps, hr, h => by
    obtain ⟨v, vs', d, ds', p1, p2, rfl, rfl, rfl, h1, h2⟩ := trodAll_cons h
    simp only [List.all_cons, Bool.and_eq_true, decide_eq_true_eq] at hr
    refine trodAll_cons_mk (Below.trod hl hr.1.1 hr.1.2 h1 bel ?_) (trodAll_back hl bel ts vs' ds' p2 hr.2 h2)
    obtain ⟨m, hm⟩ := h1
    exact DataW.trod_lt m _ _ _ hm

theorem trodAll_len {H : Type} {enc : TypeId × Value → H} {P : Program} {W : World} {base : Nat} {spare : Nat → Bool} {held : Bool} : ∀ (ts : List TypeId) (vs : List Value) (ds : List (DataW H)) (ps : List MemPlace), DataW.TrodAll enc P W base spare held ts vs ds ps → ds.length = ts.length
  | [], vs, ds, ps, h => by
    obtain ⟨rfl, rfl, rfl⟩ := trodAll_nil h
    rfl
  | t :: ts, vs, ds, ps, h => by
    obtain ⟨v, vs', d, ds', p1, p2, rfl, rfl, rfl, h1, h2⟩ := trodAll_cons h
    simp [trodAll_len ts vs' ds' p2 h2]

/-- The row of a law. -/
theorem law_lifted {E : Env} (hE : EnvOk E) {C : Checked} (hC : C.prog = E.P) {f : FuncId} {as : List ASh} {fn : Func} {s : ChangeSpec} {conds : List PathCond} (own : ownKnob C.prog.godebug = none) (noInit : C.prog.inits.idxOf? f = none) (hfn : C.prog.funcs[f]? = some fn)
    (has : aShapes E.P fn.params.toList = some as) (hlaid : laidOutB C.prog = true) (hpar : fn.params.toList.all (fun t => C.prog.readableRec t && decide (t < C.prog.types.size)) = true)
    {bt : TypeId} (hres : fn.resultTypes = #[bt]) (hbt : C.prog.underlying bt = some .bool) (hvars : s.vars = []) (hd : deepA as = false)
    (hsp : ∀ (H : Type) (ds : List (DataW H)), ds.length = fn.params.toList.length → s.fn H ds = { results := [.lit (.bool true)], args := ds })
    (hrun : ∀ x : Tup (acodes as), wfA as x → ∃ y : Tup (rcodes [⟨.bool, false, 0⟩] as), run E (.fn ⟨f, as, [⟨.bool, false, 0⟩]⟩) x = some y ∧ thd (c := .bool) (r := outs as) y = true)
    {H : Type} {enc : TypeId × Value → H} {os : Os} (started : os.Started)
    (witness : ∃ (w : World) (tape : Tape) (i : Input), w.os = os ∧ (w.forCall tape i).Shaped C.prog ∧ i.vars = [] ∧ Input.okWide C.prog (w.forCall tape i) .any w.heap.size f i ∧
      s.pre6 enc C.prog fn conds false (w.forCall tape i).memory i.args ∧ ({} : Assume).holds C.prog (lone (Frame.enter C.prog f i.args .normal) [] (w.forCall tape i))) (ht : E.tabs = [] := by rfl) :
    ReturnsInHanded {} C os f .any (s.pre6 enc C.prog fn conds false) (s.post enc C.prog fn false true false false) := by
  refine returnsInHanded_of_change_sized own started noInit hfn witness ?_
  intro W base args ds gs before hval hW _ _ _
  have hW' := hW
  obtain ⟨p, q, hA, hV, rfl, _, _⟩ := hW
  rw [hvars] at hV
  obtain ⟨rfl, rfl⟩ := trodVars_none hV
  rw [hC] at hA hval hfn
  have hc := law_calls hE hfn has hrun hA hval (.inl hd) (HeldW.nil ht W)
  rw [hC]
  refine hc.mono fun e W' ⟨he, bel⟩ => ⟨_, he, ?_⟩
  have hf := hsp H (ds ++ []) (by rw [List.append_nil]; exact trodAll_len _ _ _ _ hA)
  rw [hC] at hW' hlaid hpar hbt
  refine ⟨ds, [], _, [], p, [], hW', ?_, ?_, ?_, bel.frame _, fun h => by cases h⟩
  · rw [hf, hres]
    exact trodAll_mk1 (shut_bool hbt true)
  · rw [hf]
    simp only [List.append_nil]
    exact trodAll_back hlaid bel _ _ _ _ hpar hA
  · rw [hf, hvars]
    rfl

end Ai
end Go.Proofs.YtpboclokodgnlaaGreat

/-! A30: What is asked of a program once: equality of structs, by a look at the types; names and places, by one evaluation. -/
namespace Go.Proofs.YtpboclokodgnlaaGreat
namespace Ai
set_option linter.unusedSimpArgs false
set_option linter.unusedVariables false

/-- Is the type compared leaf by leaf? -/
def eqTy (P : Program) : Nat → TypeId → List Cd → Bool
  | 0, _, _ => false
  | d + 1, t, ks => match P.underlying t, ks with
    | some .bool, [.bool] => true
    | some (.int k), [.i k'] => k == k'
    | some .string, [.str] => true
    | some (.struct fs), ks => !P.stoodInHeld t && eqFs P (eqTy P d) 0 fs.toList ks
    | _, _ => false
where
  eqFs (P : Program) (rec : TypeId → List Cd → Bool) : Nat → List Field → List Cd → Bool
    | _, [], ks => ks.isEmpty
    | o, f :: r, ks => match szT P f.type, isAggT P f.type with
      | some m, some agg => (f.name != "_") && (f.offset == o) && (agg || m == 1) && decide (m ≤ ks.length) && rec f.type (ks.take m) && eqFs P rec (o + m) r (ks.drop m)
      | _, _ => false

theorem eqV_split : ∀ (n : Nat) (ks : List Cd) (xs ys : List Value) (b : Bool), eqV ks xs ys = some b → ∃ b1 b2, eqV (ks.take n) (xs.take n) (ys.take n) = some b1 ∧ eqV (ks.drop n) (xs.drop n) (ys.drop n) = some b2 ∧ b = (b1 && b2)
  | 0, ks, xs, ys, b, h => ⟨true, b, by simp [eqV], by simpa using h, by simp⟩
  | n + 1, ks, xs, ys, b, h => by
    match ks, xs, ys, h with
    | _ :: _, [], _, h => cases ‹Cd› <;> simp [eqV] at h
    | _ :: _, _ :: _, [], h => cases ‹Cd› <;> simp [eqV] at h
    | [], [], [], h => exact ⟨true, b, by simp [eqV], by simpa using h, by simp⟩
    | k :: ks, x :: xs, y :: ys, h =>
      have key : ∀ (q : Bool), (eqV ks xs ys).map (q && ·) = some b → ∃ b1 b2, (eqV (ks.take n) (xs.take n) (ys.take n)).map (q && ·) = some b1 ∧ eqV (ks.drop n) (xs.drop n) (ys.drop n) = some b2 ∧ b = (b1 && b2) := fun q hq => by
        obtain ⟨b', hb', hbq⟩ := Option.map_eq_some_iff.1 hq
        obtain ⟨b1, b2, h1, h2, h3⟩ := eqV_split n ks xs ys b' hb'
        refine ⟨q && b1, b2, by rw [h1]; rfl, h2, ?_⟩
        subst h3; rw [← hbq, Bool.and_assoc]
      simp only [List.take_succ_cons, List.drop_succ_cons]
      cases k <;> cases x <;> cases y <;> simp only [eqV] at h ⊢ <;> first
        | (split at h
           · rename_i hk; simp only [if_pos hk]; exact key _ h
           · cases h)
        | exact key _ h
        | cases h

theorem eqV_len : ∀ (ks : List Cd) (xs ys : List Value) (b : Bool), eqV ks xs ys = some b → xs.length = ks.length ∧ ys.length = ks.length
  | [], xs, ys, b, h => by
    match xs, ys, h with
    | [], [], _ => exact ⟨rfl, rfl⟩
  | k :: ks, xs, ys, b, h => by
    match xs, ys, h with
    | [], _, h => cases k <;> simp [eqV] at h
    | _ :: _, [], h => cases k <;> simp [eqV] at h
    | x :: xs, y :: ys, h =>
      have key : ∀ q : Bool, (eqV ks xs ys).map (q && ·) = some b → (x :: xs).length = (k :: ks).length ∧ (y :: ys).length = (k :: ks).length := fun q hq => by
        obtain ⟨b', hb', _⟩ := Option.map_eq_some_iff.1 hq
        simp [eqV_len ks xs ys b' hb']
      cases k <;> cases x <;> cases y <;> simp only [eqV] at h <;> first
        | (split at h
           · exact key _ h
           · cases h)
        | exact key _ h
        | cases h

theorem bytes_beq (p q : ByteArray) : (p == q) = decide (p = q) := by
  rw [beq_toListBytes, ByteArray.toList_eq, ByteArray.toList_eq]
  obtain ⟨⟨x⟩⟩ := p
  obtain ⟨⟨y⟩⟩ := q
  by_cases h : x = y
  · subst h; simp
  · have h1 : ((⟨⟨x⟩⟩ : ByteArray) = ⟨⟨y⟩⟩) ↔ False := ⟨fun e => h (by cases e; rfl), False.elim⟩
    simp [h, h1]

section
variable {P : Program}

theorem fields_eq {d k : Nat} (ih : ∀ (t : TypeId) (ks : List Cd) (agg : Bool) (vx vy : Value) (xs ys : List Value) (b : Bool) (w : World), eqTy P d t ks = true → isAggT P t = some agg → eqV ks xs ys = some b →
      (agg = true → vx = .agg xs.toArray ∧ vy = .agg ys.toArray) → (agg = false → xs = [vx] ∧ ys = [vy]) → (Op.equalIn (d + k) t vx vy).run P w = .ok b w) (w : World) (xs ys : Array Value) :
    ∀ (fs : List Field) (o : Nat) (ks : List Cd) (b : Bool), eqTy.eqFs P (eqTy P d) o fs ks = true → eqV ks (xs.toList.drop o) (ys.toList.drop o) = some b → (Op.eqFields (d + k) xs ys fs).run P w = .ok b w
  | [], o, ks, b, h, hb => by
    simp only [eqTy.eqFs, List.isEmpty_iff] at h
    subst h
    match hx : xs.toList.drop o, hy : ys.toList.drop o, hb with
    | [], [], hb => simp only [eqV] at hb; cases hb; simp [Op.eqFields]
  | f :: r, o, ks, b, h, hb => by
    simp only [eqTy.eqFs] at h
    split at h
    · rename_i m agg hm hagg
      simp only [Bool.and_eq_true, beq_iff_eq, bne_iff_ne, decide_eq_true_eq, Bool.or_eq_true] at h
      obtain ⟨⟨⟨⟨⟨h1, h3⟩, hm1⟩, hmk⟩, h2⟩, h⟩ := h
      obtain ⟨b1, b2, e1, e2, e3⟩ := eqV_split m _ _ _ _ hb
      rw [List.drop_drop, List.drop_drop] at e2
      have hrest := fields_eq ih w xs ys r (o + m) (ks.drop m) b2 h e2
      have hlen := eqV_len _ _ _ _ e1
      have hpart : ∀ zs : Array Value, ((zs.toList.drop o).take m).length = m → ∃ v, (part f.type zs f.offset).run P w = .ok v w ∧ (agg = true → v = .agg ((zs.toList.drop o).take m).toArray) ∧ (agg = false → (zs.toList.drop o).take m = [v]) := fun zs hz => by
        obtain ⟨p1, p2⟩ := part_run hagg hm (arr := zs) (off := f.offset) w
        cases hag : agg with
        | true =>
          refine ⟨_, p1 hag, fun _ => ?_, fun h => by cases h⟩
          rw [h3]
          congr 1
          apply Array.ext'
          simp [Array.toList_extract, List.extract_eq_take_drop]
        | false =>
          have hm' : m = 1 := hm1.resolve_left (by rw [hag]; decide)
          subst hm'
          match hq : (zs.toList.drop o).take 1, hz with
          | [v], _ =>
            have : zs[f.offset]? = some v := by
              have h0 : ((zs.toList.drop o).take 1)[0]? = some v := by rw [hq]; rfl
              rw [h3]
              simpa using h0
            exact ⟨v, p2 hag v this, ⟨(fun h => by cases h), (fun _ => rfl)⟩⟩
      have hkl : (ks.take m).length = m := by rw [List.length_take]; omega
      obtain ⟨vx, px, ax, bx⟩ := hpart xs (by rw [hlen.1, hkl])
      obtain ⟨vy, py, ay, by_⟩ := hpart ys (by rw [hlen.2, hkl])
      have he := ih f.type (ks.take m) agg vx vy _ _ b1 w h2 hagg e1 (fun h => ⟨ax h, ay h⟩) (fun h => ⟨bx h, by_ h⟩)
      rw [Op.eqFields]
      simp only [if_pos h1, Sem.run_bind, px, py, he, Result.andThen_ok]
      subst e3
      cases b1
      · simp
      · simpa using hrest
    · cases h

theorem eqTy_run : ∀ (d k : Nat) (t : TypeId) (ks : List Cd) (agg : Bool) (vx vy : Value) (xs ys : List Value) (b : Bool) (w : World), eqTy P d t ks = true → isAggT P t = some agg → eqV ks xs ys = some b →
      (agg = true → vx = .agg xs.toArray ∧ vy = .agg ys.toArray) → (agg = false → xs = [vx] ∧ ys = [vy]) → (Op.equalIn (d + k) t vx vy).run P w = .ok b w
  | 0, _, _, _, _, _, _, _, _, _, _, h, _, _, _, _ => by simp [eqTy] at h
  | d + 1, k, t, ks, agg, vx, vy, xs, ys, b, w, h, hagg, hb, h1, h2 => by
    rw [show d + 1 + k = d + k + 1 by omega]
    simp only [eqTy] at h
    split at h
    · rename_i hu
      simp [isAggT, hu] at hagg
      subst hagg
      obtain ⟨rfl, rfl⟩ := h2 rfl
      cases vx <;> cases vy <;> simp only [eqV] at hb <;> first
        | (cases hb; done)
        | (simp at hb; subst hb; rename_i p q; simp only [Option.map_some, Op.equalIn, Sem.run_bind, run_underlying hu, Result.andThen_ok, Sem.run_pure]; cases p <;> cases q <;> rfl)
    · rename_i k1 k2 hu
      simp at h; subst h
      simp [isAggT, hu] at hagg
      subst hagg
      obtain ⟨rfl, rfl⟩ := h2 rfl
      cases vx <;> cases vy <;> simp only [eqV] at hb <;> first
        | (cases hb; done)
        | (split at hb
           · rename_i hk
             obtain ⟨rfl, rfl⟩ := hk
             simp at hb; subst hb
             simp only [Op.equalIn, Sem.run_bind, run_underlying hu, Result.andThen_ok, if_true, Sem.run_pure]; congr 1
           · cases hb)
    · rename_i hu
      simp [isAggT, hu] at hagg
      subst hagg
      obtain ⟨rfl, rfl⟩ := h2 rfl
      cases vx <;> cases vy <;> simp only [eqV] at hb <;> first
        | (cases hb; done)
        | (simp at hb; subst hb; rename_i p q; simp only [Option.map_some, Op.equalIn, Sem.run_bind, run_underlying hu, Result.andThen_ok, Sem.run_pure]; rw [bytes_beq]; try simp)
    · rename_i fs hu
      simp [isAggT, hu] at hagg
      subst hagg
      obtain ⟨rfl, rfl⟩ := h1 rfl
      simp only [Bool.and_eq_true, Bool.not_eq_true'] at h
      obtain ⟨hs, hf⟩ := h
      have hf' : P.fieldsOf t = fs := by simp [Program.fieldsOf, hu]
      rw [run_equalIn_struct (P := P) w (d + k) t _ _ (by rw [hf']; exact hu) hs, hf']
      exact fields_eq (fun t ks agg vx vy xs ys b w => eqTy_run d k t ks agg vx vy xs ys b w) w _ _ fs.toList 0 _ b hf (by simpa using hb)
    · cases h

theorem eqOk_of {t : TypeId} {ks : List Cd} (h : (match isAggT P t with | some true => eqTy P 20 t ks && !P.eqGuardType P.depth t | _ => false) = true) : EqOk P t ks := by
  split at h
  · rename_i hagg
    simp only [Bool.and_eq_true, Bool.not_eq_true'] at h
    intro x y xs ys b w hb
    have he : (Op.equal t (.agg xs) (.agg ys)).run P w = .ok b w := eqTy_run 20 9980 t ks true _ _ xs.toList ys.toList b w h.1 hagg hb (fun _ => ⟨by simp, by simp⟩) (fun h => by cases h)
    constructor
    · simp [eqGuard, run_program, h.2, binOp, he]
    · simp [eqGuard, run_program, h.2, binOp, he]
  · cases h

theorem checkKey_run {P : Program} (em : Bool) : ∀ (d k : Nat) (t : TypeId) (ks : List Cd) (agg : Bool) (v : Value) (xs : List Value) (w : World), eqTy P d t ks = true → isAggT P t = some agg → xs.length = ks.length →
      (agg = true → v = .agg xs.toArray) → (Instr.checkKey em (d + k) t v).run P w = .ok () w
  | 0, _, _, _, _, _, _, _, h, _, _, _ => by simp [eqTy] at h
  | d + 1, k, t, ks, agg, v, xs, w, h, hagg, hl, h1 => by
    rw [show d + 1 + k = d + k + 1 by omega]
    simp only [eqTy] at h
    split at h
    · rename_i hu
      rw [Instr.checkKey]
      simp only [Sem.run_bind, run_underlying hu, Result.andThen_ok, Sem.run_pure]
    · rename_i k1 k2 hu
      rw [Instr.checkKey]
      simp only [Sem.run_bind, run_underlying hu, Result.andThen_ok, Sem.run_pure]
    · rename_i hu
      rw [Instr.checkKey]
      simp only [Sem.run_bind, run_underlying hu, Result.andThen_ok, Sem.run_pure]
    · rename_i fs hu
      simp [isAggT, hu] at hagg
      subst hagg
      rw [h1 rfl]
      simp only [Bool.and_eq_true, Bool.not_eq_true'] at h
      rw [Instr.checkKey]
      simp only [Sem.run_bind, run_underlying hu, Result.andThen_ok]
      rw [← Array.forIn_toList]
      have key : ∀ (L : List Field) (o : Nat) (ks : List Cd), eqTy.eqFs P (eqTy P d) o L ks = true → xs.length = o + ks.length →
          (forIn L PUnit.unit fun (f : Field) (_ : PUnit) => (do
            if f.name ≠ "_" then do
              Instr.checkKey em (d + k) f.type (← part f.type xs.toArray f.offset)
              pure PUnit.unit
            else pure PUnit.unit
            pure (ForInStep.yield PUnit.unit) : Sem (ForInStep PUnit))).run P w = .ok PUnit.unit w := by
        intro L
        induction L with
        | nil => intro o ks _ _; simp
        | cons f L ih =>
          intro o ks hq hlen
          simp only [eqTy.eqFs] at hq
          split at hq
          · rename_i m agg hm hagg
            simp only [Bool.and_eq_true, beq_iff_eq, bne_iff_ne, decide_eq_true_eq, Bool.or_eq_true] at hq
            obtain ⟨⟨⟨⟨⟨q1, q2⟩, q3⟩, q4⟩, q5⟩, q6⟩ := hq
            obtain ⟨p1, p2⟩ := part_run hagg hm (arr := xs.toArray) (off := f.offset) w
            have hlen2 : ((xs.drop o).take m).length = (ks.take m).length := by simp; omega
            obtain ⟨fv, hfv, hfa⟩ : ∃ v, (part f.type xs.toArray f.offset).run P w = .ok v w ∧ (agg = true → v = .agg ((xs.drop o).take m).toArray) := by
              cases hag : agg with
              | true =>
                refine ⟨_, p1 hag, fun _ => ?_⟩
                rw [q2]
                congr 1
                apply Array.ext'
                simp [Array.toList_extract, List.extract_eq_take_drop]
              | false =>
                have hm1 : m = 1 := q3.resolve_left (by rw [hag]; decide)
                subst hm1
                have hlt : f.offset < xs.length := by rw [q2]; omega
                exact ⟨xs[f.offset], p2 hag _ (by simp [hlt]), fun h => by cases h⟩
            have hrec := checkKey_run em d k f.type (ks.take m) agg fv _ w q5 hagg hlen2 hfa
            simp only [List.forIn_cons, Sem.run_bind, q1, ne_eq, not_false_eq_true, if_true, Result.andThen_ok, hfv, hrec, Sem.run_pure]
            exact ih (o + m) (ks.drop m) q6 (by simp; omega)
          · cases hq
      have := key fs.toList 0 _ h.2 (by simpa using hl)
      simp only [Sem.run_bind] at this ⊢
      simp at this ⊢
      rw [this]
      rfl
    · cases h

theorem keyOk_of {P : Program} {t : TypeId} {ks : List Cd} (h : (match isAggT P t with | some true => eqTy P 20 t ks && !P.eqGuardType P.depth t | _ => false) = true) : KeyOk P t ks := by
  split at h
  · rename_i hagg
    simp only [Bool.and_eq_true, Bool.not_eq_true'] at h
    refine ⟨?_, fun xs ys b w hb => ?_, fun em xs w hl => ?_⟩
    · have h1 := h.1
      unfold eqTy at h1
      split at h1
      · rename_i hu; simp [isAggT, hu] at hagg
      · rename_i hu; simp [isAggT, hu] at hagg
      · rename_i hu; simp [isAggT, hu] at hagg
      · rename_i fs hu; exact ⟨fs, hu⟩
      · cases h1
    · exact eqTy_run 20 9980 t ks true _ _ xs.toList ys.toList b w h.1 hagg hb (fun _ => ⟨by simp, by simp⟩) (fun h => by cases h)
    · exact checkKey_run em 20 9980 t ks true _ xs.toList w h.1 hagg hl (fun _ => by simp)
  · cases h

def eqAll (P : Program) (l : List (TypeId × List Cd)) : Bool := l.all fun p => match isAggT P p.1 with
  | some true => eqTy P 20 p.1 p.2 && !P.eqGuardType P.depth p.1
  | _ => false

theorem eqAll_ok {l : List (TypeId × List Cd)} (h : eqAll P l = true) : ∀ t ks, eqTyp l t = some ks → EqOk P t ks := by
  induction l with
  | nil => intro t ks h; cases h
  | cons p r ih =>
    obtain ⟨u, us⟩ := p
    intro t ks hk
    simp only [eqAll, List.all_cons, Bool.and_eq_true] at h
    simp only [eqTyp] at hk
    cases hc : Nat.beq u t with
    | true =>
      rw [hc] at hk
      cases hk
      cases Nat.eq_of_beq_eq_true hc
      exact eqOk_of h.1
    | false =>
      rw [hc] at hk
      exact ih h.2 t ks hk

theorem keyAll_ok {P : Program} {l : List (TypeId × List Cd)} (h : eqAll P l = true) : ∀ t ks, eqTyp l t = some ks → KeyOk P t ks := by
  induction l with
  | nil => intro t ks h; cases h
  | cons p r ih =>
    obtain ⟨u, us⟩ := p
    intro t ks hk
    simp only [eqAll, List.all_cons, Bool.and_eq_true] at h
    simp only [eqTyp] at hk
    cases hc : Nat.beq u t with
    | true =>
      rw [hc] at hk
      cases hk
      cases Nat.eq_of_beq_eq_true hc
      exact keyOk_of h.1
    | false =>
      rw [hc] at hk
      exact ih h.2 t ks hk

/-- Names and places, function by function. -/
def fnsOk (fs : List Func) : Bool := fs.all fun fn => !(fn.name == "runtime.NumGoroutine") && (match fn.body with
  | some c => dstOk fn.ntmps c
  | none => true)

theorem envOk_of {E : Env} (h1 : eqAll E.P E.eqT = true) (h2 : fnsOk E.P.funcs.toList = true) (h3 : ∀ (i : FI) (x : Tup (acodes i.as)) (y : Tup (rcodes i.rs i.as)), E.isExt i.f = true → E.exf i x = some y → MFn E i x y) (h4 : XcOk E := by exact xcOk_none rfl) : EnvOk E where
  xc := h4
  eq := eqAll_ok h1
  key := keyAll_ok h1
  ext := h3
  name := fun f fn hf _ => by
    have := List.all_eq_true.1 h2 fn (List.mem_of_getElem? (by simpa using hf : E.P.funcs.toList[f]? = some fn))
    simp only [Bool.and_eq_true, Bool.not_eq_true'] at this
    exact this.1
  dst := fun f fn c hf hc => by
    have := List.all_eq_true.1 h2 fn (List.mem_of_getElem? (by simpa using hf : E.P.funcs.toList[f]? = some fn))
    simp only [Bool.and_eq_true] at this
    have := this.2
    rw [hc] at this
    exact this

/-- A list with one element changed. -/
def updL {α : Type} (xs : List α) (i : Nat) (d : α) (f : α → α) : List α := xs.set i (f (xs.getD i d))

theorem updL_len {α : Type} (xs : List α) (i : Nat) (d : α) (f : α → α) : (updL xs i d f).length = xs.length := List.length_set ..

theorem updL_updL {α : Type} (xs : List α) (i : Nat) (d : α) (f g : α → α) : updL (updL xs i d f) i d g = updL xs i d (fun w => g (f w)) := by
  unfold updL
  by_cases h : i < xs.length
  · rw [List.set_set, List.getD_eq_getElem?_getD (l := xs.set i _), List.getElem?_set_self h]
    rfl
  · rw [List.set_eq_of_length_le (by simp; omega), List.set_eq_of_length_le (by omega), List.set_eq_of_length_le (by omega)]

theorem updL_set {α : Type} {xs : List α} {i : Nat} (h : i < xs.length) (d : α) (f : α → α) : updL xs i d f = xs.set i (f xs[i]) := by
  unfold updL
  rw [List.getD_eq_getElem?_getD, List.getElem?_eq_getElem h]
  rfl

end
end Ai
end Go.Proofs.YtpboclokodgnlaaGreat
