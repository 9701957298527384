/-
  The ideal interpreter against the machine: structs, arrays and slices written as literals.
-/
import Derived.Test.YtpknhlnoaehffaaA12
import Derived.Great.BuildSlice
namespace Go.Proofs.Ytpknhlnoaehffaa
namespace Ai
set_option linter.unusedSimpArgs false
set_option linter.unusedVariables false

/-- One part's cells laid over a row. -/
theorem fold_set (off : Nat) : ∀ (vs : List Value) (i : Nat) (arr : Array Value), off + i + vs.length ≤ arr.size →
    ((vs.zipIdx i).foldl (fun (cs : Array Value) p => cs.setIfInBounds (off + p.2) p.1) arr).toList = arr.toList.take (off + i) ++ vs ++ arr.toList.drop (off + i + vs.length)
  | [], i, arr, _ => by simp
  | v :: r, i, arr, h => by
    rw [List.zipIdx_cons, List.foldl_cons]
    have ih := fold_set off r (i + 1) (arr.setIfInBounds (off + i) v) (by simp at h ⊢; omega)
    rw [ih]
    have e := list_seg_step arr.toList (off + i) v r (by simp at h ⊢; omega)
    rw [Array.toList_setIfInBounds]
    rw [← Nat.add_assoc off i 1]
    rw [e]
    simp

theorem fill_step {place : Nat → Option (Nat × Nat)} {arr : Array Value} {i off size : Nat} {v : Value} {rest : List (Nat × Value)} (hp : place i = some (off, size)) (hs : v.cells.size = size) (hl : off + size ≤ arr.size) :
    ∃ arr' : Array Value, Instr.fill place arr ((i, v) :: rest) = Instr.fill place arr' rest ∧ arr'.toList = arr.toList.take off ++ v.cells.toList ++ arr.toList.drop (off + size) := by
  refine ⟨v.cells.zipIdx.foldl (fun (cs : Array Value) p => cs.setIfInBounds (off + p.2) p.1) arr, ?_, ?_⟩
  · simp only [Instr.fill, hp]
    rw [if_neg (by simp only [Bool.or_eq_true, decide_eq_true_eq]; omega)]
  · rw [← Array.foldl_toList, Array.toList_zipIdx]
    have := fold_set off v.cells.toList 0 arr (by simp; omega)
    simpa [hs] using this

theorem fill_all2 {C : Cx} {place : Nat → Option (Nat × Nat)} : ∀ (parts : List (Nat × List Sc)) (vals : List (Nat × Value)) (cs : List Sc) (arr : Array Value) (cs' : List Sc), All2 (SR C) cs arr.toList →
    All2 (fun p q => p.1 = q.1 ∧ All2 (SR C) p.2 q.2.cells.toList) parts vals → fillS place cs parts = some cs' → ∃ arr', Instr.fill place arr vals = some arr' ∧ All2 (SR C) cs' arr'.toList := by
  intro parts
  induction parts with
  | nil =>
    intro vals cs arr cs' ha hp h
    cases vals with
    | nil => simp only [fillS, Option.some.injEq] at h; subst h; exact ⟨arr, rfl, ha⟩
    | cons => exact hp.elim
  | cons p r ih =>
    intro vals cs arr cs' ha hp h
    cases vals with
    | nil => exact hp.elim
    | cons q vals =>
      obtain ⟨i, x⟩ := p
      obtain ⟨j, v⟩ := q
      obtain ⟨⟨e, hx⟩, hr⟩ := hp
      simp only at e hx
      subst e
      simp only [fillS] at h
      split at h
      · cases h
      · rename_i off size hpl
        split at h
        · rename_i hsz
          split at h
          · rename_i cs1 hs
            obtain ⟨hl, rfl⟩ := splice_inv hs
            have hvl : v.cells.size = size := by have := hx.length; simp at this; omega
            have hal : arr.size = cs.length := by have := ha.length; simp at this; omega
            obtain ⟨arr', e1, e2⟩ := fill_step (rest := vals) (v := v) hpl hvl (arr := arr) (by omega)
            rw [e1]
            refine ih vals _ arr' cs' ?_ hr h
            rw [e2, hsz]
            exact ((ha.take off).append hx).append (ha.drop _)
          · cases h
        · cases h

section
variable {E : Env} {A : Base} {g : Nat → Option Loc} {B Bx : Nat → BS} {tm : Nat → T} {a : Act} {w : World} {o : Oper} {r : T} {d : List (Nat × BS)}

theorem parts_sr (hT : ∀ n, TR (cxOf A g B w) (tm n) (a.tmps.getD n undef)) : ∀ (ps : List (Nat × Operand)) (css : List (List Sc)), partsCells ((ps.map fun p => (p.1, evalO tm p.2)).map (·.2)) = some css →
    All2 (fun p q => p.1 = q.1 ∧ All2 (SR (cxOf A g B w)) p.2 q.2.cells.toList) (((ps.map fun p => (p.1, evalO tm p.2)).map (·.1)).zip css) (ps.map fun p => (p.1, a.eval p.2)) ∧
    All2 (fun cs (q : Nat × Value) => All2 (SR (cxOf A g B w)) cs q.2.cells.toList ∧ ∀ u ∈ q.2.cells.toList, u.oneCell' = true) css (ps.map fun p => (p.1, a.eval p.2)) := by
  intro ps
  induction ps with
  | nil => intro css h; simp [partsCells] at h; subst h; exact ⟨trivial, trivial⟩
  | cons p r ih =>
    intro css h
    simp only [List.map_cons] at h
    have hp := evalO_tr hT p.2
    generalize evalO tm p.2 = X at hp h
    unfold partsCells at h
    split at h
    · cases ‹_ :: _ = []›
    · rename_i x r' e
      cases e
      split at h
      · rename_i hu
        rw [Option.map_eq_some_iff] at h
        obtain ⟨l, hl, rfl⟩ := h
        obtain ⟨i1, i2⟩ := ih l hl
        have hc := vr_cells (show VR (cxOf A g B w) x _ from hp) hu
        exact ⟨⟨⟨rfl, hc.1⟩, i1⟩, ⟨hc, i2⟩⟩
      · cases h
    · cases h

theorem mapM_places {P : Program} : ∀ (fs : List Field), fs.mapM (fun f => (szT P f.type).map fun n => (f.offset, n)) = fs.mapM (fun f => (P.info? f.type).map fun i => (f.offset, i.size)) := by
  intro fs
  congr 1
  funext f
  simp [szT, Option.map_map]
  rfl

theorem buildK_post (hM : Mem A g B w) (hT : ∀ n, TR (cxOf A g B w) (tm n) (a.tmps.getD n undef)) {t : TypeId} {ps : Array (Nat × Operand)} (ho : o.op = .build t ps)
    (h : buildK E t (ps.toList.map fun p => (p.1, evalO tm p.2)) pk = some (r, d)) : Post E.P A g B a w o r d := by
  have key : ∀ cells : Array Value, E.P.built t (ps.toList.map fun p => (p.1, a.eval p.2)) = some cells → (execOp a.eval o).run E.P w = .ok (.value (.agg cells)) w := by
    intro cells hb
    have := run_build w t (ps.map fun p => (p.1, a.eval p.2)) cells (by simpa using hb)
    simp only [execOp, ho, Sem.run_bind]
    rw [show (Array.map (fun x => match x with | (i, x) => (i, a.eval x)) ps) = ps.map fun p => (p.1, a.eval p.2) from rfl, this]
    rfl
  unfold buildK at h
  split at h
  · rename_i fs z css hu hz hcss
    split at h
    · rename_i places hpl
      split at h
      · rename_i cs hf
        cases h
        obtain ⟨i, v, hi, hzv, hzo⟩ := zero_of hz
        have hzc : All2 (SR (cxOf A g B w)) z.cells v.cells.toList := by
          have hvr := ofValue_vr (C := cxOf A g B w) hzo
          cases z with
          | agg l => obtain ⟨arr, rfl, ha⟩ := hvr; exact ha
          | one s =>
            have : v.cells = #[v] := by
              unfold ofValue at hzo
              split at hzo
              · simp at hzo
              · rename_i hna
                cases v <;> first | rfl | (exact absurd rfl (hna _)) | (simp [ofOne] at hzo; done)
            rw [this]; exact ⟨hvr, trivial⟩
        obtain ⟨p1, p2⟩ := parts_sr hT _ _ hcss
        obtain ⟨arr', e1, e2⟩ := fill_all2 _ _ _ _ _ hzc p1 hf
        refine .pure hM (key arr' ?_) ⟨arr', rfl, e2⟩
        rw [mapM_places] at hpl
        unfold Program.built
        simp only [hi, hu, hzv, hpl]
        simpa using e1
      · cases h
    · cases h
  · rename_i n e z css hu hz hcss
    split at h
    · rename_i sz hsz
      split at h
      · rename_i cs hf
        cases h
        obtain ⟨i, v, hi, hzv, hzo⟩ := zero_of hz
        have hzc : All2 (SR (cxOf A g B w)) z.cells v.cells.toList := by
          have hvr := ofValue_vr (C := cxOf A g B w) hzo
          cases z with
          | agg l => obtain ⟨arr, rfl, ha⟩ := hvr; exact ha
          | one s =>
            have : v.cells = #[v] := by
              unfold ofValue at hzo
              split at hzo
              · simp at hzo
              · rename_i hna
                cases v <;> first | rfl | (exact absurd rfl (hna _)) | (simp [ofOne] at hzo; done)
            rw [this]; exact ⟨hvr, trivial⟩
        obtain ⟨p1, p2⟩ := parts_sr hT _ _ hcss
        obtain ⟨arr', e1, e2⟩ := fill_all2 _ _ _ _ _ hzc p1 hf
        refine .pure hM (key arr' ?_) ⟨arr', rfl, e2⟩
        unfold szT at hsz
        rw [Option.map_eq_some_iff] at hsz
        obtain ⟨ie, hie, rfl⟩ := hsz
        unfold Program.built
        simp only [hi, hu, hzv, hie]
        exact e1
      · cases h
    · cases h
  · cases h

/-! ### Slice literals -/

theorem fill_rows (size : Nat) : ∀ (parts : List (Nat × Value)) (k : Nat) (arr : Array Value), (∀ i p, parts[i]? = some p → p.1 = k + i ∧ p.2.cells.size = size) → arr.size = (k + parts.length) * size →
    ∃ arr', Instr.fill (fun i => some (i * size, size)) arr parts = some arr' ∧ arr'.toList = arr.toList.take (k * size) ++ (parts.map (·.2.cells.toList)).flatten := by
  intro parts
  induction parts with
  | nil =>
    intro k arr _ hs
    refine ⟨arr, rfl, ?_⟩
    simp at hs
    simp [List.take_of_length_le, hs]
  | cons p r ih =>
    intro k arr hp hs
    obtain ⟨i, v⟩ := p
    obtain ⟨e1, e2⟩ := hp 0 _ rfl
    simp only [Nat.add_zero] at e1 e2
    subst e1
    have hk : (i + (r.length + 1)) * size = i * size + size + r.length * size := by rw [Nat.add_mul, Nat.add_mul]; omega
    simp only [List.length_cons] at hs
    obtain ⟨arr', f1, f2⟩ := fill_step (place := fun i => some (i * size, size)) (rest := r) (v := v) (i := i) rfl e2 (arr := arr) (by omega)
    rw [f1]
    have hlen : arr'.size = arr.size := by
      have := congrArg List.length f2
      simp [e2] at this
      omega
    obtain ⟨arr2, g1, g2⟩ := ih (i + 1) arr' (fun j q hj => by
      obtain ⟨h1, h2⟩ := hp (j + 1) q (by simpa using hj)
      exact ⟨by omega, h2⟩) (by rw [hlen, hs]; congr 1; omega)
    refine ⟨arr2, g1, ?_⟩
    rw [g2, f2]
    have h1 : (arr.toList.take (i * size)).length = i * size := by simp; omega
    have h2 : v.cells.toList.length = size := by simpa using e2
    rw [List.append_assoc (arr.toList.take (i * size))]
    rw [List.take_append, h1, List.take_of_length_le (by rw [h1, Nat.add_mul]; omega)]
    rw [show (i + 1) * size - i * size = size by rw [Nat.add_mul]; omega]
    rw [List.take_append, h2]
    simp [List.take_of_length_le (Nat.le_of_eq h2)]

theorem inOrder_get : ∀ (n : Nat) (l : List (Nat × T)), inOrder n l = true → ∀ i p, l[i]? = some p → p.1 = n + i
  | _, [], _, i, p, h => by simp at h
  | n, (k, t) :: r, h, i, p, hp => by
    simp only [inOrder, Bool.and_eq_true] at h
    cases i with
    | zero => simp at hp; subst hp; exact Nat.eq_of_beq_eq_true h.1
    | succ i =>
      have := inOrder_get (n + 1) r h.2 i p (by simpa using hp)
      omega

theorem idsL_mem_left {id : Nat} : ∀ (l1 l2 : List Sc), id ∈ idsL l1 → id ∈ idsL (l1 ++ l2) := by
  intro l1 l2 e
  induction l1 with
  | nil => simp [idsL] at e
  | cons s l1 ih =>
    cases s <;> simp only [List.cons_append, idsL, List.mem_cons] at e ⊢ <;> first
      | exact ih e
      | exact e.imp (fun h => h) ih

theorem idsL_mem_right {id : Nat} : ∀ (l1 l2 : List Sc), id ∈ idsL l2 → id ∈ idsL (l1 ++ l2) := by
  intro l1 l2 e
  induction l1 with
  | nil => exact e
  | cons s l1 ih =>
    cases s <;> simp only [List.cons_append, idsL, List.mem_cons] <;> first
      | exact ih
      | exact .inr ih

theorem decAll_ids {Bx : Nat → BS} {c : Cd} : ∀ (css : List (List Sc)) (xs : List (El c)), decAll Bx c css = some xs → ∀ id ∈ idsL css.flatten, ∃ v, vecOf Bx id = some v
  | [], _, _, id, hi => by simp [idsL] at hi
  | cs :: r, xs, h, id, hi => by
    simp only [decAll] at h
    split at h
    · rename_i x ys hx hys
      rw [List.flatten_cons] at hi
      rcases idsL_append_mem _ _ hi with hi | hi
      · exact dec_ids _ _ _ hx id hi
      · exact decAll_ids r ys hys id hi
    · cases h

theorem orgL_app (Bx : Nat → BS) : ∀ (l1 l2 : List Sc), orgL Bx (l1 ++ l2) = orgL Bx l1 ||| orgL Bx l2 := by
  intro l1 l2
  induction l1 with
  | nil => simp [orgL]
  | cons s l1 ih => simp [orgL, ih, Nat.or_assoc]

theorem decAll_rows (hM : Mem A g B w) (hB : Sub Bx B) {c : Cd} : ∀ (css : List (List Sc)) (vals : List (Nat × Value)) (xs : List (El c)) (org : Nat),
    All2 (fun cs (q : Nat × Value) => All2 (SR (cxOf A g B w)) cs q.2.cells.toList ∧ ∀ u ∈ q.2.cells.toList, u.oneCell' = true) css vals → decAll Bx c css = some xs → (∀ id ∈ idsL css.flatten, isLive B id = true → id ∈ ([] : List Nat)) → orgLe (orgL Bx css.flatten) org = true →
    All2 (DR w ((cxOf A g B w).ok org) c) xs (vals.map (·.2.cells.toList)) := by
  intro css
  induction css with
  | nil =>
    intro vals xs org ha h _ _
    cases vals with
    | nil => simp [decAll] at h; subst h; trivial
    | cons => exact ha.elim
  | cons cs r ih =>
    intro vals xs org ha h hi ho
    cases vals with
    | nil => exact ha.elim
    | cons q vals =>
      simp only [decAll] at h
      split at h
      · rename_i x ys hx hys
        cases h
        rw [List.flatten_cons] at hi ho
        rw [orgL_app] at ho
        have hd := decC_dr hM hB (I := []) (org := org) ha.1.1 hx (fun id h => hi id (idsL_mem_left _ _ h)) (orgLe_trans (orgLe_or_left _ _) ho)
        exact ⟨hd.mono (Nat.le_refl _) fun b hb hok => ⟨okI_nil hok, rfl⟩, ih vals ys org ha.2 hys (fun id h => hi id (idsL_mem_right _ _ h)) (orgLe_trans (orgLe_or_right _ _) ho)⟩
      · cases h

theorem buildSliceK_post (hM : Mem A g B w) (hB : Sub Bx B) (hT : ∀ n, TR (cxOf A g B w) (tm n) (a.tmps.getD n undef)) {id : Nat} {t : TypeId} {len : Nat} {ps : Array (Nat × Operand)} (ho : o.op = .buildSlice t len ps)
    (h : buildSliceK E Bx id t len (ps.toList.map fun p => (p.1, evalO tm p.2)) pk = some (r, d)) : Post E.P A g B a w o r d := by
  unfold buildSliceK at h
  split at h
  · rename_i e he
    split at h
    · rename_i c sz css hc hsz hcss
      split at h
      · rename_i hcond
        simp only [Bool.and_eq_true, decide_eq_true_eq] at hcond
        obtain ⟨⟨⟨⟨h1, h2⟩, h3⟩, h4⟩, h6⟩ := hcond
        obtain ⟨hM1, hL1, hB1⟩ := frz_step hM hB (idsL css.flatten)
        have h2 := Nat.eq_of_beq_eq_true h2
        have h3 := Nat.eq_of_beq_eq_true h3
        split at h
        · rename_i xs hxs
          have hmk : ∃ d', applyB Bx (frzL Bx (idsL css.flatten)) id = .fresh ∧ r = one (.own id) ∧ d = frzL Bx (idsL css.flatten) ++ d' ∧ d' = [(id, .live (.vec (orgL (applyB Bx (frzL Bx (idsL css.flatten))) css.flatten) c xs))] := by
            unfold mkB at h
            split at h
            · rename_i hf; cases h; exact ⟨_, hf, rfl, rfl, rfl⟩
            · cases h
          obtain ⟨d', hf, rfl, rfl, hd'⟩ := hmk
          obtain ⟨z, hz⟩ := Option.isSome_iff_exists.1 h6
          obtain ⟨ie, hie, hz⟩ := Option.bind_eq_some_iff.1 hz
          have hisz : ie.size = csize c := by simp [szT, hie] at hsz; omega
          obtain ⟨p1, p2⟩ := parts_sr hT _ _ hcss
          have hrows := decAll_rows hM1 hB1 _ _ xs _ (p2.mono fun _ _ hh => ⟨hh.1.mono fun _ _ => hL1.sr, hh.2⟩) hxs (fun q hq hl => by
            obtain ⟨v, hv⟩ := decAll_ids _ _ hxs q hq
            rw [frz_notlive hB hq hv] at hl
            cases hl) (orgLe_refl _)
          have hcl : ∀ cs ∈ (ps.toList.map fun p => (p.1, a.eval p.2)).map (·.2.cells.toList), cs.length = csize c := fun cs hcs => rows_len hrows cs hcs
          have hplen : (ps.toList.map fun p => (p.1, a.eval p.2)).length = len := by simpa using h2
          have hxlen : xs.length = len := by rw [hrows.length]; simpa using h2
          unfold elemT at he
          split at he
          · rename_i e' hu
            obtain rfl : e = e' := by simpa using he.symm
            obtain ⟨arr', f1, f2⟩ := fill_rows ie.size (ps.toList.map fun p => (p.1, a.eval p.2)) 0 ((Array.range (len * ie.size)).map (z.cells[· % z.cells.size]!)) (fun i p hp => by
              refine ⟨?_, ?_⟩
              · have : (ps.toList.map fun p => (p.1, evalO tm p.2))[i]? = some (p.1, evalO tm (ps.toList.getD i (0, .const undef)).2) := by
                  simp only [List.getElem?_map, Option.map_eq_some_iff] at hp ⊢
                  obtain ⟨q, hq, rfl⟩ := hp
                  refine ⟨q, hq, ?_⟩
                  simp only [List.getD, hq, Option.getD_some]
                exact inOrder_get _ _ h1 _ _ this
              · have := hcl p.2.cells.toList (by
                  rw [List.mem_map]
                  exact ⟨p, List.mem_of_getElem? hp, rfl⟩)
                rw [hisz]; simpa using this) (by rw [hplen]; simp)
            have hpost : Post E.P A g (applyB B (frzL Bx (idsL css.flatten))) a w o (one (.own id)) d' := by
             rw [hd']
             refine vec_post hM1 (hB1.fresh _ hf) hrows (w1 := w) (cap := len) (arr := arr') rfl rfl rfl rfl (by omega) ?_ (fun j u hj => ?_) (t := e) ?_
             · have := congrArg List.length f2
               simp only [Nat.zero_mul, List.take_zero, List.nil_append, Array.length_toList] at this
               rw [flatten_length hcl] at this
               simp only [List.length_map] at this hplen
               rw [this, hplen]
               exact Nat.le_refl _
             · have : arr'.toList[j]? = some u := by rw [f2]; simpa using hj
               simpa using this
             · have hrun : (Instr.buildSlice t len (ps.map fun p => (p.1, a.eval p.2))).run E.P w = .ok (.slice (some ⟨w.heap.size, 0, none⟩) len len) (w.alloc (.cells arr' e)) := by
                 have hsm : ¬ len * ie.size > 2 ^ 24 := by
                   have : len * sz ≤ 65536 := h4
                   rw [h3] at this
                   rw [hisz]
                   omega
                 by_cases hpos : len * ie.size = 0
                 · have hz0 : (Array.range (len * ie.size)).map (z.cells[· % z.cells.size]!) = #[] := by rw [hpos]; simp
                   rw [hz0] at f1
                   have f1' : Instr.fill (fun i => some (i * ie.size, ie.size)) #[] (ps.map fun p => (p.1, a.eval p.2)).toList = some arr' := by simpa using f1
                   simp [Instr.buildSlice, run_underlying hu, sizeOf, typeInfo, zeroValue, hie, hpos]
                   rw [show (Array.map (fun p => (p.fst, a.eval p.snd)) ps).toList = List.map (fun p => (p.fst, a.eval p.snd)) ps.toList by simp] at f1'
                   rw [show Array.map (fun (x : Nat) => (default : Value)) (Array.range 0) = #[] by simp, f1']
                   simp [newRow]
                 · exact run_buildSlice w t e len _ arr' ie z hu hie hz hsm hpos (by simpa using f1)
               simp only [execOp, ho, Sem.run_bind]
               rw [show (Array.map (fun x => match x with | (i, x) => (i, a.eval x)) ps) = ps.map fun p => (p.1, a.eval p.2) from rfl, hrun]
               rw [hxlen]
               rfl
            obtain ⟨g', w', m1, m2, m3⟩ := hpost
            refine ⟨g', w', ?_, ?_, ?_⟩
            · rw [applyB_append]; exact m1
            · rw [applyB_append]; exact hL1.trans m2
            · rw [applyB_append]; exact m3
          · cases he
        · cases h
      · cases h
    · cases h
  · cases h

end
end Ai
end Go.Proofs.Ytpknhlnoaehffaa
