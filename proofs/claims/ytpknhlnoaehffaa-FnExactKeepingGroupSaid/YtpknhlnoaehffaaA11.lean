/-
  The ideal interpreter against the machine: making and writing.
-/
import Derived.Test.YtpknhlnoaehffaaA10
import Derived.Laws.MakeOwn
import Derived.Laws.CopyRow
import Derived.Deep.AppendSrc
namespace Go.Proofs.Ytpknhlnoaehffaa
namespace Ai
set_option linter.unusedSimpArgs false
set_option linter.unusedVariables false

section
variable {E : Env} {A : Base} {g : Nat → Option Loc} {B Bx : Nat → BS} {tm : Nat → T} {a : Act} {w : World} {o : Oper} {r : T} {d : List (Nat × BS)}

theorem mkB_inv {id : Nat} {b : Blk} {t : T} (h : mkB Bx id b t pk = some (r, d)) : Bx id = .fresh ∧ r = t ∧ d = [(id, .live b)] := by
  unfold mkB at h
  split at h
  · rename_i hf; cases h; exact ⟨hf, rfl, rfl⟩
  · cases h

/-- A new variable. -/
theorem box_post (hM : Mem A g B w) {id : Nat} (hf : B id = .fresh) {x : Val} {v : Value} (hx : VR (cxOf A g B w) x v) (hu : noUnd x.cells = true) {t : TypeId}
    (hr : (execOp a.eval o).run E.P w = .ok (.value (.pointer (some ⟨w.heap.size, 0, none⟩))) (w.alloc (.cells v.cells t))) :
    Post E.P A g B a w o (one (.ptr id 0)) [(id, .live (.box x.cells))] := by
  obtain ⟨hc, hone⟩ := vr_cells hx hu
  obtain ⟨hM', hL⟩ := hM.make hf (blk := .box x.cells) (l := ⟨w.heap.size, 0, 0, 0, 1, false, none⟩) (w' := w.alloc (.cells v.cells t)) (o := .cells v.cells t) rfl rfl .cells rfl rfl rfl rfl
    (fun hL => ⟨⟨rfl, rfl⟩, v.cells, t, by show (w.heap.push _)[w.heap.size]? = _; simp, hc.mono fun _ _ => hL.sr⟩)
  exact ⟨_, _, hM', hL, .inl ⟨_, hr, ⟨_, upd_same _ _ _, rfl⟩⟩⟩

theorem zero_of {e : TypeId} {z : Val} (h : ((E.P.info? e).bind (·.zero)).bind ofValue = some z) : ∃ i v, E.P.info? e = some i ∧ i.zero = some v ∧ ofValue v = some z := by
  obtain ⟨v, hv, hz⟩ := Option.bind_eq_some_iff.1 h
  obtain ⟨i, hi, hv⟩ := Option.bind_eq_some_iff.1 hv
  exact ⟨i, v, hi, hv, hz⟩

theorem alloc_post (hM : Mem A g B w) (hB : Sub Bx B) {e : TypeId} {id : Nat} (ho : o.op = .alloc e)
    (h : (match ((E.P.info? e).bind (·.zero)).bind ofValue with
      | some z => if noUnd z.cells then mkB Bx id (.box z.cells) (one (.ptr id 0)) pk else none
      | none => none) = some (r, d)) : Post E.P A g B a w o r d := by
  split at h
  · rename_i z hz
    split at h
    · rename_i hu
      obtain ⟨hf, rfl, rfl⟩ := mkB_inv h
      obtain ⟨i, v, hi, hv, hz⟩ := zero_of hz
      refine box_post hM (hB.fresh _ hf) (ofValue_vr hz) hu (t := e) ?_
      simp [execOp, ho, Instr.alloc, zeroValue, typeInfo, hi, hv, newVar, newRow]
    · cases h
  · cases h

theorem boxOp_post (hM : Mem A g B w) (hB : Sub Bx B) (hT : ∀ n, TR (cxOf A g B w) (tm n) (a.tmps.getD n undef)) {e : TypeId} {x : Operand} {id : Nat} (ho : o.op = .box e x)
    (h : (match evalO tm x, szT E.P e with
      | .v v, some sz => if v.cells.length = sz ∧ noUnd v.cells then mkB Bx id (.box v.cells) (one (.ptr id 0)) pk else none
      | _, _ => none) = some (r, d)) : Post E.P A g B a w o r d := by
  have hx := evalO_tr hT x
  generalize evalO tm x = X at hx h
  split at h
  · rename_i v sz hz
    split at h
    · rename_i hu
      obtain ⟨hf, rfl, rfl⟩ := mkB_inv h
      refine box_post hM (hB.fresh _ hf) hx hu.2 (t := e) ?_
      simp [execOp, ho, Instr.box, newVar, newRow]
    · cases h
  · cases h

/-! ### Stores -/

theorem splice_inv {cs vs cs' : List Sc} {off : Nat} (h : splice cs off vs = some cs') : off + vs.length ≤ cs.length ∧ cs' = cs.take off ++ vs ++ cs.drop (off + vs.length) := by
  unfold splice at h
  split at h
  · rename_i hl; cases h; exact ⟨hl, rfl⟩
  · cases h

/-- Cells written into a block. -/
theorem store_run {t : TypeId} {sz : Nat} (hz : szT E.P t = some sz) {b off : Nat} {arr : Array Value} {u : TypeId} (hb : w.heap[b]? = some (.cells arr u (0, 0))) {v : Value} (hv : v.cells.toList.length = sz)
    (hl : off + sz ≤ arr.size) (hone : ∀ u ∈ v.cells.toList, u.oneCell' = true) :
    (storeVar t ⟨b, off, none⟩ v).run E.P w = .ok () (w.setRow b (arr.toList.take off ++ v.cells.toList ++ arr.toList.drop (off + sz)).toArray) := by
  have h := run_storeCells_at E.P b off u v.cells.toList 0 arr w hb (by simp at hv ⊢; omega) hone
  simp only [Nat.add_zero] at h
  unfold storeVar
  simp only [Sem.run_bind, run_sizeOf hz, Result.andThen_ok]
  have hs : v.cells.size = sz := by simpa using hv
  simp only [hs, ne_eq, not_true_eq_false, if_false]
  rw [hv] at h
  simpa using h

/-- An element's cells are written. -/
theorem store_elem (hM : Mem A g B w) (hB : Sub Bx B) {id i off sz : Nat} {t : TypeId} (hz : szT E.P t = some sz) {org : Nat} {c : Cd} {xs : List (El c)} (hb : Bx id = .live (.vec org c xs)) {l : Loc} (hg : g id = some l) (hi : i < l.n)
    {x' : Val} {sv : Value} (hy : VR (cxOf A g B w) x' sv) (hc : x'.cells.length = sz) {cs : List Sc} (hs : splice (scells org c (xs.getD i (dflt c))) off x'.cells = some cs) {z : El c} (hd : decC Bx c cs = some z) (hnl : ∀ id ∈ idsL cs, isLive B id = true → id ∈ ([] : List Nat)) :
    ∃ w', (storeVar t ⟨l.b, l.o + i * l.sz + off, none⟩ sv).run E.P w = .ok () w' ∧ Mem A g (upd B id (.live (.vec (org ||| orgL Bx x'.cells) c (xs.set i z)))) w' ∧ Later (cxOf A g B w) (cxOf A g (upd B id (.live (.vec (org ||| orgL Bx x'.cells) c (xs.set i z)))) w') := by
  obtain ⟨vs, hvs, hcell, hdr, hn, hsz, hnil⟩ := vec_elem hM hB (v := ⟨org, c, xs⟩) (by simp [vecOf, hb]) hg hi
  obtain ⟨l', hg', hbr, hX⟩ := hM.br id _ (hB.live _ _ hb)
  rw [hg] at hg'; cases hg'
  rcases hbr with ⟨hh, _⟩ | ⟨_, hS, _, hcap, _, arr, t', harr, hfit, hel⟩
  · rw [hnil] at hh; cases hh
  simp only at hvs hcell hdr hn hsz
  -- no cell of the value is unknown: it could not have been read as a datum
  have hund : noUnd x'.cells = true := by
    have key : ∀ (c : Cd) (ss : List Sc) (y : El c), decC Bx c ss = some y → noUnd ss = true := by
      intro c
      induction c with
      | i k => intro ss y h; simp only [decC] at h; split at h <;> first | rfl | cases h
      | bool => intro ss y h; simp only [decC] at h; split at h <;> first | rfl | cases h
      | str => intro ss y h; simp only [decC] at h; split at h <;> first | rfl | cases h
      | unit => intro ss y h; simp only [decC] at h; split at h <;> first | rfl | cases h
      | list c ih =>
        intro ss y h
        simp only [decC] at h
        split at h
        · rename_i s; cases s <;> first | rfl | (simp [listOf] at h; done)
        · cases h
      | pair p q ihp ihq =>
        intro ss y h
        simp only [decC] at h
        split at h
        · rename_i u v hu hv
          have h1 := ihp _ _ hu
          have h2 := ihq _ _ hv
          have : ∀ (l1 l2 : List Sc), noUnd l1 = true → noUnd l2 = true → noUnd (l1 ++ l2) = true := by
            intro l1 l2 e1 e2
            induction l1 with
            | nil => exact e2
            | cons s l1 ih =>
              obtain ⟨e3, e4⟩ := noUnd_cons e1
              have := ih e4
              cases s <;> simp_all [noUnd]
          have e := this _ _ h1 h2
          rwa [List.take_append_drop] at e
        · cases h
    have h1 := key c cs z hd
    obtain ⟨hl, rfl⟩ := splice_inv hs
    have mem : ∀ (l1 l2 : List Sc), noUnd (l1 ++ l2) = true → noUnd l1 = true ∧ noUnd l2 = true := by
      intro l1 l2 e1
      induction l1 with
      | nil => exact ⟨rfl, e1⟩
      | cons s l1 ih =>
        obtain ⟨e3, e4⟩ := noUnd_cons (r := l1 ++ l2) e1
        have := ih e4
        refine ⟨?_, this.2⟩
        have := this.1
        cases s <;> simp_all [noUnd]
    exact (mem _ _ (mem _ _ h1).1).2
  obtain ⟨hcells, hone⟩ := vr_cells hy hund
  obtain ⟨hl, hcs⟩ := splice_inv hs
  rw [scells_length] at hl
  have hlen : sv.cells.toList.length = sz := by rw [← hcells.length]; exact hc
  have hmul : l.o + i * l.sz + csize c ≤ l.o + l.cap * l.sz := by
    have h2 : (i + 1) * l.sz ≤ l.cap * l.sz := Nat.mul_le_mul_right _ (by omega)
    rw [Nat.add_mul] at h2
    rw [← hsz]; omega
  have hrun := store_run (E := E) hz (b := l.b) (off := l.o + i * l.sz + off) harr hlen (by rw [hc] at hl; omega) hone
  -- the element's cells afterwards
  have hnew : All2 (SR (cxOf A g B w)) cs (vs.take off ++ sv.cells.toList ++ vs.drop (off + sz)) := by
    rw [hcs, hc]
    exact ((hvs.take off).append hcells).append (hvs.drop (off + sz))
  have horg : orgLe (orgL Bx cs) (org ||| orgL Bx x'.cells) = true := by
    have happ : ∀ (l1 l2 : List Sc) m, orgLe (orgL Bx l1) m = true → orgLe (orgL Bx l2) m = true → orgLe (orgL Bx (l1 ++ l2)) m = true := by
      intro l1 l2 m e1 e2
      induction l1 with
      | nil => exact e2
      | cons s l1 ih =>
        simp only [List.cons_append, orgL]
        have e3 := ih (orgLe_trans (orgLe_or_right (orgS Bx s) _) e1)
        have e4 : orgLe (orgS Bx s) m = true := orgLe_trans (orgLe_or_left _ _) e1
        simp only [orgLe, beq_iff_eq] at e3 e4 ⊢
        rw [Nat.or_assoc, e3, e4]
    have hsc : ∀ (c : Cd) (x : El c), orgLe (orgL Bx (scells org c x)) org = true := by
      intro c
      induction c with
      | pair p q ihp ihq => intro x; exact happ _ _ _ (ihp _) (ihq _)
      | list c _ => intro x; simp [scells, orgL, orgS, orgLe]
      | _ => intro x; simp [scells, orgL, orgS, orgLe]
    rw [hcs]
    refine happ _ _ _ (happ _ _ _ ?_ (orgLe_or_right _ _)) ?_
    · exact orgLe_trans (orgL_take Bx off _) (orgLe_trans (hsc _ _) (orgLe_or_left _ _))
    · exact orgLe_trans (orgL_drop Bx _ _) (orgLe_trans (hsc _ _) (orgLe_or_left _ _))
  have hDR := decC_dr hM hB (I := []) (org := org ||| orgL Bx x'.cells) hnew hd hnl horg
  obtain ⟨hM', hL⟩ := hM.set (blk := .vec (org ||| orgL Bx x'.cells) c (xs.set i z)) (hB.live _ _ hb) hg hnil
    (w' := w.setRow l.b (arr.toList.take (l.o + i * l.sz + off) ++ sv.cells.toList ++ arr.toList.drop (l.o + i * l.sz + off + sz)).toArray)
    (by simp) (fun k hk => setRow_other w _ _ _ hk) (setRow_heap w _ _ _ _ _ harr) rfl rfl rfl (fun hL => by
      refine .inr ⟨hnil, A.mono _ _ _ (orgLe_or_left _ _) hS, by simp [hn], hcap, hsz, _, t', setRow_heap w _ _ _ _ _ harr, ?_, fun j q hq => ?_⟩
      · have hl' : off + sz ≤ csize c := by rw [hc] at hl; exact hl
        have e1 : (arr.toList.take (l.o + i * l.sz + off) ++ sv.cells.toList ++ arr.toList.drop (l.o + i * l.sz + off + sz)).toArray.size = arr.size := by
          simp only [List.size_toArray, List.length_append, List.length_take, List.length_drop, Array.length_toList, hlen]
          omega
        rw [e1]; exact hfit
      · have hl' : off + sz ≤ csize c := by rw [hc] at hl; exact hl
        have hget : ∀ m, (arr.toList.take (l.o + i * l.sz + off) ++ sv.cells.toList ++ arr.toList.drop (l.o + i * l.sz + off + sz)).toArray[m]? =
            if m < l.o + i * l.sz + off then arr[m]? else if m < l.o + i * l.sz + off + sz then sv.cells.toList[m - (l.o + i * l.sz + off)]? else arr[m]? := by
          intro m
          have htl : (arr.toList.take (l.o + i * l.sz + off)).length = l.o + i * l.sz + off := by
            simp only [List.length_take, Array.length_toList]; omega
          rw [List.getElem?_toArray, List.append_assoc]
          by_cases h1 : m < l.o + i * l.sz + off
          · rw [if_pos h1, List.getElem?_append_left (by omega), List.getElem?_take, if_pos h1]; simp
          · rw [if_neg h1, List.getElem?_append_right (by omega), htl]
            by_cases h2 : m < l.o + i * l.sz + off + sz
            · rw [if_pos h2, List.getElem?_append_left (by omega)]
            · rw [if_neg h2, List.getElem?_append_right (by omega), hlen, List.getElem?_drop]
              rw [show l.o + i * l.sz + off + sz + (m - (l.o + i * l.sz + off) - sz) = m by omega]
              simp
        by_cases hji : j = i
        · subst hji
          have : q = z := by
            rw [List.getElem?_set] at hq
            simp only [if_true] at hq
            split at hq
            · cases hq; rfl
            · cases hq
          subst this
          have hdl := hDR.length
          refine ⟨_, hDR.mono hL.size fun b hb hok => ?_, fun m v hm => ?_⟩
          · have hok' := okI_nil (w := w) hok
            obtain ⟨e1, e2⟩ := hL.ow b hb hok'.2
            exact ⟨⟨hok'.1, e1⟩, e2⟩
          · have hm' : m < csize c := by rw [← hdl]; exact (List.getElem?_eq_some_iff.1 hm).1
            have hvl : vs.length = csize c := by rw [← hvs.length, scells_length]
            rw [hget]
            have htk : (vs.take off).length = off := by simp; omega
            rw [List.append_assoc] at hm
            by_cases h1 : m < off
            · rw [if_pos (by omega)]
              rw [List.getElem?_append_left (by omega), List.getElem?_take, if_pos h1] at hm
              have := hcell m v hm
              rwa [cell_of (w := w) harr] at this
            · rw [List.getElem?_append_right (by omega), htk] at hm
              by_cases h2 : m < off + sz
              · rw [if_neg (by omega), if_pos (by omega)]
                rw [List.getElem?_append_left (by omega)] at hm
                rw [show l.o + j * l.sz + m - (l.o + j * l.sz + off) = m - off by omega]
                exact hm
              · rw [if_neg (by omega), if_neg (by omega)]
                rw [List.getElem?_append_right (by omega), hlen, List.getElem?_drop, show off + sz + (m - off - sz) = m by omega] at hm
                have := hcell m v hm
                rwa [cell_of (w := w) harr] at this
        · rw [List.getElem?_set_ne (by omega)] at hq
          obtain ⟨us, hu, hv'⟩ := hel j q hq
          have hul := hu.length
          have hu' : DR w ((cxOf A g B w).ok (org ||| orgL Bx x'.cells)) c q us := hu.mono (Nat.le_refl _) fun b hb hok => ⟨⟨A.mono _ _ _ (orgLe_or_left _ _) hok.1, hok.2⟩, rfl⟩
          refine ⟨us, hL.dr hu', fun m v hm => ?_⟩
          have hm' : m < csize c := by rw [← hul]; exact (List.getElem?_eq_some_iff.1 hm).1
          have := hv' m v hm
          rw [hget]
          -- another element lies wholly ahead or behind
          rcases Nat.lt_or_ge j i with hlt' | hge
          · have : (j + 1) * l.sz ≤ i * l.sz := Nat.mul_le_mul_right _ hlt'
            rw [Nat.add_mul] at this
            rw [if_pos (by omega)]
            assumption
          · have : (i + 1) * l.sz ≤ j * l.sz := Nat.mul_le_mul_right _ (by omega)
            rw [Nat.add_mul] at this
            rw [if_neg (by omega), if_neg (by omega)]
            assumption)
  exact ⟨_, hrun, hM', hL⟩

/-! ### Slices that are not written any more -/

theorem applyB_append (B : Nat → BS) : ∀ (d d' : List (Nat × BS)), applyB B (d ++ d') = applyB (applyB B d) d'
  | [], _ => rfl
  | (id, b) :: r, d' => applyB_append (upd B id b) r d'

theorem applyB_notin {id : Nat} : ∀ (d : List (Nat × BS)) (B : Nat → BS), id ∉ d.map (·.1) → applyB B d id = B id
  | [], _, _ => rfl
  | (k, b) :: r, B, h => by
    simp only [List.map_cons, List.mem_cons, not_or] at h
    simp only [applyB]
    rw [applyB_notin r _ h.2, upd_ne _ _ h.1]

theorem applyB_all {id : Nat} {b : BS} : ∀ (d : List (Nat × BS)) (B : Nat → BS), (∀ p ∈ d, p.1 = id → p.2 = b) → id ∈ d.map (·.1) ∨ B id = b → applyB B d id = b
  | [], _, _, h => by rcases h with h | h; · simp at h
                      · exact h
  | (k, b') :: r, B, h, hm => by
    simp only [applyB]
    refine applyB_all r _ (fun p hp => h p (List.mem_cons_of_mem _ hp)) ?_
    by_cases e : id = k
    · subst e
      have := h (id, b') (List.mem_cons_self ..) rfl
      simp only at this
      subst this
      exact .inr (upd_same _ _ _)
    · rw [upd_ne _ _ e]
      rcases hm with hm | hm
      · simp only [List.map_cons, List.mem_cons] at hm
        exact .inl (hm.resolve_left e)
      · exact .inr hm

theorem Sub.upd {Bx B : Nat → BS} (h : Sub Bx B) (id : Nat) (b : BS) : Sub (upd Bx id b) (upd B id b) := by
  have key : ∀ (i : Nat) (P : BS → BS → Prop), P b b → P (Bx i) (B i) → P (Ai.upd Bx id b i) (Ai.upd B id b i) := by
    intro i P h1 h2
    by_cases e : i = id
    · subst e; rw [upd_same, upd_same]; exact h1
    · rw [upd_ne _ _ e, upd_ne _ _ e]; exact h2
  exact ⟨fun i b' => key i (fun x y => x = .live b' → y = .live b') (fun h => h) (h.live i b'),
    fun i => key i (fun x y => x = .fresh → y = .fresh) (fun h => h) (h.fresh i),
    fun i o c xs => key i (fun x y => x = .ro o c xs → y = .ro o c xs) (fun h => h) (h.ro i o c xs)⟩

theorem Sub.apply {Bx B : Nat → BS} : ∀ (d : List (Nat × BS)), Sub Bx B → Sub (applyB Bx d) (applyB B d)
  | [], h => h
  | (id, b) :: r, h => Sub.apply r (h.upd id b)

theorem upd_self {B : Nat → BS} {id : Nat} {b : BS} (h : B id = b) : upd B id b = B := by
  funext i
  by_cases e : i = id
  · subst e; rw [upd_same, h]
  · rw [upd_ne _ _ e]

theorem frzL_mem (hB : Sub Bx B) (hM : Mem A g B w) : ∀ (ids : List Nat) (B1 : Nat → BS), Mem A g B1 w → Later (cxOf A g B w) (cxOf A g B1 w) →
    (∀ id org c xs, Bx id = .live (.vec org c xs) → B1 id = .live (.vec org c xs) ∨ B1 id = .ro org c xs) →
    Mem A g (applyB B1 (frzL Bx ids)) w ∧ Later (cxOf A g B w) (cxOf A g (applyB B1 (frzL Bx ids)) w)
  | [], B1, h1, h2, _ => ⟨h1, h2⟩
  | id :: r, B1, h1, h2, h3 => by
    unfold frzL
    split
    · rename_i org c xs hb
      simp only [applyB]
      rcases h3 _ _ _ _ hb with h4 | h4
      · obtain ⟨m1, m2⟩ := h1.freeze h4
        refine frzL_mem hB hM r _ m1 (h2.trans m2) fun i o' c' xs' hi => ?_
        by_cases e : i = id
        · subst e
          rw [hb] at hi; cases hi
          exact .inr (upd_same _ _ _)
        · rw [upd_ne _ _ e]; exact h3 _ _ _ _ hi
      · rw [upd_self h4]
        exact frzL_mem hB hM r _ h1 h2 h3
    · exact frzL_mem hB hM r _ h1 h2 h3

/-- Slices are given over to be read only. -/
theorem frz_step (hM : Mem A g B w) (hB : Sub Bx B) (ids : List Nat) : Mem A g (applyB B (frzL Bx ids)) w ∧ Later (cxOf A g B w) (cxOf A g (applyB B (frzL Bx ids)) w) ∧ Sub (applyB Bx (frzL Bx ids)) (applyB B (frzL Bx ids)) := by
  obtain ⟨h1, h2⟩ := frzL_mem hB hM ids B hM (Later.refl _) fun id o c xs h => .inl (hB.live _ _ h)
  exact ⟨h1, h2, hB.apply _⟩

theorem frzL_of {B : Nat → BS} : ∀ (ids : List Nat) (p : Nat × BS), p ∈ frzL B ids → ∃ org c xs, B p.1 = .live (.vec org c xs) ∧ p.2 = .ro org c xs ∧ p.1 ∈ ids
  | [], p, h => by simp [frzL] at h
  | id :: r, p, h => by
    unfold frzL at h
    split at h
    · rename_i org c xs hb
      rcases List.mem_cons.1 h with rfl | h
      · exact ⟨org, c, xs, hb, rfl, by simp⟩
      · obtain ⟨o, c, xs, h1, h2, h3⟩ := frzL_of r p h
        exact ⟨o, c, xs, h1, h2, List.mem_cons_of_mem _ h3⟩
    · obtain ⟨o, c, xs, h1, h2, h3⟩ := frzL_of r p h
      exact ⟨o, c, xs, h1, h2, List.mem_cons_of_mem _ h3⟩

theorem frzL_has {B : Nat → BS} {id org : Nat} {c : Cd} {xs : List (El c)} (hb : B id = .live (.vec org c xs)) : ∀ (ids : List Nat), id ∈ ids → id ∈ (frzL B ids).map (·.1)
  | [], h => by simp at h
  | k :: r, h => by
    unfold frzL
    rcases List.mem_cons.1 h with rfl | h
    · rw [hb]; simp
    · have := frzL_has hb r h
      split
      · simp only [List.map_cons, List.mem_cons]; exact .inr this
      · exact this

theorem frz_get {B : Nat → BS} {id org : Nat} {c : Cd} {xs : List (El c)} (hb : B id = .live (.vec org c xs)) {ids : List Nat} (hi : id ∈ ids) (B1 : Nat → BS) : applyB B1 (frzL B ids) id = .ro org c xs := by
  refine applyB_all _ _ (fun p hp e => ?_) (.inl (frzL_has hb ids hi))
  obtain ⟨o, c', xs', h1, h2, _⟩ := frzL_of ids p hp
  rw [e, hb] at h1
  cases h1
  exact h2

theorem frz_else {B : Nat → BS} {id : Nat} (hb : ∀ org c xs, B id ≠ .live (.vec org c xs)) (ids : List Nat) (B1 : Nat → BS) : applyB B1 (frzL B ids) id = B1 id := by
  refine applyB_notin _ _ fun h => ?_
  obtain ⟨p, hp, e⟩ := List.mem_map.1 h
  obtain ⟨o, c', xs', h1, _⟩ := frzL_of ids p hp
  rw [e] at h1
  exact hb _ _ _ h1

/-- What has been given over, and can be read, is not owned. -/
theorem frz_notlive (hB : Sub Bx B) {ids : List Nat} {id : Nat} (hi : id ∈ ids) {v : Vc} (hv : vecOf (applyB Bx (frzL Bx ids)) id = some v) : isLive (applyB B (frzL Bx ids)) id = false := by
  by_cases h : ∃ org c xs, Bx id = .live (.vec org c xs)
  · obtain ⟨org, c, xs, h⟩ := h
    simp [isLive, frz_get h hi]
  · have h : ∀ org c xs, Bx id ≠ .live (.vec org c xs) := fun o c xs e => h ⟨o, c, xs, e⟩
    unfold vecOf at hv
    rw [frz_else h] at hv
    split at hv
    · rename_i e; exact (h _ _ _ e).elim
    · rename_i e
      unfold isLive
      rw [frz_else h, hB.ro _ _ _ _ e]
    · cases hv

theorem idsL_append_mem {id : Nat} : ∀ (l1 l2 : List Sc), id ∈ idsL (l1 ++ l2) → id ∈ idsL l1 ∨ id ∈ idsL l2 := by
  intro l1 l2 e
  induction l1 with
  | nil => exact .inr e
  | cons s l1 ih =>
    cases s <;> simp only [List.cons_append, idsL, List.mem_cons] at e ⊢ <;> first
      | exact ih e
      | exact (e.elim (fun h => .inl (.inl h)) fun h => (ih h).elim (fun h => .inl (.inr h)) .inr)

/-- What a datum's cells name can be read. -/
theorem dec_ids {Bx : Nat → BS} : ∀ (c : Cd) (ss : List Sc) (y : El c), decC Bx c ss = some y → ∀ id ∈ idsL ss, ∃ v, vecOf Bx id = some v := by
  intro c
  induction c with
  | i k => intro ss y h; simp only [decC] at h; split at h <;> first | (intro id hi; simp [idsL] at hi; done) | cases h
  | bool => intro ss y h; simp only [decC] at h; split at h <;> first | (intro id hi; simp [idsL] at hi; done) | cases h
  | str => intro ss y h; simp only [decC] at h; split at h <;> first | (intro id hi; simp [idsL] at hi; done) | cases h
  | unit => intro ss y h; simp only [decC] at h; split at h <;> first | (intro id hi; simp [idsL] at hi; done) | cases h
  | list c ih =>
    intro ss y h
    simp only [decC] at h
    split at h
    · rename_i s
      intro id hi
      cases s <;> simp only [idsL, List.not_mem_nil, List.mem_singleton] at hi
      all_goals
        subst hi
        simp only [listOf] at h
        split at h
        · rename_i v hv; exact ⟨v, hv⟩
        · cases h
    · cases h
  | pair p q ihp ihq =>
    intro ss y h
    simp only [decC] at h
    split at h
    · rename_i u v hu hv
      intro id hi
      rw [← List.take_append_drop (csize p) ss] at hi
      rcases idsL_append_mem _ _ hi with h1 | h1
      · exact ihp _ _ hu id h1
      · exact ihq _ _ hv id h1
    · cases h

theorem scells_ids (org : Nat) : ∀ (c : Cd) (x : El c), idsL (scells org c x) = []
  | .i _, _ => rfl
  | .bool, _ => rfl
  | .str, _ => rfl
  | .unit, _ => rfl
  | .list _, _ => rfl
  | .pair a b, x => by
    cases e : idsL (scells org (.pair a b) x) with
    | nil => rfl
    | cons q r =>
      have : q ∈ idsL (scells org a x.1 ++ scells org b x.2) := by
        show q ∈ idsL (scells org (.pair a b) x)
        rw [e]; simp
      rcases idsL_append_mem _ _ this with h | h
      · rw [scells_ids org a] at h; simp at h
      · rw [scells_ids org b] at h; simp at h

theorem storeK_post (hM : Mem A g B w) (hB : Sub Bx B) (hT : ∀ n, TR (cxOf A g B w) (tm n) (a.tmps.getD n undef))
    {t : TypeId} {x y : Operand} (ho : o.op = .store t x y) (h : storeK E Bx t (evalO tm x) (evalO tm y) (fun d => pk (one .skip) d) = some (r, d)) : Post E.P A g B a w o r d := by
  have hx := evalO_tr hT x
  have hy := evalO_tr hT y
  generalize evalO tm x = X at hx h
  generalize evalO tm y = Y at hy h
  have hr : ∀ b off w', a.eval x = .pointer (some ⟨b, off, none⟩) → (storeVar t ⟨b, off, none⟩ (a.eval y)).run E.P w = .ok () w' → (execOp a.eval o).run E.P w = .ok .skip w' := by
    intro b off w' h1 h2
    simp [execOp, ho, h1, Instr.storeAt, Instr.sureAddr, h2]
  unfold storeK at h
  split at h
  · rename_i sz id off x' hz
    split at h
    · rename_i hc
      split at h
      · rename_i cs hb
        split at h
        · rename_i cs' hs
          cases h
          obtain ⟨l, hg, hv⟩ := (show SR (cxOf A g B w) (.ptr id off) _ from hx)
          obtain ⟨l', hg', hbr, hX⟩ := hM.br id _ (hB.live _ _ hb)
          rw [show g id = some l from hg] at hg'; cases hg'
          obtain ⟨h0, arr, t', harr, hcs⟩ := hbr
          obtain ⟨hcells, hone⟩ := vr_cells hy hc.2
          obtain ⟨hl, ecs⟩ := splice_inv hs
          rw [hc.1] at ecs
          have hnew : All2 (SR (cxOf A g B w)) cs' (arr.toList.take off ++ (a.eval y).cells.toList ++ arr.toList.drop (off + sz)) := by
            rw [ecs]; exact ((hcs.take off).append hcells).append (hcs.drop (off + sz))
          have hlen : (a.eval y).cells.toList.length = sz := by rw [← hcells.length]; exact hc.1
          have hsz : arr.size = cs.length := by have := hcs.length; simp at this; omega
          have hrun := store_run (E := E) hz (b := l.b) (off := off) harr hlen (by rw [hc.1] at hl; omega) hone
          obtain ⟨hM', hL⟩ := hM.set (blk := .box cs') (hB.live _ _ hb) hg h0.2 (w' := w.setRow l.b (arr.toList.take off ++ (a.eval y).cells.toList ++ arr.toList.drop (off + sz)).toArray)
            (by simp) (fun k hk => setRow_other w _ _ _ hk) (setRow_heap w _ _ _ _ _ harr) rfl rfl rfl (fun hL => ⟨h0, _, t', setRow_heap w _ _ _ _ _ harr, by
              simp only [List.toList_toArray]
              exact hnew.mono fun _ _ => hL.sr⟩)
          exact ⟨_, _, hM', hL, .inr ⟨hr _ _ _ hv hrun, rfl⟩⟩
        · cases h
      · cases h
    · cases h
  · rename_i sz id i off x' hz
    split at h
    · rename_i hc
      obtain ⟨hM1, hL1, hB1⟩ := frz_step hM hB (idsL x'.cells)
      split at h
      · rename_i org c xs hb
        split at h
        · rename_i cs hs
          split at h
          · rename_i z hd
            cases h
            obtain ⟨l, hg, hi, hv⟩ := (show SR (cxOf A g B w) (.pel id i off) _ from hx)
            obtain ⟨w', hrun, hM', hL'⟩ := store_elem (E := E) hM1 hB1 hz hb hg hi (hL1.vr hy) hc hs hd (fun q hq hl => by
              obtain ⟨v, hv⟩ := dec_ids _ _ _ hd q hq
              have hq' : q ∈ idsL x'.cells := by
                obtain ⟨_, e⟩ := splice_inv hs
                rw [e] at hq
                rcases idsL_append_mem _ _ hq with hq | hq
                · rcases idsL_append_mem _ _ hq with hq | hq
                  · have := idsL_mem_take _ _ _ hq; rw [scells_ids] at this; simp at this
                  · exact hq
                · have := idsL_mem_drop _ _ _ hq; rw [scells_ids] at this; simp at this
              rw [frz_notlive hB hq' hv] at hl
              cases hl)
            refine ⟨g, w', ?_, ?_, .inr ⟨hr _ _ _ hv hrun, rfl⟩⟩
            · rw [applyB_append]; exact hM'
            · rw [applyB_append]; exact hL1.trans hL'
          · cases h
        · cases h
      · cases h
    · cases h
  · cases h

end
end Ai
end Go.Proofs.Ytpknhlnoaehffaa
