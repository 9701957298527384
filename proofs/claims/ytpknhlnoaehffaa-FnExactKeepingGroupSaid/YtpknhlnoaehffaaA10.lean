/-
  The ideal interpreter against the machine: reading and addressing.
-/
import Derived.Test.YtpknhlnoaehffaaA9
namespace Go.Proofs.Ytpknhlnoaehffaa
namespace Ai
set_option linter.unusedSimpArgs false
set_option linter.unusedVariables false

section
variable {P : Program}

theorem run_isAgg {t : TypeId} {b : Bool} (h : isAggT P t = some b) (w : World) : (isAgg t).run P w = .ok b w := by
  unfold isAggT at h
  unfold isAgg
  split at h
  · rename_i d hu; cases h; simp [run_underlying hu]
  · rename_i d hu; cases h; simp [run_underlying hu]
  · rename_i d n1 n2 hu
    cases h
    rw [Sem.run_bind, run_underlying hu w]
    cases d <;> first | rfl | (exact (n1 _ rfl).elim) | (exact (n2 _ _ rfl).elim)
  · cases h

theorem run_sizeOf {t : TypeId} {n : Nat} (h : szT P t = some n) (w : World) : (sizeOf t).run P w = .ok n w := by
  unfold szT at h
  rw [Option.map_eq_some_iff] at h
  obtain ⟨i, hi, rfl⟩ := h
  simp [sizeOf, typeInfo, hi]

theorem addr_add (b o n : Nat) : (⟨b, o, none⟩ : Addr).add n = ⟨b, o + n, none⟩ := by unfold Addr.add; split <;> simp_all

/-- A variable is read out of cells. -/
theorem load_run {t : TypeId} {agg : Bool} {sz : Nat} (ha : isAggT P t = some agg) (hz : szT P t = some sz) {w : World} {b o off : Nat} {vs : List Value}
    (hv : ∀ (j : Nat) v, vs[j]? = some v → w.cell? ⟨b, o + j, none⟩ = some v) :
    (agg = true → off + sz ≤ vs.length → (loadVar t ⟨b, o + off, none⟩).run P w = .ok (.agg ((vs.drop off).take sz).toArray) w) ∧
    (agg = false → ∀ v, vs[off]? = some v → (loadVar t ⟨b, o + off, none⟩).run P w = .ok v w) := by
  constructor
  · rintro rfl hl
    have hlen : ((vs.drop off).take sz).length = sz := by simp; omega
    have := run_loadCells_list (P := P) w ⟨b, o + off, none⟩ ((vs.drop off).take sz) (fun j v hj => by
      rw [addr_add, Nat.add_assoc]
      apply hv
      rw [List.getElem?_take] at hj
      split at hj
      · rw [List.getElem?_drop] at hj; exact hj
      · cases hj)
    rw [hlen] at this
    unfold loadVar
    simp only [Sem.run_bind, run_isAgg ha, Result.andThen_ok, if_true, run_sizeOf hz, this, Sem.run_pure]
  · rintro rfl v hj
    unfold loadVar
    simp only [Sem.run_bind, run_isAgg ha, Result.andThen_ok, Bool.false_eq_true, if_false, run_load, hv off v hj]

end

section
variable {E : Env} {A : Base} {g : Nat → Option Loc} {B Bx : Nat → BS} {tm : Nat → T} {a : Act} {w : World} {o : Oper} {r : T} {d : List (Nat × BS)}

theorem loadCs_inv {cs : List Sc} {agg : Bool} {off sz : Nat} (h : loadCs cs agg off sz pk = some (r, d)) :
    d = [] ∧ ((agg = true ∧ off + sz ≤ cs.length ∧ r = .v (.agg ((cs.drop off).take sz))) ∨ (agg = false ∧ ∃ s, cs[off]? = some s ∧ r = one s)) := by
  unfold loadCs at h
  cases agg
  · simp only [] at h
    split at h
    · rename_i s hs; cases h; exact ⟨rfl, .inr ⟨rfl, s, hs, rfl⟩⟩
    · cases h
  · simp only [] at h
    split at h
    · rename_i hl; cases h; exact ⟨rfl, .inl ⟨rfl, hl, rfl⟩⟩
    · cases h

/-- The common end of the three loads. -/
theorem load_post (hM : Mem A g B w) {t : TypeId} {x : Operand} (ho : o.op = .load t x) {agg : Bool} {sz : Nat} (ha : isAggT E.P t = some agg) (hz : szT E.P t = some sz)
    {b k off : Nat} (hx : a.eval x = .pointer (some ⟨b, k + off, none⟩)) {cs : List Sc} {vs : List Value} (hcv : All2 (SR (cxOf A g B w)) cs vs)
    (hv : ∀ (j : Nat) v, vs[j]? = some v → w.cell? ⟨b, k + j, none⟩ = some v) (h : loadCs cs agg off sz pk = some (r, d)) : Post E.P A g B a w o r d := by
  obtain ⟨rfl, hh⟩ := loadCs_inv h
  clear h
  obtain ⟨l1, l2⟩ := load_run ha hz (w := w) (off := off) hv
  have hr : (execOp a.eval o).run E.P w = ((loadVar t ⟨b, k + off, none⟩).run E.P w).andThen fun v w => .ok (.value v) w := by
    simp [execOp, ho, hx, Instr.loadAt, Instr.sureAddr]
  rcases hh with ⟨rfl, hl, rfl⟩ | ⟨rfl, s, hs, rfl⟩
  · rw [l1 rfl (by rw [← hcv.length]; exact hl)] at hr
    exact .pure hM hr ⟨_, rfl, by simpa using (hcv.drop off).take sz⟩
  · obtain ⟨v, hj, hsv⟩ := hcv.get hs
    rw [l2 rfl v hj] at hr
    exact .pure hM hr hsv

theorem cell_of {w : World} {b : Nat} {arr : Array Value} {t : TypeId} (h : w.heap[b]? = some (.cells arr t (0, 0))) (j : Nat) : w.cell? ⟨b, j, none⟩ = arr[j]? := by
  simp [World.cell?, h]

theorem getD_get {α : Type} {xs : List α} {i : Nat} {d : α} (h : i < xs.length) : xs[i]? = some (xs.getD i d) := by
  simp [List.getD, h]

/-- A named slice's element, as cells. -/
theorem vec_elem (hM : Mem A g B w) (hB : Sub Bx B) {id : Nat} {v : Vc} (hv : vecOf Bx id = some v) {l : Loc} (hg : g id = some l) {i : Nat} (hi : i < l.n) :
    ∃ cs, All2 (SR (cxOf A g B w)) (scells v.org v.c (v.xs.getD i (dflt v.c))) cs ∧ (∀ (j : Nat) u, cs[j]? = some u → w.cell? ⟨l.b, l.o + i * l.sz + j, none⟩ = some u) ∧ DR w ((cxOf A g B w).ok v.org) v.c (v.xs.getD i (dflt v.c)) cs ∧ l.n = v.xs.length ∧ l.sz = csize v.c ∧ l.nil = false := by
  unfold vecOf at hv
  split at hv
  · rename_i org c xs hb
    cases hv
    obtain ⟨l', hg', hbr, hX⟩ := hM.br id _ (hB.live _ _ hb)
    rw [hg] at hg'; cases hg'
    rcases hbr with ⟨h1, h2, h3, _⟩ | ⟨hl, hS, hn, hc, hz, arr, t, ha, hs, he⟩
    · omega
    obtain ⟨cs, hd, hv⟩ := he i _ (getD_get (d := dflt c) (by omega))
    exact ⟨cs, scells_sr hd, fun j v hj => by rw [cell_of (w := w) ha]; exact hv j v hj, hd, hn, hz, hl⟩
  · rename_i org c xs hb
    cases hv
    obtain ⟨l', hg', hd, h1, h2, h3⟩ := hM.ro id _ _ _ (hB.ro _ _ _ _ hb)
    rw [hg] at hg'; cases hg'
    unfold Loc.sl at hd
    cases hn : l.nil
    · rw [hn] at hd
      rcases hd with ⟨e, _⟩ | ⟨b, k, cap, e, hc, hokb, hcap, hel⟩
      · simp at e
      · simp only [cond_false, List.cons.injEq, Value.slice.injEq, Option.some.injEq, Addr.mk.injEq, and_true, true_and] at e
        obtain ⟨⟨rfl, rfl⟩, _⟩ := e
        obtain ⟨cs, hd, hv⟩ := hel i _ (getD_get (d := dflt c) (by omega))
        exact ⟨cs, scells_sr hd, fun j v hj => by rw [h1]; exact hv j v hj, hd, h2, h1, rfl⟩
    · rw [hn] at hd
      rcases hd with ⟨_, e⟩ | ⟨b, k, cap, e, _⟩
      · subst e; simp at h2; omega
      · simp only [cond_true, List.cons.injEq, Value.slice.injEq, and_true] at e; omega
  · cases hv

theorem loadK_post (hM : Mem A g B w) (hB : Sub Bx B) (hT : ∀ n, TR (cxOf A g B w) (tm n) (a.tmps.getD n undef))
    {t : TypeId} {x : Operand} (ho : o.op = .load t x) (h : loadK E Bx t (evalO tm x) pk = some (r, d)) : Post E.P A g B a w o r d := by
  have hx := evalO_tr hT x
  generalize evalO tm x = X at hx h
  unfold loadK at h
  split at h
  · rename_i agg sz id off ha hz
    split at h
    · rename_i cs hb
      obtain ⟨l, hg, hv⟩ := (show SR (cxOf A g B w) (.ptr id off) _ from hx)
      obtain ⟨l', hg', hbr, hX⟩ := hM.br id _ (hB.live _ _ hb)
      rw [show g id = some l from hg] at hg'; cases hg'
      obtain ⟨h0, arr, t', harr, hc⟩ := hbr
      refine load_post hM ho ha hz (b := l.b) (k := 0) (off := off) (by rw [hv]; simp) hc (fun j v hj => ?_) h
      rw [cell_of (w := w) harr]; simpa using hj
    · cases h
  · rename_i agg sz id i off ha hz
    split at h
    · rename_i q hb
      obtain ⟨l, hg, hi, hv⟩ := (show SR (cxOf A g B w) (.pel id i off) _ from hx)
      obtain ⟨cs, hcs, hcell, _⟩ := vec_elem hM hB hb hg hi
      exact load_post hM ho ha hz (b := l.b) (k := l.o + i * l.sz) (off := off) hv hcs hcell h
    · cases h
  · rename_i agg sz org c y off ha hz
    obtain ⟨b, k, cs, hv, hok, hb, hd, hcell⟩ := (show PR (cxOf A g B w) org c y off _ from hx)
    exact load_post hM ho ha hz (b := b) (k := k) (off := off) hv (scells_sr hd) hcell h
  · cases h

theorem fieldAddrK_post (hM : Mem A g B w) (hT : ∀ n, TR (cxOf A g B w) (tm n) (a.tmps.getD n undef))
    {s : TypeId} {x : Operand} {f : Nat} (ho : o.op = .fieldAddr s x f) (h : fieldAddrK E s (evalO tm x) f pk = some (r, d)) : Post E.P A g B a w o r d := by
  have hx := evalO_tr hT x
  generalize evalO tm x = X at hx h
  unfold fieldAddrK at h
  split at h
  · rename_i fd hfd
    have run : ∀ (b k n : Nat), szT E.P fd.type = some (n + 1) → a.eval x = .pointer (some ⟨b, k, none⟩) → (execOp a.eval o).run E.P w = .ok (.value (.pointer (some ⟨b, k + fd.offset, none⟩))) w := by
      intro b k n hz hv
      unfold fieldOf at hfd
      split at hfd
      · rename_i fs hu
        simp [execOp, ho, hv, Instr.fieldAt, run_underlying hu, hfd, Instr.sureAddr, fieldPlace, run_sizeOf hz, addr_add]
      · cases hfd
    split at h
    · rename_i n id off hz
      obtain ⟨rfl, rfl⟩ := pk_one h
      obtain ⟨l, hg, hv⟩ := (show SR (cxOf A g B w) (.ptr id off) _ from hx)
      exact .pure hM (run _ _ _ hz hv) ⟨l, hg, rfl⟩
    · rename_i n id i off hz
      obtain ⟨rfl, rfl⟩ := pk_one h
      obtain ⟨l, hg, hi, hv⟩ := (show SR (cxOf A g B w) (.pel id i off) _ from hx)
      exact .pure hM (run _ _ _ hz hv) ⟨l, hg, hi, by rw [Nat.add_assoc]⟩
    · rename_i n org c y off hz
      obtain ⟨rfl, rfl⟩ := pk_one h
      obtain ⟨b, k, cs, hv, hok, hb, hd, hcell⟩ := (show PR (cxOf A g B w) org c y off _ from hx)
      exact .pure hM (run _ _ _ hz hv) ⟨b, k, cs, by rw [Nat.add_assoc], hok, hb, hd, hcell⟩
    · cases h
  · cases h

theorem splitIdx_inv {R : Type} {i : Int} {K : Nat → Option R} {y : R} : ∀ n j, splitIdx i n j K = some y → ∃ m, j ≤ m ∧ m < j + n ∧ i = (m : Int) ∧ K m = some y
  | 0, _, h => by cases h
  | n + 1, j, h => by
    simp only [splitIdx] at h
    cases hc : decide (i = (j : Int)) <;> rw [hc] at h
    · obtain ⟨m, h1, h2, h3, h4⟩ := splitIdx_inv n (j + 1) h
      exact ⟨m, by omega, by omega, h3, h4⟩
    · exact ⟨j, Nat.le_refl _, by omega, by simpa using hc, h⟩

theorem rd_some {α : Type} {xs : List α} {i : Int} {x : α} (h : rd xs i = some x) : 0 ≤ i ∧ i.toNat < xs.length ∧ xs[i.toNat]? = some x := by
  unfold rd at h
  obtain ⟨h1, h2⟩ := cond_some h
  exact ⟨by simpa using h1, (List.getElem?_eq_some_iff.1 h2).1, h2⟩

theorem indexAddrK_post (hM : Mem A g B w) (hB : Sub Bx B) (hT : ∀ n, TR (cxOf A g B w) (tm n) (a.tmps.getD n undef))
    {t : TypeId} {x ix : Operand} (ho : o.op = .indexAddr t x ix) (h : indexAddrK E Bx t (evalO tm x) (evalO tm ix) pk = some (r, d)) : Post E.P A g B a w o r d := by
  have hx := evalO_tr hT x
  have hi := evalO_tr hT ix
  generalize evalO tm x = X at hx h
  generalize evalO tm ix = I at hi h
  have run : ∀ (e : TypeId) (sz b k n cap : Nat) (kd : IntKind) (i : Int), E.P.underlying t = some (.slice e) → szT E.P e = some sz → a.eval x = .slice (some ⟨b, k, none⟩) n cap → a.eval ix = .int kd i → 0 ≤ i → i < n →
      (execOp a.eval o).run E.P w = .ok (.value (.pointer (some ⟨b, k + i.toNat * sz, none⟩))) w := by
    intro e sz b k n cap kd i hu hz hv hiv h0 h1
    simp [execOp, ho, hv, hiv, Instr.indexAt, run_underlying hu, asIntOf, h0, h1, run_sizeOf hz, addr_add]
  unfold indexAddrK at h
  split at h
  · rename_i e org c xs kd i hu
    split at h
    · rename_i hz
      obtain ⟨y, hy, h⟩ := Option.bind_eq_some_iff.1 h
      obtain ⟨rfl, rfl⟩ := pk_one h
      obtain ⟨h0, h1, h2⟩ := rd_some hy
      rcases (show DR _ _ (.list c) xs [a.eval x] from hx) with ⟨_, e⟩ | ⟨b, k, cap, e1, hc, hokb, hcap, hel⟩
      · subst e; simp at h2
      · simp only [List.cons.injEq, and_true] at e1
        obtain ⟨cs, hd, hcell⟩ := hel _ _ h2
        obtain ⟨hok, hb⟩ := hokb (by omega)
        exact .pure hM (run _ _ _ _ _ _ _ _ hu hz e1 (tr_int hi) h0 (by omega)) ⟨b, k + i.toNat * csize c, cs, rfl, hok.2, hb, hd, hcell⟩
    · cases h
  · rename_i e id kd i hu
    split at h
    · rename_i org c xs hb
      split at h
      · rename_i hz
        obtain ⟨hc, h⟩ := cond_some h
        simp only [Bool.and_eq_true, decide_eq_true_eq] at hc
        obtain ⟨rfl, rfl⟩ := pk_one h
        obtain ⟨l, hg, hv⟩ := (show SR (cxOf A g B w) (.own id) _ from hx)
        obtain ⟨l', hg', hbr, hX⟩ := hM.br id _ (hB.live _ _ hb)
        rw [show g id = some l from hg] at hg'; cases hg'
        rcases hbr with ⟨_, h2, _⟩ | ⟨hnil, _, hn, _, hsz, _⟩
        · subst h2
          have := hc.2
          simp at this
          omega
        · exact .pure hM (run _ _ _ _ _ _ _ _ hu hz (by rw [hv, Loc.sl, hnil]; rfl) (tr_int hi) hc.1 (by omega)) ⟨l, hg, by omega, by rw [hsz]; rfl⟩
      · cases h
    · rename_i org c xs hb
      split at h
      · rename_i hz
        obtain ⟨y, hy, h⟩ := Option.bind_eq_some_iff.1 h
        obtain ⟨rfl, rfl⟩ := pk_one h
        obtain ⟨h0, h1, h2⟩ := rd_some hy
        obtain ⟨l, hg, hv⟩ := (show SR (cxOf A g B w) (.own id) _ from hx)
        obtain ⟨l', hg', hd, _⟩ := hM.ro id _ _ _ (hB.ro _ _ _ _ hb)
        rw [show g id = some l from hg] at hg'; cases hg'
        rw [← hv] at hd
        rcases hd with ⟨_, e⟩ | ⟨b, k, cap, e1, hc, hokb, hcap, hel⟩
        · subst e; simp at h2
        · simp only [List.cons.injEq, and_true] at e1
          obtain ⟨cs, hd, hcell⟩ := hel _ _ h2
          obtain ⟨hok, hb⟩ := hokb (by omega)
          exact .pure hM (run _ _ _ _ _ _ _ _ hu hz e1 (tr_int hi) h0 (by omega)) ⟨b, k + i.toNat * csize c, cs, rfl, hok.2, hb, hd, hcell⟩
      · cases h
    · cases h
  · rename_i n e id off kd i hu
    split at h
    · rename_i sz hz
      split at h
      · rename_i hn
        obtain ⟨m, _, h2, h3, h⟩ := splitIdx_inv _ _ h
        obtain ⟨rfl, rfl⟩ := pk_one h
        obtain ⟨l, hg, hv⟩ := (show SR (cxOf A g B w) (.ptr id off) _ from hx)
        subst h3
        refine .pure hM (v := .pointer (some ⟨l.b, off + m * sz, none⟩)) ?_ ⟨l, hg, rfl⟩
        have h4 : (0 : Int) ≤ (m : Int) := by omega
        have h5 : m < n := by omega
        simp [execOp, ho, hv, tr_int hi, Instr.indexAt, run_underlying hu, asIntOf, Instr.sureAddr, h4, h5, run_sizeOf hz, addr_add]
      · cases h
    · cases h
  · cases h

theorem part_run {P : Program} {t : TypeId} {agg : Bool} {sz : Nat} (ha : isAggT P t = some agg) (hz : szT P t = some sz) {arr : Array Value} {off : Nat} (w : World) :
    (agg = true → (part t arr off).run P w = .ok (.agg (arr.extract off (off + sz))) w) ∧ (agg = false → ∀ v, arr[off]? = some v → (part t arr off).run P w = .ok v w) := by
  constructor
  · rintro rfl
    unfold part
    simp only [Sem.run_bind, run_isAgg ha, Result.andThen_ok, if_true, run_sizeOf hz, Sem.run_pure]
  · rintro rfl v hv
    unfold part
    simp only [Sem.run_bind, run_isAgg ha, Result.andThen_ok, Bool.false_eq_true, if_false, hv, Sem.run_pure]

theorem loadCs_part {P : Program} {C : Cx} {t : TypeId} {agg : Bool} {sz : Nat} (ha : isAggT P t = some agg) (hz : szT P t = some sz) {cs : List Sc} {arr : Array Value} {off : Nat} (w : World)
    (hc : All2 (SR C) cs arr.toList) (h : loadCs cs agg off sz pk = some (r, d)) : d = [] ∧ ∃ v, (part t arr off).run P w = .ok v w ∧ TR C r v := by
  obtain ⟨rfl, hh⟩ := loadCs_inv h
  clear h
  obtain ⟨p1, p2⟩ := part_run ha hz (arr := arr) (off := off) w
  refine ⟨rfl, ?_⟩
  rcases hh with ⟨rfl, hl, rfl⟩ | ⟨rfl, s, hs, rfl⟩
  · refine ⟨_, p1 rfl, _, rfl, ?_⟩
    have : (arr.extract off (off + sz)).toList = (arr.toList.drop off).take sz := by
      simp [Array.toList_extract, List.extract_eq_take_drop]
    rw [this]
    exact (hc.drop off).take sz
  · obtain ⟨v, hv, hsv⟩ := hc.get hs
    exact ⟨v, p2 rfl v (by simpa using hv), hsv⟩

theorem indexK_post (hM : Mem A g B w) (hT : ∀ n, TR (cxOf A g B w) (tm n) (a.tmps.getD n undef))
    {t : TypeId} {x ix : Operand} (ho : o.op = .index t x ix) (h : indexK E t (evalO tm x) (evalO tm ix) pk = some (r, d)) : Post E.P A g B a w o r d := by
  have hx := evalO_tr hT x
  have hi := evalO_tr hT ix
  generalize evalO tm x = X at hx h
  generalize evalO tm ix = I at hi h
  unfold indexK at h
  split at h
  · rename_i s kd i hu
    obtain ⟨b, hb, h⟩ := Option.bind_eq_some_iff.1 h
    obtain ⟨rfl, rfl⟩ := pk_one h
    obtain ⟨h0, h1, h2⟩ := rd_some hb
    refine .pure hM (v := .int .u8 (b.toNat : Int)) ?_ rfl
    have hb' : (⟨s.toArray⟩ : ByteArray)[i.toNat]? = some b := by
      rw [ByteArray.getElem?_lt' _ _ (show i.toNat < (ByteArray.mk s.toArray).size from by show i.toNat < s.toArray.size; simpa using h1)]
      congr 1
      have := (List.getElem?_eq_some_iff.1 h2).2
      show (s.toArray)[i.toNat] = b
      simpa using this
    simp [execOp, ho, tr_str hx, tr_int hi, Instr.index, run_underlying hu, asIntOf, h0, hb']
  · rename_i n e cs kd i hu
    split at h
    · rename_i agg sz ha hz
      obtain ⟨m, _, h2, h3, h⟩ := splitIdx_inv _ _ h
      obtain ⟨arr, hv, hc⟩ := tr_agg hx
      obtain ⟨rfl, v, hp, ht⟩ := loadCs_part ha hz w hc h
      subst h3
      refine .pure hM (v := v) ?_ ht
      have h4 : (0 : Int) ≤ (m : Int) := by omega
      have h5 : m < n := by omega
      simp [execOp, ho, hv, tr_int hi, Instr.index, run_underlying hu, asIntOf, h4, h5, run_sizeOf hz, hp]
    · cases h
  · cases h

theorem fieldK_post (hM : Mem A g B w) (hT : ∀ n, TR (cxOf A g B w) (tm n) (a.tmps.getD n undef))
    {t : TypeId} {x : Operand} {f : Nat} (ho : o.op = .field t x f) (h : fieldK E t (evalO tm x) f pk = some (r, d)) : Post E.P A g B a w o r d := by
  have hx := evalO_tr hT x
  generalize evalO tm x = X at hx h
  unfold fieldK at h
  split at h
  · rename_i fd cs hfd
    split at h
    · rename_i agg sz ha hz
      obtain ⟨arr, hv, hc⟩ := tr_agg hx
      obtain ⟨rfl, v, hp, ht⟩ := loadCs_part ha hz w hc h
      refine .pure hM (v := v) ?_ ht
      unfold fieldOf at hfd
      split at hfd
      · rename_i fs hu
        simp [execOp, ho, hv, Instr.field, run_underlying hu, hfd, asAgg, hp]
      · cases hfd
    · cases h
  · cases h

/-! ### Lengths, slices, conversions -/

theorem sr_slice_len (hM : Mem A g B w) (hB : Sub Bx B) {s : Sc} {v : Value} (hs : SR (cxOf A g B w) s v) {n : Nat} (h : lenS Bx s = some n) :
    ∃ p cap, v = .slice p n cap := by
  cases s <;> simp only [lenS] at h
  case ps org c xs =>
    cases h
    rcases (show DR _ _ (.list c) xs [v] from hs) with ⟨e1, e2⟩ | ⟨b, k, cap, e1, _⟩
    · simp only [List.cons.injEq, and_true] at e1; subst e2; exact ⟨none, 0, e1⟩
    · simp only [List.cons.injEq, and_true] at e1; exact ⟨_, _, e1⟩
  case nils => cases h; exact ⟨none, 0, hs⟩
  case own id =>
    split at h
    · rename_i q hq
      cases h
      obtain ⟨l, hg, hv⟩ := hs
      obtain ⟨hd, _⟩ := vecOf_dr hM hB hq hg (I := [_]) (fun _ => List.mem_singleton.2 rfl) (orgLe_refl _)
      rw [← hv] at hd
      rcases hd with ⟨e1, e2⟩ | ⟨b, k, cap, e1, _⟩
      · simp only [List.cons.injEq, and_true] at e1; rw [e2]; exact ⟨none, 0, e1⟩
      · simp only [List.cons.injEq, and_true] at e1; exact ⟨_, _, e1⟩
    · cases h
  case sub id lo hi =>
    cases h
    obtain ⟨l, hg, h1, h2, h3, h4, hv⟩ := hs
    unfold Loc.sub at hv
    cases hn : l.nil
    · rw [hn] at hv; exact ⟨_, _, hv⟩
    · rw [hn] at hv; have := h4 hn; subst this; exact ⟨l.ad, 0, by rw [hv]; simp⟩
  all_goals cases h

theorem lenK_post (hM : Mem A g B w) (hB : Sub Bx B) (hT : ∀ n, TR (cxOf A g B w) (tm n) (a.tmps.getD n undef))
    {c : Call} {ts : Array TypeId} {t : TypeId} {x : Operand} (hts : c.argTypes[0]? = some t) (hc : c.callee = .builtin .len) (hargs : c.args = #[x]) (ho : o.op = .call c)
    (h : lenK E Bx t (evalO tm x) pk = some (r, d)) : Post E.P A g B a w o r d := by
  have hx := evalO_tr hT x
  generalize evalO tm x = X at hx h
  have hr : (execOp a.eval o).run E.P w = ((Builtin.len_ c.argTypes o.type #[a.eval x]).run E.P w).andThen fun v w => .ok (.value v) w := by
    simp [execOp, ho, resolve, hc, invoke, builtin, hargs]
  unfold lenK at h
  split at h
  · rename_i s hu
    obtain ⟨rfl, rfl⟩ := pk_one h
    rw [tr_str hx] at hr
    refine .pure hM (v := .int .i64 (s.length : Int)) ?_ rfl
    rw [hr]
    simp [Builtin.len_, hts, run_underlying hu, goInt]
    rfl
  · rename_i e s hu
    split at h
    · rename_i n hn
      obtain ⟨rfl, rfl⟩ := pk_one h
      obtain ⟨p, cap, hv⟩ := sr_slice_len hM hB hx hn
      refine .pure hM (v := .int .i64 (n : Int)) ?_ rfl
      rw [hr, hv]
      simp [Builtin.len_, hts, run_underlying hu, goInt]
    · cases h
  · rename_i id hu
    split at h
    · rename_i hb
      obtain ⟨l', hg', hbr, _⟩ := hM.br _ _ (hB.live _ _ hb)
      exact hbr.elim
    · cases h
  · cases h

end
end Ai
end Go.Proofs.Ytpknhlnoaehffaa
