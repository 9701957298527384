/-
  The ideal interpreter against the machine: reading and addressing.
-/
import Derived.Test.YtpboclokodgnlaaGreatG1
import Derived.Laws.MakeOwn
import Derived.Laws.CopyRow
import Derived.Deep.AppendSrc
import Derived.Great.BuildSlice
import Derived.Laws.BytesString
import Derived.Laws.AppendOwn
/-! A10: The ideal interpreter against the machine: reading and addressing. -/
namespace Go.Proofs.YtpboclokodgnlaaGreat
namespace Ai
set_option linter.unusedSimpArgs false
set_option linter.unusedVariables false

section
variable {P : Program}

theorem run_isAgg {t : TypeId} {b : Bool} (h : isAggT P t = some b) (w : World) : (isAgg t).run P w = .ok b w := by
  unfold isAggT at h
  unfold isAgg
  split at h
  · rename_i d hu; cases h; simp [run_underlying hu]
  · rename_i d hu; cases h; simp [run_underlying hu]
  · rename_i d n1 n2 hu
    cases h
    rw [Sem.run_bind, run_underlying hu w]
    cases d <;> first | rfl | (exact (n1 _ rfl).elim) | (exact (n2 _ _ rfl).elim)
  · cases h

theorem run_sizeOf {t : TypeId} {n : Nat} (h : szT P t = some n) (w : World) : (sizeOf t).run P w = .ok n w := by
  unfold szT at h
  rw [Option.map_eq_some_iff] at h
  obtain ⟨i, hi, rfl⟩ := h
  simp [sizeOf, typeInfo, hi]

theorem addr_add (b o n : Nat) : (⟨b, o, none⟩ : Addr).add n = ⟨b, o + n, none⟩ := by unfold Addr.add; split <;> simp_all

/-- A variable is read out of cells. -/
theorem load_run {t : TypeId} {agg : Bool} {sz : Nat} (ha : isAggT P t = some agg) (hz : szT P t = some sz) {w : World} {b o off : Nat} {vs : List Value}
    (hv : ∀ (j : Nat) v, vs[j]? = some v → w.cell? ⟨b, o + j, none⟩ = some v) :
    (agg = true → off + sz ≤ vs.length → (loadVar t ⟨b, o + off, none⟩).run P w = .ok (.agg ((vs.drop off).take sz).toArray) w) ∧
    (agg = false → ∀ v, vs[off]? = some v → (loadVar t ⟨b, o + off, none⟩).run P w = .ok v w) := by
  constructor
  · rintro rfl hl
    have hlen : ((vs.drop off).take sz).length = sz := by simp; omega
    have := run_loadCells_list (P := P) w ⟨b, o + off, none⟩ ((vs.drop off).take sz) (fun j v hj => by
      rw [addr_add, Nat.add_assoc]
      apply hv
      rw [List.getElem?_take] at hj
      split at hj
      · rw [List.getElem?_drop] at hj; exact hj
      · cases hj)
    rw [hlen] at this
    unfold loadVar
    simp only [Sem.run_bind, run_isAgg ha, Result.andThen_ok, if_true, run_sizeOf hz, this, Sem.run_pure]
  · rintro rfl v hj
    unfold loadVar
    simp only [Sem.run_bind, run_isAgg ha, Result.andThen_ok, Bool.false_eq_true, if_false, run_load, hv off v hj]

end

section
variable {E : Env} {A : Base} {g : Nat → Option Loc} {B Bx : Nat → BS} {tm : Nat → T} {a : Act} {w : World} {o : Oper} {r : T} {d : List (Nat × BS)}

theorem loadCs_inv {cs : List Sc} {agg : Bool} {off sz : Nat} (h : loadCs cs agg off sz pk = some (r, d)) :
    d = [] ∧ ((agg = true ∧ off + sz ≤ cs.length ∧ r = .v (.agg ((cs.drop off).take sz))) ∨ (agg = false ∧ ∃ s, cs[off]? = some s ∧ r = one s)) := by
  unfold loadCs at h
  cases agg
  · simp only [] at h
    split at h
    · rename_i s hs; cases h; exact ⟨rfl, .inr ⟨rfl, s, hs, rfl⟩⟩
    · cases h
  · simp only [] at h
    split at h
    · rename_i hl; cases h; exact ⟨rfl, .inl ⟨rfl, hl, rfl⟩⟩
    · cases h

/-- The common end of the three loads. -/
theorem load_post (hM : Mem A g B w) {t : TypeId} {x : Operand} (ho : o.op = .load t x) {agg : Bool} {sz : Nat} (ha : isAggT E.P t = some agg) (hz : szT E.P t = some sz)
    {b k off : Nat} (hx : a.eval x = .pointer (some ⟨b, k + off, none⟩)) {cs : List Sc} {vs : List Value} (hcv : All2 (SR (cxOf A g B w)) cs vs)
    (hv : ∀ (j : Nat) v, vs[j]? = some v → w.cell? ⟨b, k + j, none⟩ = some v) (h : loadCs cs agg off sz pk = some (r, d)) : Post E.P A g B a w o r d := by
  obtain ⟨rfl, hh⟩ := loadCs_inv h
  clear h
  obtain ⟨l1, l2⟩ := load_run ha hz (w := w) (off := off) hv
  have hr : (execOp a.eval o).run E.P w = ((loadVar t ⟨b, k + off, none⟩).run E.P w).andThen fun v w => .ok (.value v) w := by
    simp [execOp, ho, hx, Instr.loadAt, Instr.sureAddr]
  rcases hh with ⟨rfl, hl, rfl⟩ | ⟨rfl, s, hs, rfl⟩
  · rw [l1 rfl (by rw [← hcv.length]; exact hl)] at hr
    exact .pure hM hr ⟨_, rfl, by simpa using (hcv.drop off).take sz⟩
  · obtain ⟨v, hj, hsv⟩ := hcv.get hs
    rw [l2 rfl v hj] at hr
    exact .pure hM hr hsv

theorem cell_of {w : World} {b : Nat} {arr : Array Value} {t : TypeId} (h : w.heap[b]? = some (.cells arr t (0, 0))) (j : Nat) : w.cell? ⟨b, j, none⟩ = arr[j]? := by
  simp [World.cell?, h]

theorem getD_get {α : Type} {xs : List α} {i : Nat} {d : α} (h : i < xs.length) : xs[i]? = some (xs.getD i d) := by
  simp [List.getD, h]

/-- A named slice's element, as cells. -/
theorem vec_elem (hM : Mem A g B w) (hB : Sub Bx B) {id : Nat} {v : Vc} (hv : vecOf Bx id = some v) {l : Loc} (hg : g id = some l) {i : Nat} (hi : i < l.n) :
    ∃ cs, All2 (SR (cxOf A g B w)) (scells v.org v.c (v.xs.getD i (dflt v.c))) cs ∧ (∀ (j : Nat) u, cs[j]? = some u → w.cell? ⟨l.b, l.o + i * l.sz + j, none⟩ = some u) ∧ DR w ((cxOf A g B w).ok v.org) v.c (v.xs.getD i (dflt v.c)) cs ∧ l.n = v.xs.length ∧ l.sz = csize v.c ∧ l.nil = false := by
  unfold vecOf at hv
  split at hv
  · rename_i org c xs hb
    cases hv
    obtain ⟨l', hg', hbr, hX⟩ := hM.br id _ (hB.live _ _ hb)
    rw [hg] at hg'; cases hg'
    rcases hbr with ⟨h1, h2, h3, _⟩ | ⟨hl, hS, hn, hc, hz, arr, t, ha, hs, he⟩
    · omega
    obtain ⟨cs, hd, hv⟩ := he i _ (getD_get (d := dflt c) (by omega))
    exact ⟨cs, scells_sr hd, fun j v hj => by rw [cell_of (w := w) ha]; exact hv j v hj, hd, hn, hz, hl⟩
  · rename_i org c xs hb
    cases hv
    obtain ⟨l', hg', hd, h1, h2, h3⟩ := hM.ro id _ _ _ (hB.ro _ _ _ _ hb)
    rw [hg] at hg'; cases hg'
    unfold Loc.sl at hd
    cases hn : l.nil
    · rw [hn] at hd
      rcases hd with ⟨e, _⟩ | ⟨b, k, cap, e, hc, hokb, hcap, hel⟩
      · simp at e
      · simp only [cond_false, List.cons.injEq, Value.slice.injEq, Option.some.injEq, Addr.mk.injEq, and_true, true_and] at e
        obtain ⟨⟨rfl, rfl⟩, _⟩ := e
        obtain ⟨cs, hd, hv⟩ := hel i _ (getD_get (d := dflt c) (by omega))
        exact ⟨cs, scells_sr hd, fun j v hj => by rw [h1]; exact hv j v hj, hd, h2, h1, rfl⟩
    · rw [hn] at hd
      rcases hd with ⟨_, e⟩ | ⟨b, k, cap, e, _⟩
      · subst e; simp at h2; omega
      · simp only [cond_true, List.cons.injEq, Value.slice.injEq, and_true] at e; omega
  · cases hv

theorem loadK_post (hM : Mem A g B w) (hB : Sub Bx B) (hT : ∀ n, TR (cxOf A g B w) (tm n) (a.tmps.getD n undef))
    {t : TypeId} {x : Operand} (ho : o.op = .load t x) (h : loadK E Bx t (evalO tm x) pk = some (r, d)) : Post E.P A g B a w o r d := by
  have hx := evalO_tr hT x
  generalize evalO tm x = X at hx h
  unfold loadK at h
  split at h
  · rename_i agg sz id off ha hz
    split at h
    · rename_i cs hb
      obtain ⟨l, hg, hv⟩ := (show SR (cxOf A g B w) (.ptr id off) _ from hx)
      obtain ⟨l', hg', hbr, hX⟩ := hM.br id _ (hB.live _ _ hb)
      rw [show g id = some l from hg] at hg'; cases hg'
      obtain ⟨h0, arr, t', harr, hc⟩ := hbr
      refine load_post hM ho ha hz (b := l.b) (k := 0) (off := off) (by rw [hv]; simp) hc (fun j v hj => ?_) h
      rw [cell_of (w := w) harr]; simpa using hj
    · cases h
  · rename_i agg sz id i off ha hz
    split at h
    · rename_i q hb
      obtain ⟨l, hg, hi, hv⟩ := (show SR (cxOf A g B w) (.pel id i off) _ from hx)
      obtain ⟨cs, hcs, hcell, _⟩ := vec_elem hM hB hb hg hi
      exact load_post hM ho ha hz (b := l.b) (k := l.o + i * l.sz) (off := off) hv hcs hcell h
    · cases h
  · rename_i agg sz org c y off ha hz
    obtain ⟨b, k, cs, hv, hok, hb, hd, hcell⟩ := (show PR (cxOf A g B w) org c y off _ from hx)
    exact load_post hM ho ha hz (b := b) (k := k) (off := off) hv (scells_sr hd) hcell h
  · cases h

theorem fieldAddrK_post (hM : Mem A g B w) (hT : ∀ n, TR (cxOf A g B w) (tm n) (a.tmps.getD n undef))
    {s : TypeId} {x : Operand} {f : Nat} (ho : o.op = .fieldAddr s x f) (h : fieldAddrK E s (evalO tm x) f pk = some (r, d)) : Post E.P A g B a w o r d := by
  have hx := evalO_tr hT x
  generalize evalO tm x = X at hx h
  unfold fieldAddrK at h
  split at h
  · rename_i fd hfd
    have run : ∀ (b k n : Nat), szT E.P fd.type = some (n + 1) → a.eval x = .pointer (some ⟨b, k, none⟩) → (execOp a.eval o).run E.P w = .ok (.value (.pointer (some ⟨b, k + fd.offset, none⟩))) w := by
      intro b k n hz hv
      unfold fieldOf at hfd
      split at hfd
      · rename_i fs hu
        simp [execOp, ho, hv, Instr.fieldAt, run_underlying hu, hfd, Instr.sureAddr, fieldPlace, run_sizeOf hz, addr_add]
      · cases hfd
    split at h
    · rename_i n id off hz
      obtain ⟨rfl, rfl⟩ := pk_one h
      obtain ⟨l, hg, hv⟩ := (show SR (cxOf A g B w) (.ptr id off) _ from hx)
      exact .pure hM (run _ _ _ hz hv) ⟨l, hg, rfl⟩
    · rename_i n id i off hz
      obtain ⟨rfl, rfl⟩ := pk_one h
      obtain ⟨l, hg, hi, hv⟩ := (show SR (cxOf A g B w) (.pel id i off) _ from hx)
      exact .pure hM (run _ _ _ hz hv) ⟨l, hg, hi, by rw [Nat.add_assoc]⟩
    · rename_i n org c y off hz
      obtain ⟨rfl, rfl⟩ := pk_one h
      obtain ⟨b, k, cs, hv, hok, hb, hd, hcell⟩ := (show PR (cxOf A g B w) org c y off _ from hx)
      exact .pure hM (run _ _ _ hz hv) ⟨b, k, cs, by rw [Nat.add_assoc], hok, hb, hd, hcell⟩
    · cases h
  · cases h

theorem splitIdx_inv {R : Type} {i : Int} {K : Nat → Option R} {y : R} : ∀ n j, splitIdx i n j K = some y → ∃ m, j ≤ m ∧ m < j + n ∧ i = (m : Int) ∧ K m = some y
  | 0, _, h => by cases h
  | n + 1, j, h => by
    simp only [splitIdx] at h
    cases hc : decide (i = (j : Int)) <;> rw [hc] at h
    · obtain ⟨m, h1, h2, h3, h4⟩ := splitIdx_inv n (j + 1) h
      exact ⟨m, by omega, by omega, h3, h4⟩
    · exact ⟨j, Nat.le_refl _, by omega, by simpa using hc, h⟩

theorem rd_some {α : Type} {xs : List α} {i : Int} {x : α} (h : rd xs i = some x) : 0 ≤ i ∧ i.toNat < xs.length ∧ xs[i.toNat]? = some x := by
  unfold rd at h
  obtain ⟨h1, h2⟩ := cond_some h
  exact ⟨by simpa using h1, (List.getElem?_eq_some_iff.1 h2).1, h2⟩

theorem indexAddrK_post (hM : Mem A g B w) (hB : Sub Bx B) (hT : ∀ n, TR (cxOf A g B w) (tm n) (a.tmps.getD n undef))
    {t : TypeId} {x ix : Operand} (ho : o.op = .indexAddr t x ix) (h : indexAddrK E Bx t (evalO tm x) (evalO tm ix) pk = some (r, d)) : Post E.P A g B a w o r d := by
  have hx := evalO_tr hT x
  have hi := evalO_tr hT ix
  have hi' := hi
  generalize evalO tm x = X at hx h
  generalize evalO tm ix = I at hi hi' h
  have run : ∀ (e : TypeId) (sz b k n cap : Nat) (kd : IntKind) (i : Int), E.P.underlying t = some (.slice e) → szT E.P e = some sz → a.eval x = .slice (some ⟨b, k, none⟩) n cap → a.eval ix = .int kd i → 0 ≤ i → i < n →
      (execOp a.eval o).run E.P w = .ok (.value (.pointer (some ⟨b, k + i.toNat * sz, none⟩))) w := by
    intro e sz b k n cap kd i hu hz hv hiv h0 h1
    simp [execOp, ho, hv, hiv, Instr.indexAt, run_underlying hu, asIntOf, h0, h1, run_sizeOf hz, addr_add]
  unfold indexAddrK at h
  split at h
  · rename_i e org c xs kd i hu
    split at h
    · rename_i hz
      obtain ⟨y, hy, h⟩ := Option.bind_eq_some_iff.1 h
      obtain ⟨rfl, rfl⟩ := pk_one h
      obtain ⟨h0, h1, h2⟩ := rd_some hy
      rcases (show DR _ _ (.list c) xs [a.eval x] from hx) with ⟨_, e⟩ | ⟨b, k, cap, e1, hc, hokb, hcap, hel⟩
      · subst e; simp at h2
      · simp only [List.cons.injEq, and_true] at e1
        obtain ⟨cs, hd, hcell⟩ := hel _ _ h2
        obtain ⟨hok, hb⟩ := hokb (by omega)
        exact .pure hM (run _ _ _ _ _ _ _ _ hu hz e1 (tr_int hi) h0 (by omega)) ⟨b, k + i.toNat * csize c, cs, rfl, hok.2.1, hb, hd, hcell⟩
    · cases h
  · rename_i e id kd i hu
    split at h
    · rename_i org c xs hb
      split at h
      · rename_i hz
        obtain ⟨hc, h⟩ := cond_some h
        simp only [Bool.and_eq_true, decide_eq_true_eq] at hc
        obtain ⟨rfl, rfl⟩ := pk_one h
        obtain ⟨l, hg, hv⟩ := (show SR (cxOf A g B w) (.own id) _ from hx)
        obtain ⟨l', hg', hbr, hX⟩ := hM.br id _ (hB.live _ _ hb)
        rw [show g id = some l from hg] at hg'; cases hg'
        rcases hbr with ⟨_, h2, _⟩ | ⟨hnil, _, hn, _, hsz, _⟩
        · subst h2
          have := hc.2
          simp at this
          omega
        · exact .pure hM (run _ _ _ _ _ _ _ _ hu hz (by rw [hv, Loc.sl, hnil]; rfl) (tr_int hi) hc.1 (by omega)) ⟨l, hg, by omega, by rw [hsz]; rfl⟩
      · cases h
    · rename_i org c xs hb
      split at h
      · rename_i hz
        obtain ⟨y, hy, h⟩ := Option.bind_eq_some_iff.1 h
        obtain ⟨rfl, rfl⟩ := pk_one h
        obtain ⟨h0, h1, h2⟩ := rd_some hy
        obtain ⟨l, hg, hv⟩ := (show SR (cxOf A g B w) (.own id) _ from hx)
        obtain ⟨l', hg', hd, _⟩ := hM.ro id _ _ _ (hB.ro _ _ _ _ hb)
        rw [show g id = some l from hg] at hg'; cases hg'
        rw [← hv] at hd
        rcases hd with ⟨_, e⟩ | ⟨b, k, cap, e1, hc, hokb, hcap, hel⟩
        · subst e; simp at h2
        · simp only [List.cons.injEq, and_true] at e1
          obtain ⟨cs, hd, hcell⟩ := hel _ _ h2
          obtain ⟨hok, hb⟩ := hokb (by omega)
          exact .pure hM (run _ _ _ _ _ _ _ _ hu hz e1 (tr_int hi) h0 (by omega)) ⟨b, k + i.toNat * csize c, cs, rfl, hok.2.1, hb, hd, hcell⟩
      · cases h
    · cases h
  · rename_i e id lo hh kd i hu
    split at h
    · rename_i org c xs hb
      split at h
      · rename_i hz
        obtain ⟨hc, h⟩ := cond_some h
        simp only [Bool.and_eq_true, decide_eq_true_eq] at hc
        obtain ⟨rfl, rfl⟩ := pk_one h
        obtain ⟨l, hg, hlo, hhi, hcap, hnil0, hv⟩ := (show SR (cxOf A g B w) (.sub id lo hh) _ from hx)
        obtain ⟨l', hg', hbr, hX⟩ := hM.br id _ (hB.live _ _ hb)
        rw [show g id = some l from hg] at hg'; cases hg'
        rcases hbr with ⟨hnil, _⟩ | ⟨hnil, _, hn, _, hsz, _⟩
        · have := hnil0 hnil
          omega
        · have hne : ¬ l.cap = lo := by omega
          have hv' : a.eval x = .slice (some ⟨l.b, l.o + lo * l.sz, none⟩) (hh - lo) (l.cap - lo) := by
            rw [hv]; simp [Loc.sub, hnil, hne]
          refine .pure hM (run _ _ _ _ _ _ _ _ hu hz hv' (tr_int hi') hc.1 (by omega)) ⟨l, hg, by omega, ?_⟩
          rw [hsz, Nat.add_mul, Nat.add_assoc]; rfl
      · cases h
    · cases h
  · rename_i n e id off kd i hu
    split at h
    · rename_i sz hz
      split at h
      · rename_i hn
        obtain ⟨m, _, h2, h3, h⟩ := splitIdx_inv _ _ h
        obtain ⟨rfl, rfl⟩ := pk_one h
        obtain ⟨l, hg, hv⟩ := (show SR (cxOf A g B w) (.ptr id off) _ from hx)
        subst h3
        refine .pure hM (v := .pointer (some ⟨l.b, off + m * sz, none⟩)) ?_ ⟨l, hg, rfl⟩
        have h4 : (0 : Int) ≤ (m : Int) := by omega
        have h5 : m < n := by omega
        simp [execOp, ho, hv, tr_int hi, Instr.indexAt, run_underlying hu, asIntOf, Instr.sureAddr, h4, h5, run_sizeOf hz, addr_add]
      · cases h
    · cases h
  · cases h

theorem part_run {P : Program} {t : TypeId} {agg : Bool} {sz : Nat} (ha : isAggT P t = some agg) (hz : szT P t = some sz) {arr : Array Value} {off : Nat} (w : World) :
    (agg = true → (part t arr off).run P w = .ok (.agg (arr.extract off (off + sz))) w) ∧ (agg = false → ∀ v, arr[off]? = some v → (part t arr off).run P w = .ok v w) := by
  constructor
  · rintro rfl
    unfold part
    simp only [Sem.run_bind, run_isAgg ha, Result.andThen_ok, if_true, run_sizeOf hz, Sem.run_pure]
  · rintro rfl v hv
    unfold part
    simp only [Sem.run_bind, run_isAgg ha, Result.andThen_ok, Bool.false_eq_true, if_false, hv, Sem.run_pure]

theorem loadCs_part {P : Program} {C : Cx} {t : TypeId} {agg : Bool} {sz : Nat} (ha : isAggT P t = some agg) (hz : szT P t = some sz) {cs : List Sc} {arr : Array Value} {off : Nat} (w : World)
    (hc : All2 (SR C) cs arr.toList) (h : loadCs cs agg off sz pk = some (r, d)) : d = [] ∧ ∃ v, (part t arr off).run P w = .ok v w ∧ TR C r v := by
  obtain ⟨rfl, hh⟩ := loadCs_inv h
  clear h
  obtain ⟨p1, p2⟩ := part_run ha hz (arr := arr) (off := off) w
  refine ⟨rfl, ?_⟩
  rcases hh with ⟨rfl, hl, rfl⟩ | ⟨rfl, s, hs, rfl⟩
  · refine ⟨_, p1 rfl, _, rfl, ?_⟩
    have : (arr.extract off (off + sz)).toList = (arr.toList.drop off).take sz := by
      simp [Array.toList_extract, List.extract_eq_take_drop]
    rw [this]
    exact (hc.drop off).take sz
  · obtain ⟨v, hv, hsv⟩ := hc.get hs
    exact ⟨v, p2 rfl v (by simpa using hv), hsv⟩

theorem indexK_post (hM : Mem A g B w) (hT : ∀ n, TR (cxOf A g B w) (tm n) (a.tmps.getD n undef))
    {t : TypeId} {x ix : Operand} (ho : o.op = .index t x ix) (h : indexK E t (evalO tm x) (evalO tm ix) pk = some (r, d)) : Post E.P A g B a w o r d := by
  have hx := evalO_tr hT x
  have hi := evalO_tr hT ix
  generalize evalO tm x = X at hx h
  generalize evalO tm ix = I at hi h
  unfold indexK at h
  split at h
  · rename_i s kd i hu
    obtain ⟨b, hb, h⟩ := Option.bind_eq_some_iff.1 h
    obtain ⟨rfl, rfl⟩ := pk_one h
    obtain ⟨h0, h1, h2⟩ := rd_some hb
    refine .pure hM (v := .int .u8 (b.toNat : Int)) ?_ rfl
    have hb' : (⟨s.toArray⟩ : ByteArray)[i.toNat]? = some b := by
      rw [ByteArray.getElem?_lt' _ _ (show i.toNat < (ByteArray.mk s.toArray).size from by show i.toNat < s.toArray.size; simpa using h1)]
      congr 1
      have := (List.getElem?_eq_some_iff.1 h2).2
      show (s.toArray)[i.toNat] = b
      simpa using this
    simp [execOp, ho, tr_str hx, tr_int hi, Instr.index, run_underlying hu, asIntOf, h0, hb']
  · rename_i n e cs kd i hu
    split at h
    · rename_i agg sz ha hz
      obtain ⟨m, _, h2, h3, h⟩ := splitIdx_inv _ _ h
      obtain ⟨arr, hv, hc⟩ := tr_agg hx
      obtain ⟨rfl, v, hp, ht⟩ := loadCs_part ha hz w hc h
      subst h3
      refine .pure hM (v := v) ?_ ht
      have h4 : (0 : Int) ≤ (m : Int) := by omega
      have h5 : m < n := by omega
      simp [execOp, ho, hv, tr_int hi, Instr.index, run_underlying hu, asIntOf, h4, h5, run_sizeOf hz, hp]
    · cases h
  · cases h

theorem fieldK_post (hM : Mem A g B w) (hT : ∀ n, TR (cxOf A g B w) (tm n) (a.tmps.getD n undef))
    {t : TypeId} {x : Operand} {f : Nat} (ho : o.op = .field t x f) (h : fieldK E t (evalO tm x) f pk = some (r, d)) : Post E.P A g B a w o r d := by
  have hx := evalO_tr hT x
  generalize evalO tm x = X at hx h
  unfold fieldK at h
  split at h
  · rename_i fd cs hfd
    split at h
    · rename_i agg sz ha hz
      obtain ⟨arr, hv, hc⟩ := tr_agg hx
      obtain ⟨rfl, v, hp, ht⟩ := loadCs_part ha hz w hc h
      refine .pure hM (v := v) ?_ ht
      unfold fieldOf at hfd
      split at hfd
      · rename_i fs hu
        simp [execOp, ho, hv, Instr.field, run_underlying hu, hfd, asAgg, hp]
      · cases hfd
    · cases h
  · cases h

/-! ### Lengths, slices, conversions -/

theorem sr_slice_len (hM : Mem A g B w) (hB : Sub Bx B) {s : Sc} {v : Value} (hs : SR (cxOf A g B w) s v) {n : Nat} (h : lenS Bx s = some n) :
    ∃ p cap, v = .slice p n cap := by
  cases s <;> simp only [lenS] at h
  case ps org c xs =>
    cases h
    rcases (show DR _ _ (.list c) xs [v] from hs) with ⟨e1, e2⟩ | ⟨b, k, cap, e1, _⟩
    · simp only [List.cons.injEq, and_true] at e1; subst e2; exact ⟨none, 0, e1⟩
    · simp only [List.cons.injEq, and_true] at e1; exact ⟨_, _, e1⟩
  case psn org c xs =>
    cases h
    rcases (show DR _ _ (.list c) xs [v] from hs.1) with ⟨e1, e2⟩ | ⟨b, k, cap, e1, _⟩
    · simp only [List.cons.injEq, and_true] at e1; subst e2; exact ⟨none, 0, e1⟩
    · simp only [List.cons.injEq, and_true] at e1; exact ⟨_, _, e1⟩
  case nils => cases h; exact ⟨none, 0, hs⟩
  case own id =>
    split at h
    · rename_i q hq
      cases h
      obtain ⟨l, hg, hv⟩ := hs
      obtain ⟨hd, _⟩ := vecOf_dr hM hB hq hg (I := [_]) (fun _ => List.mem_singleton.2 rfl) (orgLe_refl _)
      rw [← hv] at hd
      rcases hd with ⟨e1, e2⟩ | ⟨b, k, cap, e1, _⟩
      · simp only [List.cons.injEq, and_true] at e1; rw [e2]; exact ⟨none, 0, e1⟩
      · simp only [List.cons.injEq, and_true] at e1; exact ⟨_, _, e1⟩
    · cases h
  case sub id lo hi =>
    cases h
    obtain ⟨l, hg, h1, h2, h3, h4, hv⟩ := hs
    unfold Loc.sub at hv
    cases hn : l.nil
    · rw [hn] at hv; exact ⟨_, _, hv⟩
    · rw [hn] at hv; have := h4 hn; subst this; exact ⟨l.ad, 0, by rw [hv]; simp⟩
  all_goals cases h

theorem getMap_run {P : Program} {w : World} {r : Nat} {es : Array MapEntry} {clock : Nat} (h : w.heap[r]? = some (.map es clock)) : (getObj r).run P w = .ok (.map es clock) w := by
  simp [getObj, Sem.run, h]

theorem setMap_run {P : Program} {w : World} {r : Nat} {es : Array MapEntry} {clock : Nat} (o : Obj) (h : w.heap[r]? = some (.map es clock)) : (setObj r o).run P w = .ok () { w with heap := w.heap.setIfInBounds r o } := by
  simp [setObj, Sem.run, h]

theorem lenK_post (hM : Mem A g B w) (hB : Sub Bx B) (hT : ∀ n, TR (cxOf A g B w) (tm n) (a.tmps.getD n undef))
    {c : Call} {ts : Array TypeId} {t : TypeId} {x : Operand} (hts : c.argTypes[0]? = some t) (hc : c.callee = .builtin .len) (hargs : c.args = #[x]) (ho : o.op = .call c)
    (h : lenK E Bx t (evalO tm x) pk = some (r, d)) : Post E.P A g B a w o r d := by
  have hx := evalO_tr hT x
  generalize evalO tm x = X at hx h
  have hr : (execOp a.eval o).run E.P w = ((Builtin.len_ c.argTypes o.type #[a.eval x]).run E.P w).andThen fun v w => .ok (.value v) w := by
    simp [execOp, ho, resolve, hc, invoke, builtin, hargs]
  unfold lenK at h
  split at h
  · rename_i s hu
    obtain ⟨rfl, rfl⟩ := pk_one h
    rw [tr_str hx] at hr
    refine .pure hM (v := .int .i64 (s.length : Int)) ?_ rfl
    rw [hr]
    simp [Builtin.len_, hts, run_underlying hu, goInt]
    rfl
  · rename_i e s hu
    split at h
    · rename_i n hn
      obtain ⟨rfl, rfl⟩ := pk_one h
      obtain ⟨p, cap, hv⟩ := sr_slice_len hM hB hx hn
      refine .pure hM (v := .int .i64 (n : Int)) ?_ rfl
      rw [hr, hv]
      simp [Builtin.len_, hts, run_underlying hu, goInt]
    · cases h
  · rename_i k0 e0 id hu
    split at h
    · rename_i kc vc es hb
      obtain ⟨rfl, rfl⟩ := pk_one h
      obtain ⟨l, hg, hv⟩ := (show SR (cxOf A g B w) (.mp id) _ from hx)
      obtain ⟨l', hg', hbr, _⟩ := hM.br _ _ (hB.live _ _ hb)
      rw [show g id = some l from hg] at hg'; cases hg'
      obtain ⟨_, _, arr, clock, ha, hall⟩ := hbr
      refine .pure hM (v := .int .i64 (es.length : Int)) ?_ rfl
      have hl : arr.size = es.length := by have := hall.length; simpa using this.symm
      rw [hr, hv]
      simp [Builtin.len_, hts, run_underlying hu, goInt, getMap_run (show w.heap[l.b]? = _ from ha), hl]
    · cases h
  · cases h

end
end Ai
end Go.Proofs.YtpboclokodgnlaaGreat

/-! A11: The ideal interpreter against the machine: making and writing. -/
namespace Go.Proofs.YtpboclokodgnlaaGreat
namespace Ai
set_option linter.unusedSimpArgs false
set_option linter.unusedVariables false

section
variable {E : Env} {A : Base} {g : Nat → Option Loc} {B Bx : Nat → BS} {tm : Nat → T} {a : Act} {w : World} {o : Oper} {r : T} {d : List (Nat × BS)}

theorem mkB_inv {id : Nat} {b : Blk} {t : T} (h : mkB Bx id b t pk = some (r, d)) : Bx id = .fresh ∧ r = t ∧ d = [(id, .live b)] := by
  unfold mkB at h
  split at h
  · rename_i hf; cases h; exact ⟨hf, rfl, rfl⟩
  · cases h

/-- A new variable. -/
theorem box_post (hM : Mem A g B w) {id : Nat} (hf : B id = .fresh) {x : Val} {v : Value} (hx : VR (cxOf A g B w) x v) (hu : noUnd x.cells = true) {t : TypeId}
    (hr : (execOp a.eval o).run E.P w = .ok (.value (.pointer (some ⟨w.heap.size, 0, none⟩))) (w.alloc (.cells v.cells t))) :
    Post E.P A g B a w o (one (.ptr id 0)) [(id, .live (.box x.cells))] := by
  obtain ⟨hc, hone⟩ := vr_cells hx hu
  obtain ⟨hM', hL⟩ := hM.make hf (blk := .box x.cells) (l := ⟨w.heap.size, 0, 0, 0, 1, false, none⟩) (w' := w.alloc (.cells v.cells t)) (o := .cells v.cells t) rfl rfl .cells rfl ⟨rfl, Nat.le_refl _⟩ rfl rfl
    (fun hL => ⟨⟨rfl, rfl⟩, v.cells, t, by show (w.heap.push _)[w.heap.size]? = _; simp, hc.mono fun _ _ => hL.sr⟩)
  exact ⟨_, _, hM', hL, .inl ⟨_, hr, ⟨_, upd_same _ _ _, rfl⟩⟩⟩

theorem zero_of {e : TypeId} {z : Val} (h : ((E.P.info? e).bind (·.zero)).bind ofValue = some z) : ∃ i v, E.P.info? e = some i ∧ i.zero = some v ∧ ofValue v = some z := by
  obtain ⟨v, hv, hz⟩ := Option.bind_eq_some_iff.1 h
  obtain ⟨i, hi, hv⟩ := Option.bind_eq_some_iff.1 hv
  exact ⟨i, v, hi, hv, hz⟩

theorem alloc_post (hM : Mem A g B w) (hB : Sub Bx B) {e : TypeId} {id : Nat} (ho : o.op = .alloc e)
    (h : (match ((E.P.info? e).bind (·.zero)).bind ofValue with
      | some z => if noUnd z.cells then mkB Bx id (.box z.cells) (one (.ptr id 0)) pk else none
      | none => none) = some (r, d)) : Post E.P A g B a w o r d := by
  split at h
  · rename_i z hz
    split at h
    · rename_i hu
      obtain ⟨hf, rfl, rfl⟩ := mkB_inv h
      obtain ⟨i, v, hi, hv, hz⟩ := zero_of hz
      refine box_post hM (hB.fresh _ hf) (ofValue_vr hz) hu (t := e) ?_
      simp [execOp, ho, Instr.alloc, zeroValue, typeInfo, hi, hv, newVar, newRow]
    · cases h
  · cases h

theorem boxOp_post (hM : Mem A g B w) (hB : Sub Bx B) (hT : ∀ n, TR (cxOf A g B w) (tm n) (a.tmps.getD n undef)) {e : TypeId} {x : Operand} {id : Nat} (ho : o.op = .box e x)
    (h : (match evalO tm x, szT E.P e with
      | .v v, some sz => if v.cells.length = sz ∧ noUnd v.cells then mkB Bx id (.box v.cells) (one (.ptr id 0)) pk else none
      | _, _ => none) = some (r, d)) : Post E.P A g B a w o r d := by
  have hx := evalO_tr hT x
  generalize evalO tm x = X at hx h
  split at h
  · rename_i v sz hz
    split at h
    · rename_i hu
      obtain ⟨hf, rfl, rfl⟩ := mkB_inv h
      refine box_post hM (hB.fresh _ hf) hx hu.2 (t := e) ?_
      simp [execOp, ho, Instr.box, newVar, newRow]
    · cases h
  · cases h

/-! ### Stores -/

theorem splice_inv {cs vs cs' : List Sc} {off : Nat} (h : splice cs off vs = some cs') : off + vs.length ≤ cs.length ∧ cs' = cs.take off ++ vs ++ cs.drop (off + vs.length) := by
  unfold splice at h
  split at h
  · rename_i hl; cases h; exact ⟨hl, rfl⟩
  · cases h

/-- Cells written into a block. -/
theorem store_run {t : TypeId} {sz : Nat} (hz : szT E.P t = some sz) {b off : Nat} {arr : Array Value} {u : TypeId} (hb : w.heap[b]? = some (.cells arr u (0, 0))) {v : Value} (hv : v.cells.toList.length = sz)
    (hl : off + sz ≤ arr.size) (hone : ∀ u ∈ v.cells.toList, u.oneCell' = true) :
    (storeVar t ⟨b, off, none⟩ v).run E.P w = .ok () (w.setRow b (arr.toList.take off ++ v.cells.toList ++ arr.toList.drop (off + sz)).toArray) := by
  have h := run_storeCells_at E.P b off u v.cells.toList 0 arr w hb (by simp at hv ⊢; omega) hone
  simp only [Nat.add_zero] at h
  unfold storeVar
  simp only [Sem.run_bind, run_sizeOf hz, Result.andThen_ok]
  have hs : v.cells.size = sz := by simpa using hv
  simp only [hs, ne_eq, not_true_eq_false, if_false]
  rw [hv] at h
  simpa using h

/-- An element's cells are written. -/
theorem store_elem (hM : Mem A g B w) (hB : Sub Bx B) {id i off sz : Nat} {t : TypeId} (hz : szT E.P t = some sz) {org : Nat} {c : Cd} {xs : List (El c)} (hb : Bx id = .live (.vec org c xs)) {l : Loc} (hg : g id = some l) (hi : i < l.n)
    {x' : Val} {sv : Value} (hy : VR (cxOf A g B w) x' sv) (hc : x'.cells.length = sz) {cs : List Sc} (hs : splice (scells org c (xs.getD i (dflt c))) off x'.cells = some cs) {z : El c} (hd : decC Bx c cs = some z) (hnl : ∀ id ∈ idsL cs, isLive B id = true → id ∈ ([] : List Nat)) :
    ∃ w', (storeVar t ⟨l.b, l.o + i * l.sz + off, none⟩ sv).run E.P w = .ok () w' ∧ Mem A g (upd B id (.live (.vec (org ||| orgL Bx x'.cells) c (xs.set i z)))) w' ∧ Later (cxOf A g B w) (cxOf A g (upd B id (.live (.vec (org ||| orgL Bx x'.cells) c (xs.set i z)))) w') := by
  obtain ⟨vs, hvs, hcell, hdr, hn, hsz, hnil⟩ := vec_elem hM hB (v := ⟨org, c, xs⟩) (by simp [vecOf, hb]) hg hi
  obtain ⟨l', hg', hbr, hX⟩ := hM.br id _ (hB.live _ _ hb)
  rw [hg] at hg'; cases hg'
  rcases hbr with ⟨hh, _⟩ | ⟨_, hS, _, hcap, _, arr, t', harr, hfit, hel⟩
  · rw [hnil] at hh; cases hh
  simp only at hvs hcell hdr hn hsz
  -- no cell of the value is unknown: it could not have been read as a datum
  have hund : noUnd x'.cells = true := by
    have key : ∀ (c : Cd) (ss : List Sc) (y : El c), decC Bx c ss = some y → noUnd ss = true := by
      intro c
      induction c with
      | i k => intro ss y h; simp only [decC] at h; split at h <;> first | rfl | cases h
      | bool => intro ss y h; simp only [decC] at h; split at h <;> first | rfl | cases h
      | str => intro ss y h; simp only [decC] at h; split at h <;> first | rfl | cases h
      | unit => intro ss y h; simp only [decC] at h; split at h <;> first | rfl | cases h
      | list c ih =>
        intro ss y h
        simp only [decC] at h
        split at h
        · rename_i s; cases s <;> first | rfl | (simp [listOf] at h; done)
        · cases h
      | pair p q ihp ihq =>
        intro ss y h
        simp only [decC] at h
        split at h
        · rename_i u v hu hv
          have h1 := ihp _ _ hu
          have h2 := ihq _ _ hv
          have : ∀ (l1 l2 : List Sc), noUnd l1 = true → noUnd l2 = true → noUnd (l1 ++ l2) = true := by
            intro l1 l2 e1 e2
            induction l1 with
            | nil => exact e2
            | cons s l1 ih =>
              obtain ⟨e3, e4⟩ := noUnd_cons e1
              have := ih e4
              cases s <;> simp_all [noUnd]
          have e := this _ _ h1 h2
          rwa [List.take_append_drop] at e
        · cases h
    have h1 := key c cs z hd
    obtain ⟨hl, rfl⟩ := splice_inv hs
    have mem : ∀ (l1 l2 : List Sc), noUnd (l1 ++ l2) = true → noUnd l1 = true ∧ noUnd l2 = true := by
      intro l1 l2 e1
      induction l1 with
      | nil => exact ⟨rfl, e1⟩
      | cons s l1 ih =>
        obtain ⟨e3, e4⟩ := noUnd_cons (r := l1 ++ l2) e1
        have := ih e4
        refine ⟨?_, this.2⟩
        have := this.1
        cases s <;> simp_all [noUnd]
    exact (mem _ _ (mem _ _ h1).1).2
  obtain ⟨hcells, hone⟩ := vr_cells hy hund
  obtain ⟨hl, hcs⟩ := splice_inv hs
  rw [scells_length] at hl
  have hlen : sv.cells.toList.length = sz := by rw [← hcells.length]; exact hc
  have hmul : l.o + i * l.sz + csize c ≤ l.o + l.cap * l.sz := by
    have h2 : (i + 1) * l.sz ≤ l.cap * l.sz := Nat.mul_le_mul_right _ (by omega)
    rw [Nat.add_mul] at h2
    rw [← hsz]; omega
  have hrun := store_run (E := E) hz (b := l.b) (off := l.o + i * l.sz + off) harr hlen (by rw [hc] at hl; omega) hone
  -- the element's cells afterwards
  have hnew : All2 (SR (cxOf A g B w)) cs (vs.take off ++ sv.cells.toList ++ vs.drop (off + sz)) := by
    rw [hcs, hc]
    exact ((hvs.take off).append hcells).append (hvs.drop (off + sz))
  have horg : orgLe (orgL Bx cs) (org ||| orgL Bx x'.cells) = true := by
    have happ : ∀ (l1 l2 : List Sc) m, orgLe (orgL Bx l1) m = true → orgLe (orgL Bx l2) m = true → orgLe (orgL Bx (l1 ++ l2)) m = true := by
      intro l1 l2 m e1 e2
      induction l1 with
      | nil => exact e2
      | cons s l1 ih =>
        simp only [List.cons_append, orgL]
        have e3 := ih (orgLe_trans (orgLe_or_right (orgS Bx s) _) e1)
        have e4 : orgLe (orgS Bx s) m = true := orgLe_trans (orgLe_or_left _ _) e1
        simp only [orgLe, beq_iff_eq] at e3 e4 ⊢
        rw [Nat.or_assoc, e3, e4]
    have hsc : ∀ (c : Cd) (x : El c), orgLe (orgL Bx (scells org c x)) org = true := by
      intro c
      induction c with
      | pair p q ihp ihq => intro x; exact happ _ _ _ (ihp _) (ihq _)
      | list c _ => intro x; simp [scells, orgL, orgS, orgLe]
      | _ => intro x; simp [scells, orgL, orgS, orgLe]
    rw [hcs]
    refine happ _ _ _ (happ _ _ _ ?_ (orgLe_or_right _ _)) ?_
    · exact orgLe_trans (orgL_take Bx off _) (orgLe_trans (hsc _ _) (orgLe_or_left _ _))
    · exact orgLe_trans (orgL_drop Bx _ _) (orgLe_trans (hsc _ _) (orgLe_or_left _ _))
  have hDR := decC_dr hM hB (I := []) (org := org ||| orgL Bx x'.cells) hnew hd hnl horg
  obtain ⟨hM', hL⟩ := hM.set (blk := .vec (org ||| orgL Bx x'.cells) c (xs.set i z)) (hB.live _ _ hb) hg hnil
    (w' := w.setRow l.b (arr.toList.take (l.o + i * l.sz + off) ++ sv.cells.toList ++ arr.toList.drop (l.o + i * l.sz + off + sz)).toArray)
    .cells (by simp) (fun k hk => setRow_other w _ _ _ hk) (setRow_heap w _ _ _ _ _ harr) rfl ⟨rfl, Nat.le_refl _⟩ rfl (fun hL => by
      refine .inr ⟨hnil, A.mono _ _ _ (orgLe_or_left _ _) hS, by simp [hn], hcap, hsz, _, t', setRow_heap w _ _ _ _ _ harr, ?_, fun j q hq => ?_⟩
      · have hl' : off + sz ≤ csize c := by rw [hc] at hl; exact hl
        have e1 : (arr.toList.take (l.o + i * l.sz + off) ++ sv.cells.toList ++ arr.toList.drop (l.o + i * l.sz + off + sz)).toArray.size = arr.size := by
          simp only [List.size_toArray, List.length_append, List.length_take, List.length_drop, Array.length_toList, hlen]
          omega
        rw [e1]; exact hfit
      · have hl' : off + sz ≤ csize c := by rw [hc] at hl; exact hl
        have hget : ∀ m, (arr.toList.take (l.o + i * l.sz + off) ++ sv.cells.toList ++ arr.toList.drop (l.o + i * l.sz + off + sz)).toArray[m]? =
            if m < l.o + i * l.sz + off then arr[m]? else if m < l.o + i * l.sz + off + sz then sv.cells.toList[m - (l.o + i * l.sz + off)]? else arr[m]? := by
          intro m
          have htl : (arr.toList.take (l.o + i * l.sz + off)).length = l.o + i * l.sz + off := by
            simp only [List.length_take, Array.length_toList]; omega
          rw [List.getElem?_toArray, List.append_assoc]
          by_cases h1 : m < l.o + i * l.sz + off
          · rw [if_pos h1, List.getElem?_append_left (by omega), List.getElem?_take, if_pos h1]; simp
          · rw [if_neg h1, List.getElem?_append_right (by omega), htl]
            by_cases h2 : m < l.o + i * l.sz + off + sz
            · rw [if_pos h2, List.getElem?_append_left (by omega)]
            · rw [if_neg h2, List.getElem?_append_right (by omega), hlen, List.getElem?_drop]
              rw [show l.o + i * l.sz + off + sz + (m - (l.o + i * l.sz + off) - sz) = m by omega]
              simp
        by_cases hji : j = i
        · subst hji
          have : q = z := by
            rw [List.getElem?_set] at hq
            simp only [if_true] at hq
            split at hq
            · cases hq; rfl
            · cases hq
          subst this
          have hdl := hDR.length
          refine ⟨_, hDR.mono hL.size fun b hb hok => ?_, fun m v hm => ?_⟩
          · have hok' := okI_nil (w := w) hok
            obtain ⟨e1, e2⟩ := hL.ow b hb hok'.2.1
            exact ⟨⟨hok'.1, e1, fun hn => by rw [e2]; exact hok'.2.2 hn⟩, e2⟩
          · have hm' : m < csize c := by rw [← hdl]; exact (List.getElem?_eq_some_iff.1 hm).1
            have hvl : vs.length = csize c := by rw [← hvs.length, scells_length]
            rw [hget]
            have htk : (vs.take off).length = off := by simp; omega
            rw [List.append_assoc] at hm
            by_cases h1 : m < off
            · rw [if_pos (by omega)]
              rw [List.getElem?_append_left (by omega), List.getElem?_take, if_pos h1] at hm
              have := hcell m v hm
              rwa [cell_of (w := w) harr] at this
            · rw [List.getElem?_append_right (by omega), htk] at hm
              by_cases h2 : m < off + sz
              · rw [if_neg (by omega), if_pos (by omega)]
                rw [List.getElem?_append_left (by omega)] at hm
                rw [show l.o + j * l.sz + m - (l.o + j * l.sz + off) = m - off by omega]
                exact hm
              · rw [if_neg (by omega), if_neg (by omega)]
                rw [List.getElem?_append_right (by omega), hlen, List.getElem?_drop, show off + sz + (m - off - sz) = m by omega] at hm
                have := hcell m v hm
                rwa [cell_of (w := w) harr] at this
        · rw [List.getElem?_set_ne (by omega)] at hq
          obtain ⟨us, hu, hv'⟩ := hel j q hq
          have hul := hu.length
          have hu' : DR w ((cxOf A g B w).ok (org ||| orgL Bx x'.cells)) c q us := hu.mono (Nat.le_refl _) fun b hb hok => ⟨⟨A.mono _ _ _ (orgLe_or_left _ _) hok.1, hok.2⟩, rfl⟩
          refine ⟨us, hL.dr hu', fun m v hm => ?_⟩
          have hm' : m < csize c := by rw [← hul]; exact (List.getElem?_eq_some_iff.1 hm).1
          have := hv' m v hm
          rw [hget]
          -- another element lies wholly ahead or behind
          rcases Nat.lt_or_ge j i with hlt' | hge
          · have : (j + 1) * l.sz ≤ i * l.sz := Nat.mul_le_mul_right _ hlt'
            rw [Nat.add_mul] at this
            rw [if_pos (by omega)]
            assumption
          · have : (i + 1) * l.sz ≤ j * l.sz := Nat.mul_le_mul_right _ (by omega)
            rw [Nat.add_mul] at this
            rw [if_neg (by omega), if_neg (by omega)]
            assumption)
  exact ⟨_, hrun, hM', hL⟩

/-! ### Slices that are not written any more -/

theorem applyB_append (B : Nat → BS) : ∀ (d d' : List (Nat × BS)), applyB B (d ++ d') = applyB (applyB B d) d'
  | [], _ => rfl
  | (id, b) :: r, d' => applyB_append (upd B id b) r d'

theorem applyB_notin {id : Nat} : ∀ (d : List (Nat × BS)) (B : Nat → BS), id ∉ d.map (·.1) → applyB B d id = B id
  | [], _, _ => rfl
  | (k, b) :: r, B, h => by
    simp only [List.map_cons, List.mem_cons, not_or] at h
    simp only [applyB]
    rw [applyB_notin r _ h.2, upd_ne _ _ h.1]

theorem applyB_all {id : Nat} {b : BS} : ∀ (d : List (Nat × BS)) (B : Nat → BS), (∀ p ∈ d, p.1 = id → p.2 = b) → id ∈ d.map (·.1) ∨ B id = b → applyB B d id = b
  | [], _, _, h => by rcases h with h | h; · simp at h
                      · exact h
  | (k, b') :: r, B, h, hm => by
    simp only [applyB]
    refine applyB_all r _ (fun p hp => h p (List.mem_cons_of_mem _ hp)) ?_
    by_cases e : id = k
    · subst e
      have := h (id, b') (List.mem_cons_self ..) rfl
      simp only at this
      subst this
      exact .inr (upd_same _ _ _)
    · rw [upd_ne _ _ e]
      rcases hm with hm | hm
      · simp only [List.map_cons, List.mem_cons] at hm
        exact .inl (hm.resolve_left e)
      · exact .inr hm

theorem Sub.upd {Bx B : Nat → BS} (h : Sub Bx B) (id : Nat) (b : BS) : Sub (upd Bx id b) (upd B id b) := by
  have key : ∀ (i : Nat) (P : BS → BS → Prop), P b b → P (Bx i) (B i) → P (Ai.upd Bx id b i) (Ai.upd B id b i) := by
    intro i P h1 h2
    by_cases e : i = id
    · subst e; rw [upd_same, upd_same]; exact h1
    · rw [upd_ne _ _ e, upd_ne _ _ e]; exact h2
  exact ⟨fun i b' => key i (fun x y => x = .live b' → y = .live b') (fun h => h) (h.live i b'),
    fun i => key i (fun x y => x = .fresh → y = .fresh) (fun h => h) (h.fresh i),
    fun i o c xs => key i (fun x y => x = .ro o c xs → y = .ro o c xs) (fun h => h) (h.ro i o c xs)⟩

theorem Sub.apply {Bx B : Nat → BS} : ∀ (d : List (Nat × BS)), Sub Bx B → Sub (applyB Bx d) (applyB B d)
  | [], h => h
  | (id, b) :: r, h => Sub.apply r (h.upd id b)

theorem upd_self {B : Nat → BS} {id : Nat} {b : BS} (h : B id = b) : upd B id b = B := by
  funext i
  by_cases e : i = id
  · subst e; rw [upd_same, h]
  · rw [upd_ne _ _ e]

theorem frzL_mem (hB : Sub Bx B) (hM : Mem A g B w) : ∀ (ids : List Nat) (B1 : Nat → BS), Mem A g B1 w → Later (cxOf A g B w) (cxOf A g B1 w) →
    (∀ id org c xs, Bx id = .live (.vec org c xs) → B1 id = .live (.vec org c xs) ∨ B1 id = .ro org c xs) →
    Mem A g (applyB B1 (frzL Bx ids)) w ∧ Later (cxOf A g B w) (cxOf A g (applyB B1 (frzL Bx ids)) w)
  | [], B1, h1, h2, _ => ⟨h1, h2⟩
  | id :: r, B1, h1, h2, h3 => by
    unfold frzL
    split
    · rename_i org c xs hb
      simp only [applyB]
      rcases h3 _ _ _ _ hb with h4 | h4
      · obtain ⟨m1, m2⟩ := h1.freeze h4
        refine frzL_mem hB hM r _ m1 (h2.trans m2) fun i o' c' xs' hi => ?_
        by_cases e : i = id
        · subst e
          rw [hb] at hi; cases hi
          exact .inr (upd_same _ _ _)
        · rw [upd_ne _ _ e]; exact h3 _ _ _ _ hi
      · rw [upd_self h4]
        exact frzL_mem hB hM r _ h1 h2 h3
    · exact frzL_mem hB hM r _ h1 h2 h3

/-- Slices are given over to be read only. -/
theorem frz_step (hM : Mem A g B w) (hB : Sub Bx B) (ids : List Nat) : Mem A g (applyB B (frzL Bx ids)) w ∧ Later (cxOf A g B w) (cxOf A g (applyB B (frzL Bx ids)) w) ∧ Sub (applyB Bx (frzL Bx ids)) (applyB B (frzL Bx ids)) := by
  obtain ⟨h1, h2⟩ := frzL_mem hB hM ids B hM (Later.refl _) fun id o c xs h => .inl (hB.live _ _ h)
  exact ⟨h1, h2, hB.apply _⟩

theorem frzL_of {B : Nat → BS} : ∀ (ids : List Nat) (p : Nat × BS), p ∈ frzL B ids → ∃ org c xs, B p.1 = .live (.vec org c xs) ∧ p.2 = .ro org c xs ∧ p.1 ∈ ids
  | [], p, h => by simp [frzL] at h
  | id :: r, p, h => by
    unfold frzL at h
    split at h
    · rename_i org c xs hb
      rcases List.mem_cons.1 h with rfl | h
      · exact ⟨org, c, xs, hb, rfl, by simp⟩
      · obtain ⟨o, c, xs, h1, h2, h3⟩ := frzL_of r p h
        exact ⟨o, c, xs, h1, h2, List.mem_cons_of_mem _ h3⟩
    · obtain ⟨o, c, xs, h1, h2, h3⟩ := frzL_of r p h
      exact ⟨o, c, xs, h1, h2, List.mem_cons_of_mem _ h3⟩

theorem frzL_has {B : Nat → BS} {id org : Nat} {c : Cd} {xs : List (El c)} (hb : B id = .live (.vec org c xs)) : ∀ (ids : List Nat), id ∈ ids → id ∈ (frzL B ids).map (·.1)
  | [], h => by simp at h
  | k :: r, h => by
    unfold frzL
    rcases List.mem_cons.1 h with rfl | h
    · rw [hb]; simp
    · have := frzL_has hb r h
      split
      · simp only [List.map_cons, List.mem_cons]; exact .inr this
      · exact this

theorem frz_get {B : Nat → BS} {id org : Nat} {c : Cd} {xs : List (El c)} (hb : B id = .live (.vec org c xs)) {ids : List Nat} (hi : id ∈ ids) (B1 : Nat → BS) : applyB B1 (frzL B ids) id = .ro org c xs := by
  refine applyB_all _ _ (fun p hp e => ?_) (.inl (frzL_has hb ids hi))
  obtain ⟨o, c', xs', h1, h2, _⟩ := frzL_of ids p hp
  rw [e, hb] at h1
  cases h1
  exact h2

theorem frz_else {B : Nat → BS} {id : Nat} (hb : ∀ org c xs, B id ≠ .live (.vec org c xs)) (ids : List Nat) (B1 : Nat → BS) : applyB B1 (frzL B ids) id = B1 id := by
  refine applyB_notin _ _ fun h => ?_
  obtain ⟨p, hp, e⟩ := List.mem_map.1 h
  obtain ⟨o, c', xs', h1, _⟩ := frzL_of ids p hp
  rw [e] at h1
  exact hb _ _ _ h1

/-- What has been given over, and can be read, is not owned. -/
theorem frz_notlive (hB : Sub Bx B) {ids : List Nat} {id : Nat} (hi : id ∈ ids) {v : Vc} (hv : vecOf (applyB Bx (frzL Bx ids)) id = some v) : isLive (applyB B (frzL Bx ids)) id = false := by
  by_cases h : ∃ org c xs, Bx id = .live (.vec org c xs)
  · obtain ⟨org, c, xs, h⟩ := h
    simp [isLive, frz_get h hi]
  · have h : ∀ org c xs, Bx id ≠ .live (.vec org c xs) := fun o c xs e => h ⟨o, c, xs, e⟩
    unfold vecOf at hv
    rw [frz_else h] at hv
    split at hv
    · rename_i e; exact (h _ _ _ e).elim
    · rename_i e
      unfold isLive
      rw [frz_else h, hB.ro _ _ _ _ e]
    · cases hv

theorem idsL_append_mem {id : Nat} : ∀ (l1 l2 : List Sc), id ∈ idsL (l1 ++ l2) → id ∈ idsL l1 ∨ id ∈ idsL l2 := by
  intro l1 l2 e
  induction l1 with
  | nil => exact .inr e
  | cons s l1 ih =>
    cases s <;> simp only [List.cons_append, idsL, List.mem_cons] at e ⊢ <;> first
      | exact ih e
      | exact (e.elim (fun h => .inl (.inl h)) fun h => (ih h).elim (fun h => .inl (.inr h)) .inr)

/-- What a datum's cells name can be read. -/
theorem dec_ids {Bx : Nat → BS} : ∀ (c : Cd) (ss : List Sc) (y : El c), decC Bx c ss = some y → ∀ id ∈ idsL ss, ∃ v, vecOf Bx id = some v := by
  intro c
  induction c with
  | i k => intro ss y h; simp only [decC] at h; split at h <;> first | (intro id hi; simp [idsL] at hi; done) | cases h
  | bool => intro ss y h; simp only [decC] at h; split at h <;> first | (intro id hi; simp [idsL] at hi; done) | cases h
  | str => intro ss y h; simp only [decC] at h; split at h <;> first | (intro id hi; simp [idsL] at hi; done) | cases h
  | unit => intro ss y h; simp only [decC] at h; split at h <;> first | (intro id hi; simp [idsL] at hi; done) | cases h
  | list c ih =>
    intro ss y h
    simp only [decC] at h
    split at h
    · rename_i s
      intro id hi
      cases s <;> simp only [idsL, List.not_mem_nil, List.mem_singleton] at hi
      all_goals
        subst hi
        simp only [listOf] at h
        split at h
        · rename_i v hv; exact ⟨v, hv⟩
        · cases h
    · cases h
  | pair p q ihp ihq =>
    intro ss y h
    simp only [decC] at h
    split at h
    · rename_i u v hu hv
      intro id hi
      rw [← List.take_append_drop (csize p) ss] at hi
      rcases idsL_append_mem _ _ hi with h1 | h1
      · exact ihp _ _ hu id h1
      · exact ihq _ _ hv id h1
    · cases h

theorem scells_ids (org : Nat) : ∀ (c : Cd) (x : El c), idsL (scells org c x) = []
  | .i _, _ => rfl
  | .bool, _ => rfl
  | .str, _ => rfl
  | .unit, _ => rfl
  | .list _, _ => rfl
  | .pair a b, x => by
    cases e : idsL (scells org (.pair a b) x) with
    | nil => rfl
    | cons q r =>
      have : q ∈ idsL (scells org a x.1 ++ scells org b x.2) := by
        show q ∈ idsL (scells org (.pair a b) x)
        rw [e]; simp
      rcases idsL_append_mem _ _ this with h | h
      · rw [scells_ids org a] at h; simp at h
      · rw [scells_ids org b] at h; simp at h

theorem storeK_post (hM : Mem A g B w) (hB : Sub Bx B) (hT : ∀ n, TR (cxOf A g B w) (tm n) (a.tmps.getD n undef))
    {t : TypeId} {x y : Operand} (ho : o.op = .store t x y) (h : storeK E Bx t (evalO tm x) (evalO tm y) (fun d => pk (one .skip) d) = some (r, d)) : Post E.P A g B a w o r d := by
  have hx := evalO_tr hT x
  have hy := evalO_tr hT y
  generalize evalO tm x = X at hx h
  generalize evalO tm y = Y at hy h
  have hr : ∀ b off w', a.eval x = .pointer (some ⟨b, off, none⟩) → (storeVar t ⟨b, off, none⟩ (a.eval y)).run E.P w = .ok () w' → (execOp a.eval o).run E.P w = .ok .skip w' := by
    intro b off w' h1 h2
    simp [execOp, ho, h1, Instr.storeAt, Instr.sureAddr, h2]
  unfold storeK at h
  split at h
  · rename_i sz id off x' hz
    split at h
    · rename_i hc
      split at h
      · rename_i cs hb
        split at h
        · rename_i cs' hs
          cases h
          obtain ⟨l, hg, hv⟩ := (show SR (cxOf A g B w) (.ptr id off) _ from hx)
          obtain ⟨l', hg', hbr, hX⟩ := hM.br id _ (hB.live _ _ hb)
          rw [show g id = some l from hg] at hg'; cases hg'
          obtain ⟨h0, arr, t', harr, hcs⟩ := hbr
          obtain ⟨hcells, hone⟩ := vr_cells hy hc.2
          obtain ⟨hl, ecs⟩ := splice_inv hs
          rw [hc.1] at ecs
          have hnew : All2 (SR (cxOf A g B w)) cs' (arr.toList.take off ++ (a.eval y).cells.toList ++ arr.toList.drop (off + sz)) := by
            rw [ecs]; exact ((hcs.take off).append hcells).append (hcs.drop (off + sz))
          have hlen : (a.eval y).cells.toList.length = sz := by rw [← hcells.length]; exact hc.1
          have hsz : arr.size = cs.length := by have := hcs.length; simp at this; omega
          have hrun := store_run (E := E) hz (b := l.b) (off := off) harr hlen (by rw [hc.1] at hl; omega) hone
          obtain ⟨hM', hL⟩ := hM.set (blk := .box cs') (hB.live _ _ hb) hg h0.2 (w' := w.setRow l.b (arr.toList.take off ++ (a.eval y).cells.toList ++ arr.toList.drop (off + sz)).toArray)
            .cells (by simp) (fun k hk => setRow_other w _ _ _ hk) (setRow_heap w _ _ _ _ _ harr) rfl ⟨rfl, Nat.le_refl _⟩ rfl (fun hL => ⟨h0, _, t', setRow_heap w _ _ _ _ _ harr, by
              simp only [List.toList_toArray]
              exact hnew.mono fun _ _ => hL.sr⟩)
          exact ⟨_, _, hM', hL, .inr ⟨hr _ _ _ hv hrun, rfl⟩⟩
        · cases h
      · cases h
    · cases h
  · rename_i sz id i off x' hz
    split at h
    · rename_i hc
      obtain ⟨hM1, hL1, hB1⟩ := frz_step hM hB (idsL x'.cells)
      split at h
      · rename_i org c xs hb
        split at h
        · rename_i cs hs
          split at h
          · rename_i z hd
            cases h
            obtain ⟨l, hg, hi, hv⟩ := (show SR (cxOf A g B w) (.pel id i off) _ from hx)
            obtain ⟨w', hrun, hM', hL'⟩ := store_elem (E := E) hM1 hB1 hz hb hg hi (hL1.vr hy) hc hs hd (fun q hq hl => by
              obtain ⟨v, hv⟩ := dec_ids _ _ _ hd q hq
              have hq' : q ∈ idsL x'.cells := by
                obtain ⟨_, e⟩ := splice_inv hs
                rw [e] at hq
                rcases idsL_append_mem _ _ hq with hq | hq
                · rcases idsL_append_mem _ _ hq with hq | hq
                  · have := idsL_mem_take _ _ _ hq; rw [scells_ids] at this; simp at this
                  · exact hq
                · have := idsL_mem_drop _ _ _ hq; rw [scells_ids] at this; simp at this
              rw [frz_notlive hB hq' hv] at hl
              cases hl)
            refine ⟨g, w', ?_, ?_, .inr ⟨hr _ _ _ hv hrun, rfl⟩⟩
            · rw [applyB_append]; exact hM'
            · rw [applyB_append]; exact hL1.trans hL'
          · cases h
        · cases h
      · cases h
    · cases h
  · cases h

end
end Ai
end Go.Proofs.YtpboclokodgnlaaGreat

/-! A12: The ideal interpreter against the machine: rows of elements; making and appending slices. -/
namespace Go.Proofs.YtpboclokodgnlaaGreat
namespace Ai
set_option linter.unusedSimpArgs false
set_option linter.unusedVariables false

section
variable {α : Type}

theorem flatten_length {css : List (List α)} {sz : Nat} (h : ∀ cs ∈ css, cs.length = sz) : css.flatten.length = css.length * sz := by
  induction css with
  | nil => simp
  | cons cs r ih =>
    simp only [List.flatten_cons, List.length_append, List.length_cons]
    rw [h cs (by simp), ih fun c hc => h c (by simp [hc]), Nat.add_mul]
    omega

theorem flatten_get {css : List (List α)} {sz : Nat} (h : ∀ cs ∈ css, cs.length = sz) : ∀ (i : Nat) (cs : List α) (j : Nat), css[i]? = some cs → j < sz → css.flatten[i * sz + j]? = cs[j]? := by
  induction css with
  | nil => intro i cs j hi; simp at hi
  | cons c r ih =>
    intro i cs j hi hj
    have hc : c.length = sz := h c (by simp)
    cases i with
    | zero =>
      simp at hi
      subst hi
      rw [List.flatten_cons, Nat.zero_mul, Nat.zero_add, List.getElem?_append_left (by omega)]
    | succ i =>
      rw [List.flatten_cons, List.getElem?_append_right (by rw [Nat.add_mul]; omega)]
      have : (i + 1) * sz + j - c.length = i * sz + j := by rw [Nat.add_mul]; omega
      rw [this]
      exact ih (fun c hc => h c (by simp [hc])) i cs j (by simpa using hi) hj

/-- A place in rows of equal length. -/
theorem place {n sz j : Nat} (h : j < n * sz) : ∃ i m, i < n ∧ m < sz ∧ j = i * sz + m := by
  have hsz : 0 < sz := by
    rcases Nat.eq_zero_or_pos sz with e | e
    · subst e; simp at h
    · exact e
  refine ⟨j / sz, j % sz, (Nat.div_lt_iff_lt_mul hsz).2 h, Nat.mod_lt _ hsz, ?_⟩
  have := Nat.div_add_mod j sz
  rw [Nat.mul_comm] at this
  exact this.symm

end

/-- A slice's elements, row by row. -/
theorem dr_rows {w : World} {ok : Nat → Prop} {c : Cd} {xs : List (El c)} {v : Value} (h : DR w ok (.list c) xs [v]) :
    ∃ css : List (List Value), All2 (DR w ok c) xs css ∧
      ((v = .slice none 0 0 ∧ css = [] ∧ xs = []) ∨ ∃ b k cap, v = .slice (some ⟨b, k, none⟩) xs.length cap ∧ xs.length ≤ cap ∧ ∀ (j : Nat) u, css.flatten[j]? = some u → w.cell? ⟨b, k + j, none⟩ = some u) := by
  rcases h with ⟨e, rfl⟩ | ⟨b, k, cap, e, hc, hokb, hcap, hel⟩
  · simp only [List.cons.injEq, and_true] at e
    exact ⟨[], trivial, .inl ⟨e, rfl, rfl⟩⟩
  · simp only [List.cons.injEq, and_true] at e
    have key : ∀ (ys : List (El c)) (n : Nat), (∀ (i : Nat) x, ys[i]? = some x → ∃ cs', DR w ok c x cs' ∧ ∀ (j : Nat) v, cs'[j]? = some v → w.cell? ⟨b, k + (n + i) * csize c + j, none⟩ = some v) →
        ∃ css : List (List Value), All2 (DR w ok c) ys css ∧ ∀ (j : Nat) u, css.flatten[j]? = some u → w.cell? ⟨b, k + n * csize c + j, none⟩ = some u := by
      intro ys
      induction ys with
      | nil => intro n _; exact ⟨[], trivial, fun j u h => by simp at h⟩
      | cons y ys ih =>
        intro n h
        obtain ⟨cs, hd, hv⟩ := h 0 y rfl
        obtain ⟨css, ha, hvs⟩ := ih (n + 1) fun i x hx => by
          obtain ⟨cs', h1, h2⟩ := h (i + 1) x (by simpa using hx)
          exact ⟨cs', h1, fun j v hj => by have := h2 j v hj; rwa [show n + (i + 1) = n + 1 + i by omega] at this⟩
        refine ⟨cs :: css, ⟨hd, ha⟩, fun j u hj => ?_⟩
        have hl := hd.length
        rw [List.flatten_cons] at hj
        by_cases hjl : j < cs.length
        · rw [List.getElem?_append_left hjl] at hj
          have := hv j u hj
          simpa using this
        · rw [List.getElem?_append_right (by omega)] at hj
          have := hvs _ u hj
          rw [Nat.add_mul, Nat.one_mul, hl] at this
          rwa [show k + (n * csize c + csize c) + (j - csize c) = k + n * csize c + j by omega] at this
    obtain ⟨css, h1, h2⟩ := key xs 0 (fun i x hx => by simpa using hel i x hx)
    exact ⟨css, h1, .inr ⟨b, k, cap, e, hc, fun j u hj => by simpa using h2 j u hj⟩⟩

theorem rows_len {w : World} {ok : Nat → Prop} {c : Cd} : ∀ {xs : List (El c)} {css : List (List Value)}, All2 (DR w ok c) xs css → ∀ cs ∈ css, cs.length = csize c
  | _ :: _, cs :: _, h, cs', hc => by
    rcases List.mem_cons.1 hc with rfl | hc
    · exact h.1.length
    · exact rows_len h.2 cs' hc
  | [], [], _, _, hc => by simp at hc
  | [], _ :: _, h, _, _ => h.elim
  | _ :: _, [], h, _, _ => h.elim

theorem rows_one {w : World} {ok : Nat → Prop} {c : Cd} : ∀ {xs : List (El c)} {css : List (List Value)}, All2 (DR w ok c) xs css → ∀ u ∈ css.flatten, u.oneCell' = true
  | _ :: _, cs :: _, h, u, hc => by
    rw [List.flatten_cons] at hc
    rcases List.mem_append.1 hc with hc | hc
    · exact DR.oneCell h.1 u hc
    · exact rows_one h.2 u hc
  | [], [], _, _, hc => by simp at hc
  | [], _ :: _, h, _, _ => h.elim
  | _ :: _, [], h, _, _ => h.elim

/-- Rows in an array are an owned slice's elements. -/
theorem rows_br {C : Cx} {org : Nat} {c : Cd} {xs : List (El c)} {css : List (List Value)} (ha : All2 (DR C.w (C.ok org) c) xs css) {l : Loc} {arr : Array Value} {t : TypeId}
    (hnil : l.nil = false) (hS : C.S org l.b) (hn : l.n = xs.length) (hcap : l.n ≤ l.cap) (hz : l.sz = csize c) (hh : C.w.heap[l.b]? = some (.cells arr t (0, 0))) (hfit : l.o + l.cap * l.sz ≤ arr.size)
    (hrow : ∀ (j : Nat) u, css.flatten[j]? = some u → arr[l.o + j]? = some u) : BR C (.vec org c xs) l := by
  refine .inr ⟨hnil, hS, hn, hcap, hz, arr, t, hh, hfit, fun i x hx => ?_⟩
  obtain ⟨cs, hcs, hd⟩ := ha.get hx
  refine ⟨cs, hd, fun j v hj => ?_⟩
  have hl := hd.length
  have hjl : j < csize c := by rw [← hl]; exact (List.getElem?_eq_some_iff.1 hj).1
  have := flatten_get (rows_len ha) i cs j hcs hjl
  rw [hj] at this
  have := hrow _ _ this
  rwa [hz, Nat.add_assoc]

theorem rows_mono {w w' : World} {ok ok' : Nat → Prop} {c : Cd} (hs : w.heap.size ≤ w'.heap.size) (h : ∀ b, b < w.heap.size → ok b → ok' b ∧ w'.heap[b]? = w.heap[b]?) {xs : List (El c)} {css : List (List Value)}
    (ha : All2 (DR w ok c) xs css) : All2 (DR w' ok' c) xs css := ha.mono fun _ _ hd => hd.mono hs h

section
variable {E : Env} {A : Base} {g : Nat → Option Loc} {B Bx : Nat → BS} {tm : Nat → T} {a : Act} {w : World} {o : Oper} {r : T} {d : List (Nat × BS)}

/-- A new slice of these elements. -/
theorem vec_post (hM : Mem A g B w) {id : Nat} (hf : B id = .fresh) {org : Nat} {c : Cd} {xs : List (El c)} {css : List (List Value)} (ha : All2 (DR w ((cxOf A g B w).ok org) c) xs css) {w1 : World} {cap : Nat} {arr : Array Value} {t : TypeId}
    (h1 : w1.heap = w.heap) (hos : w1.os = w.os) (htp : Tp w w1) (hout : w1.output = w.output)
    (hcap : xs.length ≤ cap) (hfit : cap * csize c ≤ arr.size) (hrow : ∀ (j : Nat) u, css.flatten[j]? = some u → arr[j]? = some u)
    (hr : (execOp a.eval o).run E.P w = .ok (.value (.slice (some ⟨w.heap.size, 0, none⟩) xs.length cap)) (w1.alloc (.cells arr t))) :
    Post E.P A g B a w o (one (.own id)) [(id, .live (.vec org c xs))] := by
  obtain ⟨hM', hL⟩ := hM.make hf (blk := .vec org c xs) (l := ⟨w.heap.size, 0, xs.length, cap, csize c, false, none⟩) (w' := w1.alloc (.cells arr t)) (o := .cells arr t) rfl (by show w1.heap.push _ = _; rw [h1]) .cells hos ⟨htp.tape, htp.dr⟩ hout rfl
    (fun hL => rows_br (C := cxOf A _ _ _) (rows_mono hL.size (fun b hb hok => by
        obtain ⟨e1, e2⟩ := hL.ow b hb hok.2.1
        exact ⟨⟨hok.1, e1, fun hn => by rw [e2]; exact hok.2.2 hn⟩, e2⟩) ha) rfl (A.new _ _ hM.fr.size) rfl hcap rfl (arr := arr) (t := t) (by show (w1.heap.push _)[w.heap.size]? = _; rw [h1]; simp) (by simpa using hfit) (fun j u hj => by simpa using hrow j u hj))
  exact ⟨_, _, hM', hL, .inl ⟨_, hr, ⟨_, upd_same _ _ _, rfl⟩⟩⟩

theorem idsL_append : ∀ (l1 l2 : List Sc), idsL l1 = [] → idsL l2 = [] → idsL (l1 ++ l2) = [] := by
  intro l1 l2 e1 e2
  induction l1 with
  | nil => exact e2
  | cons s l1 ih => cases s <;> simp_all [idsL]

theorem dec_dead_ids (c : Cd) (ss : List Sc) (y : El c) (h : decC (fun _ => BS.dead) c ss = some y) : idsL ss = [] := by
  cases e : idsL ss with
  | nil => rfl
  | cons q r =>
    obtain ⟨v, hv⟩ := dec_ids _ _ _ h q (by rw [e]; simp)
    simp [vecOf] at hv

theorem ofOne_org {ss : List Sc} (h : ∀ s ∈ ss, ∃ v, ofOne v = some s) : orgL (fun _ => BS.dead) ss = 0 := by
  induction ss with
  | nil => rfl
  | cons s r ih =>
    obtain ⟨v, hv⟩ := h s (by simp)
    have := ih fun s hs => h s (by simp [hs])
    unfold ofOne at hv
    split at hv <;> first | (cases hv; simp [orgL, orgS, this]; done) | cases hv

theorem ofValue_one {v : Value} {z : Val} (hzo : ofValue v = some z) : ∀ s ∈ z.cells, ∃ v, ofOne v = some s := by
  unfold ofValue at hzo
  split at hzo
  · rename_i cs
    rw [Option.map_eq_some_iff] at hzo
    obtain ⟨l, hl, rfl⟩ := hzo
    intro s hs
    have : ∀ (cs : List Value) (l : List Sc), cs.mapM ofOne = some l → ∀ s ∈ l, ∃ v, ofOne v = some s := by
      intro cs
      induction cs with
      | nil => intro l hl s hs; simp at hl; subst hl; simp at hs
      | cons c r ih =>
        intro l hl s hs
        simp only [List.mapM_cons, Option.bind_eq_bind, Option.bind_eq_some_iff, Option.pure_def, Option.some.injEq] at hl
        obtain ⟨s', hs', l', hl', rfl⟩ := hl
        rcases List.mem_cons.1 hs with rfl | hs
        · exact ⟨_, hs'⟩
        · exact ih l' hl' s hs
    exact this _ _ hl s hs
  · rw [Option.map_eq_some_iff] at hzo
    obtain ⟨s', hs', rfl⟩ := hzo
    intro s hs
    simp [Val.cells] at hs
    subst hs
    exact ⟨_, hs'⟩

/-- A type's zero value, as a datum. -/
theorem zero_dr (hM : Mem A g B w) {v : Value} {z : Val} (hzo : ofValue v = some z) (hu : noUnd z.cells = true) {c : Cd} {zd : El c} (hd : decC (fun _ => BS.dead) c z.cells = some zd) :
    DR w (okI A g B w [] 0) c zd v.cells.toList := by
  have hzc := (vr_cells (C := cxOf A g B w) (ofValue_vr hzo) hu).1
  exact decC_dr hM sub_dead (I := []) (org := 0) hzc hd (by rw [dec_dead_ids _ _ _ hd]; simp) (by rw [ofOne_org (ofValue_one hzo)]; rfl)

/-! ### make -/

theorem makeSliceK_post (hM : Mem A g B w) (hB : Sub Bx B) (hT : ∀ n, TR (cxOf A g B w) (tm n) (a.tmps.getD n undef)) {id : Nat}
    {t : TypeId} {x y : Operand} (ho : o.op = .makeSlice t x y) (h : makeSliceK E Bx id t (evalO tm x) (evalO tm y) pk = some (r, d)) : Post E.P A g B a w o r d := by
  have hx := evalO_tr hT x
  have hy := evalO_tr hT y
  generalize evalO tm x = X at hx h
  generalize evalO tm y = Y at hy h
  unfold makeSliceK at h
  split at h
  · rename_i e kl l kn n he
    split at h
    · rename_i cd sz by_ z hcd hsz hby hz
      split at h
      · rename_i hc
        simp only [Bool.and_eq_true, decide_eq_true_eq] at hc
        obtain ⟨hsc, hu, hby4⟩ := hc
        have hsc := Nat.eq_of_beq_eq_true hsc
        split at h
        · rename_i zd hd
          obtain ⟨hcond, h⟩ := cond_some h
          simp only [Bool.and_eq_true, decide_eq_true_eq] at hcond
          obtain ⟨h0, hln, hnl⟩ := hcond
          obtain ⟨hf, rfl, rfl⟩ := mkB_inv h
          obtain ⟨i, v, hi, hzv, hzo⟩ := zero_of hz
          unfold elemT at he
          split at he
          · rename_i e' hu'
            obtain rfl : e = e' := by simpa using he.symm
            have hzc := (vr_cells (C := cxOf A g B w) (ofValue_vr hzo) hu).1
            have hDR := zero_dr hM hzo hu hd
            have hzl := hDR.length
            obtain ⟨zarr, hzarr⟩ : ∃ q, v.cells = q := ⟨_, rfl⟩
            rw [hzarr] at hzl hDR
            -- the rows
            let css : List (List Value) := List.replicate l.toNat zarr.toList
            have ha : All2 (DR w ((cxOf A g B w).ok 0) cd) (List.replicate l.toNat zd) css := by
              refine All2.of_get (by simp [css]) fun i x cs hx hcs => ?_
              simp only [css, List.getElem?_replicate] at hx hcs
              split at hx
              · rename_i hil
                rw [if_pos hil] at hcs
                cases hx; cases hcs
                exact hDR.mono (Nat.le_refl _) fun b hb hok => ⟨okI_nil hok, rfl⟩
              · cases hx
            have hsz' : i.size = csize cd := by
              unfold szT at hsz
              rw [hi] at hsz
              simp at hsz
              omega
            have hby' : i.bytes ≤ 4096 := by
              rw [hi] at hby
              simp at hby
              omega
            have hnl' : n ≤ 4194304 := hnl
            have hbytes : (i.bytes : Int) * n ≤ 281474976710656 := by
              have h1 : (i.bytes : Int) ≤ 4096 := by omega
              have h2 : (i.bytes : Int) * n ≤ 4096 * n := Int.mul_le_mul_of_nonneg_right h1 (by omega)
              omega
            have hrun := run_make (P := E.P) w t e i v hu' hi hzv kl kn l n h0 hln hbytes (by omega)
            refine vec_post hM (hB.fresh _ hf) ha (w1 := w) (cap := n.toNat) (arr := madeCells v.cells (n.toNat * i.size)) rfl rfl ⟨rfl, Nat.le_refl _⟩ rfl (by simp; omega) (by rw [size_madeCells, hsz']; exact Nat.le_refl _) (fun j u hj => ?_) (t := e) ?_
            · have hcl : ∀ cs ∈ css, cs.length = csize cd := fun cs hcs => by
                rw [(List.mem_replicate.1 hcs).2]; exact hzl
              have hjl : j < css.length * csize cd := by rw [← flatten_length hcl]; exact (List.getElem?_eq_some_iff.1 hj).1
              obtain ⟨p, m, hp, hm, rfl⟩ := place hjl
              have hcp : css[p]? = some zarr.toList := by
                simp only [css, List.getElem?_replicate]
                rw [if_pos (by simpa [css] using hp)]
              rw [flatten_get hcl p _ m hcp hm] at hj
              have hp' : p < n.toNat := by simp [css] at hp; omega
              have hlt : p * csize cd + m < n.toNat * i.size := by
                have : (p + 1) * csize cd ≤ n.toNat * csize cd := Nat.mul_le_mul_right _ hp'
                rw [Nat.add_mul] at this
                rw [hsz']; omega
              rw [hzarr]
              have hzs : zarr.size = csize cd := by simpa using hzl
              simp only [madeCells, Array.getElem?_map, Array.getElem?_range, hlt, if_true, Option.map_some]
              rw [hzs, Nat.mul_comm p, Nat.mul_add_mod, Nat.mod_eq_of_lt hm]
              have hm' : m < zarr.size := by omega
              rw [getElem!_pos zarr m hm']
              have : zarr.toList[m]? = some zarr[m] := by simp [hm']
              rw [this] at hj
              exact hj
            · simp only [execOp, ho, tr_int hx, tr_int hy, Sem.run_bind, hrun, Result.andThen_ok, Sem.run_pure]
              rw [List.length_replicate]
          · cases he
        · cases h
      · cases h
    · cases h
  · cases h

end
end Ai
end Go.Proofs.YtpboclokodgnlaaGreat

/-! A13: The ideal interpreter against the machine: structs, arrays and slices written as literals. -/
namespace Go.Proofs.YtpboclokodgnlaaGreat
namespace Ai
set_option linter.unusedSimpArgs false
set_option linter.unusedVariables false

/-- One part's cells laid over a row. -/
theorem fold_set (off : Nat) : ∀ (vs : List Value) (i : Nat) (arr : Array Value), off + i + vs.length ≤ arr.size →
    ((vs.zipIdx i).foldl (fun (cs : Array Value) p => cs.setIfInBounds (off + p.2) p.1) arr).toList = arr.toList.take (off + i) ++ vs ++ arr.toList.drop (off + i + vs.length)
  | [], i, arr, _ => by simp
  | v :: r, i, arr, h => by
    rw [List.zipIdx_cons, List.foldl_cons]
    have ih := fold_set off r (i + 1) (arr.setIfInBounds (off + i) v) (by simp at h ⊢; omega)
    rw [ih]
    have e := list_seg_step arr.toList (off + i) v r (by simp at h ⊢; omega)
    rw [Array.toList_setIfInBounds]
    rw [← Nat.add_assoc off i 1]
    rw [e]
    simp

theorem fill_step {place : Nat → Option (Nat × Nat)} {arr : Array Value} {i off size : Nat} {v : Value} {rest : List (Nat × Value)} (hp : place i = some (off, size)) (hs : v.cells.size = size) (hl : off + size ≤ arr.size) :
    ∃ arr' : Array Value, Instr.fill place arr ((i, v) :: rest) = Instr.fill place arr' rest ∧ arr'.toList = arr.toList.take off ++ v.cells.toList ++ arr.toList.drop (off + size) := by
  refine ⟨v.cells.zipIdx.foldl (fun (cs : Array Value) p => cs.setIfInBounds (off + p.2) p.1) arr, ?_, ?_⟩
  · simp only [Instr.fill, hp]
    rw [if_neg (by simp only [Bool.or_eq_true, decide_eq_true_eq]; omega)]
  · rw [← Array.foldl_toList, Array.toList_zipIdx]
    have := fold_set off v.cells.toList 0 arr (by simp; omega)
    simpa [hs] using this

theorem fill_all2 {C : Cx} {place : Nat → Option (Nat × Nat)} : ∀ (parts : List (Nat × List Sc)) (vals : List (Nat × Value)) (cs : List Sc) (arr : Array Value) (cs' : List Sc), All2 (SR C) cs arr.toList →
    All2 (fun p q => p.1 = q.1 ∧ All2 (SR C) p.2 q.2.cells.toList) parts vals → fillS place cs parts = some cs' → ∃ arr', Instr.fill place arr vals = some arr' ∧ All2 (SR C) cs' arr'.toList := by
  intro parts
  induction parts with
  | nil =>
    intro vals cs arr cs' ha hp h
    cases vals with
    | nil => simp only [fillS, Option.some.injEq] at h; subst h; exact ⟨arr, rfl, ha⟩
    | cons => exact hp.elim
  | cons p r ih =>
    intro vals cs arr cs' ha hp h
    cases vals with
    | nil => exact hp.elim
    | cons q vals =>
      obtain ⟨i, x⟩ := p
      obtain ⟨j, v⟩ := q
      obtain ⟨⟨e, hx⟩, hr⟩ := hp
      simp only at e hx
      subst e
      simp only [fillS] at h
      split at h
      · cases h
      · rename_i off size hpl
        split at h
        · rename_i hsz
          split at h
          · rename_i cs1 hs
            obtain ⟨hl, rfl⟩ := splice_inv hs
            have hvl : v.cells.size = size := by have := hx.length; simp at this; omega
            have hal : arr.size = cs.length := by have := ha.length; simp at this; omega
            obtain ⟨arr', e1, e2⟩ := fill_step (rest := vals) (v := v) hpl hvl (arr := arr) (by omega)
            rw [e1]
            refine ih vals _ arr' cs' ?_ hr h
            rw [e2, hsz]
            exact ((ha.take off).append hx).append (ha.drop _)
          · cases h
        · cases h

section
variable {E : Env} {A : Base} {g : Nat → Option Loc} {B Bx : Nat → BS} {tm : Nat → T} {a : Act} {w : World} {o : Oper} {r : T} {d : List (Nat × BS)}

theorem parts_sr (hT : ∀ n, TR (cxOf A g B w) (tm n) (a.tmps.getD n undef)) : ∀ (ps : List (Nat × Operand)) (css : List (List Sc)), partsCells ((ps.map fun p => (p.1, evalO tm p.2)).map (·.2)) = some css →
    All2 (fun p q => p.1 = q.1 ∧ All2 (SR (cxOf A g B w)) p.2 q.2.cells.toList) (((ps.map fun p => (p.1, evalO tm p.2)).map (·.1)).zip css) (ps.map fun p => (p.1, a.eval p.2)) ∧
    All2 (fun cs (q : Nat × Value) => All2 (SR (cxOf A g B w)) cs q.2.cells.toList ∧ ∀ u ∈ q.2.cells.toList, u.oneCell' = true) css (ps.map fun p => (p.1, a.eval p.2)) := by
  intro ps
  induction ps with
  | nil => intro css h; simp [partsCells] at h; subst h; exact ⟨trivial, trivial⟩
  | cons p r ih =>
    intro css h
    simp only [List.map_cons] at h
    have hp := evalO_tr hT p.2
    generalize evalO tm p.2 = X at hp h
    unfold partsCells at h
    split at h
    · cases ‹_ :: _ = []›
    · rename_i x r' e
      cases e
      split at h
      · rename_i hu
        rw [Option.map_eq_some_iff] at h
        obtain ⟨l, hl, rfl⟩ := h
        obtain ⟨i1, i2⟩ := ih l hl
        have hc := vr_cells (show VR (cxOf A g B w) x _ from hp) hu
        exact ⟨⟨⟨rfl, hc.1⟩, i1⟩, ⟨hc, i2⟩⟩
      · cases h
    · cases h

theorem mapM_places {P : Program} : ∀ (fs : List Field), fs.mapM (fun f => (szT P f.type).map fun n => (f.offset, n)) = fs.mapM (fun f => (P.info? f.type).map fun i => (f.offset, i.size)) := by
  intro fs
  congr 1
  funext f
  simp [szT, Option.map_map]
  rfl

theorem buildK_post (hM : Mem A g B w) (hT : ∀ n, TR (cxOf A g B w) (tm n) (a.tmps.getD n undef)) {t : TypeId} {ps : Array (Nat × Operand)} (ho : o.op = .build t ps)
    (h : buildK E t (ps.toList.map fun p => (p.1, evalO tm p.2)) pk = some (r, d)) : Post E.P A g B a w o r d := by
  have key : ∀ cells : Array Value, E.P.built t (ps.toList.map fun p => (p.1, a.eval p.2)) = some cells → (execOp a.eval o).run E.P w = .ok (.value (.agg cells)) w := by
    intro cells hb
    have := run_build w t (ps.map fun p => (p.1, a.eval p.2)) cells (by simpa using hb)
    simp only [execOp, ho, Sem.run_bind]
    rw [show (Array.map (fun x => match x with | (i, x) => (i, a.eval x)) ps) = ps.map fun p => (p.1, a.eval p.2) from rfl, this]
    rfl
  unfold buildK at h
  split at h
  · rename_i fs z css hu hz hcss
    split at h
    · rename_i places hpl
      split at h
      · rename_i cs hf
        cases h
        obtain ⟨i, v, hi, hzv, hzo⟩ := zero_of hz
        have hzc : All2 (SR (cxOf A g B w)) z.cells v.cells.toList := by
          have hvr := ofValue_vr (C := cxOf A g B w) hzo
          cases z with
          | agg l => obtain ⟨arr, rfl, ha⟩ := hvr; exact ha
          | one s =>
            have : v.cells = #[v] := by
              unfold ofValue at hzo
              split at hzo
              · simp at hzo
              · rename_i hna
                cases v <;> first | rfl | (exact absurd rfl (hna _)) | (simp [ofOne] at hzo; done)
            rw [this]; exact ⟨hvr, trivial⟩
        obtain ⟨p1, p2⟩ := parts_sr hT _ _ hcss
        obtain ⟨arr', e1, e2⟩ := fill_all2 _ _ _ _ _ hzc p1 hf
        refine .pure hM (key arr' ?_) ⟨arr', rfl, e2⟩
        rw [mapM_places] at hpl
        unfold Program.built
        simp only [hi, hu, hzv, hpl]
        simpa using e1
      · cases h
    · cases h
  · rename_i n e z css hu hz hcss
    split at h
    · rename_i sz hsz
      split at h
      · rename_i cs hf
        cases h
        obtain ⟨i, v, hi, hzv, hzo⟩ := zero_of hz
        have hzc : All2 (SR (cxOf A g B w)) z.cells v.cells.toList := by
          have hvr := ofValue_vr (C := cxOf A g B w) hzo
          cases z with
          | agg l => obtain ⟨arr, rfl, ha⟩ := hvr; exact ha
          | one s =>
            have : v.cells = #[v] := by
              unfold ofValue at hzo
              split at hzo
              · simp at hzo
              · rename_i hna
                cases v <;> first | rfl | (exact absurd rfl (hna _)) | (simp [ofOne] at hzo; done)
            rw [this]; exact ⟨hvr, trivial⟩
        obtain ⟨p1, p2⟩ := parts_sr hT _ _ hcss
        obtain ⟨arr', e1, e2⟩ := fill_all2 _ _ _ _ _ hzc p1 hf
        refine .pure hM (key arr' ?_) ⟨arr', rfl, e2⟩
        unfold szT at hsz
        rw [Option.map_eq_some_iff] at hsz
        obtain ⟨ie, hie, rfl⟩ := hsz
        unfold Program.built
        simp only [hi, hu, hzv, hie]
        exact e1
      · cases h
    · cases h
  · cases h

/-! ### Slice literals -/

theorem fill_rows (size : Nat) : ∀ (parts : List (Nat × Value)) (k : Nat) (arr : Array Value), (∀ i p, parts[i]? = some p → p.1 = k + i ∧ p.2.cells.size = size) → arr.size = (k + parts.length) * size →
    ∃ arr', Instr.fill (fun i => some (i * size, size)) arr parts = some arr' ∧ arr'.toList = arr.toList.take (k * size) ++ (parts.map (·.2.cells.toList)).flatten := by
  intro parts
  induction parts with
  | nil =>
    intro k arr _ hs
    refine ⟨arr, rfl, ?_⟩
    simp at hs
    simp [List.take_of_length_le, hs]
  | cons p r ih =>
    intro k arr hp hs
    obtain ⟨i, v⟩ := p
    obtain ⟨e1, e2⟩ := hp 0 _ rfl
    simp only [Nat.add_zero] at e1 e2
    subst e1
    have hk : (i + (r.length + 1)) * size = i * size + size + r.length * size := by rw [Nat.add_mul, Nat.add_mul]; omega
    simp only [List.length_cons] at hs
    obtain ⟨arr', f1, f2⟩ := fill_step (place := fun i => some (i * size, size)) (rest := r) (v := v) (i := i) rfl e2 (arr := arr) (by omega)
    rw [f1]
    have hlen : arr'.size = arr.size := by
      have := congrArg List.length f2
      simp [e2] at this
      omega
    obtain ⟨arr2, g1, g2⟩ := ih (i + 1) arr' (fun j q hj => by
      obtain ⟨h1, h2⟩ := hp (j + 1) q (by simpa using hj)
      exact ⟨by omega, h2⟩) (by rw [hlen, hs]; congr 1; omega)
    refine ⟨arr2, g1, ?_⟩
    rw [g2, f2]
    have h1 : (arr.toList.take (i * size)).length = i * size := by simp; omega
    have h2 : v.cells.toList.length = size := by simpa using e2
    rw [List.append_assoc (arr.toList.take (i * size))]
    rw [List.take_append, h1, List.take_of_length_le (by rw [h1, Nat.add_mul]; omega)]
    rw [show (i + 1) * size - i * size = size by rw [Nat.add_mul]; omega]
    rw [List.take_append, h2]
    simp [List.take_of_length_le (Nat.le_of_eq h2)]

theorem inOrder_get : ∀ (n : Nat) (l : List (Nat × T)), inOrder n l = true → ∀ i p, l[i]? = some p → p.1 = n + i
  | _, [], _, i, p, h => by simp at h
  | n, (k, t) :: r, h, i, p, hp => by
    simp only [inOrder, Bool.and_eq_true] at h
    cases i with
    | zero => simp at hp; subst hp; exact Nat.eq_of_beq_eq_true h.1
    | succ i =>
      have := inOrder_get (n + 1) r h.2 i p (by simpa using hp)
      omega

theorem idsL_mem_left {id : Nat} : ∀ (l1 l2 : List Sc), id ∈ idsL l1 → id ∈ idsL (l1 ++ l2) := by
  intro l1 l2 e
  induction l1 with
  | nil => simp [idsL] at e
  | cons s l1 ih =>
    cases s <;> simp only [List.cons_append, idsL, List.mem_cons] at e ⊢ <;> first
      | exact ih e
      | exact e.imp (fun h => h) ih

theorem idsL_mem_right {id : Nat} : ∀ (l1 l2 : List Sc), id ∈ idsL l2 → id ∈ idsL (l1 ++ l2) := by
  intro l1 l2 e
  induction l1 with
  | nil => exact e
  | cons s l1 ih =>
    cases s <;> simp only [List.cons_append, idsL, List.mem_cons] <;> first
      | exact ih
      | exact .inr ih

theorem decAll_ids {Bx : Nat → BS} {c : Cd} : ∀ (css : List (List Sc)) (xs : List (El c)), decAll Bx c css = some xs → ∀ id ∈ idsL css.flatten, ∃ v, vecOf Bx id = some v
  | [], _, _, id, hi => by simp [idsL] at hi
  | cs :: r, xs, h, id, hi => by
    simp only [decAll] at h
    split at h
    · rename_i x ys hx hys
      rw [List.flatten_cons] at hi
      rcases idsL_append_mem _ _ hi with hi | hi
      · exact dec_ids _ _ _ hx id hi
      · exact decAll_ids r ys hys id hi
    · cases h

theorem orgL_app (Bx : Nat → BS) : ∀ (l1 l2 : List Sc), orgL Bx (l1 ++ l2) = orgL Bx l1 ||| orgL Bx l2 := by
  intro l1 l2
  induction l1 with
  | nil => simp [orgL]
  | cons s l1 ih => simp [orgL, ih, Nat.or_assoc]

theorem decAll_rows (hM : Mem A g B w) (hB : Sub Bx B) {c : Cd} : ∀ (css : List (List Sc)) (vals : List (Nat × Value)) (xs : List (El c)) (org : Nat),
    All2 (fun cs (q : Nat × Value) => All2 (SR (cxOf A g B w)) cs q.2.cells.toList ∧ ∀ u ∈ q.2.cells.toList, u.oneCell' = true) css vals → decAll Bx c css = some xs → (∀ id ∈ idsL css.flatten, isLive B id = true → id ∈ ([] : List Nat)) → orgLe (orgL Bx css.flatten) org = true →
    All2 (DR w ((cxOf A g B w).ok org) c) xs (vals.map (·.2.cells.toList)) := by
  intro css
  induction css with
  | nil =>
    intro vals xs org ha h _ _
    cases vals with
    | nil => simp [decAll] at h; subst h; trivial
    | cons => exact ha.elim
  | cons cs r ih =>
    intro vals xs org ha h hi ho
    cases vals with
    | nil => exact ha.elim
    | cons q vals =>
      simp only [decAll] at h
      split at h
      · rename_i x ys hx hys
        cases h
        rw [List.flatten_cons] at hi ho
        rw [orgL_app] at ho
        have hd := decC_dr hM hB (I := []) (org := org) ha.1.1 hx (fun id h => hi id (idsL_mem_left _ _ h)) (orgLe_trans (orgLe_or_left _ _) ho)
        exact ⟨hd.mono (Nat.le_refl _) fun b hb hok => ⟨okI_nil hok, rfl⟩, ih vals ys org ha.2 hys (fun id h => hi id (idsL_mem_right _ _ h)) (orgLe_trans (orgLe_or_right _ _) ho)⟩
      · cases h

theorem buildSliceK_post (hM : Mem A g B w) (hB : Sub Bx B) (hT : ∀ n, TR (cxOf A g B w) (tm n) (a.tmps.getD n undef)) {id : Nat} {t : TypeId} {len : Nat} {ps : Array (Nat × Operand)} (ho : o.op = .buildSlice t len ps)
    (h : buildSliceK E Bx id t len (ps.toList.map fun p => (p.1, evalO tm p.2)) pk = some (r, d)) : Post E.P A g B a w o r d := by
  unfold buildSliceK at h
  split at h
  · rename_i e he
    split at h
    · rename_i c sz css hc hsz hcss
      split at h
      · rename_i hcond
        simp only [Bool.and_eq_true, decide_eq_true_eq] at hcond
        obtain ⟨⟨⟨⟨h1, h2⟩, h3⟩, h4⟩, h6⟩ := hcond
        obtain ⟨hM1, hL1, hB1⟩ := frz_step hM hB (idsL css.flatten)
        have h2 := Nat.eq_of_beq_eq_true h2
        have h3 := Nat.eq_of_beq_eq_true h3
        split at h
        · rename_i xs hxs
          have hmk : ∃ d', applyB Bx (frzL Bx (idsL css.flatten)) id = .fresh ∧ r = one (.own id) ∧ d = frzL Bx (idsL css.flatten) ++ d' ∧ d' = [(id, .live (.vec (orgL (applyB Bx (frzL Bx (idsL css.flatten))) css.flatten) c xs))] := by
            unfold mkB at h
            split at h
            · rename_i hf; cases h; exact ⟨_, hf, rfl, rfl, rfl⟩
            · cases h
          obtain ⟨d', hf, rfl, rfl, hd'⟩ := hmk
          obtain ⟨z, hz⟩ := Option.isSome_iff_exists.1 h6
          obtain ⟨ie, hie, hz⟩ := Option.bind_eq_some_iff.1 hz
          have hisz : ie.size = csize c := by simp [szT, hie] at hsz; omega
          obtain ⟨p1, p2⟩ := parts_sr hT _ _ hcss
          have hrows := decAll_rows hM1 hB1 _ _ xs _ (p2.mono fun _ _ hh => ⟨hh.1.mono fun _ _ => hL1.sr, hh.2⟩) hxs (fun q hq hl => by
            obtain ⟨v, hv⟩ := decAll_ids _ _ hxs q hq
            rw [frz_notlive hB hq hv] at hl
            cases hl) (orgLe_refl _)
          have hcl : ∀ cs ∈ (ps.toList.map fun p => (p.1, a.eval p.2)).map (·.2.cells.toList), cs.length = csize c := fun cs hcs => rows_len hrows cs hcs
          have hplen : (ps.toList.map fun p => (p.1, a.eval p.2)).length = len := by simpa using h2
          have hxlen : xs.length = len := by rw [hrows.length]; simpa using h2
          unfold elemT at he
          split at he
          · rename_i e' hu
            obtain rfl : e = e' := by simpa using he.symm
            obtain ⟨arr', f1, f2⟩ := fill_rows ie.size (ps.toList.map fun p => (p.1, a.eval p.2)) 0 ((Array.range (len * ie.size)).map (z.cells[· % z.cells.size]!)) (fun i p hp => by
              refine ⟨?_, ?_⟩
              · have : (ps.toList.map fun p => (p.1, evalO tm p.2))[i]? = some (p.1, evalO tm (ps.toList.getD i (0, .const undef)).2) := by
                  simp only [List.getElem?_map, Option.map_eq_some_iff] at hp ⊢
                  obtain ⟨q, hq, rfl⟩ := hp
                  refine ⟨q, hq, ?_⟩
                  simp only [List.getD, hq, Option.getD_some]
                exact inOrder_get _ _ h1 _ _ this
              · have := hcl p.2.cells.toList (by
                  rw [List.mem_map]
                  exact ⟨p, List.mem_of_getElem? hp, rfl⟩)
                rw [hisz]; simpa using this) (by rw [hplen]; simp)
            have hpost : Post E.P A g (applyB B (frzL Bx (idsL css.flatten))) a w o (one (.own id)) d' := by
             rw [hd']
             refine vec_post hM1 (hB1.fresh _ hf) hrows (w1 := w) (cap := len) (arr := arr') rfl rfl ⟨rfl, Nat.le_refl _⟩ rfl (by omega) ?_ (fun j u hj => ?_) (t := e) ?_
             · have := congrArg List.length f2
               simp only [Nat.zero_mul, List.take_zero, List.nil_append, Array.length_toList] at this
               rw [flatten_length hcl] at this
               simp only [List.length_map] at this hplen
               rw [this, hplen]
               exact Nat.le_refl _
             · have : arr'.toList[j]? = some u := by rw [f2]; simpa using hj
               simpa using this
             · have hrun : (Instr.buildSlice t len (ps.map fun p => (p.1, a.eval p.2))).run E.P w = .ok (.slice (some ⟨w.heap.size, 0, none⟩) len len) (w.alloc (.cells arr' e)) := by
                 have hsm : ¬ len * ie.size > 2 ^ 24 := by
                   have : len * sz ≤ 65536 := h4
                   rw [h3] at this
                   rw [hisz]
                   omega
                 by_cases hpos : len * ie.size = 0
                 · have hz0 : (Array.range (len * ie.size)).map (z.cells[· % z.cells.size]!) = #[] := by rw [hpos]; simp
                   rw [hz0] at f1
                   have f1' : Instr.fill (fun i => some (i * ie.size, ie.size)) #[] (ps.map fun p => (p.1, a.eval p.2)).toList = some arr' := by simpa using f1
                   simp [Instr.buildSlice, run_underlying hu, sizeOf, typeInfo, zeroValue, hie, hpos]
                   rw [show (Array.map (fun p => (p.fst, a.eval p.snd)) ps).toList = List.map (fun p => (p.fst, a.eval p.snd)) ps.toList by simp] at f1'
                   rw [show Array.map (fun (x : Nat) => (default : Value)) (Array.range 0) = #[] by simp, f1']
                   simp [newRow]
                 · exact run_buildSlice w t e len _ arr' ie z hu hie hz hsm hpos (by simpa using f1)
               simp only [execOp, ho, Sem.run_bind]
               rw [show (Array.map (fun x => match x with | (i, x) => (i, a.eval x)) ps) = ps.map fun p => (p.1, a.eval p.2) from rfl, hrun]
               rw [hxlen]
               rfl
            obtain ⟨g', w', m1, m2, m3⟩ := hpost
            refine ⟨g', w', ?_, ?_, ?_⟩
            · rw [applyB_append]; exact m1
            · rw [applyB_append]; exact hL1.trans m2
            · rw [applyB_append]; exact m3
          · cases he
        · cases h
      · cases h
    · cases h
  · cases h

end
end Ai
end Go.Proofs.YtpboclokodgnlaaGreat

/-! A14: The ideal interpreter against the machine: append, clear, slices of slices, conversions. -/
namespace Go.Proofs.YtpboclokodgnlaaGreat
namespace Ai
set_option linter.unusedSimpArgs false
set_option linter.unusedVariables false

/-- Rows from elements. -/
theorem rows_of {w : World} {ok : Nat → Prop} {c : Cd} {b k : Nat} : ∀ (ys : List (El c)) (n : Nat), (∀ (i : Nat) x, ys[i]? = some x → ∃ cs', DR w ok c x cs' ∧ ∀ (j : Nat) v, cs'[j]? = some v → w.cell? ⟨b, k + (n + i) * csize c + j, none⟩ = some v) →
    ∃ css : List (List Value), All2 (DR w ok c) ys css ∧ ∀ (j : Nat) u, css.flatten[j]? = some u → w.cell? ⟨b, k + n * csize c + j, none⟩ = some u := by
  intro ys
  induction ys with
  | nil => intro n _; exact ⟨[], trivial, fun j u h => by simp at h⟩
  | cons y ys ih =>
    intro n h
    obtain ⟨cs, hd, hv⟩ := h 0 y rfl
    obtain ⟨css, ha, hvs⟩ := ih (n + 1) fun i x hx => by
      obtain ⟨cs', h1, h2⟩ := h (i + 1) x (by simpa using hx)
      exact ⟨cs', h1, fun j v hj => by have := h2 j v hj; rwa [show n + (i + 1) = n + 1 + i by omega] at this⟩
    refine ⟨cs :: css, ⟨hd, ha⟩, fun j u hj => ?_⟩
    have hl := hd.length
    rw [List.flatten_cons] at hj
    by_cases hjl : j < cs.length
    · rw [List.getElem?_append_left hjl] at hj
      have := hv j u hj
      simpa using this
    · rw [List.getElem?_append_right (by omega)] at hj
      have := hvs _ u hj
      rw [Nat.add_mul, Nat.one_mul, hl] at this
      rwa [show k + (n * csize c + csize c) + (j - csize c) = k + n * csize c + j by omega] at this

section
variable {E : Env} {A : Base} {g : Nat → Option Loc} {B Bx : Nat → BS} {tm : Nat → T} {a : Act} {w : World} {o : Oper} {r : T} {d : List (Nat × BS)}

/-- What a slice holds, as rows; their own slices lie where nobody owns. -/
def Rows (C : Cx) (org : Nat) (c : Cd) (xs : List (El c)) (v : Value) : Prop :=
  ∃ css : List (List Value), All2 (DR C.w (C.ok org) c) xs css ∧
    ((v = .slice none 0 0 ∧ css = [] ∧ xs = []) ∨ ∃ b k cap, v = .slice (some ⟨b, k, none⟩) xs.length cap ∧ xs.length ≤ cap ∧ ∀ (j : Nat) u, css.flatten[j]? = some u → C.w.cell? ⟨b, k + j, none⟩ = some u)

theorem castL_rows {C : Cx} {org : Nat} {c c' : Cd} (h : c' = c) {xs : List (El c')} {v : Value} (hd : Rows C org c' xs v) : Rows C org c (castL h xs) v := by
  subst h; exact hd

/-- Rows of a named slice, or of a part of it. -/
theorem named_rows (hM : Mem A g B w) (hB : Sub Bx B) {id : Nat} {v : Vc} (hv : vecOf Bx id = some v) {l : Loc} (hg : g id = some l) {org' : Nat} (ho : orgLe v.org org' = true) (lo hi : Nat) (h1 : lo ≤ hi) (h2 : hi ≤ l.n) :
    Rows (cxOf A g B w) org' v.c (cut lo hi v.xs) (l.sub lo hi) := by
  have hdr := vecOf_dr hM hB hv hg (I := [id]) (fun _ => List.mem_singleton.2 rfl) (orgLe_refl _)
  obtain ⟨hd, hz, hn, hc⟩ := hdr
  cases hnil : l.nil
  · have hlen : (cut lo hi v.xs).length = hi - lo := length_cut (by omega)
    have hel : ∀ (i : Nat) x, (cut lo hi v.xs)[i]? = some x → ∃ cs', DR w ((cxOf A g B w).ok org') v.c x cs' ∧ ∀ (j : Nat) u, cs'[j]? = some u → w.cell? ⟨l.b, (l.o + lo * l.sz) + (0 + i) * csize v.c + j, none⟩ = some u := by
      intro i x hx
      rw [getElem?_cut] at hx
      split at hx
      · obtain ⟨cs, _, hcell, hd, _⟩ := vec_elem hM hB hv hg (i := lo + i) (by omega)
        have hx' : v.xs.getD (lo + i) (dflt v.c) = x := by simp [List.getD, hx]
        rw [hx'] at hd
        refine ⟨cs, hd.mono (Nat.le_refl _) fun b hb hok => ⟨⟨A.mono _ _ _ ho hok.1, hok.2⟩, rfl⟩, fun j u hj => ?_⟩
        have := hcell j u hj
        rw [Nat.add_mul] at this
        rw [← hz, Nat.zero_add, show l.o + lo * l.sz + i * l.sz + j = l.o + (lo * l.sz + i * l.sz) + j by omega]
        exact this
      · cases hx
    obtain ⟨css, h3, h4⟩ := rows_of (b := l.b) (k := l.o + lo * l.sz) _ 0 hel
    have hsub : l.sub lo hi = .slice (some (if l.cap = lo then ⟨l.b, l.o, none⟩ else ⟨l.b, l.o + lo * l.sz, none⟩)) (hi - lo) (l.cap - lo) := by simp [Loc.sub, hnil]
    rw [hsub]
    by_cases e : l.cap = lo
    · have h0 : cut lo hi v.xs = [] := by
        apply List.eq_nil_of_length_eq_zero
        rw [hlen]; omega
      refine ⟨css, h3, .inr ⟨l.b, l.o, l.cap - lo, by rw [if_pos e, hlen], by rw [hlen]; omega, fun j u hj => ?_⟩⟩
      rw [h0] at h3
      match css, h3 with
      | [], _ => simp at hj
    · refine ⟨css, h3, .inr ⟨l.b, l.o + lo * l.sz, l.cap - lo, by rw [if_neg e, hlen], by rw [hlen]; omega, fun j u hj => ?_⟩⟩
      have := h4 j u hj
      show w.cell? _ = _
      simpa using this
  · unfold Loc.sl at hd
    rw [hnil] at hd
    rcases hd with ⟨e, h0⟩ | ⟨b, k, cap, e, h4, _⟩
    · simp only [cond_true, List.cons.injEq, and_true] at e
      refine ⟨[], ?_, .inl ⟨by simp [Loc.sub, hnil, e], rfl, by rw [h0]; simp [cut]⟩⟩
      rw [h0]
      simp [cut, All2]
    · simp only [cond_true, List.cons.injEq, Value.slice.injEq, and_true] at e
      obtain ⟨e, e1, e2⟩ := e
      have h0 : v.xs = [] := List.eq_nil_of_length_eq_zero e1.symm
      refine ⟨[], ?_, .inr ⟨b, k, 0, by simp [Loc.sub, hnil, e, h0, cut], by rw [h0]; simp [cut], fun j u hj => by simp at hj⟩⟩
      rw [h0]
      simp [cut, All2]

theorem list_rows (hM : Mem A g B w) (hB : Sub Bx B) {c : Cd} {s : Sc} {v : Value} (hs : SR (cxOf A g B w) s v) {xs : List (El c)} (h : listOf Bx c s = some xs) {org : Nat} (ho : orgLe (orgS Bx s) org = true) :
    Rows (cxOf A g B w) org c xs v := by
  cases s <;> simp only [listOf] at h
  case ps org' c' ys =>
    split at h
    · rename_i hc
      cases h
      refine castL_rows hc ?_
      have : DR w ((cxOf A g B w).ok org') (.list c') ys [v] := hs
      have h2 : DR w ((cxOf A g B w).ok org) (.list c') ys [v] := this.mono (Nat.le_refl _) fun b hb hok => ⟨⟨A.mono _ _ _ ho hok.1, hok.2⟩, rfl⟩
      exact dr_rows h2
    · cases h
  case psn org' c' ys =>
    split at h
    · rename_i hc
      cases h
      refine castL_rows hc ?_
      have : DR w ((cxOf A g B w).ok org') (.list c') ys [v] := hs.1
      have h2 : DR w ((cxOf A g B w).ok org) (.list c') ys [v] := this.mono (Nat.le_refl _) fun b hb hok => ⟨⟨A.mono _ _ _ ho hok.1, hok.2⟩, rfl⟩
      exact dr_rows h2
    · cases h
  case nils => cases h; exact ⟨[], trivial, .inl ⟨hs, rfl, rfl⟩⟩
  case own id =>
    split at h
    · rename_i q hq
      split at h
      · rename_i hc
        cases h
        obtain ⟨l, hl, rfl⟩ := hs
        obtain ⟨_, hz, hn, hcap⟩ := vecOf_dr hM hB hq hl (I := [id]) (fun _ => List.mem_singleton.2 rfl) (orgLe_refl _)
        have := named_rows hM hB hq hl (org' := org) (by simpa [orgS, hq] using ho) 0 l.n (Nat.zero_le _) (Nat.le_refl _)
        have hcut : cut 0 l.n q.xs = q.xs := by simp [cut, hn]
        rw [hcut] at this
        refine castL_rows hc ?_
        have hsub : l.sub 0 l.n = l.sl := by
          unfold Loc.sub Loc.sl
          cases l.nil <;> simp
        rwa [hsub] at this
      · cases h
    · cases h
  case sub id lo hi =>
    split at h
    · rename_i q hq
      split at h
      · rename_i hc
        cases h
        obtain ⟨l, hl, h1, h2, h3, h4, rfl⟩ := hs
        subst hc
        exact named_rows hM hB hq hl (by simpa [orgS, hq] using ho) lo hi h1 h2
      · cases h
    · cases h
  all_goals cases h

theorem run_of_bin {c : Call} {b : Builtin} (hc : c.callee = .builtin b) (ho : o.op = .call c) (P : Program) (w : World) :
    (execOp a.eval o).run P w = (builtin b c.argTypes o.type (c.args.map fun | .const _ => true | _ => false) (c.args.map a.eval)).run P w := by
  simp [execOp, ho, resolve, hc, invoke]
  rfl

/-- What is appended. -/
theorem src_of {P : Program} {size : Nat} {tx e' : TypeId} (hk : P.underlying tx = some (.slice e')) {C : Cx} {org : Nat} {c : Cd} {xs : List (El c)} {v : Value} (hsz : size = csize c) {css : List (List Value)} (ha : All2 (DR C.w (C.ok org) c) xs css)
    (h : (v = .slice none 0 0 ∧ css = [] ∧ xs = []) ∨ ∃ b k cap, v = .slice (some ⟨b, k, none⟩) xs.length cap ∧ xs.length ≤ cap ∧ ∀ (j : Nat) u, css.flatten[j]? = some u → C.w.cell? ⟨b, k + j, none⟩ = some u) :
    Src P size tx v xs.length css.flatten C.w := by
  rcases h with ⟨rfl, rfl, rfl⟩ | ⟨b, k, cap, rfl, hc, hcell⟩
  · exact Src.ofNil C.w hk 0
  · refine Src.ofSlice C.w hk _ _ _ _ ?_ (fun j u hj => ?_) (rows_one ha)
    · rw [flatten_length (rows_len ha), ← ha.length, hsz]
    · rw [addr_add]; exact hcell j u hj

theorem size_zeroCells (z : Array Value) (n : Nat) : (Builtin.zeroCells z n).size = n * z.size := by simp [Builtin.zeroCells]

theorem append_run_nils {P : Program} {w : World} {t tx ty e : TypeId} {i : TypeInfo} {x : Value} (ad : Option Addr) (ht : P.underlying t = some (.slice e)) (hi : P.info? e = some i) (hs : Src P i.size tx x 0 [] w) :
    (Builtin.append_ #[t, tx] ty #[.slice ad 0 0, x]).run P w = .ok (.slice ad 0 0) w := by
  have hc := hs.cells
  cases ad <;> rcases hs.kind with ⟨e', hk⟩ | hk <;> simp [Builtin.append_, run_underlying ht, run_underlying hk, sizeOf, typeInfo, hi, hs.len, hc, storeCells]

theorem first_none {P : Program} {w : World} (size : Nat) (ad : Option Addr) : (Builtin.firstCells size 0 (.slice ad 0 0)).run P w = .ok #[] w := by
  cases ad with
  | none => exact run_firstCells_none _ _ _ _ _
  | some a => exact run_firstCells_some w size 0 a 0 0 [] (by simp) (fun j v h => by simp at h)

theorem append_run_room {P : Program} {w : World} {t tx ty e : TypeId} {i : TypeInfo} {x : Value} (ht : P.underlying t = some (.slice e)) (hi : P.info? e = some i) {n : Nat} {news : List Value} (hs : Src P i.size tx x n news w) {b off len cap : Nat}
    (hroom : len + n ≤ cap) {arr : Array Value} {u : TypeId} (hb : w.heap[b]? = some (.cells arr u (0, 0))) (hfit : off + len * i.size + news.length ≤ arr.size) :
    (Builtin.append_ #[t, tx] ty #[.slice (some ⟨b, off, none⟩) len cap, x]).run P w = .ok (.slice (some ⟨b, off, none⟩) (len + n) cap)
      (w.setRow b (arr.toList.take (off + len * i.size) ++ news ++ arr.toList.drop (off + len * i.size + news.length)).toArray) := by
  have hst := run_storeCells_at P b (off + len * i.size) u news 0 arr w hb (by omega) hs.one
  simp only [Nat.add_zero] at hst
  rcases hs.kind with ⟨e', hk⟩ | hk <;> simp [Builtin.append_, run_underlying ht, run_underlying hk, sizeOf, typeInfo, hi, hs.len, hroom, hs.cells, Addr.add_lit, hst]

theorem castL_length {c c' : Cd} (h : c' = c) (xs : List (El c')) : (castL h xs).length = xs.length := by subst h; rfl

theorem appendK_post (hM : Mem A g B w) (hB : Sub Bx B) (hT : ∀ n, TR (cxOf A g B w) (tm n) (a.tmps.getD n undef)) {id : Nat} {c : Call} {t u : TypeId} {x y : Operand}
    (hts : c.argTypes = #[t, u]) (hc : c.callee = .builtin .append) (hargs : c.args = #[x, y]) (ho : o.op = .call c) {e' : TypeId} (hu : E.P.underlying u = some (.slice e'))
    (h : appendK E Bx id t (evalO tm x) (evalO tm y) pk = some (r, d)) : Post E.P A g B a w o r d := by
  have hx := evalO_tr hT x
  have hy := evalO_tr hT y
  have hr : (execOp a.eval o).run E.P w = ((Builtin.append_ #[t, u] o.type #[a.eval x, a.eval y]).run E.P w).andThen fun v w => .ok (.value v) w := by
    rw [run_of_bin hc ho]
    simp [builtin, hargs, hts]
  generalize evalO tm x = X at hx h
  generalize evalO tm y = Y at hy h
  unfold appendK at h
  split at h
  · rename_i e he
    have hut : E.P.underlying t = some (.slice e) := by
      unfold elemT at he
      split at he
      · rename_i e2 h2; cases he; exact h2
      · cases he
    split at h
    · rename_i c sz by_ z s q hcd hsz hby hz
      split at h
      · rename_i hcond
        simp only [Bool.and_eq_true, decide_eq_true_eq] at hcond
        obtain ⟨h1, h2, h3, h4, h5⟩ := hcond
        have h1 := Nat.eq_of_beq_eq_true h1
        have h2 := Nat.eq_of_beq_eq_true h2
        obtain ⟨i, v, hi, hzv, hzo⟩ := zero_of hz
        have hisz : i.size = csize c := by simp [szT, hi] at hsz; omega
        have hib : i.bytes ≤ 4096 := by simp [hi] at hby; omega
        have hzsz : v.cells.size = csize c := by
          have := (vr_cells (C := cxOf A g B w) (ofValue_vr hzo) h3).1.length
          simp at this; omega
        split at h
        · rename_i ys hys
          obtain ⟨css, ha, hv⟩ := list_rows hM hB (show SR (cxOf A g B w) q _ from hy) hys (orgLe_refl _)
          have hsrc : Src E.P i.size u (a.eval y) ys.length css.flatten w := src_of (P := E.P) (size := i.size) hu hisz ha hv
          have hylen : ys.length = css.length := ha.length
          have hflen : css.flatten.length = css.length * csize c := flatten_length (rows_len ha)
          -- a new row
          have grow : ∀ (base : Option Addr) (sLen sCap : Nat) (xs : List (El c)) (org : Nat) (olds : List (List Value)), All2 (DR w ((cxOf A g B w).ok (org ||| orgS Bx q)) c) xs olds → xs.length = sLen → sLen + ys.length ≤ LIM → sCap < sLen + ys.length →
              (Builtin.firstCells i.size sLen (.slice base sLen sCap)).run E.P w.drew = .ok olds.flatten.toArray w.drew →
              ∃ arr ty, (Builtin.append_ #[t, u] o.type #[.slice base sLen sCap, a.eval y]).run E.P w = .ok (.slice (some ⟨w.heap.size, 0, none⟩) (sLen + ys.length) (grownCap w (sLen + ys.length) sCap e)) (w.drew.alloc (.cells arr ty)) ∧
                All2 (DR w ((cxOf A g B w).ok (org ||| orgS Bx q)) c) (xs ++ ys) (olds ++ css) ∧ (grownCap w (sLen + ys.length) sCap e) * csize c ≤ arr.size ∧ ∀ (j : Nat) u, (olds ++ css).flatten[j]? = some u → arr[j]? = some u := by
            intro base sLen sCap xs org olds hol hxl hlim hg hold
            have hlim' : sLen + ys.length ≤ 4194304 := hlim
            have hcap := nextslicecap_le hg
            have hfit : Builtin.nextslicecap (sLen + ys.length) sCap * i.bytes ≤ 281474976710656 := by
              have : Builtin.nextslicecap (sLen + ys.length) sCap * i.bytes ≤ 8388608 * 4096 := Nat.mul_le_mul (by omega) hib
              omega
            have hrun := run_append_grow_src w t u o.type e i v hut hi hzv base sLen sCap olds.flatten hold (a.eval y) ys.length css.flatten hsrc hg (by omega) hfit
            refine ⟨_, _, hrun, hol.append (ha.mono fun _ _ hd => hd.mono (Nat.le_refl _) fun b hb hok => ⟨⟨A.mono _ _ _ (orgLe_or_right _ _) hok.1, hok.2⟩, rfl⟩), ?_, fun j u hj => ?_⟩
            · have h6 : olds.flatten.length = sLen * csize c := by rw [flatten_length (rows_len hol), ← hol.length, hxl]
              have h7 := grownCap_ge w (sLen + ys.length) sCap e
              simp only [Array.size_append, List.size_toArray, List.length_append, size_zeroCells, h6, hflen, hzsz]
              rw [← hylen, ← Nat.add_mul, ← Nat.add_mul]
              exact Nat.mul_le_mul_right _ (by omega)
            · rw [List.flatten_append] at hj
              have hjl := (List.getElem?_eq_some_iff.1 hj).1
              rw [Array.getElem?_append_left (by simpa using hjl)]
              simpa using hj
          split at h
          · -- nil
            have hxv : a.eval x = .slice none 0 0 := hx
            obtain ⟨hlim, h⟩ := cond_some h
            obtain ⟨hf, rfl, rfl⟩ := mkB_inv h
            have hlim : ys.length ≤ LIM := by simpa using hlim
            by_cases hys : ys = []
            · subst hys
              match css, ha with
              | [], _ =>
                obtain ⟨hM2, hL2⟩ := hM.makeNil (hB.fresh _ hf) (org := orgS Bx q) (c := c) (l := ⟨0, 0, 0, 0, csize c, true, none⟩) rfl rfl rfl rfl (.inl rfl)
                refine ⟨_, _, hM2, hL2, .inl ⟨.slice none 0 0, ?_, ⟨_, upd_same _ _ _, rfl⟩⟩⟩
                rw [hr, hxv, append_run_nils _ hut hi (by simpa using hsrc)]
                rfl
            · have hpos : 0 < ys.length := List.length_pos_iff.2 hys
              obtain ⟨arr, ty, g1, g2, g3, g4⟩ := grow none 0 0 [] 0 [] trivial rfl (by omega) (by omega) (run_firstCells_none _ _ _ _ _)
              simp only [List.nil_append, Nat.zero_add, Nat.zero_or] at g1 g2 g3 g4
              refine vec_post hM (hB.fresh _ hf) g2 (w1 := w.drew) (cap := grownCap w ys.length 0 e) (arr := arr) (t := ty) rfl rfl ⟨rfl, Nat.le_succ _⟩ rfl (grownCap_ge _ _ _ _) g3 g4 ?_
              rw [hr, hxv, g1]
              rfl
          · rename_i si
            split at h
            · rename_i org c' xs hb
              split at h
              · rename_i hcc
                subst hcc
                split at h
                · cases h
                · rename_i hni
                  obtain ⟨hlim, h⟩ := cond_some h
                  have hlim : xs.length + ys.length ≤ LIM := by simpa using hlim
                  split at h
                  · rename_i hf
                    cases h
                    obtain ⟨l, hg, hxv⟩ := (show SR (cxOf A g B w) (.own si) _ from hx)
                    obtain ⟨l', hg', hbr, hX⟩ := hM.br si _ (hB.live _ _ hb)
                    rw [show g si = some l from hg] at hg'; cases hg'
                    have hfB := hB.fresh _ hf
                    have hne : id ≠ si := by rintro rfl; rw [hB.live _ _ hb] at hfB; cases hfB
                    rcases hbr with ⟨hnil, hx0, hn0, hcap0, hz0, had⟩ | ⟨hnil, hS, hn, hcap, hlz, arr, ty, harr, hfit, hel⟩
                    · -- nil
                      have hxs : l.sl = .slice l.ad 0 0 := by simp [Loc.sl, hnil]
                      rw [hxs] at hxv
                      obtain ⟨hM1, hL1⟩ := hM.kill (id := si) (by rw [hB.live _ _ hb]; simp)
                      have hf1 : upd B si .dead id = .fresh := by rw [upd_ne _ _ hne]; exact hfB
                      subst hx0
                      have hcl : castL rfl ([] : List (El c')) = [] := rfl
                      by_cases hys : ys = []
                      · subst hys
                        match css, ha with
                        | [], _ =>
                          obtain ⟨hM2, hL2⟩ := hM1.makeNil hf1 (org := org ||| orgS Bx q) (c := c') (l := l) hnil hn0 hcap0 hz0 had
                          refine ⟨_, _, hM2, hL1.trans hL2, .inl ⟨.slice l.ad 0 0, ?_, ⟨l, upd_same _ _ _, hxs.symm⟩⟩⟩
                          rw [hr, hxv, append_run_nils _ hut hi (by simpa using hsrc)]
                          rfl
                      · have hpos : 0 < ys.length := List.length_pos_iff.2 hys
                        simp only [List.length_nil, Nat.zero_add] at hlim
                        obtain ⟨arr, ty, g1, g2, g3, g4⟩ := grow l.ad 0 0 [] org [] trivial rfl (by omega) (by omega) (first_none _ _)
                        simp only [List.nil_append, Nat.zero_add] at g1 g2 g3 g4
                        obtain ⟨hM2, hL2⟩ := hM1.make (id := id) hf1 (blk := .vec (org ||| orgS Bx q) c' ys) (l := ⟨w.heap.size, 0, ys.length, grownCap w ys.length 0 e, csize c', false, none⟩)
                          (w' := w.drew.alloc (.cells arr ty)) (o := .cells arr ty) rfl rfl .cells rfl ⟨rfl, Nat.le_succ _⟩ rfl rfl
                          (fun hL2 => rows_br (C := cxOf A _ _ _) (rows_mono (hL1.trans hL2).size (fun b hb hok => by
                              obtain ⟨e1, e2⟩ := (hL1.trans hL2).ow b hb hok.2.1
                              exact ⟨⟨hok.1, e1, fun hn => by rw [e2]; exact hok.2.2 hn⟩, e2⟩) g2) rfl (A.new _ _ hM.fr.size) rfl (grownCap_ge _ _ _ _) rfl (arr := arr) (t := ty) (by show (w.heap.push _)[w.heap.size]? = _; simp) (by simpa using g3) (fun j u hj => by simpa using g4 j u hj))
                        refine ⟨_, _, hM2, hL1.trans hL2, .inl ⟨_, ?_, ⟨_, upd_same _ _ _, rfl⟩⟩⟩
                        rw [hr, hxv, g1]
                        rfl
                    have hxs : l.sl = .slice (some ⟨l.b, l.o, none⟩) l.n l.cap := by simp [Loc.sl, hnil]
                    rw [hxs] at hxv
                    by_cases hroom : l.n + ys.length ≤ l.cap
                    · -- in place
                      have hfit2 : l.o + l.n * csize c' + css.flatten.length ≤ arr.size := by
                        rw [hflen, ← hylen]
                        have : (l.n + ys.length) * csize c' ≤ l.cap * csize c' := Nat.mul_le_mul_right _ hroom
                        rw [Nat.add_mul] at this
                        rw [hlz] at hfit
                        omega
                      have hrun := append_run_room (P := E.P) (ty := o.type) hut hi hsrc (b := l.b) (off := l.o) hroom harr (by rw [hisz]; exact hfit2)
                      have hget : ∀ m, (arr.toList.take (l.o + l.n * csize c') ++ css.flatten ++ arr.toList.drop (l.o + l.n * csize c' + css.flatten.length)).toArray[m]? =
                          if m < l.o + l.n * csize c' then arr[m]? else if m < l.o + l.n * csize c' + css.flatten.length then css.flatten[m - (l.o + l.n * csize c')]? else arr[m]? := by
                        intro m
                        have htl : (arr.toList.take (l.o + l.n * csize c')).length = l.o + l.n * csize c' := by
                          simp only [List.length_take, Array.length_toList]; omega
                        rw [List.getElem?_toArray, List.append_assoc]
                        by_cases q1 : m < l.o + l.n * csize c'
                        · rw [if_pos q1, List.getElem?_append_left (by omega), List.getElem?_take, if_pos q1]; simp
                        · rw [if_neg q1, List.getElem?_append_right (by omega), htl]
                          by_cases q2 : m < l.o + l.n * csize c' + css.flatten.length
                          · rw [if_pos q2, List.getElem?_append_left (by omega)]
                          · rw [if_neg q2, List.getElem?_append_right (by omega), List.getElem?_drop]
                            simp only [Array.getElem?_toList]
                            congr 1
                            omega
                      obtain ⟨hM', hL⟩ := hM.move (blk := .vec (org ||| orgS Bx q) c' (xs ++ ys)) (l' := ⟨l.b, l.o, l.n + ys.length, l.cap, l.sz, false, none⟩) (hB.live _ _ hb) hg hnil hfB rfl rfl
                        (w' := w.setRow l.b (arr.toList.take (l.o + l.n * csize c') ++ css.flatten ++ arr.toList.drop (l.o + l.n * csize c' + css.flatten.length)).toArray)
                        (by simp) (fun k hk => setRow_other w _ _ _ hk) (setRow_heap w _ _ _ _ _ harr) rfl ⟨rfl, Nat.le_refl _⟩ rfl (fun hL => by
                          refine .inr ⟨rfl, A.mono _ _ _ (orgLe_or_left _ _) hS, by simp [hn], hroom, hlz, _, ty, setRow_heap w _ _ _ _ _ harr, ?_, fun j p hp => ?_⟩
                          · have e1 : (arr.toList.take (l.o + l.n * csize c') ++ css.flatten ++ arr.toList.drop (l.o + l.n * csize c' + css.flatten.length)).toArray.size = arr.size := by
                              simp only [List.size_toArray, List.length_append, List.length_take, List.length_drop, Array.length_toList]
                              omega
                            rw [e1]; exact hfit
                          · show ∃ cs, _ ∧ ∀ m v, cs[m]? = some v → _[l.o + j * l.sz + m]? = some v
                            by_cases hj : j < xs.length
                            · rw [List.getElem?_append_left hj] at hp
                              obtain ⟨cs, hd, hv⟩ := hel j p hp
                              refine ⟨cs, (hL.dr hd).mono (Nat.le_refl _) fun b hb hok => ⟨⟨A.mono _ _ _ (orgLe_or_left _ _) hok.1, hok.2⟩, rfl⟩, fun m v hm => ?_⟩
                              have hml : m < csize c' := by rw [← hd.length]; exact (List.getElem?_eq_some_iff.1 hm).1
                              have := hv m v hm
                              rw [hget]
                              have hlt' : l.o + j * l.sz + m < l.o + l.n * csize c' := by
                                have : (j + 1) * csize c' ≤ l.n * csize c' := Nat.mul_le_mul_right _ (by omega)
                                rw [Nat.add_mul] at this
                                rw [hlz]; omega
                              rw [if_pos hlt']; exact this
                            · rw [List.getElem?_append_right (by omega)] at hp
                              obtain ⟨cs, hcs, hd⟩ := ha.get hp
                              refine ⟨cs, (hL.dr hd).mono (Nat.le_refl _) fun b hb hok => ⟨⟨A.mono _ _ _ (orgLe_or_right _ _) hok.1, hok.2⟩, rfl⟩, fun m v hm => ?_⟩
                              have hml : m < csize c' := by rw [← hd.length]; exact (List.getElem?_eq_some_iff.1 hm).1
                              have hfg := flatten_get (rows_len ha) (j - xs.length) cs m hcs hml
                              rw [hm] at hfg
                              have e2 : l.o + j * l.sz + m = l.o + l.n * csize c' + ((j - xs.length) * csize c' + m) := by
                                rw [hlz, hn]
                                have : j * csize c' = xs.length * csize c' + (j - xs.length) * csize c' := by rw [← Nat.add_mul]; congr 1; omega
                                omega
                              rw [hget, e2, if_neg (by omega), if_pos (by have := (List.getElem?_eq_some_iff.1 hfg).1; omega)]
                              rw [Nat.add_sub_cancel_left]
                              exact hfg)
                      refine ⟨_, _, hM', hL, .inl ⟨.slice (some ⟨l.b, l.o, none⟩) (l.n + ys.length) l.cap, ?_, ?_⟩⟩
                      · rw [hr, hxv, hrun, hisz]
                        rfl
                      · exact ⟨_, upd_same _ _ _, rfl⟩
                    · -- a new row
                      obtain ⟨olds, hol, hol2⟩ := rows_of (w := w) (ok := (cxOf A g B w).ok org) (b := l.b) (k := l.o) xs 0 (fun j p hp => by
                        obtain ⟨cs, hd, hv⟩ := hel j p hp
                        exact ⟨cs, hd, fun m v hm => by rw [cell_of (w := w) harr, ← hlz, Nat.zero_add]; exact hv m v hm⟩)
                      have hol3 : All2 (DR w ((cxOf A g B w).ok (org ||| orgS Bx q)) c') xs olds := hol.mono fun _ _ hd => hd.mono (Nat.le_refl _) fun b hb hok => ⟨⟨A.mono _ _ _ (orgLe_or_left _ _) hok.1, hok.2⟩, rfl⟩
                      have hof : olds.flatten.length = l.n * i.size := by rw [flatten_length (rows_len hol), ← hol.length, hn, hisz]
                      obtain ⟨arr2, ty2, g1, g2, g3, g4⟩ := grow (some ⟨l.b, l.o, none⟩) l.n l.cap xs org olds hol3 hn.symm (by omega) (by omega)
                        (run_firstCells_some w.drew _ _ _ _ _ _ hof (fun j v hj => by
                          rw [addr_add]
                          have := hol2 j v hj
                          simpa using this))
                      obtain ⟨hM1, hL1⟩ := hM.kill (id := si) (by rw [hB.live _ _ hb]; simp)
                      obtain ⟨hM2, hL2⟩ := hM1.make (id := id) (by rw [upd_ne _ _ hne]; exact hfB) (blk := .vec (org ||| orgS Bx q) c' (xs ++ ys)) (l := ⟨w.heap.size, 0, l.n + ys.length, grownCap w (l.n + ys.length) l.cap e, csize c', false, none⟩)
                        (w' := w.drew.alloc (.cells arr2 ty2)) (o := .cells arr2 ty2) rfl rfl .cells rfl ⟨rfl, Nat.le_succ _⟩ rfl rfl
                        (fun hL2 => rows_br (C := cxOf A _ _ _) (rows_mono (hL1.trans hL2).size (fun b hb hok => by
                            obtain ⟨e1, e2⟩ := (hL1.trans hL2).ow b hb hok.2.1
                            exact ⟨⟨hok.1, e1, fun hn => by rw [e2]; exact hok.2.2 hn⟩, e2⟩) g2) rfl (A.new _ _ hM.fr.size) (by simp [hn]) (grownCap_ge _ _ _ _) rfl (arr := arr2) (t := ty2) (by show (w.heap.push _)[w.heap.size]? = _; simp) (by simpa using g3) (fun j u hj => by simpa using g4 j u hj))
                      refine ⟨_, _, hM2, hL1.trans hL2, .inl ⟨_, ?_, ⟨_, upd_same _ _ _, rfl⟩⟩⟩
                      rw [hr, hxv, g1]
                      rfl
                  · cases h
              · cases h
            · cases h
          · cases h
        · cases h
      · cases h
    · cases h
  · cases h

end
end Ai
end Go.Proofs.YtpboclokodgnlaaGreat

/-! A14b: The ideal interpreter against the machine: a part of an owned slice written anew: copy, clear. -/
namespace Go.Proofs.YtpboclokodgnlaaGreat
namespace Ai
set_option linter.unusedSimpArgs false
set_option linter.unusedVariables false
set_option linter.unnecessarySimpa false

section
variable {E : Env} {A : Base} {g : Nat → Option Loc} {B Bx : Nat → BS} {tm : Nat → T} {a : Act} {w : World} {o : Oper} {r : T} {d : List (Nat × BS)}

theorem upd_keep {α : Type} (f : Nat → α) (k : Nat) (x : α) (h : f k = x) : upd f k x = f := by
  funext n
  rcases upd_cases f k n x with ⟨rfl, e⟩ | ⟨_, e⟩
  · rw [e, h]
  · exact e

theorem overL_len {α : Type} {xs ys : List α} {k : Nat} (h : k + ys.length ≤ xs.length) : (overL xs ys k).length = xs.length := by
  simp [overL]; omega

theorem overL_get {α : Type} {xs ys : List α} {k : Nat} (h : k + ys.length ≤ xs.length) (i : Nat) : (overL xs ys k)[i]? = if i < k then xs[i]? else if i < k + ys.length then ys[i - k]? else xs[i]? := by
  unfold overL
  have htl : (xs.take k).length = k := by simp; omega
  rw [List.append_assoc]
  by_cases q1 : i < k
  · rw [if_pos q1, List.getElem?_append_left (by omega), List.getElem?_take, if_pos q1]
  · rw [if_neg q1, List.getElem?_append_right (by omega), htl]
    by_cases q2 : i < k + ys.length
    · rw [if_pos q2, List.getElem?_append_left (by omega)]
    · rw [if_neg q2, List.getElem?_append_right (by omega), List.getElem?_drop]
      congr 1
      omega

theorem overL_nil {α : Type} (xs : List α) (k : Nat) : overL xs [] k = xs := by simp [overL]

/-- Elements written over a part of an owned row. -/
theorem over_mem (hM : Mem A g B w) {id org : Nat} {c : Cd} {xs : List (El c)} (hid : B id = .live (.vec org c xs)) {l : Loc} (hg : g id = some l) (hnil : l.nil = false) {ys : List (El c)} {css : List (List Value)}
    (ha : All2 (DR w ((cxOf A g B w).ok org) c) ys css) {lo : Nat} (hlo : lo + ys.length ≤ xs.length) :
    ∃ arr ty, w.heap[l.b]? = some (.cells arr ty (0, 0)) ∧ l.sz = csize c ∧ l.n = xs.length ∧ l.o + lo * csize c + css.flatten.length ≤ arr.size ∧ ∀ w', w' = w.setRow l.b (arr.toList.take (l.o + lo * csize c) ++ css.flatten ++ arr.toList.drop (l.o + lo * csize c + css.flatten.length)).toArray →
      Mem A g (upd B id (.live (.vec org c (overL xs ys lo)))) w' ∧ Later (cxOf A g B w) (cxOf A g (upd B id (.live (.vec org c (overL xs ys lo)))) w') := by
  obtain ⟨l', hg', hbr, hX⟩ := hM.br id _ hid
  rw [hg] at hg'; cases hg'
  rcases hbr with ⟨h, _⟩ | ⟨_, hS, hn, hcap, hlz, arr, ty, harr, hfit, hel⟩
  · rw [hnil] at h; cases h
  have hflen : css.flatten.length = ys.length * csize c := by rw [flatten_length (rows_len ha), ← ha.length]
  have hfit2 : l.o + lo * csize c + css.flatten.length ≤ arr.size := by
    rw [hflen]
    have : (lo + ys.length) * csize c ≤ l.cap * csize c := Nat.mul_le_mul_right _ (by omega)
    rw [Nat.add_mul] at this
    rw [hlz] at hfit
    omega
  refine ⟨arr, ty, harr, hlz, hn, hfit2, fun w' hw' => ?_⟩
  subst hw'
  have hget : ∀ m, (arr.toList.take (l.o + lo * csize c) ++ css.flatten ++ arr.toList.drop (l.o + lo * csize c + css.flatten.length)).toArray[m]? =
      if m < l.o + lo * csize c then arr[m]? else if m < l.o + lo * csize c + css.flatten.length then css.flatten[m - (l.o + lo * csize c)]? else arr[m]? := by
    intro m
    have htl : (arr.toList.take (l.o + lo * csize c)).length = l.o + lo * csize c := by
      simp only [List.length_take, Array.length_toList]; omega
    rw [List.getElem?_toArray, List.append_assoc]
    by_cases q1 : m < l.o + lo * csize c
    · rw [if_pos q1, List.getElem?_append_left (by omega), List.getElem?_take, if_pos q1]; simp
    · rw [if_neg q1, List.getElem?_append_right (by omega), htl]
      by_cases q2 : m < l.o + lo * csize c + css.flatten.length
      · rw [if_pos q2, List.getElem?_append_left (by omega)]
      · rw [if_neg q2, List.getElem?_append_right (by omega), List.getElem?_drop]
        simp only [Array.getElem?_toList]
        congr 1
        omega
  refine hM.set (blk := .vec org c (overL xs ys lo)) hid hg hnil .cells (by simp) (fun k hk => setRow_other w _ _ _ hk) (setRow_heap w _ _ _ _ _ harr) rfl ⟨rfl, Nat.le_refl _⟩ rfl (fun hL => ?_)
  refine .inr ⟨hnil, hS, by rw [overL_len hlo]; exact hn, hcap, hlz, _, ty, setRow_heap w _ _ _ _ _ harr, ?_, fun j p hp => ?_⟩
  · have e1 : (arr.toList.take (l.o + lo * csize c) ++ css.flatten ++ arr.toList.drop (l.o + lo * csize c + css.flatten.length)).toArray.size = arr.size := by
      simp only [List.size_toArray, List.length_append, List.length_take, List.length_drop, Array.length_toList]
      omega
    rw [e1]; exact hfit
  · rw [overL_get hlo] at hp
    show ∃ cs, _ ∧ ∀ m v, cs[m]? = some v → _[l.o + j * l.sz + m]? = some v
    have old : xs[j]? = some p → (j < lo ∨ lo + ys.length ≤ j) → ∃ cs, DR (w.setRow l.b (arr.toList.take (l.o + lo * csize c) ++ css.flatten ++ arr.toList.drop (l.o + lo * csize c + css.flatten.length)).toArray) ((cxOf A g (upd B id (.live (.vec org c (overL xs ys lo)))) (w.setRow l.b (arr.toList.take (l.o + lo * csize c) ++ css.flatten ++ arr.toList.drop (l.o + lo * csize c + css.flatten.length)).toArray)).ok org) c p cs ∧
        ∀ m v, cs[m]? = some v → (arr.toList.take (l.o + lo * csize c) ++ css.flatten ++ arr.toList.drop (l.o + lo * csize c + css.flatten.length)).toArray[l.o + j * l.sz + m]? = some v := fun hx hj => by
      obtain ⟨cs, hd, hv⟩ := hel j p hx
      refine ⟨cs, hL.dr hd, fun m v hm => ?_⟩
      have hml : m < csize c := by rw [← hd.length]; exact (List.getElem?_eq_some_iff.1 hm).1
      have := hv m v hm
      rw [hget]
      rcases hj with hj | hj
      · have hlt' : l.o + j * l.sz + m < l.o + lo * csize c := by
          have : (j + 1) * csize c ≤ lo * csize c := Nat.mul_le_mul_right _ (by omega)
          rw [Nat.add_mul] at this
          rw [hlz]; omega
        rw [if_pos hlt']; exact this
      · have hge : l.o + lo * csize c + css.flatten.length ≤ l.o + j * l.sz + m := by
          have : (lo + ys.length) * csize c ≤ j * csize c := Nat.mul_le_mul_right _ hj
          rw [Nat.add_mul] at this
          rw [hlz, hflen]; omega
        rw [if_neg (by omega), if_neg (by omega)]; exact this
    by_cases q1 : j < lo
    · rw [if_pos q1] at hp
      exact old hp (.inl q1)
    · rw [if_neg q1] at hp
      by_cases q2 : j < lo + ys.length
      · rw [if_pos q2] at hp
        obtain ⟨cs, hcs, hd⟩ := ha.get hp
        refine ⟨cs, hL.dr hd, fun m v hm => ?_⟩
        have hml : m < csize c := by rw [← hd.length]; exact (List.getElem?_eq_some_iff.1 hm).1
        have hfg := flatten_get (rows_len ha) (j - lo) cs m hcs hml
        rw [hm] at hfg
        have e2 : l.o + j * l.sz + m = l.o + lo * csize c + ((j - lo) * csize c + m) := by
          rw [hlz]
          have : j * csize c = lo * csize c + (j - lo) * csize c := by rw [← Nat.add_mul]; congr 1; omega
          omega
        rw [hget, e2, if_neg (by omega), if_pos (by have := (List.getElem?_eq_some_iff.1 hfg).1; omega)]
        rw [Nat.add_sub_cancel_left]
        exact hfg
      · rw [if_neg q2] at hp
        exact old hp (.inr (by omega))

/-- Where a slice's part of an owned row lies. -/
theorem span_at (hM : Mem A g B w) (hB : Sub Bx B) {s : Sc} {v : Value} (hs : SR (cxOf A g B w) s v) {id lo hi : Nat} (h : spanS Bx s = some (id, lo, hi)) {org : Nat} {c : Cd} {xs : List (El c)} (hid : Bx id = .live (.vec org c xs)) :
    ∃ l, g id = some l ∧ lo ≤ hi ∧ hi ≤ xs.length ∧ l.n = xs.length ∧ ((l.nil = true ∧ lo = hi ∧ xs = [] ∧ ∃ ad, v = .slice ad 0 0) ∨ (l.nil = false ∧ ∃ cap, v = .slice (some (if l.cap = lo then ⟨l.b, l.o, none⟩ else ⟨l.b, l.o + lo * l.sz, none⟩)) (hi - lo) cap ∧ (lo < hi → ¬ l.cap = lo))) := by
  obtain ⟨l, hg, hbr, _⟩ := hM.br id _ (hB.live _ _ hid)
  have hn : l.n = xs.length ∧ l.n ≤ l.cap ∧ (l.nil = true → xs = []) := by
    rcases hbr with ⟨hnil, hx0, hn0, hcap0, _, _⟩ | ⟨hnil, _, hn, hcap, _⟩
    · subst hx0; exact ⟨by simp [hn0], by omega, fun _ => rfl⟩
    · exact ⟨hn, hcap, fun e => by rw [hnil] at e; cases e⟩
  have mk : ∀ (lo hi : Nat), lo ≤ hi → hi ≤ l.n → v = l.sub lo hi → (l.nil = true → hi = 0) → ∃ l', g id = some l' ∧ lo ≤ hi ∧ hi ≤ xs.length ∧ l'.n = xs.length ∧ ((l'.nil = true ∧ lo = hi ∧ xs = [] ∧ ∃ ad, v = .slice ad 0 0) ∨ (l'.nil = false ∧ ∃ cap, v = .slice (some (if l'.cap = lo then ⟨l'.b, l'.o, none⟩ else ⟨l'.b, l'.o + lo * l'.sz, none⟩)) (hi - lo) cap ∧ (lo < hi → ¬ l'.cap = lo))) := by
    intro lo hi h1 h2 hv h3
    refine ⟨l, hg, h1, by omega, hn.1, ?_⟩
    cases hnil : l.nil with
    | true =>
      refine .inl ⟨rfl, by have := h3 hnil; omega, hn.2.2 hnil, l.ad, ?_⟩
      rw [hv]; simp [Loc.sub, hnil]
    | false =>
      refine .inr ⟨rfl, l.cap - lo, ?_, by omega⟩
      rw [hv]; simp [Loc.sub, hnil]
  cases s <;> simp only [spanS] at h
  case own id' =>
    split at h
    · rename_i org' c' xs' hb
      cases h
      rw [hid] at hb
      cases hb
      obtain ⟨l', hg', hv⟩ := (show SR (cxOf A g B w) (.own id) v from hs)
      rw [show (cxOf A g B w).g id = some l from hg] at hg'; cases hg'
      refine mk 0 xs.length (Nat.zero_le _) (by omega) ?_ (fun e => by have := hn.2.2 e; rw [this]; rfl)
      rw [hv, ← hn.1]
      unfold Loc.sub Loc.sl
      cases l.nil <;> simp
    · cases h
  case sub id' lo' hi' =>
    cases h
    obtain ⟨l', hg', h1, h2, h3, h4, hv⟩ := (show SR (cxOf A g B w) (.sub id lo hi) v from hs)
    rw [show (cxOf A g B w).g id = some l from hg] at hg'; cases hg'
    exact mk lo hi h1 h2 hv h4
  all_goals cases h

theorem take_rows {w : World} {ok : Nat → Prop} {c : Cd} {ys : List (El c)} {css : List (List Value)} (ha : All2 (DR w ok c) ys css) (n : Nat) : All2 (DR w ok c) (ys.take n) (css.take n) := ha.take n

theorem flatten_take_get {css : List (List Value)} {sz : Nat} (h : ∀ cs ∈ css, cs.length = sz) (n : Nat) : ∀ (j : Nat) v, (css.take n).flatten[j]? = some v → css.flatten[j]? = some v := by
  intro j v hj
  have : css.flatten = (css.take n).flatten ++ (css.drop n).flatten := by rw [← List.flatten_append, List.take_append_drop]
  rw [this, List.getElem?_append_left (List.getElem?_eq_some_iff.1 hj).1]
  exact hj

theorem copyK_post (hM : Mem A g B w) (hB : Sub Bx B) (hT : ∀ n, TR (cxOf A g B w) (tm n) (a.tmps.getD n undef)) {c : Call} {t u : TypeId} {x y : Operand}
    (hts : c.argTypes = #[t, u]) (hc : c.callee = .builtin .copy) (hargs : c.args = #[x, y]) (ho : o.op = .call c) {e' : TypeId} (hu : E.P.underlying u = some (.slice e'))
    (h : copyK E Bx t (evalO tm x) (evalO tm y) pk = some (r, d)) : Post E.P A g B a w o r d := by
  have hx := evalO_tr hT x
  have hy := evalO_tr hT y
  have hr : (execOp a.eval o).run E.P w = ((Builtin.copy_ #[t, u] o.type #[a.eval x, a.eval y]).run E.P w).andThen fun v w => .ok (.value v) w := by
    rw [run_of_bin hc ho]
    simp [builtin, hargs, hts]
  generalize evalO tm x = X at hx h
  generalize evalO tm y = Y at hy h
  unfold copyK at h
  split at h
  · rename_i e he
    have hut : E.P.underlying t = some (.slice e) := by
      unfold elemT at he
      split at he
      · rename_i e2 h2; cases he; exact h2
      · cases he
    split at h
    · rename_i cd sz s q hcd hsz
      split at h
      · rename_i hcond
        simp only [Bool.and_eq_true] at hcond
        obtain ⟨h1, hflat⟩ := hcond
        have h1 := Nat.eq_of_beq_eq_true h1
        split at h
        · rename_i ys id lo hi hys hsp
          split at h
          · rename_i org c' xs hb
            split at h
            · rename_i hcc
              subst hcc
              cases h
              obtain ⟨i, hi2, hisz⟩ : ∃ i, E.P.info? e = some i ∧ i.size = csize c' := by
                cases hi2 : E.P.info? e with
                | none => simp [szT, hi2] at hsz
                | some i => simp [szT, hi2] at hsz; exact ⟨i, rfl, by omega⟩
              obtain ⟨css, ha, hv⟩ := list_rows hM hB (show SR (cxOf A g B w) q _ from hy) hys (orgLe_refl _)
              obtain ⟨l, hg, hlh, hhx, hln, hcase⟩ := span_at hM hB (show SR (cxOf A g B w) s _ from hx) hsp hb
              have hsrc : Src E.P i.size u (a.eval y) ys.length css.flatten w := src_of (P := E.P) (size := i.size) hu hisz ha hv
              have hbB := hB.live _ _ hb
              have hpost : ∀ w', (Builtin.copy_ #[t, u] o.type #[a.eval x, a.eval y]).run E.P w = .ok (.int .i64 ((min ys.length (hi - lo) : Nat) : Int)) w' →
                  Mem A g (upd B id (.live (.vec org c' (overL xs (ys.take (hi - lo)) lo)))) w' ∧ Later (cxOf A g B w) (cxOf A g (upd B id (.live (.vec org c' (overL xs (ys.take (hi - lo)) lo)))) w') →
                  Post E.P A g B a w o (one (.int .i64 ((min ys.length (hi - lo) : Nat) : Int))) [(id, .live (.vec org c' (overL (castL rfl xs) (ys.take (hi - lo)) lo)))] := fun w' hrun hm => by
                refine ⟨g, w', hm.1, hm.2, .inl ⟨_, ?_, rfl⟩⟩
                rw [hr, hrun]; rfl
              have hlen : (Builtin.lenOf (a.eval y)).run E.P w = .ok ys.length w := hsrc.len w
              rcases hcase with ⟨hnil, rfl, rfl, ad, hxv⟩ | ⟨hnil, cap, hxv, hcapne⟩
              · -- nothing to write
                have e0 : lo - lo = 0 := Nat.sub_self lo
                refine hpost w ?_ ?_
                · rw [hxv, e0]
                  have hfc : (Builtin.firstCells i.size 0 (a.eval y)).run E.P w = .ok #[] w := by
                    rcases hv with ⟨e1, _, _⟩ | ⟨b, k, cap', e1, _, _⟩
                    · rw [e1]; exact run_firstCells_none _ _ _ _ _
                    · rw [e1]; exact run_firstCells_some w i.size 0 _ _ _ [] (by simp) (fun j v h => by simp at h)
                  cases ad <;> simp [Builtin.copy_, run_underlying hut, hlen, sizeOf, typeInfo, hi2, hfc, storeCells, goInt]
                · rw [e0, List.take_zero, overL_nil, upd_keep B id _ hbB]
                  exact ⟨hM, Later.refl _⟩
              · have hlz : l.sz = csize c' := by
                  obtain ⟨l', hg', hbr, _⟩ := hM.br id _ hbB
                  rw [hg] at hg'; cases hg'
                  rcases hbr with ⟨_, _, _, _, hz0, _⟩ | ⟨_, _, _, _, hlz, _⟩
                  · exact hz0
                  · exact hlz
                obtain ⟨arr, ty, harr, _, _, hfit, hset⟩ := over_mem hM hbB hg hnil (take_rows (ha.mono fun _ _ hd => hd.flat hflat) (hi - lo)) (lo := lo) (by simp; omega)
                have hfl : (css.take (hi - lo)).flatten.length = min ys.length (hi - lo) * i.size := by
                  rw [flatten_length (fun cs hcs => rows_len ha cs (List.mem_of_mem_take hcs)), List.length_take, ← ha.length, hisz, Nat.min_comm]
                have hfc : (Builtin.firstCells i.size (min ys.length (hi - lo)) (a.eval y)).run E.P w = .ok (css.take (hi - lo)).flatten.toArray w := by
                  rcases hv with ⟨e1, e2, e3⟩ | ⟨b, k, cap', e1, _, hcell⟩
                  · subst e2; subst e3
                    rw [e1]; simp only [List.take_nil, List.flatten_nil]; exact run_firstCells_none _ _ _ _ _
                  · rw [e1]
                    refine run_firstCells_some w i.size _ _ _ _ _ hfl (fun j v h => ?_)
                    rw [addr_add]
                    exact hcell j v (flatten_take_get (rows_len ha) _ j v h)
                have hone : ∀ v ∈ (css.take (hi - lo)).flatten, v.oneCell' = true := rows_one (take_rows ha (hi - lo))
                rcases Nat.eq_zero_or_pos (hi - lo) with hz | hpos
                · -- nothing to write
                  refine hpost w ?_ ?_
                  · rw [hxv, hz]
                    rw [hz] at hfc
                    simp only [Nat.min_zero, List.take_zero, List.flatten_nil] at hfc ⊢
                    simp [Builtin.copy_, run_underlying hut, hlen, sizeOf, typeInfo, hi2, hfc, storeCells, goInt]
                  · rw [hz, List.take_zero, overL_nil, upd_keep B id _ hbB]
                    exact ⟨hM, Later.refl _⟩
                · have hne := hcapne (by omega)
                  rw [if_neg hne] at hxv
                  have hst := run_storeCells_at E.P l.b (l.o + lo * l.sz) ty (css.take (hi - lo)).flatten 0 arr w harr (by rw [hlz]; simpa using hfit) hone
                  simp only [Nat.add_zero] at hst
                  rw [hlz] at hst
                  have hset' := hset _ rfl
                  generalize hF : (css.take (hi - lo)).flatten = F at hst hfc hset'
                  generalize w.setRow l.b (arr.toList.take (l.o + lo * csize c') ++ F ++ arr.toList.drop (l.o + lo * csize c' + F.length)).toArray = W at hst hset'
                  refine hpost W ?_ hset'
                  rw [hxv]
                  have hmin : Nat.min ys.length (hi - lo) = min ys.length (hi - lo) := rfl
                  simp [Builtin.copy_, run_underlying hut, hlen, sizeOf, typeInfo, hi2, hmin, hfc, hst, goInt, hlz]
            · cases h
          · cases h
        · cases h
      · cases h
    · cases h
  · cases h

theorem zeroCells_rows (z : Array Value) (n : Nat) : (Builtin.zeroCells z n).toList = (List.replicate n z.toList).flatten := by
  have e : (Builtin.zeroCells z n).toList = (List.range (n * z.size)).map fun i => z[i % z.size]! := by simp [Builtin.zeroCells]
  rw [e]
  clear e
  induction n with
  | zero => simp
  | succ n ih =>
    rw [List.replicate_succ', List.flatten_append, ← ih, Nat.add_mul, Nat.one_mul, List.range_add, List.map_append]
    congr 1
    simp only [List.flatten_cons, List.flatten_nil, List.append_nil, List.map_map]
    apply List.ext_getElem?
    intro i
    rw [List.getElem?_map]
    by_cases h : i < z.size
    · rw [List.getElem?_range h]
      have e : (n * z.size + i) % z.size = i := by rw [Nat.mul_comm, Nat.mul_add_mod, Nat.mod_eq_of_lt h]
      simp [e, h]
    · rw [List.getElem?_eq_none (by simp; omega), List.getElem?_eq_none (by simp; omega)]
      rfl

theorem clearK_post (hM : Mem A g B w) (hB : Sub Bx B) (hT : ∀ n, TR (cxOf A g B w) (tm n) (a.tmps.getD n undef)) {c : Call} {t : TypeId} {x : Operand}
    (hts : c.argTypes = #[t]) (hc : c.callee = .builtin .clear) (hargs : c.args = #[x]) (ho : o.op = .call c)
    (h : clearK E Bx t (evalO tm x) pk = some (r, d)) : Post E.P A g B a w o r d := by
  have hx := evalO_tr hT x
  have hr : (execOp a.eval o).run E.P w = ((Builtin.clear_ #[t] o.type #[a.eval x]).run E.P w).andThen fun v w => .ok (.value v) w := by
    rw [run_of_bin hc ho]
    simp [builtin, hargs, hts]
  generalize evalO tm x = X at hx h
  unfold clearK at h
  split at h
  · rename_i e he
    have hut : E.P.underlying t = some (.slice e) := by
      unfold elemT at he
      split at he
      · rename_i e2 h2; cases he; exact h2
      · cases he
    split at h
    · rename_i cd sz z s hcd hsz hz
      split at h
      · rename_i hcond
        simp only [Bool.and_eq_true] at hcond
        obtain ⟨h1, hund⟩ := hcond
        have h1 := Nat.eq_of_beq_eq_true h1
        obtain ⟨i, zv, hi, hzv, hzo⟩ := zero_of hz
        split at h
        · rename_i zd id lo hi' hzd hsp
          split at h
          · rename_i org c' xs hb
            split at h
            · rename_i hcc
              subst hcc
              cases h
              obtain ⟨l, hg, hlh, hhx, hln, hcase⟩ := span_at hM hB (show SR (cxOf A g B w) s _ from hx) hsp hb
              have hbB := hB.live _ _ hb
              have hpost : ∀ w', (Builtin.clear_ #[t] o.type #[a.eval x]).run E.P w = .ok (.tuple #[]) w' →
                  Mem A g (upd B id (.live (.vec org c' (overL xs (List.replicate (hi' - lo) zd) lo)))) w' ∧ Later (cxOf A g B w) (cxOf A g (upd B id (.live (.vec org c' (overL xs (List.replicate (hi' - lo) zd) lo)))) w') →
                  Post E.P A g B a w o (.tup []) [(id, .live (.vec org c' (overL (castL rfl xs) (List.replicate (hi' - lo) zd) lo)))] := fun w' hrun hm => by
                refine ⟨g, w', hm.1, hm.2, .inl ⟨_, ?_, ⟨#[], rfl, trivial⟩⟩⟩
                rw [hr, hrun]; rfl
              have hzdr := zero_dr hM hzo hund hzd
              have ha : All2 (DR w ((cxOf A g B w).ok org) c') (List.replicate (hi' - lo) zd) (List.replicate (hi' - lo) zv.cells.toList) := by
                refine All2.of_get (by simp) fun i x y hx hy => ?_
                rw [List.getElem?_replicate] at hx hy
                split at hx
                · rename_i hlt
                  rw [if_pos hlt] at hy
                  cases hx; cases hy
                  exact hzdr.mono (Nat.le_refl _) fun b hb hok => ⟨⟨A.mono _ _ _ (by simp [orgLe]) (okI_nil (w := w) hok).1, (okI_nil (w := w) hok).2⟩, rfl⟩
                · cases hx
              have nothing : hi' - lo = 0 → (∃ ad cap, a.eval x = .slice ad 0 cap) → Post E.P A g B a w o (.tup []) [(id, .live (.vec org c' (overL (castL rfl xs) (List.replicate (hi' - lo) zd) lo)))] := fun hz0 ⟨ad, cap, hxv⟩ => by
                refine hpost w ?_ ?_
                · rw [hxv]
                  cases ad <;> simp [Builtin.clear_, run_underlying hut]
                · rw [hz0, List.replicate_zero, overL_nil, upd_keep B id _ hbB]
                  exact ⟨hM, Later.refl _⟩
              rcases hcase with ⟨hnil, rfl, rfl, ad, hxv⟩ | ⟨hnil, cap, hxv, hcapne⟩
              · exact nothing (Nat.sub_self lo) ⟨ad, 0, hxv⟩
              · rcases Nat.eq_zero_or_pos (hi' - lo) with hz0 | hpos
                · exact nothing hz0 ⟨_, cap, by rw [hxv, hz0]⟩
                · have hne := hcapne (by omega)
                  rw [if_neg hne] at hxv
                  obtain ⟨arr, ty, harr, hlz, _, hfit, hset⟩ := over_mem hM hbB hg hnil ha (lo := lo) (by simp; omega)
                  have hone : ∀ v ∈ (List.replicate (hi' - lo) zv.cells.toList).flatten, v.oneCell' = true := rows_one ha
                  have hst := run_storeCells_at E.P l.b (l.o + lo * l.sz) ty (List.replicate (hi' - lo) zv.cells.toList).flatten 0 arr w harr (by rw [hlz]; simpa using hfit) hone
                  simp only [Nat.add_zero] at hst
                  rw [hlz] at hst hxv
                  have hset' := hset _ rfl
                  have hzc : (Builtin.zeroCells zv.cells (hi' - lo)).toList = (List.replicate (hi' - lo) zv.cells.toList).flatten := zeroCells_rows _ _
                  generalize hF : (List.replicate (hi' - lo) zv.cells.toList).flatten = F at hst hset' hzc
                  generalize w.setRow l.b (arr.toList.take (l.o + lo * csize c') ++ F ++ arr.toList.drop (l.o + lo * csize c' + F.length)).toArray = W at hst hset'
                  refine hpost W ?_ hset'
                  rw [hxv]
                  obtain ⟨n, hn⟩ : ∃ n, hi' - lo = n + 1 := ⟨hi' - lo - 1, by omega⟩
                  rw [hn] at hzc ⊢
                  simp [Builtin.clear_, run_underlying hut, zeroValue, typeInfo, hi, hzv, hzc, hst]
            · cases h
          · cases h
        · cases h
      · cases h
    · cases h
  · cases h

end
end Ai
end Go.Proofs.YtpboclokodgnlaaGreat

/-! A14c: The ideal interpreter against the machine: maps that a call makes. -/
namespace Go.Proofs.YtpboclokodgnlaaGreat
namespace Ai
set_option linter.unusedSimpArgs false
set_option linter.unusedVariables false

/-- A struct type's values as keys: compared cell by cell, and never refused. -/
def KeyOk (P : Program) (t : TypeId) (ks : List Cd) : Prop := (∃ fs, P.underlying t = some (.struct fs)) ∧
  (∀ (xs ys : Array Value) (b : Bool) (w : World), eqV ks xs.toList ys.toList = some b → (Op.equal t (.agg xs) (.agg ys)).run P w = .ok b w) ∧
  ∀ (em : Bool) (xs : Array Value) (w : World), xs.toList.length = ks.length → (Instr.checkKey em 10000 t (.agg xs)).run P w = .ok () w

theorem eqEl_iff {c : Cd} {x y : El c} : eqEl c x y = true ↔ x = y := by
  unfold eqEl
  exact @decide_eq_true_iff _ (elDec c x y)

theorem DR.inj {w w' : World} {ok ok' : Nat → Prop} : ∀ {c : Cd} {x : El c} {cs ds : List Value}, cflat c = true → DR w ok c x cs → DR w' ok' c x ds → cs = ds
  | .i _, _, _, _, _, h, k => by simp only [DR] at h k; rw [h, k]
  | .bool, _, _, _, _, h, k => by simp only [DR] at h k; rw [h, k]
  | .str, _, _, _, _, h, k => by simp only [DR] at h k; rw [h, k]
  | .unit, _, _, _, _, h, k => by simp only [DR] at h k; rw [h, k]
  | .pair a b, _, _, _, hf, h, k => by
    obtain ⟨c1, c2, rfl, h1, h2⟩ := h
    obtain ⟨d1, d2, rfl, k1, k2⟩ := k
    simp only [cflat, Bool.and_eq_true] at hf
    rw [DR.inj hf.1 h1 k1, DR.inj hf.2 h2 k2]
  | .list _, _, _, _, hf, _, _ => by simp [cflat] at hf

theorem decC_flat {C : Cx} {B : Nat → BS} {w : World} {ok : Nat → Prop} : ∀ {c : Cd} {ss : List Sc} {cs : List Value} {x : El c}, cflat c = true → All2 (SR C) ss cs → decC B c ss = some x → DR w ok c x cs
  | .i k, ss, cs, x, _, ha, h => by
    simp only [decC] at h
    split at h
    · split at h
      · cases h
        rename_i k' n hk
        subst hk
        match cs, ha with
        | [v], ha => rw [show v = _ from ha.1]; rfl
      · cases h
    · cases h
  | .bool, ss, cs, x, _, ha, h => by
    simp only [decC] at h
    split at h
    · cases h
      match cs, ha with
      | [v], ha => rw [show v = _ from ha.1]; rfl
    · cases h
  | .str, ss, cs, x, _, ha, h => by
    simp only [decC] at h
    split at h
    · cases h
      match cs, ha with
      | [v], ha => rw [show v = _ from ha.1]; rfl
    · cases h
  | .unit, ss, cs, x, _, ha, h => by
    simp only [decC] at h
    split at h
    · match cs, ha with
      | [], _ => rfl
    · cases h
  | .list _, _, _, _, hf, _, _ => by simp [cflat] at hf
  | .pair a b, ss, cs, x, hf, ha, h => by
    simp only [cflat, Bool.and_eq_true] at hf
    simp only [decC] at h
    split at h
    · rename_i y z hy hz
      cases h
      exact ⟨cs.take (csize a), cs.drop (csize a), (List.take_append_drop ..).symm, decC_flat hf.1 (ha.take _) hy, decC_flat hf.2 (ha.drop _) hz⟩
    · cases h

theorem eqV_append : ∀ {ks ls : List Cd} {xs ys us vs : List Value} {b c : Bool}, eqV ks xs ys = some b → eqV ls us vs = some c → eqV (ks ++ ls) (xs ++ us) (ys ++ vs) = some (b && c)
  | [], ls, xs, ys, us, vs, b, c, h, k => by
    match xs, ys, h with
    | [], [], h => simp only [eqV] at h; cases h; simpa using k
  | k :: ks, ls, xs, ys, us, vs, b, c, h, hk => by
    have key : ∀ (q : Bool) (xs ys : List Value), (eqV ks xs ys).map (q && ·) = some b → (eqV (ks ++ ls) (xs ++ us) (ys ++ vs)).map (q && ·) = some (b && c) := fun q xs ys hq => by
      obtain ⟨b', hb', rfl⟩ := Option.map_eq_some_iff.1 hq
      rw [eqV_append hb' hk]
      simp [Bool.and_assoc]
    match xs, ys, h with
    | [], _, h => cases k <;> simp [eqV] at h
    | _ :: _, [], h => cases k <;> simp [eqV] at h
    | x :: xs, y :: ys, h =>
      cases k <;> cases x <;> cases y <;> simp only [eqV, List.cons_append] at h ⊢ <;> first
        | (split at h
           · rename_i hc; simp only [if_pos hc]; exact key _ _ _ h
           · cases h)
        | exact key _ _ _ h
        | cases h

/-- Two flat data are compared cell by cell. -/
theorem eqV_dr {w w' : World} {ok ok' : Nat → Prop} : ∀ {c : Cd} {x y : El c} {cs ds : List Value}, cflat c = true → DR w ok c x cs → DR w' ok' c y ds → eqV (leaves c) cs ds = some (eqEl c x y)
  | .i k, x, y, _, _, _, h, g => by
    simp only [DR] at h g; subst h; subst g
    simp only [leaves, eqV, and_self, if_true, Option.map_some, Bool.and_true]
    rfl
  | .bool, x, y, _, _, _, h, g => by
    simp only [DR] at h g; subst h; subst g
    simp only [leaves, eqV, Option.map_some, Bool.and_true]
    congr 1
  | .str, x, y, _, _, _, h, g => by
    simp only [DR] at h g; subst h; subst g
    simp only [leaves, eqV, Option.map_some, Bool.and_true]
    congr 1
    have h1 : decide ((⟨x.toArray⟩ : ByteArray) = ⟨y.toArray⟩) = true ↔ eqEl .str x y = true := by rw [eqEl_iff, decide_eq_true_iff, mk_inj]
    cases h2 : eqEl .str x y <;> rw [h2] at h1 <;> simpa using h1
  | .unit, x, y, _, _, _, h, g => by
    simp only [DR] at h g; subst h; subst g
    rfl
  | .list _, _, _, _, _, hf, _, _ => by simp [cflat] at hf
  | .pair a b, x, y, _, _, hf, h, g => by
    obtain ⟨c1, c2, rfl, h1, h2⟩ := h
    obtain ⟨d1, d2, rfl, g1, g2⟩ := g
    simp only [cflat, Bool.and_eq_true] at hf
    simp only [leaves]
    rw [eqV_append (eqV_dr hf.1 h1 g1) (eqV_dr hf.2 h2 g2)]
    congr 1
    have h3 : (eqEl a x.1 y.1 && eqEl b x.2 y.2) = true ↔ eqEl (.pair a b) x y = true := by
      rw [Bool.and_eq_true, eqEl_iff, eqEl_iff, eqEl_iff]
      constructor
      · rintro ⟨e1, e2⟩; exact Prod.ext e1 e2
      · intro e; exact ⟨congrArg Prod.fst e, congrArg Prod.snd e⟩
    cases h4 : eqEl (.pair a b) x y <;> rw [h4] at h3 <;> simpa using h3

theorem leaves_len {w : World} {ok : Nat → Prop} : ∀ {c : Cd} {x : El c} {cs : List Value}, cflat c = true → DR w ok c x cs → cs.length = (leaves c).length
  | .i _, _, _, _, h => by simp only [DR] at h; subst h; rfl
  | .bool, _, _, _, h => by simp only [DR] at h; subst h; rfl
  | .str, _, _, _, h => by simp only [DR] at h; subst h; rfl
  | .unit, _, _, _, h => by simp only [DR] at h; subst h; rfl
  | .list _, _, _, hf, _ => by simp [cflat] at hf
  | .pair a b, _, _, hf, h => by
    obtain ⟨c1, c2, rfl, h1, h2⟩ := h
    simp only [cflat, Bool.and_eq_true] at hf
    simp [leaves, leaves_len hf.1 h1, leaves_len hf.2 h2]

theorem same_cells {w : World} {ok : Nat → Prop} {n : Nat} : ∀ {c : Cd} {x : El c} {cs : List Value}, cflat c = true → DR w ok c x cs → ∀ v ∈ cs, Instr.sameBits n v v = true
  | .i _, _, _, _, h, v, hv => by simp only [DR] at h; subst h; simp at hv; subst hv; simp [Instr.sameBits]
  | .bool, _, _, _, h, v, hv => by simp only [DR] at h; subst h; simp at hv; subst hv; simp [Instr.sameBits]
  | .str, _, _, _, h, v, hv => by simp only [DR] at h; subst h; simp at hv; subst hv; simp only [Instr.sameBits]; rw [beq_toListBytes]; simp
  | .unit, _, _, _, h, v, hv => by simp only [DR] at h; subst h; simp at hv
  | .list _, _, _, hf, _, _, _ => by simp [cflat] at hf
  | .pair a b, _, _, hf, h, v, hv => by
    obtain ⟨c1, c2, rfl, h1, h2⟩ := h
    simp only [cflat, Bool.and_eq_true] at hf
    rcases List.mem_append.1 hv with hv | hv
    · exact same_cells hf.1 h1 v hv
    · exact same_cells hf.2 h2 v hv

theorem same_key {w : World} {ok : Nat → Prop} {c : Cd} {x : El c} {arr : Array Value} {n : Nat} (hf : cflat c = true) (h : DR w ok c x arr.toList) : Instr.sameBits (n + 1) (.agg arr) (.agg arr) = true := by
  simp only [Instr.sameBits, beq_self_eq_true, Bool.true_and]
  rw [List.all_eq_true]
  intro p hp
  obtain ⟨i, hi⟩ := List.mem_iff_getElem?.1 hp
  rw [List.getElem?_zip_eq_some] at hi
  obtain ⟨p1, p2⟩ := p
  have : p1 = p2 := Option.some.inj (hi.1.symm.trans hi.2)
  subst this
  exact same_cells hf h p1 (List.mem_of_getElem? hi.1)

section
variable {P : Program} {C : Cx} {kc vc : Cd} {kt : TypeId} {w : World}

/-- Looking a key up, entry by entry. -/
theorem ask_run (hK : KeyOk P kt (leaves kc)) (hag : cagg kc = true) (hf : cflat kc = true) {kx : El kc} {karr : Array Value} {ok : Nat → Prop} {w0 : World} (hk : DR w0 ok kc kx karr.toList) :
    ∀ (es : List (El kc × El vc)) (ms : List MapEntry) (i : Nat), All2 (fun (e : El kc × El vc) (m : MapEntry) => KV C kc e.1 m.key ∧ KV C vc e.2 m.val) es ms →
      ((Instr.findAsking kt (.agg karr) ms i).run P w = .ok none w ∧ mfind kc vc kx es = none ∧ ∀ v, mset kc vc kx v es = es ++ [(kx, v)]) ∨
      ∃ j e m, (Instr.findAsking kt (.agg karr) ms i).run P w = .ok (some (i + j, m.val)) w ∧ es[j]? = some e ∧ ms[j]? = some m ∧ e.1 = kx ∧ mfind kc vc kx es = some e.2 ∧ ∀ v, mset kc vc kx v es = es.set j (kx, v)
  | [], [], i, _ => .inl ⟨by simp [Instr.findAsking], rfl, fun _ => rfl⟩
  | [], _ :: _, _, h => h.elim
  | _ :: _, [], _, h => h.elim
  | e :: es, m :: ms, i, h => by
    obtain ⟨⟨hk1, hv1⟩, hr⟩ := h
    rcases hk1 with ⟨h1, _⟩ | ⟨_, arr, ha, hd⟩
    · rw [hag] at h1; cases h1
    have heq : (Op.equal kt (.agg karr) m.key).run P w = .ok (eqEl kc kx e.1) w := by
      rw [ha]; exact hK.2.1 _ _ _ _ (eqV_dr hf hk hd)
    cases hb : eqEl kc kx e.1 with
    | true =>
      rw [hb] at heq
      right
      refine ⟨0, e, m, by simp [Instr.findAsking, heq], rfl, rfl, (eqEl_iff.1 hb).symm, by simp [mfind, hb], fun v => by simp [mset, hb]⟩
    | false =>
      rw [hb] at heq
      rcases ask_run hK hag hf hk es ms (i + 1) hr with ⟨r1, r2, r3⟩ | ⟨j, e', m', r1, r2, r3, r4, r5, r6⟩
      · left
        exact ⟨by simp [Instr.findAsking, heq, r1], by simp [mfind, hb, r2], fun v => by simp [mset, hb, r3]⟩
      · right
        exact ⟨j + 1, e', m', by simp [Instr.findAsking, heq, r1, Nat.add_assoc, Nat.add_comm 1 j], by simpa using r2, by simpa using r3, r4, by simp [mfind, hb, r5], fun v => by simp [mset, hb, r6]⟩

theorem find_run (hK : KeyOk P kt (leaves kc)) {karr : Array Value} (ms : List MapEntry) :
    (Instr.findKey kt (.agg karr) ms).run P w = (Instr.findAsking kt (.agg karr) ms 0).run P w := by
  obtain ⟨fs, hu⟩ := hK.1
  cases ms with
  | nil => simp [Instr.findKey, run_underlying hu, Instr.findNow, Instr.findAsking]
  | cons m ms => simp [Instr.findKey, run_underlying hu, Instr.findNow, Instr.sameNow]
end

section
variable {E : Env} {A : Base} {g : Nat → Option Loc} {B Bx : Nat → BS} {tm : Nat → T} {a : Act} {w : World} {o : Oper} {r : T} {d : List (Nat × BS)}

theorem mapC_inv {t : TypeId} {kc vc : Cd} {agg : Bool} (h : mapC E t = some (kc, vc, agg)) : ∃ kt et, E.P.underlying t = some (.map kt et) ∧ eqTyp E.eqT kt = some (leaves kc) ∧ isAggT E.P et = some agg ∧ cflat kc = true ∧ cagg kc = true ∧ cflat vc = true ∧ agg = cagg vc := by
  unfold mapC at h
  split at h
  · rename_i kt et hu
    split at h
    · rename_i kc' vc' agg' ks h1 h2 h3 h4
      split at h
      · rename_i hc
        cases h
        obtain ⟨rfl, c1, c2, c3, c4⟩ := hc
        exact ⟨kt, et, hu, h4, h3, c1, c2, c3, c4⟩
      · cases h
    · cases h
  · cases h

theorem makeMapK_post (hM : Mem A g B w) (hB : Sub Bx B) (hT : ∀ n, TR (cxOf A g B w) (tm n) (a.tmps.getD n undef)) {id : Nat} {t : TypeId} {rs : Option Operand} (ho : o.op = .makeMap t rs)
    (h : makeMapK E Bx id t (rs.map (evalO tm)) pk = some (r, d)) : Post E.P A g B a w o r d := by
  have key : ∀ kc vc : Cd, cflat kc = true → cflat vc = true → mkB Bx id (.mp kc vc []) (one (.mp id)) pk = some (r, d) → (execOp a.eval o).run E.P w = .ok (.value (.map (some w.heap.size))) (w.alloc (.map #[] 0)) → Post E.P A g B a w o r d := by
    intro kc vc c1 c2 h hr
    obtain ⟨hf, rfl, rfl⟩ := mkB_inv h
    obtain ⟨hM', hL⟩ := hM.make (hB.fresh _ hf) (blk := .mp kc vc []) (l := ⟨w.heap.size, 0, 0, 0, 1, false, none⟩) (w' := w.alloc (.map #[] 0)) (o := .map #[] 0) rfl rfl .map rfl ⟨rfl, Nat.le_refl _⟩ rfl rfl
      (fun hL => ⟨⟨rfl, rfl⟩, ⟨c1, c2⟩, #[], 0, by show (w.heap.push _)[w.heap.size]? = _; simp, trivial⟩)
    exact ⟨_, _, hM', hL, .inl ⟨_, hr, ⟨_, upd_same _ _ _, rfl⟩⟩⟩
  unfold makeMapK at h
  split at h
  · rename_i kc vc agg hm hr
    obtain ⟨kt, et, hu, _, _, c1, _, c2, _⟩ := mapC_inv hm
    cases rs with
    | some x => simp at hr
    | none => exact key kc vc c1 c2 h (by simp [execOp, ho, Instr.makeMap])
  · rename_i kc vc agg k n hm hr
    obtain ⟨kt, et, hu, _, _, c1, _, c2, _⟩ := mapC_inv hm
    cases rs with
    | none => simp at hr
    | some x =>
      have hx := evalO_tr hT x
      have hx' : evalO tm x = .v (.one (.int k n)) := by simpa using hr
      rw [hx'] at hx
      exact key kc vc c1 c2 h (by simp [execOp, ho, Instr.makeMap, tr_int hx, run_underlying hu, asInt, asIntOf])
  · cases h

/-- Where a map lies. -/
theorem map_at (hM : Mem A g B w) (hB : Sub Bx B) {id : Nat} {kc vc : Cd} {es : List (El kc × El vc)} (hb : Bx id = .live (.mp kc vc es)) {v : Value} (hv : TR (cxOf A g B w) (.v (.one (.mp id))) v) :
    ∃ l arr clock, g id = some l ∧ l.nil = false ∧ v = .map (some l.b) ∧ w.heap[l.b]? = some (.map arr clock) ∧ (l.o = 0 ∧ cflat kc = true ∧ cflat vc = true) ∧ All2 (fun (e : El kc × El vc) (m : MapEntry) => KV (cxOf A g B w) kc e.1 m.key ∧ KV (cxOf A g B w) vc e.2 m.val) es arr.toList := by
  obtain ⟨l, hg, hv⟩ := (show SR (cxOf A g B w) (.mp id) v from hv)
  obtain ⟨l', hg', hbr, _⟩ := hM.br _ _ (hB.live _ _ hb)
  rw [show g id = some l from hg] at hg'; cases hg'
  obtain ⟨⟨h0, h1⟩, ⟨h2, h3⟩, arr, clock, ha, hall⟩ := hbr
  exact ⟨l, arr, clock, hg, h1, hv, ha, ⟨h0, h2, h3⟩, hall⟩

theorem kv_vr {C : Cx} {c : Cd} {x : El c} {v : Value} (hf : cflat c = true) (h : KV C c x v) : VR C (mkVal (cagg c) (scells 0 c x)) v := by
  rcases h with ⟨h1, h2⟩ | ⟨h1, arr, rfl, h3⟩
  · have hs := scells_sr h2
    rw [h1]
    cases c with
    | pair a b => simp [cagg] at h1
    | unit => simp [cagg] at h1
    | list c => simp [cflat] at hf
    | i k => exact hs.1
    | bool => exact hs.1
    | str => exact hs.1
  · rw [h1]
    have hs := scells_sr h3
    have : mkVal true (scells 0 c x) = .agg (scells 0 c x) := rfl
    rw [this]
    exact ⟨arr, rfl, hs⟩

theorem decArg_kv {C : Cx} {c : Cd} {y : Val} {x : El c} {v : Value} {B : Nat → BS} (hf : cflat c = true) (hv : VR C y v) (h : decArg B c (cagg c) y = some x) : KV C c x v := by
  unfold decArg at h
  cases y with
  | one s =>
    cases hc : cagg c with
    | true => rw [hc] at h; cases h
    | false =>
      rw [hc] at h
      exact .inl ⟨hc, decC_flat hf (show All2 (SR C) [s] [v] from ⟨hv, trivial⟩) h⟩
  | agg cs =>
    cases hc : cagg c with
    | false => rw [hc] at h; cases h
    | true =>
      rw [hc] at h
      obtain ⟨arr, rfl, ha⟩ := hv
      exact .inr ⟨hc, arr, rfl, decC_flat hf ha h⟩

theorem zeroV_inv {C : Cx} {t : TypeId} {kt et : TypeId} {vc : Cd} {z : El vc} (hu : E.P.underlying t = some (.map kt et)) (hf : cflat vc = true) (h : zeroV E t vc = some z) (w : World) : ∃ v, (zeroValue et).run E.P w = .ok v w ∧ KV C vc z v := by
  unfold zeroV at h
  rw [hu] at h
  simp only [] at h
  split at h
  · rename_i y hy
    obtain ⟨i, v, hi, hv, hz⟩ := zero_of hy
    exact ⟨v, by simp [zeroValue, typeInfo, hi, hv], decArg_kv hf (ofValue_vr hz) h⟩
  · cases h

theorem lookupK_post (hM : Mem A g B w) (hB : Sub Bx B) (hT : ∀ n, TR (cxOf A g B w) (tm n) (a.tmps.getD n undef)) (hE : ∀ t ks, eqTyp E.eqT t = some ks → KeyOk E.P t ks) {t : TypeId} {m ix : Operand} {ok : Bool} (ho : o.op = .lookup t m ix ok)
    (h : lookupK E Bx t (evalO tm m) (evalO tm ix) ok pk = some (r, d)) : Post E.P A g B a w o r d := by
  have hm := evalO_tr hT m
  have hx := evalO_tr hT ix
  generalize evalO tm m = X at hm h
  generalize evalO tm ix = Y at hx h
  unfold lookupK at h
  split at h
  · rename_i kc vc agg id cs hmc
    obtain ⟨kt, et, hu, hq, hagg, c1, c2, c3, rfl⟩ := mapC_inv hmc
    split at h
    · rename_i kc' vc' es hb
      split at h
      · rename_i hc
        obtain ⟨rfl, rfl⟩ := hc
        split at h
        · rename_i kx z hk hz
          obtain ⟨l, arr, clock, hg, hnil, hv, ha, _, hall⟩ := map_at hM hB hb hm
          obtain ⟨karr, hke, hks⟩ := (show ∃ arr : Array Value, a.eval ix = .agg arr ∧ All2 (SR (cxOf A g B w)) cs arr.toList from hx)
          have hkd : DR w ((cxOf A g B w).ok 0) kc' kx karr.toList := decC_flat c1 hks hk
          have hK := hE _ _ hq
          obtain ⟨zv, hzr, hzk⟩ := zeroV_inv (C := cxOf A g B w) hu c3 hz w
          have hck := hK.2.2 arr.isEmpty karr w (leaves_len c1 hkd)
          have hrun : ∃ v b, (Instr.lookup t (a.eval m) (a.eval ix) ok).run E.P w = .ok (if ok then .tuple #[v, .bool b] else v) w ∧ KV (cxOf A g B w) vc' ((mfind kc' vc' kx es).getD z) v ∧ b = (mfind kc' vc' kx es).isSome := by
            rcases ask_run (w := w) (P := E.P) hK c2 c1 hkd es arr.toList 0 hall with ⟨r1, r2, _⟩ | ⟨j, e, me, r1, r2, r3, r4, r5, _⟩
            · refine ⟨zv, false, ?_, by rw [r2]; exact hzk, by rw [r2]; rfl⟩
              have hf := find_run (w := w) hK (karr := karr) arr.toList
              rw [r1] at hf
              simp only [Instr.lookup, hv, hke, Sem.run_bind, run_underlying hu, Result.andThen_ok, getMap_run ha, Sem.run_pure, hck, hf, hzr]
            · obtain ⟨m', hm', hkv⟩ := hall.get r2
              rw [r3] at hm'; cases hm'
              refine ⟨me.val, true, ?_, by rw [r5]; exact hkv.2, by rw [r5]; rfl⟩
              have hf := find_run (w := w) hK (karr := karr) arr.toList
              rw [r1] at hf
              simp only [Instr.lookup, hv, hke, Sem.run_bind, run_underlying hu, Result.andThen_ok, getMap_run ha, Sem.run_pure, hck, hf]
          obtain ⟨v, b, h1, h2, h3⟩ := hrun
          have hr : (execOp a.eval o).run E.P w = .ok (.value (if ok then .tuple #[v, .bool b] else v)) w := by
            simp [execOp, ho, h1]
          cases ok with
          | false =>
            simp only [pk, Option.some.injEq, Prod.mk.injEq] at h
            obtain ⟨rfl, rfl⟩ := h
            exact .pure hM hr (kv_vr c3 h2)
          | true =>
            simp only [pk, Option.some.injEq, Prod.mk.injEq] at h
            obtain ⟨rfl, rfl⟩ := h
            exact .pure hM hr ⟨#[v, .bool b], rfl, kv_vr c3 h2, by rw [h3]; exact rfl, trivial⟩
        · cases h
      · cases h
    · cases h
  · cases h

theorem toList_modify' {α : Type} (xs : Array α) (j : Nat) (f : α → α) {x : α} (h : xs.toList[j]? = some x) : (xs.modify j f).toList = xs.toList.set j (f x) := by
  apply List.ext_getElem?
  intro k
  have hx : xs[j]? = some x := by simpa using h
  rw [Array.getElem?_toList, Array.getElem?_modify, List.getElem?_set]
  by_cases e : j = k
  · subst e
    have hl : j < xs.toList.length := (List.getElem?_eq_some_iff.1 h).1
    simp only [if_true, if_pos hl, hx, Option.map_some]
  · simp only [if_neg e, Array.getElem?_toList]

theorem mapUpdateK_post (hM : Mem A g B w) (hB : Sub Bx B) (hT : ∀ n, TR (cxOf A g B w) (tm n) (a.tmps.getD n undef)) (hE : ∀ t ks, eqTyp E.eqT t = some ks → KeyOk E.P t ks) {t : TypeId} {m ix x : Operand} (ho : o.op = .mapUpdate t m ix x)
    (h : mapUpdateK E Bx t (evalO tm m) (evalO tm ix) (evalO tm x) (fun d => pk (one .skip) d) = some (r, d)) : Post E.P A g B a w o r d := by
  have hm := evalO_tr hT m
  have hx := evalO_tr hT ix
  have hy := evalO_tr hT x
  generalize evalO tm m = X at hm h
  generalize evalO tm ix = Y at hx h
  generalize evalO tm x = Z at hy h
  unfold mapUpdateK at h
  split at h
  · rename_i kc vc agg id cs y hmc
    obtain ⟨kt, et, hu, hq, hagg, c1, c2, c3, rfl⟩ := mapC_inv hmc
    split at h
    · rename_i kc' vc' es hb
      split at h
      · rename_i hc
        obtain ⟨rfl, rfl⟩ := hc
        split at h
        · rename_i kx vx hk hvx
          simp only [pk, Option.some.injEq, Prod.mk.injEq] at h
          obtain ⟨rfl, rfl⟩ := h
          obtain ⟨l, arr, clock, hg, hnil, hv, ha, ⟨ho0, c4, c5⟩, hall⟩ := map_at hM hB hb hm
          obtain ⟨karr, hke, hks⟩ := (show ∃ arr : Array Value, a.eval ix = .agg arr ∧ All2 (SR (cxOf A g B w)) cs arr.toList from hx)
          have hkd : DR w ((cxOf A g B w).ok 0) kc' kx karr.toList := decC_flat c1 hks hk
          have hK := hE _ _ hq
          have hck := hK.2.2 false karr w (leaves_len c1 hkd)
          have hkv : KV (cxOf A g B w) vc' vx (a.eval x) := decArg_kv c3 hy hvx
          have hkk : KV (cxOf A g B w) kc' kx (.agg karr) := .inr ⟨c2, karr, rfl, hkd⟩
          have hrun : ∃ arr2 clock2, (Instr.mapUpdate t (a.eval m) (a.eval ix) (a.eval x)).run E.P w = .ok () { w with heap := w.heap.setIfInBounds l.b (.map arr2 clock2) } ∧
              All2 (fun (e : El kc' × El vc') (m : MapEntry) => KV (cxOf A g B w) kc' e.1 m.key ∧ KV (cxOf A g B w) vc' e.2 m.val) (mset kc' vc' kx vx es) arr2.toList := by
            have hf := find_run (w := w) hK (karr := karr) arr.toList
            rcases ask_run (w := w) (P := E.P) hK c2 c1 hkd es arr.toList 0 hall with ⟨r1, _, r2⟩ | ⟨j, e, me, r1, r2, r3, r4, _, r5⟩
            · rw [r1] at hf
              refine ⟨arr.push { key := .agg karr, val := a.eval x, born := clock }, clock + 1, ?_, ?_⟩
              · simp only [Instr.mapUpdate, hv, hke, Sem.run_bind, run_underlying hu, Result.andThen_ok, getMap_run ha, Sem.run_pure, hck, hf, setMap_run _ ha]
              · rw [r2, Array.toList_push]
                exact hall.append ⟨⟨hkk, hkv⟩, trivial⟩
            · rw [r1] at hf
              obtain ⟨m', hm', hkv'⟩ := hall.get r2
              rw [r3] at hm'; cases hm'
              rw [r4] at hkv'
              rcases hkv'.1 with ⟨q1, _⟩ | ⟨_, karr', q1, q2⟩
              · rw [c2] at q1; cases q1
              have hkeq : me.key = .agg karr := by
                rw [q1]
                have := DR.inj c1 q2 hkd
                rw [Array.ext' this]
              have harr : arr[j]? = some me := by simpa using r3
              refine ⟨arr.modify j fun e => { e with key := .agg karr, val := a.eval x }, clock, ?_, ?_⟩
              · simp only [Instr.mapUpdate, hv, hke, Sem.run_bind, run_underlying hu, Result.andThen_ok, getMap_run ha, Sem.run_pure, hck, hf, Instr.keyThatStays, Nat.zero_add, harr, Option.map_some, Option.getD_some, hkeq,
                  same_key (n := 9999) c1 hkd, if_true, setMap_run _ ha]
              · rw [r5, toList_modify' _ _ _ r3]
                exact hall.set ⟨hkk, hkv⟩ j
          obtain ⟨arr2, clock2, h1, h2⟩ := hrun
          have hlt : l.b < w.heap.size := (Array.getElem?_eq_some_iff.1 ha).1
          obtain ⟨hM', hL⟩ := hM.set (blk := .mp kc' vc' (mset kc' vc' kx vx es)) (hB.live _ _ hb) hg hnil (w' := { w with heap := w.heap.setIfInBounds l.b (.map arr2 clock2) }) (ob := .map arr2 clock2) .map
            (by simp) (fun k hk => by show (w.heap.setIfInBounds l.b _)[k]? = _; rw [Array.getElem?_setIfInBounds_ne (Ne.symm hk)]) (by show (w.heap.setIfInBounds l.b _)[l.b]? = _; simp [hlt]) rfl ⟨rfl, Nat.le_refl _⟩ rfl
            (fun hL => ⟨⟨ho0, hnil⟩, ⟨c4, c5⟩, arr2, clock2, by show (w.heap.setIfInBounds l.b _)[l.b]? = _; simp [hlt], h2.mono fun _ _ hh => ⟨hh.1.flat c4, hh.2.flat c5⟩⟩)
          exact ⟨_, _, hM', hL, .inr ⟨by simp [execOp, ho, h1], rfl⟩⟩
        · cases h
      · cases h
    · cases h
  · cases h

/-- 's[:0:0]' of a slice. -/
theorem sliceZ_post (hM : Mem A g B w) (hB : Sub Bx B) (hT : ∀ n, TR (cxOf A g B w) (tm n) (a.tmps.getD n undef)) {id : Nat} {t : TypeId} {x : Operand} {lo : Option Operand} {hi mx : Operand} (ho : o.op = .slice t x lo (some hi) (some mx))
    (h : sliceZ E Bx id t (evalO tm x) (lo.map (evalO tm)) (evalO tm hi) (evalO tm mx) pk = some (r, d)) : Post E.P A g B a w o r d := by
  have hx := evalO_tr hT x
  have hh := evalO_tr hT hi
  have hm := evalO_tr hT mx
  generalize evalO tm x = X at hx h
  generalize evalO tm hi = Y at hh h
  generalize evalO tm mx = Z at hm h
  unfold sliceZ at h
  split at h
  · rename_i e org c xs kh nh km nm hu hlo
    split at h
    · rename_i hsz
      obtain ⟨hc, h⟩ := cond_some h
      simp only [Bool.and_eq_true, decide_eq_true_eq] at hc
      obtain ⟨rfl, rfl⟩ := hc
      obtain ⟨hf, rfl, rfl⟩ := mkB_inv h
      have hlo' : lo = none := by cases lo <;> simp at hlo ⊢
      subst hlo'
      have h1 := tr_int hh
      have h2 := tr_int hm
      rcases (show DR w ((cxOf A g B w).ok org) (.list c) xs [a.eval x] from hx) with ⟨e1, rfl⟩ | ⟨b, k, cap, e1, hle, _⟩
      · simp only [List.cons.injEq, and_true] at e1
        obtain ⟨hM2, hL2⟩ := hM.makeNil (hB.fresh _ hf) (org := 0) (c := c) (l := ⟨0, 0, 0, 0, csize c, true, none⟩) rfl rfl rfl rfl (.inl rfl)
        refine ⟨_, _, hM2, hL2, .inl ⟨.slice none 0 0, ?_, ⟨_, upd_same _ _ _, rfl⟩⟩⟩
        simp [execOp, ho, e1, Instr.sliceAt, Instr.slice, run_underlying hu, Instr.sliceBounds, Instr.sliceBound, asIntOf, h1, h2, run_sizeOf hsz]
      · simp only [List.cons.injEq, and_true] at e1
        obtain ⟨hM2, hL2⟩ := hM.makeNil (hB.fresh _ hf) (org := 0) (c := c) (l := ⟨0, 0, 0, 0, csize c, true, some ⟨b, k, none⟩⟩) rfl rfl rfl rfl (.inr ⟨b, k, rfl⟩)
        refine ⟨_, _, hM2, hL2, .inl ⟨.slice (some ⟨b, k, none⟩) 0 0, ?_, ⟨_, upd_same _ _ _, rfl⟩⟩⟩
        simp [execOp, ho, e1, Instr.sliceAt, Instr.slice, run_underlying hu, Instr.sliceBounds, Instr.sliceBound, asIntOf, h1, h2, run_sizeOf hsz]
    · cases h
  · cases h

end
end Ai
end Go.Proofs.YtpboclokodgnlaaGreat

/-! A15: The ideal interpreter against the machine: every operation that is no call of a function. -/
namespace Go.Proofs.YtpboclokodgnlaaGreat
namespace Ai
set_option linter.unusedSimpArgs false
set_option linter.unusedVariables false

section
variable {E : Env} {A : Base} {g : Nat → Option Loc} {B Bx : Nat → BS} {tm : Nat → T} {a : Act} {w : World} {o : Oper} {r : T} {d : List (Nat × BS)}

/-! ### Slices -/

theorem loHi_h {R : Type} {len : Nat} {X : T} {K : Nat → Nat → Option R} {y : R} (h : loHi len none (some X) K = some y) : ∃ k u, X = .v (.one (.int k u)) ∧ (0 ≤ u ∧ u ≤ (len : Int)) ∧ K 0 u.toNat = some y := by
  cases X with
  | tup vs => simp [loHi] at h
  | v x =>
    cases x with
    | agg cs => simp [loHi] at h
    | one s =>
      cases s <;> first
        | (simp [loHi] at h; done)
        | skip
      rename_i k u
      simp only [loHi] at h
      obtain ⟨hc, h⟩ := cond_some h
      simp only [Bool.and_eq_true, decide_eq_true_eq] at hc
      exact ⟨k, u, rfl, hc, h⟩

theorem loHi_l {R : Type} {len : Nat} {X : T} {K : Nat → Nat → Option R} {y : R} (h : loHi len (some X) none K = some y) : ∃ k u, X = .v (.one (.int k u)) ∧ (0 ≤ u ∧ u ≤ (len : Int)) ∧ K u.toNat len = some y := by
  cases X with
  | tup vs => simp [loHi] at h
  | v x =>
    cases x with
    | agg cs => simp [loHi] at h
    | one s =>
      cases s <;> first
        | (simp [loHi] at h; done)
        | skip
      rename_i k u
      simp only [loHi] at h
      obtain ⟨hc, h⟩ := cond_some h
      simp only [Bool.and_eq_true, decide_eq_true_eq] at hc
      exact ⟨k, u, rfl, hc, h⟩

theorem loHi_lh {R : Type} {len : Nat} {X Y : T} {K : Nat → Nat → Option R} {y : R} (h : loHi len (some X) (some Y) K = some y) :
    ∃ k u k' u', X = .v (.one (.int k u)) ∧ Y = .v (.one (.int k' u')) ∧ (0 ≤ u' ∧ u' ≤ (len : Int)) ∧ (0 ≤ u ∧ u ≤ u') ∧ K u.toNat u'.toNat = some y := by
  cases X with
  | tup vs => simp [loHi] at h
  | v x =>
    cases x with
    | agg cs => simp [loHi] at h
    | one s =>
      cases s <;> first
        | (simp [loHi] at h; done)
        | skip
      rename_i k u
      cases Y with
      | tup vs => simp [loHi] at h
      | v x =>
        cases x with
        | agg cs => simp [loHi] at h
        | one s =>
          cases s <;> first
            | (simp [loHi] at h; done)
            | skip
          rename_i k' u'
          simp only [loHi] at h
          obtain ⟨hc, h⟩ := cond_some h
          obtain ⟨hc2, h⟩ := cond_some h
          simp only [Bool.and_eq_true, decide_eq_true_eq] at hc hc2
          exact ⟨k, u, k', u', rfl, rfl, hc, hc2, h⟩

theorem loHi_run {R : Type} (hT : ∀ n, TR (cxOf A g B w) (tm n) (a.tmps.getD n undef)) {len cap : Nat} (hlc : len ≤ cap) (isSlice : Bool) (lo hi : Option Operand) {K : Nat → Nat → Option R} {y : R} (h : loHi len (lo.map (evalO tm)) (hi.map (evalO tm)) K = some y) :
    ∃ l u, l ≤ u ∧ u ≤ len ∧ K l u = some y ∧ ∀ P : Program, (Instr.sliceBounds isSlice len cap (lo.map a.eval) (hi.map a.eval) none).run P w = .ok (l, u, cap) w := by
  cases lo with
  | none =>
    cases hi with
    | none =>
      simp only [Option.map_none, loHi] at h
      exact ⟨0, len, Nat.zero_le _, Nat.le_refl _, h, fun P => by simp [Instr.sliceBounds]⟩
    | some b =>
      have hb := evalO_tr hT b
      obtain ⟨k, u, e, hc, h⟩ := loHi_h h
      rw [e] at hb
      refine ⟨0, u.toNat, Nat.zero_le _, by omega, h, fun P => ?_⟩
      simp [Instr.sliceBounds, tr_int hb, run_sliceBound (P := P) w k u cap _ hc.1 (show u ≤ (cap : Int) by omega)]
  | some l =>
    have hl := evalO_tr hT l
    cases hi with
    | none =>
      obtain ⟨k, u, e, hc, h⟩ := loHi_l h
      rw [e] at hl
      refine ⟨u.toNat, len, by omega, Nat.le_refl _, h, fun P => ?_⟩
      simp [Instr.sliceBounds, tr_int hl, run_sliceBound (P := P) w k u len _ hc.1 hc.2]
    | some b =>
      have hb := evalO_tr hT b
      obtain ⟨k, u, k', u', e, e', hc, hc2, h⟩ := loHi_lh h
      rw [e] at hl
      rw [e'] at hb
      refine ⟨u.toNat, u'.toNat, by omega, by omega, h, fun P => ?_⟩
      simp [Instr.sliceBounds, tr_int hl, tr_int hb, run_sliceBound (P := P) w k' u' cap _ hc.1 (show u' ≤ (cap : Int) by omega), run_sliceBound (P := P) w k u u'.toNat _ hc2.1 (by omega)]

theorem sliceK_post (hM : Mem A g B w) (hB : Sub Bx B) (hT : ∀ n, TR (cxOf A g B w) (tm n) (a.tmps.getD n undef)) {id : Nat} {t : TypeId} {x : Operand} {lo hi mx : Option Operand} (ho : o.op = .slice t x lo hi mx)
    (h : sliceK E Bx id t (evalO tm x) (lo.map (evalO tm)) (hi.map (evalO tm)) (mx.map (evalO tm)) pk = some (r, d)) : Post E.P A g B a w o r d := by
  have hx := evalO_tr hT x
  generalize hXe : evalO tm x = X at hx h
  have hr : (execOp a.eval o).run E.P w = ((Instr.sliceAt t (a.eval x) (lo.map a.eval) (hi.map a.eval) (mx.map a.eval)).run E.P w).andThen fun v w => .ok (.value v) w := by
    simp [execOp, ho]
  unfold sliceK at h
  cases mx with
  | some m =>
    cases hi with
    | none => simp at h
    | some hh => 
      simp only [Option.map_some] at h
      exact sliceZ_post hM hB hT (x := x) ho (by rw [hXe]; exact h)
  | none =>
    simp only [Option.map_none] at h hr
    split at h
    · rename_i s hu
      obtain ⟨l, u, h1, h2, h, hb⟩ := loHi_run hT (cap := s.length) (Nat.le_refl _) false lo hi h
      obtain ⟨rfl, rfl⟩ := pk_one h
      refine .pure hM (v := .string ⟨(cut l u s).toArray⟩) ?_ rfl
      rw [hr, tr_str hx]
      have hsz : (ByteArray.mk s.toArray).size = s.length := by show s.toArray.size = _; simp
      have hex : (ByteArray.mk s.toArray).extract l u = ⟨(cut l u s).toArray⟩ := by
        apply ByteArray.ext
        apply Array.ext'
        simp [cut, ByteArray.data_extract, List.extract_eq_take_drop, List.drop_take]
      simp [Instr.sliceAt, run_underlying hu, Instr.slice, hsz, hb, hex]
    · rename_i e org c xs hu
      split at h
      · rename_i hsz
        rcases (show DR _ _ (.list c) xs [a.eval x] from hx) with ⟨e1, e2⟩ | ⟨b, k, cap, e1, hc, hrest⟩
        · simp only [List.cons.injEq, and_true] at e1
          subst e2
          obtain ⟨l, u, h1, h2, h, hb⟩ := loHi_run hT (cap := 0) (Nat.le_refl _) true lo hi h
          obtain ⟨rfl, rfl⟩ := pk_one h
          simp only [List.length_nil, Nat.le_zero_eq] at h2
          subst h2
          simp only [Nat.le_zero_eq] at h1
          subst h1
          refine .pure hM (v := .slice none 0 0) ?_ (.inl ⟨rfl, by simp [cut]⟩)
          have hb' := hb E.P
          rw [hr, e1]
          simp only [Instr.sliceAt, Instr.slice, Sem.run_bind, run_underlying hu, Result.andThen_ok, hb', run_sizeOf hsz, Sem.run_pure, if_true, Nat.sub_zero]
        · simp only [List.cons.injEq, and_true] at e1
          obtain ⟨l, u, h1, h2, h, hb⟩ := loHi_run hT (cap := cap) hc true lo hi h
          obtain ⟨rfl, rfl⟩ := pk_one h
          have hd := cut_dr (lo := l) (hi := u) (show DR _ _ (.list c) xs [.slice (some ⟨b, k, none⟩) xs.length cap] from e1 ▸ hx) h1 h2 hc
          refine .pure hM (v := _) ?_ hd
          have hb' := hb E.P
          rw [hr, e1]
          simp only [Instr.sliceAt, Instr.slice, Sem.run_bind, run_underlying hu, Result.andThen_ok, hb', run_sizeOf hsz, Sem.run_pure]
          by_cases e : cap = l
          · simp only [if_pos e]
          · simp only [if_neg e, Option.map_some, addr_add]
      · cases h
    · rename_i e id hu
      split at h
      · rename_i q hbk
        split at h
        · rename_i hsz
          obtain ⟨l, hg, hv⟩ := (show SR (cxOf A g B w) (.own id) _ from hx)
          obtain ⟨hd, hlz, hn, hcap⟩ := vecOf_dr hM hB hbk hg (I := [id]) (fun _ => List.mem_singleton.2 rfl) (orgLe_refl _)
          rw [← hn] at h
          cases hnil : l.nil
          · have hsl : l.sl = .slice (some ⟨l.b, l.o, none⟩) l.n l.cap := by simp [Loc.sl, hnil]
            obtain ⟨p, u, h1, h2, h, hb⟩ := loHi_run hT (cap := l.cap) hcap true lo hi h
            obtain ⟨rfl, rfl⟩ := pk_one h
            refine .pure hM (v := l.sub p u) ?_ ⟨l, hg, h1, h2, hcap, (fun e => by rw [hnil] at e; cases e), rfl⟩
            have hb' := hb E.P
            rw [hr, hv, hsl]
            simp only [Instr.sliceAt, Instr.slice, Sem.run_bind, run_underlying hu, Result.andThen_ok, hb', run_sizeOf hsz, Sem.run_pure, Loc.sub, hnil, cond_false]
            by_cases e : l.cap = p
            · simp only [if_pos e]
            · simp only [if_neg e, Option.map_some, addr_add, hlz]
          · have hsl : l.sl = .slice l.ad 0 0 := by simp [Loc.sl, hnil]
            have hn0 : l.n = 0 := by
              rw [hsl] at hd
              rcases hd with ⟨_, e⟩ | ⟨b, k, cap, e, _⟩
              · rw [hn, e]; rfl
              · simp only [List.cons.injEq, Value.slice.injEq, and_true] at e
                rw [hn]; exact e.2.1.symm
            rw [hn0] at h
            obtain ⟨p, u, h1, h2, h, hb⟩ := loHi_run hT (cap := 0) (Nat.le_refl _) true lo hi h
            obtain ⟨rfl, rfl⟩ := pk_one h
            have hu0 : u = 0 := by omega
            have hp0 : p = 0 := by omega
            subst hu0 hp0
            refine .pure hM (v := l.sub 0 0) ?_ ⟨l, hg, by omega, by omega, hcap, (fun _ => rfl), rfl⟩
            have hb' := hb E.P
            rw [hr, hv, hsl]
            simp only [Instr.sliceAt, Instr.slice, Sem.run_bind, run_underlying hu, Result.andThen_ok, hb', run_sizeOf hsz, Sem.run_pure, Loc.sub, hnil, cond_true, if_true, Nat.sub_zero]
        · cases h
      · cases h
    · cases h

/-! ### Conversions -/

theorem u8_rows {w : World} {ok : Nat → Prop} : ∀ {xs : List Int} {css : List (List Value)}, All2 (DR w ok (.i .u8)) xs css → css.flatten = xs.map (Value.int .u8)
  | [], [], _ => rfl
  | x :: xs, cs :: css, h => by
    rw [show cs = _ from h.1, List.flatten_cons, u8_rows h.2]
    rfl
  | [], _ :: _, h => h.elim
  | _ :: _, [], h => h.elim

theorem ofInts_push : ∀ (xs : List Int) (s : List UInt8), xs.foldl (fun (r : ByteArray) n => r.push (UInt8.ofNat n.toNat)) ⟨s.toArray⟩ = ⟨(s ++ ofInts xs).toArray⟩
  | [], s => by simp [ofInts]
  | x :: xs, s => by
    rw [List.foldl_cons]
    have : (ByteArray.mk s.toArray).push (UInt8.ofNat x.toNat) = ⟨(s ++ [UInt8.ofNat x.toNat]).toArray⟩ := by
      apply ByteArray.ext
      show s.toArray.push _ = _
      simp
    rw [this, ofInts_push xs]
    simp [ofInts]

theorem convK_post (hM : Mem A g B w) (hB : Sub Bx B) (hT : ∀ n, TR (cxOf A g B w) (tm n) (a.tmps.getD n undef)) {src dst : TypeId} {x : Operand} (ho : o.op = .convert src dst x)
    (h : convK E Bx src dst (evalO tm x) pk = some (r, d)) : Post E.P A g B a w o r d := by
  have hx := evalO_tr hT x
  generalize evalO tm x = X at hx h
  have hr : (execOp a.eval o).run E.P w = ((convert src dst (a.eval x)).run E.P w).andThen fun v w => .ok (.value v) w := by
    simp [execOp, ho]
  unfold convK at h
  split at h
  · rename_i k kd k' n hs hd
    obtain ⟨rfl, rfl⟩ := pk_one h
    refine .pure hM (v := .int kd (kd.wrap n)) ?_ rfl
    rw [hr, tr_int hx]
    simp [convert, run_underlying hs, run_underlying hd, Conv.intToInt]
  · rename_i s hs hd
    obtain ⟨rfl, rfl⟩ := pk_one h
    refine .pure hM (v := .string ⟨s.toArray⟩) ?_ rfl
    rw [hr, tr_str hx]
    simp [convert, run_underlying hs, run_underlying hd]
  · rename_i e s hs hd
    split at h
    · rename_i xs he hl
      obtain ⟨rfl, rfl⟩ := pk_one h
      obtain ⟨css, ha, hv⟩ := list_rows hM hB (show SR (cxOf A g B w) s _ from hx) hl (orgLe_refl _)
      refine .pure hM (v := .string ⟨(ofInts xs).toArray⟩) ?_ rfl
      rw [hr]
      rcases hv with ⟨e1, rfl, rfl⟩ | ⟨b, k, cap, e1, hc, hcell⟩
      · rw [e1, run_convert_bytes_string w src dst e none 0 0 hs he hd]
        simp [Conv.bytesToString, ofInts]
        rfl
      · rw [e1, run_convert_bytes_string w src dst e _ _ _ hs he hd]
        have hf := u8_rows ha
        have hl := run_loadCells_list (P := E.P) w ⟨b, k, none⟩ css.flatten (fun j u hj => by rw [addr_add]; exact hcell j u hj)
        rw [hf, List.length_map] at hl
        rw [run_bytesToString w _ _ _ xs hl]
        have := ofInts_push xs []
        simp only [List.nil_append] at this
        rw [show (ByteArray.empty : ByteArray) = ⟨([] : List UInt8).toArray⟩ from rfl, this]
        rfl
    · cases h
  · cases h

/-! ### Closures -/

theorem caps_sr (hT : ∀ n, TR (cxOf A g B w) (tm n) (a.tmps.getD n undef)) : ∀ (caps : List Operand) (cs : List Cap), capsOf (caps.map (evalO tm)) = some cs → All2 (CapR (cxOf A g B w)) cs (caps.map a.eval)
  | [], cs, h => by simp [capsOf] at h; subst h; trivial
  | x :: r, cs, h => by
    have hx := evalO_tr hT x
    simp only [List.map_cons] at h ⊢
    generalize evalO tm x = X at hx h
    unfold capsOf at h
    split at h
    · cases ‹_ :: _ = []›
    · rename_i id r' e
      cases e
      rw [Option.map_eq_some_iff] at h
      obtain ⟨l, hl, rfl⟩ := h
      exact ⟨hx, caps_sr hT r l hl⟩
    · rename_i org c x r' e
      cases e
      rw [Option.map_eq_some_iff] at h
      obtain ⟨l, hl, rfl⟩ := h
      exact ⟨hx, caps_sr hT r l hl⟩
    · cases h

theorem minMax_post (hM : Mem A g B w) (hT : ∀ n, TR (cxOf A g B w) (tm n) (a.tmps.getD n undef)) {c : Call} {mx : Bool} (hc : c.callee = .builtin (match mx with | true => .max | false => .min)) (ho : o.op = .call c) {s : Sc}
    (h : minMax mx (c.args.toList.map (evalO tm)) = some s) : Post E.P A g B a w o (one s) [] := by
  have hr := run_of_bin (a := a) hc ho E.P w
  obtain ⟨l, hl⟩ : ∃ l, c.args.toList = l := ⟨_, rfl⟩
  have hargs : (c.args.map a.eval).toList = l.map a.eval := by simp [hl]
  rw [hl] at h
  unfold minMax at h
  split at h
  · rename_i k p k' q e
    rcases l with _ | ⟨x, _ | ⟨y, _ | ⟨z, l⟩⟩⟩
    · simp at e
    · simp at e
    · simp only [List.map_cons, List.map_nil, List.cons.injEq, and_true] at e
      obtain ⟨e1, e2⟩ := e
      have hx := evalO_tr hT x
      have hy := evalO_tr hT y
      rw [e1] at hx
      rw [e2] at hy
      split at h
      · rename_i hk
        subst hk
        simp only [Option.some.injEq] at h
        subst h
        cases mx
        · refine .pure hM (v := .int k (min p q)) ?_ rfl
          rw [hr]
          simp only [builtin, Builtin.min_, hargs, List.map_cons, List.map_nil, tr_int hx, tr_int hy, List.foldlM_cons, List.foldlM_nil, Builtin.min2, Sem.run_bind, Sem.run_pure, Result.andThen_ok]
          congr 2
          simp only [Value.int.injEq, true_and]
          rw [Int.min_def]
          split <;> split <;> omega
        · refine .pure hM (v := .int k (max p q)) ?_ rfl
          rw [hr]
          simp only [builtin, Builtin.max_, hargs, List.map_cons, List.map_nil, tr_int hx, tr_int hy, List.foldlM_cons, List.foldlM_nil, Builtin.max2, Sem.run_bind, Sem.run_pure, Result.andThen_ok]
          congr 2
          simp only [Value.int.injEq, true_and]
          rw [Int.max_def]
          split <;> split <;> omega
      · cases h
    · simp at e
  · cases h

/-! ### All of them -/

theorem unK_post (hM : Mem A g B w) (hT : ∀ n, TR (cxOf A g B w) (tm n) (a.tmps.getD n undef)) {op : UnOp} {t : TypeId} {x : Operand} (ho : o.op = .unOp op t x)
    (h : unK op (evalO tm x) pk = some (r, d)) : Post E.P A g B a w o r d := by
  have hx := evalO_tr hT x
  generalize evalO tm x = X at hx h
  unfold unK at h
  split at h
  · rename_i k n
    obtain ⟨rfl, rfl⟩ := pk_one h
    refine .pure hM (v := .int k (k.wrap (0 - n))) ?_ rfl
    simp [execOp, ho, tr_int hx, Op.unary, Op.intArith]
  · rename_i b
    obtain ⟨rfl, rfl⟩ := pk_one h
    refine .pure hM (v := .bool (!b)) ?_ rfl
    simp [execOp, ho, tr_bool hx, Op.unary]
  · cases h

theorem nilCheckK_post (hM : Mem A g B w) (hT : ∀ n, TR (cxOf A g B w) (tm n) (a.tmps.getD n undef)) {x : Operand} (ho : o.op = .nilCheck x)
    (h : (match evalO tm x with
      | .v (.one (.ptr i j)) => pk (one (.ptr i j)) []
      | .v (.one (.pel i j l)) => pk (one (.pel i j l)) []
      | .v (.one (.pp a b c d)) => pk (one (.pp a b c d)) []
      | _ => none) = some (r, d)) : Post E.P A g B a w o r d := by
  have hx := evalO_tr hT x
  generalize evalO tm x = X at hx h
  have run : ∀ p, a.eval x = .pointer (some p) → (execOp a.eval o).run E.P w = .ok (.value (.pointer (some p))) w := by
    intro p hp
    simp [execOp, ho, hp]
  split at h
  · obtain ⟨rfl, rfl⟩ := pk_one h
    obtain ⟨l, hg, hv⟩ := (show SR (cxOf A g B w) (.ptr _ _) _ from hx)
    exact .pure hM (run _ hv) ⟨l, hg, rfl⟩
  · obtain ⟨rfl, rfl⟩ := pk_one h
    obtain ⟨l, hg, hi, hv⟩ := (show SR (cxOf A g B w) (.pel _ _ _) _ from hx)
    exact .pure hM (run _ hv) ⟨l, hg, hi, rfl⟩
  · obtain ⟨rfl, rfl⟩ := pk_one h
    obtain ⟨b, k, cs, hv, hrest⟩ := (show PR (cxOf A g B w) _ _ _ _ _ from hx)
    exact .pure hM (run _ hv) ⟨b, k, cs, rfl, hrest⟩
  · cases h

theorem pickK_post (hM : Mem A g B w) (hT : ∀ n, TR (cxOf A g B w) (tm n) (a.tmps.getD n undef)) {c x y : Operand} (ho : o.op = .pick c x y)
    (h : (match evalO tm c with
      | .v (.one (.bool q)) => cond q (pk (evalO tm x) []) (pk (evalO tm y) [])
      | _ => none) = some (r, d)) : Post E.P A g B a w o r d := by
  have hc := evalO_tr hT c
  generalize evalO tm c = X at hc h
  split at h
  · rename_i q
    have hq := tr_bool hc
    cases q
    · cases h
      refine .pure hM (v := a.eval y) ?_ (evalO_tr hT y)
      simp [execOp, ho, hq, asBool]
    · cases h
      refine .pure hM (v := a.eval x) ?_ (evalO_tr hT x)
      simp [execOp, ho, hq, asBool]
  · cases h

theorem extractK_post (hM : Mem A g B w) (hT : ∀ n, TR (cxOf A g B w) (tm n) (a.tmps.getD n undef)) {x : Operand} {i : Nat} (ho : o.op = .extract x i)
    (h : (match evalO tm x with
      | .tup vs => match vs[i]? with
        | some v => pk (.v v) []
        | none => none
      | _ => none) = some (r, d)) : Post E.P A g B a w o r d := by
  have hx := evalO_tr hT x
  generalize evalO tm x = X at hx h
  split at h
  · rename_i vs
    split at h
    · rename_i v hv
      cases h
      obtain ⟨arr, ha, hvs⟩ := hx
      obtain ⟨u, hu, hr⟩ := hvs.get hv
      refine .pure hM (v := u) ?_ hr
      have hu' : arr[i]? = some u := by simpa using hu
      simp [execOp, ho, ha, Instr.extract, hu']
    · cases h
  · cases h

theorem makeFuncK_post (hM : Mem A g B w) (hT : ∀ n, TR (cxOf A g B w) (tm n) (a.tmps.getD n undef)) {f : FuncId} {first caps : Array Operand} (ho : o.op = .makeFunc (.func f) first caps)
    (h : (match first.toList, capsOf (caps.toList.map (evalO tm)) with
      | [], some cs => pk (one (.fn f cs)) []
      | _, _ => none) = some (r, d)) : Post E.P A g B a w o r d := by
  split at h
  · rename_i cs hf hc
    obtain ⟨rfl, rfl⟩ := pk_one h
    have hf' : first = #[] := by apply Array.ext'; simpa using hf
    refine .pure hM (v := .func (.func f) #[] (caps.map a.eval)) ?_ ⟨_, rfl, by simpa using caps_sr hT _ _ hc⟩
    simp [execOp, ho, Instr.makeFunc, hf']
  · cases h

theorem args_one {f : Operand → T} {args : Array Operand} {x : T} (h : args.toList.map f = [x]) : ∃ p, args = #[p] ∧ f p = x := by
  obtain ⟨l⟩ := args
  rcases l with _ | ⟨p, _ | ⟨q, l⟩⟩
  · simp at h
  · simp at h; exact ⟨p, rfl, h⟩
  · simp at h

theorem args_two {f : Operand → T} {args : Array Operand} {x y : T} (h : args.toList.map f = [x, y]) : ∃ p q, args = #[p, q] ∧ f p = x ∧ f q = y := by
  obtain ⟨l⟩ := args
  rcases l with _ | ⟨p, _ | ⟨q, _ | ⟨z, l⟩⟩⟩
  · simp at h
  · simp at h
  · simp at h; exact ⟨p, q, rfl, h.1, h.2⟩
  · simp at h

theorem semK_post (hM : Mem A g B w) (hB : Sub Bx B) (hT : ∀ n, TR (cxOf A g B w) (tm n) (a.tmps.getD n undef)) (hE : ∀ t ks, eqTyp E.eqT t = some ks → EqOk E.P t ks) (hKy : ∀ t ks, eqTyp E.eqT t = some ks → KeyOk E.P t ks)
    (h : semK E Bx tm o pk = some (r, d)) : Post E.P A g B a w o r d := by
  unfold semK at h
  simp only [] at h
  split at h
  all_goals rename_i ho
  · cases h
    exact .pure hM (v := a.eval _) (by simp [execOp, ho]) (evalO_tr hT _)
  · cases h
    exact .pure hM (v := a.eval _) (by simp [execOp, ho]) (evalO_tr hT _)
  · exact pickK_post hM hT ho h
  · exact alloc_post hM hB ho h
  · exact boxOp_post hM hB hT ho h
  · exact buildK_post hM hT ho h
  · exact buildSliceK_post hM hB hT ho h
  · exact loadK_post hM hB hT ho h
  · exact storeK_post hM hB hT ho h
  · exact nilCheckK_post hM hT ho h
  · exact binK_post hM hB hT hE ho h
  · exact unK_post hM hT ho h
  · exact convK_post hM hB hT ho h
  · exact makeFuncK_post hM hT ho h
  · exact makeSliceK_post hM hB hT ho h
  · exact sliceK_post hM hB hT ho h
  · exact makeMapK_post hM hB hT ho h
  · exact lookupK_post hM hB hT hKy ho h
  · exact mapUpdateK_post hM hB hT hKy ho h
  · exact fieldAddrK_post hM hT ho h
  · exact fieldK_post hM hT ho h
  · exact indexAddrK_post hM hB hT ho h
  · exact indexK_post hM hT ho h
  · exact extractK_post hM hT ho h
  · rename_i b args ts
    generalize hA : args.toList.map (evalO tm) = as at h
    generalize hS : ts.toList = tl at h
    unfold builtinK at h
    split at h
    · obtain ⟨p, rfl, rfl⟩ := args_one hA
      refine lenK_post hM hB hT (c := { callee := .builtin .len, args := #[p], argTypes := ts }) (ts := ts) ?_ rfl rfl ho h
      rw [← Array.getElem?_toList, hS]; rfl
    · obtain ⟨p, q, rfl, rfl, rfl⟩ := args_two hA
      split at h
      · rename_i hu
        refine appendK_post hM hB hT (c := { callee := .builtin .append, args := #[p, q], argTypes := ts }) ?_ rfl rfl ho hu h
        apply Array.ext'
        rw [hS]
      · cases h
    · obtain ⟨p, q, rfl, rfl, rfl⟩ := args_two hA
      split at h
      · rename_i hu
        refine copyK_post hM hB hT (c := { callee := .builtin .copy, args := #[p, q], argTypes := ts }) ?_ rfl rfl ho hu h
        apply Array.ext'
        rw [hS]
      · cases h
    · obtain ⟨p, rfl, rfl⟩ := args_one hA
      refine clearK_post hM hB hT (c := { callee := .builtin .clear, args := #[p], argTypes := ts }) ?_ rfl rfl ho h
      apply Array.ext'
      rw [hS]
    · split at h
      · rename_i s hs
        cases h
        rw [← hA] at hs
        exact minMax_post hM hT (mx := true) (c := { callee := .builtin .max, args := args, argTypes := ts }) rfl ho hs
      · cases h
    · split at h
      · rename_i s hs
        cases h
        rw [← hA] at hs
        exact minMax_post hM hT (mx := false) (c := { callee := .builtin .min, args := args, argTypes := ts }) rfl ho hs
      · cases h
    · cases h
  · cases h

end
end Ai
end Go.Proofs.YtpboclokodgnlaaGreat
