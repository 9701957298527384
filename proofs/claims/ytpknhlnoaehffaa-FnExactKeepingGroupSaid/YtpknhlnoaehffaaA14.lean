/-
  The ideal interpreter against the machine: append, clear, slices of slices, conversions.
-/
import Derived.Test.YtpknhlnoaehffaaA13
import Derived.Laws.BytesString
import Derived.Laws.AppendOwn
namespace Go.Proofs.Ytpknhlnoaehffaa
namespace Ai
set_option linter.unusedSimpArgs false
set_option linter.unusedVariables false

/-- Rows from elements. -/
theorem rows_of {w : World} {ok : Nat → Prop} {c : Cd} {b k : Nat} : ∀ (ys : List (El c)) (n : Nat), (∀ (i : Nat) x, ys[i]? = some x → ∃ cs', DR w ok c x cs' ∧ ∀ (j : Nat) v, cs'[j]? = some v → w.cell? ⟨b, k + (n + i) * csize c + j, none⟩ = some v) →
    ∃ css : List (List Value), All2 (DR w ok c) ys css ∧ ∀ (j : Nat) u, css.flatten[j]? = some u → w.cell? ⟨b, k + n * csize c + j, none⟩ = some u := by
  intro ys
  induction ys with
  | nil => intro n _; exact ⟨[], trivial, fun j u h => by simp at h⟩
  | cons y ys ih =>
    intro n h
    obtain ⟨cs, hd, hv⟩ := h 0 y rfl
    obtain ⟨css, ha, hvs⟩ := ih (n + 1) fun i x hx => by
      obtain ⟨cs', h1, h2⟩ := h (i + 1) x (by simpa using hx)
      exact ⟨cs', h1, fun j v hj => by have := h2 j v hj; rwa [show n + (i + 1) = n + 1 + i by omega] at this⟩
    refine ⟨cs :: css, ⟨hd, ha⟩, fun j u hj => ?_⟩
    have hl := hd.length
    rw [List.flatten_cons] at hj
    by_cases hjl : j < cs.length
    · rw [List.getElem?_append_left hjl] at hj
      have := hv j u hj
      simpa using this
    · rw [List.getElem?_append_right (by omega)] at hj
      have := hvs _ u hj
      rw [Nat.add_mul, Nat.one_mul, hl] at this
      rwa [show k + (n * csize c + csize c) + (j - csize c) = k + n * csize c + j by omega] at this

section
variable {E : Env} {A : Base} {g : Nat → Option Loc} {B Bx : Nat → BS} {tm : Nat → T} {a : Act} {w : World} {o : Oper} {r : T} {d : List (Nat × BS)}

/-- What a slice holds, as rows; their own slices lie where nobody owns. -/
def Rows (C : Cx) (org : Nat) (c : Cd) (xs : List (El c)) (v : Value) : Prop :=
  ∃ css : List (List Value), All2 (DR C.w (C.ok org) c) xs css ∧
    ((v = .slice none 0 0 ∧ css = [] ∧ xs = []) ∨ ∃ b k cap, v = .slice (some ⟨b, k, none⟩) xs.length cap ∧ xs.length ≤ cap ∧ ∀ (j : Nat) u, css.flatten[j]? = some u → C.w.cell? ⟨b, k + j, none⟩ = some u)

theorem castL_rows {C : Cx} {org : Nat} {c c' : Cd} (h : c' = c) {xs : List (El c')} {v : Value} (hd : Rows C org c' xs v) : Rows C org c (castL h xs) v := by
  subst h; exact hd

/-- Rows of a named slice, or of a part of it. -/
theorem named_rows (hM : Mem A g B w) (hB : Sub Bx B) {id : Nat} {v : Vc} (hv : vecOf Bx id = some v) {l : Loc} (hg : g id = some l) {org' : Nat} (ho : orgLe v.org org' = true) (lo hi : Nat) (h1 : lo ≤ hi) (h2 : hi ≤ l.n) :
    Rows (cxOf A g B w) org' v.c (cut lo hi v.xs) (l.sub lo hi) := by
  have hdr := vecOf_dr hM hB hv hg (I := [id]) (fun _ => List.mem_singleton.2 rfl) (orgLe_refl _)
  obtain ⟨hd, hz, hn, hc⟩ := hdr
  cases hnil : l.nil
  · have hlen : (cut lo hi v.xs).length = hi - lo := length_cut (by omega)
    have hel : ∀ (i : Nat) x, (cut lo hi v.xs)[i]? = some x → ∃ cs', DR w ((cxOf A g B w).ok org') v.c x cs' ∧ ∀ (j : Nat) u, cs'[j]? = some u → w.cell? ⟨l.b, (l.o + lo * l.sz) + (0 + i) * csize v.c + j, none⟩ = some u := by
      intro i x hx
      rw [getElem?_cut] at hx
      split at hx
      · obtain ⟨cs, _, hcell, hd, _⟩ := vec_elem hM hB hv hg (i := lo + i) (by omega)
        have hx' : v.xs.getD (lo + i) (dflt v.c) = x := by simp [List.getD, hx]
        rw [hx'] at hd
        refine ⟨cs, hd.mono (Nat.le_refl _) fun b hb hok => ⟨⟨A.mono _ _ _ ho hok.1, hok.2⟩, rfl⟩, fun j u hj => ?_⟩
        have := hcell j u hj
        rw [Nat.add_mul] at this
        rw [← hz, Nat.zero_add, show l.o + lo * l.sz + i * l.sz + j = l.o + (lo * l.sz + i * l.sz) + j by omega]
        exact this
      · cases hx
    obtain ⟨css, h3, h4⟩ := rows_of (b := l.b) (k := l.o + lo * l.sz) _ 0 hel
    have hsub : l.sub lo hi = .slice (some (if l.cap = lo then ⟨l.b, l.o, none⟩ else ⟨l.b, l.o + lo * l.sz, none⟩)) (hi - lo) (l.cap - lo) := by simp [Loc.sub, hnil]
    rw [hsub]
    by_cases e : l.cap = lo
    · have h0 : cut lo hi v.xs = [] := by
        apply List.eq_nil_of_length_eq_zero
        rw [hlen]; omega
      refine ⟨css, h3, .inr ⟨l.b, l.o, l.cap - lo, by rw [if_pos e, hlen], by rw [hlen]; omega, fun j u hj => ?_⟩⟩
      rw [h0] at h3
      match css, h3 with
      | [], _ => simp at hj
    · refine ⟨css, h3, .inr ⟨l.b, l.o + lo * l.sz, l.cap - lo, by rw [if_neg e, hlen], by rw [hlen]; omega, fun j u hj => ?_⟩⟩
      have := h4 j u hj
      show w.cell? _ = _
      simpa using this
  · unfold Loc.sl at hd
    rw [hnil] at hd
    rcases hd with ⟨e, h0⟩ | ⟨b, k, cap, e, h4, _⟩
    · simp only [cond_true, List.cons.injEq, and_true] at e
      refine ⟨[], ?_, .inl ⟨by simp [Loc.sub, hnil, e], rfl, by rw [h0]; simp [cut]⟩⟩
      rw [h0]
      simp [cut, All2]
    · simp only [cond_true, List.cons.injEq, Value.slice.injEq, and_true] at e
      obtain ⟨e, e1, e2⟩ := e
      have h0 : v.xs = [] := List.eq_nil_of_length_eq_zero e1.symm
      refine ⟨[], ?_, .inr ⟨b, k, 0, by simp [Loc.sub, hnil, e, h0, cut], by rw [h0]; simp [cut], fun j u hj => by simp at hj⟩⟩
      rw [h0]
      simp [cut, All2]

theorem list_rows (hM : Mem A g B w) (hB : Sub Bx B) {c : Cd} {s : Sc} {v : Value} (hs : SR (cxOf A g B w) s v) {xs : List (El c)} (h : listOf Bx c s = some xs) {org : Nat} (ho : orgLe (orgS Bx s) org = true) :
    Rows (cxOf A g B w) org c xs v := by
  cases s <;> simp only [listOf] at h
  case ps org' c' ys =>
    split at h
    · rename_i hc
      cases h
      refine castL_rows hc ?_
      have : DR w ((cxOf A g B w).ok org') (.list c') ys [v] := hs
      have h2 : DR w ((cxOf A g B w).ok org) (.list c') ys [v] := this.mono (Nat.le_refl _) fun b hb hok => ⟨⟨A.mono _ _ _ ho hok.1, hok.2⟩, rfl⟩
      exact dr_rows h2
    · cases h
  case nils => cases h; exact ⟨[], trivial, .inl ⟨hs, rfl, rfl⟩⟩
  case own id =>
    split at h
    · rename_i q hq
      split at h
      · rename_i hc
        cases h
        obtain ⟨l, hl, rfl⟩ := hs
        obtain ⟨_, hz, hn, hcap⟩ := vecOf_dr hM hB hq hl (I := [id]) (fun _ => List.mem_singleton.2 rfl) (orgLe_refl _)
        have := named_rows hM hB hq hl (org' := org) (by simpa [orgS, hq] using ho) 0 l.n (Nat.zero_le _) (Nat.le_refl _)
        have hcut : cut 0 l.n q.xs = q.xs := by simp [cut, hn]
        rw [hcut] at this
        refine castL_rows hc ?_
        have hsub : l.sub 0 l.n = l.sl := by
          unfold Loc.sub Loc.sl
          cases l.nil <;> simp
        rwa [hsub] at this
      · cases h
    · cases h
  case sub id lo hi =>
    split at h
    · rename_i q hq
      split at h
      · rename_i hc
        cases h
        obtain ⟨l, hl, h1, h2, h3, h4, rfl⟩ := hs
        subst hc
        exact named_rows hM hB hq hl (by simpa [orgS, hq] using ho) lo hi h1 h2
      · cases h
    · cases h
  all_goals cases h

theorem run_of_bin {c : Call} {b : Builtin} (hc : c.callee = .builtin b) (ho : o.op = .call c) (P : Program) (w : World) :
    (execOp a.eval o).run P w = (builtin b c.argTypes o.type (c.args.map fun | .const _ => true | _ => false) (c.args.map a.eval)).run P w := by
  simp [execOp, ho, resolve, hc, invoke]
  rfl

/-- What is appended. -/
theorem src_of {P : Program} {size : Nat} {tx e' : TypeId} (hk : P.underlying tx = some (.slice e')) {C : Cx} {org : Nat} {c : Cd} {xs : List (El c)} {v : Value} (hsz : size = csize c) {css : List (List Value)} (ha : All2 (DR C.w (C.ok org) c) xs css)
    (h : (v = .slice none 0 0 ∧ css = [] ∧ xs = []) ∨ ∃ b k cap, v = .slice (some ⟨b, k, none⟩) xs.length cap ∧ xs.length ≤ cap ∧ ∀ (j : Nat) u, css.flatten[j]? = some u → C.w.cell? ⟨b, k + j, none⟩ = some u) :
    Src P size tx v xs.length css.flatten C.w := by
  rcases h with ⟨rfl, rfl, rfl⟩ | ⟨b, k, cap, rfl, hc, hcell⟩
  · exact Src.ofNil C.w hk 0
  · refine Src.ofSlice C.w hk _ _ _ _ ?_ (fun j u hj => ?_) (rows_one ha)
    · rw [flatten_length (rows_len ha), ← ha.length, hsz]
    · rw [addr_add]; exact hcell j u hj

theorem size_zeroCells (z : Array Value) (n : Nat) : (Builtin.zeroCells z n).size = n * z.size := by simp [Builtin.zeroCells]

theorem append_run_nils {P : Program} {w : World} {t tx ty e : TypeId} {i : TypeInfo} {x : Value} (ad : Option Addr) (ht : P.underlying t = some (.slice e)) (hi : P.info? e = some i) (hs : Src P i.size tx x 0 [] w) :
    (Builtin.append_ #[t, tx] ty #[.slice ad 0 0, x]).run P w = .ok (.slice ad 0 0) w := by
  have hc := hs.cells
  cases ad <;> rcases hs.kind with ⟨e', hk⟩ | hk <;> simp [Builtin.append_, run_underlying ht, run_underlying hk, sizeOf, typeInfo, hi, hs.len, hc, storeCells]

theorem first_none {P : Program} {w : World} (size : Nat) (ad : Option Addr) : (Builtin.firstCells size 0 (.slice ad 0 0)).run P w = .ok #[] w := by
  cases ad with
  | none => exact run_firstCells_none _ _ _ _ _
  | some a => exact run_firstCells_some w size 0 a 0 0 [] (by simp) (fun j v h => by simp at h)

theorem append_run_room {P : Program} {w : World} {t tx ty e : TypeId} {i : TypeInfo} {x : Value} (ht : P.underlying t = some (.slice e)) (hi : P.info? e = some i) {n : Nat} {news : List Value} (hs : Src P i.size tx x n news w) {b off len cap : Nat}
    (hroom : len + n ≤ cap) {arr : Array Value} {u : TypeId} (hb : w.heap[b]? = some (.cells arr u (0, 0))) (hfit : off + len * i.size + news.length ≤ arr.size) :
    (Builtin.append_ #[t, tx] ty #[.slice (some ⟨b, off, none⟩) len cap, x]).run P w = .ok (.slice (some ⟨b, off, none⟩) (len + n) cap)
      (w.setRow b (arr.toList.take (off + len * i.size) ++ news ++ arr.toList.drop (off + len * i.size + news.length)).toArray) := by
  have hst := run_storeCells_at P b (off + len * i.size) u news 0 arr w hb (by omega) hs.one
  simp only [Nat.add_zero] at hst
  rcases hs.kind with ⟨e', hk⟩ | hk <;> simp [Builtin.append_, run_underlying ht, run_underlying hk, sizeOf, typeInfo, hi, hs.len, hroom, hs.cells, Addr.add_lit, hst]

theorem castL_length {c c' : Cd} (h : c' = c) (xs : List (El c')) : (castL h xs).length = xs.length := by subst h; rfl

theorem appendK_post (hM : Mem A g B w) (hB : Sub Bx B) (hT : ∀ n, TR (cxOf A g B w) (tm n) (a.tmps.getD n undef)) {id : Nat} {c : Call} {t u : TypeId} {x y : Operand}
    (hts : c.argTypes = #[t, u]) (hc : c.callee = .builtin .append) (hargs : c.args = #[x, y]) (ho : o.op = .call c) {e' : TypeId} (hu : E.P.underlying u = some (.slice e'))
    (h : appendK E Bx id t (evalO tm x) (evalO tm y) pk = some (r, d)) : Post E.P A g B a w o r d := by
  have hx := evalO_tr hT x
  have hy := evalO_tr hT y
  have hr : (execOp a.eval o).run E.P w = ((Builtin.append_ #[t, u] o.type #[a.eval x, a.eval y]).run E.P w).andThen fun v w => .ok (.value v) w := by
    rw [run_of_bin hc ho]
    simp [builtin, hargs, hts]
  generalize evalO tm x = X at hx h
  generalize evalO tm y = Y at hy h
  unfold appendK at h
  split at h
  · rename_i e he
    have hut : E.P.underlying t = some (.slice e) := by
      unfold elemT at he
      split at he
      · rename_i e2 h2; cases he; exact h2
      · cases he
    split at h
    · rename_i c sz by_ z s q hcd hsz hby hz
      split at h
      · rename_i hcond
        simp only [Bool.and_eq_true, decide_eq_true_eq] at hcond
        obtain ⟨h1, h2, h3, h4, h5⟩ := hcond
        have h1 := Nat.eq_of_beq_eq_true h1
        have h2 := Nat.eq_of_beq_eq_true h2
        obtain ⟨i, v, hi, hzv, hzo⟩ := zero_of hz
        have hisz : i.size = csize c := by simp [szT, hi] at hsz; omega
        have hib : i.bytes ≤ 4096 := by simp [hi] at hby; omega
        have hzsz : v.cells.size = csize c := by
          have := (vr_cells (C := cxOf A g B w) (ofValue_vr hzo) h3).1.length
          simp at this; omega
        split at h
        · rename_i ys hys
          obtain ⟨css, ha, hv⟩ := list_rows hM hB (show SR (cxOf A g B w) q _ from hy) hys (orgLe_refl _)
          have hsrc : Src E.P i.size u (a.eval y) ys.length css.flatten w := src_of (P := E.P) (size := i.size) hu hisz ha hv
          have hylen : ys.length = css.length := ha.length
          have hflen : css.flatten.length = css.length * csize c := flatten_length (rows_len ha)
          -- a new row
          have grow : ∀ (base : Option Addr) (sLen sCap : Nat) (xs : List (El c)) (org : Nat) (olds : List (List Value)), All2 (DR w ((cxOf A g B w).ok (org ||| orgS Bx q)) c) xs olds → xs.length = sLen → sLen + ys.length ≤ LIM → sCap < sLen + ys.length →
              (Builtin.firstCells i.size sLen (.slice base sLen sCap)).run E.P w.drew = .ok olds.flatten.toArray w.drew →
              ∃ arr ty, (Builtin.append_ #[t, u] o.type #[.slice base sLen sCap, a.eval y]).run E.P w = .ok (.slice (some ⟨w.heap.size, 0, none⟩) (sLen + ys.length) (grownCap w (sLen + ys.length) sCap e)) (w.drew.alloc (.cells arr ty)) ∧
                All2 (DR w ((cxOf A g B w).ok (org ||| orgS Bx q)) c) (xs ++ ys) (olds ++ css) ∧ (grownCap w (sLen + ys.length) sCap e) * csize c ≤ arr.size ∧ ∀ (j : Nat) u, (olds ++ css).flatten[j]? = some u → arr[j]? = some u := by
            intro base sLen sCap xs org olds hol hxl hlim hg hold
            have hlim' : sLen + ys.length ≤ 4194304 := hlim
            have hcap := nextslicecap_le hg
            have hfit : Builtin.nextslicecap (sLen + ys.length) sCap * i.bytes ≤ 281474976710656 := by
              have : Builtin.nextslicecap (sLen + ys.length) sCap * i.bytes ≤ 8388608 * 4096 := Nat.mul_le_mul (by omega) hib
              omega
            have hrun := run_append_grow_src w t u o.type e i v hut hi hzv base sLen sCap olds.flatten hold (a.eval y) ys.length css.flatten hsrc hg (by omega) hfit
            refine ⟨_, _, hrun, hol.append (ha.mono fun _ _ hd => hd.mono (Nat.le_refl _) fun b hb hok => ⟨⟨A.mono _ _ _ (orgLe_or_right _ _) hok.1, hok.2⟩, rfl⟩), ?_, fun j u hj => ?_⟩
            · have h6 : olds.flatten.length = sLen * csize c := by rw [flatten_length (rows_len hol), ← hol.length, hxl]
              have h7 := grownCap_ge w (sLen + ys.length) sCap e
              simp only [Array.size_append, List.size_toArray, List.length_append, size_zeroCells, h6, hflen, hzsz]
              rw [← hylen, ← Nat.add_mul, ← Nat.add_mul]
              exact Nat.mul_le_mul_right _ (by omega)
            · rw [List.flatten_append] at hj
              have hjl := (List.getElem?_eq_some_iff.1 hj).1
              rw [Array.getElem?_append_left (by simpa using hjl)]
              simpa using hj
          split at h
          · -- nil
            have hxv : a.eval x = .slice none 0 0 := hx
            obtain ⟨hlim, h⟩ := cond_some h
            obtain ⟨hf, rfl, rfl⟩ := mkB_inv h
            have hlim : ys.length ≤ LIM := by simpa using hlim
            by_cases hys : ys = []
            · subst hys
              match css, ha with
              | [], _ =>
                obtain ⟨hM2, hL2⟩ := hM.makeNil (hB.fresh _ hf) (org := orgS Bx q) (c := c) (l := ⟨0, 0, 0, 0, csize c, true, none⟩) rfl rfl rfl rfl (.inl rfl)
                refine ⟨_, _, hM2, hL2, .inl ⟨.slice none 0 0, ?_, ⟨_, upd_same _ _ _, rfl⟩⟩⟩
                rw [hr, hxv, append_run_nils _ hut hi (by simpa using hsrc)]
                rfl
            · have hpos : 0 < ys.length := List.length_pos_iff.2 hys
              obtain ⟨arr, ty, g1, g2, g3, g4⟩ := grow none 0 0 [] 0 [] trivial rfl (by omega) (by omega) (run_firstCells_none _ _ _ _ _)
              simp only [List.nil_append, Nat.zero_add, Nat.zero_or] at g1 g2 g3 g4
              refine vec_post hM (hB.fresh _ hf) g2 (w1 := w.drew) (cap := grownCap w ys.length 0 e) (arr := arr) (t := ty) rfl rfl rfl rfl (grownCap_ge _ _ _ _) g3 g4 ?_
              rw [hr, hxv, g1]
              rfl
          · rename_i si
            split at h
            · rename_i org c' xs hb
              split at h
              · rename_i hcc
                subst hcc
                split at h
                · cases h
                · rename_i hni
                  obtain ⟨hlim, h⟩ := cond_some h
                  have hlim : xs.length + ys.length ≤ LIM := by simpa using hlim
                  split at h
                  · rename_i hf
                    cases h
                    obtain ⟨l, hg, hxv⟩ := (show SR (cxOf A g B w) (.own si) _ from hx)
                    obtain ⟨l', hg', hbr, hX⟩ := hM.br si _ (hB.live _ _ hb)
                    rw [show g si = some l from hg] at hg'; cases hg'
                    have hfB := hB.fresh _ hf
                    have hne : id ≠ si := by rintro rfl; rw [hB.live _ _ hb] at hfB; cases hfB
                    rcases hbr with ⟨hnil, hx0, hn0, hcap0, hz0, had⟩ | ⟨hnil, hS, hn, hcap, hlz, arr, ty, harr, hfit, hel⟩
                    · -- nil
                      have hxs : l.sl = .slice l.ad 0 0 := by simp [Loc.sl, hnil]
                      rw [hxs] at hxv
                      obtain ⟨hM1, hL1⟩ := hM.kill (id := si) (by rw [hB.live _ _ hb]; simp)
                      have hf1 : upd B si .dead id = .fresh := by rw [upd_ne _ _ hne]; exact hfB
                      subst hx0
                      have hcl : castL rfl ([] : List (El c')) = [] := rfl
                      by_cases hys : ys = []
                      · subst hys
                        match css, ha with
                        | [], _ =>
                          obtain ⟨hM2, hL2⟩ := hM1.makeNil hf1 (org := org ||| orgS Bx q) (c := c') (l := l) hnil hn0 hcap0 hz0 had
                          refine ⟨_, _, hM2, hL1.trans hL2, .inl ⟨.slice l.ad 0 0, ?_, ⟨l, upd_same _ _ _, hxs.symm⟩⟩⟩
                          rw [hr, hxv, append_run_nils _ hut hi (by simpa using hsrc)]
                          rfl
                      · have hpos : 0 < ys.length := List.length_pos_iff.2 hys
                        simp only [List.length_nil, Nat.zero_add] at hlim
                        obtain ⟨arr, ty, g1, g2, g3, g4⟩ := grow l.ad 0 0 [] org [] trivial rfl (by omega) (by omega) (first_none _ _)
                        simp only [List.nil_append, Nat.zero_add] at g1 g2 g3 g4
                        obtain ⟨hM2, hL2⟩ := hM1.make (id := id) hf1 (blk := .vec (org ||| orgS Bx q) c' ys) (l := ⟨w.heap.size, 0, ys.length, grownCap w ys.length 0 e, csize c', false, none⟩)
                          (w' := w.drew.alloc (.cells arr ty)) (o := .cells arr ty) rfl rfl .cells rfl rfl rfl rfl
                          (fun hL2 => rows_br (C := cxOf A _ _ _) (rows_mono (hL1.trans hL2).size (fun b hb hok => by
                              obtain ⟨e1, e2⟩ := (hL1.trans hL2).ow b hb hok.2
                              exact ⟨⟨hok.1, e1⟩, e2⟩) g2) rfl (A.new _ _ hM.fr.size) rfl (grownCap_ge _ _ _ _) rfl (arr := arr) (t := ty) (by show (w.heap.push _)[w.heap.size]? = _; simp) (by simpa using g3) (fun j u hj => by simpa using g4 j u hj))
                        refine ⟨_, _, hM2, hL1.trans hL2, .inl ⟨_, ?_, ⟨_, upd_same _ _ _, rfl⟩⟩⟩
                        rw [hr, hxv, g1]
                        rfl
                    have hxs : l.sl = .slice (some ⟨l.b, l.o, none⟩) l.n l.cap := by simp [Loc.sl, hnil]
                    rw [hxs] at hxv
                    by_cases hroom : l.n + ys.length ≤ l.cap
                    · -- in place
                      have hfit2 : l.o + l.n * csize c' + css.flatten.length ≤ arr.size := by
                        rw [hflen, ← hylen]
                        have : (l.n + ys.length) * csize c' ≤ l.cap * csize c' := Nat.mul_le_mul_right _ hroom
                        rw [Nat.add_mul] at this
                        rw [hlz] at hfit
                        omega
                      have hrun := append_run_room (P := E.P) (ty := o.type) hut hi hsrc (b := l.b) (off := l.o) hroom harr (by rw [hisz]; exact hfit2)
                      have hget : ∀ m, (arr.toList.take (l.o + l.n * csize c') ++ css.flatten ++ arr.toList.drop (l.o + l.n * csize c' + css.flatten.length)).toArray[m]? =
                          if m < l.o + l.n * csize c' then arr[m]? else if m < l.o + l.n * csize c' + css.flatten.length then css.flatten[m - (l.o + l.n * csize c')]? else arr[m]? := by
                        intro m
                        have htl : (arr.toList.take (l.o + l.n * csize c')).length = l.o + l.n * csize c' := by
                          simp only [List.length_take, Array.length_toList]; omega
                        rw [List.getElem?_toArray, List.append_assoc]
                        by_cases q1 : m < l.o + l.n * csize c'
                        · rw [if_pos q1, List.getElem?_append_left (by omega), List.getElem?_take, if_pos q1]; simp
                        · rw [if_neg q1, List.getElem?_append_right (by omega), htl]
                          by_cases q2 : m < l.o + l.n * csize c' + css.flatten.length
                          · rw [if_pos q2, List.getElem?_append_left (by omega)]
                          · rw [if_neg q2, List.getElem?_append_right (by omega), List.getElem?_drop]
                            simp only [Array.getElem?_toList]
                            congr 1
                            omega
                      obtain ⟨hM', hL⟩ := hM.move (blk := .vec (org ||| orgS Bx q) c' (xs ++ ys)) (l' := ⟨l.b, l.o, l.n + ys.length, l.cap, l.sz, false, none⟩) (hB.live _ _ hb) hg hnil hfB rfl rfl
                        (w' := w.setRow l.b (arr.toList.take (l.o + l.n * csize c') ++ css.flatten ++ arr.toList.drop (l.o + l.n * csize c' + css.flatten.length)).toArray)
                        (by simp) (fun k hk => setRow_other w _ _ _ hk) (setRow_heap w _ _ _ _ _ harr) rfl rfl rfl (fun hL => by
                          refine .inr ⟨rfl, A.mono _ _ _ (orgLe_or_left _ _) hS, by simp [hn], hroom, hlz, _, ty, setRow_heap w _ _ _ _ _ harr, ?_, fun j p hp => ?_⟩
                          · have e1 : (arr.toList.take (l.o + l.n * csize c') ++ css.flatten ++ arr.toList.drop (l.o + l.n * csize c' + css.flatten.length)).toArray.size = arr.size := by
                              simp only [List.size_toArray, List.length_append, List.length_take, List.length_drop, Array.length_toList]
                              omega
                            rw [e1]; exact hfit
                          · show ∃ cs, _ ∧ ∀ m v, cs[m]? = some v → _[l.o + j * l.sz + m]? = some v
                            by_cases hj : j < xs.length
                            · rw [List.getElem?_append_left hj] at hp
                              obtain ⟨cs, hd, hv⟩ := hel j p hp
                              refine ⟨cs, (hL.dr hd).mono (Nat.le_refl _) fun b hb hok => ⟨⟨A.mono _ _ _ (orgLe_or_left _ _) hok.1, hok.2⟩, rfl⟩, fun m v hm => ?_⟩
                              have hml : m < csize c' := by rw [← hd.length]; exact (List.getElem?_eq_some_iff.1 hm).1
                              have := hv m v hm
                              rw [hget]
                              have hlt' : l.o + j * l.sz + m < l.o + l.n * csize c' := by
                                have : (j + 1) * csize c' ≤ l.n * csize c' := Nat.mul_le_mul_right _ (by omega)
                                rw [Nat.add_mul] at this
                                rw [hlz]; omega
                              rw [if_pos hlt']; exact this
                            · rw [List.getElem?_append_right (by omega)] at hp
                              obtain ⟨cs, hcs, hd⟩ := ha.get hp
                              refine ⟨cs, (hL.dr hd).mono (Nat.le_refl _) fun b hb hok => ⟨⟨A.mono _ _ _ (orgLe_or_right _ _) hok.1, hok.2⟩, rfl⟩, fun m v hm => ?_⟩
                              have hml : m < csize c' := by rw [← hd.length]; exact (List.getElem?_eq_some_iff.1 hm).1
                              have hfg := flatten_get (rows_len ha) (j - xs.length) cs m hcs hml
                              rw [hm] at hfg
                              have e2 : l.o + j * l.sz + m = l.o + l.n * csize c' + ((j - xs.length) * csize c' + m) := by
                                rw [hlz, hn]
                                have : j * csize c' = xs.length * csize c' + (j - xs.length) * csize c' := by rw [← Nat.add_mul]; congr 1; omega
                                omega
                              rw [hget, e2, if_neg (by omega), if_pos (by have := (List.getElem?_eq_some_iff.1 hfg).1; omega)]
                              rw [Nat.add_sub_cancel_left]
                              exact hfg)
                      refine ⟨_, _, hM', hL, .inl ⟨.slice (some ⟨l.b, l.o, none⟩) (l.n + ys.length) l.cap, ?_, ?_⟩⟩
                      · rw [hr, hxv, hrun, hisz]
                        rfl
                      · exact ⟨_, upd_same _ _ _, rfl⟩
                    · -- a new row
                      obtain ⟨olds, hol, hol2⟩ := rows_of (w := w) (ok := (cxOf A g B w).ok org) (b := l.b) (k := l.o) xs 0 (fun j p hp => by
                        obtain ⟨cs, hd, hv⟩ := hel j p hp
                        exact ⟨cs, hd, fun m v hm => by rw [cell_of (w := w) harr, ← hlz, Nat.zero_add]; exact hv m v hm⟩)
                      have hol3 : All2 (DR w ((cxOf A g B w).ok (org ||| orgS Bx q)) c') xs olds := hol.mono fun _ _ hd => hd.mono (Nat.le_refl _) fun b hb hok => ⟨⟨A.mono _ _ _ (orgLe_or_left _ _) hok.1, hok.2⟩, rfl⟩
                      have hof : olds.flatten.length = l.n * i.size := by rw [flatten_length (rows_len hol), ← hol.length, hn, hisz]
                      obtain ⟨arr2, ty2, g1, g2, g3, g4⟩ := grow (some ⟨l.b, l.o, none⟩) l.n l.cap xs org olds hol3 hn.symm (by omega) (by omega)
                        (run_firstCells_some w.drew _ _ _ _ _ _ hof (fun j v hj => by
                          rw [addr_add]
                          have := hol2 j v hj
                          simpa using this))
                      obtain ⟨hM1, hL1⟩ := hM.kill (id := si) (by rw [hB.live _ _ hb]; simp)
                      obtain ⟨hM2, hL2⟩ := hM1.make (id := id) (by rw [upd_ne _ _ hne]; exact hfB) (blk := .vec (org ||| orgS Bx q) c' (xs ++ ys)) (l := ⟨w.heap.size, 0, l.n + ys.length, grownCap w (l.n + ys.length) l.cap e, csize c', false, none⟩)
                        (w' := w.drew.alloc (.cells arr2 ty2)) (o := .cells arr2 ty2) rfl rfl .cells rfl rfl rfl rfl
                        (fun hL2 => rows_br (C := cxOf A _ _ _) (rows_mono (hL1.trans hL2).size (fun b hb hok => by
                            obtain ⟨e1, e2⟩ := (hL1.trans hL2).ow b hb hok.2
                            exact ⟨⟨hok.1, e1⟩, e2⟩) g2) rfl (A.new _ _ hM.fr.size) (by simp [hn]) (grownCap_ge _ _ _ _) rfl (arr := arr2) (t := ty2) (by show (w.heap.push _)[w.heap.size]? = _; simp) (by simpa using g3) (fun j u hj => by simpa using g4 j u hj))
                      refine ⟨_, _, hM2, hL1.trans hL2, .inl ⟨_, ?_, ⟨_, upd_same _ _ _, rfl⟩⟩⟩
                      rw [hr, hxv, g1]
                      rfl
                  · cases h
              · cases h
            · cases h
          · cases h
        · cases h
      · cases h
    · cases h
  · cases h

end
end Ai
end Go.Proofs.Ytpknhlnoaehffaa
