/-
  The ideal interpreter against the machine: rows of elements; making and appending slices.
-/
import Derived.Test.YtpknhlnoaehffaaA11
namespace Go.Proofs.Ytpknhlnoaehffaa
namespace Ai
set_option linter.unusedSimpArgs false
set_option linter.unusedVariables false

section
variable {α : Type}

theorem flatten_length {css : List (List α)} {sz : Nat} (h : ∀ cs ∈ css, cs.length = sz) : css.flatten.length = css.length * sz := by
  induction css with
  | nil => simp
  | cons cs r ih =>
    simp only [List.flatten_cons, List.length_append, List.length_cons]
    rw [h cs (by simp), ih fun c hc => h c (by simp [hc]), Nat.add_mul]
    omega

theorem flatten_get {css : List (List α)} {sz : Nat} (h : ∀ cs ∈ css, cs.length = sz) : ∀ (i : Nat) (cs : List α) (j : Nat), css[i]? = some cs → j < sz → css.flatten[i * sz + j]? = cs[j]? := by
  induction css with
  | nil => intro i cs j hi; simp at hi
  | cons c r ih =>
    intro i cs j hi hj
    have hc : c.length = sz := h c (by simp)
    cases i with
    | zero =>
      simp at hi
      subst hi
      rw [List.flatten_cons, Nat.zero_mul, Nat.zero_add, List.getElem?_append_left (by omega)]
    | succ i =>
      rw [List.flatten_cons, List.getElem?_append_right (by rw [Nat.add_mul]; omega)]
      have : (i + 1) * sz + j - c.length = i * sz + j := by rw [Nat.add_mul]; omega
      rw [this]
      exact ih (fun c hc => h c (by simp [hc])) i cs j (by simpa using hi) hj

/-- A place in rows of equal length. -/
theorem place {n sz j : Nat} (h : j < n * sz) : ∃ i m, i < n ∧ m < sz ∧ j = i * sz + m := by
  have hsz : 0 < sz := by
    rcases Nat.eq_zero_or_pos sz with e | e
    · subst e; simp at h
    · exact e
  refine ⟨j / sz, j % sz, (Nat.div_lt_iff_lt_mul hsz).2 h, Nat.mod_lt _ hsz, ?_⟩
  have := Nat.div_add_mod j sz
  rw [Nat.mul_comm] at this
  exact this.symm

end

/-- A slice's elements, row by row. -/
theorem dr_rows {w : World} {ok : Nat → Prop} {c : Cd} {xs : List (El c)} {v : Value} (h : DR w ok (.list c) xs [v]) :
    ∃ css : List (List Value), All2 (DR w ok c) xs css ∧
      ((v = .slice none 0 0 ∧ css = [] ∧ xs = []) ∨ ∃ b k cap, v = .slice (some ⟨b, k, none⟩) xs.length cap ∧ xs.length ≤ cap ∧ ∀ (j : Nat) u, css.flatten[j]? = some u → w.cell? ⟨b, k + j, none⟩ = some u) := by
  rcases h with ⟨e, rfl⟩ | ⟨b, k, cap, e, hc, hokb, hcap, hel⟩
  · simp only [List.cons.injEq, and_true] at e
    exact ⟨[], trivial, .inl ⟨e, rfl, rfl⟩⟩
  · simp only [List.cons.injEq, and_true] at e
    have key : ∀ (ys : List (El c)) (n : Nat), (∀ (i : Nat) x, ys[i]? = some x → ∃ cs', DR w ok c x cs' ∧ ∀ (j : Nat) v, cs'[j]? = some v → w.cell? ⟨b, k + (n + i) * csize c + j, none⟩ = some v) →
        ∃ css : List (List Value), All2 (DR w ok c) ys css ∧ ∀ (j : Nat) u, css.flatten[j]? = some u → w.cell? ⟨b, k + n * csize c + j, none⟩ = some u := by
      intro ys
      induction ys with
      | nil => intro n _; exact ⟨[], trivial, fun j u h => by simp at h⟩
      | cons y ys ih =>
        intro n h
        obtain ⟨cs, hd, hv⟩ := h 0 y rfl
        obtain ⟨css, ha, hvs⟩ := ih (n + 1) fun i x hx => by
          obtain ⟨cs', h1, h2⟩ := h (i + 1) x (by simpa using hx)
          exact ⟨cs', h1, fun j v hj => by have := h2 j v hj; rwa [show n + (i + 1) = n + 1 + i by omega] at this⟩
        refine ⟨cs :: css, ⟨hd, ha⟩, fun j u hj => ?_⟩
        have hl := hd.length
        rw [List.flatten_cons] at hj
        by_cases hjl : j < cs.length
        · rw [List.getElem?_append_left hjl] at hj
          have := hv j u hj
          simpa using this
        · rw [List.getElem?_append_right (by omega)] at hj
          have := hvs _ u hj
          rw [Nat.add_mul, Nat.one_mul, hl] at this
          rwa [show k + (n * csize c + csize c) + (j - csize c) = k + n * csize c + j by omega] at this
    obtain ⟨css, h1, h2⟩ := key xs 0 (fun i x hx => by simpa using hel i x hx)
    exact ⟨css, h1, .inr ⟨b, k, cap, e, hc, fun j u hj => by simpa using h2 j u hj⟩⟩

theorem rows_len {w : World} {ok : Nat → Prop} {c : Cd} : ∀ {xs : List (El c)} {css : List (List Value)}, All2 (DR w ok c) xs css → ∀ cs ∈ css, cs.length = csize c
  | _ :: _, cs :: _, h, cs', hc => by
    rcases List.mem_cons.1 hc with rfl | hc
    · exact h.1.length
    · exact rows_len h.2 cs' hc
  | [], [], _, _, hc => by simp at hc
  | [], _ :: _, h, _, _ => h.elim
  | _ :: _, [], h, _, _ => h.elim

theorem rows_one {w : World} {ok : Nat → Prop} {c : Cd} : ∀ {xs : List (El c)} {css : List (List Value)}, All2 (DR w ok c) xs css → ∀ u ∈ css.flatten, u.oneCell' = true
  | _ :: _, cs :: _, h, u, hc => by
    rw [List.flatten_cons] at hc
    rcases List.mem_append.1 hc with hc | hc
    · exact DR.oneCell h.1 u hc
    · exact rows_one h.2 u hc
  | [], [], _, _, hc => by simp at hc
  | [], _ :: _, h, _, _ => h.elim
  | _ :: _, [], h, _, _ => h.elim

/-- Rows in an array are an owned slice's elements. -/
theorem rows_br {C : Cx} {org : Nat} {c : Cd} {xs : List (El c)} {css : List (List Value)} (ha : All2 (DR C.w (C.ok org) c) xs css) {l : Loc} {arr : Array Value} {t : TypeId}
    (hnil : l.nil = false) (hS : C.S org l.b) (hn : l.n = xs.length) (hcap : l.n ≤ l.cap) (hz : l.sz = csize c) (hh : C.w.heap[l.b]? = some (.cells arr t (0, 0))) (hfit : l.o + l.cap * l.sz ≤ arr.size)
    (hrow : ∀ (j : Nat) u, css.flatten[j]? = some u → arr[l.o + j]? = some u) : BR C (.vec org c xs) l := by
  refine .inr ⟨hnil, hS, hn, hcap, hz, arr, t, hh, hfit, fun i x hx => ?_⟩
  obtain ⟨cs, hcs, hd⟩ := ha.get hx
  refine ⟨cs, hd, fun j v hj => ?_⟩
  have hl := hd.length
  have hjl : j < csize c := by rw [← hl]; exact (List.getElem?_eq_some_iff.1 hj).1
  have := flatten_get (rows_len ha) i cs j hcs hjl
  rw [hj] at this
  have := hrow _ _ this
  rwa [hz, Nat.add_assoc]

theorem rows_mono {w w' : World} {ok ok' : Nat → Prop} {c : Cd} (hs : w.heap.size ≤ w'.heap.size) (h : ∀ b, b < w.heap.size → ok b → ok' b ∧ w'.heap[b]? = w.heap[b]?) {xs : List (El c)} {css : List (List Value)}
    (ha : All2 (DR w ok c) xs css) : All2 (DR w' ok' c) xs css := ha.mono fun _ _ hd => hd.mono hs h

section
variable {E : Env} {A : Base} {g : Nat → Option Loc} {B Bx : Nat → BS} {tm : Nat → T} {a : Act} {w : World} {o : Oper} {r : T} {d : List (Nat × BS)}

/-- A new slice of these elements. -/
theorem vec_post (hM : Mem A g B w) {id : Nat} (hf : B id = .fresh) {org : Nat} {c : Cd} {xs : List (El c)} {css : List (List Value)} (ha : All2 (DR w ((cxOf A g B w).ok org) c) xs css) {w1 : World} {cap : Nat} {arr : Array Value} {t : TypeId}
    (h1 : w1.heap = w.heap) (hos : w1.os = w.os) (htp : w1.tape = w.tape) (hout : w1.output = w.output)
    (hcap : xs.length ≤ cap) (hfit : cap * csize c ≤ arr.size) (hrow : ∀ (j : Nat) u, css.flatten[j]? = some u → arr[j]? = some u)
    (hr : (execOp a.eval o).run E.P w = .ok (.value (.slice (some ⟨w.heap.size, 0, none⟩) xs.length cap)) (w1.alloc (.cells arr t))) :
    Post E.P A g B a w o (one (.own id)) [(id, .live (.vec org c xs))] := by
  obtain ⟨hM', hL⟩ := hM.make hf (blk := .vec org c xs) (l := ⟨w.heap.size, 0, xs.length, cap, csize c, false, none⟩) (w' := w1.alloc (.cells arr t)) (o := .cells arr t) rfl (by show w1.heap.push _ = _; rw [h1]) .cells hos htp hout rfl
    (fun hL => rows_br (C := cxOf A _ _ _) (rows_mono hL.size (fun b hb hok => by
        obtain ⟨e1, e2⟩ := hL.ow b hb hok.2
        exact ⟨⟨hok.1, e1⟩, e2⟩) ha) rfl (A.new _ _ hM.fr.size) rfl hcap rfl (arr := arr) (t := t) (by show (w1.heap.push _)[w.heap.size]? = _; rw [h1]; simp) (by simpa using hfit) (fun j u hj => by simpa using hrow j u hj))
  exact ⟨_, _, hM', hL, .inl ⟨_, hr, ⟨_, upd_same _ _ _, rfl⟩⟩⟩

theorem idsL_append : ∀ (l1 l2 : List Sc), idsL l1 = [] → idsL l2 = [] → idsL (l1 ++ l2) = [] := by
  intro l1 l2 e1 e2
  induction l1 with
  | nil => exact e2
  | cons s l1 ih => cases s <;> simp_all [idsL]

theorem dec_dead_ids (c : Cd) (ss : List Sc) (y : El c) (h : decC (fun _ => BS.dead) c ss = some y) : idsL ss = [] := by
  cases e : idsL ss with
  | nil => rfl
  | cons q r =>
    obtain ⟨v, hv⟩ := dec_ids _ _ _ h q (by rw [e]; simp)
    simp [vecOf] at hv

theorem ofOne_org {ss : List Sc} (h : ∀ s ∈ ss, ∃ v, ofOne v = some s) : orgL (fun _ => BS.dead) ss = 0 := by
  induction ss with
  | nil => rfl
  | cons s r ih =>
    obtain ⟨v, hv⟩ := h s (by simp)
    have := ih fun s hs => h s (by simp [hs])
    unfold ofOne at hv
    split at hv <;> first | (cases hv; simp [orgL, orgS, this]; done) | cases hv

theorem ofValue_one {v : Value} {z : Val} (hzo : ofValue v = some z) : ∀ s ∈ z.cells, ∃ v, ofOne v = some s := by
  unfold ofValue at hzo
  split at hzo
  · rename_i cs
    rw [Option.map_eq_some_iff] at hzo
    obtain ⟨l, hl, rfl⟩ := hzo
    intro s hs
    have : ∀ (cs : List Value) (l : List Sc), cs.mapM ofOne = some l → ∀ s ∈ l, ∃ v, ofOne v = some s := by
      intro cs
      induction cs with
      | nil => intro l hl s hs; simp at hl; subst hl; simp at hs
      | cons c r ih =>
        intro l hl s hs
        simp only [List.mapM_cons, Option.bind_eq_bind, Option.bind_eq_some_iff, Option.pure_def, Option.some.injEq] at hl
        obtain ⟨s', hs', l', hl', rfl⟩ := hl
        rcases List.mem_cons.1 hs with rfl | hs
        · exact ⟨_, hs'⟩
        · exact ih l' hl' s hs
    exact this _ _ hl s hs
  · rw [Option.map_eq_some_iff] at hzo
    obtain ⟨s', hs', rfl⟩ := hzo
    intro s hs
    simp [Val.cells] at hs
    subst hs
    exact ⟨_, hs'⟩

/-- A type's zero value, as a datum. -/
theorem zero_dr (hM : Mem A g B w) {v : Value} {z : Val} (hzo : ofValue v = some z) (hu : noUnd z.cells = true) {c : Cd} {zd : El c} (hd : decC (fun _ => BS.dead) c z.cells = some zd) :
    DR w (okI A g B [] 0) c zd v.cells.toList := by
  have hzc := (vr_cells (C := cxOf A g B w) (ofValue_vr hzo) hu).1
  exact decC_dr hM sub_dead (I := []) (org := 0) hzc hd (by rw [dec_dead_ids _ _ _ hd]; simp) (by rw [ofOne_org (ofValue_one hzo)]; rfl)

/-! ### make -/

theorem makeSliceK_post (hM : Mem A g B w) (hB : Sub Bx B) (hT : ∀ n, TR (cxOf A g B w) (tm n) (a.tmps.getD n undef)) {id : Nat}
    {t : TypeId} {x y : Operand} (ho : o.op = .makeSlice t x y) (h : makeSliceK E Bx id t (evalO tm x) (evalO tm y) pk = some (r, d)) : Post E.P A g B a w o r d := by
  have hx := evalO_tr hT x
  have hy := evalO_tr hT y
  generalize evalO tm x = X at hx h
  generalize evalO tm y = Y at hy h
  unfold makeSliceK at h
  split at h
  · rename_i e kl l kn n he
    split at h
    · rename_i cd sz by_ z hcd hsz hby hz
      split at h
      · rename_i hc
        simp only [Bool.and_eq_true, decide_eq_true_eq] at hc
        obtain ⟨hsc, hu, hby4⟩ := hc
        have hsc := Nat.eq_of_beq_eq_true hsc
        split at h
        · rename_i zd hd
          obtain ⟨hcond, h⟩ := cond_some h
          simp only [Bool.and_eq_true, decide_eq_true_eq] at hcond
          obtain ⟨h0, hln, hnl⟩ := hcond
          obtain ⟨hf, rfl, rfl⟩ := mkB_inv h
          obtain ⟨i, v, hi, hzv, hzo⟩ := zero_of hz
          unfold elemT at he
          split at he
          · rename_i e' hu'
            obtain rfl : e = e' := by simpa using he.symm
            have hzc := (vr_cells (C := cxOf A g B w) (ofValue_vr hzo) hu).1
            have hDR := zero_dr hM hzo hu hd
            have hzl := hDR.length
            obtain ⟨zarr, hzarr⟩ : ∃ q, v.cells = q := ⟨_, rfl⟩
            rw [hzarr] at hzl hDR
            -- the rows
            let css : List (List Value) := List.replicate l.toNat zarr.toList
            have ha : All2 (DR w ((cxOf A g B w).ok 0) cd) (List.replicate l.toNat zd) css := by
              refine All2.of_get (by simp [css]) fun i x cs hx hcs => ?_
              simp only [css, List.getElem?_replicate] at hx hcs
              split at hx
              · rename_i hil
                rw [if_pos hil] at hcs
                cases hx; cases hcs
                exact hDR.mono (Nat.le_refl _) fun b hb hok => ⟨okI_nil hok, rfl⟩
              · cases hx
            have hsz' : i.size = csize cd := by
              unfold szT at hsz
              rw [hi] at hsz
              simp at hsz
              omega
            have hby' : i.bytes ≤ 4096 := by
              rw [hi] at hby
              simp at hby
              omega
            have hnl' : n ≤ 4194304 := hnl
            have hbytes : (i.bytes : Int) * n ≤ 281474976710656 := by
              have h1 : (i.bytes : Int) ≤ 4096 := by omega
              have h2 : (i.bytes : Int) * n ≤ 4096 * n := Int.mul_le_mul_of_nonneg_right h1 (by omega)
              omega
            have hrun := run_make (P := E.P) w t e i v hu' hi hzv kl kn l n h0 hln hbytes (by omega)
            refine vec_post hM (hB.fresh _ hf) ha (w1 := w) (cap := n.toNat) (arr := madeCells v.cells (n.toNat * i.size)) rfl rfl rfl rfl (by simp; omega) (by rw [size_madeCells, hsz']; exact Nat.le_refl _) (fun j u hj => ?_) (t := e) ?_
            · have hcl : ∀ cs ∈ css, cs.length = csize cd := fun cs hcs => by
                rw [(List.mem_replicate.1 hcs).2]; exact hzl
              have hjl : j < css.length * csize cd := by rw [← flatten_length hcl]; exact (List.getElem?_eq_some_iff.1 hj).1
              obtain ⟨p, m, hp, hm, rfl⟩ := place hjl
              have hcp : css[p]? = some zarr.toList := by
                simp only [css, List.getElem?_replicate]
                rw [if_pos (by simpa [css] using hp)]
              rw [flatten_get hcl p _ m hcp hm] at hj
              have hp' : p < n.toNat := by simp [css] at hp; omega
              have hlt : p * csize cd + m < n.toNat * i.size := by
                have : (p + 1) * csize cd ≤ n.toNat * csize cd := Nat.mul_le_mul_right _ hp'
                rw [Nat.add_mul] at this
                rw [hsz']; omega
              rw [hzarr]
              have hzs : zarr.size = csize cd := by simpa using hzl
              simp only [madeCells, Array.getElem?_map, Array.getElem?_range, hlt, if_true, Option.map_some]
              rw [hzs, Nat.mul_comm p, Nat.mul_add_mod, Nat.mod_eq_of_lt hm]
              have hm' : m < zarr.size := by omega
              rw [getElem!_pos zarr m hm']
              have : zarr.toList[m]? = some zarr[m] := by simp [hm']
              rw [this] at hj
              exact hj
            · simp only [execOp, ho, tr_int hx, tr_int hy, Sem.run_bind, hrun, Result.andThen_ok, Sem.run_pure]
              rw [List.length_replicate]
          · cases he
        · cases h
      · cases h
    · cases h
  · cases h

end
end Ai
end Go.Proofs.Ytpknhlnoaehffaa
