/-
  The ideal interpreter against the machine: a part of an owned slice written anew: copy, clear.
-/
import Derived.Test.YtpknhlnoaehffaaA14
namespace Go.Proofs.Ytpknhlnoaehffaa
namespace Ai
set_option linter.unusedSimpArgs false
set_option linter.unusedVariables false
set_option linter.unnecessarySimpa false

section
variable {E : Env} {A : Base} {g : Nat → Option Loc} {B Bx : Nat → BS} {tm : Nat → T} {a : Act} {w : World} {o : Oper} {r : T} {d : List (Nat × BS)}

theorem upd_keep {α : Type} (f : Nat → α) (k : Nat) (x : α) (h : f k = x) : upd f k x = f := by
  funext n
  rcases upd_cases f k n x with ⟨rfl, e⟩ | ⟨_, e⟩
  · rw [e, h]
  · exact e

theorem overL_len {α : Type} {xs ys : List α} {k : Nat} (h : k + ys.length ≤ xs.length) : (overL xs ys k).length = xs.length := by
  simp [overL]; omega

theorem overL_get {α : Type} {xs ys : List α} {k : Nat} (h : k + ys.length ≤ xs.length) (i : Nat) : (overL xs ys k)[i]? = if i < k then xs[i]? else if i < k + ys.length then ys[i - k]? else xs[i]? := by
  unfold overL
  have htl : (xs.take k).length = k := by simp; omega
  rw [List.append_assoc]
  by_cases q1 : i < k
  · rw [if_pos q1, List.getElem?_append_left (by omega), List.getElem?_take, if_pos q1]
  · rw [if_neg q1, List.getElem?_append_right (by omega), htl]
    by_cases q2 : i < k + ys.length
    · rw [if_pos q2, List.getElem?_append_left (by omega)]
    · rw [if_neg q2, List.getElem?_append_right (by omega), List.getElem?_drop]
      congr 1
      omega

theorem overL_nil {α : Type} (xs : List α) (k : Nat) : overL xs [] k = xs := by simp [overL]

/-- Elements written over a part of an owned row. -/
theorem over_mem (hM : Mem A g B w) {id org : Nat} {c : Cd} {xs : List (El c)} (hid : B id = .live (.vec org c xs)) {l : Loc} (hg : g id = some l) (hnil : l.nil = false) (hf : cflat c = true) {w0 : World} {ok : Nat → Prop} {ys : List (El c)} {css : List (List Value)}
    (ha : All2 (DR w0 ok c) ys css) {lo : Nat} (hlo : lo + ys.length ≤ xs.length) :
    ∃ arr ty, w.heap[l.b]? = some (.cells arr ty (0, 0)) ∧ l.sz = csize c ∧ l.n = xs.length ∧ l.o + lo * csize c + css.flatten.length ≤ arr.size ∧ ∀ w', w' = w.setRow l.b (arr.toList.take (l.o + lo * csize c) ++ css.flatten ++ arr.toList.drop (l.o + lo * csize c + css.flatten.length)).toArray →
      Mem A g (upd B id (.live (.vec org c (overL xs ys lo)))) w' ∧ Later (cxOf A g B w) (cxOf A g (upd B id (.live (.vec org c (overL xs ys lo)))) w') := by
  obtain ⟨l', hg', hbr, hX⟩ := hM.br id _ hid
  rw [hg] at hg'; cases hg'
  rcases hbr with ⟨h, _⟩ | ⟨_, hS, hn, hcap, hlz, arr, ty, harr, hfit, hel⟩
  · rw [hnil] at h; cases h
  have hflen : css.flatten.length = ys.length * csize c := by rw [flatten_length (rows_len ha), ← ha.length]
  have hfit2 : l.o + lo * csize c + css.flatten.length ≤ arr.size := by
    rw [hflen]
    have : (lo + ys.length) * csize c ≤ l.cap * csize c := Nat.mul_le_mul_right _ (by omega)
    rw [Nat.add_mul] at this
    rw [hlz] at hfit
    omega
  refine ⟨arr, ty, harr, hlz, hn, hfit2, fun w' hw' => ?_⟩
  subst hw'
  have hget : ∀ m, (arr.toList.take (l.o + lo * csize c) ++ css.flatten ++ arr.toList.drop (l.o + lo * csize c + css.flatten.length)).toArray[m]? =
      if m < l.o + lo * csize c then arr[m]? else if m < l.o + lo * csize c + css.flatten.length then css.flatten[m - (l.o + lo * csize c)]? else arr[m]? := by
    intro m
    have htl : (arr.toList.take (l.o + lo * csize c)).length = l.o + lo * csize c := by
      simp only [List.length_take, Array.length_toList]; omega
    rw [List.getElem?_toArray, List.append_assoc]
    by_cases q1 : m < l.o + lo * csize c
    · rw [if_pos q1, List.getElem?_append_left (by omega), List.getElem?_take, if_pos q1]; simp
    · rw [if_neg q1, List.getElem?_append_right (by omega), htl]
      by_cases q2 : m < l.o + lo * csize c + css.flatten.length
      · rw [if_pos q2, List.getElem?_append_left (by omega)]
      · rw [if_neg q2, List.getElem?_append_right (by omega), List.getElem?_drop]
        simp only [Array.getElem?_toList]
        congr 1
        omega
  refine hM.set (blk := .vec org c (overL xs ys lo)) hid hg hnil (by simp) (fun k hk => setRow_other w _ _ _ hk) (setRow_heap w _ _ _ _ _ harr) rfl rfl rfl (fun hL => ?_)
  refine .inr ⟨hnil, hS, by rw [overL_len hlo]; exact hn, hcap, hlz, _, ty, setRow_heap w _ _ _ _ _ harr, ?_, fun j p hp => ?_⟩
  · have e1 : (arr.toList.take (l.o + lo * csize c) ++ css.flatten ++ arr.toList.drop (l.o + lo * csize c + css.flatten.length)).toArray.size = arr.size := by
      simp only [List.size_toArray, List.length_append, List.length_take, List.length_drop, Array.length_toList]
      omega
    rw [e1]; exact hfit
  · rw [overL_get hlo] at hp
    show ∃ cs, _ ∧ ∀ m v, cs[m]? = some v → _[l.o + j * l.sz + m]? = some v
    have old : xs[j]? = some p → (j < lo ∨ lo + ys.length ≤ j) → ∃ cs, DR (w.setRow l.b (arr.toList.take (l.o + lo * csize c) ++ css.flatten ++ arr.toList.drop (l.o + lo * csize c + css.flatten.length)).toArray) ((cxOf A g (upd B id (.live (.vec org c (overL xs ys lo)))) (w.setRow l.b (arr.toList.take (l.o + lo * csize c) ++ css.flatten ++ arr.toList.drop (l.o + lo * csize c + css.flatten.length)).toArray)).ok org) c p cs ∧
        ∀ m v, cs[m]? = some v → (arr.toList.take (l.o + lo * csize c) ++ css.flatten ++ arr.toList.drop (l.o + lo * csize c + css.flatten.length)).toArray[l.o + j * l.sz + m]? = some v := fun hx hj => by
      obtain ⟨cs, hd, hv⟩ := hel j p hx
      refine ⟨cs, hd.flat hf, fun m v hm => ?_⟩
      have hml : m < csize c := by rw [← hd.length]; exact (List.getElem?_eq_some_iff.1 hm).1
      have := hv m v hm
      rw [hget]
      rcases hj with hj | hj
      · have hlt' : l.o + j * l.sz + m < l.o + lo * csize c := by
          have : (j + 1) * csize c ≤ lo * csize c := Nat.mul_le_mul_right _ (by omega)
          rw [Nat.add_mul] at this
          rw [hlz]; omega
        rw [if_pos hlt']; exact this
      · have hge : l.o + lo * csize c + css.flatten.length ≤ l.o + j * l.sz + m := by
          have : (lo + ys.length) * csize c ≤ j * csize c := Nat.mul_le_mul_right _ hj
          rw [Nat.add_mul] at this
          rw [hlz, hflen]; omega
        rw [if_neg (by omega), if_neg (by omega)]; exact this
    by_cases q1 : j < lo
    · rw [if_pos q1] at hp
      exact old hp (.inl q1)
    · rw [if_neg q1] at hp
      by_cases q2 : j < lo + ys.length
      · rw [if_pos q2] at hp
        obtain ⟨cs, hcs, hd⟩ := ha.get hp
        refine ⟨cs, hd.flat hf, fun m v hm => ?_⟩
        have hml : m < csize c := by rw [← hd.length]; exact (List.getElem?_eq_some_iff.1 hm).1
        have hfg := flatten_get (rows_len ha) (j - lo) cs m hcs hml
        rw [hm] at hfg
        have e2 : l.o + j * l.sz + m = l.o + lo * csize c + ((j - lo) * csize c + m) := by
          rw [hlz]
          have : j * csize c = lo * csize c + (j - lo) * csize c := by rw [← Nat.add_mul]; congr 1; omega
          omega
        rw [hget, e2, if_neg (by omega), if_pos (by have := (List.getElem?_eq_some_iff.1 hfg).1; omega)]
        rw [Nat.add_sub_cancel_left]
        exact hfg
      · rw [if_neg q2] at hp
        exact old hp (.inr (by omega))

/-- Where a slice's part of an owned row lies. -/
theorem span_at (hM : Mem A g B w) (hB : Sub Bx B) {s : Sc} {v : Value} (hs : SR (cxOf A g B w) s v) {id lo hi : Nat} (h : spanS Bx s = some (id, lo, hi)) {org : Nat} {c : Cd} {xs : List (El c)} (hid : Bx id = .live (.vec org c xs)) :
    ∃ l, g id = some l ∧ lo ≤ hi ∧ hi ≤ xs.length ∧ l.n = xs.length ∧ ((l.nil = true ∧ lo = hi ∧ xs = [] ∧ ∃ ad, v = .slice ad 0 0) ∨ (l.nil = false ∧ ∃ cap, v = .slice (some (if l.cap = lo then ⟨l.b, l.o, none⟩ else ⟨l.b, l.o + lo * l.sz, none⟩)) (hi - lo) cap ∧ (lo < hi → ¬ l.cap = lo))) := by
  obtain ⟨l, hg, hbr, _⟩ := hM.br id _ (hB.live _ _ hid)
  have hn : l.n = xs.length ∧ l.n ≤ l.cap ∧ (l.nil = true → xs = []) := by
    rcases hbr with ⟨hnil, hx0, hn0, hcap0, _, _⟩ | ⟨hnil, _, hn, hcap, _⟩
    · subst hx0; exact ⟨by simp [hn0], by omega, fun _ => rfl⟩
    · exact ⟨hn, hcap, fun e => by rw [hnil] at e; cases e⟩
  have mk : ∀ (lo hi : Nat), lo ≤ hi → hi ≤ l.n → v = l.sub lo hi → (l.nil = true → hi = 0) → ∃ l', g id = some l' ∧ lo ≤ hi ∧ hi ≤ xs.length ∧ l'.n = xs.length ∧ ((l'.nil = true ∧ lo = hi ∧ xs = [] ∧ ∃ ad, v = .slice ad 0 0) ∨ (l'.nil = false ∧ ∃ cap, v = .slice (some (if l'.cap = lo then ⟨l'.b, l'.o, none⟩ else ⟨l'.b, l'.o + lo * l'.sz, none⟩)) (hi - lo) cap ∧ (lo < hi → ¬ l'.cap = lo))) := by
    intro lo hi h1 h2 hv h3
    refine ⟨l, hg, h1, by omega, hn.1, ?_⟩
    cases hnil : l.nil with
    | true =>
      refine .inl ⟨rfl, by have := h3 hnil; omega, hn.2.2 hnil, l.ad, ?_⟩
      rw [hv]; simp [Loc.sub, hnil]
    | false =>
      refine .inr ⟨rfl, l.cap - lo, ?_, by omega⟩
      rw [hv]; simp [Loc.sub, hnil]
  cases s <;> simp only [spanS] at h
  case own id' =>
    split at h
    · rename_i org' c' xs' hb
      cases h
      rw [hid] at hb
      cases hb
      obtain ⟨l', hg', hv⟩ := (show SR (cxOf A g B w) (.own id) v from hs)
      rw [show (cxOf A g B w).g id = some l from hg] at hg'; cases hg'
      refine mk 0 xs.length (Nat.zero_le _) (by omega) ?_ (fun e => by have := hn.2.2 e; rw [this]; rfl)
      rw [hv, ← hn.1]
      unfold Loc.sub Loc.sl
      cases l.nil <;> simp
    · cases h
  case sub id' lo' hi' =>
    cases h
    obtain ⟨l', hg', h1, h2, h3, h4, hv⟩ := (show SR (cxOf A g B w) (.sub id lo hi) v from hs)
    rw [show (cxOf A g B w).g id = some l from hg] at hg'; cases hg'
    exact mk lo hi h1 h2 hv h4
  all_goals cases h

theorem take_rows {w : World} {ok : Nat → Prop} {c : Cd} {ys : List (El c)} {css : List (List Value)} (ha : All2 (DR w ok c) ys css) (n : Nat) : All2 (DR w ok c) (ys.take n) (css.take n) := ha.take n

theorem flatten_take_get {css : List (List Value)} {sz : Nat} (h : ∀ cs ∈ css, cs.length = sz) (n : Nat) : ∀ (j : Nat) v, (css.take n).flatten[j]? = some v → css.flatten[j]? = some v := by
  intro j v hj
  have : css.flatten = (css.take n).flatten ++ (css.drop n).flatten := by rw [← List.flatten_append, List.take_append_drop]
  rw [this, List.getElem?_append_left (List.getElem?_eq_some_iff.1 hj).1]
  exact hj

theorem copyK_post (hM : Mem A g B w) (hB : Sub Bx B) (hT : ∀ n, TR (cxOf A g B w) (tm n) (a.tmps.getD n undef)) {c : Call} {t u : TypeId} {x y : Operand}
    (hts : c.argTypes = #[t, u]) (hc : c.callee = .builtin .copy) (hargs : c.args = #[x, y]) (ho : o.op = .call c) {e' : TypeId} (hu : E.P.underlying u = some (.slice e'))
    (h : copyK E Bx t (evalO tm x) (evalO tm y) pk = some (r, d)) : Post E.P A g B a w o r d := by
  have hx := evalO_tr hT x
  have hy := evalO_tr hT y
  have hr : (execOp a.eval o).run E.P w = ((Builtin.copy_ #[t, u] o.type #[a.eval x, a.eval y]).run E.P w).andThen fun v w => .ok (.value v) w := by
    rw [run_of_bin hc ho]
    simp [builtin, hargs, hts]
  generalize evalO tm x = X at hx h
  generalize evalO tm y = Y at hy h
  unfold copyK at h
  split at h
  · rename_i e he
    have hut : E.P.underlying t = some (.slice e) := by
      unfold elemT at he
      split at he
      · rename_i e2 h2; cases he; exact h2
      · cases he
    split at h
    · rename_i cd sz s q hcd hsz
      split at h
      · rename_i hcond
        simp only [Bool.and_eq_true] at hcond
        obtain ⟨h1, hflat⟩ := hcond
        have h1 := Nat.eq_of_beq_eq_true h1
        split at h
        · rename_i ys id lo hi hys hsp
          split at h
          · rename_i org c' xs hb
            split at h
            · rename_i hcc
              subst hcc
              cases h
              obtain ⟨i, hi2, hisz⟩ : ∃ i, E.P.info? e = some i ∧ i.size = csize c' := by
                cases hi2 : E.P.info? e with
                | none => simp [szT, hi2] at hsz
                | some i => simp [szT, hi2] at hsz; exact ⟨i, rfl, by omega⟩
              obtain ⟨css, ha, hv⟩ := list_rows hM hB (show SR (cxOf A g B w) q _ from hy) hys (orgLe_refl _)
              obtain ⟨l, hg, hlh, hhx, hln, hcase⟩ := span_at hM hB (show SR (cxOf A g B w) s _ from hx) hsp hb
              have hsrc : Src E.P i.size u (a.eval y) ys.length css.flatten w := src_of (P := E.P) (size := i.size) hu hisz ha hv
              have hbB := hB.live _ _ hb
              have hpost : ∀ w', (Builtin.copy_ #[t, u] o.type #[a.eval x, a.eval y]).run E.P w = .ok (.int .i64 ((min ys.length (hi - lo) : Nat) : Int)) w' →
                  Mem A g (upd B id (.live (.vec org c' (overL xs (ys.take (hi - lo)) lo)))) w' ∧ Later (cxOf A g B w) (cxOf A g (upd B id (.live (.vec org c' (overL xs (ys.take (hi - lo)) lo)))) w') →
                  Post E.P A g B a w o (one (.int .i64 ((min ys.length (hi - lo) : Nat) : Int))) [(id, .live (.vec org c' (overL (castL rfl xs) (ys.take (hi - lo)) lo)))] := fun w' hrun hm => by
                refine ⟨g, w', hm.1, hm.2, .inl ⟨_, ?_, rfl⟩⟩
                rw [hr, hrun]; rfl
              have hlen : (Builtin.lenOf (a.eval y)).run E.P w = .ok ys.length w := hsrc.len w
              rcases hcase with ⟨hnil, rfl, rfl, ad, hxv⟩ | ⟨hnil, cap, hxv, hcapne⟩
              · -- nothing to write
                have e0 : lo - lo = 0 := Nat.sub_self lo
                refine hpost w ?_ ?_
                · rw [hxv, e0]
                  have hfc : (Builtin.firstCells i.size 0 (a.eval y)).run E.P w = .ok #[] w := by
                    rcases hv with ⟨e1, _, _⟩ | ⟨b, k, cap', e1, _, _⟩
                    · rw [e1]; exact run_firstCells_none _ _ _ _ _
                    · rw [e1]; exact run_firstCells_some w i.size 0 _ _ _ [] (by simp) (fun j v h => by simp at h)
                  cases ad <;> simp [Builtin.copy_, run_underlying hut, hlen, sizeOf, typeInfo, hi2, hfc, storeCells, goInt]
                · rw [e0, List.take_zero, overL_nil, upd_keep B id _ hbB]
                  exact ⟨hM, Later.refl _⟩
              · have hlz : l.sz = csize c' := by
                  obtain ⟨l', hg', hbr, _⟩ := hM.br id _ hbB
                  rw [hg] at hg'; cases hg'
                  rcases hbr with ⟨_, _, _, _, hz0, _⟩ | ⟨_, _, _, _, hlz, _⟩
                  · exact hz0
                  · exact hlz
                obtain ⟨arr, ty, harr, _, _, hfit, hset⟩ := over_mem hM hbB hg hnil hflat (take_rows ha (hi - lo)) (lo := lo) (by simp; omega)
                have hfl : (css.take (hi - lo)).flatten.length = min ys.length (hi - lo) * i.size := by
                  rw [flatten_length (fun cs hcs => rows_len ha cs (List.mem_of_mem_take hcs)), List.length_take, ← ha.length, hisz, Nat.min_comm]
                have hfc : (Builtin.firstCells i.size (min ys.length (hi - lo)) (a.eval y)).run E.P w = .ok (css.take (hi - lo)).flatten.toArray w := by
                  rcases hv with ⟨e1, e2, e3⟩ | ⟨b, k, cap', e1, _, hcell⟩
                  · subst e2; subst e3
                    rw [e1]; simp only [List.take_nil, List.flatten_nil]; exact run_firstCells_none _ _ _ _ _
                  · rw [e1]
                    refine run_firstCells_some w i.size _ _ _ _ _ hfl (fun j v h => ?_)
                    rw [addr_add]
                    exact hcell j v (flatten_take_get (rows_len ha) _ j v h)
                have hone : ∀ v ∈ (css.take (hi - lo)).flatten, v.oneCell' = true := rows_one (take_rows ha (hi - lo))
                rcases Nat.eq_zero_or_pos (hi - lo) with hz | hpos
                · -- nothing to write
                  refine hpost w ?_ ?_
                  · rw [hxv, hz]
                    rw [hz] at hfc
                    simp only [Nat.min_zero, List.take_zero, List.flatten_nil] at hfc ⊢
                    simp [Builtin.copy_, run_underlying hut, hlen, sizeOf, typeInfo, hi2, hfc, storeCells, goInt]
                  · rw [hz, List.take_zero, overL_nil, upd_keep B id _ hbB]
                    exact ⟨hM, Later.refl _⟩
                · have hne := hcapne (by omega)
                  rw [if_neg hne] at hxv
                  have hst := run_storeCells_at E.P l.b (l.o + lo * l.sz) ty (css.take (hi - lo)).flatten 0 arr w harr (by rw [hlz]; simpa using hfit) hone
                  simp only [Nat.add_zero] at hst
                  rw [hlz] at hst
                  have hset' := hset _ rfl
                  generalize hF : (css.take (hi - lo)).flatten = F at hst hfc hset'
                  generalize w.setRow l.b (arr.toList.take (l.o + lo * csize c') ++ F ++ arr.toList.drop (l.o + lo * csize c' + F.length)).toArray = W at hst hset'
                  refine hpost W ?_ hset'
                  rw [hxv]
                  have hmin : Nat.min ys.length (hi - lo) = min ys.length (hi - lo) := rfl
                  simp [Builtin.copy_, run_underlying hut, hlen, sizeOf, typeInfo, hi2, hmin, hfc, hst, goInt, hlz]
            · cases h
          · cases h
        · cases h
      · cases h
    · cases h
  · cases h

theorem zeroCells_rows (z : Array Value) (n : Nat) : (Builtin.zeroCells z n).toList = (List.replicate n z.toList).flatten := by
  have e : (Builtin.zeroCells z n).toList = (List.range (n * z.size)).map fun i => z[i % z.size]! := by simp [Builtin.zeroCells]
  rw [e]
  clear e
  induction n with
  | zero => simp
  | succ n ih =>
    rw [List.replicate_succ', List.flatten_append, ← ih, Nat.add_mul, Nat.one_mul, List.range_add, List.map_append]
    congr 1
    simp only [List.flatten_cons, List.flatten_nil, List.append_nil, List.map_map]
    apply List.ext_getElem?
    intro i
    rw [List.getElem?_map]
    by_cases h : i < z.size
    · rw [List.getElem?_range h]
      have e : (n * z.size + i) % z.size = i := by rw [Nat.mul_comm, Nat.mul_add_mod, Nat.mod_eq_of_lt h]
      simp [e, h]
    · rw [List.getElem?_eq_none (by simp; omega), List.getElem?_eq_none (by simp; omega)]
      rfl

theorem clearK_post (hM : Mem A g B w) (hB : Sub Bx B) (hT : ∀ n, TR (cxOf A g B w) (tm n) (a.tmps.getD n undef)) {c : Call} {t : TypeId} {x : Operand}
    (hts : c.argTypes = #[t]) (hc : c.callee = .builtin .clear) (hargs : c.args = #[x]) (ho : o.op = .call c)
    (h : clearK E Bx t (evalO tm x) pk = some (r, d)) : Post E.P A g B a w o r d := by
  have hx := evalO_tr hT x
  have hr : (execOp a.eval o).run E.P w = ((Builtin.clear_ #[t] o.type #[a.eval x]).run E.P w).andThen fun v w => .ok (.value v) w := by
    rw [run_of_bin hc ho]
    simp [builtin, hargs, hts]
  generalize evalO tm x = X at hx h
  unfold clearK at h
  split at h
  · rename_i e he
    have hut : E.P.underlying t = some (.slice e) := by
      unfold elemT at he
      split at he
      · rename_i e2 h2; cases he; exact h2
      · cases he
    split at h
    · rename_i cd sz z s hcd hsz hz
      split at h
      · rename_i hcond
        simp only [Bool.and_eq_true] at hcond
        obtain ⟨h1, hflat, hund⟩ := hcond
        have h1 := Nat.eq_of_beq_eq_true h1
        obtain ⟨i, zv, hi, hzv, hzo⟩ := zero_of hz
        split at h
        · rename_i zd id lo hi' hzd hsp
          split at h
          · rename_i org c' xs hb
            split at h
            · rename_i hcc
              subst hcc
              cases h
              obtain ⟨l, hg, hlh, hhx, hln, hcase⟩ := span_at hM hB (show SR (cxOf A g B w) s _ from hx) hsp hb
              have hbB := hB.live _ _ hb
              have hpost : ∀ w', (Builtin.clear_ #[t] o.type #[a.eval x]).run E.P w = .ok (.tuple #[]) w' →
                  Mem A g (upd B id (.live (.vec org c' (overL xs (List.replicate (hi' - lo) zd) lo)))) w' ∧ Later (cxOf A g B w) (cxOf A g (upd B id (.live (.vec org c' (overL xs (List.replicate (hi' - lo) zd) lo)))) w') →
                  Post E.P A g B a w o (.tup []) [(id, .live (.vec org c' (overL (castL rfl xs) (List.replicate (hi' - lo) zd) lo)))] := fun w' hrun hm => by
                refine ⟨g, w', hm.1, hm.2, .inl ⟨_, ?_, ⟨#[], rfl, trivial⟩⟩⟩
                rw [hr, hrun]; rfl
              have hzdr := zero_dr hM hzo hund hzd
              have ha : All2 (DR w ((cxOf A g B w).ok 0) c') (List.replicate (hi' - lo) zd) (List.replicate (hi' - lo) zv.cells.toList) := by
                refine All2.of_get (by simp) fun i x y hx hy => ?_
                rw [List.getElem?_replicate] at hx hy
                split at hx
                · rename_i hlt
                  rw [if_pos hlt] at hy
                  cases hx; cases hy
                  exact hzdr.flat hflat
                · cases hx
              have nothing : hi' - lo = 0 → (∃ ad cap, a.eval x = .slice ad 0 cap) → Post E.P A g B a w o (.tup []) [(id, .live (.vec org c' (overL (castL rfl xs) (List.replicate (hi' - lo) zd) lo)))] := fun hz0 ⟨ad, cap, hxv⟩ => by
                refine hpost w ?_ ?_
                · rw [hxv]
                  cases ad <;> simp [Builtin.clear_, run_underlying hut]
                · rw [hz0, List.replicate_zero, overL_nil, upd_keep B id _ hbB]
                  exact ⟨hM, Later.refl _⟩
              rcases hcase with ⟨hnil, rfl, rfl, ad, hxv⟩ | ⟨hnil, cap, hxv, hcapne⟩
              · exact nothing (Nat.sub_self lo) ⟨ad, 0, hxv⟩
              · rcases Nat.eq_zero_or_pos (hi' - lo) with hz0 | hpos
                · exact nothing hz0 ⟨_, cap, by rw [hxv, hz0]⟩
                · have hne := hcapne (by omega)
                  rw [if_neg hne] at hxv
                  obtain ⟨arr, ty, harr, hlz, _, hfit, hset⟩ := over_mem hM hbB hg hnil hflat ha (lo := lo) (by simp; omega)
                  have hone : ∀ v ∈ (List.replicate (hi' - lo) zv.cells.toList).flatten, v.oneCell' = true := rows_one ha
                  have hst := run_storeCells_at E.P l.b (l.o + lo * l.sz) ty (List.replicate (hi' - lo) zv.cells.toList).flatten 0 arr w harr (by rw [hlz]; simpa using hfit) hone
                  simp only [Nat.add_zero] at hst
                  rw [hlz] at hst hxv
                  have hset' := hset _ rfl
                  have hzc : (Builtin.zeroCells zv.cells (hi' - lo)).toList = (List.replicate (hi' - lo) zv.cells.toList).flatten := zeroCells_rows _ _
                  generalize hF : (List.replicate (hi' - lo) zv.cells.toList).flatten = F at hst hset' hzc
                  generalize w.setRow l.b (arr.toList.take (l.o + lo * csize c') ++ F ++ arr.toList.drop (l.o + lo * csize c' + F.length)).toArray = W at hst hset'
                  refine hpost W ?_ hset'
                  rw [hxv]
                  obtain ⟨n, hn⟩ : ∃ n, hi' - lo = n + 1 := ⟨hi' - lo - 1, by omega⟩
                  rw [hn] at hzc ⊢
                  simp [Builtin.clear_, run_underlying hut, zeroValue, typeInfo, hi, hzv, hzc, hst]
            · cases h
          · cases h
        · cases h
      · cases h
    · cases h
  · cases h

end
end Ai
end Go.Proofs.Ytpknhlnoaehffaa
