/-
  The ideal interpreter against the machine: every operation that is no call of a function.
-/
import Derived.Test.YtpknhlnoaehffaaA14b
namespace Go.Proofs.Ytpknhlnoaehffaa
namespace Ai
set_option linter.unusedSimpArgs false
set_option linter.unusedVariables false

section
variable {E : Env} {A : Base} {g : Nat → Option Loc} {B Bx : Nat → BS} {tm : Nat → T} {a : Act} {w : World} {o : Oper} {r : T} {d : List (Nat × BS)}

/-! ### Slices -/

theorem loHi_h {R : Type} {len : Nat} {X : T} {K : Nat → Nat → Option R} {y : R} (h : loHi len none (some X) K = some y) : ∃ k u, X = .v (.one (.int k u)) ∧ (0 ≤ u ∧ u ≤ (len : Int)) ∧ K 0 u.toNat = some y := by
  cases X with
  | tup vs => simp [loHi] at h
  | v x =>
    cases x with
    | agg cs => simp [loHi] at h
    | one s =>
      cases s <;> first
        | (simp [loHi] at h; done)
        | skip
      rename_i k u
      simp only [loHi] at h
      obtain ⟨hc, h⟩ := cond_some h
      simp only [Bool.and_eq_true, decide_eq_true_eq] at hc
      exact ⟨k, u, rfl, hc, h⟩

theorem loHi_l {R : Type} {len : Nat} {X : T} {K : Nat → Nat → Option R} {y : R} (h : loHi len (some X) none K = some y) : ∃ k u, X = .v (.one (.int k u)) ∧ (0 ≤ u ∧ u ≤ (len : Int)) ∧ K u.toNat len = some y := by
  cases X with
  | tup vs => simp [loHi] at h
  | v x =>
    cases x with
    | agg cs => simp [loHi] at h
    | one s =>
      cases s <;> first
        | (simp [loHi] at h; done)
        | skip
      rename_i k u
      simp only [loHi] at h
      obtain ⟨hc, h⟩ := cond_some h
      simp only [Bool.and_eq_true, decide_eq_true_eq] at hc
      exact ⟨k, u, rfl, hc, h⟩

theorem loHi_lh {R : Type} {len : Nat} {X Y : T} {K : Nat → Nat → Option R} {y : R} (h : loHi len (some X) (some Y) K = some y) :
    ∃ k u k' u', X = .v (.one (.int k u)) ∧ Y = .v (.one (.int k' u')) ∧ (0 ≤ u' ∧ u' ≤ (len : Int)) ∧ (0 ≤ u ∧ u ≤ u') ∧ K u.toNat u'.toNat = some y := by
  cases X with
  | tup vs => simp [loHi] at h
  | v x =>
    cases x with
    | agg cs => simp [loHi] at h
    | one s =>
      cases s <;> first
        | (simp [loHi] at h; done)
        | skip
      rename_i k u
      cases Y with
      | tup vs => simp [loHi] at h
      | v x =>
        cases x with
        | agg cs => simp [loHi] at h
        | one s =>
          cases s <;> first
            | (simp [loHi] at h; done)
            | skip
          rename_i k' u'
          simp only [loHi] at h
          obtain ⟨hc, h⟩ := cond_some h
          obtain ⟨hc2, h⟩ := cond_some h
          simp only [Bool.and_eq_true, decide_eq_true_eq] at hc hc2
          exact ⟨k, u, k', u', rfl, rfl, hc, hc2, h⟩

theorem loHi_run {R : Type} (hT : ∀ n, TR (cxOf A g B w) (tm n) (a.tmps.getD n undef)) {len cap : Nat} (hlc : len ≤ cap) (isSlice : Bool) (lo hi : Option Operand) {K : Nat → Nat → Option R} {y : R} (h : loHi len (lo.map (evalO tm)) (hi.map (evalO tm)) K = some y) :
    ∃ l u, l ≤ u ∧ u ≤ len ∧ K l u = some y ∧ ∀ P : Program, (Instr.sliceBounds isSlice len cap (lo.map a.eval) (hi.map a.eval) none).run P w = .ok (l, u, cap) w := by
  cases lo with
  | none =>
    cases hi with
    | none =>
      simp only [Option.map_none, loHi] at h
      exact ⟨0, len, Nat.zero_le _, Nat.le_refl _, h, fun P => by simp [Instr.sliceBounds]⟩
    | some b =>
      have hb := evalO_tr hT b
      obtain ⟨k, u, e, hc, h⟩ := loHi_h h
      rw [e] at hb
      refine ⟨0, u.toNat, Nat.zero_le _, by omega, h, fun P => ?_⟩
      simp [Instr.sliceBounds, tr_int hb, run_sliceBound (P := P) w k u cap _ hc.1 (show u ≤ (cap : Int) by omega)]
  | some l =>
    have hl := evalO_tr hT l
    cases hi with
    | none =>
      obtain ⟨k, u, e, hc, h⟩ := loHi_l h
      rw [e] at hl
      refine ⟨u.toNat, len, by omega, Nat.le_refl _, h, fun P => ?_⟩
      simp [Instr.sliceBounds, tr_int hl, run_sliceBound (P := P) w k u len _ hc.1 hc.2]
    | some b =>
      have hb := evalO_tr hT b
      obtain ⟨k, u, k', u', e, e', hc, hc2, h⟩ := loHi_lh h
      rw [e] at hl
      rw [e'] at hb
      refine ⟨u.toNat, u'.toNat, by omega, by omega, h, fun P => ?_⟩
      simp [Instr.sliceBounds, tr_int hl, tr_int hb, run_sliceBound (P := P) w k' u' cap _ hc.1 (show u' ≤ (cap : Int) by omega), run_sliceBound (P := P) w k u u'.toNat _ hc2.1 (by omega)]

theorem sliceK_post (hM : Mem A g B w) (hB : Sub Bx B) (hT : ∀ n, TR (cxOf A g B w) (tm n) (a.tmps.getD n undef)) {t : TypeId} {x : Operand} {lo hi mx : Option Operand} (ho : o.op = .slice t x lo hi mx)
    (h : sliceK E Bx t (evalO tm x) (lo.map (evalO tm)) (hi.map (evalO tm)) (mx.map (evalO tm)) pk = some (r, d)) : Post E.P A g B a w o r d := by
  have hx := evalO_tr hT x
  generalize evalO tm x = X at hx h
  have hr : (execOp a.eval o).run E.P w = ((Instr.sliceAt t (a.eval x) (lo.map a.eval) (hi.map a.eval) (mx.map a.eval)).run E.P w).andThen fun v w => .ok (.value v) w := by
    simp [execOp, ho]
  unfold sliceK at h
  cases mx with
  | some m => simp at h
  | none =>
    simp only [Option.map_none] at h hr
    split at h
    · rename_i s hu
      obtain ⟨l, u, h1, h2, h, hb⟩ := loHi_run hT (cap := s.length) (Nat.le_refl _) false lo hi h
      obtain ⟨rfl, rfl⟩ := pk_one h
      refine .pure hM (v := .string ⟨(cut l u s).toArray⟩) ?_ rfl
      rw [hr, tr_str hx]
      have hsz : (ByteArray.mk s.toArray).size = s.length := by show s.toArray.size = _; simp
      have hex : (ByteArray.mk s.toArray).extract l u = ⟨(cut l u s).toArray⟩ := by
        apply ByteArray.ext
        apply Array.ext'
        simp [cut, ByteArray.data_extract, List.extract_eq_take_drop, List.drop_take]
      simp [Instr.sliceAt, run_underlying hu, Instr.slice, hsz, hb, hex]
    · rename_i e org c xs hu
      split at h
      · rename_i hsz
        rcases (show DR _ _ (.list c) xs [a.eval x] from hx) with ⟨e1, e2⟩ | ⟨b, k, cap, e1, hc, hrest⟩
        · simp only [List.cons.injEq, and_true] at e1
          subst e2
          obtain ⟨l, u, h1, h2, h, hb⟩ := loHi_run hT (cap := 0) (Nat.le_refl _) true lo hi h
          obtain ⟨rfl, rfl⟩ := pk_one h
          simp only [List.length_nil, Nat.le_zero_eq] at h2
          subst h2
          simp only [Nat.le_zero_eq] at h1
          subst h1
          refine .pure hM (v := .slice none 0 0) ?_ (.inl ⟨rfl, by simp [cut]⟩)
          have hb' := hb E.P
          rw [hr, e1]
          simp only [Instr.sliceAt, Instr.slice, Sem.run_bind, run_underlying hu, Result.andThen_ok, hb', run_sizeOf hsz, Sem.run_pure, if_true, Nat.sub_zero]
        · simp only [List.cons.injEq, and_true] at e1
          obtain ⟨l, u, h1, h2, h, hb⟩ := loHi_run hT (cap := cap) hc true lo hi h
          obtain ⟨rfl, rfl⟩ := pk_one h
          have hd := cut_dr (lo := l) (hi := u) (show DR _ _ (.list c) xs [.slice (some ⟨b, k, none⟩) xs.length cap] from e1 ▸ hx) h1 h2 hc
          refine .pure hM (v := _) ?_ hd
          have hb' := hb E.P
          rw [hr, e1]
          simp only [Instr.sliceAt, Instr.slice, Sem.run_bind, run_underlying hu, Result.andThen_ok, hb', run_sizeOf hsz, Sem.run_pure]
          by_cases e : cap = l
          · simp only [if_pos e]
          · simp only [if_neg e, Option.map_some, addr_add]
      · cases h
    · rename_i e id hu
      split at h
      · rename_i q hbk
        split at h
        · rename_i hsz
          obtain ⟨l, hg, hv⟩ := (show SR (cxOf A g B w) (.own id) _ from hx)
          obtain ⟨hd, hlz, hn, hcap⟩ := vecOf_dr hM hB hbk hg (I := [id]) (fun _ => List.mem_singleton.2 rfl) (orgLe_refl _)
          rw [← hn] at h
          cases hnil : l.nil
          · have hsl : l.sl = .slice (some ⟨l.b, l.o, none⟩) l.n l.cap := by simp [Loc.sl, hnil]
            obtain ⟨p, u, h1, h2, h, hb⟩ := loHi_run hT (cap := l.cap) hcap true lo hi h
            obtain ⟨rfl, rfl⟩ := pk_one h
            refine .pure hM (v := l.sub p u) ?_ ⟨l, hg, h1, h2, hcap, (fun e => by rw [hnil] at e; cases e), rfl⟩
            have hb' := hb E.P
            rw [hr, hv, hsl]
            simp only [Instr.sliceAt, Instr.slice, Sem.run_bind, run_underlying hu, Result.andThen_ok, hb', run_sizeOf hsz, Sem.run_pure, Loc.sub, hnil, cond_false]
            by_cases e : l.cap = p
            · simp only [if_pos e]
            · simp only [if_neg e, Option.map_some, addr_add, hlz]
          · have hsl : l.sl = .slice l.ad 0 0 := by simp [Loc.sl, hnil]
            have hn0 : l.n = 0 := by
              rw [hsl] at hd
              rcases hd with ⟨_, e⟩ | ⟨b, k, cap, e, _⟩
              · rw [hn, e]; rfl
              · simp only [List.cons.injEq, Value.slice.injEq, and_true] at e
                rw [hn]; exact e.2.1.symm
            rw [hn0] at h
            obtain ⟨p, u, h1, h2, h, hb⟩ := loHi_run hT (cap := 0) (Nat.le_refl _) true lo hi h
            obtain ⟨rfl, rfl⟩ := pk_one h
            have hu0 : u = 0 := by omega
            have hp0 : p = 0 := by omega
            subst hu0 hp0
            refine .pure hM (v := l.sub 0 0) ?_ ⟨l, hg, by omega, by omega, hcap, (fun _ => rfl), rfl⟩
            have hb' := hb E.P
            rw [hr, hv, hsl]
            simp only [Instr.sliceAt, Instr.slice, Sem.run_bind, run_underlying hu, Result.andThen_ok, hb', run_sizeOf hsz, Sem.run_pure, Loc.sub, hnil, cond_true, if_true, Nat.sub_zero]
        · cases h
      · cases h
    · cases h

/-! ### Conversions -/

theorem u8_rows {w : World} {ok : Nat → Prop} : ∀ {xs : List Int} {css : List (List Value)}, All2 (DR w ok (.i .u8)) xs css → css.flatten = xs.map (Value.int .u8)
  | [], [], _ => rfl
  | x :: xs, cs :: css, h => by
    rw [show cs = _ from h.1, List.flatten_cons, u8_rows h.2]
    rfl
  | [], _ :: _, h => h.elim
  | _ :: _, [], h => h.elim

theorem ofInts_push : ∀ (xs : List Int) (s : List UInt8), xs.foldl (fun (r : ByteArray) n => r.push (UInt8.ofNat n.toNat)) ⟨s.toArray⟩ = ⟨(s ++ ofInts xs).toArray⟩
  | [], s => by simp [ofInts]
  | x :: xs, s => by
    rw [List.foldl_cons]
    have : (ByteArray.mk s.toArray).push (UInt8.ofNat x.toNat) = ⟨(s ++ [UInt8.ofNat x.toNat]).toArray⟩ := by
      apply ByteArray.ext
      show s.toArray.push _ = _
      simp
    rw [this, ofInts_push xs]
    simp [ofInts]

theorem convK_post (hM : Mem A g B w) (hB : Sub Bx B) (hT : ∀ n, TR (cxOf A g B w) (tm n) (a.tmps.getD n undef)) {src dst : TypeId} {x : Operand} (ho : o.op = .convert src dst x)
    (h : convK E Bx src dst (evalO tm x) pk = some (r, d)) : Post E.P A g B a w o r d := by
  have hx := evalO_tr hT x
  generalize evalO tm x = X at hx h
  have hr : (execOp a.eval o).run E.P w = ((convert src dst (a.eval x)).run E.P w).andThen fun v w => .ok (.value v) w := by
    simp [execOp, ho]
  unfold convK at h
  split at h
  · rename_i k kd k' n hs hd
    obtain ⟨rfl, rfl⟩ := pk_one h
    refine .pure hM (v := .int kd (kd.wrap n)) ?_ rfl
    rw [hr, tr_int hx]
    simp [convert, run_underlying hs, run_underlying hd, Conv.intToInt]
  · rename_i s hs hd
    obtain ⟨rfl, rfl⟩ := pk_one h
    refine .pure hM (v := .string ⟨s.toArray⟩) ?_ rfl
    rw [hr, tr_str hx]
    simp [convert, run_underlying hs, run_underlying hd]
  · rename_i e s hs hd
    split at h
    · rename_i xs he hl
      obtain ⟨rfl, rfl⟩ := pk_one h
      obtain ⟨css, ha, hv⟩ := list_rows hM hB (show SR (cxOf A g B w) s _ from hx) hl (orgLe_refl _)
      refine .pure hM (v := .string ⟨(ofInts xs).toArray⟩) ?_ rfl
      rw [hr]
      rcases hv with ⟨e1, rfl, rfl⟩ | ⟨b, k, cap, e1, hc, hcell⟩
      · rw [e1, run_convert_bytes_string w src dst e none 0 0 hs he hd]
        simp [Conv.bytesToString, ofInts]
        rfl
      · rw [e1, run_convert_bytes_string w src dst e _ _ _ hs he hd]
        have hf := u8_rows ha
        have hl := run_loadCells_list (P := E.P) w ⟨b, k, none⟩ css.flatten (fun j u hj => by rw [addr_add]; exact hcell j u hj)
        rw [hf, List.length_map] at hl
        rw [run_bytesToString w _ _ _ xs hl]
        have := ofInts_push xs []
        simp only [List.nil_append] at this
        rw [show (ByteArray.empty : ByteArray) = ⟨([] : List UInt8).toArray⟩ from rfl, this]
        rfl
    · cases h
  · cases h

/-! ### Closures -/

theorem caps_sr (hT : ∀ n, TR (cxOf A g B w) (tm n) (a.tmps.getD n undef)) : ∀ (caps : List Operand) (cs : List Cap), capsOf (caps.map (evalO tm)) = some cs → All2 (CapR (cxOf A g B w)) cs (caps.map a.eval)
  | [], cs, h => by simp [capsOf] at h; subst h; trivial
  | x :: r, cs, h => by
    have hx := evalO_tr hT x
    simp only [List.map_cons] at h ⊢
    generalize evalO tm x = X at hx h
    unfold capsOf at h
    split at h
    · cases ‹_ :: _ = []›
    · rename_i id r' e
      cases e
      rw [Option.map_eq_some_iff] at h
      obtain ⟨l, hl, rfl⟩ := h
      exact ⟨hx, caps_sr hT r l hl⟩
    · rename_i org c x r' e
      cases e
      rw [Option.map_eq_some_iff] at h
      obtain ⟨l, hl, rfl⟩ := h
      exact ⟨hx, caps_sr hT r l hl⟩
    · cases h

theorem minMax_post (hM : Mem A g B w) (hT : ∀ n, TR (cxOf A g B w) (tm n) (a.tmps.getD n undef)) {c : Call} {mx : Bool} (hc : c.callee = .builtin (match mx with | true => .max | false => .min)) (ho : o.op = .call c) {s : Sc}
    (h : minMax mx (c.args.toList.map (evalO tm)) = some s) : Post E.P A g B a w o (one s) [] := by
  have hr := run_of_bin (a := a) hc ho E.P w
  obtain ⟨l, hl⟩ : ∃ l, c.args.toList = l := ⟨_, rfl⟩
  have hargs : (c.args.map a.eval).toList = l.map a.eval := by simp [hl]
  rw [hl] at h
  unfold minMax at h
  split at h
  · rename_i k p k' q e
    rcases l with _ | ⟨x, _ | ⟨y, _ | ⟨z, l⟩⟩⟩
    · simp at e
    · simp at e
    · simp only [List.map_cons, List.map_nil, List.cons.injEq, and_true] at e
      obtain ⟨e1, e2⟩ := e
      have hx := evalO_tr hT x
      have hy := evalO_tr hT y
      rw [e1] at hx
      rw [e2] at hy
      split at h
      · rename_i hk
        subst hk
        simp only [Option.some.injEq] at h
        subst h
        cases mx
        · refine .pure hM (v := .int k (min p q)) ?_ rfl
          rw [hr]
          simp only [builtin, Builtin.min_, hargs, List.map_cons, List.map_nil, tr_int hx, tr_int hy, List.foldlM_cons, List.foldlM_nil, Builtin.min2, Sem.run_bind, Sem.run_pure, Result.andThen_ok]
          congr 2
          simp only [Value.int.injEq, true_and]
          rw [Int.min_def]
          split <;> split <;> omega
        · refine .pure hM (v := .int k (max p q)) ?_ rfl
          rw [hr]
          simp only [builtin, Builtin.max_, hargs, List.map_cons, List.map_nil, tr_int hx, tr_int hy, List.foldlM_cons, List.foldlM_nil, Builtin.max2, Sem.run_bind, Sem.run_pure, Result.andThen_ok]
          congr 2
          simp only [Value.int.injEq, true_and]
          rw [Int.max_def]
          split <;> split <;> omega
      · cases h
    · simp at e
  · cases h

/-! ### All of them -/

theorem unK_post (hM : Mem A g B w) (hT : ∀ n, TR (cxOf A g B w) (tm n) (a.tmps.getD n undef)) {op : UnOp} {t : TypeId} {x : Operand} (ho : o.op = .unOp op t x)
    (h : unK op (evalO tm x) pk = some (r, d)) : Post E.P A g B a w o r d := by
  have hx := evalO_tr hT x
  generalize evalO tm x = X at hx h
  unfold unK at h
  split at h
  · rename_i k n
    obtain ⟨rfl, rfl⟩ := pk_one h
    refine .pure hM (v := .int k (k.wrap (0 - n))) ?_ rfl
    simp [execOp, ho, tr_int hx, Op.unary, Op.intArith]
  · rename_i b
    obtain ⟨rfl, rfl⟩ := pk_one h
    refine .pure hM (v := .bool (!b)) ?_ rfl
    simp [execOp, ho, tr_bool hx, Op.unary]
  · cases h

theorem nilCheckK_post (hM : Mem A g B w) (hT : ∀ n, TR (cxOf A g B w) (tm n) (a.tmps.getD n undef)) {x : Operand} (ho : o.op = .nilCheck x)
    (h : (match evalO tm x with
      | .v (.one (.ptr i j)) => pk (one (.ptr i j)) []
      | .v (.one (.pel i j l)) => pk (one (.pel i j l)) []
      | .v (.one (.pp a b c d)) => pk (one (.pp a b c d)) []
      | _ => none) = some (r, d)) : Post E.P A g B a w o r d := by
  have hx := evalO_tr hT x
  generalize evalO tm x = X at hx h
  have run : ∀ p, a.eval x = .pointer (some p) → (execOp a.eval o).run E.P w = .ok (.value (.pointer (some p))) w := by
    intro p hp
    simp [execOp, ho, hp]
  split at h
  · obtain ⟨rfl, rfl⟩ := pk_one h
    obtain ⟨l, hg, hv⟩ := (show SR (cxOf A g B w) (.ptr _ _) _ from hx)
    exact .pure hM (run _ hv) ⟨l, hg, rfl⟩
  · obtain ⟨rfl, rfl⟩ := pk_one h
    obtain ⟨l, hg, hi, hv⟩ := (show SR (cxOf A g B w) (.pel _ _ _) _ from hx)
    exact .pure hM (run _ hv) ⟨l, hg, hi, rfl⟩
  · obtain ⟨rfl, rfl⟩ := pk_one h
    obtain ⟨b, k, cs, hv, hrest⟩ := (show PR (cxOf A g B w) _ _ _ _ _ from hx)
    exact .pure hM (run _ hv) ⟨b, k, cs, rfl, hrest⟩
  · cases h

theorem pickK_post (hM : Mem A g B w) (hT : ∀ n, TR (cxOf A g B w) (tm n) (a.tmps.getD n undef)) {c x y : Operand} (ho : o.op = .pick c x y)
    (h : (match evalO tm c with
      | .v (.one (.bool q)) => cond q (pk (evalO tm x) []) (pk (evalO tm y) [])
      | _ => none) = some (r, d)) : Post E.P A g B a w o r d := by
  have hc := evalO_tr hT c
  generalize evalO tm c = X at hc h
  split at h
  · rename_i q
    have hq := tr_bool hc
    cases q
    · cases h
      refine .pure hM (v := a.eval y) ?_ (evalO_tr hT y)
      simp [execOp, ho, hq, asBool]
    · cases h
      refine .pure hM (v := a.eval x) ?_ (evalO_tr hT x)
      simp [execOp, ho, hq, asBool]
  · cases h

theorem extractK_post (hM : Mem A g B w) (hT : ∀ n, TR (cxOf A g B w) (tm n) (a.tmps.getD n undef)) {x : Operand} {i : Nat} (ho : o.op = .extract x i)
    (h : (match evalO tm x with
      | .tup vs => match vs[i]? with
        | some v => pk (.v v) []
        | none => none
      | _ => none) = some (r, d)) : Post E.P A g B a w o r d := by
  have hx := evalO_tr hT x
  generalize evalO tm x = X at hx h
  split at h
  · rename_i vs
    split at h
    · rename_i v hv
      cases h
      obtain ⟨arr, ha, hvs⟩ := hx
      obtain ⟨u, hu, hr⟩ := hvs.get hv
      refine .pure hM (v := u) ?_ hr
      have hu' : arr[i]? = some u := by simpa using hu
      simp [execOp, ho, ha, Instr.extract, hu']
    · cases h
  · cases h

theorem makeFuncK_post (hM : Mem A g B w) (hT : ∀ n, TR (cxOf A g B w) (tm n) (a.tmps.getD n undef)) {f : FuncId} {first caps : Array Operand} (ho : o.op = .makeFunc (.func f) first caps)
    (h : (match first.toList, capsOf (caps.toList.map (evalO tm)) with
      | [], some cs => pk (one (.fn f cs)) []
      | _, _ => none) = some (r, d)) : Post E.P A g B a w o r d := by
  split at h
  · rename_i cs hf hc
    obtain ⟨rfl, rfl⟩ := pk_one h
    have hf' : first = #[] := by apply Array.ext'; simpa using hf
    refine .pure hM (v := .func (.func f) #[] (caps.map a.eval)) ?_ ⟨_, rfl, by simpa using caps_sr hT _ _ hc⟩
    simp [execOp, ho, Instr.makeFunc, hf']
  · cases h

theorem args_one {f : Operand → T} {args : Array Operand} {x : T} (h : args.toList.map f = [x]) : ∃ p, args = #[p] ∧ f p = x := by
  obtain ⟨l⟩ := args
  rcases l with _ | ⟨p, _ | ⟨q, l⟩⟩
  · simp at h
  · simp at h; exact ⟨p, rfl, h⟩
  · simp at h

theorem args_two {f : Operand → T} {args : Array Operand} {x y : T} (h : args.toList.map f = [x, y]) : ∃ p q, args = #[p, q] ∧ f p = x ∧ f q = y := by
  obtain ⟨l⟩ := args
  rcases l with _ | ⟨p, _ | ⟨q, _ | ⟨z, l⟩⟩⟩
  · simp at h
  · simp at h
  · simp at h; exact ⟨p, q, rfl, h.1, h.2⟩
  · simp at h

theorem semK_post (hM : Mem A g B w) (hB : Sub Bx B) (hT : ∀ n, TR (cxOf A g B w) (tm n) (a.tmps.getD n undef)) (hE : ∀ t ks, eqTyp E.eqT t = some ks → EqOk E.P t ks)
    (h : semK E Bx tm o pk = some (r, d)) : Post E.P A g B a w o r d := by
  unfold semK at h
  simp only [] at h
  split at h
  all_goals rename_i ho
  · cases h
    exact .pure hM (v := a.eval _) (by simp [execOp, ho]) (evalO_tr hT _)
  · cases h
    exact .pure hM (v := a.eval _) (by simp [execOp, ho]) (evalO_tr hT _)
  · exact pickK_post hM hT ho h
  · exact alloc_post hM hB ho h
  · exact boxOp_post hM hB hT ho h
  · exact buildK_post hM hT ho h
  · exact buildSliceK_post hM hB hT ho h
  · exact loadK_post hM hB hT ho h
  · exact storeK_post hM hB hT ho h
  · exact nilCheckK_post hM hT ho h
  · exact binK_post hM hB hT hE ho h
  · exact unK_post hM hT ho h
  · exact convK_post hM hB hT ho h
  · exact makeFuncK_post hM hT ho h
  · exact makeSliceK_post hM hB hT ho h
  · exact sliceK_post hM hB hT ho h
  · exact fieldAddrK_post hM hT ho h
  · exact fieldK_post hM hT ho h
  · exact indexAddrK_post hM hB hT ho h
  · exact indexK_post hM hT ho h
  · exact extractK_post hM hT ho h
  · rename_i b args ts
    generalize hA : args.toList.map (evalO tm) = as at h
    generalize hS : ts.toList = tl at h
    unfold builtinK at h
    split at h
    · obtain ⟨p, rfl, rfl⟩ := args_one hA
      refine lenK_post hM hB hT (c := { callee := .builtin .len, args := #[p], argTypes := ts }) (ts := ts) ?_ rfl rfl ho h
      rw [← Array.getElem?_toList, hS]; rfl
    · obtain ⟨p, q, rfl, rfl, rfl⟩ := args_two hA
      split at h
      · rename_i hu
        refine appendK_post hM hB hT (c := { callee := .builtin .append, args := #[p, q], argTypes := ts }) ?_ rfl rfl ho hu h
        apply Array.ext'
        rw [hS]
      · cases h
    · obtain ⟨p, q, rfl, rfl, rfl⟩ := args_two hA
      split at h
      · rename_i hu
        refine copyK_post hM hB hT (c := { callee := .builtin .copy, args := #[p, q], argTypes := ts }) ?_ rfl rfl ho hu h
        apply Array.ext'
        rw [hS]
      · cases h
    · obtain ⟨p, rfl, rfl⟩ := args_one hA
      refine clearK_post hM hB hT (c := { callee := .builtin .clear, args := #[p], argTypes := ts }) ?_ rfl rfl ho h
      apply Array.ext'
      rw [hS]
    · split at h
      · rename_i s hs
        cases h
        rw [← hA] at hs
        exact minMax_post hM hT (mx := true) (c := { callee := .builtin .max, args := args, argTypes := ts }) rfl ho hs
      · cases h
    · split at h
      · rename_i s hs
        cases h
        rw [← hA] at hs
        exact minMax_post hM hT (mx := false) (c := { callee := .builtin .min, args := args, argTypes := ts }) rfl ho hs
      · cases h
    · cases h
  · cases h

end
end Ai
end Go.Proofs.Ytpknhlnoaehffaa
