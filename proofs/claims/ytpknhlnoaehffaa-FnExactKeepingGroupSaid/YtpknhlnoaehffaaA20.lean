/-
  The ideal interpreter against the machine: a function's body, from its arguments to its results.
-/
import Derived.Test.YtpknhlnoaehffaaA19
namespace Go.Proofs.Ytpknhlnoaehffaa
namespace Ai
set_option linter.unusedSimpArgs false
set_option linter.unusedVariables false

/-- The setting behind a call: what the caller goes on owning. -/
def cxE (A : Base) (as : List ASh) (w : World) : Cx :=
  ⟨fun _ => none, A.S, fun b => ∃ id ∈ refIds 0 as, ∃ l, A.pin id = some l ∧ l.nil = false ∧ l.b = b, w⟩

def DRV (w : World) (ok : Nat → Prop) (c : Cd) (agg : Bool) (x : El c) (v : Value) : Prop :=
  (agg = false ∧ DR w ok c x [v]) ∨ (agg = true ∧ ∃ arr : Array Value, v = .agg arr ∧ DR w ok c x arr.toList)

/-- Results. -/
def RsR (A : Base) (as : List ASh) (w : World) : (rs : List RSh) → Tup (rcodes rs as) → List Value → Prop
  | [], _, us => us = []
  | r :: rs, y, u :: us => DRV w ((cxE A as w).ok r.org) r.c r.agg (thd (r := rcodes rs as) y) u ∧ RsR A as w rs (ttl (r := rcodes rs as) y) us
  | _ :: _, _, [] => False

/-- What was lent. -/
def OuR (A : Base) (as0 : List ASh) (w : World) : Nat → (as : List ASh) → Tup (outs as) → Prop
  | _, [], _ => True
  | p, .ref c :: r, y => (∃ l, A.pin (8 * p + 5) = some l ∧ BR (cxE A as0 w) (.vec (2 ^ p) c (thd (c := .list c) (r := outs r) y)) l) ∧ OuR A as0 w (p + 1) r (ttl (c := .list c) (r := outs r) y)
  | p, .rbox c :: r, y => (∃ l, A.pin (8 * p + 5) = some l ∧ (l.o = 0 ∧ l.nil = false) ∧ ∃ arr t, w.heap[l.b]? = some (.cells arr t (0, 0)) ∧ DR w ((cxE A as0 w).ok (2 ^ p)) c (thd (r := outs r) y) arr.toList) ∧ OuR A as0 w (p + 1) r (ttl (r := outs r) y)
  | p, .d _ _ :: r, y => OuR A as0 w (p + 1) r y
  | p, .own _ :: r, y => OuR A as0 w (p + 1) r y
  | p, .clo _ _ :: r, y => OuR A as0 w (p + 1) r y
  | p, .rp _ :: r, y => OuR A as0 w (p + 1) r y
  | p, .rag _ c :: r, y => (∃ l, A.pin (8 * p + 5) = some l ∧ BR (cxE A as0 w) (.vec (2 ^ p) c (thd (c := .list c) (r := outs r) y)) l) ∧ OuR A as0 w (p + 1) r (ttl (c := .list c) (r := outs r) y)
  | p, .k _ :: r, y => OuR A as0 w (p + 1) r y

def resultVal : List Value → Value
  | [u] => u
  | us => .tuple us.toArray

def outRs : (rs : List RSh) → {as : List ASh} → Tup (rcodes rs as) → Tup (outs as) := outR

/-- What a call comes to. -/
structure FinR (A : Base) (i : FI) (y : Tup (rcodes i.rs i.as)) (v : Value) (w : World) : Prop where
  fr : Fr A w
  res : ∃ us, v = resultVal us ∧ RsR A i.as w i.rs y us
  out : OuR A i.as w 0 i.as (outR i.rs y)

def MFn (E : Env) (i : FI) (x : Tup (acodes i.as)) (y : Tup (rcodes i.rs i.as)) : Prop :=
  (∃ fn, E.P.funcs[i.f]? = some fn ∧ fn.body.isSome = true) ∧
  ∀ (A : Base) (g : Nat → Option Loc) (vs : Array Value), Mem A g (mkA 0 i.as x).bk A.w0 → (∀ t, TR (cxOf A g (mkA 0 i.as x).bk A.w0) ((mkA 0 i.as x).tm t) (vs.getD t undef)) → (∀ id ∈ refIds 0 i.as, A.pin id = g id) →
    Calls E.P i.f vs A.w0 fun e w' => ∃ v, e = .returned v ∧ FinR A i y v w'

section
variable {E : Env} {A : Base} {g : Nat → Option Loc} {st : St} {a : Act} {w : World} {n : Nat}

/-- A result's value. -/
def resOf (tmps : Array Value) : ResultVar → Sem Value
  | .tmp t => pure (tmps.getD t undef)
  | .cell a t => do loadVar t (← asAddr (tmps.getD a undef))

theorem res_run (hI : Inv A n g st a w) {v : ResultVar} {x : Val} (h : resV E st v = some x) : ∃ u, (resOf a.tmps v).run E.P w = .ok u w ∧ VR (cxOf A g st.bk w) x u := by
  cases v with
  | tmp t =>
    simp only [resV] at h
    split at h
    · rename_i v hv
      cases h
      have ht := hI.tm t
      rw [hv] at ht
      exact ⟨_, rfl, ht⟩
    · cases h
  | cell b t =>
    simp only [resV] at h
    split at h
    · rename_i id agg sz hb hagg hsz
      split at h
      · rename_i cs hbk
        have ht := hI.tm b
        rw [hb] at ht
        obtain ⟨l, hg, hv⟩ := (show SR (cxOf A g st.bk w) (.ptr id 0) _ from ht)
        obtain ⟨l', hg', ⟨_, arr, t', harr, hall⟩, _⟩ := hI.mem.br _ _ hbk
        rw [show g id = some l from hg] at hg'; cases hg'
        obtain ⟨l1, l2⟩ := load_run hagg hsz (w := w) (b := l.b) (o := 0) (off := 0) (vs := arr.toList) (fun j v hj => by rw [cell_of (w := w) harr]; simpa using hj)
        simp only [Nat.add_zero] at l1 l2
        have hr : ∀ u, (loadVar t ⟨l.b, 0, none⟩).run E.P w = .ok u w → (resOf a.tmps (.cell b t)).run E.P w = .ok u w := fun u hu => by
          simp [resOf, hv, asAddr, hu]
        cases agg
        · simp only [] at h
          split at h
          · rename_i s hs
            cases h
            obtain ⟨u, hu, hsr⟩ := hall.get hs
            exact ⟨u, hr u (l2 rfl u hu), hsr⟩
          · cases h
        · simp only [] at h
          obtain ⟨hle, h⟩ := if_some h
          cases h
          refine ⟨_, hr _ (l1 rfl (by rw [← hall.length]; omega)), _, rfl, ?_⟩
          simpa using hall.take sz
      · cases h
    · cases h

theorem dr_exit (hI : Inv A n g st a w) {as : List ASh} (hlive : ∀ id ∈ refIds 0 as, isLive st.bk id = true) {c : Cd} {ss : List Sc} {vs : List Value} {x : El c} {org : Nat} (ha : All2 (SR (cxOf A g st.bk w)) ss vs) (hd : decC st.bk c ss = some x)
    (ho : orgLe (orgL st.bk ss) org = true) (hs : ∀ id ∈ idsL ss, id ∉ refIds 0 as) : DR w ((cxE A as w).ok org) c x vs := by
  refine (decC_dr hI.mem (Sub.refl _) (I := idsL ss) ha hd (fun id h _ => h) ho).mono (Nat.le_refl _) fun b hb hok => ⟨⟨hok.1, ?_⟩, rfl⟩
  rintro ⟨id, hm, l, hp, hn, hlb⟩
  obtain ⟨_, p2⟩ := hI.mem.pin id l hp
  have hl := hlive id hm
  have hlv : ∃ blk, st.bk id = .live blk := by
    unfold isLive at hl
    split at hl
    · exact ⟨_, ‹_›⟩
    · cases hl
  obtain ⟨blk, hblk⟩ := hlv
  exact hs id (hok.2 id blk l hblk (p2 hl) hn hlb) hm

theorem packO_live : ∀ (p : Nat) (as : List ASh) (y : Tup (outs as)), packO st p as = some y → ∀ id ∈ refIds p as, isLive st.bk id = true
  | _, [], _, _, id, h => by simp [refIds] at h
  | p, .ref c :: r, y, hp, id, h => by
    simp only [packO] at hp
    obtain ⟨_, hp⟩ := if_some hp
    split at hp
    · rename_i u z hu hz
      simp only [refIds, List.mem_cons] at h
      rcases h with rfl | h
      · obtain ⟨_, _, _, hb, _⟩ := ownedL_inv hu; exact isLive_of hb
      · exact packO_live (p + 1) r z hz id h
    · cases hp
  | p, .rag _ c :: r, y, hp, id, h => by
    simp only [packO] at hp
    obtain ⟨_, hp⟩ := if_some hp
    split at hp
    · rename_i u z hu hz
      simp only [refIds, List.mem_cons] at h
      rcases h with rfl | h
      · obtain ⟨_, _, _, hb, _⟩ := ownedL_inv hu; exact isLive_of hb
      · exact packO_live (p + 1) r z hz id h
    · cases hp
  | p, .rbox c :: r, y, hp, id, h => by
    simp only [packO] at hp
    split at hp
    · rename_i cs hb
      obtain ⟨_, hp⟩ := if_some hp
      split at hp
      · rename_i u z hu hz
        simp only [refIds, List.mem_cons] at h
        rcases h with rfl | h
        · exact isLive_of hb
        · exact packO_live (p + 1) r z hz id h
      · cases hp
    · cases hp
  | p, .d _ _ :: r, y, hp, id, h => packO_live (p + 1) r y hp id h
  | p, .own _ :: r, y, hp, id, h => packO_live (p + 1) r y hp id h
  | p, .clo _ _ :: r, y, hp, id, h => packO_live (p + 1) r y hp id h
  | p, .rp _ :: r, y, hp, id, h => packO_live (p + 1) r y hp id h
  | p, .k _ :: r, y, hp, id, h => packO_live (p + 1) r y hp id h

theorem packO_our (hI : Inv A n g st a w) {as0 : List ASh} (hlive : ∀ id ∈ refIds 0 as0, isLive st.bk id = true) (hpin : ∀ id ∈ refIds 0 as0, ∃ l, A.pin id = some l) (hidB : ∀ id ∈ idsB st 0 as0, id ∉ refIds 0 as0) :
    ∀ (p : Nat) (as : List ASh) (y : Tup (outs as)), packO st p as = some y → (∀ id ∈ refIds p as, id ∈ refIds 0 as0) → (∀ id ∈ idsB st p as, id ∈ idsB st 0 as0) → OuR A as0 w p as y
  | _, [], _, _, _, _ => trivial
  | p, .ref c :: r, y, hp, h1, h2 => by
    simp only [packO] at hp
    obtain ⟨ho, hp⟩ := if_some hp
    split at hp
    · rename_i u z hu hz
      cases hp
      have hid : 8 * p + 5 ∈ refIds 0 as0 := h1 _ (by simp only [refIds]; exact List.mem_cons_self ..)
      obtain ⟨l, hl⟩ := hpin _ hid
      obtain ⟨org, c', xs', hb, horg, hc, rfl⟩ := ownedL_inv hu
      obtain ⟨l', hg', hbr, _⟩ := hI.mem.br _ _ hb
      have := (hI.mem.pin _ l hl).2 (isLive_of hb)
      rw [this] at hg'; cases hg'
      simp only [OuR, thd_cons, ttl_cons]
      refine ⟨⟨l, hl, castL_br hc ?_⟩, packO_our hI hlive hpin hidB (p + 1) r z hz (fun id h => h1 id (by simp only [refIds]; exact List.mem_cons_of_mem _ h)) h2⟩
      rw [horg] at ho
      have hokE : ∀ b, (cxOf A g st.bk w).ok org b → (cxE A as0 w).ok (2 ^ p) b := fun b hok => by
        refine ⟨A.mono _ _ _ ho hok.1, ?_⟩
        rintro ⟨id, hm, l1, q1, q2, q3⟩
        have hl1 := hlive id hm
        have hlv : ∃ blk, st.bk id = .live blk := by
          unfold isLive at hl1
          split at hl1
          · exact ⟨_, ‹_›⟩
          · cases hl1
        obtain ⟨blk, hblk⟩ := hlv
        exact hok.2 ⟨id, blk, l1, hblk, (hI.mem.pin id l1 q1).2 hl1, q2, q3⟩
      rcases hbr with h | ⟨hnl, hS, hn, hcp, hsz, arr, t, ha, hs, he⟩
      · exact .inl h
      · refine .inr ⟨hnl, A.mono _ _ _ ho hS, hn, hcp, hsz, arr, t, ha, hs, fun i x hx => ?_⟩
        obtain ⟨cs, hd, hv⟩ := he i x hx
        exact ⟨cs, hd.mono (Nat.le_refl _) fun b hb' hok => ⟨hokE b hok, rfl⟩, hv⟩
    · cases hp
  | p, .rag _ c :: r, y, hp, h1, h2 => by
    simp only [packO] at hp
    obtain ⟨ho, hp⟩ := if_some hp
    split at hp
    · rename_i u z hu hz
      cases hp
      have hid : 8 * p + 5 ∈ refIds 0 as0 := h1 _ (by simp only [refIds]; exact List.mem_cons_self ..)
      obtain ⟨l, hl⟩ := hpin _ hid
      obtain ⟨org, c', xs', hb, horg, hc, rfl⟩ := ownedL_inv hu
      obtain ⟨l', hg', hbr, _⟩ := hI.mem.br _ _ hb
      have := (hI.mem.pin _ l hl).2 (isLive_of hb)
      rw [this] at hg'; cases hg'
      simp only [OuR, thd_cons, ttl_cons]
      refine ⟨⟨l, hl, castL_br hc ?_⟩, packO_our hI hlive hpin hidB (p + 1) r z hz (fun id h => h1 id (by simp only [refIds]; exact List.mem_cons_of_mem _ h)) h2⟩
      rw [horg] at ho
      have hokE : ∀ b, (cxOf A g st.bk w).ok org b → (cxE A as0 w).ok (2 ^ p) b := fun b hok => by
        refine ⟨A.mono _ _ _ ho hok.1, ?_⟩
        rintro ⟨id, hm, l1, q1, q2, q3⟩
        have hl1 := hlive id hm
        have hlv : ∃ blk, st.bk id = .live blk := by
          unfold isLive at hl1
          split at hl1
          · exact ⟨_, ‹_›⟩
          · cases hl1
        obtain ⟨blk, hblk⟩ := hlv
        exact hok.2 ⟨id, blk, l1, hblk, (hI.mem.pin id l1 q1).2 hl1, q2, q3⟩
      rcases hbr with h | ⟨hnl, hS, hn, hcp, hsz, arr, t, ha, hs, he⟩
      · exact .inl h
      · refine .inr ⟨hnl, A.mono _ _ _ ho hS, hn, hcp, hsz, arr, t, ha, hs, fun i x hx => ?_⟩
        obtain ⟨cs, hd, hv⟩ := he i x hx
        exact ⟨cs, hd.mono (Nat.le_refl _) fun b hb' hok => ⟨hokE b hok, rfl⟩, hv⟩
    · cases hp
  | p, .rbox c :: r, y, hp, h1, h2 => by
    simp only [packO] at hp
    split at hp
    · rename_i cs hb
      obtain ⟨ho, hp⟩ := if_some hp
      split at hp
      · rename_i u z hu hz
        cases hp
        have hid : 8 * p + 5 ∈ refIds 0 as0 := h1 _ (by simp only [refIds]; exact List.mem_cons_self ..)
        obtain ⟨l, hl⟩ := hpin _ hid
        obtain ⟨l', hg', ⟨h0, arr, t, harr, hall⟩, _⟩ := hI.mem.br _ _ hb
        have := (hI.mem.pin _ l hl).2 (isLive_of hb)
        rw [this] at hg'; cases hg'
        simp only [OuR, thd_cons, ttl_cons]
        refine ⟨⟨l, hl, h0, arr, t, harr, dr_exit hI hlive hall hu ho fun id hi => hidB id (h2 id ?_)⟩, packO_our hI hlive hpin hidB (p + 1) r z hz (fun id h => h1 id (by simp only [refIds]; exact List.mem_cons_of_mem _ h)) fun id h => h2 id ?_⟩
        · simp only [idsB, hb]; exact List.mem_append_left _ hi
        · simp only [idsB, hb]; exact List.mem_append_right _ h
      · cases hp
    · cases hp
  | p, .d _ _ :: r, y, hp, h1, h2 => packO_our hI hlive hpin hidB (p + 1) r y hp h1 h2
  | p, .own _ :: r, y, hp, h1, h2 => packO_our hI hlive hpin hidB (p + 1) r y hp h1 h2
  | p, .clo _ _ :: r, y, hp, h1, h2 => packO_our hI hlive hpin hidB (p + 1) r y hp h1 h2
  | p, .rp _ :: r, y, hp, h1, h2 => packO_our hI hlive hpin hidB (p + 1) r y hp h1 h2
  | p, .k _ :: r, y, hp, h1, h2 => packO_our hI hlive hpin hidB (p + 1) r y hp h1 h2

theorem packR_cons (v : ResultVar) (vs : List ResultVar) (r : RSh) (rs : List RSh) (as : List ASh) : packR E st (v :: vs) (r :: rs) as = (match resV E st v with
    | some x => if orgLe (orgL st.bk x.cells) r.org then
        match decArg st.bk r.c r.agg x, packR E st vs rs as with
        | some y, some z => some (tcons (r := rcodes rs as) y z)
        | _, _ => none
      else none
    | none => none) := rfl

theorem packR_out : ∀ (vs : List ResultVar) (rs : List RSh) (as : List ASh) (y : Tup (rcodes rs as)), packR E st vs rs as = some y → packO st 0 as = some (outR rs y)
  | [], [], as, y, h => h
  | v :: vs, r :: rs, as, y, h => by
    rw [packR_cons] at h
    split at h
    · obtain ⟨_, h⟩ := if_some h
      split at h
      · rename_i u z hu hz
        cases h
        simp only [outR, ttl_cons]
        exact packR_out vs rs as z hz
      · cases h
    · cases h
  | [], _ :: _, _, _, h => by cases h
  | _ :: _, [], _, _, h => by cases h

theorem packR_res (hI : Inv A n g st a w) {as : List ASh} (hlive : ∀ id ∈ refIds 0 as, isLive st.bk id = true) {vs0 : List ResultVar} (hids : ∀ id ∈ idsR E st vs0, id ∉ refIds 0 as) :
    ∀ (vs : List ResultVar) (rs : List RSh) (y : Tup (rcodes rs as)), packR E st vs rs as = some y → (∀ id ∈ idsR E st vs, id ∈ idsR E st vs0) → ∃ us, (vs.mapM (resOf a.tmps)).run E.P w = .ok us w ∧ RsR A as w rs y us
  | [], [], y, h, _ => ⟨[], by simp, rfl⟩
  | v :: vs, r :: rs, y, h, h1 => by
    rw [packR_cons] at h
    split at h
    · rename_i x hx
      obtain ⟨ho, h⟩ := if_some h
      split at h
      · rename_i u z hu hz
        cases h
        obtain ⟨uv, hrun, hvr⟩ := res_run hI hx
        obtain ⟨us, hus, hrs⟩ := packR_res hI hlive hids vs rs z hz fun id h => h1 id (by simp only [idsR]; exact List.mem_append_right _ h)
        refine ⟨uv :: us, ?_, ?_, ?_⟩
        · simp only [List.mapM_cons, Sem.run_bind, hrun, Result.andThen_ok, hus, Sem.run_pure]
        · simp only [thd_cons]
          have hs : ∀ id ∈ idsL x.cells, id ∉ refIds 0 as := fun id hi => hids id (h1 id (by simp only [idsR, hx]; exact List.mem_append_left _ hi))
          rcases decArg_inv hu with ⟨e, s, rfl, hd⟩ | ⟨e, cs, rfl, hd⟩
          · exact .inl ⟨e, dr_exit hI hlive (ss := [s]) (vs := [uv]) ⟨hvr, trivial⟩ hd ho hs⟩
          · obtain ⟨arr, rfl, ha⟩ := hvr
            exact .inr ⟨e, arr, rfl, dr_exit hI hlive ha hd ho hs⟩
        · simp only [ttl_cons]; exact hrs
      · cases h
    · cases h
  | [], _ :: _, _, h, _ => by cases h
  | _ :: _, [], _, h, _ => by cases h

/-- The end of a body. -/
theorem fin_res (hI : Inv A n g st a w) {i : FI} {fn : Func} {y : Tup (rcodes i.rs i.as)} (h : finR E st fn.results.toList i.rs i.as = some y) (hpin : ∀ id ∈ refIds 0 i.as, ∃ l, A.pin id = some l) :
    ∃ v, (results fn a.tmps).run E.P w = .ok v w ∧ FinR A i y v w := by
  unfold finR at h
  obtain ⟨hap, h⟩ := if_some h
  have ho := packR_out _ _ _ _ h
  have hlive := packO_live 0 _ _ ho
  have hids : ∀ id ∈ idsR E st fn.results.toList, id ∉ refIds 0 i.as := fun id hi => apartB_mem hap (List.mem_append_left _ hi)
  have hidB : ∀ id ∈ idsB st 0 i.as, id ∉ refIds 0 i.as := fun id hi => apartB_mem hap (List.mem_append_right _ hi)
  obtain ⟨us, hus, hrs⟩ := packR_res hI hlive hids _ _ _ h (fun _ h => h)
  refine ⟨resultVal us, ?_, hI.mem.fr, ⟨us, rfl, hrs⟩, packO_our hI hlive hpin hidB 0 i.as _ ho (fun _ h => h) (fun _ h => h)⟩
  have hm : (fn.results.mapM (resOf a.tmps)).run E.P w = .ok us.toArray w := by
    rw [Array.mapM_eq_mapM_toList]
    simp [hus]
  unfold results
  show Sem.run E.P (fn.results.mapM (resOf a.tmps) >>= fun vs => pure (if h : vs.size = 1 then vs[0] else .tuple vs)) w = _
  rw [Sem.run_bind, hm]
  simp only [Result.andThen_ok, Sem.run_pure]
  congr 1
  match us with
  | [u] => simp [resultVal]
  | [] => simp [resultVal]
  | _ :: _ :: _ => simp [resultVal]

/-- A function comes to what the ideal interpreter says. -/
theorem fn_step {run : Orc} (hop : OpOk E run) (hlp : ∀ f n ex h x y, run (.lp f n ex h) x = some y → MLp E f n ex h x y) (hD : ∀ (f : FuncId) (fn : Func) (c : Code), E.P.funcs[f]? = some fn → fn.body = some c → dstOk fn.ntmps c = true)
    {i : FI} {x : Tup (acodes i.as)} {y : Tup (rcodes i.rs i.as)} (hs : stp E run (.fn i) x = some y) : MFn E i x y := by
  simp only [stp] at hs
  split at hs
  · rename_i fn hfn
    split at hs
    · rename_i c hc
      refine ⟨⟨fn, hfn, by simp [hc]⟩, fun A g vs hM hT hpin => ?_⟩
      refine calls_of_wp hfn hc ?_
      have hpin' : ∀ id ∈ refIds 0 i.as, ∃ l, A.pin id = some l := by
        intro id hid
        rw [hpin id hid]
        -- what is lent is live from the beginning
        have live : ∀ (as : List ASh) (p : Nat) (x : Tup (acodes as)), ∀ id ∈ refIds p as, isLive (mkA p as x).bk id = true ∧ 8 * p + 5 ≤ id := by
          intro as
          induction as with
          | nil => intro p x id h; simp [refIds] at h
          | cons s r ih =>
            intro p x id h
            have ih' := ih (p + 1) (tl1 s x)
            cases s <;> simp only [refIds, List.mem_cons] at h <;> simp only [mkA, putA, isLive] at ih' ⊢
            · have := ih' id h
              exact ⟨this.1, by omega⟩
            · have := ih' id h
              rw [upd_ne _ _ (by omega)]
              exact ⟨this.1, by omega⟩
            · rcases h with rfl | h
              · rw [upd_same]; exact ⟨rfl, Nat.le_refl _⟩
              · have := ih' id h
                rw [upd_ne _ _ (by omega)]
                exact ⟨this.1, by omega⟩
            · rcases h with rfl | h
              · rw [upd_same]; exact ⟨rfl, Nat.le_refl _⟩
              · have := ih' id h
                rw [upd_ne _ _ (by omega)]
                exact ⟨this.1, by omega⟩
            · have := ih' id h
              exact ⟨this.1, by omega⟩
            · have := ih' id h
              exact ⟨this.1, by omega⟩
            · rcases h with rfl | h
              · rw [upd_same]; exact ⟨rfl, Nat.le_refl _⟩
              · have := ih' id h
                rw [upd_ne _ _ (by omega)]
                exact ⟨this.1, by omega⟩
            · have := ih' id h
              exact ⟨this.1, by omega⟩
        have hl := (live i.as 0 x id hid).1
        unfold isLive at hl
        split at hl
        · rename_i b hb
          obtain ⟨l, hl, _⟩ := hM.br _ _ hb
          exact ⟨l, hl⟩
        · cases hl
      have hsz : fn.ntmps ≤ (vs ++ Array.replicate (fn.ntmps - vs.size) undef).size := by simp; omega
      have hI : Inv A fn.ntmps g (mkA 0 i.as x) { tmps := vs ++ Array.replicate (fn.ntmps - vs.size) undef, defers := [] } A.w0 := by
        refine ⟨fun t => ?_, hM, rfl, hsz⟩
        have := hT t
        have e : (vs ++ Array.replicate (fn.ntmps - vs.size) undef).getD t undef = vs.getD t undef := by
          simp only [Array.getD_eq_getD_getElem?, Array.getElem?_append]
          split
          · rfl
          · rename_i h
            rw [Array.getElem?_eq_none (by omega : vs.size ≤ t)]
            rw [Array.getElem?_replicate]
            split <;> rfl
        rw [show ({ tmps := vs ++ Array.replicate (fn.ntmps - vs.size) undef, defers := [] } : Act).tmps.getD t undef = vs.getD t undef from e]
        exact this
      refine codeK_wp hop hlp c 0 _ _ g _ A.w0 _ (fun m hm => by unfold bodyAt; rw [hfn, Nat.zero_add]; simp [hc]) (hD _ _ _ hfn hc) hI hs fun e st' g' a' w' hI' hk => ?_
      cases e with
      | nrm =>
        obtain ⟨v, hr, hf⟩ := fin_res hI' hk hpin'
        exact ⟨hI'.df, v, hr, v, rfl, hf⟩
      | ret =>
        obtain ⟨v, hr, hf⟩ := fin_res hI' hk hpin'
        exact ⟨hI'.df, v, hr, v, rfl, hf⟩
      | exit id => cases hk
    · cases hs
  · cases hs

end
end Ai
end Go.Proofs.Ytpknhlnoaehffaa
