/-
  The ideal interpreter against the machine: results.
-/
import Derived.Test.YtpknhlnoaehffaaA23
namespace Go.Proofs.Ytpknhlnoaehffaa
namespace Ai
set_option linter.unusedSimpArgs false
set_option linter.unusedVariables false

/-! ### Results as cells -/

theorem impC_none (org : Nat) : ∀ (c : Cd) (x : El c), impC none org c x = (scells org c x, [])
  | .i _, _ => rfl
  | .bool, _ => rfl
  | .str, _ => rfl
  | .unit, _ => rfl
  | .list _, _ => rfl
  | .pair a b, x => by
    simp only [impC, impC_none org a, impC_none org b, scells]
    rfl

theorem impC_zero (own : Option Nat) (org : Nat) : ∀ (c : Cd) (x : El c), nlist c = 0 → impC own org c x = (scells org c x, [])
  | .i _, _, _ => rfl
  | .bool, _, _ => rfl
  | .str, _, _ => rfl
  | .unit, _, _ => rfl
  | .list _, _, h => by simp [nlist] at h
  | .pair a b, x, h => by
    simp only [nlist] at h
    simp only [impC, impC_zero own org a _ (by omega), impC_zero own org b _ (by omega), scells]
    rfl

theorem nlist_flat : ∀ (c : Cd), nlist c = 0 → cflat c = true
  | .i _, _ => rfl
  | .bool, _ => rfl
  | .str, _ => rfl
  | .unit, _ => rfl
  | .list _, h => by simp [nlist] at h
  | .pair a b, h => by
    simp only [nlist] at h
    simp [cflat, nlist_flat a (by omega), nlist_flat b (by omega)]

theorem scells_any {C : Cx} {w : World} {ok : Nat → Prop} {org : Nat} {c : Cd} {x : El c} {vs : List Value} (h : nlist c = 0) (hd : DR w ok c x vs) : All2 (SR C) (scells org c x) vs :=
  scells_sr (DR.flat (nlist_flat c h) hd)

theorem impC_one (id org : Nat) {w : World} {ok : Nat → Prop} : ∀ (c : Cd) (x : El c) (vs : List Value), nlist c = 1 → DR w ok c x vs →
    (impC (some id) org c x = (scells org c x, [])) ∨ ∃ c' xs v, (cflat c' = true ∧ 1 ≤ csize c') ∧ (impC (some id) org c x).2 = [(id, .live (.vec 0 c' xs))] ∧ DR w ok (.list c') xs [v] ∧ ∀ C : Cx, SR C (.own id) v → All2 (SR C) (impC (some id) org c x).1 vs
  | .i _, _, _, h, _ => by simp [nlist] at h
  | .bool, _, _, h, _ => by simp [nlist] at h
  | .str, _, _, h, _ => by simp [nlist] at h
  | .unit, _, _, h, _ => by simp [nlist] at h
  | .list c, xs, vs, _, hd => by
    cases hf : cflat c && Nat.ble 1 (csize c)
    · left; simp only [impC, hf]; rfl
    · right
      have hf2 := hf
      rw [Bool.and_eq_true] at hf2
      match vs, hd.length with
      | [v], _ => exact ⟨c, xs, v, ⟨hf2.1, Nat.le_of_ble_eq_true hf2.2⟩, by simp only [impC, hf], hd, fun C hv => by simp only [impC, hf]; exact ⟨hv, trivial⟩⟩
  | .pair a b, x, vs, h, hd => by
    obtain ⟨c1, c2, rfl, h1, h2⟩ := hd
    simp only [nlist] at h
    have hab : (nlist a = 1 ∧ nlist b = 0) ∨ (nlist a = 0 ∧ nlist b = 1) := by omega
    rcases hab with ⟨ha, hb⟩ | ⟨ha, hb⟩
    · rcases impC_one id org a x.1 c1 ha h1 with e | ⟨c', xs, v, q1, q2, q3, q4⟩
      · left
        simp only [impC, e, impC_zero _ org b _ hb, scells]
        rfl
      · right
        refine ⟨c', xs, v, q1, ?_, q3, fun C hv => ?_⟩
        · simp only [impC, q2, impC_zero _ org b _ hb]; rfl
        · simp only [impC, impC_zero _ org b _ hb]
          exact (q4 C hv).append (scells_any hb h2)
    · rcases impC_one id org b x.2 c2 hb h2 with e | ⟨c', xs, v, q1, q2, q3, q4⟩
      · left
        simp only [impC, e, impC_zero _ org a _ ha, scells]
        rfl
      · right
        refine ⟨c', xs, v, q1, ?_, q3, fun C hv => ?_⟩
        · simp only [impC, q2, impC_zero _ org a _ ha]; rfl
        · simp only [impC, impC_zero _ org a _ ha]
          exact (scells_any ha h1).append (q4 C hv)

theorem mkVal_vr {C : Cx} {agg : Bool} {cells : List Sc} {u : Value} (h : (agg = false ∧ All2 (SR C) cells [u]) ∨ (agg = true ∧ ∃ arr : Array Value, u = .agg arr ∧ All2 (SR C) cells arr.toList)) : VR C (mkVal agg cells) u := by
  rcases h with ⟨rfl, h⟩ | ⟨rfl, arr, rfl, h⟩
  · match cells, h with
    | [s], h => exact h.1
  · have : mkVal true cells = .agg cells := by unfold mkVal; rfl
    rw [this]
    exact ⟨arr, rfl, h⟩

def totL : List RSh → Nat
  | [] => 0
  | r :: rs => nlist r.c + totL rs

theorem totL_fold : ∀ (rs : List RSh) (n : Nat), rs.foldl (fun n r => n + nlist r.c) n = n + totL rs
  | [], n => rfl
  | r :: rs, n => by rw [List.foldl_cons, totL_fold rs, totL]; omega

section
variable {A : Base} {as : List ASh} {w : World}

/-- Results that are read only. -/
theorem res_data {C : Cx} {own : Option Nat} {orgs : List Nat} : ∀ (rs : List RSh) (y : Tup (rcodes rs as)) (us : List Value), RsR A as w rs y us → (own = none ∨ totL rs = 0 ∨ (impR own orgs rs y).2 = []) →
    (∀ r ∈ rs, nlist r.c ≠ 0 → ∀ (x : El r.c) vs, DR w ((cxE A as w).ok r.org) r.c x vs → DR C.w (C.ok (orgR r.org 0 orgs)) r.c x vs) → totL rs ≤ 1 ∨ own = none → (impR own orgs rs y).2 = [] ∧ All2 (VR C) (impR own orgs rs y).1 us
  | [], y, us, h, _, _, _ => by
    rw [show us = [] from h]
    exact ⟨rfl, trivial⟩
  | r :: rs, y, [], h, _, _, _ => h.elim
  | r :: rs, y, u :: us, h, ho, hK, ht => by
    obtain ⟨h1, h2⟩ := h
    simp only [totL] at ho ht
    have e1 : impC own (orgR r.org 0 orgs) r.c (thd (r := rcodes rs as) y) = (scells (orgR r.org 0 orgs) r.c (thd (r := rcodes rs as) y), []) := by
      rcases ho with rfl | ho | ho
      · exact impC_none _ _ _
      · exact impC_zero _ _ _ _ (by omega)
      · simp only [impR, List.append_eq_nil_iff] at ho
        have ho1 := ho.1
        cases own with
        | none => exact impC_none _ _ _
        | some id =>
          by_cases hz : nlist r.c = 0
          · exact impC_zero _ _ _ _ hz
          · have : nlist r.c = 1 := by
              rcases ht with ht | ht
              · omega
              · cases ht
            have hd : ∃ vs, DR w ((cxE A as w).ok r.org) r.c (thd (r := rcodes rs as) y) vs := by
              rcases h1 with ⟨_, h1⟩ | ⟨_, arr, _, h1⟩
              · exact ⟨_, h1⟩
              · exact ⟨_, h1⟩
            obtain ⟨vs, hd⟩ := hd
            rcases impC_one id (orgR r.org 0 orgs) r.c _ vs this hd with e | ⟨c', xs, v, _, q2, _⟩
            · exact e
            · rw [q2] at ho1; cases ho1
    have hsc : ∀ vs, DR w ((cxE A as w).ok r.org) r.c (thd (r := rcodes rs as) y) vs → All2 (SR C) (scells (orgR r.org 0 orgs) r.c (thd (r := rcodes rs as) y)) vs := fun vs hd => by
      by_cases hz : nlist r.c = 0
      · exact scells_any hz hd
      · exact scells_sr (hK r (List.mem_cons_self ..) hz _ vs hd)
    obtain ⟨i1, i2⟩ := res_data (own := own) (orgs := orgs) rs (ttl (r := rcodes rs as) y) us h2 (ho.imp (fun h => h) fun ho => ho.imp (fun h => by omega) fun ho => by simp only [impR, List.append_eq_nil_iff] at ho; exact ho.2)
      (fun r' hr => hK r' (List.mem_cons_of_mem _ hr)) (ht.imp (fun h => by omega) fun h => h)
    refine ⟨?_, ?_, ?_⟩
    · simp only [impR, e1, i1]; rfl
    · simp only [e1]
      refine mkVal_vr ?_
      rcases h1 with ⟨ea, h1⟩ | ⟨ea, arr, rfl, h1⟩
      · exact .inl ⟨ea, hsc _ h1⟩
      · exact .inr ⟨ea, arr, rfl, hsc _ h1⟩
    · exact i2

/-- Results one slice of which the caller takes over. -/
theorem res_own {id : Nat} {orgs : List Nat} : ∀ (rs : List RSh) (y : Tup (rcodes rs as)) (us : List Value), RsR A as w rs y us → totL rs = 1 → (∀ r ∈ rs, r.org = 0) → (impR (some id) orgs rs y).2 ≠ [] →
    ∃ c' xs v, (cflat c' = true ∧ 1 ≤ csize c') ∧ (impR (some id) orgs rs y).2 = [(id, .live (.vec 0 c' xs))] ∧ DR w ((cxE A as w).ok 0) (.list c') xs [v] ∧ ∀ C : Cx, SR C (.own id) v → All2 (VR C) (impR (some id) orgs rs y).1 us
  | [], y, us, h, ht, _, _ => by simp [totL] at ht
  | r :: rs, y, [], h, _, _, _ => h.elim
  | r :: rs, y, u :: us, h, ht, h0, hne => by
    obtain ⟨h1, h2⟩ := h
    simp only [totL] at ht
    have hd : ∃ vs, DR w ((cxE A as w).ok r.org) r.c (thd (r := rcodes rs as) y) vs ∧ ((r.agg = false ∧ vs = [u]) ∨ (r.agg = true ∧ ∃ arr : Array Value, u = .agg arr ∧ vs = arr.toList)) := by
      rcases h1 with ⟨ea, h1⟩ | ⟨ea, arr, e, h1⟩
      · exact ⟨_, h1, .inl ⟨ea, rfl⟩⟩
      · exact ⟨_, h1, .inr ⟨ea, arr, e, rfl⟩⟩
    obtain ⟨vs, hd, hvs⟩ := hd
    have mk : ∀ (C : Cx) (cells : List Sc), All2 (SR C) cells vs → VR C (mkVal r.agg cells) u := fun C cells hc => mkVal_vr (by
      rcases hvs with ⟨ea, rfl⟩ | ⟨ea, arr, e, rfl⟩
      · exact .inl ⟨ea, hc⟩
      · exact .inr ⟨ea, arr, e, hc⟩)
    by_cases hz : nlist r.c = 0
    · have e1 := impC_zero (some id) (orgR r.org 0 orgs) r.c (thd (r := rcodes rs as) y) hz
      have hne' : (impR (some id) orgs rs (ttl (r := rcodes rs as) y)).2 ≠ [] := by
        simp only [impR, e1] at hne
        simpa using hne
      obtain ⟨c', xs, v, q1, q2, q3, q4⟩ := res_own rs (ttl (r := rcodes rs as) y) us h2 (by omega) (fun r' hr => h0 r' (List.mem_cons_of_mem _ hr)) hne'
      refine ⟨c', xs, v, q1, by simp only [impR, e1, q2]; rfl, q3, fun C hv => ⟨?_, q4 C hv⟩⟩
      simp only [e1]
      exact mk C _ (scells_any hz hd)
    · have e1 : nlist r.c = 1 := by omega
      have h2' := res_data (C := ⟨fun _ => none, fun _ _ => True, fun _ => False, w⟩) (own := some id) (orgs := orgs) rs (ttl (r := rcodes rs as) y) us h2 (.inr (.inl (by omega))) (fun r' hr hnz => by
        exfalso
        have : ∀ (rs : List RSh), totL rs = 0 → ∀ r' ∈ rs, nlist r'.c = 0 := by
          intro rs
          induction rs with
          | nil => intro _ r' h; simp at h
          | cons a rs ih =>
            intro h r' hr
            simp only [totL] at h
            rcases List.mem_cons.1 hr with rfl | hr
            · omega
            · exact ih (by omega) r' hr
        exact hnz (this rs (by omega) r' hr)) (.inl (by omega))
      rcases impC_one id (orgR r.org 0 orgs) r.c _ vs e1 hd with e | ⟨c', xs, v, q1, q2, q3, q4⟩
      · exfalso
        apply hne
        simp only [impR, e, h2'.1]; rfl
      · refine ⟨c', xs, v, q1, by simp only [impR, q2, h2'.1]; rfl, by rw [h0 r (List.mem_cons_self ..)] at q3; exact q3, fun C hv => ⟨mk C _ (q4 C hv), ?_⟩⟩
        have hz2 : totL rs = 0 := by omega
        exact (res_data (C := C) (own := some id) (orgs := orgs) rs (ttl (r := rcodes rs as) y) us h2 (.inr (.inl hz2)) (fun r' hr hnz => by
          exfalso
          have : ∀ (rs : List RSh), totL rs = 0 → ∀ r' ∈ rs, nlist r'.c = 0 := by
            intro rs
            induction rs with
            | nil => intro _ r' h; simp at h
            | cons a rs ih =>
              intro h r' hr
              simp only [totL] at h
              rcases List.mem_cons.1 hr with rfl | hr
              · omega
              · exact ih (by omega) r' hr
          exact hnz (this rs hz2 r' hr)) (.inl (by omega))).2

theorem resT_tr {C : Cx} {vs : List Val} {us : List Value} (h : All2 (VR C) vs us) : TR C (resT vs) (resultVal us) := by
  match vs, us, h with
  | [], [], h => exact ⟨#[], rfl, trivial⟩
  | [v], [u], h => exact h.1
  | v :: v' :: vs, u :: u' :: us, h => exact ⟨(u :: u' :: us).toArray, rfl, h⟩
  | [_], _ :: _ :: _, h => exact h.2.elim
  | _ :: _ :: _, [_], h => exact h.2.elim

end
end Ai
end Go.Proofs.Ytpknhlnoaehffaa
