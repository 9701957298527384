/-
  ParsePatch: program and reference agree.
-/
import Derived.Test.YtopigbmamejklaaGreatDoorMPt5
namespace Go.Proofs.YtopigbmamejklaaGreatDoor
open Ai
set_option linter.unusedSimpArgs false
set_option linter.unusedVariables false
def patS (L : List (List UInt8)) : Patch := (lastW 0 L, (L.length : Int), L.flatten.map dz)
theorem spec_parse_v (s : List UInt8) (hn : s.length ≤ 1048576) (L : List (List UInt8)) (z : List UInt8) (hs : sp 10 s = L ++ [z]) :
    spec_ParsePatch s = if isPatch (patS L) = true then (Option.bind (spec_l20Text (patS L)) fun t => if t = s then some (patS L, 0) else some ((0, 0, []), 6)) else some ((0, 0, []), 6) := by
  have hl := sp_len 10 s
  have hb := sp_bytes 10 s
  have h1 : spec_l01Split s 10 = some (L ++ [z]) := by rw [← hs]; exact spec_split_v s 10 hn
  have hr : ∀ r ∈ L ++ [z], r.length ≤ 1048576 := fun r hr => by
    rw [hs] at hb
    have : r.length ≤ (L ++ [z]).flatten.length := by
      obtain ⟨a, b, e⟩ := List.append_of_mem hr
      rw [e, List.flatten_append, List.flatten_cons, List.length_append, List.length_append]
      omega
    omega
  rw [hs] at hl hb
  have hlen : (L ++ [z]).length = L.length + 1 := by rw [List.length_append]; rfl
  have h2 := lines_loop s (L ++ [z]) (by omega) hr 0 0 (L.length : Int) L.length 0 0 [] (by omega) (by rw [List.drop_zero]; simp only [List.length_nil]; omega)
  rw [List.dropLast_concat, List.drop_zero, List.nil_append] at h2
  have hL : (patS L).2.2.length ≤ MAXN := by
    show (L.flatten.map dz).length ≤ MAXN
    rw [List.length_map]
    rw [List.flatten_append, List.length_append] at hb
    exact leM (by omega)
  rw [spec_ParsePatch_eq, h1]
  simp only [Option.bind_some]
  rw [hlen, w64 (by omega) (by omega)]
  have e0 : (((L.length + 1 : Nat) : Int) - 1) = (L.length : Int) := by omega
  rw [e0, show spec_ParsePatch_l0 s (L ++ [z]) 0 0 0 0 (L.length : Int) [] = _ from h2]
  simp only [Option.bind_some]
  rw [show spec_IsPatch (lastW 0 L, (L.length : Int), L.flatten.map dz) = _ from spec_IsPatch_v (patS L) hL]
  simp only [Option.bind_some]
  cases isPatch (patS L) with
  | false => rfl
  | true =>
    simp only [cond_true, if_true]
    show Option.bind (spec_l20Text (patS L)) _ = _
    congr 1
    funext t
    by_cases e : t = s
    · rw [if_pos e, decide_eq_true e]; rfl
    · rw [if_neg e, decide_eq_false e]; rfl
theorem impl_parse_v (s : List UInt8) (hn : s.length ≤ 1048576) (t : List UInt8) (wh : Bool) (hc : strings_CutSuffix s [10] = some (t, wh)) (ht : t.length ≤ 1048576) (r0 : List UInt8) (L' : List (List UInt8)) (hL : sp 10 t = r0 :: L') :
    impl_ParsePatch s = if (sp 10 t).all (goodR r0.length) = true ∧ wh = true ∧ isPatch ((r0.length : Int), ((sp 10 t).length : Int), ((sp 10 t).map fun r => r.map dz).flatten) = true then some (((r0.length : Int), ((sp 10 t).length : Int), ((sp 10 t).map fun r => r.map dz).flatten), 0) else some ((0, 0, []), 6) := by
  have hl := sp_len 10 t
  have hb := sp_bytes 10 t
  have hS : strings_Split t [10] = some (sp 10 t) := by rw [strings_Split_ext]; exact splX_v t 10 ht
  have hr : ∀ r ∈ sp 10 t, r.length ≤ 1048576 := fun r hr => by
    have : r.length ≤ (sp 10 t).flatten.length := by
      obtain ⟨a, b, e⟩ := List.append_of_mem hr
      rw [e, List.flatten_append, List.flatten_cons, List.length_append, List.length_append]
      omega
    omega
  have h0 : rd (sp 10 t) 0 = some r0 := by rw [hL]; rfl
  have hR := fun wh => rows_loop wh (sp 10 t) r0 L' hL (by omega) hr (sp 10 t).length 0 [] (by omega) (by simp)
  have hfl : ((sp 10 t).map fun r => r.map dz).flatten.length ≤ 1048576 := by
    rw [← List.map_flatten, List.length_map]; omega
  have hcat := concat_v ((sp 10 t).map fun r => r.map dz) (by rw [List.length_map]; omega) hfl
  have hnil := concat_v [] (by simp) (by simp)
  have hIs := impl_IsPatch_v ((r0.length : Int), ((sp 10 t).length : Int), ((sp 10 t).map fun r => r.map dz).flatten) (leM hfl)
  have hR' : ∀ wh, impl_readRows_l0 wh (sp 10 t) [] (sp 10 t) ((sp 10 t).length : Int) 0 = _ := hR
  have hrows : impl_readRows s = some (if (sp 10 t).all (goodR r0.length) = true then ((r0.length : Int), (sp 10 t).map (fun r => r.map dz), wh) else (0, [], false)) := by
    rw [impl_readRows_eq, hc]
    simp only [Option.bind_some, hS, hR', List.drop_zero, List.nil_append]
    cases (sp 10 t).all (goodR r0.length) <;> cases wh <;> simp [h0]
  rw [impl_ParsePatch_eq, hrows]
  simp only [Option.bind_some]
  cases (sp 10 t).all (goodR r0.length) with
  | false =>
    simp only [Bool.false_eq_true, if_false, false_and, cond_false, hnil, Option.bind_some]
  | true =>
    simp only [if_true, true_and]
    cases wh with
    | false => simp only [Bool.false_eq_true, false_and, if_false, cond_false, hcat, Option.bind_some]
    | true =>
      simp only [cond_true, hcat, Option.bind_some, List.length_map, hIs, true_and]
      cases isPatch ((r0.length : Int), ((sp 10 t).length : Int), ((sp 10 t).map fun r => r.map dz).flatten) <;> rfl
theorem lastW_all (w : Nat) : ∀ (L : List (List UInt8)) (W : Int), L ≠ [] → (∀ r ∈ L, r.length = w) → lastW W L = (w : Int)
  | [], _, h, _ => (h rfl).elim
  | [r], W, _, h => by
    have := h r (List.mem_cons_self ..)
    simp [lastW, this]
  | r :: r' :: L, W, _, h => lastW_all w (r' :: L) (r.length : Int) (by simp) fun q hq => h q (List.mem_cons_of_mem _ hq)
theorem good_of {p : Patch} (hp : isPatch p = true) {s : List UInt8} (ht : spec_l20Text p = some s) : ∃ D : List (List UInt8), D ≠ [] ∧ (∀ r ∈ D, (r.length : Int) = p.1 ∧ r.all isDig = true) ∧ s = D.flatMap (fun r => r ++ [10]) := by
  obtain ⟨R, r1, r2, r3, r4⟩ := text_v hp
  obtain ⟨_, _, _, h9⟩ := isPatch_iff.1 hp
  rw [ht] at r1
  refine ⟨R.map fun r => r.map bz, fun e => r2 (List.map_eq_nil_iff.1 e), fun r hr => ?_, Option.some.inj r1⟩
  obtain ⟨q, hq, rfl⟩ := List.mem_map.1 hr
  refine ⟨by rw [List.length_map]; exact r3 q hq, List.all_eq_true.2 fun b hb => ?_⟩
  obtain ⟨c, hc, rfl⟩ := List.mem_map.1 hb
  have hm : c ∈ p.2.2 := by rw [← r4]; exact List.mem_flatten.2 ⟨q, hq, hc⟩
  exact (dz_bz (h9 c hm).1 (h9 c hm).2).2
theorem no_line {D : List (List UInt8)} (h : ∀ r ∈ D, r.all isDig = true) : ∀ r ∈ D, (10 : UInt8) ∉ r := fun r hr hm => by
  have := List.all_eq_true.1 (h r hr) 10 hm
  revert this
  decide
theorem ParsePatch_agree (s : List UInt8) (hn : s.length ≤ 1048576) : ∃ r, spec_ParsePatch s = some r ∧ impl_ParsePatch s = some r ∧ r.1.2.2.length ≤ 1048576 := by
  have zero : (([] : List Int)).length ≤ 1048576 := by simp
  rcases suffix_v s hn with ⟨t, hst, hc⟩ | ⟨hno, hc⟩
  · have ht : t.length ≤ 1048576 := by
      rw [hst, List.length_append] at hn; omega
    obtain ⟨r0, L', hL⟩ := sp_ne 10 t
    have hspl : sp 10 s = sp 10 t ++ [[]] := by rw [hst]; exact sp_end 10 t
    have hS := spec_parse_v s hn (sp 10 t) [] hspl
    have hI := impl_parse_v s hn t true hc ht r0 L' hL
    have hne : sp 10 t ≠ [] := by rw [hL]; simp
    by_cases hg : (sp 10 t).all (goodR r0.length) = true
    · have hlen : ∀ r ∈ sp 10 t, r.length = r0.length := fun r hr => by
        have := List.all_eq_true.1 hg r hr
        unfold goodR at this
        rw [Bool.and_eq_true, decide_eq_true_iff] at this
        exact this.2
      have hpe : patS (sp 10 t) = ((r0.length : Int), ((sp 10 t).length : Int), ((sp 10 t).map fun r => r.map dz).flatten) := by
        unfold patS
        rw [lastW_all r0.length _ _ hne hlen, List.map_flatten]
      rw [← hpe] at hI
      by_cases hp : isPatch (patS (sp 10 t)) = true
      · rw [if_pos ⟨hg, rfl, hp⟩] at hI
        rw [if_pos hp] at hS
        obtain ⟨w1, _⟩ := isPatch_iff.1 hp
        have hw1 : 1 ≤ r0.length := by rw [hpe] at w1; simp only at w1; omega
        have htx : spec_l20Text (patS (sp 10 t)) = some s := by
          obtain ⟨R, r1, r2, r3, r4⟩ := text_v hp
          have hR : R = (sp 10 t).map fun r => r.map dz := by
            have key : ∀ (A B : List (List Int)), A.flatten = B.flatten → (∀ r ∈ A, r.length = r0.length) → (∀ r ∈ B, r.length = r0.length) → A = B := by
              intro A
              induction A with
              | nil =>
                intro B h _ hB
                cases B with
                | nil => rfl
                | cons b B =>
                  have h5 := congrArg List.length h
                  have hb := hB b (List.mem_cons_self ..)
                  rw [List.flatten_cons, List.length_append] at h5
                  have h6 : ([] : List (List Int)).flatten.length = 0 := rfl
                  omega
              | cons a A ih =>
                intro B h hA hB
                cases B with
                | nil =>
                  have h5 := congrArg List.length h
                  have ha := hA a (List.mem_cons_self ..)
                  rw [List.flatten_cons, List.length_append] at h5
                  have h6 : ([] : List (List Int)).flatten.length = 0 := rfl
                  omega
                | cons b B =>
                  have ha := hA a (List.mem_cons_self ..)
                  have hb := hB b (List.mem_cons_self ..)
                  rw [List.flatten_cons, List.flatten_cons] at h
                  obtain ⟨e1, e2⟩ := List.append_inj h (by omega)
                  rw [e1, ih B e2 (fun r hr => hA r (List.mem_cons_of_mem _ hr)) fun r hr => hB r (List.mem_cons_of_mem _ hr)]
            refine key _ _ (by rw [r4, hpe]) (fun r hr => ?_) fun r hr => ?_
            · have := r3 r hr
              rw [hpe] at this
              simp only at this
              omega
            · obtain ⟨q, hq, rfl⟩ := List.mem_map.1 hr
              rw [List.length_map]; exact hlen q hq
          rw [r1, hR, List.map_map]
          congr 1
          have e : (sp 10 t).map ((fun r => r.map bz) ∘ fun r => r.map dz) = sp 10 t := by
            conv => rhs; rw [← List.map_id (sp 10 t)]
            refine List.map_congr_left fun r _ => ?_
            show (r.map dz).map bz = r
            rw [List.map_map]
            conv => rhs; rw [← List.map_id r]
            exact List.map_congr_left fun b _ => bz_dz b
          rw [e, sp_join, hst]
        rw [htx] at hS
        simp only [Option.bind_some, if_true] at hS
        obtain ⟨_, _, hl2, _⟩ := isPatch_iff.1 hp
        refine ⟨_, hS, hI, ?_⟩
        have hb := sp_bytes 10 t
        show ((sp 10 t).flatten.map dz).length ≤ _
        rw [List.length_map]; omega
      · rw [if_neg fun h => hp h.2.2] at hI
        rw [if_neg hp] at hS
        exact ⟨_, hS, hI, zero⟩
    · rw [if_neg fun h => hg h.1] at hI
      by_cases hp : isPatch (patS (sp 10 t)) = true
      · rw [if_pos hp] at hS
        obtain ⟨R, r1, _⟩ := text_v hp
        rw [r1] at hS
        simp only [Option.bind_some] at hS
        rw [if_neg fun e => hg ?_] at hS
        · exact ⟨_, hS, hI, zero⟩
        · rw [e] at r1
          obtain ⟨D, d1, d2, d3⟩ := good_of hp r1
          have h1 := sp_lines 10 D (no_line fun r hr => (d2 r hr).2)
          rw [← d3, hspl] at h1
          have h2 := (List.append_inj' h1 rfl).1
          rw [h2]
          refine List.all_eq_true.2 fun r hr => ?_
          have hr0 : r0 ∈ D := by rw [← h2, hL]; exact List.mem_cons_self ..
          unfold goodR
          rw [(d2 r hr).2, decide_eq_true (by have a := (d2 r hr).1; have b := (d2 r0 hr0).1; omega)]
          rfl
      · rw [if_neg hp] at hS
        exact ⟨_, hS, hI, zero⟩
  · obtain ⟨r0, L', hL⟩ := sp_ne 10 s
    obtain ⟨L, z, hLz⟩ : ∃ L z, sp 10 s = L ++ [z] := by
      refine ⟨(sp 10 s).dropLast, (sp 10 s).getLast (by rw [hL]; simp), (List.dropLast_concat_getLast _).symm⟩
    have hS := spec_parse_v s hn L z hLz
    have hI := impl_parse_v s hn s false hc hn r0 L' hL
    rw [if_neg fun h => by cases h.2.1] at hI
    by_cases hp : isPatch (patS L) = true
    · rw [if_pos hp] at hS
      obtain ⟨R, r1, _⟩ := text_v hp
      rw [r1] at hS
      simp only [Option.bind_some] at hS
      rw [if_neg fun e => ?_] at hS
      · exact ⟨_, hS, hI, zero⟩
      · rw [e] at r1
        obtain ⟨D, d1, d2, d3⟩ := good_of hp r1
        obtain ⟨D', q, hD⟩ : ∃ D' q, D = D' ++ [q] := ⟨D.dropLast, D.getLast d1, (List.dropLast_concat_getLast _).symm⟩
        refine hno (D'.flatMap (fun r => r ++ [10]) ++ q) ?_
        rw [d3, hD, List.flatMap_append]
        simp
    · rw [if_neg hp] at hS
      exact ⟨_, hS, hI, zero⟩
end Go.Proofs.YtopigbmamejklaaGreatDoor
