/-
  Plain meanings: a vector in a list; connected tiles; shifted tiles.
-/
import Derived.Test.YtclcjpkknjiokaaP2
namespace Go.Proofs.Ytclcjpkknjiokaa
open Ai
set_option linter.unusedSimpArgs false
set_option linter.unusedVariables false
set_option linter.unnecessarySimpa false

theorem nodup_len {α : Type} [DecidableEq α] : ∀ (s t : List α), s.Nodup → (∀ v ∈ s, v ∈ t) → s.length ≤ t.length
  | [], t, _, _ => by simp
  | a :: s, t, hn, hs => by
    rw [List.nodup_cons] at hn
    have ha : a ∈ t := hs a (List.mem_cons_self ..)
    have := nodup_len s (t.erase a) hn.2 fun v hv => (List.mem_erase_of_ne (fun e : v = a => hn.1 (by rw [← e]; exact hv))).2 (hs v (List.mem_cons_of_mem _ hv))
    rw [List.length_erase_of_mem ha] at this
    have : 0 < t.length := List.length_pos_of_mem ha
    simp only [List.length_cons]
    omega

theorem vec_beq (u : V) (a b : Int) : (decide (u.1 = a) && (decide (u.2 = b) && true)) = decide (u = (a, b)) := by
  obtain ⟨x, y⟩ := u
  rw [Bool.and_true]
  by_cases h1 : x = a <;> by_cases h2 : y = b <;> simp [h1, h2]

theorem vec_beq' (u : V) (a b : Int) : (decide (a = u.1) && (decide (b = u.2) && true)) = decide (u = (a, b)) := by
  obtain ⟨x, y⟩ := u
  rw [Bool.and_true]
  by_cases h1 : x = a <;> by_cases h2 : y = b <;> simp [h1, h2, eq_comm]

theorem mem_any (xs : List V) (v : V) : xs.any (fun x => decide (x = v)) = decide (v ∈ xs) := by
  rw [Bool.eq_iff_iff]
  simp

theorem spec_l01HasVec_v (xs : List V) (v : V) (h : xs.length ≤ MAXN) : spec_l01HasVec xs v = some (decide (v ∈ xs)) := by
  rw [spec_l01HasVec_eq]
  have := find_loop (L := fun k => spec_l01HasVec_l0 xs k v.1 v.2) (xs := xs) (p := fun x => decide (x = v)) (good := .inl ()) (bad := fun _ => .inr true) h (fun k hk => by
    show spec_l01HasVec_l0 xs k v.1 v.2 = _
    rw [spec_l01HasVec_l0_eq, decide_eq_true (by omega), rd_lt hk]
    simp only [cond_true, Option.bind_some, Option.bind_fun_some]
    rw [vec_beq]
    cases decide (xs[k] = (v.1, v.2)) <;> rfl) (by
    show spec_l01HasVec_l0 xs _ v.1 v.2 = _
    rw [spec_l01HasVec_l0_eq, decide_eq_false (by omega)]; rfl)
  rw [this]
  rw [← mem_any]
  cases hq : xs.findIdx? (fun x => decide (x = v)) with
  | none => rw [findIdx_none] at hq; rw [hq]; rfl
  | some i =>
    have : xs.any (fun x => decide (x = v)) = true := by
      cases hany : xs.any (fun x => decide (x = v)) with
      | true => rfl
      | false => rw [← findIdx_none, hq] at hany; cases hany
    rw [this]; rfl

theorem slices_Contains_SVec_Vec_v (xs : List V) (v : V) (h : xs.length ≤ MAXN) : slices_Contains_SVec_Vec xs v = some (decide (v ∈ xs)) := by
  rw [slices_Contains_SVec_Vec_eq, slices_Index_SVec_Vec_eq]
  have := find_loop (L := fun k => slices_Index_SVec_Vec_l0 xs (xs.length : Int) k v.1 v.2) (xs := xs) (p := fun x => decide (x = v)) (good := .inl ()) (bad := fun i => .inr (i : Int)) h (fun k hk => by
    show slices_Index_SVec_Vec_l0 xs _ k v.1 v.2 = _
    rw [slices_Index_SVec_Vec_l0_eq, decide_eq_true (by omega), rd_lt hk]
    simp only [cond_true, Option.bind_some, Option.bind_fun_some]
    rw [vec_beq']
    cases decide (xs[k] = (v.1, v.2)) <;> rfl) (by
    show slices_Index_SVec_Vec_l0 xs _ _ v.1 v.2 = _
    rw [slices_Index_SVec_Vec_l0_eq, decide_eq_false (by omega)]; rfl)
  rw [this]
  rw [← mem_any]
  cases hq : xs.findIdx? (fun x => decide (x = v)) with
  | none => rw [findIdx_none] at hq; rw [hq]; rfl
  | some i =>
    have : xs.any (fun x => decide (x = v)) = true := by
      cases hany : xs.any (fun x => decide (x = v)) with
      | true => rfl
      | false => rw [← findIdx_none, hq] at hany; cases hany
    rw [this]
    simp only [Option.bind_some]
    rw [decide_eq_true (by omega)]; rfl

/-! ### Connected tiles -/

def wadd (u v : V) : V := (IntKind.i64.wrap (u.1 + v.1), IntKind.i64.wrap (u.2 + v.2))
def steps4 : List V := [(1, 0), (0, 1), (-1, 0), (0, -1)]
def bstep (tile s : List V) (v : V) : List V := if v ∈ tile then (if v ∈ s then s else s ++ [v]) else s

theorem spec_l01Add_v (u v : V) : spec_l01Add u v = some (wadd u v) := spec_l01Add_eq u v
theorem impl_Vec_add_v (u v : V) : impl_Vec_add u v = some (wadd u v) := impl_Vec_add_eq u v

theorem impl_neighbours_v (u : V) : impl_neighbours u = some (steps4.map (wadd u)) := by
  rw [impl_neighbours_eq]
  simp only [impl_Vec_add_v, Option.bind_some]
  rfl

theorem bstep_cases (tile s : List V) (v : V) : bstep tile s v = s ∨ (v ∈ tile ∧ v ∉ s ∧ bstep tile s v = s ++ [v]) := by
  unfold bstep
  by_cases h1 : v ∈ tile <;> by_cases h2 : v ∈ s <;> simp [h1, h2]

/-- Nothing twice, and all in the tile. -/
def Reach4 (tile s : List V) : Prop := s.Nodup ∧ ∀ v ∈ s, v ∈ tile

theorem Reach4.step {tile s : List V} (h : Reach4 tile s) (v : V) : Reach4 tile (bstep tile s v) := by
  rcases bstep_cases tile s v with e | ⟨h1, h2, e⟩
  · rw [e]; exact h
  · rw [e]
    refine ⟨List.nodup_append.2 ⟨h.1, by simp, fun a ha b hb => ?_⟩, fun u hu => ?_⟩
    · simp at hb; subst hb; rintro rfl; exact h2 ha
    · rcases List.mem_append.1 hu with hu | hu
      · exact h.2 u hu
      · simp at hu; subst hu; exact h1

theorem Reach4.len {tile s : List V} (h : Reach4 tile s) : s.length ≤ tile.length := nodup_len s tile h.1 h.2

theorem bstep_get {tile s : List V} {v : V} {k : Nat} (h : k < s.length) : (bstep tile s v).getD k (dflt (.pair (.i .i64) (.i .i64))) = s.getD k (dflt (.pair (.i .i64) (.i .i64))) ∧ k < (bstep tile s v).length := by
  rcases bstep_cases tile s v with e | ⟨_, _, e⟩
  · rw [e]; exact ⟨rfl, h⟩
  · rw [e]
    refine ⟨?_, by simp; omega⟩
    rw [List.getD_eq_getElem?_getD, List.getD_eq_getElem?_getD, List.getElem?_append_left h]

theorem spec_inner {tile : List V} (ht : tile.length ≤ 1048576) {at_ : Nat} {u : V} : ∀ (m k : Nat) (s : List V), k + m = 4 → Reach4 tile s → at_ < s.length → s.getD at_ (dflt (.pair (.i .i64) (.i .i64))) = u →
    spec_l21Connected_l1 tile s steps4 (at_ : Int) (k : Int) = some (tile, ((steps4.drop k).map (wadd u)).foldl (bstep tile) s, steps4, (at_ : Int)) ∧ Reach4 tile (((steps4.drop k).map (wadd u)).foldl (bstep tile) s)
  | 0, k, s, hk, hr, ha, hu => by
    have : k = 4 := by omega
    subst this
    rw [spec_l21Connected_l1_eq]
    exact ⟨rfl, hr⟩
  | m + 1, k, s, hk, hr, ha, hu => by
    have h4 : k < steps4.length := by show k < 4; omega
    have hd : steps4.drop k = steps4[k] :: steps4.drop (k + 1) := List.drop_eq_getElem_cons h4
    have hg : steps4.getD k (dflt (.pair (.i .i64) (.i .i64))) = steps4[k] := by rw [List.getD_eq_getElem?_getD, List.getElem?_eq_getElem h4]; rfl
    rw [spec_l21Connected_l1_eq, decide_eq_true (by omega), decide_eq_true (by omega), decide_eq_true (by omega), decide_eq_true (by omega), decide_eq_true (by omega)]
    simp only [Bool.and_true, cond_true, Int.toNat_natCast, hu, hg, spec_l01Add_v, Option.bind_some, Option.bind_fun_some]
    have hlen := hr.len
    rw [spec_l01HasVec_v _ _ (show tile.length ≤ MAXN by unfold MAXN; omega), spec_l01HasVec_v _ _ (show s.length ≤ MAXN by unfold MAXN; omega)]
    simp only [Option.bind_some]
    have hn : IntKind.i64.wrap ((k : Int) + 1) = ((k + 1 : Nat) : Int) := by rw [w64 (by omega) (by omega)]; omega
    rw [hn, hd, List.map_cons, List.foldl_cons]
    obtain ⟨g1, g2⟩ := bstep_get (tile := tile) (v := wadd u steps4[k]) ha
    have ih := spec_inner ht m (k + 1) (bstep tile s (wadd u steps4[k])) (by omega) (hr.step _) g2 (by rw [g1, hu])
    unfold bstep at ih ⊢
    by_cases h1 : wadd u steps4[k] ∈ tile
    · by_cases h2 : wadd u steps4[k] ∈ s
      · simp only [h1, h2, decide_true, cond_true, if_true] at ih ⊢
        exact ih
      · simp only [h1, h2, decide_true, decide_false, cond_true, cond_false, if_true, if_false] at ih ⊢
        rw [decide_eq_true (by unfold LIM; simp; omega)]
        exact ih
    · simp only [h1, decide_false, cond_false, if_false] at ih ⊢
      exact ih

theorem impl_inner {tile : List V} (ht : tile.length ≤ 1048576) {at_ : Nat} : ∀ (ns : List V) (m k : Nat) (s : List V), k + m = ns.length → ns.length ≤ 4 → Reach4 tile s →
    impl_isConnected_l1 tile s (at_ : Int) ns (ns.length : Int) (k : Int) = some (tile, (ns.drop k).foldl (bstep tile) s, (at_ : Int)) ∧ Reach4 tile ((ns.drop k).foldl (bstep tile) s)
  | ns, 0, k, s, hk, h4, hr => by
    have : k = ns.length := by omega
    subst this
    rw [impl_isConnected_l1_eq, decide_eq_false (by omega), List.drop_eq_nil_of_le (Nat.le_refl _)]
    exact ⟨rfl, hr⟩
  | ns, m + 1, k, s, hk, h4, hr => by
    have hkl : k < ns.length := by omega
    have hd : ns.drop k = ns[k] :: ns.drop (k + 1) := List.drop_eq_getElem_cons hkl
    have hg : ns.getD k (dflt (.pair (.i .i64) (.i .i64))) = ns[k] := by rw [List.getD_eq_getElem?_getD, List.getElem?_eq_getElem hkl]; rfl
    rw [impl_isConnected_l1_eq, decide_eq_true (by omega), decide_eq_true (by omega)]
    simp only [Bool.and_true, cond_true, Int.toNat_natCast, hg, Option.bind_some, Option.bind_fun_some]
    have hlen := hr.len
    rw [slices_Contains_SVec_Vec_v _ _ (show tile.length ≤ MAXN by unfold MAXN; omega), slices_Contains_SVec_Vec_v _ _ (show s.length ≤ MAXN by unfold MAXN; omega)]
    simp only [Option.bind_some]
    have hn : IntKind.i64.wrap ((k : Int) + 1) = ((k + 1 : Nat) : Int) := by rw [w64 (by omega) (by omega)]; omega
    rw [hn, hd, List.foldl_cons]
    have ih := impl_inner ht (at_ := at_) ns m (k + 1) (bstep tile s ns[k]) (by omega) h4 (hr.step _)
    unfold bstep at ih ⊢
    by_cases h1 : ns[k] ∈ tile
    · by_cases h2 : ns[k] ∈ s
      · simp only [h1, h2, decide_true, cond_true, if_true] at ih ⊢
        exact ih
      · simp only [h1, h2, decide_true, decide_false, cond_true, cond_false, if_true, if_false] at ih ⊢
        rw [decide_eq_true (by unfold LIM; simp; omega)]
        exact ih
    · simp only [h1, decide_false, cond_false, if_false] at ih ⊢
      exact ih

theorem both_outer {tile : List V} (ht : tile.length ≤ 1048576) : ∀ (m at_ : Nat) (s : List V), tile.length - at_ ≤ m → Reach4 tile s →
    ∃ s', spec_l21Connected_l0 tile s steps4 (at_ : Int) = some (tile, s') ∧ impl_isConnected_l0 tile s (at_ : Int) = some (tile, s')
  | m, at_, s, hm, hr => by
    have hlen := hr.len
    rw [spec_l21Connected_l0_eq, impl_isConnected_l0_eq]
    by_cases ha : at_ < s.length
    · cases m with
      | zero => omega
      | succ m =>
        rw [decide_eq_true (by omega), decide_eq_true (by omega)]
        simp only [Bool.and_true, cond_true, Int.toNat_natCast, impl_neighbours_v, Option.bind_some, Option.bind_fun_some]
        obtain ⟨e1, r1⟩ := spec_inner ht (at_ := at_) 4 0 s rfl hr ha rfl
        obtain ⟨e2, _⟩ := impl_inner ht (at_ := at_) (steps4.map (wadd (s.getD at_ (dflt (.pair (.i .i64) (.i .i64)))))) 4 0 s (by simp [steps4]) (by simp [steps4]) hr
        rw [show ((0 : Nat) : Int) = 0 from rfl] at e1 e2
        rw [e1, e2]
        simp only [Option.bind_some, List.drop_zero]
        have hn : IntKind.i64.wrap ((at_ : Int) + 1) = ((at_ + 1 : Nat) : Int) := by rw [w64 (by omega) (by omega)]; omega
        rw [hn]
        exact both_outer ht m (at_ + 1) _ (by omega) r1
    · rw [decide_eq_false (by omega)]
      exact ⟨s, rfl, rfl⟩

theorem Connected_agree (tile : List V) (h : tile.length ≤ 1048576) : ∃ r, spec_IsConnected tile = some r ∧ impl_IsConnected tile = some r := by
  rw [spec_IsConnected_eq, impl_IsConnected_eq, spec_IsTile_v tile (by omega), impl_IsTile_v tile (by omega)]
  simp only [Option.bind_some]
  cases ht : isTile tile
  · exact ⟨_, rfl, rfl⟩
  · have hpos : 0 < tile.length := by
      simp only [isTile, Bool.and_eq_true, decide_eq_true_eq] at ht; omega
    rw [spec_l21Connected_eq, impl_isConnected_eq, show (0 : Int) = ((0 : Nat) : Int) from rfl, rd_lt hpos, spec_l21Steps_eq]
    simp only [Option.bind_some, cond_true]
    obtain ⟨s, e1, e2⟩ := both_outer h tile.length 0 [tile[0]] (by omega) ⟨by simp, by simp⟩
    rw [show (((0 : Nat) : Int) = 0) from rfl] at e1 e2
    have e1' : spec_l21Connected_l0 tile [tile[0]] [(1, 0), (0, 1), (-1, 0), (0, -1)] 0 = some (tile, s) := e1
    rw [show (((0 : Nat) : Int) = 0) from rfl, e1', e2]
    simp only [Option.bind_some]
    cases decide ((s.length : Int) = (tile.length : Int)) <;> exact ⟨_, rfl, rfl⟩

/-! ### Shifted tiles -/

theorem spec_l21Shift_v (xs : List V) (v : V) (h : xs.length ≤ 1048576) : spec_l21Shift xs v = some (xs.map (wadd · v)) := by
  rw [spec_l21Shift_eq]
  obtain ⟨h1, _⟩ := each_loop (L := fun s k => spec_l21Shift_l0 xs s k v.1 v.2) (xs := xs) (f := fun s x => s ++ [wadd x v]) (I := fun k s => s.length = k) (leM h) (fun k hk s hs => by
    refine ⟨?_, by simp [hs]⟩
    show spec_l21Shift_l0 xs s k v.1 v.2 = _
    rw [spec_l21Shift_l0_eq, decide_eq_true (by omega), rd_lt hk]
    simp only [cond_true, Option.bind_some, spec_l01Add_v, Option.bind_fun_some]
    rw [decide_eq_true (by unfold LIM; simp; omega)]; rfl) [] rfl
  have h2 : spec_l21Shift_l0 xs [] 0 v.1 v.2 = _ := h1
  rw [h2, foldl_append]
  show Option.bind (spec_l21Shift_l0 xs _ (xs.length : Int) v.1 v.2) _ = _
  rw [spec_l21Shift_l0_eq, decide_eq_false (by omega)]
  simp

theorem impl_shiftTile_v (xs : List V) (v : V) (h : xs.length ≤ 1048576) : impl_shiftTile xs v = some (xs.map (wadd · v)) := by
  rw [impl_shiftTile_eq]
  obtain ⟨h1, _⟩ := each_loop (L := fun s k => impl_shiftTile_l0 s xs (xs.length : Int) k v.1 v.2) (xs := xs) (f := fun s x => s ++ [wadd x v]) (I := fun k s => s.length = k) (leM h) (fun k hk s hs => by
    refine ⟨?_, by simp [hs]⟩
    show impl_shiftTile_l0 s xs _ k v.1 v.2 = _
    rw [impl_shiftTile_l0_eq, decide_eq_true (by omega), rd_lt hk]
    simp only [cond_true, Option.bind_some, impl_Vec_add_v, Option.bind_fun_some]
    rw [decide_eq_true (by unfold LIM; simp; omega)]; rfl) [] rfl
  have h2 : impl_shiftTile_l0 [] xs (xs.length : Int) 0 v.1 v.2 = _ := h1
  rw [h2, foldl_append]
  show Option.bind (impl_shiftTile_l0 _ xs (xs.length : Int) (xs.length : Int) v.1 v.2) _ = _
  rw [impl_shiftTile_l0_eq, decide_eq_false (by omega)]
  simp

theorem spec_l21Result_v (xs : List V) (h : xs.length ≤ MAXN) : spec_l21Result_o xs = some (if isTile xs = true then (xs, 0) else ([], 3)) := by
  rw [spec_l21Result_o_eq, spec_IsTile_v xs h]
  cases isTile xs <;> rfl

theorem impl_limitedTile_v (xs : List V) (h : xs.length ≤ MAXN) : impl_limitedTile_o xs = some (if isTile xs = true then (xs, 0) else ([], 3)) := by
  rw [impl_limitedTile_o_eq, impl_IsTile_v xs h]
  cases isTile xs <;> rfl

theorem ShiftTile_agree (xs : List V) (v : V) (h : xs.length ≤ 1048576) : ∃ r, spec_ShiftTile xs v = some r ∧ impl_ShiftTile xs v = some r ∧ r.1.length ≤ 1048576 := by
  rw [spec_ShiftTile_eq, impl_ShiftTile_eq, spec_IsTile_v xs (by omega), impl_IsTile_v xs (by omega), spec_IsVec_v, impl_IsVec_v]
  simp only [Option.bind_some]
  cases isTile xs
  · exact ⟨_, rfl, rfl, by simp⟩
  · cases isVec v
    · exact ⟨_, rfl, rfl, by simp⟩
    · simp only [cond_true, spec_l21Shift_v xs v h, impl_shiftTile_v xs v h, Option.bind_some]
      rw [spec_l21Result_v _ (leM (by simpa using h)), impl_limitedTile_v _ (leM (by simpa using h))]
      refine ⟨_, rfl, rfl, ?_⟩
      split
      · simpa using h
      · simp

end Go.Proofs.Ytclcjpkknjiokaa
