/-
  Plain meanings: increasing lists of vectors as sets, maps as sets.
-/
import Derived.Test.YtpboclokodgnlaaGreatP15
import Derived.Test.YtpboclokodgnlaaGreatPMem
namespace Go.Proofs.YtpboclokodgnlaaGreat
open Pre Ai
set_option linter.unusedSimpArgs false
set_option linter.unusedVariables false
/-! ### Increasing lists -/
def Inc (xs : List V) : Prop := xs.Pairwise fun a b => vless a b = true
theorem vless_irr (v : V) : vless v v = false := by simp [vless]
theorem vless_trans {u v w : V} (h1 : vless u v = true) (h2 : vless v w = true) : vless u w = true := by
  simp only [vless, Bool.or_eq_true, Bool.and_eq_true, decide_eq_true_eq] at *
  omega
theorem vless_tot {u v : V} (h1 : vless u v = false) (h2 : vless v u = false) : u = v := by
  simp only [vless, Bool.or_eq_false_iff, Bool.and_eq_false_iff, decide_eq_false_iff_not] at *
  apply Prod.ext <;> omega
theorem Inc.nodup {xs : List V} (h : Inc xs) : xs.Nodup := by
  refine List.Pairwise.imp ?_ h
  rintro a b hab rfl
  rw [vless_irr] at hab; cases hab
theorem inc_ext : ∀ {xs ys : List V}, Inc xs → Inc ys → (∀ v, v ∈ xs ↔ v ∈ ys) → xs = ys
  | [], [], _, _, _ => rfl
  | [], y :: s, _, _, h => by have := (h y).2 (List.mem_cons_self ..); simp at this
  | x :: r, [], _, _, h => by have := (h x).1 (List.mem_cons_self ..); simp at this
  | x :: r, y :: s, hx, hy, h => by
    obtain ⟨h1, h2⟩ := List.pairwise_cons.1 hx
    obtain ⟨h3, h4⟩ := List.pairwise_cons.1 hy
    have e : x = y := by
      rcases List.mem_cons.1 ((h x).1 (List.mem_cons_self ..)) with e | hm
      · exact e
      · rcases List.mem_cons.1 ((h y).2 (List.mem_cons_self ..)) with e | hn
        · exact e.symm
        · have a := h3 x hm
          have b := h1 y hn
          have := vless_trans a b
          rw [vless_irr] at this; cases this
    subst e
    rw [inc_ext h2 h4 fun v => ?_]
    constructor
    · intro hv
      rcases List.mem_cons.1 ((h v).1 (List.mem_cons_of_mem _ hv)) with e | hm
      · subst e
        have := h1 v hv
        rw [vless_irr] at this; cases this
      · exact hm
    · intro hv
      rcases List.mem_cons.1 ((h v).2 (List.mem_cons_of_mem _ hv)) with e | hm
      · subst e
        have := h3 v hv
        rw [vless_irr] at this; cases this
      · exact hm
def insV (v : V) : List V → List V
  | [] => [v]
  | x :: r => if vless x v = true then x :: insV v r else if x = v then x :: r else v :: x :: r
theorem mem_insV {v w : V} : ∀ {xs : List V}, w ∈ insV v xs ↔ w = v ∨ w ∈ xs
  | [] => by simp [insV]
  | x :: r => by
    unfold insV
    split
    · rw [List.mem_cons, mem_insV, List.mem_cons]
      constructor
      · rintro (h | h | h)
        · exact .inr (.inl h)
        · exact .inl h
        · exact .inr (.inr h)
      · rintro (h | h | h)
        · exact .inr (.inl h)
        · exact .inl h
        · exact .inr (.inr h)
    · split
      · rename_i e
        subst e
        simp
      · simp
theorem insV_inc {v : V} : ∀ {xs : List V}, Inc xs → Inc (insV v xs)
  | [], _ => List.pairwise_singleton ..
  | x :: r, h => by
    obtain ⟨h1, h2⟩ := List.pairwise_cons.1 h
    unfold insV
    split
    · rename_i hl
      refine List.pairwise_cons.2 ⟨fun y hy => ?_, insV_inc h2⟩
      rcases mem_insV.1 hy with rfl | hy
      · exact hl
      · exact h1 y hy
    · rename_i hl
      split
      · exact h
      · rename_i hne
        have hvx : vless v x = true := by
          cases hc : vless v x with
          | true => rfl
          | false => exact (hne (vless_tot (by simpa using hl) hc)).elim
        refine List.pairwise_cons.2 ⟨fun y hy => ?_, h⟩
        rcases List.mem_cons.1 hy with rfl | hy
        · exact hvx
        · exact vless_trans hvx (h1 y hy)
theorem insV_len (v : V) : ∀ (xs : List V), (insV v xs).length ≤ xs.length + 1
  | [] => by simp [insV]
  | x :: r => by
    unfold insV
    have := insV_len v r
    split
    · simp; omega
    · split <;> simp
theorem insV_split (v : V) : ∀ xs : List V, insV v xs = xs.takeWhile (fun x => vless x v) ++ (match xs.dropWhile (fun x => vless x v) with | [] => [v] | x :: r => if x = v then x :: r else v :: x :: r)
  | [] => rfl
  | x :: r => by
    unfold insV
    by_cases h : vless x v = true
    · rw [if_pos h, List.takeWhile_cons_of_pos (p := fun x => vless x v) h, List.dropWhile_cons_of_pos (p := fun x => vless x v) h, insV_split v r]; rfl
    · rw [if_neg h, List.takeWhile_cons_of_neg (p := fun x => vless x v) h, List.dropWhile_cons_of_neg (p := fun x => vless x v) h]
      rfl
theorem tw_len (p : V → Bool) (xs : List V) : (xs.takeWhile p).length ≤ xs.length := List.Sublist.length_le (List.takeWhile_sublist p)
theorem tw_take (p : V → Bool) : ∀ xs : List V, xs.take (xs.takeWhile p).length = xs.takeWhile p ∧ xs.drop (xs.takeWhile p).length = xs.dropWhile p
  | [] => ⟨rfl, rfl⟩
  | x :: r => by
    obtain ⟨h1, h2⟩ := tw_take p r
    by_cases h : p x = true
    · rw [List.takeWhile_cons_of_pos h, List.dropWhile_cons_of_pos h, List.length_cons, List.take_succ_cons, List.drop_succ_cons, h1, h2]
      exact ⟨rfl, rfl⟩
    · rw [List.takeWhile_cons_of_neg h, List.dropWhile_cons_of_neg h]
      exact ⟨rfl, rfl⟩
/-! ### As many -/
theorem nodup_le {α : Type} [DecidableEq α] : ∀ (xs ys : List α), xs.Nodup → (∀ x ∈ xs, x ∈ ys) → xs.length ≤ ys.length
  | [], _, _, _ => Nat.zero_le _
  | x :: r, ys, hn, hs => by
    obtain ⟨h1, h2⟩ := List.nodup_cons.1 hn
    have hx : x ∈ ys := hs x (List.mem_cons_self ..)
    have := nodup_le r (ys.erase x) h2 fun y hy => (List.mem_erase_of_ne (by rintro rfl; exact h1 hy)).2 (hs y (List.mem_cons_of_mem _ hy))
    rw [List.length_erase_of_mem hx] at this
    have hp : 0 < ys.length := List.length_pos_of_mem hx
    simp only [List.length_cons]
    omega
theorem nodup_eq {α : Type} [DecidableEq α] {xs ys : List α} (h1 : xs.Nodup) (h2 : ys.Nodup) (h : ∀ x, x ∈ xs ↔ x ∈ ys) : xs.length = ys.length :=
  Nat.le_antisymm (nodup_le _ _ h1 fun x hx => (h x).1 hx) (nodup_le _ _ h2 fun x hx => (h x).2 hx)
/-! ### Maps as sets -/
abbrev cV : Cd := .pair (.i .i64) (.i .i64)
theorem mset_keys {kc vc : Cd} (k : El kc) (v : El vc) : ∀ (es : List (El kc × El vc)) (a : El kc), a ∈ (mset kc vc k v es).map (·.1) ↔ a = k ∨ a ∈ es.map (·.1)
  | [], a => by simp [mset]
  | e :: r, a => by
    unfold mset
    cases hb : eqEl kc k e.1 with
    | true =>
      have := eqEl_iff.1 hb
      simp only [cond_true, List.map_cons, List.mem_cons]
      rw [← this]
      constructor
      · rintro (h | h)
        · exact .inl h
        · exact .inr (.inr h)
      · rintro (h | h | h)
        · exact .inl h
        · exact .inl h
        · exact .inr h
    | false =>
      simp only [cond_false, List.map_cons, List.mem_cons]
      rw [mset_keys k v r a]
      constructor
      · rintro (h | h | h)
        · exact .inr (.inl h)
        · exact .inl h
        · exact .inr (.inr h)
      · rintro (h | h | h)
        · exact .inr (.inl h)
        · exact .inl h
        · exact .inr (.inr h)
theorem mset_nodup {kc vc : Cd} (k : El kc) (v : El vc) : ∀ (es : List (El kc × El vc)), (es.map (·.1)).Nodup → ((mset kc vc k v es).map (·.1)).Nodup
  | [], _ => by simp [mset]
  | e :: r, h => by
    unfold mset
    simp only [List.map_cons] at h
    obtain ⟨h1, h2⟩ := List.nodup_cons.1 h
    cases hb : eqEl kc k e.1 with
    | true =>
      have := eqEl_iff.1 hb
      simp only [cond_true, List.map_cons]
      rw [this]
      exact List.nodup_cons.2 ⟨h1, h2⟩
    | false =>
      simp only [cond_false, List.map_cons]
      refine List.nodup_cons.2 ⟨fun hm => ?_, mset_nodup k v r h2⟩
      rcases (mset_keys k v r e.1).1 hm with e1 | hm
      · rw [eqEl_iff.2 e1.symm] at hb; cases hb
      · exact h1 hm
theorem mset_len {kc vc : Cd} (k : El kc) (v : El vc) : ∀ (es : List (El kc × El vc)), (mset kc vc k v es).length ≤ es.length + 1
  | [] => by simp [mset]
  | e :: r => by
    unfold mset
    have := mset_len k v r
    cases eqEl kc k e.1
    · simp; omega
    · simp
/-! ### The cells that a tile covers -/
def coverL (l : Lat) (xs : List V) : List V := xs.foldl (fun s v => insV (red l v) s) []
def coverM (l : Lat) (xs : List V) : List (El cV × El .bool) := xs.foldl (fun s v => mset cV .bool (red l v) true s) []
theorem coverL_ok (l : Lat) : ∀ (xs : List V) (s : List V), Inc s → Inc (xs.foldl (fun s v => insV (red l v) s) s) ∧ ∀ w, w ∈ xs.foldl (fun s v => insV (red l v) s) s ↔ w ∈ s ∨ ∃ v ∈ xs, w = red l v
  | [], s, h => ⟨h, fun w => by simp⟩
  | x :: r, s, h => by
    obtain ⟨h1, h2⟩ := coverL_ok l r (insV (red l x) s) (insV_inc h)
    refine ⟨h1, fun w => ?_⟩
    rw [List.foldl_cons, h2 w, mem_insV]
    constructor
    · rintro ((h | h) | ⟨v, hv, h⟩)
      · exact .inr ⟨x, List.mem_cons_self .., h⟩
      · exact .inl h
      · exact .inr ⟨v, List.mem_cons_of_mem _ hv, h⟩
    · rintro (h | ⟨v, hv, h⟩)
      · exact .inl (.inr h)
      · rcases List.mem_cons.1 hv with rfl | hv
        · exact .inl (.inl h)
        · exact .inr ⟨v, hv, h⟩
theorem coverM_ok (l : Lat) : ∀ (xs : List V) (s : List (El cV × El .bool)), (s.map (·.1)).Nodup → ((xs.foldl (fun s v => mset cV .bool (red l v) true s) s).map (·.1)).Nodup ∧ ∀ w, w ∈ (xs.foldl (fun s v => mset cV .bool (red l v) true s) s).map (·.1) ↔ w ∈ s.map (·.1) ∨ ∃ v ∈ xs, w = red l v
  | [], s, h => ⟨h, fun w => by simp⟩
  | x :: r, s, h => by
    obtain ⟨h1, h2⟩ := coverM_ok l r (mset cV .bool (red l x) true s) (mset_nodup _ _ _ h)
    refine ⟨h1, fun w => ?_⟩
    rw [List.foldl_cons, h2 w, mset_keys]
    constructor
    · rintro ((h | h) | ⟨v, hv, h⟩)
      · exact .inr ⟨x, List.mem_cons_self .., h⟩
      · exact .inl h
      · exact .inr ⟨v, List.mem_cons_of_mem _ hv, h⟩
    · rintro (h | ⟨v, hv, h⟩)
      · exact .inl (.inr h)
      · rcases List.mem_cons.1 hv with rfl | hv
        · exact .inl (.inl h)
        · exact .inr ⟨v, hv, h⟩
theorem cover_len (l : Lat) (xs : List V) : (coverM l xs).length = (coverL l xs).length := by
  obtain ⟨h1, h2⟩ := coverL_ok l xs [] List.Pairwise.nil
  obtain ⟨h3, h4⟩ := coverM_ok l xs [] (by simp)
  have := nodup_eq h3 h1.nodup fun w => by rw [h4 w, h2 w]; simp
  rw [List.length_map] at this
  exact this
theorem coverL_le (l : Lat) (xs : List V) : (coverL l xs).length ≤ xs.length := by
  have key : ∀ (xs : List V) (s : List V), (xs.foldl (fun s v => insV (red l v) s) s).length ≤ s.length + xs.length := by
    intro xs
    induction xs with
    | nil => intro s; simp
    | cons x r ih =>
      intro s
      rw [List.foldl_cons, List.length_cons]
      have h1 := ih (insV (red l x) s)
      have h2 := insV_len (red l x) s
      omega
  have := key xs []
  unfold coverL
  simpa using this
def tilesB (xs : List V) (l : Lat) : Bool := decide ((coverL l xs).length = xs.length) && decide ((xs.length : Int) = l.1 * l.2.2)
end Go.Proofs.YtpboclokodgnlaaGreat
