/-
  A tile tiles by each lattice that is told and by no other one with the same index, and turned tiles have as many lattices.
-/
import Derived.Test.YtahlhacmikdimaaPT
import Derived.Test.YtahlhacmikdimaaPD
namespace Go.Proofs.Ytahlhacmikdimaa
open Ai
set_option linter.unusedSimpArgs false
set_option linter.unusedVariables false

theorem isTile_vec {xs : List V} (h : isTile xs = true) : (∀ v ∈ xs, isVec v = true) ∧ xs.length ≤ 16 ∧ 1 ≤ xs.length := by
  unfold isTile at h
  simp only [Bool.and_eq_true, decide_eq_true_eq, List.all_eq_true] at h
  exact ⟨h.1.1.1, h.2, h.1.2⟩

def tilesR (xs : List V) (l : Lat) : Bool × Int := if (isTile xs && isLat l) = true then (tilesB xs l, 0) else (false, 1)

theorem spec_TilesBy_v (xs : List V) (l : Lat) (h : xs.length ≤ MAXN) : spec_TilesBy xs l = some (tilesR xs l) := by
  rw [spec_TilesBy_eq, spec_IsTile_v xs h]
  unfold tilesR
  simp only [Option.bind_some, spec_IsLattice_v]
  cases ht : isTile xs
  · rfl
  · cases hl : isLat l
    · rfl
    · obtain ⟨h1, h2, _⟩ := isTile_vec ht
      simp only [cond_true, Bool.and_true, if_true, spec_l21Tiles_v xs l hl h1 (by omega), Option.bind_some]
      cases tilesB xs l <;> rfl

theorem impl_TilesBy_v (xs : List V) (l : Lat) (h : xs.length ≤ MAXN) : impl_TilesBy xs l = some (tilesR xs l) := by
  rw [impl_TilesBy_eq, impl_IsTile_v xs h]
  unfold tilesR
  simp only [Option.bind_some, impl_IsLattice_v]
  cases ht : isTile xs
  · rfl
  · cases hl : isLat l
    · rfl
    · obtain ⟨h1, h2, _⟩ := isTile_vec ht
      simp only [cond_true, Bool.and_true, if_true, impl_tilesBy_v xs l hl h1 (by omega), Option.bind_some]
      cases tilesB xs l <;> rfl

theorem impl_Tiling_1_v {t : List V} (ht : isTile t = true) {l : Lat} (hl : isLat l = true) : impl_TilingLattices_1 l t = some (!tilesB t l) := by
  obtain ⟨h1, h2, _⟩ := isTile_vec ht
  rw [impl_TilingLattices_1_eq, impl_tilesBy_v t l hl h1 (by omega)]
  simp only [Option.bind_some]
  cases tilesB t l <;> rfl

theorem impl_del_tiling {t : List V} (ht : isTile t = true) (xs : List Lat) (hx : ∀ l ∈ xs, isLat l = true) (hn : xs.length ≤ 100000) : slices_DeleteFunc_SLattice_Lattice_o__impl_TilingLattices_1 xs t = some (xs.filter (tilesB t)) := by
  have hidx : slices_IndexFunc_SLattice_Lattice__impl_TilingLattices_1 xs t = some (match xs.findIdx? (fun x => !tilesB t x) with | none => -1 | some i => (i : Int)) := by
    rw [slices_IndexFunc_SLattice_Lattice__impl_TilingLattices_1_eq]
    have := find_loop (L := fun k => slices_IndexFunc_SLattice_Lattice__impl_TilingLattices_1_l0 xs t (xs.length : Int) k) (xs := xs) (p := fun x => !tilesB t x) (good := .inl ()) (bad := fun i => .inr (i : Int)) (by unfold MAXN; omega) (fun k hk => by
      show slices_IndexFunc_SLattice_Lattice__impl_TilingLattices_1_l0 xs _ _ k = _
      rw [slices_IndexFunc_SLattice_Lattice__impl_TilingLattices_1_l0_eq, decide_eq_true (by omega), rd_lt hk]
      simp only [cond_true, Option.bind_some, Option.bind_fun_some]
      rw [impl_Tiling_1_v ht (hx _ (List.getElem_mem hk))]
      simp only [Option.bind_some]
      cases tilesB t xs[k] <;> rfl) (by
      show slices_IndexFunc_SLattice_Lattice__impl_TilingLattices_1_l0 xs _ _ _ = _
      rw [slices_IndexFunc_SLattice_Lattice__impl_TilingLattices_1_l0_eq, decide_eq_false (by omega)]; rfl)
    rw [this]
    cases xs.findIdx? (fun x => !tilesB t x) <;> rfl
  rw [slices_DeleteFunc_SLattice_Lattice_o__impl_TilingLattices_1_eq, hidx]
  cases hfi : xs.findIdx? (fun x => !tilesB t x) with
  | none =>
    simp only [Option.bind_some, decide_true, cond_true]
    congr 1
    symm
    rw [List.filter_eq_self]
    intro a ha
    rw [List.findIdx?_eq_none_iff] at hfi
    simpa using hfi a ha
  | some i =>
    obtain ⟨hi, hq⟩ := first_out xs (tilesB t) hfi
    simp only [Option.bind_some]
    rw [decide_eq_false (by omega), wN (by omega)]
    simp only [cond_false]
    obtain ⟨s', i', e1, e2, e3, e4⟩ := del_loop (L := fun s i j => slices_DeleteFunc_SLattice_Lattice_o__impl_TilingLattices_1_l0 s t i j) xs (tilesB t) (fun s i j hj hxj hsl hij he => by
      show slices_DeleteFunc_SLattice_Lattice_o__impl_TilingLattices_1_l0 s t (i : Int) (j : Int) = _
      have hq : impl_TilingLattices_1 (xs[j].1, xs[j].2) t = some (!tilesB t xs[j]) := impl_Tiling_1_v ht (hx _ (List.getElem_mem hxj))
      rw [slices_DeleteFunc_SLattice_Lattice_o__impl_TilingLattices_1_l0_eq, inb hj, decide_eq_true (by omega), gd hj, he]
      simp only [cond_true, Option.bind_fun_some]
      rw [hq, wN (by omega), wN (by omega), decide_eq_true (by omega), decide_eq_true (by omega)]
      simp only [Option.bind_some, Bool.and_true, cond_true, Int.toNat_natCast]
      cases tilesB t xs[j] <;> rfl) (xs.length - (i + 1)) (i + 1) xs i (by omega) rfl (by omega) rfl hq.symm
    have e1' : slices_DeleteFunc_SLattice_Lattice_o__impl_TilingLattices_1_l0 xs t (i : Int) ((i + 1 : Nat) : Int) = slices_DeleteFunc_SLattice_Lattice_o__impl_TilingLattices_1_l0 s' t (i' : Int) (xs.length : Int) := e1
    rw [e1', slices_DeleteFunc_SLattice_Lattice_o__impl_TilingLattices_1_l0_eq, decide_eq_false (by omega)]
    simp only [cond_false, Option.bind_some, Int.toNat_natCast]
    have hol : (overL s' (List.replicate (s'.length - i') ((0, 0, 0) : Int × Int × Int)) i').length = s'.length := by
      unfold overL
      simp
      omega
    rw [decide_eq_true (show (0 : Int) ≤ (i' : Int) by omega), decide_eq_true (show (i' : Int) ≤ (s'.length : Int) by omega), decide_eq_true (by rw [hol]; omega)]
    simp only [Bool.and_true, cond_true]
    rw [cut_over _ _ _ (by omega), e4]

def latsOf (t : List V) : List Lat := (subL t.length).filter (tilesB t)

theorem latsOf_len {t : List V} (ht : isTile t = true) : (latsOf t).length ≤ 4096 := by
  obtain ⟨_, h2, _⟩ := isTile_vec ht
  have h3 := subL_len (n := t.length) (by omega)
  have := List.length_filter_le (tilesB t) (subL t.length)
  unfold latsOf
  omega

theorem spec_l21Lattices_v {t : List V} (ht : isTile t = true) : spec_l21Lattices t = some (latsOf t) := by
  obtain ⟨h1, h2, h3⟩ := isTile_vec ht
  have hx := subL_lat (n := t.length) h3 (by omega)
  have hl := subL_len (n := t.length) (by omega)
  rw [spec_l21Lattices_eq, spec_SublatticesOf_v t.length h3 (by omega)]
  simp only [Option.bind_some]
  have key := loop_filter (L := fun s k => spec_l21Lattices_l0 t (subL t.length) s k) (subL t.length) (tilesB t) [] (fun k hk s hs => by
    show spec_l21Lattices_l0 t (subL t.length) s (k : Int) = _
    have hq : spec_l21Tiles t ((subL t.length)[k].1, (subL t.length)[k].2) = some (tilesB t (subL t.length)[k]) := spec_l21Tiles_v t _ (hx _ (List.getElem_mem hk)) h1 (by omega)
    rw [spec_l21Lattices_l0_eq, inb hk, decide_eq_true (by omega), gd hk, hq, wnext hk (by omega), decide_eq_true (by unfold LIM; simp only [List.length_nil, List.length_singleton] at hs ⊢; omega)]
    simp only [cond_true, Option.bind_some, Option.bind_fun_some]
    cases tilesB t (subL t.length)[k] <;> rfl)
  have key' : spec_l21Lattices_l0 t (subL t.length) [] 0 = spec_l21Lattices_l0 t (subL t.length) (latsOf t) ((subL t.length).length : Int) := key
  rw [key', spec_l21Lattices_l0_eq, decide_eq_false (by omega)]
  rfl

def tilingR (t : List V) : List Lat × Int := if isTile t = true then (latsOf t, 0) else ([], 1)

theorem spec_TilingLattices_v (t : List V) (h : t.length ≤ MAXN) : spec_TilingLattices t = some (tilingR t) := by
  rw [spec_TilingLattices_eq, spec_IsTile_v t h]
  unfold tilingR
  simp only [Option.bind_some]
  cases ht : isTile t
  · rfl
  · simp only [cond_true, if_true, spec_l21Lattices_v ht, Option.bind_some]

theorem impl_TilingLattices_v (t : List V) (h : t.length ≤ MAXN) : impl_TilingLattices t = some (tilingR t) := by
  rw [impl_TilingLattices_eq, impl_IsTile_v t h]
  unfold tilingR
  simp only [Option.bind_some]
  cases ht : isTile t
  · rfl
  · obtain ⟨h1, h2, h3⟩ := isTile_vec ht
    have hl := subL_len (n := t.length) (by omega)
    simp only [cond_true, if_true, impl_sublattices_v t.length h3 (by omega), Option.bind_some, impl_del_tiling ht _ (subL_lat (n := t.length) h3 (by omega)) (by omega)]
    rfl

theorem tilingR_len (t : List V) : (tilingR t).1.length ≤ 1048576 := by
  unfold tilingR
  cases ht : isTile t
  · simp
  · have := latsOf_len ht
    simp only [if_true]; omega

theorem code_bytes {x : List Int} (h : wfE (.list (.i .u8)) x) : ∀ c ∈ x, 0 ≤ c ∧ c ≤ 255 := fun c hc => by
  have h1 : (decide (IntKind.u8.min ≤ c) && decide (c ≤ IntKind.u8.max)) = true := h.2 c hc
  rw [Bool.and_eq_true, decide_eq_true_iff, decide_eq_true_iff, show IntKind.u8.min = 0 from rfl, show IntKind.u8.max = 255 from rfl] at h1
  exact h1

theorem tileOf_loop (n : Int) {steps : List V} (h4 : steps.length = 4) : ∀ (d k : Nat) (out : List V) (s : Src), k + d = 60 → SrcOk s → 1 ≤ out.length → out.length ≤ k + 1 →
    Ok1 (spec_l21DrawOf_l0 n out steps (k : Int) s.1 s.2.1 s.2.2) fun r => r.1.length ≤ 61 ∧ Sk s r.2
  | 0, k, out, s, hk, hs, h1, h2 => by
    rw [spec_l21DrawOf_l0_eq, decide_eq_false (by omega)]
    exact Ok1.some ⟨by show out.length ≤ 61; omega, Sk.refl hs⟩
  | d + 1, k, out, s, hk, hs, h1, h2 => by
    rw [spec_l21DrawOf_l0_eq, decide_eq_true (by omega), cond_true]
    refine Ok1.cond (fun _ => ?_) fun _ => Ok1.some ⟨by show out.length ≤ 61; omega, Sk.refl hs⟩
    have e1 : Ok1 (spec_l01Next (s.1, s.2.1, s.2.2) (out.length : Int)) fun y => Sk s y.2 ∧ 0 ≤ y.1 ∧ (1 ≤ (out.length : Int) → y.1 < (out.length : Int)) := next_d hs _ (by omega)
    refine e1.bind fun a ⟨ha, a1, a2⟩ => ?_
    rw [decide_eq_true a1, decide_eq_true (a2 (by omega))]
    simp only [Bool.and_self, cond_true]
    refine (next_d ha.1 4 (by omega)).bind fun b ⟨hb, b1, b2⟩ => ?_
    have := b2 (by omega)
    rw [decide_eq_true b1, decide_eq_true (show b.1 < (steps.length : Int) by omega), spec_l01Add_v]
    simp only [Bool.and_self, cond_true, Option.bind_some, spec_l01Insert_v out _ (show out.length ≤ 1000000 by omega), Option.bind_fun_some]
    rw [w64 (x := (k : Int) + 1) (by omega) (by omega)]
    generalize hw : wadd _ _ = w
    have hl := insV_len w out
    have hm := (mem_insV (v := w) (w := w) (xs := out)).2 (.inl rfl)
    exact (tileOf_loop n h4 d (k + 1) (insV w out) b.2 (by omega) hb.1 (List.length_pos_of_mem hm) (by omega)).mono fun r ⟨r1, r2⟩ => ⟨r1, ha.trans (hb.trans r2)⟩

theorem tileOf_d {s : Src} (h : SrcOk s) (n : Int) : Ok1 (spec_l21DrawOf s n) fun y => y.1.length ≤ 61 ∧ Sk s y.2 := by
  rw [spec_l21DrawOf_eq]
  refine (next_d h 7 (by omega)).bind fun a ⟨ha, _⟩ => (next_d ha.1 7 (by omega)).bind fun b ⟨hb, _⟩ => ?_
  rw [spec_l21Steps_eq]
  simp only [Option.bind_some]
  exact (tileOf_loop n (by rfl) 60 0 _ b.2 (by omega) hb.1 (by simp) (by simp)).bind fun r ⟨r1, r2⟩ => Ok1.some ⟨r1, ha.trans (hb.trans r2)⟩

theorem tile_d {s : Src} (h : SrcOk s) : Ok1 (spec_l21Draw s) fun y => y.1.length ≤ 100 ∧ Sk s y.2 := by
  rw [spec_l21Draw_eq]
  refine (next_d h 8 (by omega)).bind fun a ⟨ha, _⟩ => (tileOf_d ha.1 _).bind fun b ⟨b1, hb⟩ => (next_d hb.1 30 (by omega)).bind fun c ⟨hc, _⟩ => ?_
  have hs := ha.trans (hb.trans hc)
  refine Ok1.cond (fun _ => ?_) fun _ => Ok1.cond (fun _ => ?_) fun _ => Ok1.cond (fun _ => ?_) fun _ => Ok1.cond (fun _ => ?_) fun _ => Ok1.some ⟨by show b.1.length ≤ 100; omega, hs⟩
  · exact (draw_d hc.1).bind fun d hd => Ok1.chk (decide_eq_true (by unfold LIM; simp only [List.length_singleton]; omega)) (Ok1.some ⟨by simp only [List.length_append, List.length_singleton]; omega, hs.trans hd⟩)
  · refine (next_d hc.1 2 (by omega)).bind fun d ⟨hd, _⟩ => Ok1.cond (fun _ => Ok1.some ⟨by simp, hs.trans hd⟩) fun _ => (tileOf_d hd.1 20).bind fun e ⟨e1, he⟩ => Ok1.some ⟨by show e.1.length ≤ 100; omega, hs.trans (hd.trans he)⟩
  · refine (next_d hc.1 9 (by omega)).bind fun d ⟨hd, _⟩ => ?_
    rw [spec_l01Insert_v _ _ (show b.1.length ≤ 1000000 by omega)]
    exact Ok1.some ⟨by have := insV_len (9, d.1) b.1; show (insV (9, d.1) b.1).length ≤ 100; omega, hs.trans hd⟩
  · exact (next_d hc.1 5 (by omega)).bind fun d ⟨hd, _⟩ => (pick_d hd.1 _ (by decide) (by decide)).bind fun e ⟨he, _⟩ => Ok1.some ⟨by simp, hs.trans (hd.trans he)⟩

theorem drawTiling_d {x : List Int} (hb : ∀ c ∈ x, 0 ≤ c ∧ c ≤ 255) (hn : x.length ≤ 4096) : Ok1 (spec_DrawTilingLattices x) fun y => y.length ≤ 100 := by
  rw [spec_DrawTilingLattices_eq]
  exact (from_d hb hn).bind fun s hs => (tile_d hs).bind fun a ⟨a1, _⟩ => Ok1.some a1

theorem subL_pos {n : Nat} (h1 : 1 ≤ n) (h2 : n ≤ 64) : 1 ≤ (subL n).length := by
  have : (((1 : Int), (0 : Int), (n : Int)) : Lat) ∈ subL n := (mem_subL h1 h2).2 ⟨isLat_iff.2 ⟨by simp only; omega, by simp only; omega, by simp only; omega, by simp only; omega⟩, by simp only; omega⟩
  exact List.length_pos_of_mem this

theorem drawTilesBy_d {x : List Int} (hb : ∀ c ∈ x, 0 ≤ c ∧ c ≤ 255) (hn : x.length ≤ 4096) : Ok1 (spec_DrawTilesBy x) fun y => y.1.length ≤ 100 := by
  rw [spec_DrawTilesBy_eq]
  refine (from_d hb hn).bind fun s hs => (tile_d hs).bind fun a ⟨a1, ha⟩ => ?_
  rw [spec_IsTile_v a.1 (by omega)]
  simp only [Option.bind_some]
  refine Ok1.cond (fun ht => ?_) fun _ => (lat_d ha.1).bind fun b hb => Ok1.some a1
  obtain ⟨_, t1, t2⟩ := isTile_vec ht
  refine (next_d ha.1 3 (by omega)).bind fun b ⟨hb, _⟩ => Ok1.cond (fun _ => ?_) fun _ => (lat_d hb.1).bind fun c hc => Ok1.some a1
  rw [spec_SublatticesOf_v a.1.length t2 (by omega)]
  simp only [Option.bind_some]
  have h1 := subL_len (n := a.1.length) (by omega)
  have h2 := subL_pos t2 (show a.1.length ≤ 64 by omega)
  refine (next_d hb.1 _ (by omega)).bind fun c ⟨hc, c1, c2⟩ => Ok1.chk ?_ (Ok1.some a1)
  rw [decide_eq_true c1, decide_eq_true (c2 (by omega))]; rfl

theorem like_lats (xs : List Lat) (hn : xs.length ≤ 1048576) : laws_likeLattices9 xs xs = some true := by
  have key := loop_all (L := fun k => laws_likeLattices9_l0 xs xs k) xs (fun _ => true) (.inl ()) (.inr false) (fun k hk => by
    show laws_likeLattices9_l0 xs xs (k : Int) = _
    rw [laws_likeLattices9_l0_eq, decide_eq_true (by omega), rd_lt hk]
    simp only [cond_true, Option.bind_some, decide_true, Bool.and_self, Bool.not_true, cond_false, Option.bind_fun_some, if_true]
    rw [wnext hk (by omega)]) (by
    show laws_likeLattices9_l0 xs xs (xs.length : Int) = _
    rw [laws_likeLattices9_l0_eq, decide_eq_false (by omega)]; rfl)
  have key' : laws_likeLattices9_l0 xs xs 0 = _ := key
  rw [laws_likeLattices9_eq, decide_eq_true rfl, key', List.all_eq_true.2 fun _ _ => rfl]
  rfl

theorem found_loop (z0 : List V) (z1 : List Lat) (z2 z4 : Int) (xs : List Lat) (hn : xs.length ≤ 1048576) (l : Lat) : ∀ (d k : Nat) (f : Bool), k + d = xs.length → (f = true ∨ l ∈ xs.drop k) →
    laws_FnTilings_l0 z0 z1 z2 xs z4 f (k : Int) l.1 l.2.1 l.2.2 = some (z0, z1, z2, z4, true)
  | 0, k, f, hk, h => by
    rw [laws_FnTilings_l0_eq, decide_eq_false (by omega)]
    rcases h with h | h
    · rw [h]; rfl
    · rw [List.drop_eq_nil_of_le (by omega)] at h; cases h
  | d + 1, k, f, hk, h => by
    have hlt : k < xs.length := by omega
    rw [laws_FnTilings_l0_eq, inb hlt, decide_eq_true (p := (k : Int) < (xs.length : Int)) (by omega), gd hlt, wnext hlt (by omega)]
    simp only [cond_true, Option.bind_fun_some]
    cases f with
    | true => exact found_loop z0 z1 z2 z4 xs hn l d (k + 1) true (by omega) (.inl rfl)
    | false =>
      rw [cond_false, found_loop z0 z1 z2 z4 xs hn l d (k + 1) true (by omega) (.inl rfl)]
      rcases h with h | h
      · cases h
      · rw [List.drop_eq_getElem_cons hlt] at h
        rcases List.mem_cons.1 h with h | h
        · rw [← h]; simp
        · rw [found_loop z0 z1 z2 z4 xs hn l d (k + 1) false (by omega) (.inr h)]
          cases (decide (xs[k].1 = l.1) && (decide (xs[k].2.1 = l.2.1) && (decide (xs[k].2.2 = l.2.2) && true))) <;> rfl

def rotM : Mat4 := (0, -1, 1, 0)

theorem rot_pm : Pm rotM := pmB_pm (f := 0) (.inl rfl) (by decide)

theorem isTile_turn {xs : List V} (h : isTile xs = true) : isTile (turnL rotM xs) = true := by
  obtain ⟨h1, h2, h3, h4⟩ := isTile_ok h
  have hl := turnL_len rot_pm h2
  have hpos := List.length_pos_iff.2 h3
  unfold isTile
  simp only [Bool.and_eq_true, decide_eq_true_eq, List.all_eq_true]
  refine ⟨⟨⟨fun v hv => ?_, (upTo_inc _).2 (turnL_inc rotM xs)⟩, by omega⟩, by omega⟩
  obtain ⟨u, hu, rfl⟩ := List.mem_map.1 ((turnL_perm rot_pm h2).mem_iff.1 hv)
  have := h1 u hu
  unfold isVec at this ⊢
  rw [Bool.and_eq_true, within_iff, within_iff] at this ⊢
  unfold mapp rotM
  simp only
  omega

theorem FnTilings_true (x : List Int) (h : wfE (.list (.i .u8)) x) : laws_FnTilings x = some true := by
  rw [laws_FnTilings_eq, laws_big_eq]
  by_cases hb : 4096 < (x.length : Int)
  · rw [decide_eq_true hb]; rfl
  · rw [decide_eq_false hb]
    obtain ⟨t, e1, ht⟩ := drawTiling_d (code_bytes h) (by omega)
    obtain ⟨y, e2, hy⟩ := drawTilesBy_d (code_bytes h) (by omega)
    obtain ⟨a, l⟩ := y
    simp only at hy
    have i1 := impl_TilingLattices_v t (leM (by omega))
    have i2 := spec_TilingLattices_v t (leM (by omega))
    have i3 := impl_TilesBy_v a l (leM (by omega))
    have i4 := spec_TilesBy_v a l (leM (by omega))
    have i5 := impl_TilingLattices_v a (leM (by omega))
    have ll := like_lats (tilingR t).1 (tilingR_len t)
    simp only [cond_false, Option.bind_some, cond_true, e1, e2, i1, i2, i3, i4, i5, ll, decide_true, Bool.not_true]
    have tail : (cond (!decide ((tilingR t).2 = 0)) (some true) (Option.bind (impl_TurnTile t (0, (-1), 1, 0)) fun (y13 : (List (Int × Int)) × Int) => (Option.bind (impl_TilingLattices y13.1) fun (y14 : (List (Int × Int × Int)) × Int) => (cond (decide (y13.2 = 0)) (cond (decide (y14.2 = 0)) (cond (decide ((List.length y14.1 : Int) = (List.length (tilingR t).1 : Int))) (some true) (some false)) (some false)) (some false))))) = some true := by
      cases hti : isTile t with
      | false => unfold tilingR; rw [hti]; rfl
      | true =>
        obtain ⟨h1, h2, h3, h4⟩ := isTile_ok hti
        have hpos := List.length_pos_iff.2 h3
        have hr := isTile_turn hti
        have k1 : impl_TurnTile t (0, (-1), 1, 0) = some (turnL rotM t, 0) := by
          rw [impl_TurnTile_eq, impl_IsTile_v t (by omega), hti]
          simp only [Option.bind_some, cond_true, impl_IsPointMat_v]
          rw [show isPm 0 (0, -1, 1, 0) = true from by decide]
          simp only [Option.bind_some, cond_true]
          rw [show impl_turnTile t (0, -1, 1, 0) = some (turnL rotM t) from impl_turnTile_v rot_pm t h2 h3 h1 (by omega)]
          rfl
        have k2 := impl_TilingLattices_v (turnL rotM t) (leM (by rw [turnL_len rot_pm h2]; omega))
        have k3 := turn_count h2 hpos h4 rot_pm
        have k4 : (tilingR (turnL rotM t)).1.length = (tilingR t).1.length := by
          unfold tilingR
          rw [hti, hr]
          exact k3
        have k5 : (tilingR (turnL rotM t)).2 = 0 := by unfold tilingR; rw [hr]; rfl
        have k6 : (tilingR t).2 = 0 := by unfold tilingR; rw [hti]; rfl
        rw [k6, k1]
        simp only [Option.bind_some, k2, k4, k5, decide_true, Bool.not_true, cond_false, cond_true]
    have fin : ∀ hr1 : (tilesR a l).1 = true, (tilesR a l).2 = 0 ∧ (tilingR a).2 = 0 ∧ laws_FnTilings_l0 t (tilingR t).1 (tilingR t).2 (tilingR a).1 (tilingR a).2 false 0 l.1 l.2.1 l.2.2 = some (t, (tilingR t).1, (tilingR t).2, (tilingR a).2, true) := by
      intro hr1
      unfold tilesR at hr1 ⊢
      by_cases hc : (isTile a && isLat l) = true
      · rw [if_pos hc] at hr1 ⊢
        rw [Bool.and_eq_true] at hc
        obtain ⟨h1, h2, h3⟩ := isTile_vec hc.1
        have h4 := (tilesB_iff a l).1 hr1
        refine ⟨rfl, by unfold tilingR; rw [hc.1]; rfl, ?_⟩
        refine found_loop _ _ _ _ (tilingR a).1 (tilingR_len a) l _ 0 false (Nat.zero_add _) (.inr ?_)
        unfold tilingR
        rw [hc.1, if_pos rfl]
        exact List.mem_filter.2 ⟨(mem_subL h3 (by omega)).2 ⟨hc.2, h4.2.symm⟩, hr1⟩
      · rw [if_neg hc] at hr1; cases hr1
    cases hr1 : (tilesR a l).1 with
    | true =>
      obtain ⟨f1, f2, f3⟩ := fin hr1
      rw [f2] at f3
      simp only [cond_true, f1, f2, f3, decide_true, Bool.not_true, cond_false, Option.bind_some]
      exact tail
    | false =>
      simp only [cond_false]
      cases decide ((tilesR a l).2 = 0)
      · exact tail
      · exact tail

end Go.Proofs.Ytahlhacmikdimaa
