/-
  The law of impl.ListUpTo by a walk: it answers yes where the digits' patterns are the reference's.
-/
import Derived.Test.YtpboclokodgnlaaGreatA48
namespace Go.Proofs.YtpboclokodgnlaaGreat
namespace Ai
open Go.Shelf Go.RowKit Go.Lib
set_option linter.unusedSimpArgs false
set_option linter.unusedVariables false

attribute [local go_sem] Oper.semAt_some

/-- What impl.ListUpTo comes to. -/
def ListOk (f : Int) (l : Int × Int × Int) (grp : List (El cdMot)) (k : Int) (ws : List PtV) (c : Int) : Prop :=
  Pre.impl_upToCode f l grp k 3000 = some c ∧ ((c ≠ 0 ∧ ws = []) ∨ (c = 0 ∧ ∃ (ix N : Nat) (fst : Nat → Bool), Pre.impl_Lattice_index l = some (ix : Int) ∧ Pre.impl_power k (ix : Int) 3000 = some (N : Int) ∧ 1 ≤ ix ∧ ix ≤ 4194304 ∧ 1 ≤ k ∧ N ≤ 1000000 ∧
    (∀ j, j < N → Pre.impl_isFirst (f, l, digs k ix j) grp = some (fst j)) ∧ ws = listP f l k ix fst N))

theorem ListOk.lens {f : Int} {l : Int × Int × Int} {grp : List (El cdMot)} {k : Int} {ws : List PtV} {c : Int} (h : ListOk f l grp k ws c) : ws.length ≤ 1000000 ∧ ∀ x ∈ ws, x.2.2.length ≤ 4194304 := by
  obtain ⟨_, ⟨_, rfl⟩ | ⟨_, ix, N, fst, _, _, _, h1, _, h2, _, rfl⟩⟩ := h
  · exact ⟨by simp, by simp⟩
  · refine ⟨?_, fun x hx => ?_⟩
    · unfold listP
      rw [List.length_map]
      exact Nat.le_trans (List.length_filter_le _ _) (by rw [List.length_range]; exact h2)
    · unfold listP at hx
      obtain ⟨j, _, rfl⟩ := List.mem_map.1 hx
      show (digs k ix j).length ≤ _
      rw [digs_len]
      exact h1

theorem list_all (W : World) {f k c : Int} {l : Int × Int × Int} {grp : List (El cdMot)} {ws : List PtV} {ga : Option Addr} {glen gcap : Nat} (hg : Dat 0 W.heap.size W (.list cdMot) grp [.slice ga glen gcap]) (h : ListOk f l grp k ws c) :
    Calls Tryz.prog 8 #[.int .i64 f, latV l, .slice ga glen gcap, .int .i64 k] W fun e w' => ∃ v ps, e = .returned (.tuple #[v, .int .i64 c]) ∧ Pats W.heap.size w' v ps ∧ ps.map (·.1) = ws ∧ Below W.heap.size W w' := by
  obtain ⟨hc, ⟨h0, rfl⟩ | ⟨rfl, ix, N, fst, hix, hpw, h1, h2, h3, h4, h5, rfl⟩⟩ := h
  · refine (list_bad W hg hc h0).mono ?_
    rintro e w' ⟨rfl, hb⟩
    exact ⟨_, [], rfl, ⟨⟨by simp, .inl ⟨rfl, rfl⟩⟩, by simp, by simp⟩, rfl, hb⟩
  · refine (list_good W hg hc hix hpw h1 h2 h3 (by omega) h5).mono ?_
    rintro e w' ⟨v, ps, rfl, hP, hps, hb⟩
    exact ⟨v, ps, rfl, hP, hps, hb⟩

theorem RowM.below {base N : Nat} {w w' : World} {v : Value} (h : RowM base w v N) (hb : Below w.heap.size w w') : RowM base w' v N := by
  obtain ⟨a, cap, hv, hrow⟩ := h
  refine ⟨a, cap, hv, fun h0 => ?_⟩
  obtain ⟨b, o, arr, t, h1, h2, h3, h4⟩ := hrow h0
  exact ⟨b, o, arr, t, h1, h2, (hb.block b (Array.getElem?_eq_some_iff.1 h3).1).trans h3, h4⟩

/-- What the law asks. -/
def LawOk (f : Int) (l : Int × Int × Int) (grp : List (El cdMot)) (k : Int) : Prop :=
  ∃ left, Pre.laws_szMotionS grp 1048576 = some left ∧ (left < 0 ∨ (0 ≤ left ∧ ∃ ws c, Pre.laws_toMotionS grp = some grp ∧ Pre.spec_ListUpTo f l grp k = some (ws, c) ∧ Pre.laws_eqPatternS ws ws = some true ∧ Pre.laws_eqMotionS grp grp = some true ∧ grp.length ≤ 4194304 ∧ ListOk f l grp k ws c))

set_option maxRecDepth 100000 in
set_option maxHeartbeats 1000000 in
theorem list_law_calls (W : World) {f k : Int} {l : Int × Int × Int} {grp : List (El cdMot)} {gv : Value} (hg : Dat 0 W.heap.size W (.list cdMot) grp [gv]) (h : LawOk f l grp k) :
    Calls Tryz.prog 3 #[.int .i64 f, latV l, gv, .int .i64 k] W fun e w' => e = .returned (.bool true) ∧ Below W.heap.size W w' := by
  obtain ⟨left, hsz, h⟩ := h
  unfold latV
  obtain ⟨W1, hW1⟩ : ∃ W1, W.alloc (.cells #[.int .i64 l.1, .int .i64 l.2.1, .int .i64 l.2.2] 23) = W1 := ⟨_, rfl⟩
  have hs1 : W1.heap.size = W.heap.size + 1 := by rw [← hW1]; simp
  have hb1 : Below W.heap.size W W1 := by rw [← hW1]; exact (Below.refl _ W).alloc (Nat.le_refl _) _
  have hl1 : W1.heap[W.heap.size]? = some (.cells #[.int .i64 l.1, .int .i64 l.2.1, .int .i64 l.2.2] 23 (0, 0)) := by rw [← hW1]; exact Array.getElem?_push_size ..
  have c0 : W1.cell? ⟨W.heap.size, 0, none⟩ = some (.int .i64 l.1) := cellB hl1 rfl
  have c1 : W1.cell? ⟨W.heap.size, 1, none⟩ = some (.int .i64 l.2.1) := cellB hl1 rfl
  have c2 : W1.cell? ⟨W.heap.size, 2, none⟩ = some (.int .i64 l.2.2) := cellB hl1 rfl
  have hg1 : Dat 0 W1.heap.size W1 (.list cdMot) grp [gv] := (hg.below hb1).wider (Nat.zero_le _) hb1.size
  have hW : W.heap.size < W1.heap.size := by omega
  have hlat : ∀ V : World, Calls Tryz.prog 6 #[.agg #[.int .i64 l.1, .int .i64 l.2.1, .int .i64 l.2.2]] V fun e w' => e = .returned (.agg #[.int .i64 l.1, .int .i64 l.2.1, .int .i64 l.2.2]) ∧ Below V.heap.size V w' := fun V => lat_calls V l
  clear hl1 hg
  rcases h with hlt | ⟨hle, ws, c, htm, hsp, heqp, heqm, hgl, hok⟩
  · go_enter Tryz.func3, Tryz.ntmps3
    go_wp2_with (go_at_call 4; refine (sz_calls W1 (Nat.le_refl _) hg1 hsz).mono ?_; rintro e w2 ⟨rfl, C2⟩)
    go_ret
    exact ⟨rfl, hb1.trans (C2.mono hb1.size)⟩
  obtain ⟨hwl, hwL⟩ := hok.lens
  have hlst : ∀ (V : World) (ga : Option Addr) (gcap : Nat), Dat 0 V.heap.size V (.list cdMot) grp [.slice ga grp.length gcap] → Calls Tryz.prog 8 #[.int .i64 f, .agg #[.int .i64 l.1, .int .i64 l.2.1, .int .i64 l.2.2], .slice ga grp.length gcap, .int .i64 k] V fun e w' =>
      ∃ v ps, e = .returned (.tuple #[v, .int .i64 c]) ∧ Pats V.heap.size w' v ps ∧ ps.map (·.1) = ws ∧ Below V.heap.size V w' := fun V ga gcap hd => list_all V hd hok
  have hspc : ∀ (V : World) (v : Value) (n1 : Nat), Dat n1 V.heap.size V (.list cdMot) grp [v] → Calls Tryz.prog 5 #[.int .i64 f, .agg #[.int .i64 l.1, .int .i64 l.2.1, .int .i64 l.2.2], v, .int .i64 k] V fun e w' =>
      ∃ v, e = .returned (.tuple #[v, .int .i64 c]) ∧ Dat V.heap.size w'.heap.size w' (.list cdPt) ws [v] ∧ Below V.heap.size V w' := fun V v n1 hd => spec_calls V (Nat.le_refl _) hd hsp
  clear hok hsp
  go_enter Tryz.func3, Tryz.ntmps3
  go_wp2_with (go_at_call 4; refine (sz_calls W1 (Nat.le_refl _) hg1 hsz).mono ?_; rintro e w2 ⟨rfl, C2⟩; have c02 := (C2.cell (p := ⟨W.heap.size, 0, none⟩) hW).trans c0; have c12 := (C2.cell (p := ⟨W.heap.size, 1, none⟩) hW).trans c1; have c22 := (C2.cell (p := ⟨W.heap.size, 2, none⟩) hW).trans c2)
  go_wp2_with (go_at_call 6; refine (hlat w2).mono ?_; rintro e w3 ⟨rfl, b3⟩)
  have C3 := C2.trans (b3.mono C2.size)
  have g3 := ((hg1.below C3).wider (Nat.zero_le _) C3.size)
  go_wp2_with (go_at_call 7; refine (mot_calls w3 (Nat.le_refl _) g3 htm).mono ?_; rintro e w4 ⟨m4, rfl, d4, _, b4⟩)
  have C4 := C3.trans (b4.mono C3.size)
  go_wp2_with (go_at_call 5; refine (hspc w4 m4 _ d4).mono ?_; rintro e w5 ⟨sv, rfl, d5, b5⟩)
  have C5 := C4.trans (b5.mono C4.size)
  have g5 := ((hg1.below C5).wider (Nat.zero_le _) C5.size)
  go_wp2_with (go_at_call 7; refine (mot_calls w5 (Nat.le_refl _) g5 htm).mono ?_; rintro e w6 ⟨xv, rfl, d6, r6, b6⟩; have C6 := C5.trans (b6.mono C5.size); have c06 := (C6.cell (p := ⟨W.heap.size, 0, none⟩) hW).trans c0; have c16 := (C6.cell (p := ⟨W.heap.size, 1, none⟩) hW).trans c1; have c26 := (C6.cell (p := ⟨W.heap.size, 2, none⟩) hW).trans c2)
  obtain ⟨xa, xcap, hxv, _⟩ := id r6
  subst hxv
  go_wp2_with (go_at_call 6; refine (hlat w6).mono ?_; rintro e w7 ⟨rfl, b7⟩)
  have C7 := C6.trans (b7.mono C6.size)
  have x7 : Dat 0 w7.heap.size w7 (.list cdMot) grp [.slice xa grp.length xcap] := (d6.below b7).wider (Nat.zero_le _) b7.size
  go_wp2_with (go_at_call 8; refine (hlst w7 _ _ x7).mono ?_; rintro e w8 ⟨gv8, ps, rfl, p8, hps, b8⟩)
  have C8 := C7.trans (b8.mono C7.size)
  have E8 : Below w5.heap.size w5 w8 := b6.trans ((b7.trans (b8.mono b7.size)).mono b6.size)
  have s8 := d5.below E8
  have t8 := p8.dat
  rw [hps] at t8
  go_wp2_with (go_at_call 9; refine (eqp_calls w8 (Nat.le_refl _) E8.size t8 s8 heqp).mono ?_; rintro e w9 ⟨rfl, b9⟩)
  have C9 := C8.trans (b9.mono C8.size)
  have g9 := ((hg1.below C9).wider (Nat.zero_le _) C9.size)
  have p9 := p8.kept b9
  go_wp2_with (go_at_call 7; refine (mot_calls w9 (Nat.le_refl _) g9 htm).mono ?_; rintro e w10 ⟨yv, rfl, d10, _, b10⟩)
  have C10 := C9.trans (b10.mono C9.size)
  have p10 := p9.kept b10
  have X10 : Below w6.heap.size w6 w10 := b7.trans ((b8.trans ((b9.trans (b10.mono b9.size)).mono b8.size)).mono b7.size)
  have x10 := d6.below X10
  go_wp2_with (go_at_call 10; refine (eqm_calls w10 X10.size (Nat.le_refl _) x10 d10 heqm).mono ?_; rintro e w11 ⟨rfl, b11⟩)
  have C11 := C10.trans (b11.mono C10.size)
  have p11 := p10.kept b11
  have X11 : Below w6.heap.size w6 w11 := X10.trans (b11.mono X10.size)
  have r11 : RowM w5.heap.size w11 (.slice xa grp.length xcap) grp.length := r6.below X11
  obtain ⟨kk, hkk⟩ : ∃ kk : Int, 1 + (grp.length : Int) * 6 = kk := ⟨_, rfl⟩
  have hk0 : 0 ≤ kk := by omega
  have hk1 : ¬ kk < 0 := by omega
  have hmm := mark_mots w11 r11 hgl (k := 1) (by omega) (by omega)
  rw [hkk] at hmm
  go_wp2_with (go_at_call 11; refine hmm.mono ?_; rintro e w12 ⟨rfl, hz12, hg12⟩)
  have E11 : Below w5.heap.size w5 w11 := b6.trans (X11.mono b6.size)
  obtain ⟨k12, keep12⟩ := mots_keep r6 b7.size E11.size hz12 hg12
  have p12 := keep12 _ _ p11
  have C12 := C11.trans (k12.mono C5.size)
  have E12 : Below w5.heap.size w5 w12 := E11.trans k12
  have s12 := d5.below E12
  have t12 := p12.dat
  rw [hps] at t12
  clear hz12 hg12 keep12 r6 r11
  go_wp2_with (go_at_call 9; refine (eqp_calls w12 (Nat.le_refl _) E12.size t12 s12 heqp).mono ?_; rintro e w13 ⟨rfl, b13⟩)
  have C13 := C12.trans (b13.mono C12.size)
  have p13 := p12.kept b13
  have hpl : ps.length = ws.length := by rw [← hps, List.length_map]
  have hpL : ∀ x ∈ ps, x.1.2.2.length ≤ 4194304 := fun x hx => hwL x.1 (by rw [← hps]; exact List.mem_map_of_mem hx)
  have z13 : w7.heap.size ≤ w13.heap.size := Nat.le_trans b8.size (Nat.le_trans b9.size (Nat.le_trans b10.size (Nat.le_trans b11.size (Nat.le_trans k12.size b13.size))))
  have hmp := mark_pats w13 (k := 1) p13 z13 hpL (by omega) (by omega) (by omega)
  go_wp2_with (go_at_call 12; refine hmp.mono ?_; rintro e w14 ⟨qs, m, rfl, p14, hM, hqL, hql, hm, k14⟩; have C14 := C13.trans (k14.mono C7.size); have hm1 := hM.le; have hm2 : ¬ m < 0 := (by omega); have hm3 : m ≤ 17592202821632 := (by omega); have E14 : Below w5.heap.size w5 w14 := (E12.trans (b13.mono E12.size)).trans (k14.mono (Nat.le_trans b6.size b7.size)))
  have hhp := held_pats w14 p14 hqL (by omega) (by omega) hM hm3
  go_wp2_with (go_at_call 13; refine hhp.mono ?_; rintro e w14b ⟨rfl, hw14b⟩; subst hw14b; have c014 := (C14.cell (p := ⟨W.heap.size, 0, none⟩) hW).trans c0; have c114 := (C14.cell (p := ⟨W.heap.size, 1, none⟩) hW).trans c1; have c214 := (C14.cell (p := ⟨W.heap.size, 2, none⟩) hW).trans c2)
  go_wp2_with (go_at_call 6; refine (hlat w14b).mono ?_; rintro e w15 ⟨rfl, b15⟩)
  have C15 := C14.trans (b15.mono C14.size)
  have g15 := ((hg1.below C15).wider (Nat.zero_le _) C15.size)
  go_wp2_with (go_at_call 7; refine (mot_calls w15 (Nat.le_refl _) g15 htm).mono ?_; rintro e w16 ⟨zv, rfl, d16, r16, b16⟩)
  have C16 := C15.trans (b16.mono C15.size)
  obtain ⟨za, zcap, hzv, _⟩ := id r16
  subst hzv
  go_wp2_with (go_at_call 8; refine (hlst w16 _ _ (d16.wider (Nat.zero_le _) (Nat.le_refl _))).mono ?_; rintro e w17 ⟨hv, ps2, rfl, p17, hps2, b17⟩)
  have C17 := C16.trans (b17.mono C16.size)
  have F17 : Below w14b.heap.size w14b w17 := b15.trans ((b16.trans (b17.mono b16.size)).mono b15.size)
  have E17 : Below w5.heap.size w5 w17 := E14.trans (F17.mono E14.size)
  have s17 := d5.below E17
  have t17 := p17.dat
  rw [hps2] at t17
  go_wp2_with (go_at_call 9; refine (eqp_calls w17 (Nat.le_refl _) E17.size t17 s17 heqp).mono ?_; rintro e w18 ⟨rfl, b18⟩)
  have C18 := C17.trans (b18.mono C17.size)
  have F18 : Below w14b.heap.size w14b w18 := F17.trans (b18.mono F17.size)
  have q18 := p14.kept F18
  have hhq := held_pats w18 q18 hqL (by omega) (by omega) hM hm3
  go_wp2_with (go_at_call 13; refine hhq.mono ?_; rintro e w18b ⟨rfl, rfl⟩)
  go_ret
  exact ⟨rfl, hb1.trans (C18.mono hb1.size)⟩

end Ai
end Go.Proofs.YtpboclokodgnlaaGreat
