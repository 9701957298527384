/-
  The ideal interpreter against the machine: code and loops.
-/
import Derived.Test.YtpknhlnoaehffaaA18
namespace Go.Proofs.Ytpknhlnoaehffaa
namespace Ai
set_option linter.unusedSimpArgs false
set_option linter.unusedVariables false

/-- A loop's body, and then the loop again. -/
def LoopWp (P : Program) (c : Code) (Q : Exit → Act → World → Prop) (a : Act) (w : World) : Prop :=
  ∀ (b : Frame) (k : List Item) (cs : List Frame), ∃ e a' w', Q e a' w' ∧ Arrives P (lone (b.at a (.code c :: .inLoop c :: k)) cs w) b k cs e a' w'

theorem loop_of {P : Program} {c : Code} {Q : Exit → Act → World → Prop} {a : Act} {w : World} (h : LoopWp P c Q a w) : (Code.loop c).wp P Q a w := by
  intro b k cs
  obtain ⟨e, a', w', hq, harr⟩ := h b k cs
  exact ⟨e, a', w', hq, .of_steps (.one step_loop) harr⟩

theorem loop_round {P : Program} {c : Code} {Q : Exit → Act → World → Prop} {a : Act} {w : World} (h : c.wp P (Exit.then (fun a w => LoopWp P c Q a w) Q) a w) : LoopWp P c Q a w := by
  intro b k cs
  obtain ⟨e, a₁, w₁, hq, harr⟩ := h b (.inLoop c :: k) cs
  cases e with
  | normal =>
    obtain ⟨e₂, a₂, w₂, hq₂, harr₂⟩ := hq b k cs
    exact ⟨e₂, a₂, w₂, hq₂, .of_steps (Steps.trans harr (.one step_inLoop)) harr₂⟩
  | exit id => exact ⟨_, a₁, w₁, hq, .pass (x := .inLoop c) rfl (fun _ _ => .inl (by simp)) harr⟩
  | goto l => exact ⟨_, a₁, w₁, hq, .pass (x := .inLoop c) rfl (fun _ _ => .inl (by simp)) harr⟩
  | ret => exact ⟨_, a₁, w₁, hq, .pass (x := .inLoop c) rfl (fun _ _ => .inl (by simp)) harr⟩
  | panic ch => exact ⟨_, a₁, w₁, hq, .pass (x := .inLoop c) rfl (fun _ _ => .inl (by simp)) harr⟩
  | outgrown => exact ⟨_, a₁, w₁, hq, .pass (x := .inLoop c) rfl (fun _ _ => .inl (by simp)) harr⟩

def exitOf : Ex → Exit
  | .nrm => .normal
  | .ret => .ret
  | .exit id => .exit id

def unXp (ex : Exs) (y : ExT ex) : Option (Ex × St) := unX ex y fun e s => some (e, s)

theorem unX_eq {R : Type} {k : Ex → St → Option R} : ∀ (ex : Exs) (y : ExT ex), unX ex y k = (unXp ex y).bind fun p => k p.1 p.2
  | [], _ => rfl
  | [(e, s)], x => rfl
  | (e, s) :: d :: r, .inl x => rfl
  | (e, s) :: d :: r, .inr y => unX_eq (d :: r) y

theorem tryH_inv {R : Type} {run : Orc} {f n : Nat} {ex : Exs} {st : St} {k : ExT ex → Option R} {r : R} : ∀ (l : List (List It)), tryH run f n ex st k l = some r → ∃ h x y, packS h st = some x ∧ run (.lp f n ex h) x = some y ∧ k y = some r
  | [], h => by cases h
  | hd :: l, h => by
    simp only [tryH] at h
    split at h
    · rename_i x hx
      obtain ⟨y, hy, hk⟩ := Option.bind_eq_some_iff.1 h
      exact ⟨hd, x, y, hx, hy, hk⟩
    · exact tryH_inv l h

theorem packX_inv {st : St} {e : Ex} : ∀ (ex : Exs) (y : ExT ex), packX ex e st = some y → ∃ is x, packS is st = some x ∧ unXp ex y = some (e, mkS is x)
  | [], y, h => by cases h
  | [(e', s)], y, h => by
    simp only [packX] at h
    split at h
    · rename_i he
      subst he
      exact ⟨s, y, h, rfl⟩
    · cases h
  | (e', s) :: d :: r, y, h => by
    simp only [packX] at h
    split at h
    · rename_i x hx
      cases h
      split at hx
      · rename_i he
        subst he
        exact ⟨s, x, hx, rfl⟩
      · cases hx
    · split at h
      · rename_i y' hy
        cases h
        exact packX_inv (d :: r) y' hy
      · cases h

def bodyAt (P : Program) (f n : Nat) : Option Code := ((P.funcs[f]?).bind (·.body)).bind (loopAt · n)

/-- A loop comes to what the ideal interpreter says. -/
def MLp (E : Env) (f n : Nat) (ex : Exs) (h : List It) (x : Tup (icodes h)) (y : ExT ex) : Prop :=
  ∀ (A : Base) (N : Nat) (g : Nat → Option Loc) (a : Act) (w : World) (c : Code), bodyAt E.P f n = some c → dstOk N c = true → Inv A N g (mkS h x) a w →
    ∀ Q : Exit → Act → World → Prop, (∀ e st g' a' w', unXp ex y = some (e, st) → Inv A N g' st a' w' → Q (exitOf e) a' w') → LoopWp E.P c Q a w

theorem loopAt_in : ∀ (c b : Code) (n m : Nat), loopAt c n = some b → m < nloops b → loopAt c (n + 1 + m) = loopAt b m
  | .seq x y, b, n, m, h, hm => by
    have hlt := loopAt_lt x
    simp only [loopAt] at h ⊢
    split at h
    · rename_i hn
      have := hlt n b h
      rw [if_pos (by omega)]
      exact loopAt_in x b n m h hm
    · rename_i hn
      rw [if_neg (by omega), show n + 1 + m - nloops x = n - nloops x + 1 + m by omega]
      exact loopAt_in y b _ m h hm
  | .cond _ x y, b, n, m, h, hm => by
    have hlt := loopAt_lt x
    simp only [loopAt] at h ⊢
    split at h
    · rename_i hn
      have := hlt n b h
      rw [if_pos (by omega)]
      exact loopAt_in x b n m h hm
    · rename_i hn
      rw [if_neg (by omega), show n + 1 + m - nloops x = n - nloops x + 1 + m by omega]
      exact loopAt_in y b _ m h hm
  | .block _ c, b, n, m, h, hm => by
    simp only [loopAt] at h ⊢
    exact loopAt_in c b n m h hm
  | .loop c, b, 0, m, h, hm => by
    simp only [loopAt, Option.some.injEq] at h
    subst h
    show loopAt (.loop c) (0 + 1 + m) = _
    rw [show 0 + 1 + m = m + 1 by omega]
    rfl
  | .loop c, b, n + 1, m, h, hm => by
    simp only [loopAt] at h
    rw [show n + 1 + 1 + m = (n + 1 + m) + 1 by omega]
    simp only [loopAt]
    exact loopAt_in c b n m h hm
  | .skip, _, _, _, h, _ => by cases h
  | .region _ _ _, _, _, _, h, _ => by cases h
  | .exit _, _, _, _, h, _ => by cases h
  | .ret, _, _, _, h, _ => by cases h
  | .label _, _, _, _, h, _ => by cases h
  | .scope _, _, _, _, h, _ => by cases h
  | .goto _, _, _, _, h, _ => by cases h
  | .rangeFunc .., _, _, _, h, _ => by cases h
  | .refuse _, _, _, _, h, _ => by cases h
where
  loopAt_lt : ∀ (c : Code) (n : Nat) (b : Code), loopAt c n = some b → n + nloops b < nloops c
  | .seq x y, n, b, h => by
    simp only [loopAt] at h
    simp only [nloops]
    split at h
    · have := loopAt_lt x n b h; omega
    · have := loopAt_lt y _ b h; omega
  | .cond _ x y, n, b, h => by
    simp only [loopAt] at h
    simp only [nloops]
    split at h
    · have := loopAt_lt x n b h; omega
    · have := loopAt_lt y _ b h; omega
  | .block _ c, n, b, h => by
    simp only [loopAt] at h
    simp only [nloops]
    exact loopAt_lt c n b h
  | .loop c, 0, b, h => by
    simp only [loopAt, Option.some.injEq] at h
    subst h
    simp only [nloops]; omega
  | .loop c, n + 1, b, h => by
    simp only [loopAt] at h
    have := loopAt_lt c n b h
    simp only [nloops]; omega
  | .skip, _, _, h => by cases h
  | .region _ _ _, _, _, h => by cases h
  | .exit _, _, _, h => by cases h
  | .ret, _, _, h => by cases h
  | .label _, _, _, h => by cases h
  | .scope _, _, _, h => by cases h
  | .goto _, _, _, h => by cases h
  | .rangeFunc .., _, _, h => by cases h
  | .refuse _, _, _, h => by cases h

section
variable {E : Env} {A : Base} {run : Orc} {N : Nat}

theorem region_wp (hop : OpOk E run) {R : Type} {id : Nat} {ops : Array Oper} {draw : Bool} {g : Nat → Option Loc} {st : St} {a : Act} {w : World} {r : R} {k : St → Option R} {Q : Exit → Act → World → Prop} (hd : dstOk N (.region id ops draw) = true)
    (hI : Inv A N g st a w) (h : (match (generalizing := false) draw with
      | false => opsK E run ops ops.toList st k
      | true => if E.P.follows .mixedOrders && regOk E ops (befs [] ops.toList) then opsD E run ops (befs [] ops.toList) 0 ops.toList st k else none) = some r)
    (hQ : ∀ g' st' a' w', Inv A N g' st' a' w' → k st' = some r → Q .normal a' w') : (Code.region id ops draw).wp E.P Q a w := by
  have hdst : ∀ o ∈ ops.toList, ∀ d, o.dst = some d → d < N := fun o ho d hd' => by
    simp only [dstOk] at hd
    rw [List.all_eq_true] at hd
    have := hd o ho
    rw [hd'] at this
    exact Nat.le_of_ble_eq_true this
  cases draw
  · exact wp_region_list (opsK_wp hop ops.toList g st a w hdst hI h hQ)
  · simp only [] at h
    obtain ⟨hc, h⟩ := if_some h
    simp only [Bool.and_eq_true] at hc
    obtain ⟨es, h1, h2, h3⟩ := opsD_runs _ _ _ h
    refine wp_region_any hc.1 (drawn_wp hop h1 h2 hc.2 hdst (fun g' a' w' hI' => hQ g' _ a' w' hI' h3) ops.size _ (List.range ops.size) g a _ (by simp) (by simp) (fun j hj _ => List.mem_range.2 hj) (fun i o hi hL => ?_) ?_)
    · exfalso
      have hlt : i < ops.size := (Array.getElem?_eq_some_iff.1 hi).1
      simp [hlt] at hL
    · have hnone : SD (fun j => (Array.replicate ops.size false).getD j false) 0 es st = st := SD_none _ _ _ fun j _ => by
        by_cases hj : j < ops.size <;> simp [hj]
      rw [hnone]
      obtain ⟨hM, hL⟩ := hI.mem.same (w' := { w with drawn := w.drawn + 1 }) rfl rfl rfl rfl
      exact ⟨fun t => hL.tr (hI.tm t), hM, hI.df, hI.sz⟩

theorem codeK_wp (hop : OpOk E run) (hlp : ∀ f n ex h x y, run (.lp f n ex h) x = some y → MLp E f n ex h x y) {R : Type} {r : R} {f : Nat} : ∀ (c : Code) (n : Nat) (st : St) (k : Ex → St → Option R) (g : Nat → Option Loc) (a : Act) (w : World) (Q : Exit → Act → World → Prop),
    (∀ m, m < nloops c → bodyAt E.P f (n + m) = loopAt c m) → dstOk N c = true → Inv A N g st a w → codeK E run f n c st k = some r → (∀ e st' g' a' w', Inv A N g' st' a' w' → k e st' = some r → Q (exitOf e) a' w') → c.wp E.P Q a w := by
  intro c
  induction c with
  | skip =>
    intro n st k g a w Q _ _ hI h hQ
    simp only [codeK] at h
    exact wp_skip (hQ .nrm st g a w hI h)
  | region id ops draw =>
    intro n st k g a w Q _ hd hI h hQ
    simp only [codeK] at h
    exact region_wp hop hd hI h fun g' st' a' w' hI' hk => hQ .nrm st' g' a' w' hI' hk
  | seq x y ihx ihy =>
    intro n st k g a w Q hb hd hI h hQ
    simp only [codeK] at h
    simp only [dstOk, Bool.and_eq_true] at hd
    have hx : ∀ m, m < nloops x → bodyAt E.P f (n + m) = loopAt x m := fun m hm => by
      rw [hb m (by simp only [nloops]; omega)]
      simp only [loopAt]; rw [if_pos hm]
    have hy : ∀ m, m < nloops y → bodyAt E.P f (n + nloops x + m) = loopAt y m := fun m hm => by
      rw [Nat.add_assoc, hb (nloops x + m) (by simp only [nloops]; omega)]
      simp only [loopAt]; rw [if_neg (by omega)]
      congr 1; omega
    refine wp_seq (ihx n st _ g a w _ hx hd.1 hI h fun e st' g' a' w' hI' hk => ?_)
    cases e with
    | nrm => exact ihy (n + nloops x) st' k g' a' w' Q hy hd.2 hI' hk hQ
    | ret => exact hQ .ret st' g' a' w' hI' hk
    | exit id => exact hQ (.exit id) st' g' a' w' hI' hk
  | cond c x y ihx ihy =>
    intro n st k g a w Q hb hd hI h hQ
    simp only [codeK] at h
    simp only [dstOk, Bool.and_eq_true] at hd
    have hx : ∀ m, m < nloops x → bodyAt E.P f (n + m) = loopAt x m := fun m hm => by
      rw [hb m (by simp only [nloops]; omega)]
      simp only [loopAt]; rw [if_pos hm]
    have hy : ∀ m, m < nloops y → bodyAt E.P f (n + nloops x + m) = loopAt y m := fun m hm => by
      rw [Nat.add_assoc, hb (nloops x + m) (by simp only [nloops]; omega)]
      simp only [loopAt]; rw [if_neg (by omega)]
      congr 1; omega
    split at h
    · rename_i q hq
      have hc := evalO_tr hI.tm c
      rw [hq] at hc
      refine wp_cond (tr_bool hc) ?_
      cases q
      · exact ihy _ st k g a w Q hy hd.2 hI h hQ
      · exact ihx _ st k g a w Q hx hd.1 hI h hQ
    · cases h
  | block id c ih =>
    intro n st k g a w Q hb hd hI h hQ
    simp only [codeK] at h
    refine wp_block (ih n st _ g a w _ (fun m hm => by rw [hb m hm]; rfl) hd hI h fun e st' g' a' w' hI' hk => ?_)
    cases e with
    | nrm => exact hQ .nrm st' g' a' w' hI' hk
    | ret => exact hQ .ret st' g' a' w' hI' hk
    | exit j =>
      show (if j = id then Q .normal a' w' else Q (.exit j) a' w')
      simp only [] at hk
      split at hk
      · rename_i hj; rw [if_pos hj]; exact hQ .nrm st' g' a' w' hI' hk
      · rename_i hj; rw [if_neg hj]; exact hQ (.exit j) st' g' a' w' hI' hk
  | loop c ih =>
    intro n st k g a w Q hb hd hI h hQ
    simp only [codeK] at h
    obtain ⟨hd', x, y, hp, hr, hk⟩ := tryH_inv _ h
    obtain ⟨g', hI'⟩ := packS_inv hI hp
    have hbody : bodyAt E.P f n = some c := by
      have := hb 0 (by simp only [nloops]; omega)
      simpa [loopAt] using this
    refine loop_of (hlp _ _ _ _ _ _ hr A N g' a w c hbody hd hI' Q fun e st' g'' a' w' hu hI'' => ?_)
    rw [unX_eq, hu] at hk
    exact hQ e st' g'' a' w' hI'' hk
  | exit id =>
    intro n st k g a w Q _ _ hI h hQ
    simp only [codeK] at h
    exact wp_exit (hQ (.exit id) st g a w hI h)
  | ret =>
    intro n st k g a w Q _ _ hI h hQ
    simp only [codeK] at h
    exact wp_ret (hQ .ret st g a w hI h)
  | label l =>
    intro n st k g a w Q _ _ hI h hQ
    simp only [codeK] at h
    exact wp_label (hQ .nrm st g a w hI h)
  | scope c ih => intro n st k g a w Q _ _ hI h hQ; simp only [codeK] at h; cases h
  | goto l => intro n st k g a w Q _ _ hI h hQ; simp only [codeK] at h; cases h
  | rangeFunc _ _ _ _ _ _ => intro n st k g a w Q _ _ hI h hQ; simp only [codeK] at h; cases h
  | refuse w => intro n st k g a w Q _ _ hI h hQ; simp only [codeK] at h; cases h

/-- One round of a loop. -/
theorem lp_step (hop : OpOk E run) (hlp : ∀ f n ex h x y, run (.lp f n ex h) x = some y → MLp E f n ex h x y) {f n : Nat} {ex : Exs} {h : List It} {x : Tup (icodes h)} {y : ExT ex} (hs : stp E run (.lp f n ex h) x = some y) : MLp E f n ex h x y := by
  intro A N g a w c hbody hd hI Q hQ
  simp only [stp] at hs
  split at hs
  · rename_i fc hfc
    have hbody' := hbody
    unfold bodyAt at hbody
    rw [hfc] at hbody
    simp only [Option.bind_some] at hbody
    rw [hbody] at hs
    simp only [] at hs
    refine loop_round (codeK_wp hop hlp c (n + 1) (mkS h x) _ g a w _ (fun m hm => ?_) hd hI hs fun e st' g' a' w' hI' hk => ?_)
    · unfold bodyAt
      rw [hfc]
      exact loopAt_in fc c n m hbody hm
    · cases e with
      | nrm =>
        simp only [] at hk
        obtain ⟨hd', x', y', hp, hr, hk⟩ := tryH_inv _ hk
        cases hk
        obtain ⟨g'', hI''⟩ := packS_inv hI' hp
        exact hlp _ _ _ _ _ _ hr A N g'' a' w' c hbody' hd hI'' Q hQ
      | ret =>
        obtain ⟨is, x', hp, hu⟩ := packX_inv _ _ hk
        obtain ⟨g'', hI''⟩ := packS_inv hI' hp
        exact hQ .ret _ g'' a' w' hu hI''
      | exit id =>
        obtain ⟨is, x', hp, hu⟩ := packX_inv _ _ hk
        obtain ⟨g'', hI''⟩ := packS_inv hI' hp
        exact hQ (.exit id) _ g'' a' w' hu hI''
  · cases hs

end
end Ai
end Go.Proofs.Ytpknhlnoaehffaa
