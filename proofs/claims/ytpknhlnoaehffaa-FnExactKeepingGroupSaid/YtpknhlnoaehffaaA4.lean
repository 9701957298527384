/-
  The ideal interpreter: what is handed on does not change what is found.
-/
import Derived.Test.YtpknhlnoaehffaaA3
namespace Go.Proofs.Ytpknhlnoaehffaa
namespace Ai
set_option linter.unusedSimpArgs false
set_option linter.unusedVariables false

abbrev KF := (R : Type) → (T → List (Nat × BS) → Option R) → Option R

/-- A function with a continuation finds its pair first and hands it on. -/
def Nat1 (F : KF) : Prop :=
  ∀ (R : Type) (k : T → List (Nat × BS) → Option R), F R k = (F _ fun t d => some (t, d)).bind fun p => k p.1 p.2

theorem nat_none : Nat1 (fun _ _ => none) := fun _ _ => rfl
theorem nat_hand (t : T) (d : List (Nat × BS)) : Nat1 (fun _ k => k t d) := fun _ _ => rfl

theorem nat_cond {b : Bool} {x y : KF} (hx : Nat1 x) (hy : Nat1 y) : Nat1 (fun R k => cond b (x R k) (y R k)) := by
  intro R k; cases b
  · exact hy R k
  · exact hx R k

theorem nat_ite {p : Prop} [Decidable p] {x y : KF} (hx : Nat1 x) (hy : Nat1 y) : Nat1 (fun R k => if p then x R k else y R k) := by
  intro R k
  by_cases h : p
  · simp only [if_pos h]; exact hx R k
  · simp only [if_neg h]; exact hy R k

theorem nat_bind {α : Type} {m : Option α} {f : α → KF} (h : ∀ x, Nat1 (f x)) : Nat1 (fun R k => m.bind fun x => f x R k) := by
  intro R k; cases m
  · rfl
  · exact h _ R k

theorem nat_opt {α : Type} {m : Option α} {f : α → KF} (h : ∀ x, Nat1 (f x)) : Nat1 (fun R k => match m with
    | some x => f x R k
    | none => none) := by
  intro R k; cases m
  · rfl
  · exact h _ R k

theorem nat_mkB (B : Nat → BS) (id : Nat) (b : Blk) (t : T) : Nat1 (fun _ k => mkB B id b t k) := by
  intro R k; unfold mkB; split <;> rfl

theorem nat_splitIdx (i : Int) {F : Nat → KF} (h : ∀ j, Nat1 (F j)) : ∀ n j, Nat1 (fun R k => splitIdx i n j fun j => F j R k)
  | 0, _ => nat_none
  | n + 1, j => nat_cond (h j) (nat_splitIdx i h n (j + 1))

theorem nat_loHi (len : Nat) (lo hi : Option T) {F : Nat → Nat → KF} (h : ∀ l u, Nat1 (F l u)) : Nat1 (fun R k => loHi len lo hi fun l u => F l u R k) := by
  intro R k
  unfold loHi
  split
  · exact h _ _ R k
  · exact nat_cond (h _ _) nat_none R k
  · exact nat_cond (h _ _) nat_none R k
  · exact nat_cond (nat_cond (h _ _) nat_none) nat_none R k
  · rfl

theorem nat_loadCs (cs : List Sc) (agg : Bool) (off sz : Nat) : Nat1 (fun _ k => loadCs cs agg off sz k) := by
  intro R k; unfold loadCs; split
  · exact nat_ite (nat_hand _ _) nat_none R k
  · split <;> rfl

theorem nat_shift (op : BinOp) (k : IntKind) (a b : Int) : Nat1 (fun _ K => shiftBin op k a b fun s => K (one s) []) := by
  intro R K
  unfold shiftBin
  split
  · exact nat_cond nat_none (nat_hand _ _) R K
  · exact nat_cond nat_none (nat_hand _ _) R K
  · rfl

theorem nat_isNil (B : Nat → BS) (s : Sc) {F : Bool → KF} (h : ∀ b, Nat1 (F b)) : Nat1 (fun R k => isNil B s fun b => F b R k) := by
  intro R k
  unfold isNil
  split
  · exact h _ R k
  · split
    · exact nat_cond nat_none (h _) R k
    · rfl
  · exact nat_cond nat_none (h _) R k
  · rfl

theorem nat_binK (E : Env) (B : Nat → BS) (op : BinOp) (t : TypeId) (cy : Bool) (x y : T) : Nat1 (fun _ k => binK E B op t cy x y k) := by
  intro R k
  unfold binK
  split
  · split
    · exact nat_shift _ _ _ _ R k
    · exact nat_shift _ _ _ _ R k
    · split
      · unfold intBin; split <;> first | rfl | exact nat_cond nat_none (nat_hand _ _) R k
      · rfl
  · unfold strBin; split <;> first | rfl | exact nat_cond (nat_hand _ _) nat_none R k
  · split <;> rfl
  · split
    · split
      · split <;> rfl
      · rfl
    · rfl
  · split
    · exact nat_isNil _ _ (F := fun b _ k => match neg1 op b with
        | some r => k (one (.bool r)) []
        | none => none) (fun b R k => by simp only []; split <;> rfl) R k
    · rfl
  · split
    · split <;> rfl
    · split <;> rfl
    · rfl
  · rfl

theorem nat_semK (E : Env) (B : Nat → BS) (tm : Nat → T) (o : Oper) : Nat1 (fun _ k => semK E B tm o k) := by
  intro R k
  unfold semK
  simp only []
  split
  · rfl
  · rfl
  · split
    · exact nat_cond (nat_hand _ _) (nat_hand _ _) R k
    · rfl
  · split
    · split
      · exact nat_mkB _ _ _ _ R k
      · rfl
    · rfl
  · split
    · split
      · exact nat_mkB _ _ _ _ R k
      · rfl
    · rfl
  · unfold buildK
    split
    · split
      · split <;> rfl
      · rfl
    · split
      · split <;> rfl
      · rfl
    · rfl
  · unfold buildSliceK
    split
    · split
      · split
        · split
          · unfold mkB; split <;> rfl
          · rfl
        · rfl
      · rfl
    · rfl
  · unfold loadK
    split
    · split
      · exact nat_loadCs _ _ _ _ R k
      · rfl
    · split
      · exact nat_loadCs _ _ _ _ R k
      · rfl
    · exact nat_loadCs _ _ _ _ R k
    · rfl
  · unfold storeK
    split
    · split
      · split
        · split <;> rfl
        · rfl
      · rfl
    · split
      · split
        · split
          · split <;> rfl
          · rfl
        · rfl
      · rfl
    · rfl
  · split <;> rfl
  · exact nat_binK _ _ _ _ _ _ _ R k
  · unfold unK; split <;> rfl
  · unfold convK
    split
    · rfl
    · rfl
    · split <;> rfl
    · rfl
  · split <;> rfl
  · unfold makeSliceK
    split
    · split
      · split
        · split
          · exact nat_cond (nat_mkB _ _ _ _) nat_none R k
          · rfl
        · rfl
      · rfl
    · rfl
  · unfold sliceK
    split
    · rfl
    · split
      · exact nat_loHi _ _ _ (fun l u => nat_hand _ _) R k
      · split
        · exact nat_loHi _ _ _ (fun l u => nat_hand _ _) R k
        · rfl
      · split
        · split
          · exact nat_loHi _ _ _ (fun l u => nat_hand _ _) R k
          · rfl
        · rfl
      · rfl
  · unfold fieldAddrK
    split
    · split <;> rfl
    · rfl
  · unfold fieldK
    split
    · split
      · exact nat_loadCs _ _ _ _ R k
      · rfl
    · rfl
  · unfold indexAddrK
    split
    · split
      · exact nat_bind (fun x => nat_hand _ _) R k
      · rfl
    · split
      · split
        · exact nat_cond (nat_hand _ _) nat_none R k
        · rfl
      · split
        · exact nat_bind (fun x => nat_hand _ _) R k
        · rfl
      · rfl
    · split
      · split
        · exact nat_splitIdx _ (fun j => nat_hand _ _) _ _ R k
        · rfl
      · rfl
    · rfl
  · unfold indexK
    split
    · exact nat_bind (fun x => nat_hand _ _) R k
    · split
      · exact nat_splitIdx _ (fun j => nat_loadCs _ _ _ _) _ _ R k
      · rfl
    · rfl
  · split
    · split <;> rfl
    · rfl
  · unfold builtinK
    split
    · unfold lenK
      split
      · rfl
      · split <;> rfl
      · split <;> rfl
      · rfl
    · split
      · unfold appendK
        split
        · split
          · split
            · split
              · split
                · exact nat_cond (nat_mkB _ _ _ _) nat_none R k
                · split
                  · split
                    · split
                      · rfl
                      · refine nat_cond (x := fun R k => match B _ with | .fresh => k _ _ | _ => none) ?_ nat_none R k
                        intro R k; split <;> rfl
                    · rfl
                  · rfl
                · rfl
              · rfl
            · rfl
          · rfl
        · rfl
      · rfl
    · split
      · unfold copyK
        split
        · split
          · split
            · split
              · split
                · split <;> rfl
                · rfl
              · rfl
            · rfl
          · rfl
        · rfl
      · rfl
    · unfold clearK
      split
      · split
        · split
          · split
            · split
              · split <;> rfl
              · rfl
            · rfl
          · rfl
        · rfl
      · rfl
    · split <;> rfl
    · split <;> rfl
    · rfl
  · rfl

end Ai
end Go.Proofs.Ytpknhlnoaehffaa
