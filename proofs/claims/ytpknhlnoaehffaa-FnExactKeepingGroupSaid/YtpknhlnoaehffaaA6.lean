/-
  The ideal interpreter against the machine: what it means that a state of the one is a state of the other.
-/
import Derived.Test.YtpknhlnoaehffaaA5
import Derived.WalkKit
import Derived.Below
namespace Go.Proofs.Ytpknhlnoaehffaa
namespace Ai
set_option linter.unusedSimpArgs false
set_option linter.unusedVariables false

section
variable {α β γ : Type}

/-- Two lists, place by place. -/
def All2 (R : α → β → Prop) : List α → List β → Prop
  | [], [] => True
  | a :: as, b :: bs => R a b ∧ All2 R as bs
  | _, _ => False

variable {R R' : α → β → Prop}

theorem All2.length : ∀ {as : List α} {bs : List β}, All2 R as bs → as.length = bs.length
  | [], [], _ => rfl
  | _ :: _, _ :: _, h => by simp [All2.length h.2]
  | [], _ :: _, h => h.elim
  | _ :: _, [], h => h.elim

theorem All2.mono (h : ∀ a b, R a b → R' a b) : ∀ {as : List α} {bs : List β}, All2 R as bs → All2 R' as bs
  | [], [], _ => trivial
  | _ :: _, _ :: _, hh => ⟨h _ _ hh.1, All2.mono h hh.2⟩
  | [], _ :: _, hh => hh.elim
  | _ :: _, [], hh => hh.elim

theorem All2.get : ∀ {as : List α} {bs : List β}, All2 R as bs → ∀ {i : Nat} {a : α}, as[i]? = some a → ∃ b, bs[i]? = some b ∧ R a b
  | _ :: _, b :: _, h, 0, a, e => by simp at e; subst e; exact ⟨b, rfl, h.1⟩
  | _ :: _, _ :: _, h, i + 1, a, e => by
    simp only [List.getElem?_cons_succ] at e ⊢
    exact All2.get h.2 e
  | [], [], _, i, a, e => by simp at e
  | [], _ :: _, h, _, _, _ => h.elim
  | _ :: _, [], h, _, _, _ => h.elim

theorem All2.get' : ∀ {as : List α} {bs : List β}, All2 R as bs → ∀ {i : Nat} {b : β}, bs[i]? = some b → ∃ a, as[i]? = some a ∧ R a b
  | a :: _, _ :: _, h, 0, b, e => by simp at e; subst e; exact ⟨a, rfl, h.1⟩
  | _ :: _, _ :: _, h, i + 1, b, e => by
    simp only [List.getElem?_cons_succ] at e ⊢
    exact All2.get' h.2 e
  | [], [], _, i, a, e => by simp at e
  | [], _ :: _, h, _, _, _ => h.elim
  | _ :: _, [], h, _, _, _ => h.elim

theorem All2.of_get : ∀ {as : List α} {bs : List β}, as.length = bs.length → (∀ (i : Nat) a b, as[i]? = some a → bs[i]? = some b → R a b) → All2 R as bs
  | [], [], _, _ => trivial
  | a :: as, b :: bs, hl, h => ⟨h 0 a b rfl rfl, All2.of_get (by simpa using hl) fun i x y hx hy => h (i + 1) x y (by simpa using hx) (by simpa using hy)⟩
  | [], _ :: _, hl, _ => by simp at hl
  | _ :: _, [], hl, _ => by simp at hl

theorem All2.append : ∀ {as : List α} {bs : List β} {cs : List α} {ds : List β}, All2 R as bs → All2 R cs ds → All2 R (as ++ cs) (bs ++ ds)
  | [], [], _, _, _, h => h
  | _ :: _, _ :: _, _, _, h, h' => ⟨h.1, All2.append h.2 h'⟩
  | [], _ :: _, _, _, h, _ => h.elim
  | _ :: _, [], _, _, h, _ => h.elim

theorem All2.take : ∀ {as : List α} {bs : List β} (n : Nat), All2 R as bs → All2 R (as.take n) (bs.take n)
  | _, _, 0, _ => by simp [All2]
  | [], [], n + 1, _ => by simp [All2]
  | _ :: _, _ :: _, n + 1, h => by simp only [List.take_succ_cons]; exact ⟨h.1, All2.take n h.2⟩
  | [], _ :: _, _ + 1, h => h.elim
  | _ :: _, [], _ + 1, h => h.elim

theorem All2.drop : ∀ {as : List α} {bs : List β} (n : Nat), All2 R as bs → All2 R (as.drop n) (bs.drop n)
  | _, _, 0, h => by simpa using h
  | [], [], n + 1, _ => by simp [All2]
  | _ :: _, _ :: _, n + 1, h => by simp only [List.drop_succ_cons]; exact All2.drop n h.2
  | [], _ :: _, _ + 1, h => h.elim
  | _ :: _, [], _ + 1, h => h.elim

theorem All2.set {a : α} {b : β} (hr : R a b) : ∀ {as : List α} {bs : List β} (n : Nat), All2 R as bs → All2 R (as.set n a) (bs.set n b)
  | [], [], _, _ => by simp [All2]
  | _ :: _, _ :: _, 0, h => ⟨hr, h.2⟩
  | _ :: _, _ :: _, n + 1, h => ⟨h.1, All2.set hr n h.2⟩
  | [], _ :: _, _, h => h.elim
  | _ :: _, [], _, h => h.elim

theorem All2.map_right {f : β → γ} {Q : α → γ → Prop} (h : ∀ a b, R a b → Q a (f b)) : ∀ {as : List α} {bs : List β}, All2 R as bs → All2 Q as (bs.map f)
  | [], [], _ => trivial
  | _ :: _, _ :: _, hh => ⟨h _ _ hh.1, All2.map_right h hh.2⟩
  | [], _ :: _, hh => hh.elim
  | _ :: _, [], hh => hh.elim
end

/-- Where an owned thing lies: its block, the first cell, how many elements, up to how many, cells an element. -/
structure Loc where
  b : Nat
  o : Nat
  n : Nat
  cap : Nat
  sz : Nat
  nil : Bool
  ad : Option Addr

/-- The slice at a place; a place may be none: then the slice is nil, or without any room. -/
def Loc.sl (l : Loc) : Value := cond l.nil (.slice l.ad 0 0) (.slice (some ⟨l.b, l.o, none⟩) l.n l.cap)

def Loc.sub (l : Loc) (lo hi : Nat) : Value :=
  cond l.nil (.slice l.ad 0 0) (.slice (some (if l.cap = lo then ⟨l.b, l.o, none⟩ else ⟨l.b, l.o + lo * l.sz, none⟩)) (hi - lo) (l.cap - lo))

/-- Cells that hold a datum; what its slices' blocks are. -/
def DR (w : World) (ok : Nat → Prop) : (c : Cd) → El c → List Value → Prop
  | .i k, n, cs => cs = [.int k n]
  | .bool, b, cs => cs = [.bool b]
  | .str, s, cs => cs = [.string ⟨s.toArray⟩]
  | .pair a b, x, cs => ∃ c1 c2, cs = c1 ++ c2 ∧ DR w ok a x.1 c1 ∧ DR w ok b x.2 c2
  | .unit, _, cs => cs = []
  | .list c, xs, cs => (cs = [.slice none 0 0] ∧ xs = []) ∨ ∃ b o cap, cs = [.slice (some ⟨b, o, none⟩) xs.length cap] ∧ xs.length ≤ cap ∧ (0 < cap → ok b ∧ b < w.heap.size) ∧
      (∀ j, j < cap * csize c → (w.cell? ⟨b, o + j, none⟩).isSome = true) ∧
      ∀ (i : Nat) (x : El c), xs[i]? = some x → ∃ cs', DR w ok c x cs' ∧ ∀ (j : Nat) v, cs'[j]? = some v → w.cell? ⟨b, o + i * csize c + j, none⟩ = some v

theorem DR.length {w : World} {ok : Nat → Prop} : ∀ {c : Cd} {x : El c} {cs : List Value}, DR w ok c x cs → cs.length = csize c
  | .i _, _, _, h => by simp only [DR] at h; subst h; rfl
  | .bool, _, _, h => by simp only [DR] at h; subst h; rfl
  | .str, _, _, h => by simp only [DR] at h; subst h; rfl
  | .unit, _, _, h => by simp only [DR] at h; subst h; rfl
  | .pair a b, _, _, h => by
    obtain ⟨c1, c2, rfl, h1, h2⟩ := h
    simp [csize, DR.length h1, DR.length h2]
  | .list c, _, _, h => by
    rcases h with ⟨rfl, _⟩ | ⟨b, o, cap, rfl, _⟩
    · rfl
    · rfl

/-- A datum stays where what it reads stays. -/
theorem DR.mono {w w' : World} {ok ok' : Nat → Prop} (hs : w.heap.size ≤ w'.heap.size) (h : ∀ b, b < w.heap.size → ok b → ok' b ∧ w'.heap[b]? = w.heap[b]?) :
    ∀ {c : Cd} {x : El c} {cs : List Value}, DR w ok c x cs → DR w' ok' c x cs
  | .i _, _, _, hh => hh
  | .bool, _, _, hh => hh
  | .str, _, _, hh => hh
  | .unit, _, _, hh => hh
  | .pair a b, _, _, hh => by
    obtain ⟨c1, c2, rfl, h1, h2⟩ := hh
    exact ⟨c1, c2, rfl, DR.mono hs h h1, DR.mono hs h h2⟩
  | .list c, xs, _, hh => by
    rcases hh with hh | ⟨b, o, cap, hcs, hc, hokb, hcap, hel⟩
    · exact .inl hh
    · rcases Nat.eq_zero_or_pos cap with h0 | hpos
      · subst h0
        have hx : xs = [] := List.eq_nil_of_length_eq_zero (by omega)
        subst hx
        exact .inr ⟨b, o, 0, hcs, hc, fun h => by omega, fun j hj => by simp at hj, fun i x hx => by simp at hx⟩
      · obtain ⟨hok, hb⟩ := hokb hpos
        have hk := h b hb hok
        refine .inr ⟨b, o, cap, hcs, hc, fun _ => ⟨hk.1, by omega⟩, fun j hj => ?_, fun i x hx => ?_⟩
        · rw [World.cell?_of_block (w := w) hk.2]; exact hcap j hj
        · obtain ⟨cs', hd, hv⟩ := hel i x hx
          exact ⟨cs', DR.mono hs h hd, fun j v hj => by rw [World.cell?_of_block (w := w) hk.2]; exact hv j v hj⟩

/-- Without slices nothing is asked of the world. -/
theorem DR.flat {w w' : World} {ok ok' : Nat → Prop} : ∀ {c : Cd} {x : El c} {cs : List Value}, cflat c = true → DR w ok c x cs → DR w' ok' c x cs
  | .i _, _, _, _, hh => hh
  | .bool, _, _, _, hh => hh
  | .str, _, _, _, hh => hh
  | .unit, _, _, _, hh => hh
  | .pair a b, _, _, hf, hh => by
    obtain ⟨c1, c2, rfl, h1, h2⟩ := hh
    simp only [cflat, Bool.and_eq_true] at hf
    exact ⟨c1, c2, rfl, DR.flat hf.1 h1, DR.flat hf.2 h2⟩
  | .list c, _, _, hf, _ => by simp [cflat] at hf

theorem DR.oneCell {w : World} {ok : Nat → Prop} : ∀ {c : Cd} {x : El c} {cs : List Value}, DR w ok c x cs → ∀ v ∈ cs, v.oneCell' = true
  | .i _, _, _, h, v, hv => by simp only [DR] at h; subst h; simp at hv; subst hv; rfl
  | .bool, _, _, h, v, hv => by simp only [DR] at h; subst h; simp at hv; subst hv; rfl
  | .str, _, _, h, v, hv => by simp only [DR] at h; subst h; simp at hv; subst hv; rfl
  | .unit, _, _, h, v, hv => by simp only [DR] at h; subst h; simp at hv
  | .pair a b, _, _, h, v, hv => by
    obtain ⟨c1, c2, rfl, h1, h2⟩ := h
    rcases List.mem_append.1 hv with hv | hv
    · exact DR.oneCell h1 v hv
    · exact DR.oneCell h2 v hv
  | .list c, _, _, h, v, hv => by
    rcases h with ⟨rfl, _⟩ | ⟨b, o, cap, rfl, _⟩
    · simp at hv; subst hv; rfl
    · simp at hv; subst hv; rfl

/-- What stands around a state: names' places, which blocks a mark lets a slice lie in, which blocks are owned, the world. -/
structure Cx where
  g : Nat → Option Loc
  S : Nat → Nat → Prop
  ow : Nat → Prop
  w : World

def Cx.ok (C : Cx) (org : Nat) : Nat → Prop := fun b => C.S org b ∧ ¬ C.ow b

def PR (C : Cx) (org : Nat) (c : Cd) (x : El c) (off : Nat) (v : Value) : Prop :=
  ∃ b o cs, v = .pointer (some ⟨b, o + off, none⟩) ∧ ¬ C.ow b ∧ b < C.w.heap.size ∧ DR C.w (C.ok org) c x cs ∧ ∀ (j : Nat) u, cs[j]? = some u → C.w.cell? ⟨b, o + j, none⟩ = some u

def CapR (C : Cx) : Cap → Value → Prop
  | .ptr id, v => ∃ l, C.g id = some l ∧ v = .pointer (some ⟨l.b, 0, none⟩)
  | .pp org c x, v => PR C org c x 0 v

def SR (C : Cx) : Sc → Value → Prop
  | .und, _ => True
  | .skip, v => v = undef
  | .int k n, v => v = .int k n
  | .bool b, v => v = .bool b
  | .str s, v => v = .string ⟨s.toArray⟩
  | .ps org c xs, v => DR C.w (C.ok org) (.list c) xs [v]
  | .nils, v => v = .slice none 0 0
  | .own id, v => ∃ l, C.g id = some l ∧ v = l.sl
  | .sub id lo hi, v => ∃ l, C.g id = some l ∧ lo ≤ hi ∧ hi ≤ l.n ∧ l.n ≤ l.cap ∧ (l.nil = true → hi = 0) ∧ v = l.sub lo hi
  | .ptr id off, v => ∃ l, C.g id = some l ∧ v = .pointer (some ⟨l.b, off, none⟩)
  | .pel id i off, v => ∃ l, C.g id = some l ∧ i < l.n ∧ v = .pointer (some ⟨l.b, l.o + i * l.sz + off, none⟩)
  | .pp org c x off, v => PR C org c x off v
  | .fn f caps, v => ∃ cs : Array Value, v = .func (.func f) #[] cs ∧ All2 (CapR C) caps cs.toList
  | .mp id, v => ∃ l, C.g id = some l ∧ v = .map (some l.b)
  | .nilp, v => v = .pointer none
  | .nilI, v => v = .nilIface
  | .errI, v => ∃ t x, v = .iface t x

def VR (C : Cx) : Val → Value → Prop
  | .one s, v => SR C s v
  | .agg cs, v => ∃ arr : Array Value, v = .agg arr ∧ All2 (SR C) cs arr.toList

def TR (C : Cx) : T → Value → Prop
  | .v x, v => VR C x v
  | .tup vs, v => ∃ arr : Array Value, v = .tuple arr ∧ All2 (VR C) vs arr.toList

/-- From one setting to a later one: names keep their places; what nobody owns is as it was, and nobody comes to own it. -/
structure Later (C C' : Cx) : Prop where
  g : ∀ id l, C.g id = some l → C'.g id = some l
  S : C'.S = C.S
  ow : ∀ b, b < C.w.heap.size → ¬ C.ow b → ¬ C'.ow b ∧ C'.w.heap[b]? = C.w.heap[b]?
  size : C.w.heap.size ≤ C'.w.heap.size

theorem Later.refl (C : Cx) : Later C C := ⟨fun _ _ h => h, rfl, fun _ _ h => ⟨h, rfl⟩, Nat.le_refl _⟩

theorem Later.trans {C D F : Cx} (h : Later C D) (k : Later D F) : Later C F :=
  ⟨fun id l e => k.g id l (h.g id l e), k.S.trans h.S, fun b hb ho => by
    obtain ⟨h1, h2⟩ := h.ow b hb ho
    obtain ⟨h3, h4⟩ := k.ow b (Nat.lt_of_lt_of_le hb h.size) h1
    exact ⟨h3, h4.trans h2⟩, Nat.le_trans h.size k.size⟩

section
variable {C C' : Cx} (h : Later C C')
include h

theorem Later.dr {org : Nat} {c : Cd} {x : El c} {cs : List Value} (hd : DR C.w (C.ok org) c x cs) : DR C'.w (C'.ok org) c x cs :=
  hd.mono h.size fun b hb hok => by
    obtain ⟨h1, h2⟩ := h.ow b hb hok.2
    exact ⟨⟨by rw [h.S]; exact hok.1, h1⟩, h2⟩

theorem Later.pr {org : Nat} {c : Cd} {x : El c} {off : Nat} {v : Value} (hp : PR C org c x off v) : PR C' org c x off v := by
  obtain ⟨b, o, cs, hv, hok, hb, hd, hc⟩ := hp
  obtain ⟨h1, h2⟩ := h.ow b hb hok
  exact ⟨b, o, cs, hv, h1, Nat.lt_of_lt_of_le hb h.size, h.dr hd, fun j u hj => by rw [World.cell?_of_block (w := C.w) h2]; exact hc j u hj⟩

theorem Later.capR {p : Cap} {v : Value} (hp : CapR C p v) : CapR C' p v := by
  cases p with
  | ptr id => obtain ⟨l, hl, hv⟩ := hp; exact ⟨l, h.g _ _ hl, hv⟩
  | pp org c x => exact h.pr hp

theorem Later.sr {s : Sc} {v : Value} (hs : SR C s v) : SR C' s v := by
  cases s with
  | ps org c xs => exact h.dr hs
  | own id => obtain ⟨l, hl, hv⟩ := hs; exact ⟨l, h.g _ _ hl, hv⟩
  | sub id lo hi => obtain ⟨l, hl, hv⟩ := hs; exact ⟨l, h.g _ _ hl, hv⟩
  | ptr id off => obtain ⟨l, hl, hv⟩ := hs; exact ⟨l, h.g _ _ hl, hv⟩
  | pel id i off => obtain ⟨l, hl, hv⟩ := hs; exact ⟨l, h.g _ _ hl, hv⟩
  | pp org c x off => exact h.pr hs
  | fn f caps => obtain ⟨cs, hv, ha⟩ := hs; exact ⟨cs, hv, ha.mono fun _ _ => h.capR⟩
  | mp id => obtain ⟨l, hl, hv⟩ := hs; exact ⟨l, h.g _ _ hl, hv⟩
  | _ => exact hs

theorem Later.vr {x : Val} {v : Value} (hs : VR C x v) : VR C' x v := by
  cases x with
  | one s => exact h.sr hs
  | agg cs => obtain ⟨arr, hv, ha⟩ := hs; exact ⟨arr, hv, ha.mono fun _ _ => h.sr⟩

theorem Later.tr {t : T} {v : Value} (hs : TR C t v) : TR C' t v := by
  cases t with
  | v x => exact h.vr hs
  | tup vs => obtain ⟨arr, hv, ha⟩ := hs; exact ⟨arr, hv, ha.mono fun _ _ => h.vr⟩
end

/-- An owned block. -/
def BR (C : Cx) : Blk → Loc → Prop
  | .box cs, l => (l.o = 0 ∧ l.nil = false) ∧ ∃ arr t, C.w.heap[l.b]? = some (.cells arr t (0, 0)) ∧ All2 (SR C) cs arr.toList
  | .vec org c xs, l => (l.nil = true ∧ xs = [] ∧ l.n = 0 ∧ l.cap = 0 ∧ l.sz = csize c ∧ (l.ad = none ∨ ∃ b o, l.ad = some ⟨b, o, none⟩)) ∨ l.nil = false ∧ C.S org l.b ∧ l.n = xs.length ∧ l.n ≤ l.cap ∧ l.sz = csize c ∧
      ∃ arr t, C.w.heap[l.b]? = some (.cells arr t (0, 0)) ∧ l.o + l.cap * l.sz ≤ arr.size ∧
        ∀ (i : Nat) (x : El c), xs[i]? = some x → ∃ cs, DR C.w (C.ok org) c x cs ∧ ∀ (j : Nat) v, cs[j]? = some v → arr[l.o + i * l.sz + j]? = some v
  | .mp _ _ _, _ => False

theorem Later.br {C C' : Cx} (h : Later C C') {b : Blk} {l : Loc} (hw : l.nil = false → C'.w.heap[l.b]? = C.w.heap[l.b]?) (hb : BR C b l) : BR C' b l := by
  cases b with
  | box cs => obtain ⟨h0, arr, t, ha, hc⟩ := hb; exact ⟨h0, arr, t, (hw h0.2).trans ha, hc.mono fun _ _ => h.sr⟩
  | vec org c xs =>
    rcases hb with hb | ⟨hl, hS, hn, hc, hz, arr, t, ha, hs, he⟩
    · exact .inl hb
    exact .inr ⟨hl, by rw [h.S]; exact hS, hn, hc, hz, arr, t, hw hl |>.trans ha, hs, fun i x hx => by
      obtain ⟨cs, hd, hv⟩ := he i x hx
      exact ⟨cs, h.dr hd, hv⟩⟩
  | mp _ _ _ => exact hb.elim

/-- What an activation began with: its world, the marks' blocks, and the older blocks that it may write. -/
structure Base where
  w0 : World
  S : Nat → Nat → Prop
  X : Nat → Prop
  mono : ∀ m m' b, orgLe m m' = true → S m b → S m' b
  new : ∀ m b, w0.heap.size ≤ b → S m b
  own : ∀ m b, X b → S m b
  pin : Nat → Option Loc
  pinned : ∀ id l, pin id = some l → id % 8 = 5

def Plain (o : Option Obj) : Prop := ∃ arr t, o = some (.cells arr t (0, 0))

/-- What an activation has left alone. -/
structure Fr (A : Base) (w : World) : Prop where
  os : w.os = A.w0.os
  tape : w.tape = A.w0.tape
  output : w.output = A.w0.output
  size : A.w0.heap.size ≤ w.heap.size
  old : ∀ k, k < A.w0.heap.size → ¬ A.X k → w.heap[k]? = A.w0.heap[k]?
  plain : ∀ k, k < w.heap.size → (A.w0.heap.size ≤ k ∨ A.X k) → Plain w.heap[k]?

def owOf (g : Nat → Option Loc) (B : Nat → BS) : Nat → Prop := fun b => ∃ id blk l, B id = .live blk ∧ g id = some l ∧ l.nil = false ∧ l.b = b

def cxOf (A : Base) (g : Nat → Option Loc) (B : Nat → BS) (w : World) : Cx := ⟨g, A.S, owOf g B, w⟩

/-- The memory of a state. -/
structure Mem (A : Base) (g : Nat → Option Loc) (B : Nat → BS) (w : World) : Prop where
  br : ∀ id b, B id = .live b → ∃ l, g id = some l ∧ BR (cxOf A g B w) b l ∧ (l.nil = false → l.b < w.heap.size ∧ (A.w0.heap.size ≤ l.b ∨ A.X l.b))
  ro : ∀ id org c xs, B id = .ro org c xs → ∃ l, g id = some l ∧ DR w ((cxOf A g B w).ok org) (.list c) xs [l.sl] ∧ l.sz = csize c ∧ l.n = xs.length ∧ l.n ≤ l.cap
  inj : ∀ id id' b b' l l', B id = .live b → B id' = .live b' → g id = some l → g id' = some l' → l.nil = false → l'.nil = false → l.b = l'.b → id = id'
  fresh : ∀ id, B id = .fresh → g id = none
  pin : ∀ id l, A.pin id = some l → B id ≠ .fresh ∧ (isLive B id = true → g id = some l)
  fr : Fr A w

/-- A state of the ideal interpreter is a state of the machine. -/
structure Inv (A : Base) (n : Nat) (g : Nat → Option Loc) (st : St) (a : Act) (w : World) : Prop where
  tm : ∀ t, TR (cxOf A g st.bk w) (st.tm t) (a.tmps.getD t undef)
  mem : Mem A g st.bk w
  df : a.defers = []
  sz : n ≤ a.tmps.size

end Ai
end Go.Proofs.Ytpknhlnoaehffaa
