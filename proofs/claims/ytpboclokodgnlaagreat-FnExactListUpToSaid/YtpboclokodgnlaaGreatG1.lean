/-
  The ideal interpreter: typed values, memory by name, no tape and no order of evaluation.
-/
import Derived.Orders
import Derived.WalkKit
import Derived.Below
import Derived.Deep.MidRow
import Derived.Laws.Strings
import Derived.Laws.Concat
import Derived.Laws.Tables
import Derived.WalkSpells
/-! A1: The ideal interpreter: typed values, memory by name, no tape and no order of evaluation. -/
namespace Go.Proofs.YtpboclokodgnlaaGreat
namespace Ai

/-- Codes of plain data. -/
inductive Cd where
  | i (k : IntKind) | bool | str | list (c : Cd) | pair (a b : Cd) | unit
  deriving DecidableEq

@[reducible] def El : Cd → Type
  | .i _ => Int
  | .bool => Bool
  | .str => List UInt8
  | .list c => List (El c)
  | .pair a b => El a × El b
  | .unit => Unit

def csize : Cd → Nat
  | .pair a b => csize a + csize b
  | .unit => 0
  | _ => 1

/-- No slice inside. -/
def cflat : Cd → Bool
  | .pair a b => cflat a && cflat b
  | .list _ => false
  | _ => true

def dflt : (c : Cd) → El c
  | .i _ => (0 : Int)
  | .bool => false
  | .str => []
  | .list _ => []
  | .pair a b => (dflt a, dflt b)
  | .unit => ()

/-- What a closure has captured: a pointer to a variable of this call, or to one that is only read. -/
inductive Cap where
  | ptr (id : Nat)
  | pp (org : Nat) (c : Cd) (x : El c)

/-- What one cell holds. -/
inductive Sc where
  | und
  | skip
  | int (k : IntKind) (n : Int)
  | bool (b : Bool)
  | str (s : List UInt8)
  | ps (org : Nat) (c : Cd) (xs : List (El c))
  | psn (org : Nat) (c : Cd) (xs : List (El c))
  | boolU
  | nils
  | own (id : Nat)
  | sub (id lo hi : Nat)
  | ptr (id off : Nat)
  | pel (id i off : Nat)
  | pp (org : Nat) (c : Cd) (x : El c) (off : Nat)
  | fn (f : FuncId) (caps : List Cap)
  | mp (id : Nat)
  | nilp | nilI | errI

inductive Val where
  | one (s : Sc)
  | agg (cs : List Sc)

inductive T where
  | v (x : Val)
  | tup (vs : List Val)

inductive Blk where
  | box (cs : List Sc)
  | vec (org : Nat) (c : Cd) (xs : List (El c))
  | mp (kc vc : Cd) (es : List (El kc × El vc))

/-- A name's block: not made yet; given up; owned; a slice that nobody writes any more. -/
inductive BS where
  | fresh | dead
  | live (b : Blk)
  | ro (org : Nat) (c : Cd) (xs : List (El c))

structure St where
  tm : Nat → T
  bk : Nat → BS

def Val.cells : Val → List Sc
  | .one s => [s]
  | .agg cs => cs

/-- The cells of a datum. -/
def scells (org : Nat) : (c : Cd) → El c → List Sc
  | .i k, n => [.int k n]
  | .bool, b => [.bool b]
  | .str, s => [.str s]
  | .list c, xs => [.ps org c xs]
  | .pair a b, x => scells org a x.1 ++ scells org b x.2
  | .unit, _ => []

def mkVal (agg : Bool) (cs : List Sc) : Val :=
  match agg, cs with
  | false, [s] => .one s
  | _, cs => .agg cs

def castL {c c' : Cd} (h : c' = c) (xs : List (El c')) : List (El c) := h ▸ xs

/-- The part of a list between two places. -/
def cut {α : Type} (lo hi : Nat) (xs : List α) : List α := (xs.take hi).drop lo

structure Vc where
  org : Nat
  c : Cd
  xs : List (El c)

/-- A named slice. -/
def vecOf (B : Nat → BS) (id : Nat) : Option Vc :=
  match B id with
  | .live (.vec org c xs) => some ⟨org, c, xs⟩
  | .ro org c xs => some ⟨org, c, xs⟩
  | _ => none

def isLive (B : Nat → BS) (id : Nat) : Bool :=
  match B id with
  | .live _ => true
  | _ => false

/-- A slice's content. -/
def listOf (B : Nat → BS) (c : Cd) : Sc → Option (List (El c))
  | .ps _ c' xs => if h : c' = c then some (castL h xs) else none
  | .psn _ c' xs => if h : c' = c then some (castL h xs) else none
  | .nils => some []
  | .own id => match vecOf B id with
    | some v => if h : v.c = c then some (castL h v.xs) else none
    | none => none
  | .sub id lo hi => match vecOf B id with
    | some v => if h : v.c = c then some (cut lo hi (castL h v.xs)) else none
    | none => none
  | _ => none

/-- Cells read as a datum. -/
def decC (B : Nat → BS) : (c : Cd) → List Sc → Option (El c)
  | .i k, cs => match cs with
    | [.int k' n] => if k' = k then some n else none
    | _ => none
  | .bool, cs => match cs with
    | [.bool b] => some b
    | _ => none
  | .str, cs => match cs with
    | [.str s] => some s
    | _ => none
  | .list c, cs => match cs with
    | [s] => listOf B c s
    | _ => none
  | .pair a b, cs => match decC B a (cs.take (csize a)), decC B b (cs.drop (csize a)) with
    | some x, some y => some (x, y)
    | _, _ => none
  | .unit, cs => match cs with
    | [] => some ()
    | _ => none

/-- Where a cell's slices come from (a set of parameters, as bits). -/
def orgS (B : Nat → BS) : Sc → Nat
  | .ps org _ _ => org
  | .psn org _ _ => org
  | .own id | .sub id _ _ => match vecOf B id with
    | some v => v.org
    | none => 0
  | _ => 0

def orgL (B : Nat → BS) : List Sc → Nat
  | [] => 0
  | s :: r => orgS B s ||| orgL B r

/-- The owned slices that cells name. -/
def idsL : List Sc → List Nat
  | [] => []
  | .own id :: r | .sub id _ _ :: r => id :: idsL r
  | _ :: r => idsL r

/-- The owned slices that cells name, and that are still owned. -/
def liveL (B : Nat → BS) (cs : List Sc) : List Nat := (idsL cs).filter (isLive B)

/-- Slices that are not written any more. -/
def frzL (B : Nat → BS) : List Nat → List (Nat × BS)
  | [] => []
  | id :: r => match B id with
    | .live (.vec org c xs) => (id, .ro org c xs) :: frzL B r
    | _ => frzL B r

def orgLe (a b : Nat) : Bool := (a ||| b) == b

def upd {α : Type} (f : Nat → α) (k : Nat) (x : α) : Nat → α := fun n => cond (Nat.beq n k) x (f n)

def St.put (st : St) (dst : Option Tmp) (t : T) : St :=
  match dst with
  | some d => { st with tm := upd st.tm d t }
  | none => st

def applyB (B : Nat → BS) : List (Nat × BS) → Nat → BS
  | [] => B
  | (id, b) :: r => applyB (upd B id b) r

/-! ### Types -/

def isAggT (P : Program) (t : TypeId) : Option Bool :=
  match P.underlying t with
  | some (.struct _) | some (.array _ _) => some true
  | some _ => some false
  | none => none

def szT (P : Program) (t : TypeId) : Option Nat := (P.info? t).map (·.size)

def pairs : List Cd → Cd
  | [] => .unit
  | [c] => c
  | c :: d :: r => .pair c (pairs (d :: r))

/-- The code of a type. -/
def tcode (P : Program) : Nat → TypeId → Option Cd
  | 0, _ => none
  | n + 1, t =>
    match P.underlying t with
    | some (.int k) => some (.i k)
    | some .bool => some .bool
    | some .string => some .str
    | some (.slice e) => (tcode P n e).map .list
    | some (.struct fs) => (fs.toList.mapM fun f => tcode P n f.type).map pairs
    | _ => none

def elemT (P : Program) (t : TypeId) : Option TypeId :=
  match P.underlying t with
  | some (.slice e) => some e
  | _ => none

def ofOne : Value → Option Sc
  | .int k n => some (.int k n)
  | .bool b => some (.bool b)
  | .string s => some (.str s.data.toList)
  | .slice none 0 0 => some .nils
  | .nilIface => some .nilI
  | .pointer none => some .nilp
  | _ => none

def ofValue : Value → Option Val
  | .agg cs => (cs.toList.mapM ofOne).map .agg
  | v => (ofOne v).map .one

def evalO (tm : Nat → T) : Operand → T
  | .tmp t => tm t
  | .const v => match ofValue v with
    | some x => .v x
    | none => .v (.one .und)
  | .global _ => .v (.one .und)
  | .func f => .v (.one (.fn f []))

end Ai
end Go.Proofs.YtpboclokodgnlaaGreat

/-! A2: The ideal interpreter: operations, regions, code; with a continuation, so that the kernel reckons straight on. -/
namespace Go.Proofs.YtpboclokodgnlaaGreat
namespace Ai

/-! ### Shapes of what goes over a call's edge -/

inductive ASh where
  | d (c : Cd) (agg : Bool)
  | own (c : Cd)
  | ref (c : Cd)
  | rbox (c : Cd)
  | clo (f : FuncId) (caps : List Cd)
  | rp (c : Cd)
  | rag (a e : Cd)
  | k (s : Sc)

structure RSh where
  c : Cd
  agg : Bool
  org : Nat

structure FI where
  f : FuncId
  as : List ASh
  rs : List RSh

/-- Parts of a state at a loop's head or behind a loop. -/
inductive It where
  | sl (t org : Nat) (agg : Bool) (c : Cd)
  | so (t org : Nat) (c : Cd)
  | sk (t : Nat) (s : Sc)
  | cl (t : Nat) (f : FuncId) (org : Nat) (caps : List Cd)
  | rp (t org : Nat) (c : Cd)
  | bx (id n : Nat)
  | bd (id j org : Nat) (c : Cd)
  | bo (id j org : Nat) (c : Cd)
  | bk (id j : Nat) (s : Sc)
  | vc (id org : Nat) (c : Cd)
  | mp (id : Nat) (kc vc : Cd)
  | sb (t id : Nat)

inductive Ex where
  | nrm | ret
  | exit (id : Nat)
  deriving DecidableEq

@[reducible] def Tup : List Cd → Type
  | [] => Unit
  | [c] => El c
  | c :: d :: r => El c × Tup (d :: r)

def tcons {c : Cd} (x : El c) : {r : List Cd} → Tup r → Tup (c :: r)
  | [], _ => x
  | _ :: _, y => (x, y)

def thd {c : Cd} : {r : List Cd} → Tup (c :: r) → El c
  | [], x => x
  | _ :: _, x => x.1

def ttl {c : Cd} : {r : List Cd} → Tup (c :: r) → Tup r
  | [], _ => ()
  | _ :: _, x => x.2

def acode1 : ASh → Option Cd
  | .d c _ => some c
  | .own c | .ref c => some (.list c)
  | .rbox c => some c
  | .clo _ caps => some (pairs caps)
  | .rp c => some c
  | .rag a e => some (.pair a (.list e))
  | .k _ => none

def acodes : List ASh → List Cd
  | [] => []
  | .d c _ :: r => c :: acodes r
  | .own c :: r | .ref c :: r => .list c :: acodes r
  | .rbox c :: r => c :: acodes r
  | .clo _ caps :: r => pairs caps :: acodes r
  | .rp c :: r => c :: acodes r
  | .rag a e :: r => .pair a (.list e) :: acodes r
  | .k _ :: r => acodes r

/-- What comes back beside the results: the content of what was lent. -/
def outs : List ASh → List Cd
  | [] => []
  | .ref c :: r => .list c :: outs r
  | .rag _ e :: r => .list e :: outs r
  | .rbox c :: r => c :: outs r
  | _ :: r => outs r

def rcodes : List RSh → List ASh → List Cd
  | [], as => outs as
  | r :: rs, as => r.c :: rcodes rs as

def icodes : List It → List Cd
  | [] => []
  | .sl _ _ _ c :: r => c :: icodes r
  | .cl _ _ _ caps :: r => pairs caps :: icodes r
  | .rp _ _ c :: r => c :: icodes r
  | .so _ _ c :: r => .list c :: icodes r
  | .bd _ _ _ c :: r => c :: icodes r
  | .bo _ _ _ c :: r => .list c :: icodes r
  | .vc _ _ c :: r => .list c :: icodes r
  | .mp _ kc vc :: r => .list (.pair kc vc) :: icodes r
  | .sb _ _ :: r => .pair (.i .i64) (.i .i64) :: icodes r
  | .sk _ _ :: r | .bx _ _ :: r | .bk _ _ _ :: r => icodes r

abbrev Exs := List (Ex × List It)

@[reducible] def ExT : Exs → Type
  | [] => Empty
  | [(_, s)] => Tup (icodes s)
  | (_, s) :: d :: r => Tup (icodes s) ⊕ ExT (d :: r)

inductive Key where
  | fn (i : FI)
  | lp (f n : Nat) (ex : Exs) (h : List It)

@[reducible] def Dom : Key → Type
  | .fn i => Tup (acodes i.as)
  | .lp _ _ _ h => Tup (icodes h)

@[reducible] def Cod : Key → Type
  | .fn i => Tup (rcodes i.rs i.as)
  | .lp _ _ ex _ => ExT ex

abbrev Orc := (k : Key) → Dom k → Option (Cod k)

/-- What the interpreter is told of the program beside its text. -/
structure Env where
  P : Program
  fi : FuncId → List FI
  heads : Nat → Nat → List (List It)
  exits : Nat → Nat → Exs
  eqT : List (TypeId × List Cd)
  mutF : List FuncId
  srcT : List ((Nat × Nat × Nat) × List Nat) := []
  joinT : List (Nat × Nat) := []
  tabs : List (Nat × (Array Value → Prop)) := []
  loose : Bool := false
  isExt : FuncId → Bool := fun _ => false
  exf : (i : FI) → Dom (.fn i) → Option (Cod (.fn i)) := fun _ _ => none
  xcd : Nat → St → Option (Bool × St) := fun _ _ => none

def LIM : Nat := 4194304

section
variable (E : Env) {R : Type}

abbrev Dl := List (Nat × BS)

def mkB (B : Nat → BS) (id : Nat) (b : Blk) (t : T) (k : T → Dl → Option R) : Option R :=
  match B id with
  | .fresh => k t [(id, .live b)]
  | _ => none

def rd {α : Type} (xs : List α) (i : Int) : Option α := cond (decide (0 ≤ i)) (xs[i.toNat]?) none

def one (s : Sc) : T := .v (.one s)

def chk (b : Bool) (k : Option R) : Option R := cond b k none

/-- Bytes of a string that the program has as a constant, etc. -/
def ofInts (xs : List Int) : List UInt8 := xs.map fun n => UInt8.ofNat n.toNat
def toInts (s : List UInt8) : List Int := s.map fun b => (b.toNat : Int)

def intBin (op : BinOp) (k : IntKind) (a b : Int) (K : Sc → Option R) : Option R :=
  match op with
  | .add => K (.int k (k.wrap (a + b)))
  | .sub => K (.int k (k.wrap (a - b)))
  | .mul => K (.int k (k.wrap (a * b)))
  | .quo => cond (decide (b = 0)) none (K (.int k (k.wrap (a.tdiv b))))
  | .rem => cond (decide (b = 0)) none (K (.int k (a.tmod b)))
  | .and => K (.int k (k.wrap (BitVec.ofInt k.bits a &&& BitVec.ofInt k.bits b).toNat))
  | .or => K (.int k (k.wrap (BitVec.ofInt k.bits a ||| BitVec.ofInt k.bits b).toNat))
  | .xor => K (.int k (k.wrap (BitVec.ofInt k.bits a ^^^ BitVec.ofInt k.bits b).toNat))
  | .eql => K (.bool (decide (a = b)))
  | .neq => K (.bool (!decide (a = b)))
  | .lss => K (.bool (decide (a < b)))
  | .leq => K (.bool (decide (a ≤ b)))
  | .gtr => K (.bool (decide (b < a)))
  | .geq => K (.bool (decide (b ≤ a)))
  | _ => none

def shiftBin (op : BinOp) (k : IntKind) (a b : Int) (K : Sc → Option R) : Option R :=
  match op with
  | .shl => cond (decide (b < 0)) none (K (.int k (k.wrap (a * 2 ^ (min b.toNat k.bits)))))
  | .shr => cond (decide (b < 0)) none (K (.int k (a.fdiv (2 ^ (min b.toNat k.bits)))))
  | _ => none

def strBin (op : BinOp) (a b : List UInt8) (K : Sc → Option R) : Option R :=
  match op with
  | .add => cond (decide (a.length + b.length ≤ 1099511627776)) (K (.str (a ++ b))) none
  | .eql => K (.bool (decide (a = b)))
  | .neq => K (.bool (!decide (a = b)))
  | .lss => K (.bool (Op.bytesLess a b))
  | _ => none

def eqCells : List Cd → List Sc → List Sc → Option Bool
  | [], [], [] => some true
  | .i k :: ks, .int k1 a :: r, .int k2 b :: s => if k1 = k ∧ k2 = k then (eqCells ks r s).map (decide (a = b) && ·) else none
  | .bool :: ks, .bool a :: r, .bool b :: s => (eqCells ks r s).map (decide (a = b) && ·)
  | .str :: ks, .str a :: r, .str b :: s => (eqCells ks r s).map (decide (a = b) && ·)
  | _, _, _ => none

/-- The leaves of a type whose values are compared. -/
def eqTyp : List (TypeId × List Cd) → TypeId → Option (List Cd)
  | [], _ => none
  | (u, ks) :: r, t => cond (Nat.beq u t) (some ks) (eqTyp r t)

/-- A slice against nil: is it nil? -/
def isNil (B : Nat → BS) (s : Sc) (K : Bool → Option R) : Option R :=
  match s with
  | .nils => K true
  | .own id => match vecOf B id with
    | some v => cond v.xs.isEmpty none (K false)
    | none => none
  | .ps _ _ xs => cond xs.isEmpty none (K false)
  | .psn _ _ xs => K xs.isEmpty
  | _ => none

/-- A slice of which nobody knows whether it is nil. -/
def unkNil : Sc → Bool
  | .ps _ _ xs => xs.isEmpty
  | _ => false

open Classical in
/-- Whichever way is gone: both come to the same. -/
noncomputable def both {R : Type} (a b : Option R) : Option R := if a = b then a else none

theorem both_some {R : Type} {a b : Option R} {r : R} (h : both a b = some r) : a = some r ∧ b = some r := by
  unfold both at h
  split at h
  · rename_i e
    exact ⟨h, e ▸ h⟩
  · cases h

theorem both_self {R : Type} {a : Option R} : both a a = a := by
  unfold both; rw [if_pos rfl]

def neg1 (op : BinOp) (b : Bool) : Option Bool :=
  match op with
  | .eql => some b
  | .neq => some (!b)
  | _ => none

def isConst : Operand → Bool
  | .const _ => true
  | _ => false

def binK (B : Nat → BS) (op : BinOp) (t : TypeId) (cy : Bool) (x y : T) (k : T → Dl → Option R) : Option R :=
  match x, y with
  | .v (.one (.int ka a)), .v (.one (.int kb b)) =>
    match op with
    | .shl | .shr => shiftBin op ka a b fun s => k (one s) []
    | _ => if ka = kb then intBin op ka a b fun s => k (one s) [] else none
  | .v (.one (.str a)), .v (.one (.str b)) => strBin op a b fun s => k (one s) []
  | .v (.one (.bool a)), .v (.one (.bool b)) =>
    match E.P.underlying t, neg1 op (decide (a = b)) with
    | some .bool, some r => k (one (.bool r)) []
    | _, _ => none
  | .v (.agg xs), .v (.agg ys) =>
    match eqTyp E.eqT t with
    | some ks => match eqCells ks xs ys with
      | some b => match neg1 op b with
        | some r => k (one (.bool r)) []
        | none => none
      | none => none
    | none => none
  | .v (.one s), .v (.one .nils) =>
    match E.P.underlying t with
    | some (.slice _) => cond (unkNil s) (match neg1 op true with
      | some _ => k (one .boolU) []
      | none => none) (isNil B s fun b => match neg1 op b with
      | some r => k (one (.bool r)) []
      | none => none)
    | _ => none
  | .v (.one s), .v (.one .nilI) =>
    match E.P.underlying t, s with
    | some (.interface _), .errI => match neg1 op false with
      | some r => k (one (.bool r)) []
      | none => none
    | some (.interface _), .nilI => match cy, neg1 op true with
      | true, some r => k (one (.bool r)) []
      | _, _ => none
    | _, _ => none
  | _, _ => none

def unK (op : UnOp) (x : T) (k : T → Dl → Option R) : Option R :=
  match op, x with
  | .neg, .v (.one (.int ki n)) => k (one (.int ki (ki.wrap (0 - n)))) []
  | .not, .v (.one (.bool b)) => k (one (.bool (!b))) []
  | _, _ => none

/-- How many elements a slice has. -/
def lenS (B : Nat → BS) : Sc → Option Nat
  | .ps _ _ xs => some xs.length
  | .psn _ _ xs => some xs.length
  | .nils => some 0
  | .own id => match vecOf B id with
    | some v => some v.xs.length
    | none => none
  | .sub _ lo hi => some (hi - lo)
  | _ => none

def convK (B : Nat → BS) (src dst : TypeId) (x : T) (k : T → Dl → Option R) : Option R :=
  match E.P.underlying src, E.P.underlying dst, x with
  | some (.int _), some (.int kd), .v (.one (.int _ n)) => k (one (.int kd (kd.wrap n))) []
  | some .string, some .string, .v (.one (.str s)) => k (one (.str s)) []
  | some (.slice e), some .string, .v (.one s) =>
    match E.P.underlying e, listOf B (.i .u8) s with
    | some (.int .u8), some xs => k (one (.str (ofInts xs))) []
    | _, _ => none
  | _, _, _ => none

/-- Cells written over a row of cells. -/
def splice (cs : List Sc) (off : Nat) (vs : List Sc) : Option (List Sc) :=
  if off + vs.length ≤ cs.length then some (cs.take off ++ vs ++ cs.drop (off + vs.length)) else none

def noUnd : List Sc → Bool
  | [] => true
  | .und :: _ | .skip :: _ => false
  | _ :: r => noUnd r

def loadCs (cs : List Sc) (agg : Bool) (off sz : Nat) (k : T → Dl → Option R) : Option R :=
  match agg with
  | true => if off + sz ≤ cs.length then k (.v (.agg ((cs.drop off).take sz))) [] else none
  | false => match cs[off]? with
    | some s => k (one s) []
    | none => none

def loadK (B : Nat → BS) (t : TypeId) (a : T) (k : T → Dl → Option R) : Option R :=
  match isAggT E.P t, szT E.P t, a with
  | some agg, some sz, .v (.one (.ptr id off)) => match B id with
    | .live (.box cs) => loadCs cs agg off sz k
    | _ => none
  | some agg, some sz, .v (.one (.pel id i off)) => match vecOf B id with
    | some v => loadCs (scells v.org v.c (v.xs.getD i (dflt v.c))) agg off sz k
    | none => none
  | some agg, some sz, .v (.one (.pp org c x off)) => loadCs (scells org c x) agg off sz k
  | _, _, _ => none

def storeK (B : Nat → BS) (t : TypeId) (a v : T) (k : Dl → Option R) : Option R :=
  match szT E.P t, a, v with
  | some sz, .v (.one (.ptr id off)), .v x =>
    if x.cells.length = sz ∧ noUnd x.cells then
      match B id with
      | .live (.box cs) => match splice cs off x.cells with
        | some cs' => k [(id, .live (.box cs'))]
        | none => none
      | _ => none
    else none
  | some sz, .v (.one (.pel id i off)), .v x =>
    if x.cells.length = sz then
      match applyB B (frzL B (idsL x.cells)) id with
      | .live (.vec org c xs) =>
        match splice (scells org c (xs.getD i (dflt c))) off x.cells with
        | some cs => match decC (applyB B (frzL B (idsL x.cells))) c cs with
          | some y => k (frzL B (idsL x.cells) ++ [(id, .live (.vec (org ||| orgL (applyB B (frzL B (idsL x.cells))) x.cells) c (xs.set i y)))])
          | none => none
        | none => none
      | _ => none
    else none
  | _, _, _ => none

def fieldOf (P : Program) (s : TypeId) (f : Nat) : Option Field :=
  match P.underlying s with
  | some (.struct fs) => fs[f]?
  | _ => none

def fieldAddrK (s : TypeId) (a : T) (f : Nat) (k : T → Dl → Option R) : Option R :=
  match fieldOf E.P s f with
  | some fd => match szT E.P fd.type, a with
    | some (_ + 1), .v (.one (.ptr id off)) => k (one (.ptr id (off + fd.offset))) []
    | some (_ + 1), .v (.one (.pel id i off)) => k (one (.pel id i (off + fd.offset))) []
    | some (_ + 1), .v (.one (.pp org c x off)) => k (one (.pp org c x (off + fd.offset))) []
    | _, _ => none
  | none => none

/-- One of 0 .. n - 1, each by itself. -/
def splitIdx (i : Int) : Nat → Nat → (Nat → Option R) → Option R
  | 0, _, _ => none
  | n + 1, j, K => cond (decide (i = (j : Int))) (K j) (splitIdx i n (j + 1) K)

def indexAddrK (B : Nat → BS) (t : TypeId) (x ix : T) (k : T → Dl → Option R) : Option R :=
  match E.P.underlying t, x, ix with
  | some (.slice e), .v (.one (.ps org c xs)), .v (.one (.int _ i)) =>
    if szT E.P e = some (csize c) then (rd xs i).bind fun x => k (one (.pp org c x 0)) [] else none
  | some (.slice e), .v (.one (.own id)), .v (.one (.int _ i)) =>
    match B id with
    | .live (.vec _ c xs) => if szT E.P e = some (csize c) then
        cond (decide (0 ≤ i) && decide (i < xs.length)) (k (one (.pel id i.toNat 0)) []) none else none
    | .ro org c xs => if szT E.P e = some (csize c) then (rd xs i).bind fun x => k (one (.pp org c x 0)) [] else none
    | _ => none
  | some (.slice e), .v (.one (.sub id lo hi)), .v (.one (.int _ i)) =>
    match B id with
    | .live (.vec _ c _) => if szT E.P e = some (csize c) then
        cond (decide (0 ≤ i) && decide (i < ((hi - lo : Nat) : Int))) (k (one (.pel id (lo + i.toNat) 0)) []) none else none
    | _ => none
  | some (.array n e), .v (.one (.ptr id off)), .v (.one (.int _ i)) =>
    match szT E.P e with
    | some sz => if 2 ≤ n then splitIdx i n 0 fun j => k (one (.ptr id (off + j * sz))) [] else none
    | none => none
  | _, _, _ => none

def indexK (t : TypeId) (x ix : T) (k : T → Dl → Option R) : Option R :=
  match E.P.underlying t, x, ix with
  | some .string, .v (.one (.str s)), .v (.one (.int _ i)) => (rd s i).bind fun b => k (one (.int .u8 (b.toNat : Int))) []
  | some (.array n e), .v (.agg cs), .v (.one (.int _ i)) =>
    match isAggT E.P e, szT E.P e with
    | some agg, some sz => splitIdx i n 0 fun j => loadCs cs agg (j * sz) sz k
    | _, _ => none
  | _, _, _ => none

def fieldK (t : TypeId) (x : T) (f : Nat) (k : T → Dl → Option R) : Option R :=
  match fieldOf E.P t f, x with
  | some fd, .v (.agg cs) => match isAggT E.P fd.type, szT E.P fd.type with
    | some agg, some sz => loadCs cs agg fd.offset sz k
    | _, _ => none
  | _, _ => none

/-- Bounds of a slice expression. -/
def loHi (len : Nat) (lo hi : Option T) (K : Nat → Nat → Option R) : Option R :=
  let H (h : Int) (K : Option R) : Option R := cond (decide (0 ≤ h) && decide (h ≤ (len : Int))) K none
  match lo, hi with
  | none, none => K 0 len
  | some (.v (.one (.int _ l))), none => cond (decide (0 ≤ l) && decide (l ≤ (len : Int))) (K l.toNat len) none
  | none, some (.v (.one (.int _ h))) => H h (K 0 h.toNat)
  | some (.v (.one (.int _ l))), some (.v (.one (.int _ h))) => H h (cond (decide (0 ≤ l) && decide (l ≤ h)) (K l.toNat h.toNat) none)
  | _, _ => none

/-- 's[:0:0]' of a slice that nobody writes. -/
def sliceZ (B : Nat → BS) (id : Nat) (t : TypeId) (x : T) (lo : Option T) (hi mx : T) (k : T → Dl → Option R) : Option R :=
  match E.P.underlying t, x, lo, hi, mx with
  | some (.slice e), .v (.one (.ps _ c _)), none, .v (.one (.int _ h)), .v (.one (.int _ m)) =>
    if szT E.P e = some (csize c) then cond (decide (h = 0) && decide (m = 0)) (mkB B id (.vec 0 c []) (one (.own id)) k) none else none
  | _, _, _, _, _ => none

def sliceK (B : Nat → BS) (id : Nat) (t : TypeId) (x : T) (lo hi mx : Option T) (k : T → Dl → Option R) : Option R :=
  match mx with
  | some m => match hi with
    | some h => sliceZ E B id t x lo h m k
    | none => none
  | none => match E.P.underlying t, x with
    | some .string, .v (.one (.str s)) => loHi s.length lo hi fun l h => k (one (.str (cut l h s))) []
    | some (.slice e), .v (.one (.ps org c xs)) =>
      if szT E.P e = some (csize c) then loHi xs.length lo hi fun l h => k (one (.ps org c (cut l h xs))) [] else none
    | some (.slice e), .v (.one (.own id)) =>
      match vecOf B id with
      | some v => if szT E.P e = some (csize v.c) then loHi v.xs.length lo hi fun l h => k (one (.sub id l h)) [] else none
      | none => none
    | _, _ => none

def partsCells : List T → Option (List (List Sc))
  | [] => some []
  | .v x :: r => if noUnd x.cells then (partsCells r).map (x.cells :: ·) else none
  | _ => none

/-- Elements one by one, as data. -/
def decAll (B : Nat → BS) (c : Cd) : List (List Sc) → Option (List (El c))
  | [] => some []
  | cs :: r => match decC B c cs, decAll B c r with
    | some x, some xs => some (x :: xs)
    | _, _ => none

def inOrder : Nat → List (Nat × T) → Bool
  | _, [] => true
  | n, (i, _) :: r => Nat.beq i n && inOrder (n + 1) r

def buildSliceK (B : Nat → BS) (id : Nat) (t : TypeId) (len : Nat) (parts : List (Nat × T)) (k : T → Dl → Option R) : Option R :=
  match elemT E.P t with
  | some e => match tcode E.P 20 e, szT E.P e, partsCells (parts.map (·.2)) with
    | some c, some sz, some css =>
      if inOrder 0 parts && Nat.beq parts.length len && Nat.beq sz (csize c) && decide (len * sz ≤ 65536) && ((E.P.info? e).bind (·.zero)).isSome then
        match decAll (applyB B (frzL B (idsL css.flatten))) c css with
        | some xs => mkB (applyB B (frzL B (idsL css.flatten))) id (.vec (orgL (applyB B (frzL B (idsL css.flatten))) css.flatten) c xs) (one (.own id)) fun t d => k t (frzL B (idsL css.flatten) ++ d)
        | none => none
      else none
    | _, _, _ => none
  | none => none

def fillS (place : Nat → Option (Nat × Nat)) (cells : List Sc) : List (Nat × List Sc) → Option (List Sc)
  | [] => some cells
  | (i, v) :: rest =>
    match place i with
    | none => none
    | some (off, size) => if v.length = size then
        match splice cells off v with
        | some cs => fillS place cs rest
        | none => none
      else none

def buildK (t : TypeId) (parts : List (Nat × T)) (k : T → Dl → Option R) : Option R :=
  match E.P.underlying t, ((E.P.info? t).bind (·.zero)).bind ofValue, partsCells (parts.map (·.2)) with
  | some (.struct fs), some z, some css =>
    match fs.toList.mapM (fun f => (szT E.P f.type).map fun n => (f.offset, n)) with
    | some places =>
      match fillS (places[·]?) z.cells ((parts.map (·.1)).zip css) with
      | some cs => k (.v (.agg cs)) []
      | none => none
    | none => none
  | some (.array _ e), some z, some css =>
    match szT E.P e with
    | some n =>
      match fillS (fun i => some (i * n, n)) z.cells ((parts.map (·.1)).zip css) with
      | some cs => k (.v (.agg cs)) []
      | none => none
    | none => none
  | _, _, _ => none

def makeSliceK (B : Nat → BS) (id : Nat) (t : TypeId) (l c : T) (k : T → Dl → Option R) : Option R :=
  match elemT E.P t, l, c with
  | some e, .v (.one (.int _ l)), .v (.one (.int _ n)) =>
    match tcode E.P 20 e, szT E.P e, (E.P.info? e).map (·.bytes), ((E.P.info? e).bind (·.zero)).bind ofValue with
    | some cd, some sz, some by_, some z =>
      if Nat.beq sz (csize cd) && (noUnd z.cells && decide (by_ ≤ 4096)) then
        match decC (fun _ => .dead) cd z.cells with
        | some z => cond (decide (0 ≤ l) && (decide (l ≤ n) && decide (n ≤ (LIM : Int))))
            (mkB B id (.vec 0 cd (List.replicate l.toNat z)) (one (.own id)) k) none
        | none => none
      else none
    | _, _, _, _ => none
  | _, _, _ => none

/-- append(s, x...) -/
def appendK (B : Nat → BS) (id : Nat) (t : TypeId) (s x : T) (k : T → Dl → Option R) : Option R :=
  match elemT E.P t with
  | some e => match tcode E.P 20 e, szT E.P e, (E.P.info? e).map (·.bytes), ((E.P.info? e).bind (·.zero)).bind ofValue, s, x with
    | some c, some sz, some by_, some z, .v (.one s), .v (.one x) =>
      if Nat.beq sz (csize c) && (Nat.beq z.cells.length sz && (noUnd z.cells && (decide (by_ ≤ 4096) && decide (1 ≤ by_)))) then
        match listOf B c x with
        | some ys => match s with
          | .nils => cond (decide (ys.length ≤ LIM)) (mkB B id (.vec (orgS B x) c ys) (one (.own id)) k) none
          | .own si => match B si with
            | .live (.vec org c' xs) => if h : c' = c then
                if (idsL [x]).contains si then none else
                cond (decide (xs.length + ys.length ≤ LIM)) (match B id with
                  | .fresh => k (one (.own id)) [(si, .dead), (id, .live (.vec (org ||| orgS B x) c (castL h xs ++ ys)))]
                  | _ => none) none
              else none
            | _ => none
          | _ => none
        | none => none
      else none
    | _, _, _, _, _, _ => none
  | none => none

/-- A list written over a part of a list. -/
def overL {α : Type} (xs ys : List α) (k : Nat) : List α := xs.take k ++ ys ++ xs.drop (k + ys.length)

/-- The part of an owned row that a slice is. -/
def spanS (B : Nat → BS) : Sc → Option (Nat × Nat × Nat)
  | .own id => match B id with
    | .live (.vec _ _ xs) => some (id, 0, xs.length)
    | _ => none
  | .sub id lo hi => some (id, lo, hi)
  | _ => none

/-- copy(s, x) -/
def copyK (B : Nat → BS) (t : TypeId) (s x : T) (k : T → Dl → Option R) : Option R :=
  match elemT E.P t with
  | some e => match tcode E.P 20 e, szT E.P e, s, x with
    | some c, some sz, .v (.one s), .v (.one x) =>
      if Nat.beq sz (csize c) && cflat c then
        match listOf B c x, spanS B s with
        | some ys, some (id, lo, hi) => match B id with
          | .live (.vec org c' xs) => if h : c' = c then
              k (one (.int .i64 ((min ys.length (hi - lo) : Nat) : Int))) [(id, .live (.vec org c (overL (castL h xs) (ys.take (hi - lo)) lo)))]
            else none
          | _ => none
        | _, _ => none
      else none
    | _, _, _, _ => none
  | none => none

/-- clear(s) -/
def clearK (B : Nat → BS) (t : TypeId) (s : T) (k : T → Dl → Option R) : Option R :=
  match elemT E.P t with
  | some e => match tcode E.P 20 e, szT E.P e, ((E.P.info? e).bind (·.zero)).bind ofValue, s with
    | some c, some sz, some z, .v (.one s) =>
      if Nat.beq sz (csize c) && noUnd z.cells then
        match decC (fun _ => .dead) c z.cells, spanS B s with
        | some zd, some (id, lo, hi) => match B id with
          | .live (.vec org c' xs) => if h : c' = c then
              k (.tup []) [(id, .live (.vec org c (overL (castL h xs) (List.replicate (hi - lo) zd) lo)))]
            else none
          | _ => none
        | _, _ => none
      else none
    | _, _, _, _ => none
  | none => none

def minMax (mx : Bool) : List T → Option Sc
  | [.v (.one (.int k a)), .v (.one (.int k' b))] => if k = k' then some (.int k (match mx with
      | true => max a b
      | false => min a b)) else none
  | _ => none

def lenK (B : Nat → BS) (t : TypeId) (x : T) (k : T → Dl → Option R) : Option R :=
  match E.P.underlying t, x with
  | some .string, .v (.one (.str s)) => k (one (.int .i64 (s.length : Int))) []
  | some (.slice _), .v (.one s) => match lenS B s with
    | some n => k (one (.int .i64 (n : Int))) []
    | none => none
  | some (.map _ _), .v (.one (.mp id)) => match B id with
    | .live (.mp _ _ es) => k (one (.int .i64 (es.length : Int))) []
    | _ => none
  | _, _ => none

def builtinK (B : Nat → BS) (id : Nat) (b : Builtin) (ts : List TypeId) (args : List T) (k : T → Dl → Option R) : Option R :=
  match b, ts, args with
  | .len, t :: _, [x] => lenK E B t x k
  | .append, [t, u], [s, x] => match E.P.underlying u with
    | some (.slice _) => appendK E B id t s x k
    | _ => none
  | .copy, [t, u], [s, x] => match E.P.underlying u with
    | some (.slice _) => copyK E B t s x k
    | _ => none
  | .clear, [t], [s] => clearK E B t s k
  | .max, _, xs => match minMax true xs with
    | some s => k (one s) []
    | none => none
  | .min, _, xs => match minMax false xs with
    | some s => k (one s) []
    | none => none
  | _, _, _ => none

def decArg (B : Nat → BS) (c : Cd) (agg : Bool) : Val → Option (El c)
  | .one s => match agg with
    | false => decC B c [s]
    | true => none
  | .agg cs => match agg with
    | true => decC B c cs
    | false => none

/-! ### Maps -/

def elDec : (c : Cd) → DecidableEq (El c)
  | .i _ => inferInstanceAs (DecidableEq Int)
  | .bool => inferInstanceAs (DecidableEq Bool)
  | .str => inferInstanceAs (DecidableEq (List UInt8))
  | .list c => @instDecidableEqList (El c) (elDec c)
  | .pair a b => @instDecidableEqProd (El a) (El b) (elDec a) (elDec b)
  | .unit => inferInstanceAs (DecidableEq Unit)

def eqEl (c : Cd) (x y : El c) : Bool := @decide (x = y) (elDec c x y)

/-- What a map has at a key. -/
def mfind (kc vc : Cd) (k : El kc) : List (El kc × El vc) → Option (El vc)
  | [] => none
  | e :: r => cond (eqEl kc k e.1) (some e.2) (mfind kc vc k r)

/-- A map with a key's value set. -/
def mset (kc vc : Cd) (k : El kc) (v : El vc) : List (El kc × El vc) → List (El kc × El vc)
  | [] => [(k, v)]
  | e :: r => cond (eqEl kc k e.1) ((k, v) :: r) (e :: mset kc vc k v r)

def leaves : Cd → List Cd
  | .pair a b => leaves a ++ leaves b
  | .unit => []
  | c => [c]

def cagg : Cd → Bool
  | .pair _ _ => true
  | .unit => true
  | _ => false

/-- A map's codes: keys are structs that are compared leaf by leaf; values hold no slices. -/
def mapC (t : TypeId) : Option (Cd × Cd × Bool) :=
  match E.P.underlying t with
  | some (.map kt et) => match tcode E.P 20 kt, tcode E.P 20 et, isAggT E.P et, eqTyp E.eqT kt with
    | some kc, some vc, some agg, some ks => if ks = leaves kc ∧ cflat kc = true ∧ cagg kc = true ∧ cflat vc = true ∧ agg = cagg vc then some (kc, vc, agg) else none
    | _, _, _, _ => none
  | _ => none

def makeMapK (B : Nat → BS) (id : Nat) (t : TypeId) (r : Option T) (k : T → Dl → Option R) : Option R :=
  match mapC E t, r with
  | some (kc, vc, _), none => mkB B id (.mp kc vc []) (one (.mp id)) k
  | some (kc, vc, _), some (.v (.one (.int _ _))) => mkB B id (.mp kc vc []) (one (.mp id)) k
  | _, _ => none

/-- The zero value of a map's elements. -/
def zeroV (t : TypeId) (vc : Cd) : Option (El vc) :=
  match E.P.underlying t with
  | some (.map _ et) => match ((E.P.info? et).bind (·.zero)).bind ofValue with
    | some z => decArg (fun _ => .dead) vc (cagg vc) z
    | none => none
  | _ => none

def lookupK (B : Nat → BS) (t : TypeId) (m ix : T) (ok : Bool) (k : T → Dl → Option R) : Option R :=
  match mapC E t, m, ix with
  | some (kc, vc, agg), .v (.one (.mp id)), .v (.agg cs) =>
    match B id with
    | .live (.mp kc' vc' es) => if h : kc' = kc ∧ vc' = vc then
        match decC B kc cs, zeroV E t vc with
        | some kx, some z =>
          match ok with
          | false => k (.v (mkVal agg (scells 0 vc ((mfind kc vc kx (castL (c := .pair kc vc) (c' := .pair kc' vc') (by rw [h.1, h.2]) es)).getD z)))) []
          | true => k (.tup [mkVal agg (scells 0 vc ((mfind kc vc kx (castL (c := .pair kc vc) (c' := .pair kc' vc') (by rw [h.1, h.2]) es)).getD z)), .one (.bool (mfind kc vc kx (castL (c := .pair kc vc) (c' := .pair kc' vc') (by rw [h.1, h.2]) es)).isSome)]) []
        | _, _ => none
      else none
    | _ => none
  | _, _, _ => none

def mapUpdateK (B : Nat → BS) (t : TypeId) (m ix x : T) (k : Dl → Option R) : Option R :=
  match mapC E t, m, ix, x with
  | some (kc, vc, agg), .v (.one (.mp id)), .v (.agg cs), .v x =>
    match B id with
    | .live (.mp kc' vc' es) => if h : kc' = kc ∧ vc' = vc then
        match decC B kc cs, decArg B vc agg x with
        | some kx, some vx => k [(id, .live (.mp kc vc (mset kc vc kx vx (castL (c := .pair kc vc) (c' := .pair kc' vc') (by rw [h.1, h.2]) es))))]
        | _, _ => none
      else none
    | _ => none
  | _, _, _, _ => none

def capsOf : List T → Option (List Cap)
  | [] => some []
  | .v (.one (.ptr id 0)) :: r => (capsOf r).map (.ptr id :: ·)
  | .v (.one (.pp org c x 0)) :: r => (capsOf r).map (.pp org c x :: ·)
  | _ => none

/-- The operations that are no calls of functions. -/
def semK (B : Nat → BS) (tm : Nat → T) (o : Oper) (k : T → Dl → Option R) : Option R :=
  let ρ := evalO tm
  let id := 8 * o.dst.getD 0
  match o.op with
  | .move x | .assign x => k (ρ x) []
  | .pick c a b => match ρ c with
    | .v (.one (.bool q)) => cond q (k (ρ a) []) (k (ρ b) [])
    | _ => none
  | .alloc e => match ((E.P.info? e).bind (·.zero)).bind ofValue with
    | some z => if noUnd z.cells then mkB B id (.box z.cells) (one (.ptr id 0)) k else none
    | none => none
  | .box e x => match ρ x, szT E.P e with
    | .v v, some sz => if v.cells.length = sz ∧ noUnd v.cells then mkB B id (.box v.cells) (one (.ptr id 0)) k else none
    | _, _ => none
  | .build t ps => buildK E t (ps.toList.map fun p => (p.1, ρ p.2)) k
  | .buildSlice t n ps => buildSliceK E B id t n (ps.toList.map fun p => (p.1, ρ p.2)) k
  | .load t a => loadK E B t (ρ a) k
  | .store t a x => storeK E B t (ρ a) (ρ x) fun d => k (one .skip) d
  | .nilCheck x => match ρ x with
    | .v (.one (.ptr i j)) => k (one (.ptr i j)) []
    | .v (.one (.pel i j l)) => k (one (.pel i j l)) []
    | .v (.one (.pp a b c d)) => k (one (.pp a b c d)) []
    | _ => none
  | .binOp op t x y _ => binK E B op t (isConst y) (ρ x) (ρ y) k
  | .unOp op _ x => unK op (ρ x) k
  | .convert s d x => convK E B s d (ρ x) k
  | .makeFunc (.func f) first caps => match first.toList, capsOf (caps.toList.map ρ) with
    | [], some cs => k (one (.fn f cs)) []
    | _, _ => none
  | .makeSlice t l c => makeSliceK E B id t (ρ l) (ρ c) k
  | .slice t x lo hi mx => sliceK E B id t (ρ x) (lo.map ρ) (hi.map ρ) (mx.map ρ) k
  | .makeMap t r => makeMapK E B id t (r.map ρ) k
  | .lookup t x i ok => lookupK E B t (ρ x) (ρ i) ok k
  | .mapUpdate t m i x => mapUpdateK E B t (ρ m) (ρ i) (ρ x) fun d => k (one .skip) d
  | .fieldAddr s x f => fieldAddrK E s (ρ x) f k
  | .field t x f => fieldK E t (ρ x) f k
  | .indexAddr t x i => indexAddrK E B t (ρ x) (ρ i) k
  | .index t x i => indexK E t (ρ x) (ρ i) k
  | .extract t i => match ρ t with
    | .tup vs => match vs[i]? with
      | some v => k (.v v) []
      | none => none
    | _ => none
  | .call { callee := .builtin b, args, argTypes } => builtinK E B id b argTypes.toList (args.toList.map ρ) k
  | _ => none

end
end Ai
end Go.Proofs.YtpboclokodgnlaaGreat

/-! A3: The ideal interpreter: calls, regions, code, loops; one step of the whole. -/
namespace Go.Proofs.YtpboclokodgnlaaGreat
namespace Ai

def capT : Cap → T
  | .ptr id => one (.ptr id 0)
  | .pp org c x => one (.pp org c x 0)

def boxOf (B : Nat → BS) : Cap → Option (List Sc)
  | .ptr id => match B id with
    | .live (.box cs) => some cs
    | _ => none
  | .pp org c x => some (scells org c x)

/-- What closures have captured, as data. -/
def decCaps (B : Nat → BS) : (cs : List Cd) → List Cap → Option (El (pairs cs))
  | [], [] => some ()
  | [c], [p] => match boxOf B p with
    | some l => decC B c l
    | none => none
  | c :: d :: r, p :: ps => match boxOf B p with
    | some l => match decC B c l, decCaps B (d :: r) ps with
      | some x, some y => some (x, y)
      | _, _ => none
    | none => none
  | _, _ => none

def capOrg (B : Nat → BS) : List Cap → Nat
  | [] => 0
  | .ptr id :: r => (match B id with
    | .live (.box cs) => orgL B cs
    | _ => 0) ||| capOrg B r
  | .pp org _ _ :: r => org ||| capOrg B r

/-- Constants that a shape may name. -/
def eqCap : List Cap → List Cap → Bool
  | [], [] => true
  | .ptr a :: r, .ptr b :: s => Nat.beq a b && eqCap r s
  | _, _ => false

def eqK : Sc → Sc → Bool
  | .nils, .nils | .nilI, .nilI | .nilp, .nilp | .errI, .errI | .skip, .skip => true
  | .own a, .own b | .mp a, .mp b => Nat.beq a b
  | .ptr a i, .ptr b j => Nat.beq a b && Nat.beq i j
  | .fn f a, .fn g b => Nat.beq f g && eqCap a b
  | _, _ => false

/-- Names that a constant uses. -/
def capNames : List Cap → List Nat
  | [] => []
  | .ptr id :: r => id :: capNames r
  | _ :: r => capNames r

def kNames : Sc → List Nat
  | .own id | .mp id | .ptr id _ => [id]
  | .fn _ caps => capNames caps
  | _ => []

/-- A slice that is owned. -/
def ownedL (B : Nat → BS) (c : Cd) (id : Nat) : Option (List (El c)) :=
  match isLive B id with
  | true => listOf B c (.own id)
  | false => none

/-- What one argument brings. -/
@[reducible] def In1 : ASh → Type
  | .d c _ => El c
  | .own c => List (El c)
  | .ref c => List (El c)
  | .rbox c => El c
  | .clo _ caps => El (pairs caps)
  | .rp c => El c
  | .rag a e => El a × List (El e)
  | .k _ => Unit

def cons1 : (s : ASh) → {r : List ASh} → In1 s → Tup (acodes r) → Tup (acodes (s :: r))
  | .d c _, _, x, y => tcons (c := c) x y
  | .own c, _, x, y => tcons (c := .list c) x y
  | .ref c, _, x, y => tcons (c := .list c) x y
  | .rbox c, _, x, y => tcons (c := c) x y
  | .clo _ caps, _, x, y => tcons (c := pairs caps) x y
  | .rp c, _, x, y => tcons (c := c) x y
  | .rag a e, _, x, y => tcons (c := .pair a (.list e)) x y
  | .k _, _, _, y => y

def hd1 : (s : ASh) → {r : List ASh} → Tup (acodes (s :: r)) → In1 s
  | .d c _, r, x => thd (c := c) (r := acodes r) x
  | .own c, r, x => thd (c := .list c) (r := acodes r) x
  | .ref c, r, x => thd (c := .list c) (r := acodes r) x
  | .rbox c, r, x => thd (c := c) (r := acodes r) x
  | .clo _ caps, r, x => thd (c := pairs caps) (r := acodes r) x
  | .rp c, r, x => thd (c := c) (r := acodes r) x
  | .rag a e, r, x => thd (c := .pair a (.list e)) (r := acodes r) x
  | .k _, _, _ => ()

def tl1 : (s : ASh) → {r : List ASh} → Tup (acodes (s :: r)) → Tup (acodes r)
  | .d c _, r, x => ttl (c := c) (r := acodes r) x
  | .own c, r, x => ttl (c := .list c) (r := acodes r) x
  | .ref c, r, x => ttl (c := .list c) (r := acodes r) x
  | .rbox c, r, x => ttl (c := c) (r := acodes r) x
  | .clo _ caps, r, x => ttl (c := pairs caps) (r := acodes r) x
  | .rp c, r, x => ttl (c := c) (r := acodes r) x
  | .rag a e, r, x => ttl (c := .pair a (.list e)) (r := acodes r) x
  | .k _, _, x => x

/-- The owned name that an argument hands over, or the variable. -/
def nameT : T → Option Nat
  | .v (.one (.own id)) => some id
  | _ => none

def ptrT : T → Option Nat
  | .v (.one (.ptr id 0)) => some id
  | _ => none

/-- A variable that is only read. -/
def capOfT : T → Option Cap
  | .v (.one (.ptr id 0)) => some (.ptr id)
  | .v (.one (.pp org c x 0)) => some (.pp org c x)
  | _ => none

/-- A struct whose last cell is an owned slice. -/
def nameG (a : Cd) : T → Option (List Sc × Nat)
  | .v (.agg cs) => match cs.drop (csize a) with
    | [.own id] => some (cs.take (csize a), id)
    | _ => none
  | _ => none

def packG (B : Nat → BS) (a e : Cd) (p : List Sc × Nat) : Option (El a × List (El e)) :=
  match cflat a with
  | true => match decC B a p.1, ownedL B e p.2 with
    | some y, some xs => some (y, xs)
    | _, _ => none
  | false => none

def packT (B : Nat → BS) : (s : ASh) → T → Option (In1 s)
  | .d c agg, t => match t with
    | .v v => decArg B c agg v
    | _ => none
  | .own c, t => match nameT t with
    | some id => ownedL B c id
    | none => none
  | .ref c, t => match nameT t with
    | some id => ownedL B c id
    | none => none
  | .rbox c, t => match ptrT t with
    | some id => match boxOf B (.ptr id) with
      | some cs => decC B c cs
      | none => none
    | none => none
  | .clo f cs, t => match t with
    | .v (.one (.fn g caps)) => match Nat.beq f g with
      | true => decCaps B cs caps
      | false => none
    | _ => none
  | .rp c, t => match capOfT t with
    | some q => match boxOf B q with
      | some cs => decC B c cs
      | none => none
    | none => none
  | .rag a e, t => match nameG a t with
    | some p => packG B a e p
    | none => none
  | .k s, t => match t with
    | .v (.one s') => match eqK s s' && (kNames s).isEmpty with
      | true => some ()
      | false => none
    | _ => none

def packA (B : Nat → BS) : (as : List ASh) → List T → Option (Tup (acodes as))
  | [], [] => some ()
  | s :: r, t :: ts => match packT B s t, packA B r ts with
    | some x, some y => some (cons1 s x y)
    | _, _ => none
  | _, _ => none

def lentT : ASh → T → List Nat
  | .own _, t => (nameT t).toList
  | .ref _, t => (nameT t).toList
  | .rag a _, t => match nameG a t with
    | some p => [p.2]
    | none => []
  | .rbox _, t => (ptrT t).toList
  | _, _ => []

def lentA : List ASh → List T → List Nat
  | s :: r, t :: ts => lentT s t ++ lentA r ts
  | _, _ => []

/-- The owned slices that captured variables hold. -/
def capCont (B : Nat → BS) : List Cap → List Nat
  | [] => []
  | .ptr id :: r => (match B id with
    | .live (.box cs) => idsL cs
    | _ => []) ++ capCont B r
  | .pp _ _ _ :: r => capCont B r

def capBox : List Cap → List Nat
  | [] => []
  | .ptr id :: r => id :: capBox r
  | .pp _ _ _ :: r => capBox r

/-- The owned slices that an argument's data name. -/
def seenT (B : Nat → BS) : ASh → T → List Nat
  | .d _ _, t => match t with
    | .v v => idsL v.cells
    | _ => []
  | .rbox _, t => match ptrT t with
    | some id => match B id with
      | .live (.box cs) => idsL cs
      | _ => []
    | none => []
  | .clo _ _, t => match t with
    | .v (.one (.fn _ caps)) => capCont B caps
    | _ => []
  | .rp _, t => match capOfT t with
    | some q => capCont B [q]
    | none => []
  | _, _ => []

def boxT : ASh → T → List Nat
  | .clo _ _, t => match t with
    | .v (.one (.fn _ caps)) => capBox caps
    | _ => []
  | .rp _, t => match capOfT t with
    | some q => capBox [q]
    | none => []
  | _, _ => []

def seenA (B : Nat → BS) : List ASh → List T → List Nat
  | s :: r, t :: ts => seenT B s t ++ (boxT s t ++ seenA B r ts)
  | _, _ => []

/-- What a result, or what was lent, may still look at: nobody writes it any more. -/
def keptT (B : Nat → BS) (mask p : Nat) (s : ASh) (t : T) : List Nat :=
  match s with
  | .rbox _ => seenT B s t
  | _ => cond (mask.testBit p) (seenT B s t) []

def keptA (B : Nat → BS) (mask : Nat) : Nat → List ASh → List T → List Nat
  | p, s :: r, t :: ts => keptT B mask p s t ++ keptA B mask (p + 1) r ts
  | _, _, _ => []

def maskR (rs : List RSh) : Nat := rs.foldl (fun m r => m ||| r.org) 0

def orgT (B : Nat → BS) : ASh → T → Nat
  | .clo _ _, t => match t with
    | .v (.one (.fn _ caps)) => capOrg B caps
    | _ => 0
  | .rp _, t => match capOfT t with
    | some q => capOrg B [q]
    | none => 0
  | .rbox _, t => match ptrT t with
    | some id => match B id with
      | .live (.box cs) => orgL B cs
      | _ => 0
    | none => 0
  | .rag a _, t => match nameG a t with
    | some p => orgL B [.own p.2]
    | none => 0
  | _, t => match t with
    | .v v => orgL B v.cells
    | _ => 0

def orgA (B : Nat → BS) : List ASh → List T → List Nat
  | s :: r, t :: ts => orgT B s t :: orgA B r ts
  | _, _ => []

def nodupB : List Nat → Bool
  | [] => true
  | a :: r => !(r.contains a) && nodupB r

def apartB (a b : List Nat) : Bool := a.all fun x => !(b.contains x)

/-- The caller's view of where a result's slices come from. -/
def orgR (mask : Nat) : Nat → List Nat → Nat
  | _, [] => 0
  | n, o :: r => (cond (mask.testBit n) o 0) ||| orgR mask (n + 1) r

def nlist : Cd → Nat
  | .list _ => 1
  | .pair a b => nlist a + nlist b
  | _ => 0

def impC (own : Option Nat) (org : Nat) : (c : Cd) → El c → List Sc × List (Nat × BS)
  | .list c, xs => match own with
    | some id => match cflat c && Nat.ble 1 (csize c) with
      | true => ([.own id], [(id, .live (.vec 0 c xs))])
      | false => ([.ps org c xs], [])
    | none => ([.ps org c xs], [])
  | .pair a b, x => ((impC own org a x.1).1 ++ (impC own org b x.2).1, (impC own org a x.1).2 ++ (impC own org b x.2).2)
  | .i k, x => (scells org (.i k) x, [])
  | .bool, x => (scells org .bool x, [])
  | .str, x => (scells org .str x, [])
  | .unit, x => (scells org .unit x, [])

/-- A slice that is nil if it is empty. -/
def psnS (b : Bool) (c : Cd) (l : List Sc) : List Sc :=
  match b, c, l with
  | true, .list _, [.ps o c xs] => [.psn o c xs]
  | _, _, l => l

/-- A result that is nil if it is empty bears the mark 60. -/
def nzOf (r : RSh) : Bool := Nat.testBit r.org 60

def nzCk (b agg : Bool) (B : Nat → BS) (l : List Sc) : Bool :=
  match b, agg, l with
  | false, _, _ => true
  | true, false, [.nils] => true
  | true, false, [.psn _ _ _] => true
  | true, false, [.ps _ _ xs] => !xs.isEmpty
  | true, false, [.own id] => match vecOf B id with
    | some v => !v.xs.isEmpty
    | none => false
  | _, _, _ => false

def impR (own : Option Nat) (orgs : List Nat) : (rs : List RSh) → {as : List ASh} → Tup (rcodes rs as) → List Val × List (Nat × BS)
  | [], _, _ => ([], [])
  | r :: rs, as, x =>
    (mkVal r.agg (psnS (nzOf r) r.c (impC own (orgR r.org 0 orgs) r.c (thd (r := rcodes rs as) x)).1) :: (impR own orgs rs (as := as) (ttl (r := rcodes rs as) x)).1,
      (impC own (orgR r.org 0 orgs) r.c (thd (r := rcodes rs as) x)).2 ++ (impR own orgs rs (as := as) (ttl (r := rcodes rs as) x)).2)

def outR : (rs : List RSh) → {as : List ASh} → Tup (rcodes rs as) → Tup (outs as)
  | [], _, x => x
  | _ :: rs, as, x => outR rs (as := as) (ttl (r := rcodes rs as) x)

@[reducible] def Out1 : ASh → Type
  | .ref c => List (El c)
  | .rag _ e => List (El e)
  | .rbox c => El c
  | _ => Unit

def ohd : (s : ASh) → {r : List ASh} → Tup (outs (s :: r)) → Out1 s
  | .ref c, r, x => thd (c := .list c) (r := outs r) x
  | .rag _ e, r, x => thd (c := .list e) (r := outs r) x
  | .rbox c, r, x => thd (c := c) (r := outs r) x
  | .d _ _, _, _ => ()
  | .own _, _, _ => ()
  | .clo _ _, _, _ => ()
  | .rp _, _, _ => ()
  | .k _, _, _ => ()

def otl : (s : ASh) → {r : List ASh} → Tup (outs (s :: r)) → Tup (outs r)
  | .ref c, r, x => ttl (c := .list c) (r := outs r) x
  | .rag _ e, r, x => ttl (c := .list e) (r := outs r) x
  | .rbox c, r, x => ttl (c := c) (r := outs r) x
  | .d _ _, _, x => x
  | .own _, _, x => x
  | .clo _ _, _, x => x
  | .rp _, _, x => x
  | .k _, _, x => x

/-- What a call does to what it was lent. -/
def effT : (s : ASh) → T → Nat → Out1 s → List (Nat × BS)
  | .own _, t, _, _ => match nameT t with
    | some id => [(id, .dead)]
    | none => []
  | .ref c, t, o, x => match nameT t with
    | some id => [(id, .live (.vec o c x))]
    | none => []
  | .rbox c, t, o, x => match ptrT t with
    | some id => [(id, .live (.box (scells o c x)))]
    | none => []
  | .rag a e, t, o, x => match nameG a t with
    | some p => [(p.2, .live (.vec o e x))]
    | none => []
  | _, _, _, _ => []

def effA : (as : List ASh) → List T → List Nat → Tup (outs as) → List (Nat × BS)
  | s :: r, t :: ts, o :: os, x => effT s t o (ohd s x) ++ effA r ts os (otl s x)
  | _, _, _, _ => []

def ownId (d : Nat) (rs : List RSh) (as : List ASh) : Option Nat :=
  match rs.foldl (fun n r => n + nlist r.c) 0, rs.all (fun r => Nat.beq r.org 0) && as.all (fun
    | .ref c => cflat c
    | .rag _ c => cflat c
    | .rbox c => cflat c
    | _ => true) with
  | 1, true => some (8 * d)
  | _, _ => none

/-! A single result that the caller comes to own: a slice of whatever it is, or a pointer to a variable: marks 61 and 62. -/

def frL : List RSh → Bool
  | [r] => Nat.testBit r.org 61
  | _ => false

def ptrR (r : RSh) : Bool := Nat.testBit r.org 62

def blkF (org : Nat) : (c : Cd) → El c → Blk
  | .list c, xs => .vec org c xs
  | _, _ => .box []

/-- A struct one cell of which is a slice that the caller comes to own. -/
def aggS (id org : Nat) : (c : Cd) → El c → List Sc
  | .list _, _ => [.own id]
  | .pair a b, x => match Nat.beq (nlist a) 0 with
    | true => scells org a x.1 ++ aggS id org b x.2
    | false => aggS id org a x.1 ++ scells org b x.2
  | _, _ => []

def aggB (org : Nat) : (c : Cd) → El c → Blk
  | .list c, xs => .vec org c xs
  | .pair a b, x => match Nat.beq (nlist a) 0 with
    | true => aggB org b x.2
    | false => aggB org a x.1
  | _, _ => .box []

def ownCell : Cd → List Sc → Option Nat
  | .list _, [.own id] => some id
  | .pair a b, cs => match Nat.beq (nlist a) 0 with
    | true => ownCell b (cs.drop (csize a))
    | false => ownCell a (cs.take (csize a))
  | _, _ => none

def impF (id : Nat) (orgs : List Nat) : (rs : List RSh) → {as : List ASh} → Tup (rcodes rs as) → List Val × List (Nat × BS)
  | [r], as, x => match ptrR r, r.agg with
    | false, true => ([.agg (aggS id (orgR r.org 0 orgs) r.c (thd (r := rcodes [] as) x))], [(id, .live (aggB (orgR r.org 0 orgs) r.c (thd (r := rcodes [] as) x)))])
    | true, _ => ([.one (.ptr id 0)], [(id, .live (.box (scells (orgR r.org 0 orgs) r.c (thd (r := rcodes [] as) x))))])
    | false, false => ([.one (.own id)], [(id, .live (blkF (orgR r.org 0 orgs) r.c (thd (r := rcodes [] as) x)))])
  | _, _, _ => ([], [])

def impA (d : Nat) (rs : List RSh) (as : List ASh) (orgs : List Nat) (y : Tup (rcodes rs as)) : List Val × List (Nat × BS) :=
  match frL rs with
  | true => impF (8 * d) orgs rs y
  | false => impR (ownId d rs as) orgs rs y

def resT : List Val → T
  | [v] => .v v
  | vs => .tup vs

def freshAll (B : Nat → BS) : List (Nat × BS) → Bool
  | [] => true
  | (id, _) :: r => (match B id with
    | .fresh => true
    | _ => false) && freshAll B r

section
variable (E : Env) (run : Orc) {R : Type}

def callWith (B : Nat → BS) (d : Nat) (gf : FuncId) (args : List T) (k : T → List (Nat × BS) → Option R) : List FI → Option R
  | [] => none
  | i :: r => match packA B i.as args with
    | some x =>
      if Nat.beq i.f gf && nodupB (lentA i.as args) && apartB (lentA i.as args) (seenA B i.as args) then
        (run (.fn i) x).bind fun y =>
          if freshAll B (impA d i.rs i.as (orgA B i.as args) y).2 then
            k (resT (impA d i.rs i.as (orgA B i.as args) y).1)
              (frzL B (keptA B (maskR i.rs) 0 i.as args) ++ (effA i.as args (orgA B i.as args) (outR i.rs y) ++ (impA d i.rs i.as (orgA B i.as args) y).2))
          else none
      else none
    | none => callWith B d gf args k r

/-- Every operation: its value, and what it does to memory. -/
def opK (B : Nat → BS) (tm : Nat → T) (o : Oper) (k : T → List (Nat × BS) → Option R) : Option R :=
  match o.op with
  | .call { callee := .value f, args, .. } => match evalO tm f with
    | .v (.one (.fn g caps)) => callWith run B (o.dst.getD 0) g (args.toList.map (evalO tm) ++ caps.map capT) k (E.fi g)
    | _ => none
  | _ => semK E B tm o k

/-- The value goes to its place; an answer yes or no parts the way. -/
def putK (st : St) (dst : Option Tmp) (t : T) (k : St → Option R) : Option R :=
  match dst, t with
  | some d, .v (.one (.bool b)) => cond b (k { st with tm := upd st.tm d (one (.bool true)) }) (k { st with tm := upd st.tm d (one (.bool false)) })
  | _, _ => k (st.put dst t)

def wantedK (ops : Array Oper) (tm : Nat → T) (o : Oper) (ky kn : Option R) : Option R :=
  match o.guard with
  | none => ky
  | some (j, want) => match (ops[j]?).bind (·.dst) with
    | some d => match tm d with
      | .v (.one (.bool b)) => cond b (cond want ky kn) (cond want kn ky)
      | .v (.one .skip) => kn
      | _ => none
    | none => none

def opsK (ops : Array Oper) : List Oper → St → (St → Option R) → Option R
  | [], st, k => k st
  | o :: r, st, k => wantedK ops st.tm o
      (opK E run st.bk st.tm o fun t d => putK { st with bk := applyB st.bk d } o.dst t fun st' => opsK ops r st' k)
      (opsK ops r (st.put o.dst (one .skip)) k)

/-! A region that only finds out an answer yes or no: what it comes to is put together again. -/

def opsJ (ops : Array Oper) : List Oper → St → (St → Option R) → Option R
  | [], st, k => k st
  | o :: r, st, k => wantedK ops st.tm o
      (opK E run st.bk st.tm o fun t d => match d with
        | [] => putK st o.dst t fun st' => opsJ ops r st' k
        | _ => none)
      (opsJ ops r (st.put o.dst (one .skip)) k)

def boolT : T → Option Bool
  | .v (.one (.bool b)) => some b
  | _ => none

def lastD (ops : Array Oper) : Nat := ((ops.back?).bind (·.dst)).getD 0

def joinSt (st : St) (ops : Array Oper) (b : Bool) : St :=
  { st with tm := fun t => cond (Nat.beq t (lastD ops)) (one (.bool b)) (cond (ops.toList.any fun o => match o.dst with | some d => Nat.beq d t | none => false) (one .und) (st.tm t)) }

def isJoin (f id : Nat) : Bool := E.joinT.any fun p => Nat.beq p.1 f && Nat.beq p.2 id

/-! A region whose order is open. -/

def cls (o : Op) : Nat :=
  match o with
  | .move _ | .assign _ | .pick .. | .build .. | .field .. | .fieldAddr .. | .binOp .. | .unOp .. | .extract .. | .makeFunc .. | .nilCheck _ | .index .. => 0
  | .store .. => 3
  | .mapUpdate .. | .insert .. => 2
  | .call { callee := .builtin .len, .. } => 1
  | .call { callee := .builtin .max, .. } | .call { callee := .builtin .min, .. } => 0
  | .call { callee := .builtin .append, .. } => 3
  | .call { callee := .builtin _, .. } => 2
  | .call { callee := .value (.func f), .. } => cond (E.mutF.contains f) 3 1
  | _ => 1

def arg0 : List Operand → Nat
  | .tmp u :: _ => u
  | _ => 0

/-- The first operation that stands ahead of one. -/
def aft0 (o : Oper) : Nat := match o.after.toList with
  | a :: _ => a.on
  | [] => 0

/-- What a call that lends touches, as told beside the program. -/
def srcs : List ((Nat × Nat × Nat) × List Nat) → Nat → Nat → Nat → List Nat
  | [], _, _, _ => [0]
  | (k, r) :: l, f, d, a => cond (Nat.beq k.1 f && (Nat.beq k.2.1 d && Nat.beq k.2.2 a)) r (srcs l f d a)

/-- The tmps whose names an operation may make or give up. -/
def tchs (o : Oper) : List Nat :=
  match o.op with
  | .call { callee := .builtin .append, args, .. } => o.dst.toList ++ (match (args.toList : List Operand) with
    | .tmp u :: _ => [u]
    | _ => [])
  | .store _ (.tmp u) _ => u :: o.dst.toList
  | .call { callee := .value (.func f), args, .. } => o.dst.toList ++ cond (E.mutF.contains f) (srcs E.srcT f (o.dst.getD 0) (arg0 args.toList + 1000 * aft0 o)) []
  | _ => o.dst.toList

/-- The operation only touches names of these tmps. -/
def onlyT (xs : List Nat) (d : List (Nat × BS)) : Bool := d.all fun p => xs.contains (p.1 / 8)

/-- The operation only makes what bears its own name. -/
def onlyNew (dst : Nat) (B : Nat → BS) : List (Nat × BS) → Bool
  | [] => true
  | (id, .live _) :: r => Nat.beq (id / 8) dst && (match B id with
    | .fresh => true
    | _ => false) && onlyNew dst B r
  | _ => false

/-- What an operation that is ordered against 'bs' (the operations ahead of it) must not look at: the names that the others make. -/
def restr (xs : List Nat) (B : Nat → BS) : Nat → BS := fun id => cond (xs.contains (id / 8)) .dead (B id)

/-- What an operation is let see of memory, by its class. -/
def viewB (c : Nat) (xs : List Nat) (B : Nat → BS) : Nat → BS := match c with
  | 0 => fun _ => .dead
  | _ => restr xs B

def effOk (c : Nat) (dst : Option Tmp) (xs : List Nat) (solo : Bool) (B : Nat → BS) (d : List (Nat × BS)) : Bool := match c with
  | 0 => d.isEmpty
  | 3 => solo || onlyT xs d
  | 1 => solo || onlyNew (dst.getD 0) B d && (dst.isSome || d.isEmpty)
  | _ => true

/-- The operations that stand ahead of each, as bits. -/
def bef1 (acc : List Nat) (o : Oper) : Nat := o.after.toList.foldl (fun s e => match Region.binds .any e with
  | true => s ||| 2 ^ e.on ||| acc.getD e.on 0
  | false => s) 0

def befs : List Nat → List Oper → List Nat
  | acc, [] => acc
  | acc, o :: r => befs (acc ++ [bef1 acc o]) r

def unord (b : List Nat) (i j : Nat) : Bool := !((b.getD j 0).testBit i) && !((b.getD i 0).testBit j)

def others (ops : List Oper) (b : List Nat) (i : Nat) : List Nat :=
  (ops.zipIdx.filter fun p => !(Nat.beq p.2 i) && unord b i p.2).flatMap fun p => tchs E p.1

/-- Whatever has no order against the operation neither reads nor writes. -/
def soloB (ops : List Oper) (b : List Nat) (i : Nat) : Bool := ops.zipIdx.all fun q => Nat.beq q.2 i || !(unord b i q.2) || Nat.beq (cls E q.1.op) 0

def regOk (ops : Array Oper) (b : List Nat) : Bool :=
  (ops.toList.zipIdx.all fun p => p.1.after.toList.all fun e => match Region.binds .any e with
    | true => Nat.blt e.on p.2
    | false => true) &&
  ops.toList.zipIdx.all fun p => ops.toList.zipIdx.all fun q =>
    Nat.ble q.2 p.2 || !(unord b p.2 q.2) ||
      (p.1.apart ops q.1 && q.1.apart ops p.1 && !(Nat.beq (cls E p.1.op) 2 && !(Nat.beq (cls E q.1.op) 0)) && !(Nat.beq (cls E q.1.op) 2 && !(Nat.beq (cls E p.1.op) 0)) && apartB (tchs E p.1) (tchs E q.1))

def opsD (ops : Array Oper) (b : List Nat) : Nat → List Oper → St → (St → Option R) → Option R
  | _, [], st, k => k st
  | n, o :: r, st, k => wantedK ops st.tm o
      (opK E run (viewB (cls E o.op) (others E ops.toList b n) st.bk) st.tm o fun t d =>
        if effOk (cls E o.op) o.dst (tchs E o) (soloB E ops.toList b n) (viewB (cls E o.op) (others E ops.toList b n) st.bk) d then
          putK { st with bk := applyB st.bk d } o.dst t fun st' => opsD ops b (n + 1) r st' k
        else none)
      (opsD ops b (n + 1) r (st.put o.dst (one .skip)) k)

/-! ### States at loops -/

/-- Before anything is made: parameters' own names are never made anew. -/
def bk0 : Nat → BS := fun id => cond (Nat.beq (id % 8) 5) .dead .fresh


def boxSet (B : Nat → BS) (id j : Nat) (s : Sc) : Nat → BS :=
  match B id with
  | .live (.box cs) => upd B id (.live (.box (cs.set j s)))
  | _ => B

def headS (cs : List Sc) : Sc := match cs with
  | [s] => s
  | _ => .und

def capsC (org : Nat) : (cs : List Cd) → El (pairs cs) → List Cap
  | [], _ => []
  | [c], x => [.pp org c x]
  | c :: d :: r, x => .pp org c x.1 :: capsC org (d :: r) x.2

def mkS : (is : List It) → Tup (icodes is) → St
  | [], _ => { tm := fun _ => one .und, bk := bk0 }
  | .sl t org agg c :: r, x =>
    let st := mkS r (ttl (c := c) (r := icodes r) x)
    { st with tm := upd st.tm t (.v (mkVal agg (scells org c (thd (r := icodes r) x)))) }
  | .so t org c :: r, x =>
    let st := mkS r (ttl (c := .list c) (r := icodes r) x)
    { tm := upd st.tm t (one (.own (8 * t + 7))), bk := upd st.bk (8 * t + 7) (.live (.vec org c (thd (c := .list c) (r := icodes r) x))) }
  | .sk t s :: r, x => let st := mkS r x; { st with tm := upd st.tm t (one s) }
  | .cl t f org caps :: r, x =>
    let st := mkS r (ttl (c := pairs caps) (r := icodes r) x)
    { st with tm := upd st.tm t (one (.fn f (capsC org caps (thd (c := pairs caps) (r := icodes r) x)))) }
  | .rp t org c :: r, x =>
    let st := mkS r (ttl (c := c) (r := icodes r) x)
    { st with tm := upd st.tm t (one (.pp org c (thd (r := icodes r) x) 0)) }
  | .bx id n :: r, x => let st := mkS r x; { st with bk := upd st.bk id (.live (.box (List.replicate n .und))) }
  | .bd id j org c :: r, x =>
    let st := mkS r (ttl (c := c) (r := icodes r) x)
    { st with bk := boxSet st.bk id j (headS (scells org c (thd (r := icodes r) x))) }
  | .bo id j org c :: r, x =>
    let st := mkS r (ttl (c := .list c) (r := icodes r) x)
    { st with bk := upd (boxSet st.bk id j (.own (8 * (id * 64 + j) + 6))) (8 * (id * 64 + j) + 6) (.live (.vec org c (thd (c := .list c) (r := icodes r) x))) }
  | .bk id j s :: r, x => let st := mkS r x; { st with bk := boxSet st.bk id j s }
  | .vc id org c :: r, x =>
    let st := mkS r (ttl (c := .list c) (r := icodes r) x)
    { st with bk := upd st.bk id (.live (.vec org c (thd (c := .list c) (r := icodes r) x))) }
  | .mp id kc vc :: r, x =>
    let st := mkS r (ttl (c := .list (.pair kc vc)) (r := icodes r) x)
    { st with bk := upd st.bk id (.live (.mp kc vc (thd (c := .list (.pair kc vc)) (r := icodes r) x))) }
  | .sb t id :: r, x =>
    let st := mkS r (ttl (c := .pair (.i .i64) (.i .i64)) (r := icodes r) x)
    { st with tm := upd st.tm t (one (.sub id (Int.toNat (thd (c := .pair (.i .i64) (.i .i64)) (r := icodes r) x).1) (Int.toNat (thd (c := .pair (.i .i64) (.i .i64)) (r := icodes r) x).2))) }

def cellAt (st : St) (id j : Nat) : Option Sc :=
  match st.bk id with
  | .live (.box cs) => cs[j]?
  | _ => none

def packS1 : (is : List It) → St → Option (Tup (icodes is))
  | [], _ => some ()
  | .sl t org agg c :: r, st => match st.tm t with
    | .v v => if orgLe (orgL st.bk v.cells) org then
        match decArg st.bk c agg v, packS1 r st with
        | some x, some y => some (tcons x y)
        | _, _ => none
      else none
    | _ => none
  | .so t org c :: r, st => match st.tm t with
    | .v (.one (.own id)) => if orgLe (orgS st.bk (.own id)) org then
        match ownedL st.bk c id, packS1 r st with
        | some x, some y => some (tcons (c := .list c) x y)
        | _, _ => none
      else none
    | .v (.one .nils) => match packS1 r st with
      | some y => some (tcons (c := .list c) (r := icodes r) ([] : List (El c)) y)
      | none => none
    | _ => none
  | .sk t s :: r, st => match st.tm t with
    | .v (.one s') => if eqK s s' then packS1 r st else none
    | _ => none
  | .cl t f org caps :: r, st => match st.tm t with
    | .v (.one (.fn g cs)) => if Nat.beq f g && ((capBox cs).isEmpty && orgLe (capOrg st.bk cs) org) then
        match decCaps st.bk caps cs, packS1 r st with
        | some x, some y => some (tcons (c := pairs caps) x y)
        | _, _ => none
      else none
    | _ => none
  | .rp t org c :: r, st => match st.tm t with
    | .v (.one (.pp o c' x 0)) => if orgLe o org then
        match decC st.bk c (scells o c' x), packS1 r st with
        | some x, some y => some (tcons x y)
        | _, _ => none
      else none
    | _ => none
  | .bx id n :: r, st => match st.bk id with
    | .live (.box cs) => if Nat.beq cs.length n then packS1 r st else none
    | _ => none
  | .bd id j org c :: r, st => match cellAt st id j with
    | some s => if orgLe (orgL st.bk [s]) org then
        match decC st.bk c [s], packS1 r st with
        | some x, some y => some (tcons x y)
        | _, _ => none
      else none
    | none => none
  | .bo id j org c :: r, st => match cellAt st id j with
    | some (.own i) => if orgLe (orgS st.bk (.own i)) org then
        match ownedL st.bk c i, packS1 r st with
        | some x, some y => some (tcons (c := .list c) x y)
        | _, _ => none
      else none
    | some .nils => match packS1 r st with
      | some y => some (tcons (c := .list c) (r := icodes r) ([] : List (El c)) y)
      | none => none
    | _ => none
  | .bk id j s :: r, st => match cellAt st id j with
    | some s' => if eqK s s' then packS1 r st else none
    | none => none
  | .vc id org c :: r, st => if orgLe (orgS st.bk (.own id)) org then
      match ownedL st.bk c id, packS1 r st with
      | some x, some y => some (tcons (c := .list c) x y)
      | _, _ => none
    else none
  | .mp id kc vc :: r, st => match st.bk id with
    | .live (.mp kc' vc' es) => if h : kc' = kc ∧ vc' = vc then
        match packS1 r st with
        | some y => some (tcons (c := .list (.pair kc vc)) (castL (c := .pair kc vc) (c' := .pair kc' vc') (by rw [h.1, h.2]) es) y)
        | none => none
      else none
    | _ => none
  | .sb t id :: r, st => match st.tm t with
    | .v (.one (.sub id' lo hi)) => if Nat.beq id id' then
        match packS1 r st with
        | some y => some (tcons (c := .pair (.i .i64) (.i .i64)) (((lo : Int), (hi : Int)) : El (.pair (.i .i64) (.i .i64))) y)
        | none => none
      else none
    | _ => none

/-- Owned slices that a shape takes over, by name in the old state. -/
def tookS (st : St) : List It → List Nat
  | [] => []
  | .so t _ _ :: r => (match st.tm t with
    | .v (.one (.own id)) => [id]
    | _ => []) ++ tookS st r
  | .bo id j _ _ :: r => (match cellAt st id j with
    | some (.own i) => [i]
    | _ => []) ++ tookS st r
  | .vc id _ _ :: r => id :: tookS st r
  | .bx id _ :: r => id :: tookS st r
  | .mp id _ _ :: r => id :: tookS st r
  | _ :: r => tookS st r

def seenS (st : St) : List It → List Nat
  | [] => []
  | .sl t _ _ _ :: r => (match st.tm t with
    | .v v => idsL v.cells
    | _ => []) ++ seenS st r
  | .bd id j _ _ :: r => (match cellAt st id j with
    | some s => idsL [s]
    | none => []) ++ seenS st r
  | _ :: r => seenS st r

def usesI : List It → List Nat
  | [] => []
  | .sk _ s :: r => kNames s ++ usesI r
  | .bk _ _ s :: r => kNames s ++ usesI r
  | .sb _ id :: r => id :: usesI r
  | _ :: r => usesI r

def keepsI : List It → List Nat
  | [] => []
  | .bx id _ :: r => id :: keepsI r
  | .vc id _ _ :: r => id :: keepsI r
  | .mp id _ _ :: r => id :: keepsI r
  | _ :: r => keepsI r

def makesI : List It → List Nat
  | [] => []
  | .so t _ _ :: r => (8 * t + 7) :: makesI r
  | .bo id j _ _ :: r => (8 * (id * 64 + j) + 6) :: makesI r
  | .bx id _ :: r => id :: makesI r
  | .vc id _ _ :: r => id :: makesI r
  | .mp id _ _ :: r => id :: makesI r
  | _ :: r => makesI r

/-- Box cells are filled in behind their box (the list is read from its end). -/
def boxesOk : List It → Bool
  | [] => true
  | .bd id _ _ _ :: r | .bo id _ _ _ :: r | .bk id _ _ :: r => (keepsI r).contains id && boxesOk r
  | _ :: r => boxesOk r

def packS (is : List It) (st : St) : Option (Tup (icodes is)) :=
  if nodupB (tookS st is) && apartB (tookS st is) (seenS st is) && (usesI is).all (fun id => (keepsI is).contains id) && nodupB (makesI is) && boxesOk is then packS1 is st else none

def packX : (ex : Exs) → Ex → St → Option (ExT ex)
  | [], _, _ => none
  | [(e, s)], e', st => if e = e' then packS s st else none
  | (e, s) :: d :: r, e', st => match (if e = e' then packS s st else none) with
    | some x => some (.inl x)
    | none => match packX (d :: r) e' st with
      | some y => some (.inr y)
      | none => none

def unX : (ex : Exs) → ExT ex → (Ex → St → Option R) → Option R
  | [], _, _ => none
  | [(e, s)], x, k => k e (mkS s x)
  | (e, s) :: d :: r, x, k => match x with
    | .inl x => k e (mkS s x)
    | .inr y => unX (d :: r) y k

def tryH (f n : Nat) (ex : Exs) (st : St) (k : ExT ex → Option R) : List (List It) → Option R
  | [] => none
  | h :: r => match packS h st with
    | some x => (run (.lp f n ex h) x).bind k
    | none => tryH f n ex st k r

/-! ### Code -/

def nloops : Code → Nat
  | .seq a b => nloops a + nloops b
  | .cond _ a b => nloops a + nloops b
  | .block _ c => nloops c
  | .loop c => nloops c + 1
  | _ => 0

def loopAt : Code → Nat → Option Code
  | .seq a b, n => if n < nloops a then loopAt a n else loopAt b (n - nloops a)
  | .cond _ a b, n => if n < nloops a then loopAt a n else loopAt b (n - nloops a)
  | .block _ c, n => loopAt c n
  | .loop c, n => match n with
    | 0 => some c
    | m + 1 => loopAt c m
  | _, _ => none

/-- A loop over a function, as the language writes it. -/
def isRf : Code → Bool
  | .block _ (.rangeFunc ..) => true
  | _ => false

noncomputable def codeK (f : Nat) : Nat → Code → St → (Ex → St → Option R) → Option R
  | _, .skip, st, k => k .nrm st
  | _, .region id ops draw, st, k => match draw with
    | false => match isJoin E f id with
      | false => opsK E run ops ops.toList st (k .nrm)
      | true => Option.bind (opsJ E run ops ops.toList st fun st' => boolT (st'.tm (lastD ops))) fun b => k .nrm (joinSt st ops b)
    | true => if E.P.follows .mixedOrders && regOk E ops (befs [] ops.toList) then opsD E run ops (befs [] ops.toList) 0 ops.toList st (k .nrm) else none
  | n, .seq a b, st, k => match isRf b with
    | true => match E.xcd f st with
      | some (q, st') => cond q (k .nrm st') none
      | none => none
    | false => codeK f n a st fun e st' => match e with
      | .nrm => codeK f (n + nloops a) b st' k
      | e => k e st'
  | n, .cond c a b, st, k => match evalO st.tm c with
    | .v (.one (.bool q)) => cond q (codeK f n a st k) (codeK f (n + nloops a) b st k)
    | .v (.one .boolU) => both (codeK f n a st k) (codeK f (n + nloops a) b st k)
    | _ => none
  | n, .block id c, st, k => codeK f n c st fun e st' => match e with
    | .exit j => if j = id then k .nrm st' else k (.exit j) st'
    | e => k e st'
  | n, .loop _, st, k => tryH run f n (E.exits f n) st (fun y => unX (E.exits f n) y k) (E.heads f n)
  | _, .exit id, st, k => k (.exit id) st
  | _, .ret, st, k => k .ret st
  | _, .label _, st, k => k .nrm st
  | _, _, _, _ => none

/-! ### Calls -/

/-- One argument, as the callee finds it. -/
def putA (p : Nat) (st : St) : (s : ASh) → In1 s → St
  | .d c agg, x => { st with tm := upd st.tm p (.v (mkVal agg (scells (2 ^ p) c x))) }
  | .own c, x => { tm := upd st.tm p (one (.own (8 * p + 5))), bk := upd st.bk (8 * p + 5) (.live (.vec (cond (cflat c) 0 (2 ^ p)) c x)) }
  | .ref c, x => { tm := upd st.tm p (one (.own (8 * p + 5))), bk := upd st.bk (8 * p + 5) (.live (.vec (2 ^ p) c x)) }
  | .rbox c, x => { tm := upd st.tm p (one (.ptr (8 * p + 5) 0)), bk := upd st.bk (8 * p + 5) (.live (.box (scells (2 ^ p) c x))) }
  | .clo f caps, x => { st with tm := upd st.tm p (one (.fn f (capsC (2 ^ p) caps x))) }
  | .rp c, x => { st with tm := upd st.tm p (one (.pp (2 ^ p) c x 0)) }
  | .rag a e, x => { tm := upd st.tm p (.v (.agg (scells (2 ^ p) a x.1 ++ [.own (8 * p + 5)]))), bk := upd st.bk (8 * p + 5) (.live (.vec (2 ^ p) e x.2)) }
  | .k s, _ => { st with tm := upd st.tm p (one s) }

def mkA : Nat → (as : List ASh) → Tup (acodes as) → St
  | _, [], _ => { tm := fun _ => one .und, bk := bk0 }
  | p, s :: r, x => putA p (mkA (p + 1) r (tl1 s x)) s (hd1 s x)

/-- A result's value behind the body. -/
def resV (st : St) : ResultVar → Option Val
  | .tmp t => match st.tm t with
    | .v v => some v
    | _ => none
  | .cell a t => match st.tm a, isAggT E.P t, szT E.P t with
    | .v (.one (.ptr id 0)), some agg, some sz => match st.bk id with
      | .live (.box cs) => match agg with
        | true => if sz ≤ cs.length then some (.agg (cs.take sz)) else none
        | false => match cs[0]? with
          | some s => some (.one s)
          | none => none
      | _ => none
    | _, _, _ => none

def packO (st : St) : Nat → (as : List ASh) → Option (Tup (outs as))
  | _, [] => some ()
  | p, .ref c :: r => if orgLe (orgS st.bk (.own (8 * p + 5))) (2 ^ p) then
      match ownedL st.bk c (8 * p + 5), packO st (p + 1) r with
      | some x, some y => some (tcons (c := .list c) x y)
      | _, _ => none
    else none
  | p, .rbox c :: r => match st.bk (8 * p + 5) with
    | .live (.box cs) => if orgLe (orgL st.bk cs) (2 ^ p) then
        match decC st.bk c cs, packO st (p + 1) r with
        | some x, some y => some (tcons x y)
        | _, _ => none
      else none
    | _ => none
  | p, .rp _ :: r => packO st (p + 1) r
  | p, .rag _ c :: r => if orgLe (orgS st.bk (.own (8 * p + 5))) (2 ^ p) then
      match ownedL st.bk c (8 * p + 5), packO st (p + 1) r with
      | some x, some y => some (tcons (c := .list c) x y)
      | _, _ => none
    else none
  | p, .d _ _ :: r => packO st (p + 1) r
  | p, .own _ :: r => packO st (p + 1) r
  | p, .clo _ _ :: r => packO st (p + 1) r
  | p, .k _ :: r => packO st (p + 1) r

def packR (st : St) : List ResultVar → (rs : List RSh) → (as : List ASh) → Option (Tup (rcodes rs as))
  | [], [], as => packO st 0 as
  | v :: vs, r :: rs, as => match resV E st v with
    | some x => if orgLe (orgL st.bk x.cells) r.org then
        cond (nzCk (nzOf r) r.agg st.bk x.cells) (match decArg st.bk r.c r.agg x, packR st vs rs as with
        | some y, some z => some (tcons (r := rcodes rs as) y z)
        | _, _ => none) none
      else none
    | none => none
  | _, _, _ => none

/-- What the caller goes on owning. -/
def refIds : Nat → List ASh → List Nat
  | _, [] => []
  | p, .ref _ :: r => (8 * p + 5) :: refIds (p + 1) r
  | p, .rag _ _ :: r => (8 * p + 5) :: refIds (p + 1) r
  | p, .rbox _ :: r => (8 * p + 5) :: refIds (p + 1) r
  | p, _ :: r => refIds (p + 1) r

def idsR (st : St) : List ResultVar → List Nat
  | [] => []
  | v :: r => (match resV E st v with
    | some x => idsL x.cells
    | none => []) ++ idsR st r

def idsB (st : St) : Nat → List ASh → List Nat
  | _, [] => []
  | p, .rbox _ :: r => (match st.bk (8 * p + 5) with
    | .live (.box cs) => idsL cs
    | _ => []) ++ idsB st (p + 1) r
  | p, _ :: r => idsB st (p + 1) r

def ownF (B : Nat → BS) : (c : Cd) → Nat → Option (El c)
  | .list c, id => ownedL B c id
  | _, _ => none

def nilF : (c : Cd) → Option (El c)
  | .list _ => some []
  | _ => none

/-- A result that the caller comes to own. -/
def packF (st : St) : List ResultVar → (rs : List RSh) → (as : List ASh) → Option (Tup (rcodes rs as))
  | [v], [r], as => match ptrR r, resV E st v with
    | false, some (.agg cs) => match ownCell r.c cs with
      | some id => if apartB [id] (refIds 0 as) && apartB [id] (idsB st 0 as) && isLive st.bk id && Nat.beq (nlist r.c) 1 && r.agg then
          if orgLe (orgS st.bk (.own id)) r.org then
            match decC st.bk r.c cs, packO st 0 as with
            | some y, some z => some (tcons (r := rcodes [] as) y z)
            | _, _ => none
          else none
        else none
      | none => none
    | false, some (.one .nils) => if !r.agg then
        match nilF r.c, packO st 0 as with
        | some y, some z => some (tcons (r := rcodes [] as) y z)
        | _, _ => none
      else none
    | false, some (.one (.own id)) => if apartB [id] (refIds 0 as) && apartB [id] (idsB st 0 as) && !r.agg then
        if orgLe (orgS st.bk (.own id)) r.org then
          match ownF st.bk r.c id, packO st 0 as with
          | some y, some z => some (tcons (r := rcodes [] as) y z)
          | _, _ => none
        else none
      else none
    | true, some (.one (.ptr id 0)) => match st.bk id with
      | .live (.box cs) => if apartB (id :: idsL cs) (refIds 0 as) && apartB [id] (idsL cs) && apartB [id] (idsB st 0 as) then
          if orgLe (orgL st.bk cs) r.org then
            match decC st.bk r.c cs, packO st 0 as with
            | some y, some z => some (tcons (r := rcodes [] as) y z)
            | _, _ => none
          else none
        else none
      | _ => none
    | _, _ => none
  | _, _, _ => none

def finR (st : St) (vs : List ResultVar) (rs : List RSh) (as : List ASh) : Option (Tup (rcodes rs as)) :=
  if apartB (idsR E st vs ++ idsB st 0 as) (refIds 0 as) then (match frL rs with
    | true => packF E st vs rs as
    | false => packR E st vs rs as) else none

/-- One step: what a call or a loop comes to, given what those within come to. -/
noncomputable def stp : Orc
  | .fn i, x => cond (E.isExt i.f) (E.exf i x) (match E.P.funcs[i.f]? with
    | some fn => match fn.body with
      | some c => cond (Nat.ble i.as.length fn.ntmps) (codeK E run i.f 0 c (mkA 0 i.as x) fun e st => match e with
        | .nrm => finR E st fn.results.toList i.rs i.as
        | .ret => finR E st fn.results.toList i.rs i.as
        | _ => none) none
      | none => none
    | none => none)
  | .lp f n ex h, x => match (E.P.funcs[f]?).bind (·.body) with
    | some c => match loopAt c n with
      | some b => codeK E run f (n + 1) b (mkS h x) fun e st => match e with
        | .nrm => tryH run f n ex st some (E.heads f n)
        | e => packX ex e st
      | none => none
    | none => none

end
end Ai
end Go.Proofs.YtpboclokodgnlaaGreat

/-! A4: The ideal interpreter: what is handed on does not change what is found. -/
namespace Go.Proofs.YtpboclokodgnlaaGreat
namespace Ai
set_option linter.unusedSimpArgs false
set_option linter.unusedVariables false

abbrev KF := (R : Type) → (T → List (Nat × BS) → Option R) → Option R

/-- A function with a continuation finds its pair first and hands it on. -/
def Nat1 (F : KF) : Prop :=
  ∀ (R : Type) (k : T → List (Nat × BS) → Option R), F R k = (F _ fun t d => some (t, d)).bind fun p => k p.1 p.2

theorem nat_none : Nat1 (fun _ _ => none) := fun _ _ => rfl
theorem nat_hand (t : T) (d : List (Nat × BS)) : Nat1 (fun _ k => k t d) := fun _ _ => rfl

theorem nat_cond {b : Bool} {x y : KF} (hx : Nat1 x) (hy : Nat1 y) : Nat1 (fun R k => cond b (x R k) (y R k)) := by
  intro R k; cases b
  · exact hy R k
  · exact hx R k

theorem nat_ite {p : Prop} [Decidable p] {x y : KF} (hx : Nat1 x) (hy : Nat1 y) : Nat1 (fun R k => if p then x R k else y R k) := by
  intro R k
  by_cases h : p
  · simp only [if_pos h]; exact hx R k
  · simp only [if_neg h]; exact hy R k

theorem nat_bind {α : Type} {m : Option α} {f : α → KF} (h : ∀ x, Nat1 (f x)) : Nat1 (fun R k => m.bind fun x => f x R k) := by
  intro R k; cases m
  · rfl
  · exact h _ R k

theorem nat_opt {α : Type} {m : Option α} {f : α → KF} (h : ∀ x, Nat1 (f x)) : Nat1 (fun R k => match m with
    | some x => f x R k
    | none => none) := by
  intro R k; cases m
  · rfl
  · exact h _ R k

theorem nat_mkB (B : Nat → BS) (id : Nat) (b : Blk) (t : T) : Nat1 (fun _ k => mkB B id b t k) := by
  intro R k; unfold mkB; split <;> rfl

theorem nat_splitIdx (i : Int) {F : Nat → KF} (h : ∀ j, Nat1 (F j)) : ∀ n j, Nat1 (fun R k => splitIdx i n j fun j => F j R k)
  | 0, _ => nat_none
  | n + 1, j => nat_cond (h j) (nat_splitIdx i h n (j + 1))

theorem nat_loHi (len : Nat) (lo hi : Option T) {F : Nat → Nat → KF} (h : ∀ l u, Nat1 (F l u)) : Nat1 (fun R k => loHi len lo hi fun l u => F l u R k) := by
  intro R k
  unfold loHi
  split
  · exact h _ _ R k
  · exact nat_cond (h _ _) nat_none R k
  · exact nat_cond (h _ _) nat_none R k
  · exact nat_cond (nat_cond (h _ _) nat_none) nat_none R k
  · rfl

theorem nat_loadCs (cs : List Sc) (agg : Bool) (off sz : Nat) : Nat1 (fun _ k => loadCs cs agg off sz k) := by
  intro R k; unfold loadCs; split
  · exact nat_ite (nat_hand _ _) nat_none R k
  · split <;> rfl

theorem nat_shift (op : BinOp) (k : IntKind) (a b : Int) : Nat1 (fun _ K => shiftBin op k a b fun s => K (one s) []) := by
  intro R K
  unfold shiftBin
  split
  · exact nat_cond nat_none (nat_hand _ _) R K
  · exact nat_cond nat_none (nat_hand _ _) R K
  · rfl

theorem nat_isNil (B : Nat → BS) (s : Sc) {F : Bool → KF} (h : ∀ b, Nat1 (F b)) : Nat1 (fun R k => isNil B s fun b => F b R k) := by
  intro R k
  unfold isNil
  split
  · exact h _ R k
  · split
    · exact nat_cond nat_none (h _) R k
    · rfl
  · exact nat_cond nat_none (h _) R k
  · exact h _ R k
  · rfl

theorem nat_binK (E : Env) (B : Nat → BS) (op : BinOp) (t : TypeId) (cy : Bool) (x y : T) : Nat1 (fun _ k => binK E B op t cy x y k) := by
  intro R k
  unfold binK
  split
  · split
    · exact nat_shift _ _ _ _ R k
    · exact nat_shift _ _ _ _ R k
    · split
      · unfold intBin; split <;> first | rfl | exact nat_cond nat_none (nat_hand _ _) R k
      · rfl
  · unfold strBin; split <;> first | rfl | exact nat_cond (nat_hand _ _) nat_none R k
  · split <;> rfl
  · split
    · split
      · split <;> rfl
      · rfl
    · rfl
  · split
    · exact nat_cond (x := fun _ k => match neg1 op true with
        | some _ => k (one .boolU) []
        | none => none) (fun R k => by cases neg1 op true <;> rfl) (nat_isNil _ _ (F := fun b _ k => match neg1 op b with
        | some r => k (one (.bool r)) []
        | none => none) (fun b R k => by cases neg1 op b <;> rfl)) R k
    · rfl
  · split
    · split <;> rfl
    · split <;> rfl
    · rfl
  · rfl

theorem nat_semK (E : Env) (B : Nat → BS) (tm : Nat → T) (o : Oper) : Nat1 (fun _ k => semK E B tm o k) := by
  intro R k
  unfold semK
  simp only []
  split
  · rfl
  · rfl
  · split
    · exact nat_cond (nat_hand _ _) (nat_hand _ _) R k
    · rfl
  · split
    · split
      · exact nat_mkB _ _ _ _ R k
      · rfl
    · rfl
  · split
    · split
      · exact nat_mkB _ _ _ _ R k
      · rfl
    · rfl
  · unfold buildK
    split
    · split
      · split <;> rfl
      · rfl
    · split
      · split <;> rfl
      · rfl
    · rfl
  · unfold buildSliceK
    split
    · split
      · split
        · split
          · unfold mkB; split <;> rfl
          · rfl
        · rfl
      · rfl
    · rfl
  · unfold loadK
    split
    · split
      · exact nat_loadCs _ _ _ _ R k
      · rfl
    · split
      · exact nat_loadCs _ _ _ _ R k
      · rfl
    · exact nat_loadCs _ _ _ _ R k
    · rfl
  · unfold storeK
    split
    · split
      · split
        · split <;> rfl
        · rfl
      · rfl
    · split
      · split
        · split
          · split <;> rfl
          · rfl
        · rfl
      · rfl
    · rfl
  · split <;> rfl
  · exact nat_binK _ _ _ _ _ _ _ R k
  · unfold unK; split <;> rfl
  · unfold convK
    split
    · rfl
    · rfl
    · split <;> rfl
    · rfl
  · split <;> rfl
  · unfold makeSliceK
    split
    · split
      · split
        · split
          · exact nat_cond (nat_mkB _ _ _ _) nat_none R k
          · rfl
        · rfl
      · rfl
    · rfl
  · unfold sliceK
    split
    · split
      · unfold sliceZ
        split
        · exact nat_ite (nat_cond (nat_mkB _ _ _ _) nat_none) nat_none R k
        · rfl
      · rfl
    · split
      · exact nat_loHi _ _ _ (fun l u => nat_hand _ _) R k
      · split
        · exact nat_loHi _ _ _ (fun l u => nat_hand _ _) R k
        · rfl
      · split
        · split
          · exact nat_loHi _ _ _ (fun l u => nat_hand _ _) R k
          · rfl
        · rfl
      · rfl
  · unfold makeMapK
    split
    · exact nat_mkB _ _ _ _ R k
    · exact nat_mkB _ _ _ _ R k
    · rfl
  · unfold lookupK
    split
    · split
      · split
        · split
          · split <;> rfl
          · rfl
        · rfl
      · rfl
    · rfl
  · unfold mapUpdateK
    split
    · split
      · split
        · split <;> rfl
        · rfl
      · rfl
    · rfl
  · unfold fieldAddrK
    split
    · split <;> rfl
    · rfl
  · unfold fieldK
    split
    · split
      · exact nat_loadCs _ _ _ _ R k
      · rfl
    · rfl
  · unfold indexAddrK
    split
    · split
      · exact nat_bind (fun x => nat_hand _ _) R k
      · rfl
    · split
      · split
        · exact nat_cond (nat_hand _ _) nat_none R k
        · rfl
      · split
        · exact nat_bind (fun x => nat_hand _ _) R k
        · rfl
      · rfl
    · split
      · split
        · exact nat_cond (nat_hand _ _) nat_none R k
        · rfl
      · rfl
    · split
      · split
        · exact nat_splitIdx _ (fun j => nat_hand _ _) _ _ R k
        · rfl
      · rfl
    · rfl
  · unfold indexK
    split
    · exact nat_bind (fun x => nat_hand _ _) R k
    · split
      · exact nat_splitIdx _ (fun j => nat_loadCs _ _ _ _) _ _ R k
      · rfl
    · rfl
  · split
    · split <;> rfl
    · rfl
  · unfold builtinK
    split
    · unfold lenK
      split
      · rfl
      · split <;> rfl
      · split <;> rfl
      · rfl
    · split
      · unfold appendK
        split
        · split
          · split
            · split
              · split
                · exact nat_cond (nat_mkB _ _ _ _) nat_none R k
                · split
                  · split
                    · split
                      · rfl
                      · refine nat_cond (x := fun R k => match B _ with | .fresh => k _ _ | _ => none) ?_ nat_none R k
                        intro R k; split <;> rfl
                    · rfl
                  · rfl
                · rfl
              · rfl
            · rfl
          · rfl
        · rfl
      · rfl
    · split
      · unfold copyK
        split
        · split
          · split
            · split
              · split
                · split <;> rfl
                · rfl
              · rfl
            · rfl
          · rfl
        · rfl
      · rfl
    · unfold clearK
      split
      · split
        · split
          · split
            · split
              · split <;> rfl
              · rfl
            · rfl
          · rfl
        · rfl
      · rfl
    · split <;> rfl
    · split <;> rfl
    · rfl
  · rfl

end Ai
end Go.Proofs.YtpboclokodgnlaaGreat

/-! A5: The ideal interpreter: the least solution of its equations. -/
namespace Go.Proofs.YtpboclokodgnlaaGreat
namespace Ai
set_option linter.unusedSimpArgs false
set_option linter.unusedVariables false

def Le (run run' : Orc) : Prop := ∀ k x r, run k x = some r → run' k x = some r

section
variable (E : Env)

theorem nat_callWith (run : Orc) (B : Nat → BS) (d : Nat) (gf : FuncId) (args : List T) : ∀ l : List FI, Nat1 (fun _ k => callWith run B d gf args k l)
  | [] => nat_none
  | i :: r => by
    intro R k
    simp only [callWith]
    split
    · split
      · refine nat_bind (f := fun y R k => if freshAll B (impA d i.rs i.as (orgA B i.as args) y).2 = true then
            k (resT (impA d i.rs i.as (orgA B i.as args) y).1)
              (frzL B (keptA B (maskR i.rs) 0 i.as args) ++ (effA i.as args (orgA B i.as args) (outR i.rs y) ++ (impA d i.rs i.as (orgA B i.as args) y).2))
          else none) (fun y => ?_) R k
        exact nat_ite (nat_hand _ _) nat_none
      · rfl
    · exact nat_callWith run B d gf args r R k

theorem nat_opK (run : Orc) (B : Nat → BS) (tm : Nat → T) (o : Oper) : Nat1 (fun _ k => opK E run B tm o k) := by
  intro R k
  simp only [opK]
  split
  · split
    · exact nat_callWith run B _ _ _ _ R k
    · rfl
  · exact nat_semK E B tm o R k

/-- What an operation finds. -/
def opD (run : Orc) (B : Nat → BS) (tm : Nat → T) (o : Oper) : Option (T × List (Nat × BS)) := opK E run B tm o fun t d => some (t, d)

theorem opK_eq {R : Type} (run : Orc) (B : Nat → BS) (tm : Nat → T) (o : Oper) (k : T → List (Nat × BS) → Option R) :
    opK E run B tm o k = (opD E run B tm o).bind fun p => k p.1 p.2 := nat_opK E run B tm o R k

theorem callWith_mono {run run' : Orc} (h : Le run run') {R : Type} {B : Nat → BS} {d : Nat} {gf : FuncId} {args : List T} {k : T → List (Nat × BS) → Option R} {r : R} :
    ∀ l : List FI, callWith run B d gf args k l = some r → callWith run' B d gf args k l = some r
  | [], hh => hh
  | i :: l, hh => by
    simp only [callWith] at hh ⊢
    split at hh
    · split at hh
      · rename_i hx hc
        rw [if_pos hc]
        obtain ⟨y, hy, hk⟩ := Option.bind_eq_some_iff.1 hh
        exact Option.bind_eq_some_iff.2 ⟨y, h _ _ _ hy, hk⟩
      · cases hh
    · exact callWith_mono h l hh

theorem opK_mono {run run' : Orc} (h : Le run run') {R : Type} {B : Nat → BS} {tm : Nat → T} {o : Oper} {k k' : T → List (Nat × BS) → Option R} {r : R}
    (hk : ∀ t d, k t d = some r → k' t d = some r) (hh : opK E run B tm o k = some r) : opK E run' B tm o k' = some r := by
  have h1 : opK E run' B tm o k = some r := by
    simp only [opK] at hh ⊢
    split at hh
    · split at hh
      · exact callWith_mono h _ hh
      · cases hh
    · exact hh
  rw [opK_eq] at h1 ⊢
  obtain ⟨p, hp, hq⟩ := Option.bind_eq_some_iff.1 h1
  exact Option.bind_eq_some_iff.2 ⟨p, hp, hk _ _ hq⟩

theorem putK_mono {R : Type} {st : St} {dst : Option Tmp} {t : T} {k k' : St → Option R} {r : R}
    (hk : ∀ st, k st = some r → k' st = some r) (hh : putK st dst t k = some r) : putK st dst t k' = some r := by
  unfold putK at *
  split at hh
  · rename_i b
    cases b
    · exact hk _ hh
    · exact hk _ hh
  · exact hk _ hh

theorem wantedK_mono {R : Type} {ops : Array Oper} {tm : Nat → T} {o : Oper} {ky kn ky' kn' : Option R} {r : R}
    (hy : ky = some r → ky' = some r) (hn : kn = some r → kn' = some r) (hh : wantedK ops tm o ky kn = some r) : wantedK ops tm o ky' kn' = some r := by
  unfold wantedK at *
  cases hg : o.guard with
  | none => simp only [hg] at hh ⊢; exact hy hh
  | some p =>
    obtain ⟨j, want⟩ := p
    simp only [hg] at hh ⊢
    split at hh
    · split at hh
      · rename_i b _
        cases b <;> cases want
        · exact hy hh
        · exact hn hh
        · exact hn hh
        · exact hy hh
      · exact hn hh
      · cases hh
    · cases hh

theorem opsK_mono {run run' : Orc} (h : Le run run') {R : Type} {ops : Array Oper} {r : R} {k k' : St → Option R} (hk : ∀ st, k st = some r → k' st = some r) :
    ∀ (l : List Oper) (st : St), opsK E run ops l st k = some r → opsK E run' ops l st k' = some r
  | [], st, hh => hk st hh
  | o :: l, st, hh => by
    simp only [opsK] at hh ⊢
    refine wantedK_mono (fun h1 => ?_) (fun h1 => opsK_mono h hk l _ h1) hh
    refine opK_mono E h (fun t d h2 => ?_) h1
    exact putK_mono (fun st' h3 => opsK_mono h hk l st' h3) h2

theorem opsJ_mono {run run' : Orc} (h : Le run run') {R : Type} {ops : Array Oper} {r : R} {k : St → Option R} :
    ∀ (l : List Oper) (st : St), opsJ E run ops l st k = some r → opsJ E run' ops l st k = some r
  | [], st, hh => hh
  | o :: l, st, hh => by
    simp only [opsJ] at hh ⊢
    refine wantedK_mono (fun h1 => ?_) (fun h1 => opsJ_mono h l _ h1) hh
    refine opK_mono E h (fun t d h2 => ?_) h1
    cases d with
    | nil => exact putK_mono (fun st' h3 => opsJ_mono h l st' h3) h2
    | cons _ _ => cases h2

theorem opsD_mono {run run' : Orc} (h : Le run run') {R : Type} {ops : Array Oper} {b : List Nat} {r : R} {k k' : St → Option R} (hk : ∀ st, k st = some r → k' st = some r) :
    ∀ (l : List Oper) (n : Nat) (st : St), opsD E run ops b n l st k = some r → opsD E run' ops b n l st k' = some r
  | [], n, st, hh => hk st hh
  | o :: l, n, st, hh => by
    simp only [opsD] at hh ⊢
    refine wantedK_mono (fun h1 => ?_) (fun h1 => opsD_mono h hk l (n + 1) _ h1) hh
    refine opK_mono E h (fun t d h2 => ?_) h1
    split at h2
    · rename_i hc
      rw [if_pos hc]
      exact putK_mono (fun st' h3 => opsD_mono h hk l (n + 1) st' h3) h2
    · cases h2

theorem tryH_mono {run run' : Orc} (h : Le run run') {R : Type} {f n : Nat} {ex : Exs} {st : St} {k k' : ExT ex → Option R} {r : R} (hk : ∀ y, k y = some r → k' y = some r) :
    ∀ l : List (List It), tryH run f n ex st k l = some r → tryH run' f n ex st k' l = some r
  | [], hh => by cases hh
  | hd :: l, hh => by
    simp only [tryH] at hh ⊢
    split at hh
    · obtain ⟨y, hy, h2⟩ := Option.bind_eq_some_iff.1 hh
      exact Option.bind_eq_some_iff.2 ⟨y, h _ _ _ hy, hk _ h2⟩
    · exact tryH_mono h hk l hh

theorem unX_mono {R : Type} {k k' : Ex → St → Option R} {r : R} (hk : ∀ e st, k e st = some r → k' e st = some r) :
    ∀ (ex : Exs) (y : ExT ex), unX ex y k = some r → unX ex y k' = some r
  | [], _, hh => by cases hh
  | [(e, s)], x, hh => hk _ _ hh
  | (e, s) :: d :: l, .inl x, hh => hk _ _ hh
  | (e, s) :: d :: l, .inr x, hh => unX_mono hk (d :: l) x hh

theorem codeK_mono {run run' : Orc} (h : Le run run') {R : Type} {r : R} (f : Nat) : ∀ (c : Code) (n : Nat) (st : St) (k k' : Ex → St → Option R), (∀ e st, k e st = some r → k' e st = some r) →
    codeK E run f n c st k = some r → codeK E run' f n c st k' = some r := by
  intro c
  induction c with
  | skip => intro n st k k' hk hh; simp only [codeK] at hh ⊢; exact hk _ _ hh
  | region id ops draw =>
    intro n st k k' hk hh
    cases draw
    · simp only [codeK] at hh ⊢
      cases hj : isJoin E f id
      · rw [hj] at hh
        exact opsK_mono E h (hk _) _ _ hh
      · rw [hj] at hh
        obtain ⟨b, h1, h2⟩ := Option.bind_eq_some_iff.1 hh
        exact Option.bind_eq_some_iff.2 ⟨b, opsJ_mono E h _ _ h1, hk _ _ h2⟩
    · simp only [codeK] at hh ⊢
      split at hh
      · rename_i hc
        rw [if_pos hc]
        exact opsD_mono E h (hk _) _ _ _ hh
      · cases hh
  | seq a b iha ihb =>
    intro n st k k' hk hh
    simp only [codeK] at hh ⊢
    cases hrf : isRf b with
    | true =>
      rw [hrf] at hh
      simp only at hh ⊢
      split at hh
      · rename_i q st' hx
        cases q
        · cases hh
        · exact hk _ _ hh
      · cases hh
    | false =>
    rw [hrf] at hh
    simp only at hh ⊢
    refine iha n st _ _ (fun e st' h2 => ?_) hh
    cases e
    · exact ihb _ _ _ _ hk h2
    · exact hk _ _ h2
    · exact hk _ _ h2
  | cond c a b iha ihb =>
    intro n st k k' hk hh
    simp only [codeK] at hh ⊢
    split at hh
    · rename_i q _
      cases q
      · exact ihb _ _ _ _ hk hh
      · exact iha _ _ _ _ hk hh
    · obtain ⟨h1, h2⟩ := both_some hh
      rw [iha _ _ _ _ hk h1, ihb _ _ _ _ hk h2]
      exact both_self
    · cases hh
  | block id c ih =>
    intro n st k k' hk hh
    simp only [codeK] at hh ⊢
    refine ih n st _ _ (fun e st' h2 => ?_) hh
    cases e
    · exact hk _ _ h2
    · exact hk _ _ h2
    · simp only [] at h2 ⊢
      split at h2
      · rename_i hc; rw [if_pos hc]; exact hk _ _ h2
      · rename_i hc; rw [if_neg hc]; exact hk _ _ h2
  | loop c ih =>
    intro n st k k' hk hh
    simp only [codeK] at hh ⊢
    exact tryH_mono h (fun y h2 => unX_mono hk _ y h2) _ hh
  | exit id => intro n st k k' hk hh; simp only [codeK] at hh ⊢; exact hk _ _ hh
  | ret => intro n st k k' hk hh; simp only [codeK] at hh ⊢; exact hk _ _ hh
  | label l => intro n st k k' hk hh; simp only [codeK] at hh ⊢; exact hk _ _ hh
  | scope c ih => intro n st k k' hk hh; simp only [codeK] at hh; cases hh
  | goto l => intro n st k k' hk hh; simp only [codeK] at hh; cases hh
  | rangeFunc _ _ _ _ _ _ => intro n st k k' hk hh; simp only [codeK] at hh; cases hh
  | refuse w => intro n st k k' hk hh; simp only [codeK] at hh; cases hh

theorem stp_mono {run run' : Orc} (h : Le run run') : Le (stp E run) (stp E run') := by
  intro k x r hh
  cases k with
  | fn i =>
    simp only [stp] at hh ⊢
    cases hxt : E.isExt i.f with
    | true => rw [hxt] at hh; exact hh
    | false =>
    rw [hxt] at hh
    simp only [cond_false] at hh ⊢
    split at hh
    · split at hh
      · cases hb : Nat.ble i.as.length _ with
        | false => rw [hb] at hh; cases hh
        | true =>
        rw [hb] at hh
        exact codeK_mono E h _ _ _ _ _ _ (fun _ _ h => h) hh
      · cases hh
    · cases hh
  | lp f n ex hd =>
    simp only [stp] at hh ⊢
    split at hh
    · split at hh
      · refine codeK_mono E h _ _ _ _ _ _ (fun e st h2 => ?_) hh
        cases e
        · exact tryH_mono h (fun _ h => h) _ h2
        · exact h2
        · exact h2
      · cases hh
    · cases hh

/-- A call, or a loop, comes to this answer. -/
inductive Conv : (k : Key) → Dom k → Cod k → Prop where
  | mk (run : Orc) (h : ∀ k x r, run k x = some r → Conv k x r) {k : Key} {x : Dom k} {r : Cod k} (hr : stp E run k x = some r) : Conv k x r

theorem Conv.det {k : Key} {x : Dom k} {r : Cod k} (h : Conv E k x r) : ∀ r', Conv E k x r' → r = r' := by
  induction h with
  | mk run h hr ih =>
    rename_i k x r
    intro r' h'
    cases h' with
    | mk run' g hr' =>
      have e1 : Le run (fun k x => (run k x).or (run' k x)) := by
        intro k x r h1
        simp [h1]
      have e2 : Le run' (fun k x => (run k x).or (run' k x)) := by
        intro k x r h1
        simp only []
        cases h2 : run k x with
        | none => simpa using h1
        | some a => simp [ih k x a h2 r (g k x r h1)]
      have h1 := stp_mono E e1 _ _ _ hr
      have h2 := stp_mono E e2 _ _ _ hr'
      rw [h1] at h2
      exact Option.some.inj h2

open Classical in
/-- What a call, or a loop, comes to. -/
noncomputable def run : Orc := fun k x => if h : ∃ r, Conv E k x r then some h.choose else none

theorem run_conv {k : Key} {x : Dom k} {r : Cod k} : run E k x = some r ↔ Conv E k x r := by
  unfold run
  constructor
  · intro h
    split at h
    · rename_i hx
      have := hx.choose_spec
      rw [Option.some.inj h] at this
      exact this
    · cases h
  · intro h
    have hx : ∃ r, Conv E k x r := ⟨r, h⟩
    rw [dif_pos hx]
    rw [Conv.det E hx.choose_spec r h]

/-- The equation of a call, or a loop. -/
theorem run_eq (k : Key) (x : Dom k) : run E k x = stp E (run E) k x := by
  cases h : stp E (run E) k x with
  | some r => exact (run_conv E).2 (Conv.mk (run E) (fun k x r h => (run_conv E).1 h) h)
  | none =>
    cases h2 : run E k x with
    | none => rfl
    | some r =>
      have := (run_conv E).1 h2
      cases this with
      | mk run' g hr =>
        have := stp_mono E (fun k x r h => (run_conv E).2 (g k x r h)) _ _ _ hr
        rw [h] at this
        cases this

/-- What holds of one step, given that it holds within, holds of every answer. -/
theorem run_ind (M : (k : Key) → Dom k → Cod k → Prop) (h : ∀ run : Orc, (∀ k x r, run k x = some r → M k x r) → ∀ k x r, stp E run k x = some r → M k x r)
    {k : Key} {x : Dom k} {r : Cod k} (hr : run E k x = some r) : M k x r := by
  have := (run_conv E).1 hr
  clear hr
  induction this with
  | mk run' g hr ih => exact h run' ih _ _ _ hr

end
end Ai
end Go.Proofs.YtpboclokodgnlaaGreat

/-! A6: The ideal interpreter against the machine: what it means that a state of the one is a state of the other. -/
namespace Go.Proofs.YtpboclokodgnlaaGreat
namespace Ai
set_option linter.unusedSimpArgs false
set_option linter.unusedVariables false

section
variable {α β γ : Type}

/-- Two lists, place by place. -/
def All2 (R : α → β → Prop) : List α → List β → Prop
  | [], [] => True
  | a :: as, b :: bs => R a b ∧ All2 R as bs
  | _, _ => False

variable {R R' : α → β → Prop}

theorem All2.length : ∀ {as : List α} {bs : List β}, All2 R as bs → as.length = bs.length
  | [], [], _ => rfl
  | _ :: _, _ :: _, h => by simp [All2.length h.2]
  | [], _ :: _, h => h.elim
  | _ :: _, [], h => h.elim

theorem All2.mono (h : ∀ a b, R a b → R' a b) : ∀ {as : List α} {bs : List β}, All2 R as bs → All2 R' as bs
  | [], [], _ => trivial
  | _ :: _, _ :: _, hh => ⟨h _ _ hh.1, All2.mono h hh.2⟩
  | [], _ :: _, hh => hh.elim
  | _ :: _, [], hh => hh.elim

theorem All2.get : ∀ {as : List α} {bs : List β}, All2 R as bs → ∀ {i : Nat} {a : α}, as[i]? = some a → ∃ b, bs[i]? = some b ∧ R a b
  | _ :: _, b :: _, h, 0, a, e => by simp at e; subst e; exact ⟨b, rfl, h.1⟩
  | _ :: _, _ :: _, h, i + 1, a, e => by
    simp only [List.getElem?_cons_succ] at e ⊢
    exact All2.get h.2 e
  | [], [], _, i, a, e => by simp at e
  | [], _ :: _, h, _, _, _ => h.elim
  | _ :: _, [], h, _, _, _ => h.elim

theorem All2.get' : ∀ {as : List α} {bs : List β}, All2 R as bs → ∀ {i : Nat} {b : β}, bs[i]? = some b → ∃ a, as[i]? = some a ∧ R a b
  | a :: _, _ :: _, h, 0, b, e => by simp at e; subst e; exact ⟨a, rfl, h.1⟩
  | _ :: _, _ :: _, h, i + 1, b, e => by
    simp only [List.getElem?_cons_succ] at e ⊢
    exact All2.get' h.2 e
  | [], [], _, i, a, e => by simp at e
  | [], _ :: _, h, _, _, _ => h.elim
  | _ :: _, [], h, _, _, _ => h.elim

theorem All2.of_get : ∀ {as : List α} {bs : List β}, as.length = bs.length → (∀ (i : Nat) a b, as[i]? = some a → bs[i]? = some b → R a b) → All2 R as bs
  | [], [], _, _ => trivial
  | a :: as, b :: bs, hl, h => ⟨h 0 a b rfl rfl, All2.of_get (by simpa using hl) fun i x y hx hy => h (i + 1) x y (by simpa using hx) (by simpa using hy)⟩
  | [], _ :: _, hl, _ => by simp at hl
  | _ :: _, [], hl, _ => by simp at hl

theorem All2.append : ∀ {as : List α} {bs : List β} {cs : List α} {ds : List β}, All2 R as bs → All2 R cs ds → All2 R (as ++ cs) (bs ++ ds)
  | [], [], _, _, _, h => h
  | _ :: _, _ :: _, _, _, h, h' => ⟨h.1, All2.append h.2 h'⟩
  | [], _ :: _, _, _, h, _ => h.elim
  | _ :: _, [], _, _, h, _ => h.elim

theorem All2.take : ∀ {as : List α} {bs : List β} (n : Nat), All2 R as bs → All2 R (as.take n) (bs.take n)
  | _, _, 0, _ => by simp [All2]
  | [], [], n + 1, _ => by simp [All2]
  | _ :: _, _ :: _, n + 1, h => by simp only [List.take_succ_cons]; exact ⟨h.1, All2.take n h.2⟩
  | [], _ :: _, _ + 1, h => h.elim
  | _ :: _, [], _ + 1, h => h.elim

theorem All2.drop : ∀ {as : List α} {bs : List β} (n : Nat), All2 R as bs → All2 R (as.drop n) (bs.drop n)
  | _, _, 0, h => by simpa using h
  | [], [], n + 1, _ => by simp [All2]
  | _ :: _, _ :: _, n + 1, h => by simp only [List.drop_succ_cons]; exact All2.drop n h.2
  | [], _ :: _, _ + 1, h => h.elim
  | _ :: _, [], _ + 1, h => h.elim

theorem All2.set {a : α} {b : β} (hr : R a b) : ∀ {as : List α} {bs : List β} (n : Nat), All2 R as bs → All2 R (as.set n a) (bs.set n b)
  | [], [], _, _ => by simp [All2]
  | _ :: _, _ :: _, 0, h => ⟨hr, h.2⟩
  | _ :: _, _ :: _, n + 1, h => ⟨h.1, All2.set hr n h.2⟩
  | [], _ :: _, _, h => h.elim
  | _ :: _, [], _, h => h.elim

theorem All2.map_right {f : β → γ} {Q : α → γ → Prop} (h : ∀ a b, R a b → Q a (f b)) : ∀ {as : List α} {bs : List β}, All2 R as bs → All2 Q as (bs.map f)
  | [], [], _ => trivial
  | _ :: _, _ :: _, hh => ⟨h _ _ hh.1, All2.map_right h hh.2⟩
  | [], _ :: _, hh => hh.elim
  | _ :: _, [], hh => hh.elim
end

/-- Where an owned thing lies: its block, the first cell, how many elements, up to how many, cells an element. -/
structure Loc where
  b : Nat
  o : Nat
  n : Nat
  cap : Nat
  sz : Nat
  nil : Bool
  ad : Option Addr

/-- The slice at a place; a place may be none: then the slice is nil, or without any room. -/
def Loc.sl (l : Loc) : Value := cond l.nil (.slice l.ad 0 0) (.slice (some ⟨l.b, l.o, none⟩) l.n l.cap)

def Loc.sub (l : Loc) (lo hi : Nat) : Value :=
  cond l.nil (.slice l.ad 0 0) (.slice (some (if l.cap = lo then ⟨l.b, l.o, none⟩ else ⟨l.b, l.o + lo * l.sz, none⟩)) (hi - lo) (l.cap - lo))

/-- Cells that hold a datum; what its slices' blocks are. -/
def DR (w : World) (ok : Nat → Prop) : (c : Cd) → El c → List Value → Prop
  | .i k, n, cs => cs = [.int k n]
  | .bool, b, cs => cs = [.bool b]
  | .str, s, cs => cs = [.string ⟨s.toArray⟩]
  | .pair a b, x, cs => ∃ c1 c2, cs = c1 ++ c2 ∧ DR w ok a x.1 c1 ∧ DR w ok b x.2 c2
  | .unit, _, cs => cs = []
  | .list c, xs, cs => (cs = [.slice none 0 0] ∧ xs = []) ∨ ∃ b o cap, cs = [.slice (some ⟨b, o, none⟩) xs.length cap] ∧ xs.length ≤ cap ∧ (0 < cap → ok b ∧ b < w.heap.size) ∧
      (∀ j, j < cap * csize c → (w.cell? ⟨b, o + j, none⟩).isSome = true) ∧
      ∀ (i : Nat) (x : El c), xs[i]? = some x → ∃ cs', DR w ok c x cs' ∧ ∀ (j : Nat) v, cs'[j]? = some v → w.cell? ⟨b, o + i * csize c + j, none⟩ = some v

theorem DR.length {w : World} {ok : Nat → Prop} : ∀ {c : Cd} {x : El c} {cs : List Value}, DR w ok c x cs → cs.length = csize c
  | .i _, _, _, h => by simp only [DR] at h; subst h; rfl
  | .bool, _, _, h => by simp only [DR] at h; subst h; rfl
  | .str, _, _, h => by simp only [DR] at h; subst h; rfl
  | .unit, _, _, h => by simp only [DR] at h; subst h; rfl
  | .pair a b, _, _, h => by
    obtain ⟨c1, c2, rfl, h1, h2⟩ := h
    simp [csize, DR.length h1, DR.length h2]
  | .list c, _, _, h => by
    rcases h with ⟨rfl, _⟩ | ⟨b, o, cap, rfl, _⟩
    · rfl
    · rfl

/-- A datum stays where what it reads stays. -/
theorem DR.mono {w w' : World} {ok ok' : Nat → Prop} (hs : w.heap.size ≤ w'.heap.size) (h : ∀ b, b < w.heap.size → ok b → ok' b ∧ w'.heap[b]? = w.heap[b]?) :
    ∀ {c : Cd} {x : El c} {cs : List Value}, DR w ok c x cs → DR w' ok' c x cs
  | .i _, _, _, hh => hh
  | .bool, _, _, hh => hh
  | .str, _, _, hh => hh
  | .unit, _, _, hh => hh
  | .pair a b, _, _, hh => by
    obtain ⟨c1, c2, rfl, h1, h2⟩ := hh
    exact ⟨c1, c2, rfl, DR.mono hs h h1, DR.mono hs h h2⟩
  | .list c, xs, _, hh => by
    rcases hh with hh | ⟨b, o, cap, hcs, hc, hokb, hcap, hel⟩
    · exact .inl hh
    · rcases Nat.eq_zero_or_pos cap with h0 | hpos
      · subst h0
        have hx : xs = [] := List.eq_nil_of_length_eq_zero (by omega)
        subst hx
        exact .inr ⟨b, o, 0, hcs, hc, fun h => by omega, fun j hj => by simp at hj, fun i x hx => by simp at hx⟩
      · obtain ⟨hok, hb⟩ := hokb hpos
        have hk := h b hb hok
        refine .inr ⟨b, o, cap, hcs, hc, fun _ => ⟨hk.1, by omega⟩, fun j hj => ?_, fun i x hx => ?_⟩
        · rw [World.cell?_of_block (w := w) hk.2]; exact hcap j hj
        · obtain ⟨cs', hd, hv⟩ := hel i x hx
          exact ⟨cs', DR.mono hs h hd, fun j v hj => by rw [World.cell?_of_block (w := w) hk.2]; exact hv j v hj⟩

/-- Without slices nothing is asked of the world. -/
theorem DR.flat {w w' : World} {ok ok' : Nat → Prop} : ∀ {c : Cd} {x : El c} {cs : List Value}, cflat c = true → DR w ok c x cs → DR w' ok' c x cs
  | .i _, _, _, _, hh => hh
  | .bool, _, _, _, hh => hh
  | .str, _, _, _, hh => hh
  | .unit, _, _, _, hh => hh
  | .pair a b, _, _, hf, hh => by
    obtain ⟨c1, c2, rfl, h1, h2⟩ := hh
    simp only [cflat, Bool.and_eq_true] at hf
    exact ⟨c1, c2, rfl, DR.flat hf.1 h1, DR.flat hf.2 h2⟩
  | .list c, _, _, hf, _ => by simp [cflat] at hf

theorem DR.oneCell {w : World} {ok : Nat → Prop} : ∀ {c : Cd} {x : El c} {cs : List Value}, DR w ok c x cs → ∀ v ∈ cs, v.oneCell' = true
  | .i _, _, _, h, v, hv => by simp only [DR] at h; subst h; simp at hv; subst hv; rfl
  | .bool, _, _, h, v, hv => by simp only [DR] at h; subst h; simp at hv; subst hv; rfl
  | .str, _, _, h, v, hv => by simp only [DR] at h; subst h; simp at hv; subst hv; rfl
  | .unit, _, _, h, v, hv => by simp only [DR] at h; subst h; simp at hv
  | .pair a b, _, _, h, v, hv => by
    obtain ⟨c1, c2, rfl, h1, h2⟩ := h
    rcases List.mem_append.1 hv with hv | hv
    · exact DR.oneCell h1 v hv
    · exact DR.oneCell h2 v hv
  | .list c, _, _, h, v, hv => by
    rcases h with ⟨rfl, _⟩ | ⟨b, o, cap, rfl, _⟩
    · simp at hv; subst hv; rfl
    · simp at hv; subst hv; rfl

/-- What stands around a state: names' places, which blocks a mark lets a slice lie in, which blocks are owned, the world. -/
structure Cx where
  g : Nat → Option Loc
  S : Nat → Nat → Prop
  ow : Nat → Prop
  N : Nat → Prop
  w : World

def Plain (o : Option Obj) : Prop := (∃ arr t, o = some (.cells arr t (0, 0))) ∨ ∃ es clock, o = some (.map es clock)

/-- Where data may lie: where the mark lets them, in no owned block; and of the blocks that were made, in none that is frozen. -/
def Cx.ok (C : Cx) (org : Nat) : Nat → Prop := fun b => C.S org b ∧ (¬ C.ow b ∧ (C.N b → Plain C.w.heap[b]?))

def PR (C : Cx) (org : Nat) (c : Cd) (x : El c) (off : Nat) (v : Value) : Prop :=
  ∃ b o cs, v = .pointer (some ⟨b, o + off, none⟩) ∧ ¬ C.ow b ∧ b < C.w.heap.size ∧ DR C.w (C.ok org) c x cs ∧ ∀ (j : Nat) u, cs[j]? = some u → C.w.cell? ⟨b, o + j, none⟩ = some u

def CapR (C : Cx) : Cap → Value → Prop
  | .ptr id, v => ∃ l, C.g id = some l ∧ v = .pointer (some ⟨l.b, 0, none⟩)
  | .pp org c x, v => PR C org c x 0 v

def SR (C : Cx) : Sc → Value → Prop
  | .und, _ => True
  | .skip, v => v = undef
  | .int k n, v => v = .int k n
  | .bool b, v => v = .bool b
  | .boolU, v => ∃ b, v = .bool b
  | .str s, v => v = .string ⟨s.toArray⟩
  | .ps org c xs, v => DR C.w (C.ok org) (.list c) xs [v]
  | .psn org c xs, v => DR C.w (C.ok org) (.list c) xs [v] ∧ (xs = [] → v = .slice none 0 0)
  | .nils, v => v = .slice none 0 0
  | .own id, v => ∃ l, C.g id = some l ∧ v = l.sl
  | .sub id lo hi, v => ∃ l, C.g id = some l ∧ lo ≤ hi ∧ hi ≤ l.n ∧ l.n ≤ l.cap ∧ (l.nil = true → hi = 0) ∧ v = l.sub lo hi
  | .ptr id off, v => ∃ l, C.g id = some l ∧ v = .pointer (some ⟨l.b, off, none⟩)
  | .pel id i off, v => ∃ l, C.g id = some l ∧ i < l.n ∧ v = .pointer (some ⟨l.b, l.o + i * l.sz + off, none⟩)
  | .pp org c x off, v => PR C org c x off v
  | .fn f caps, v => ∃ cs : Array Value, v = .func (.func f) #[] cs ∧ All2 (CapR C) caps cs.toList
  | .mp id, v => ∃ l, C.g id = some l ∧ v = .map (some l.b)
  | .nilp, v => v = .pointer none
  | .nilI, v => v = .nilIface
  | .errI, v => ∃ t x, v = .iface t x

def VR (C : Cx) : Val → Value → Prop
  | .one s, v => SR C s v
  | .agg cs, v => ∃ arr : Array Value, v = .agg arr ∧ All2 (SR C) cs arr.toList

def TR (C : Cx) : T → Value → Prop
  | .v x, v => VR C x v
  | .tup vs, v => ∃ arr : Array Value, v = .tuple arr ∧ All2 (VR C) vs arr.toList

/-- From one setting to a later one: names keep their places; what nobody owns is as it was, and nobody comes to own it. -/
structure Later (C C' : Cx) : Prop where
  g : ∀ id l, C.g id = some l → C'.g id = some l
  S : C'.S = C.S
  ow : ∀ b, b < C.w.heap.size → ¬ C.ow b → ¬ C'.ow b ∧ C'.w.heap[b]? = C.w.heap[b]?
  size : C.w.heap.size ≤ C'.w.heap.size
  N : C'.N = C.N

theorem Later.refl (C : Cx) : Later C C := ⟨fun _ _ h => h, rfl, fun _ _ h => ⟨h, rfl⟩, Nat.le_refl _, rfl⟩

theorem Later.trans {C D F : Cx} (h : Later C D) (k : Later D F) : Later C F :=
  ⟨fun id l e => k.g id l (h.g id l e), k.S.trans h.S, fun b hb ho => by
    obtain ⟨h1, h2⟩ := h.ow b hb ho
    obtain ⟨h3, h4⟩ := k.ow b (Nat.lt_of_lt_of_le hb h.size) h1
    exact ⟨h3, h4.trans h2⟩, Nat.le_trans h.size k.size, k.N.trans h.N⟩

section
variable {C C' : Cx} (h : Later C C')
include h

theorem Later.dr {org : Nat} {c : Cd} {x : El c} {cs : List Value} (hd : DR C.w (C.ok org) c x cs) : DR C'.w (C'.ok org) c x cs :=
  hd.mono h.size fun b hb hok => by
    obtain ⟨h1, h2⟩ := h.ow b hb hok.2.1
    exact ⟨⟨by rw [h.S]; exact hok.1, h1, fun hn => by rw [h2]; exact hok.2.2 (by rw [← h.N]; exact hn)⟩, h2⟩

theorem Later.pr {org : Nat} {c : Cd} {x : El c} {off : Nat} {v : Value} (hp : PR C org c x off v) : PR C' org c x off v := by
  obtain ⟨b, o, cs, hv, hok, hb, hd, hc⟩ := hp
  obtain ⟨h1, h2⟩ := h.ow b hb hok
  exact ⟨b, o, cs, hv, h1, Nat.lt_of_lt_of_le hb h.size, h.dr hd, fun j u hj => by rw [World.cell?_of_block (w := C.w) h2]; exact hc j u hj⟩

theorem Later.capR {p : Cap} {v : Value} (hp : CapR C p v) : CapR C' p v := by
  cases p with
  | ptr id => obtain ⟨l, hl, hv⟩ := hp; exact ⟨l, h.g _ _ hl, hv⟩
  | pp org c x => exact h.pr hp

theorem Later.sr {s : Sc} {v : Value} (hs : SR C s v) : SR C' s v := by
  cases s with
  | ps org c xs => exact h.dr hs
  | psn org c xs => exact ⟨h.dr hs.1, hs.2⟩
  | own id => obtain ⟨l, hl, hv⟩ := hs; exact ⟨l, h.g _ _ hl, hv⟩
  | sub id lo hi => obtain ⟨l, hl, hv⟩ := hs; exact ⟨l, h.g _ _ hl, hv⟩
  | ptr id off => obtain ⟨l, hl, hv⟩ := hs; exact ⟨l, h.g _ _ hl, hv⟩
  | pel id i off => obtain ⟨l, hl, hv⟩ := hs; exact ⟨l, h.g _ _ hl, hv⟩
  | pp org c x off => exact h.pr hs
  | fn f caps => obtain ⟨cs, hv, ha⟩ := hs; exact ⟨cs, hv, ha.mono fun _ _ => h.capR⟩
  | mp id => obtain ⟨l, hl, hv⟩ := hs; exact ⟨l, h.g _ _ hl, hv⟩
  | _ => exact hs

theorem Later.vr {x : Val} {v : Value} (hs : VR C x v) : VR C' x v := by
  cases x with
  | one s => exact h.sr hs
  | agg cs => obtain ⟨arr, hv, ha⟩ := hs; exact ⟨arr, hv, ha.mono fun _ _ => h.sr⟩

theorem Later.tr {t : T} {v : Value} (hs : TR C t v) : TR C' t v := by
  cases t with
  | v x => exact h.vr hs
  | tup vs => obtain ⟨arr, hv, ha⟩ := hs; exact ⟨arr, hv, ha.mono fun _ _ => h.vr⟩
end

/-- A key or a value in a map. -/
def KV (C : Cx) (c : Cd) (x : El c) (v : Value) : Prop := (cagg c = false ∧ DR C.w (C.ok 0) c x [v]) ∨ (cagg c = true ∧ ∃ arr : Array Value, v = .agg arr ∧ DR C.w (C.ok 0) c x arr.toList)

theorem KV.flat {C C' : Cx} {c : Cd} {x : El c} {v : Value} (hf : cflat c = true) (h : KV C c x v) : KV C' c x v := by
  rcases h with ⟨h1, h2⟩ | ⟨h1, arr, h2, h3⟩
  · exact .inl ⟨h1, h2.flat hf⟩
  · exact .inr ⟨h1, arr, h2, h3.flat hf⟩

/-- An owned block. -/
def BR (C : Cx) : Blk → Loc → Prop
  | .box cs, l => (l.o = 0 ∧ l.nil = false) ∧ ∃ arr t, C.w.heap[l.b]? = some (.cells arr t (0, 0)) ∧ All2 (SR C) cs arr.toList
  | .vec org c xs, l => (l.nil = true ∧ xs = [] ∧ l.n = 0 ∧ l.cap = 0 ∧ l.sz = csize c ∧ (l.ad = none ∨ ∃ b o, l.ad = some ⟨b, o, none⟩)) ∨ l.nil = false ∧ C.S org l.b ∧ l.n = xs.length ∧ l.n ≤ l.cap ∧ l.sz = csize c ∧
      ∃ arr t, C.w.heap[l.b]? = some (.cells arr t (0, 0)) ∧ l.o + l.cap * l.sz ≤ arr.size ∧
        ∀ (i : Nat) (x : El c), xs[i]? = some x → ∃ cs, DR C.w (C.ok org) c x cs ∧ ∀ (j : Nat) v, cs[j]? = some v → arr[l.o + i * l.sz + j]? = some v
  | .mp kc vc es, l => (l.o = 0 ∧ l.nil = false) ∧ (cflat kc = true ∧ cflat vc = true) ∧ ∃ arr clock, C.w.heap[l.b]? = some (.map arr clock) ∧ All2 (fun (e : El kc × El vc) (m : MapEntry) => KV C kc e.1 m.key ∧ KV C vc e.2 m.val) es arr.toList

theorem Later.br {C C' : Cx} (h : Later C C') {b : Blk} {l : Loc} (hw : l.nil = false → C'.w.heap[l.b]? = C.w.heap[l.b]?) (hb : BR C b l) : BR C' b l := by
  cases b with
  | box cs => obtain ⟨h0, arr, t, ha, hc⟩ := hb; exact ⟨h0, arr, t, (hw h0.2).trans ha, hc.mono fun _ _ => h.sr⟩
  | vec org c xs =>
    rcases hb with hb | ⟨hl, hS, hn, hc, hz, arr, t, ha, hs, he⟩
    · exact .inl hb
    exact .inr ⟨hl, by rw [h.S]; exact hS, hn, hc, hz, arr, t, hw hl |>.trans ha, hs, fun i x hx => by
      obtain ⟨cs, hd, hv⟩ := he i x hx
      exact ⟨cs, h.dr hd, hv⟩⟩
  | mp kc vc es => obtain ⟨h0, hf, arr, t, ha, hc⟩ := hb; exact ⟨h0, hf, arr, t, (hw h0.2).trans ha, hc.mono fun _ _ hh => ⟨hh.1.flat hf.1, hh.2.flat hf.2⟩⟩

/-- What an activation began with: its world, the marks' blocks, and the older blocks that it may write. -/
structure Base where
  w0 : World
  S : Nat → Nat → Prop
  X : Nat → Prop
  mono : ∀ m m' b, orgLe m m' = true → S m b → S m' b
  new : ∀ m b, w0.heap.size ≤ b → S m b
  own : ∀ m b, X b → S m b
  pin : Nat → Option Loc
  pinned : ∀ id l, pin id = some l → id % 8 = 5
  dm : Bool := true

/-- The tape stays; draws only grow more. -/
structure Tp (w w' : World) : Prop where
  tape : w'.tape = w.tape
  dr : w.drawn ≤ w'.drawn

theorem Tp.refl (w : World) : Tp w w := ⟨rfl, Nat.le_refl _⟩
theorem Tp.trans {w w1 w2 : World} (h : Tp w w1) (k : Tp w1 w2) : Tp w w2 := ⟨k.tape.trans h.tape, Nat.le_trans h.dr k.dr⟩

/-- The tape stays; draws only grow more, where somebody asks for that. -/
structure Tq (b : Bool) (w w' : World) : Prop where
  tape : w'.tape = w.tape
  dr : b = true → w.drawn ≤ w'.drawn

theorem Tq.refl {b : Bool} (w : World) : Tq b w w := ⟨rfl, fun _ => Nat.le_refl _⟩
theorem Tq.trans {b : Bool} {w w1 w2 : World} (h : Tq b w w1) (k : Tp w1 w2) : Tq b w w2 := ⟨k.tape.trans h.tape, fun e => Nat.le_trans (h.dr e) k.dr⟩
theorem Tq.transq {b : Bool} {w w1 w2 : World} (h : Tq b w w1) (k : Tq b w1 w2) : Tq b w w2 := ⟨k.tape.trans h.tape, fun e => Nat.le_trans (h.dr e) (k.dr e)⟩

/-- What an activation has left alone. -/
structure Fr (A : Base) (w : World) : Prop where
  os : w.os = A.w0.os
  tape : Tq A.dm A.w0 w
  output : w.output = A.w0.output
  size : A.w0.heap.size ≤ w.heap.size
  old : ∀ k, k < A.w0.heap.size → ¬ A.X k → w.heap[k]? = A.w0.heap[k]?

def owOf (g : Nat → Option Loc) (B : Nat → BS) : Nat → Prop := fun b => ∃ id blk l, B id = .live blk ∧ g id = some l ∧ l.nil = false ∧ l.b = b

def cxOf (A : Base) (g : Nat → Option Loc) (B : Nat → BS) (w : World) : Cx := ⟨g, A.S, owOf g B, fun b => A.w0.heap.size ≤ b ∨ A.X b, w⟩

/-- The memory of a state. -/
structure Mem (A : Base) (g : Nat → Option Loc) (B : Nat → BS) (w : World) : Prop where
  br : ∀ id b, B id = .live b → ∃ l, g id = some l ∧ BR (cxOf A g B w) b l ∧ (l.nil = false → l.b < w.heap.size ∧ (A.w0.heap.size ≤ l.b ∨ A.X l.b))
  ro : ∀ id org c xs, B id = .ro org c xs → ∃ l, g id = some l ∧ DR w ((cxOf A g B w).ok org) (.list c) xs [l.sl] ∧ l.sz = csize c ∧ l.n = xs.length ∧ l.n ≤ l.cap
  inj : ∀ id id' b b' l l', B id = .live b → B id' = .live b' → g id = some l → g id' = some l' → l.nil = false → l'.nil = false → l.b = l'.b → id = id'
  fresh : ∀ id, B id = .fresh → g id = none
  pin : ∀ id l, A.pin id = some l → B id ≠ .fresh ∧ (isLive B id = true → g id = some l)
  fr : Fr A w

/-- What loops over functions have left behind: new blocks that nobody owns, all different. -/
def Marks (C : Cx) (n0 : Nat) : List Deferred → Prop
  | [] => True
  | d :: ds => (∃ D, d.target = .collected D ∧ C.w.heap[D]? = some (.deferred (some [])) ∧ n0 ≤ D ∧ ¬ C.ow D ∧ ∀ d' ∈ ds, d'.target ≠ .collected D) ∧ Marks C n0 ds

theorem Marks.later {C C' : Cx} (h : Later C C') {n0 : Nat} : ∀ {ds : List Deferred}, Marks C n0 ds → Marks C' n0 ds
  | [], _ => trivial
  | d :: ds, ⟨⟨D, h1, h2, h3, h4, h5⟩, hr⟩ => by
    obtain ⟨k1, k2⟩ := h.ow D (Array.getElem?_eq_some_iff.1 h2).1 h4
    exact ⟨⟨D, h1, k2.trans h2, h3, k1, h5⟩, Marks.later h hr⟩

/-- A state of the ideal interpreter is a state of the machine. -/
structure Inv (A : Base) (n : Nat) (g : Nat → Option Loc) (st : St) (a : Act) (w : World) : Prop where
  tm : ∀ t, TR (cxOf A g st.bk w) (st.tm t) (a.tmps.getD t undef)
  mem : Mem A g st.bk w
  df : Marks (cxOf A g st.bk w) A.w0.heap.size a.defers
  szE : a.tmps.size = n

theorem Inv.sz {A : Base} {n : Nat} {g : Nat → Option Loc} {st : St} {a : Act} {w : World} (h : Inv A n g st a w) : n ≤ a.tmps.size := Nat.le_of_eq h.szE.symm

end Ai
end Go.Proofs.YtpboclokodgnlaaGreat

/-! A7: The ideal interpreter against the machine: steps of memory; what is read, written and packed. -/
namespace Go.Proofs.YtpboclokodgnlaaGreat
namespace Ai
set_option linter.unusedSimpArgs false
set_option linter.unusedVariables false
set_option linter.unnecessarySimpa false

section
variable {α : Type}
theorem upd_same (f : Nat → α) (k : Nat) (x : α) : upd f k x k = x := by simp [upd]
theorem upd_ne (f : Nat → α) {k n : Nat} (x : α) (h : n ≠ k) : upd f k x n = f n := by
  have : Nat.beq n k = false := by
    cases hb : Nat.beq n k
    · rfl
    · exact absurd (Nat.eq_of_beq_eq_true hb) h
  simp [upd, this]
theorem upd_cases (f : Nat → α) (k n : Nat) (x : α) : (n = k ∧ upd f k x n = x) ∨ (n ≠ k ∧ upd f k x n = f n) := by
  by_cases h : n = k
  · exact .inl ⟨h, by rw [h, upd_same]⟩
  · exact .inr ⟨h, upd_ne f x h⟩
end

theorem Plain.cells {arr : Array Value} {t : TypeId} : Plain (some (.cells arr t (0, 0))) := .inl ⟨arr, t, rfl⟩
theorem Plain.map {es : Array MapEntry} {clock : Nat} : Plain (some (.map es clock)) := .inr ⟨es, clock, rfl⟩

section
variable {A : Base} {g : Nat → Option Loc} {B : Nat → BS} {w w' : World}

/-- A read-only slice stays what it is. -/
theorem ro_later {g' : Nat → Option Loc} {B' : Nat → BS} (hL : Later (cxOf A g B w) (cxOf A g' B' w')) {org : Nat} {c : Cd} {xs : List (El c)} {id : Nat}
    (h : ∃ l, g id = some l ∧ DR w ((cxOf A g B w).ok org) (.list c) xs [l.sl] ∧ l.sz = csize c ∧ l.n = xs.length ∧ l.n ≤ l.cap) :
    ∃ l, g' id = some l ∧ DR w' ((cxOf A g' B' w').ok org) (.list c) xs [l.sl] ∧ l.sz = csize c ∧ l.n = xs.length ∧ l.n ≤ l.cap := by
  obtain ⟨l, h1, h2, h3⟩ := h
  exact ⟨l, hL.g _ _ h1, hL.dr h2, h3⟩

/-- A world whose blocks are the same. -/
theorem Mem.same (hM : Mem A g B w) (hh : w'.heap = w.heap) (hos : w'.os = w.os) (htp : Tp w w') (hout : w'.output = w.output) :
    Mem A g B w' ∧ Later (cxOf A g B w) (cxOf A g B w') := by
  have hL : Later (cxOf A g B w) (cxOf A g B w') := ⟨fun _ _ h => h, rfl, fun b _ h => ⟨h, by show w'.heap[b]? = _; rw [hh]; rfl⟩, by show w.heap.size ≤ w'.heap.size; rw [hh]; exact Nat.le_refl _, rfl⟩
  refine ⟨⟨fun id b hb => ?_, fun id org c xs h => ro_later hL (hM.ro id org c xs h), hM.inj, hM.fresh, hM.pin, ⟨hos.trans hM.fr.os, hM.fr.tape.trans htp, hout.trans hM.fr.output, by rw [hh]; exact hM.fr.size, by rw [hh]; exact hM.fr.old⟩⟩, hL⟩
  obtain ⟨l, hl, hbr, hX⟩ := hM.br id b hb
  exact ⟨l, hl, hL.br (fun _ => by show w'.heap[l.b]? = w.heap[l.b]?; rw [hh]) hbr, by rw [hh]; exact hX⟩

/-- A new block. -/
theorem Mem.make (hM : Mem A g B w) {id : Nat} (hf : B id = .fresh) {blk : Blk} {l : Loc} {o : Obj} (hnil : l.nil = false)
    (hh : w'.heap = w.heap.push o) (ho : Plain (some o)) (hos : w'.os = w.os) (htp : Tp w w') (hout : w'.output = w.output) (hl : l.b = w.heap.size)
    (hbr : Later (cxOf A g B w) (cxOf A (upd g id (some l)) (upd B id (.live blk)) w') → BR (cxOf A (upd g id (some l)) (upd B id (.live blk)) w') blk l) :
    Mem A (upd g id (some l)) (upd B id (.live blk)) w' ∧ Later (cxOf A g B w) (cxOf A (upd g id (some l)) (upd B id (.live blk)) w') := by
  have hg : g id = none := hM.fresh id hf
  have hsz : w'.heap.size = w.heap.size + 1 := by rw [hh]; simp
  have hold : ∀ k, k < w.heap.size → w'.heap[k]? = w.heap[k]? := fun k hk => by rw [hh, Array.getElem?_push, if_neg (by omega)]
  have hL : Later (cxOf A g B w) (cxOf A (upd g id (some l)) (upd B id (.live blk)) w') := by
    refine ⟨fun id0 l0 h => ?_, rfl, fun b hb h => ⟨?_, hold b hb⟩, by show w.heap.size ≤ w'.heap.size; omega, rfl⟩
    · show upd g id (some l) id0 = some l0
      rw [upd_ne]; exact h
      rintro rfl; rw [show g id0 = some l0 from h] at hg; cases hg
    · rintro ⟨id0, b0, l0, h1, h2, hn, h3⟩
      by_cases e : id0 = id
      · subst e
        rw [upd_same] at h2
        cases h2
        have : b < w.heap.size := hb
        omega
      · rw [upd_ne _ _ e] at h1 h2
        exact h ⟨id0, b0, l0, h1, h2, hn, h3⟩
  refine ⟨⟨fun id0 b hb => ?_, fun id0 org c xs h => ?_, ?_, fun id0 h0 => ?_, ?_, ?_⟩, hL⟩
  · by_cases e : id0 = id
    · subst e
      rw [upd_same] at hb
      cases hb
      exact ⟨l, by rw [upd_same], hbr hL, fun _ => ⟨by omega, .inl (by rw [hl]; exact hM.fr.size)⟩⟩
    · rw [upd_ne _ _ e] at hb
      obtain ⟨l0, h1, h2, h3⟩ := hM.br id0 b hb
      exact ⟨l0, by rw [upd_ne _ _ e]; exact h1, hL.br (fun hn => hold l0.b (h3 hn).1) h2, fun hn => ⟨by have := (h3 hn).1; omega, (h3 hn).2⟩⟩
  · rcases upd_cases B id id0 (.live blk) with ⟨rfl, e⟩ | ⟨ne, e⟩
    · rw [e] at h; cases h
    · rw [e] at h; exact ro_later hL (hM.ro id0 org c xs h)
  · have live : ∀ i b, upd B id (.live blk) i = .live b → i = id ∨ (i ≠ id ∧ B i = .live b) := fun i b h => by
      by_cases e : i = id
      · exact .inl e
      · rw [upd_ne _ _ e] at h; exact .inr ⟨e, h⟩
    intro i j b b' l0 l1 hi hj gi gj n0 n1 e
    rcases live i b hi with e1 | ⟨ne1, h1⟩ <;> rcases live j b' hj with e2 | ⟨ne2, h2⟩
    · rw [e1, e2]
    · exfalso
      rw [e1, upd_same] at gi
      rw [upd_ne _ _ ne2] at gj
      cases gi
      obtain ⟨l2, q1, _, q3⟩ := hM.br j b' h2
      rw [q1] at gj; cases gj
      have := (q3 n1).1
      omega
    · exfalso
      rw [e2, upd_same] at gj
      rw [upd_ne _ _ ne1] at gi
      cases gj
      obtain ⟨l2, q1, _, q3⟩ := hM.br i b h1
      rw [q1] at gi; cases gi
      have := (q3 n0).1
      omega
    · rw [upd_ne _ _ ne1] at gi
      rw [upd_ne _ _ ne2] at gj
      exact hM.inj i j b b' l0 l1 h1 h2 gi gj n0 n1 e
  · by_cases e : id0 = id
    · subst e; rw [upd_same] at h0; cases h0
    · rw [upd_ne _ _ e] at h0 ⊢; exact hM.fresh id0 h0
  · intro id0 l0 hp
    obtain ⟨p1, p2⟩ := hM.pin id0 l0 hp
    by_cases e : id0 = id
    · subst e; exact (p1 hf).elim
    · unfold isLive
      rw [upd_ne _ _ e, upd_ne _ _ e]
      exact ⟨p1, p2⟩
  · refine ⟨hos.trans hM.fr.os, hM.fr.tape.trans htp, hout.trans hM.fr.output, by have := hM.fr.size; omega, fun k hk hX => ?_⟩
    · rw [hold k (by have := hM.fr.size; omega)]; exact hM.fr.old k hk hX

/-- A name for the nil slice. -/
theorem Mem.makeNil (hM : Mem A g B w) {id : Nat} (hf : B id = .fresh) {org : Nat} {c : Cd} {l : Loc} (h1 : l.nil = true) (h2 : l.n = 0) (h3 : l.cap = 0) (h4 : l.sz = csize c) (h6 : l.ad = none ∨ ∃ b o, l.ad = some ⟨b, o, none⟩) :
    Mem A (upd g id (some l)) (upd B id (.live (.vec org c []))) w ∧ Later (cxOf A g B w) (cxOf A (upd g id (some l)) (upd B id (.live (.vec org c []))) w) := by
  have hg : g id = none := hM.fresh id hf
  have hL : Later (cxOf A g B w) (cxOf A (upd g id (some l)) (upd B id (.live (.vec org c []))) w) := by
    refine ⟨fun id0 l0 h => ?_, rfl, fun b hb h => ⟨?_, rfl⟩, Nat.le_refl _, rfl⟩
    · show upd g id (some l) id0 = some l0
      rw [upd_ne]; exact h
      rintro rfl; rw [show g id0 = some l0 from h] at hg; cases hg
    · rintro ⟨id0, b0, l0, q1, q2, hn, q3⟩
      by_cases e : id0 = id
      · subst e
        rw [upd_same] at q2
        cases q2
        rw [h1] at hn; cases hn
      · rw [upd_ne _ _ e] at q1 q2
        exact h ⟨id0, b0, l0, q1, q2, hn, q3⟩
  refine ⟨⟨fun id0 b hb => ?_, fun id0 org c xs h => ?_, ?_, fun id0 h0 => ?_, ?_, hM.fr⟩, hL⟩
  · by_cases e : id0 = id
    · subst e
      rw [upd_same] at hb
      cases hb
      refine ⟨l, by rw [upd_same], .inl ⟨h1, rfl, h2, h3, h4, h6⟩, fun hn => by rw [h1] at hn; cases hn⟩
    · rw [upd_ne _ _ e] at hb
      obtain ⟨l0, q1, q2, q3⟩ := hM.br id0 b hb
      exact ⟨l0, by rw [upd_ne _ _ e]; exact q1, hL.br (fun hn => rfl) q2, q3⟩
  · by_cases ne : id0 = id
    · subst ne; rw [upd_same] at h; cases h
    · rw [upd_ne _ _ ne] at h; exact ro_later hL (hM.ro id0 org c xs h)
  · intro i j b b' l0 l1 hi hj gi gj n0 n1 e
    have ne : ∀ i l0, upd g id (some l) i = some l0 → l0.nil = false → i ≠ id := fun i l0 h hn => by
      rintro rfl
      rw [upd_same] at h; cases h
      rw [h1] at hn; cases hn
    rw [upd_ne _ _ (ne i l0 gi n0)] at hi gi
    rw [upd_ne _ _ (ne j l1 gj n1)] at hj gj
    exact hM.inj i j b b' l0 l1 hi hj gi gj n0 n1 e
  · by_cases e : id0 = id
    · subst e; rw [upd_same] at h0; cases h0
    · rw [upd_ne _ _ e] at h0 ⊢; exact hM.fresh id0 h0
  · intro id0 l0 hp
    obtain ⟨p1, p2⟩ := hM.pin id0 l0 hp
    by_cases e : id0 = id
    · subst e; exact (p1 hf).elim
    · unfold isLive
      rw [upd_ne _ _ e, upd_ne _ _ e]
      exact ⟨p1, p2⟩

/-- An owned thing is given up. -/
theorem Mem.kill (hM : Mem A g B w) {id : Nat} (hid : B id ≠ .fresh) : Mem A g (upd B id .dead) w ∧ Later (cxOf A g B w) (cxOf A g (upd B id .dead) w) := by
  have hL : Later (cxOf A g B w) (cxOf A g (upd B id .dead) w) := by
    refine ⟨fun _ _ h => h, rfl, fun b hb h => ⟨?_, rfl⟩, Nat.le_refl _, rfl⟩
    rintro ⟨id0, b0, l0, h1, h2, h3⟩
    rcases upd_cases B id id0 .dead with ⟨rfl, e⟩ | ⟨ne, e⟩
    · rw [e] at h1; cases h1
    · rw [e] at h1; exact h ⟨id0, b0, l0, h1, h2, h3⟩
  refine ⟨⟨fun id0 b hb => ?_, fun id0 org c xs h => ?_, ?_, fun id0 h0 => ?_, ?_, hM.fr⟩, hL⟩
  · rcases upd_cases B id id0 .dead with ⟨rfl, e⟩ | ⟨ne, e⟩
    · rw [e] at hb; cases hb
    · rw [e] at hb
      obtain ⟨l0, h1, h2, h3⟩ := hM.br id0 b hb
      exact ⟨l0, h1, hL.br (fun _ => rfl) h2, h3⟩
  · rcases upd_cases B id id0 .dead with ⟨rfl, e⟩ | ⟨ne, e⟩
    · rw [e] at h; cases h
    · rw [e] at h; exact ro_later hL (hM.ro id0 org c xs h)
  · intro i j b b' l0 l1 hi hj gi gj n0 n1 e
    rcases upd_cases B id i .dead with ⟨rfl, h1⟩ | ⟨ni, h1⟩
    · rw [h1] at hi; cases hi
    · rcases upd_cases B id j .dead with ⟨rfl, h2⟩ | ⟨nj, h2⟩
      · rw [h2] at hj; cases hj
      · rw [h1] at hi; rw [h2] at hj; exact hM.inj i j b b' l0 l1 hi hj gi gj n0 n1 e
  · rcases upd_cases B id id0 .dead with ⟨rfl, e⟩ | ⟨ne, e⟩
    · rw [e] at h0; cases h0
    · rw [e] at h0; exact hM.fresh id0 h0
  · intro id0 l0 hp
    obtain ⟨p1, p2⟩ := hM.pin id0 l0 hp
    unfold isLive at p2 ⊢
    by_cases e : id0 = id
    · subst e; rw [upd_same]; exact ⟨(by simp), fun h => by simp at h⟩
    · rw [upd_ne _ _ e]
      exact ⟨p1, p2⟩

/-- A store into an owned thing. -/
theorem Mem.set (hM : Mem A g B w) {id : Nat} {old blk : Blk} {l : Loc} (hid : B id = .live old) (hg : g id = some l) (hnil : l.nil = false) {ob : Obj} (hpl : Plain (some ob))
    (hsz : w'.heap.size = w.heap.size) (hne : ∀ k, k ≠ l.b → w'.heap[k]? = w.heap[k]?) (hnew : w'.heap[l.b]? = some ob)
    (hos : w'.os = w.os) (htp : Tp w w') (hout : w'.output = w.output)
    (hbr : Later (cxOf A g B w) (cxOf A g (upd B id (.live blk)) w') → BR (cxOf A g (upd B id (.live blk)) w') blk l) :
    Mem A g (upd B id (.live blk)) w' ∧ Later (cxOf A g B w) (cxOf A g (upd B id (.live blk)) w') := by
  obtain ⟨l', hg', hbr0, hlX⟩ := hM.br id old hid
  rw [hg] at hg'; cases hg'
  obtain ⟨hlt, hX⟩ := hlX hnil
  have hL : Later (cxOf A g B w) (cxOf A g (upd B id (.live blk)) w') := by
    refine ⟨fun _ _ h => h, rfl, fun b hb h => ⟨?_, ?_⟩, by show w.heap.size ≤ w'.heap.size; omega, rfl⟩
    · rintro ⟨id0, b0, l0, h1, h2, h3⟩
      rcases upd_cases B id id0 (.live blk) with ⟨rfl, e⟩ | ⟨ne, e⟩
      · exact h ⟨id0, old, l0, hid, h2, h3⟩
      · rw [e] at h1; exact h ⟨id0, b0, l0, h1, h2, h3⟩
    · exact hne b (fun e => h ⟨id, old, l, hid, hg, hnil, e.symm⟩)
  refine ⟨⟨fun id0 b hb => ?_, fun id0 org c xs h => ?_, ?_, fun id0 h0 => ?_, ?_, ?_⟩, hL⟩
  · rcases upd_cases B id id0 (.live blk) with ⟨rfl, e⟩ | ⟨ne, e⟩
    · rw [e] at hb; cases hb
      exact ⟨l, hg, hbr hL, fun _ => ⟨by omega, hX⟩⟩
    · rw [e] at hb
      obtain ⟨l0, h1, h2, h3⟩ := hM.br id0 b hb
      exact ⟨l0, h1, hL.br (fun hn => hne _ fun e2 => ne (hM.inj id0 id b old l0 l hb hid h1 hg hn hnil e2)) h2, fun hn => ⟨by have := (h3 hn).1; omega, (h3 hn).2⟩⟩
  · rcases upd_cases B id id0 (.live blk) with ⟨rfl, e⟩ | ⟨ne, e⟩
    · rw [e] at h; cases h
    · rw [e] at h; exact ro_later hL (hM.ro id0 org c xs h)
  · intro i j b b' l0 l1 hi hj gi gj n0 n1 e
    have live : ∀ i b, upd B id (.live blk) i = .live b → ∃ b, B i = .live b := fun i b h => by
      rcases upd_cases B id i (.live blk) with ⟨rfl, h1⟩ | ⟨ni, h1⟩
      · exact ⟨_, hid⟩
      · exact ⟨_, h1 ▸ h⟩
    obtain ⟨_, hi'⟩ := live i b hi
    obtain ⟨_, hj'⟩ := live j b' hj
    exact hM.inj i j _ _ l0 l1 hi' hj' gi gj n0 n1 e
  · rcases upd_cases B id id0 (.live blk) with ⟨rfl, e⟩ | ⟨ne, e⟩
    · rw [e] at h0; cases h0
    · rw [e] at h0; exact hM.fresh id0 h0
  · intro id0 l0 hp
    obtain ⟨p1, p2⟩ := hM.pin id0 l0 hp
    unfold isLive at p2 ⊢
    by_cases e : id0 = id
    · subst e; rw [upd_same]; exact ⟨(by simp), fun _ => p2 (by rw [hid])⟩
    · rw [upd_ne _ _ e]
      exact ⟨p1, p2⟩
  · refine ⟨hos.trans hM.fr.os, hM.fr.tape.trans htp, hout.trans hM.fr.output, by have := hM.fr.size; omega, fun k hk hX' => ?_⟩
    · rw [hne k (by rintro rfl; rcases hX with h | h
                    · omega
                    · exact hX' h)]
      exact hM.fr.old k hk hX'

/-- An append in place: one name gives its block to another. -/
theorem Mem.move (hM : Mem A g B w) {si id : Nat} {old blk : Blk} {l l' : Loc} (hsi : B si = .live old) (hg : g si = some l) (hnil : l.nil = false) (hf : B id = .fresh) (hl : l'.b = l.b) (hnil' : l'.nil = false) {arr : Array Value} {t : TypeId}
    (hsz : w'.heap.size = w.heap.size) (hne : ∀ k, k ≠ l.b → w'.heap[k]? = w.heap[k]?) (hnew : w'.heap[l.b]? = some (.cells arr t (0, 0)))
    (hos : w'.os = w.os) (htp : Tp w w') (hout : w'.output = w.output)
    (hbr : Later (cxOf A g B w) (cxOf A (upd g id (some l')) (upd (upd B si .dead) id (.live blk)) w') → BR (cxOf A (upd g id (some l')) (upd (upd B si .dead) id (.live blk)) w') blk l') :
    Mem A (upd g id (some l')) (upd (upd B si .dead) id (.live blk)) w' ∧ Later (cxOf A g B w) (cxOf A (upd g id (some l')) (upd (upd B si .dead) id (.live blk)) w') := by
  obtain ⟨l0, hg', hbr0, hlX⟩ := hM.br si old hsi
  rw [hg] at hg'; cases hg'
  obtain ⟨hlt, hX⟩ := hlX hnil
  have hgn : g id = none := hM.fresh id hf
  have hid : id ≠ si := by rintro rfl; rw [hf] at hsi; cases hsi
  -- what is live afterwards
  have live : ∀ i b, upd (upd B si .dead) id (.live blk) i = .live b → (i = id ∧ b = blk) ∨ (i ≠ id ∧ i ≠ si ∧ B i = .live b) := fun i b h => by
    rcases upd_cases (upd B si .dead) id i (.live blk) with ⟨rfl, h1⟩ | ⟨ni, h1⟩
    · rw [h1] at h; cases h; exact .inl ⟨rfl, rfl⟩
    · rw [h1] at h
      rcases upd_cases B si i .dead with ⟨rfl, h2⟩ | ⟨nj, h2⟩
      · rw [h2] at h; cases h
      · rw [h2] at h; exact .inr ⟨ni, nj, h⟩
  have hL : Later (cxOf A g B w) (cxOf A (upd g id (some l')) (upd (upd B si .dead) id (.live blk)) w') := by
    refine ⟨fun id0 l0 h => ?_, rfl, fun b hb h => ⟨?_, ?_⟩, by show w.heap.size ≤ w'.heap.size; omega, rfl⟩
    · show upd g id (some l') id0 = some l0
      rw [upd_ne]; exact h
      rintro rfl; rw [show g id0 = some l0 from h] at hgn; cases hgn
    · rintro ⟨id0, b0, l0, h1, h2, hn, h3⟩
      rcases live id0 b0 h1 with ⟨rfl, rfl⟩ | ⟨n1, n2, h4⟩
      · rw [upd_same] at h2; cases h2
        exact h ⟨si, old, l, hsi, hg, hnil, by omega⟩
      · rw [upd_ne _ _ n1] at h2; exact h ⟨id0, b0, l0, h4, h2, hn, h3⟩
    · exact hne b (fun e => h ⟨si, old, l, hsi, hg, hnil, e.symm⟩)
  refine ⟨⟨fun id0 b hb => ?_, fun id0 org c xs h => ?_, ?_, fun id0 h0 => ?_, ?_, ?_⟩, hL⟩
  · rcases live id0 b hb with ⟨rfl, rfl⟩ | ⟨n1, n2, h4⟩
    · exact ⟨l', by rw [upd_same], hbr hL, fun _ => ⟨by omega, by rw [hl]; exact hX⟩⟩
    · obtain ⟨l0, h1, h2, h3⟩ := hM.br id0 b h4
      exact ⟨l0, by rw [upd_ne _ _ n1]; exact h1, hL.br (fun hn => hne _ fun e2 => n2 (hM.inj id0 si b old l0 l h4 hsi h1 hg hn hnil e2)) h2, fun hn => ⟨by have := (h3 hn).1; omega, (h3 hn).2⟩⟩
  · rcases upd_cases (upd B si .dead) id id0 (.live blk) with ⟨rfl, h1⟩ | ⟨ni, h1⟩
    · rw [h1] at h; cases h
    · rw [h1] at h
      rcases upd_cases B si id0 .dead with ⟨rfl, h2⟩ | ⟨nj, h2⟩
      · rw [h2] at h; cases h
      · rw [h2] at h; exact ro_later hL (hM.ro id0 org c xs h)
  · intro i j b b' l0 l1 hi hj gi gj k0 k1 e
    rcases live i b hi with ⟨rfl, rfl⟩ | ⟨n1, n2, h4⟩ <;> rcases live j b' hj with ⟨rfl, rfl⟩ | ⟨m1, m2, h5⟩
    · rfl
    · exfalso
      rw [upd_same] at gi; cases gi
      rw [upd_ne _ _ m1] at gj
      exact m2 (hM.inj j si b' old l1 l h5 hsi gj hg k1 hnil (by omega))
    · exfalso
      rw [upd_same] at gj; cases gj
      rw [upd_ne _ _ n1] at gi
      exact n2 (hM.inj i si b old l0 l h4 hsi gi hg k0 hnil (by omega))
    · rw [upd_ne _ _ n1] at gi
      rw [upd_ne _ _ m1] at gj
      exact hM.inj i j b b' l0 l1 h4 h5 gi gj k0 k1 e
  · rcases upd_cases (upd B si .dead) id id0 (.live blk) with ⟨rfl, h1⟩ | ⟨ni, h1⟩
    · rw [h1] at h0; cases h0
    · rw [h1] at h0
      rw [upd_ne _ _ ni]
      rcases upd_cases B si id0 .dead with ⟨rfl, h2⟩ | ⟨nj, h2⟩
      · rw [h2] at h0; cases h0
      · rw [h2] at h0; exact hM.fresh id0 h0
  · intro id0 l0 hp
    obtain ⟨p1, p2⟩ := hM.pin id0 l0 hp
    unfold isLive at p2 ⊢
    by_cases e : id0 = id
    · subst e; exact (p1 hf).elim
    · rw [upd_ne _ _ e, upd_ne _ _ e]
      by_cases e2 : id0 = si
      · subst e2; rw [upd_same]; exact ⟨(by simp), fun h => by simp at h⟩
      · rw [upd_ne _ _ e2]; exact ⟨p1, p2⟩
  · refine ⟨hos.trans hM.fr.os, hM.fr.tape.trans htp, hout.trans hM.fr.output, by have := hM.fr.size; omega, fun k hk hX' => ?_⟩
    · rw [hne k (by rintro rfl; rcases hX with h | h
                    · omega
                    · exact hX' h)]
      exact hM.fr.old k hk hX'

/-- An owned slice read as a datum: its own block is in no one's hands but this name's. -/
theorem vec_dr0 (hM : Mem A g B w) {id org : Nat} {c : Cd} {xs : List (El c)} (hid : B id = .live (.vec org c xs)) {l : Loc} (hg : g id = some l) {ok : Nat → Prop}
    (hok : ∀ b, (cxOf A g B w).ok org b → ok b) (hb : l.nil = false → ok l.b) : DR w ok (.list c) xs [l.sl] := by
  obtain ⟨l', hg', hbr, hX⟩ := hM.br id _ hid
  rw [hg] at hg'; cases hg'
  rcases hbr with ⟨h1, h2, h3, h4, h5, h6 | ⟨b, o, h6⟩⟩ | ⟨hl, hS, hn, hc, hz, arr, t, ha, hs, he⟩
  · exact .inl ⟨by simp [Loc.sl, h1, h6], h2⟩
  · subst h2
    exact .inr ⟨b, o, 0, by simp [Loc.sl, h1, h6], by simp, fun h => by omega, fun j hj => by simp at hj, fun i x hx => by simp at hx⟩
  have cell : ∀ j, w.cell? ⟨l.b, j, none⟩ = arr[j]? := fun j => by
    have : w.heap[l.b]? = some (.cells arr t (0, 0)) := ha
    simp [World.cell?, this]
  refine .inr ⟨l.b, l.o, l.cap, by simp [Loc.sl, hl, hn], by omega, fun _ => ⟨hb hl, (hX hl).1⟩, fun j hj => ?_, fun i x hx => ?_⟩
  · rw [cell]
    rw [← hz] at hj
    have : l.o + j < arr.size := by omega
    simp [this]
  · obtain ⟨cs, hd, hv⟩ := he i x hx
    refine ⟨cs, hd.mono (Nat.le_refl _) fun b hb ho => ⟨hok b ho, rfl⟩, fun j v hj => ?_⟩
    rw [cell, ← hz]; exact hv j v hj

/-- A slice that is not written any more. -/
theorem Mem.freeze (hM : Mem A g B w) {id org : Nat} {c : Cd} {xs : List (El c)} (hid : B id = .live (.vec org c xs)) :
    Mem A g (upd B id (.ro org c xs)) w ∧ Later (cxOf A g B w) (cxOf A g (upd B id (.ro org c xs)) w) := by
  have live : ∀ i b, upd B id (.ro org c xs) i = .live b → i ≠ id ∧ B i = .live b := fun i b h => by
    rcases upd_cases B id i (.ro org c xs) with ⟨rfl, h1⟩ | ⟨ni, h1⟩
    · rw [h1] at h; cases h
    · exact ⟨ni, h1 ▸ h⟩
  have hL : Later (cxOf A g B w) (cxOf A g (upd B id (.ro org c xs)) w) := by
    refine ⟨fun _ _ h => h, rfl, fun b hb h => ⟨?_, rfl⟩, Nat.le_refl _, rfl⟩
    rintro ⟨id0, b0, l0, h1, h2, h3⟩
    exact h ⟨id0, b0, l0, (live id0 b0 h1).2, h2, h3⟩
  refine ⟨⟨fun id0 b hb => ?_, fun id0 org' c' xs' h => ?_, ?_, fun id0 h0 => ?_, ?_, hM.fr⟩, hL⟩
  · obtain ⟨l0, h1, h2, h3⟩ := hM.br id0 b (live id0 b hb).2
    exact ⟨l0, h1, hL.br (fun _ => rfl) h2, h3⟩
  · rcases upd_cases B id id0 (.ro org c xs) with ⟨rfl, e⟩ | ⟨ne, e⟩
    · rw [e] at h
      cases h
      obtain ⟨l, hg, hbr, hX⟩ := hM.br id0 _ hid
      refine ⟨l, hg, vec_dr0 hM hid hg (fun b hb => ⟨hb.1, ?_, hb.2.2⟩) (fun hn => ?_), ?_, ?_, ?_⟩
      · rintro ⟨i, b0, l0, h1, h2, h3⟩
        exact hb.2.1 ⟨i, b0, l0, (live i b0 h1).2, h2, h3⟩
      · refine ⟨?_, ?_, fun _ => ?_⟩
        · rcases hbr with ⟨h1, _⟩ | ⟨_, hS, _⟩
          · rw [hn] at h1; cases h1
          · exact hS
        · rintro ⟨i, b0, l0, h1, h2, h3, h4⟩
          obtain ⟨q1, q2⟩ := live i b0 h1
          exact q1 (hM.inj i id0 b0 _ l0 l q2 hid h2 hg h3 hn h4)
        · rcases hbr with ⟨h1, _⟩ | ⟨_, _, _, _, _, parr, pt, ph, _⟩
          · rw [hn] at h1; cases h1
          · show Plain w.heap[l.b]?
            rw [show w.heap[l.b]? = _ from ph]; exact .cells
      · rcases hbr with ⟨_, _, _, _, h, _⟩ | ⟨_, _, _, _, h, _⟩ <;> exact h
      · rcases hbr with ⟨_, h1, h2, _, h⟩ | ⟨_, _, h, _⟩
        · rw [h1, h2]; rfl
        · exact h
      · rcases hbr with ⟨_, h1, h2, h3, h⟩ | ⟨_, _, _, h, _⟩
        · omega
        · exact h
    · rw [e] at h; exact ro_later hL (hM.ro id0 org' c' xs' h)
  · intro i j b b' l0 l1 hi hj gi gj n0 n1 e
    exact hM.inj i j b b' l0 l1 (live i b hi).2 (live j b' hj).2 gi gj n0 n1 e
  · rcases upd_cases B id id0 (.ro org c xs) with ⟨rfl, e⟩ | ⟨ne, e⟩
    · rw [e] at h0; cases h0
    · rw [e] at h0; exact hM.fresh id0 h0
  · intro id0 l0 hp
    obtain ⟨p1, p2⟩ := hM.pin id0 l0 hp
    unfold isLive at p2 ⊢
    by_cases e : id0 = id
    · subst e; rw [upd_same]; exact ⟨(by simp), fun h => by simp at h⟩
    · rw [upd_ne _ _ e]
      exact ⟨p1, p2⟩
end

/-! ### Cells and data -/

theorem scells_sr {C : Cx} {org : Nat} : ∀ {c : Cd} {x : El c} {cs : List Value}, DR C.w (C.ok org) c x cs → All2 (SR C) (scells org c x) cs
  | .i _, _, _, h => by simp only [DR] at h; subst h; exact ⟨rfl, trivial⟩
  | .bool, _, _, h => by simp only [DR] at h; subst h; exact ⟨rfl, trivial⟩
  | .str, _, _, h => by simp only [DR] at h; subst h; exact ⟨rfl, trivial⟩
  | .unit, _, _, h => by simp only [DR] at h; subst h; trivial
  | .pair a b, _, _, h => by
    obtain ⟨c1, c2, rfl, h1, h2⟩ := h
    exact (scells_sr h1).append (scells_sr h2)
  | .list c, xs, _, h => by
    have hh := h
    rcases h with ⟨rfl, _⟩ | ⟨b, o, cap, rfl, _⟩
    · exact ⟨hh, trivial⟩
    · exact ⟨hh, trivial⟩

theorem scells_length (org : Nat) : ∀ (c : Cd) (x : El c), (scells org c x).length = csize c
  | .i _, _ => rfl
  | .bool, _ => rfl
  | .str, _ => rfl
  | .unit, _ => rfl
  | .list _, _ => rfl
  | .pair a b, x => by simp [scells, csize, scells_length org a, scells_length org b]

/-- What a part of memory that is looked at says holds of memory. -/
structure Sub (B' B : Nat → BS) : Prop where
  live : ∀ id b, B' id = .live b → B id = .live b
  fresh : ∀ id, B' id = .fresh → B id = .fresh
  ro : ∀ id org c xs, B' id = .ro org c xs → B id = .ro org c xs

theorem Sub.refl (B : Nat → BS) : Sub B B := ⟨fun _ _ h => h, fun _ h => h, fun _ _ _ _ h => h⟩

theorem restr_sub (xs : List Nat) (B : Nat → BS) : Sub (restr xs B) B := by
  refine ⟨?_, ?_, ?_⟩
  · intro id b h
    unfold restr at h
    cases hc : xs.contains (id / 8) <;> rw [hc] at h
    · exact h
    · cases h
  · intro id h
    unfold restr at h
    cases hc : xs.contains (id / 8) <;> rw [hc] at h
    · exact h
    · cases h
  · intro id _ _ _ h
    unfold restr at h
    cases hc : xs.contains (id / 8) <;> rw [hc] at h
    · exact h
    · cases h

theorem sub_dead {B : Nat → BS} : Sub (fun _ => BS.dead) B := ⟨fun _ _ h => (by cases h), fun _ h => (by cases h), fun _ _ _ _ h => (by cases h)⟩

theorem viewB_sub (c : Nat) (xs : List Nat) (B : Nat → BS) : Sub (viewB c xs B) B := by
  unfold viewB
  split
  · exact sub_dead
  · exact restr_sub _ _

/-- Blocks that a mark lets lie in, and that nobody owns but by one of these names. -/
def okI (A : Base) (g : Nat → Option Loc) (B : Nat → BS) (w : World) (I : List Nat) (org : Nat) : Nat → Prop :=
  fun b => A.S org b ∧ ((∀ id blk l, B id = .live blk → g id = some l → l.nil = false → l.b = b → id ∈ I) ∧ ((A.w0.heap.size ≤ b ∨ A.X b) → Plain w.heap[b]?))

theorem okI_nil {A : Base} {g : Nat → Option Loc} {B : Nat → BS} {w : World} {org : Nat} {b : Nat} (h : okI A g B w [] org b) : (cxOf A g B w).ok org b :=
  ⟨h.1, fun ⟨id, blk, l, h1, h2, h3, h4⟩ => by simpa using h.2.1 id blk l h1 h2 h3 h4, h.2.2⟩

theorem okI_of {A : Base} {g : Nat → Option Loc} {B : Nat → BS} {w : World} {I : List Nat} {org : Nat} {b : Nat} (h : (cxOf A g B w).ok org b) : okI A g B w I org b :=
  ⟨h.1, fun id blk l h1 h2 h3 h4 => (h.2.1 ⟨id, blk, l, h1, h2, h3, h4⟩).elim, h.2.2⟩

theorem orgLe_trans {a b c : Nat} (h : orgLe a b = true) (h' : orgLe b c = true) : orgLe a c = true := by
  simp only [orgLe, beq_iff_eq] at *
  rw [← h', ← Nat.or_assoc, h]

theorem orgLe_or_left (a b : Nat) : orgLe a (a ||| b) = true := by
  simp only [orgLe, beq_iff_eq]
  rw [← Nat.or_assoc, Nat.or_self]

theorem orgLe_or_right (a b : Nat) : orgLe b (a ||| b) = true := by
  simp only [orgLe, beq_iff_eq]
  rw [Nat.or_comm, Nat.or_assoc, Nat.or_self]

theorem orgLe_refl (a : Nat) : orgLe a a = true := by simp [orgLe]

theorem castL_dr {w : World} {ok : Nat → Prop} {c c' : Cd} (h : c' = c) {xs : List (El c')} {cs : List Value} (hd : DR w ok (.list c') xs cs) : DR w ok (.list c) (castL h xs) cs := by
  subst h; exact hd

section
variable {A : Base} {g : Nat → Option Loc} {B Bx : Nat → BS} {w : World}

theorem getElem?_cut {α : Type} (lo hi : Nat) (xs : List α) (i : Nat) : (cut lo hi xs)[i]? = if lo + i < hi then xs[lo + i]? else none := by
  simp [cut, List.getElem?_take]

theorem length_cut {α : Type} {lo hi : Nat} {xs : List α} (h : hi ≤ xs.length) : (cut lo hi xs).length = hi - lo := by
  simp [cut]; omega

theorem isLive_of {id : Nat} {b : Blk} (h : B id = .live b) : isLive B id = true := by simp [isLive, h]

/-- A named slice read as a datum. -/
theorem vecOf_dr (hM : Mem A g B w) (hB : Sub Bx B) {id : Nat} {v : Vc} (hv : vecOf Bx id = some v) {l : Loc} (hg : g id = some l) {I : List Nat} (hI : isLive B id = true → id ∈ I) {org' : Nat} (ho : orgLe v.org org' = true) :
    DR w (okI A g B w I org') (.list v.c) v.xs [l.sl] ∧ l.sz = csize v.c ∧ l.n = v.xs.length ∧ l.n ≤ l.cap := by
  unfold vecOf at hv
  split at hv
  · rename_i org c xs hb
    cases hv
    have hb := hB.live _ _ hb
    obtain ⟨l', hg', hbr, hX⟩ := hM.br id _ hb
    rw [hg] at hg'; cases hg'
    refine ⟨vec_dr0 hM hb hg (fun b h => okI_of ⟨A.mono _ _ _ ho h.1, h.2⟩) (fun hn => ?_), ?_⟩
    · rcases hbr with ⟨h1, _⟩ | ⟨_, hS, _, _, _, parr, pt, ph, _⟩
      · rw [hn] at h1; cases h1
      · refine ⟨A.mono _ _ _ ho hS, fun i b l1 h1 h2 h3 h4 => ?_, fun _ => by rw [show w.heap[l.b]? = _ from ph]; exact .cells⟩
        have := hM.inj i id b _ l1 l h1 hb h2 hg h3 hn h4
        rw [this]; exact hI (isLive_of hb)
    · rcases hbr with ⟨_, h1, h2, h3, h, _⟩ | ⟨_, _, h1, h2, h3, _⟩
      · exact ⟨h, by rw [h1, h2]; rfl, by omega⟩
      · exact ⟨h3, h1, h2⟩
  · rename_i org c xs hb
    cases hv
    obtain ⟨l', hg', hd, h1, h2, h3⟩ := hM.ro id _ _ _ (hB.ro _ _ _ _ hb)
    rw [hg] at hg'; cases hg'
    exact ⟨hd.mono (Nat.le_refl _) fun b hb hok => ⟨okI_of ⟨A.mono _ _ _ ho hok.1, hok.2⟩, rfl⟩, h1, h2, h3⟩
  · cases hv

theorem cut_dr {ok : Nat → Prop} {c : Cd} {xs : List (El c)} {b o n cap lo hi : Nat} (hd : DR w ok (.list c) xs [.slice (some ⟨b, o, none⟩) n cap]) (h1 : lo ≤ hi) (h2 : hi ≤ n) (h3 : n ≤ cap) :
    DR w ok (.list c) (cut lo hi xs) [.slice (some (if cap = lo then ⟨b, o, none⟩ else ⟨b, o + lo * csize c, none⟩)) (hi - lo) (cap - lo)] := by
  rcases hd with ⟨h, _⟩ | ⟨b', o', cap', h, hc, hokb, hcap, hel⟩
  · simp at h
  · simp only [List.cons.injEq, Value.slice.injEq, Option.some.injEq, Addr.mk.injEq, and_true, true_and] at h
    obtain ⟨⟨rfl, rfl⟩, rfl, rfl⟩ := h
    have hlen : (cut lo hi xs).length = hi - lo := length_cut h2
    by_cases e : cap = lo
    · refine .inr ⟨b, o, cap - lo, by rw [if_pos e, hlen], by rw [hlen]; omega, fun h => by omega, fun j hj => ?_, fun i x hx => ?_⟩
      · rw [show cap - lo = 0 by omega] at hj; simp at hj
      · rw [getElem?_cut] at hx
        split at hx
        · omega
        · cases hx
    · refine .inr ⟨b, o + lo * csize c, cap - lo, by rw [if_neg e, hlen], by rw [hlen]; omega, fun h => hokb (by omega), fun j hj => ?_, fun i x hx => ?_⟩
      · have := hcap (lo * csize c + j) (by
          have : cap * csize c = lo * csize c + (cap - lo) * csize c := by rw [← Nat.add_mul]; congr 1; omega
          omega)
        rwa [← Nat.add_assoc] at this
      · rw [getElem?_cut] at hx
        split at hx
        · obtain ⟨cs, hd, hv⟩ := hel (lo + i) x hx
          refine ⟨cs, hd, fun j v hj => ?_⟩
          have := hv j v hj
          rw [Nat.add_mul] at this
          rw [show o + lo * csize c + i * csize c + j = o + (lo * csize c + i * csize c) + j by omega]
          exact this
        · cases hx

theorem sub_dr {ok : Nat → Prop} {c : Cd} {xs : List (El c)} {l : Loc} {lo hi : Nat} (hd : DR w ok (.list c) xs [l.sl]) (hz : l.sz = csize c) (h1 : lo ≤ hi) (h2 : hi ≤ l.n) (h3 : l.n ≤ l.cap) :
    DR w ok (.list c) (cut lo hi xs) [l.sub lo hi] := by
  unfold Loc.sl at hd
  unfold Loc.sub
  cases hn : l.nil
  · rw [hn] at hd
    rw [hz]
    exact cut_dr hd h1 h2 h3
  · rw [hn] at hd
    simp only [cond_true] at hd ⊢
    rcases hd with ⟨e, h⟩ | ⟨b, o, cap, h, h4, h5⟩
    · subst h
      exact .inl ⟨e, by simp [cut]⟩
    · simp only [List.cons.injEq, Value.slice.injEq, and_true] at h
      obtain ⟨e, e1, e2⟩ := h
      have hx : xs = [] := List.eq_nil_of_length_eq_zero e1.symm
      subst hx
      refine .inr ⟨b, o, cap, ?_, by simpa [cut] using h4, h5.1, h5.2.1, fun i x hx => by simp [cut] at hx⟩
      rw [e, ← e2]; simp [cut]

theorem listOf_dr (hM : Mem A g B w) (hB : Sub Bx B) {c : Cd} {s : Sc} {v : Value} (hs : SR (cxOf A g B w) s v) {xs : List (El c)} (h : listOf Bx c s = some xs) {I : List Nat} (hI : ∀ id ∈ idsL [s], isLive B id = true → id ∈ I)
    {org : Nat} (ho : orgLe (orgS Bx s) org = true) : DR w (okI A g B w I org) (.list c) xs [v] := by
  cases s <;> simp only [listOf] at h
  case ps org' c' ys =>
    split at h
    · rename_i hc
      cases h
      refine castL_dr hc ?_
      have : DR w ((cxOf A g B w).ok org') (.list c') ys [v] := hs
      exact this.mono (Nat.le_refl _) fun b hb hok => ⟨okI_of ⟨A.mono _ _ _ ho hok.1, hok.2⟩, rfl⟩
    · cases h
  case psn org' c' ys =>
    split at h
    · rename_i hc
      cases h
      refine castL_dr hc ?_
      have : DR w ((cxOf A g B w).ok org') (.list c') ys [v] := hs.1
      exact this.mono (Nat.le_refl _) fun b hb hok => ⟨okI_of ⟨A.mono _ _ _ ho hok.1, hok.2⟩, rfl⟩
    · cases h
  case nils => cases h; exact .inl ⟨by rw [show v = _ from hs], rfl⟩
  case own id =>
    split at h
    · rename_i q hq
      split at h
      · rename_i hc
        cases h
        obtain ⟨l, hl, rfl⟩ := hs
        exact castL_dr hc (vecOf_dr hM hB hq hl (hI id (by simp [idsL])) (by simpa [orgS, hq] using ho)).1
      · cases h
    · cases h
  case sub id lo hi =>
    split at h
    · rename_i q hq
      split at h
      · rename_i hc
        cases h
        obtain ⟨l, hl, h1, h2, h3, _, rfl⟩ := hs
        obtain ⟨d1, d2, _⟩ := vecOf_dr hM hB hq hl (hI id (by simp [idsL])) (org' := org) (by simpa [orgS, hq] using ho)
        exact sub_dr (castL_dr hc d1) (by rw [d2, hc]) h1 h2 h3
      · cases h
    · cases h
  all_goals cases h

theorem idsL_mem_take (n : Nat) : ∀ (ss : List Sc) (id : Nat), id ∈ idsL (ss.take n) → id ∈ idsL ss := by
  induction n with
  | zero => intro ss id h; simp [idsL] at h
  | succ n ih =>
    intro ss id h
    cases ss with
    | nil => simp [idsL] at h
    | cons s r =>
      rw [List.take_succ_cons] at h
      cases s <;> simp only [idsL, List.mem_cons] at h ⊢ <;> first | exact ih _ _ h | exact h.imp (fun h => h) (ih _ _)

theorem idsL_mem_drop (n : Nat) : ∀ (ss : List Sc) (id : Nat), id ∈ idsL (ss.drop n) → id ∈ idsL ss := by
  induction n with
  | zero => intro ss id h; simpa using h
  | succ n ih =>
    intro ss id h
    cases ss with
    | nil => simp [idsL] at h
    | cons s r =>
      rw [List.drop_succ_cons] at h
      have := ih _ _ h
      cases s <;> simp only [idsL, List.mem_cons] <;> first | exact this | exact .inr this

theorem orgL_take (Bx : Nat → BS) (n : Nat) : ∀ (ss : List Sc), orgLe (orgL Bx (ss.take n)) (orgL Bx ss) = true := by
  induction n with
  | zero => intro ss; simp [orgL, orgLe]
  | succ n ih =>
    intro ss
    cases ss with
    | nil => simp [orgL, orgLe]
    | cons s r =>
      rw [List.take_succ_cons]
      simp only [orgL, orgLe, beq_iff_eq]
      have := ih r
      simp only [orgLe, beq_iff_eq] at this
      rw [Nat.or_assoc, Nat.or_comm (orgS Bx s) (orgL Bx r), ← Nat.or_assoc (orgL Bx (r.take n)), this, Nat.or_comm (orgL Bx r), ← Nat.or_assoc, Nat.or_self]

theorem orgL_drop (Bx : Nat → BS) (n : Nat) : ∀ (ss : List Sc), orgLe (orgL Bx (ss.drop n)) (orgL Bx ss) = true := by
  induction n with
  | zero => intro ss; simpa using orgLe_refl _
  | succ n ih =>
    intro ss
    cases ss with
    | nil => simp [orgL, orgLe]
    | cons s r =>
      rw [List.drop_succ_cons]
      exact orgLe_trans (ih r) (orgLe_or_right _ _)

/-- Cells read as a datum. -/
theorem decC_dr (hM : Mem A g B w) (hB : Sub Bx B) {I : List Nat} {org : Nat} : ∀ {c : Cd} {ss : List Sc} {cs : List Value} {x : El c}, All2 (SR (cxOf A g B w)) ss cs → decC Bx c ss = some x →
    (∀ id ∈ idsL ss, isLive B id = true → id ∈ I) → orgLe (orgL Bx ss) org = true → DR w (okI A g B w I org) c x cs
  | .i k, ss, cs, x, ha, h, hI, ho => by
    simp only [decC] at h
    split at h
    · split at h
      · cases h
        rename_i k' n hk
        subst hk
        match cs, ha with
        | [v], ha => rw [show v = _ from ha.1]; rfl
      · cases h
    · cases h
  | .bool, ss, cs, x, ha, h, hI, ho => by
    simp only [decC] at h
    split at h
    · cases h
      match cs, ha with
      | [v], ha => rw [show v = _ from ha.1]; rfl
    · cases h
  | .str, ss, cs, x, ha, h, hI, ho => by
    simp only [decC] at h
    split at h
    · cases h
      match cs, ha with
      | [v], ha => rw [show v = _ from ha.1]; rfl
    · cases h
  | .unit, ss, cs, x, ha, h, hI, ho => by
    simp only [decC] at h
    split at h
    · match cs, ha with
      | [], ha => rfl
    · cases h
  | .list c, ss, cs, x, ha, h, hI, ho => by
    simp only [decC] at h
    split at h
    · rename_i s
      match cs, ha with
      | [v], ha =>
        refine listOf_dr hM hB ha.1 h hI ?_
        simpa [orgL] using ho
    · cases h
  | .pair a b, ss, cs, x, ha, h, hI, ho => by
    simp only [decC] at h
    split at h
    · rename_i y z hy hz
      cases h
      refine ⟨cs.take (csize a), cs.drop (csize a), (List.take_append_drop _ _).symm, ?_, ?_⟩
      · exact decC_dr hM hB (ha.take _) hy (fun id h => hI id (idsL_mem_take _ _ _ h)) (orgLe_trans (orgL_take _ _ _) ho)
      · exact decC_dr hM hB (ha.drop _) hz (fun id h => hI id (idsL_mem_drop _ _ _ h)) (orgLe_trans (orgL_drop _ _ _) ho)
    · cases h

end
end Ai
end Go.Proofs.YtpboclokodgnlaaGreat

/-! A8: The ideal interpreter against the machine: operations that only compute, read, or make a variable. -/
namespace Go.Proofs.YtpboclokodgnlaaGreat
namespace Ai
set_option linter.unusedSimpArgs false
set_option linter.unusedVariables false

/-- What an operation of the machine does, if the ideal interpreter finds 't' and 'd'. -/
def Post (P : Program) (A : Base) (g : Nat → Option Loc) (B : Nat → BS) (a : Act) (w : World) (o : Oper) (t : T) (d : List (Nat × BS)) : Prop :=
  ∃ g' w', Mem A g' (applyB B d) w' ∧ Later (cxOf A g B w) (cxOf A g' (applyB B d) w') ∧
    ((∃ v, (execOp a.eval o).run P w = .ok (.value v) w' ∧ TR (cxOf A g' (applyB B d) w') t v) ∨ ((execOp a.eval o).run P w = .ok .skip w' ∧ t = one .skip))

section
variable {P : Program} {A : Base} {g : Nat → Option Loc} {B Bx : Nat → BS} {tm : Nat → T} {a : Act} {w : World} {o : Oper} {t : T} {d : List (Nat × BS)}

theorem Post.pure (hM : Mem A g B w) {v : Value} (hr : (execOp a.eval o).run P w = .ok (.value v) w) (ht : TR (cxOf A g B w) t v) : Post P A g B a w o t [] :=
  ⟨g, w, hM, Later.refl _, .inl ⟨v, hr, ht⟩⟩

/-- A world with a draw more. -/
theorem Post.same (hM : Mem A g B w) {w' : World} (hh : w'.heap = w.heap) (hos : w'.os = w.os) (htp : Tp w w') (hout : w'.output = w.output) {v : Value}
    (hr : (execOp a.eval o).run P w = .ok (.value v) w') (ht : TR (cxOf A g B w) t v) : Post P A g B a w o t [] := by
  obtain ⟨hM', hL⟩ := hM.same hh hos htp hout
  exact ⟨g, w', hM', hL, .inl ⟨v, hr, hL.tr ht⟩⟩

theorem ofOne_sr {C : Cx} {v : Value} {s : Sc} (h : ofOne v = some s) : SR C s v := by
  unfold ofOne at h
  split at h <;> first
    | (cases h; rfl)
    | (cases h; done)
    | skip

theorem ofValue_vr {C : Cx} {v : Value} {x : Val} (h : ofValue v = some x) : VR C x v := by
  unfold ofValue at h
  split at h
  · rename_i cs
    rw [Option.map_eq_some_iff] at h
    obtain ⟨l, hl, rfl⟩ := h
    refine ⟨cs, rfl, ?_⟩
    obtain ⟨cl⟩ := cs
    simp only at hl ⊢
    induction cl generalizing l with
    | nil => simp at hl; subst hl; trivial
    | cons c r ih =>
      simp only [List.mapM_cons, Option.bind_eq_bind, Option.bind_eq_some_iff, Option.pure_def, Option.some.injEq] at hl
      obtain ⟨s, hs, l', hl', rfl⟩ := hl
      exact ⟨ofOne_sr hs, ih l' hl'⟩
  · rw [Option.map_eq_some_iff] at h
    obtain ⟨s, hs, rfl⟩ := h
    exact ofOne_sr hs

theorem evalO_tr {C : Cx} (ht : ∀ n, TR C (tm n) (a.tmps.getD n undef)) (x : Operand) : TR C (evalO tm x) (a.eval x) := by
  cases x with
  | tmp n => exact ht n
  | const v =>
    simp only [evalO]
    split
    · rename_i x hx; exact ofValue_vr hx
    · trivial
  | global n => trivial
  | func f => exact ⟨#[], rfl, trivial⟩

/-! Scalars of one form. -/
theorem tr_int {C : Cx} {k : IntKind} {n : Int} {v : Value} (h : TR C (.v (.one (.int k n))) v) : v = .int k n := h
theorem tr_bool {C : Cx} {b : Bool} {v : Value} (h : TR C (.v (.one (.bool b))) v) : v = .bool b := h
theorem tr_str {C : Cx} {s : List UInt8} {v : Value} (h : TR C (.v (.one (.str s))) v) : v = .string ⟨s.toArray⟩ := h
theorem tr_agg {C : Cx} {cs : List Sc} {v : Value} (h : TR C (.v (.agg cs)) v) : ∃ arr : Array Value, v = .agg arr ∧ All2 (SR C) cs arr.toList := h

theorem sr_oneCell {C : Cx} {s : Sc} {v : Value} (h : SR C s v) (hu : noUnd [s] = true) : v.oneCell' = true := by
  cases s <;> simp only [noUnd] at hu <;> first
    | (cases hu; done)
    | (rw [show v = _ from h]; rfl)
    | skip
  case ps org c xs => exact DR.oneCell (show DR _ _ _ _ _ from h) v (by simp)
  case boolU => obtain ⟨b, rfl⟩ := h; rfl
  case psn org c xs => exact DR.oneCell (show DR _ _ _ _ _ from h.1) v (by simp)
  case own id => obtain ⟨l, _, rfl⟩ := h; unfold Loc.sl; cases l.nil <;> rfl
  case sub id lo hi => obtain ⟨l, _, _, _, _, _, rfl⟩ := h; unfold Loc.sub; cases l.nil <;> rfl
  case ptr id off => obtain ⟨l, _, rfl⟩ := h; rfl
  case pel id i off => obtain ⟨l, _, _, rfl⟩ := h; rfl
  case pp org c x off => obtain ⟨b, o, cs, rfl, _⟩ := h; rfl
  case fn f caps => obtain ⟨cs, rfl, _⟩ := h; rfl
  case mp id => obtain ⟨l, _, rfl⟩ := h; rfl
  case errI => obtain ⟨t, x, rfl⟩ := h; rfl

theorem noUnd_cons {s : Sc} {r : List Sc} (h : noUnd (s :: r) = true) : noUnd [s] = true ∧ noUnd r = true := by
  cases s <;> simp_all [noUnd]

theorem all2_oneCell {C : Cx} : ∀ {cs : List Sc} {l : List Value}, All2 (SR C) cs l → noUnd cs = true → ∀ u ∈ l, u.oneCell' = true
  | [], [], _, _, u, hu => by simp at hu
  | s :: r, v :: l, ha, hn, u, hu => by
    obtain ⟨h1, h2⟩ := noUnd_cons hn
    rcases List.mem_cons.1 hu with rfl | hu
    · exact sr_oneCell ha.1 h1
    · exact all2_oneCell ha.2 h2 u hu
  | [], _ :: _, ha, _, _, _ => ha.elim
  | _ :: _, [], ha, _, _, _ => ha.elim

/-- A value as cells. -/
theorem vr_cells {C : Cx} {x : Val} {v : Value} (h : VR C x v) (hu : noUnd x.cells = true) : All2 (SR C) x.cells v.cells.toList ∧ ∀ u ∈ v.cells.toList, u.oneCell' = true := by
  cases x with
  | one s =>
    have h1 := sr_oneCell (show SR C s v from h) hu
    have hc : v.cells = #[v] := by cases v <;> first | rfl | (simp [Value.oneCell'] at h1)
    rw [hc]
    exact ⟨⟨h, trivial⟩, fun u hu => by simp at hu; subst hu; exact h1⟩
  | agg cs =>
    obtain ⟨arr, rfl, ha⟩ := h
    exact ⟨ha, all2_oneCell ha hu⟩

/-! ### Binary operations -/

/-- Equality of plain cells. -/
def eqV : List Cd → List Value → List Value → Option Bool
  | [], [], [] => some true
  | .i k :: ks, .int k1 a :: r, .int k2 b :: s => if k1 = k ∧ k2 = k then (eqV ks r s).map (decide (a = b) && ·) else none
  | .bool :: ks, .bool a :: r, .bool b :: s => (eqV ks r s).map (decide (a = b) && ·)
  | .str :: ks, .string a :: r, .string b :: s => (eqV ks r s).map (decide (a = b) && ·)
  | _, _, _ => none

/-- Two structs of a type are compared cell by cell. -/
def EqOk (P : Program) (t : TypeId) (ks : List Cd) : Prop := ∀ (x y : Operand) (xs ys : Array Value) (b : Bool) (w : World), eqV ks xs.toList ys.toList = some b →
  (do eqGuard .eql t x y (.agg xs) (.agg ys); binOp .eql t (.agg xs) (.agg ys)).run P w = .ok (.bool b) w ∧
  (do eqGuard .neq t x y (.agg xs) (.agg ys); binOp .neq t (.agg xs) (.agg ys)).run P w = .ok (.bool (!b)) w

theorem mk_inj {a b : List UInt8} : ((⟨a.toArray⟩ : ByteArray) = ⟨b.toArray⟩) ↔ a = b := by
  constructor
  · intro h
    have := congrArg ByteArray.toList h
    simpa using this
  · rintro rfl; rfl

theorem eqCells_eqV {C : Cx} : ∀ (ks : List Cd) (xs ys : List Sc) (us vs : List Value) (b : Bool), All2 (SR C) xs us → All2 (SR C) ys vs → eqCells ks xs ys = some b → eqV ks us vs = some b := by
  intro ks
  induction ks with
  | nil =>
    intro xs ys us vs b hx hy h
    cases xs with
    | cons x r => simp [eqCells] at h
    | nil =>
      cases ys with
      | cons y s => simp [eqCells] at h
      | nil =>
        cases us with
        | cons => exact hx.elim
        | nil =>
          cases vs with
          | cons => exact hy.elim
          | nil => simpa [eqCells, eqV] using h
  | cons k ks ih =>
    intro xs ys us vs b hx hy h
    cases xs with
    | nil => simp [eqCells] at h
    | cons x r =>
      cases ys with
      | nil => simp [eqCells] at h
      | cons y s =>
        cases us with
        | nil => exact hx.elim
        | cons u us =>
          cases vs with
          | nil => exact hy.elim
          | cons v vs =>
            obtain ⟨h1, h2⟩ := hx
            obtain ⟨h3, h4⟩ := hy
            cases k <;> cases x <;> cases y <;> first
              | (simp [eqCells] at h; done)
              | (rw [show u = _ from h1, show v = _ from h3]
                 simp only [eqCells] at h
                 simp only [eqV]
                 split at h
                 · rename_i hk
                   rw [if_pos hk]
                   rw [Option.map_eq_some_iff] at h ⊢
                   obtain ⟨b', hb, rfl⟩ := h
                   exact ⟨b', ih _ _ _ _ _ h2 h4 hb, rfl⟩
                 · cases h)
              | (rw [show u = _ from h1, show v = _ from h3]
                 simp only [eqCells] at h
                 simp only [eqV]
                 rw [Option.map_eq_some_iff] at h ⊢
                 obtain ⟨b', hb, rfl⟩ := h
                 exact ⟨b', ih _ _ _ _ _ h2 h4 hb, by first | rfl | (congr 1; simp [mk_inj])⟩)

end
end Ai
end Go.Proofs.YtpboclokodgnlaaGreat

/-! A9: The ideal interpreter against the machine: operations on numbers, strings, and comparisons. -/
namespace Go.Proofs.YtpboclokodgnlaaGreat
namespace Ai
set_option linter.unusedSimpArgs false
set_option linter.unusedVariables false

section
variable {P : Program} {R : Type}

theorem cond_none {α : Type} {b : Bool} {x : Option α} {r : α} (h : cond b none x = some r) : b = false ∧ x = some r := by
  cases b
  · exact ⟨rfl, h⟩
  · cases h

theorem cond_some {α : Type} {b : Bool} {x : Option α} {r : α} (h : cond b x none = some r) : b = true ∧ x = some r := by
  cases b
  · cases h
  · exact ⟨rfl, h⟩

theorem beq_decide (a b : Int) : (a == b) = decide (a = b) := by
  by_cases h : a = b <;> simp [h]

theorem intBin_run {op : BinOp} {k : IntKind} {a b : Int} {K : Sc → Option R} {r : R} (hs : op ≠ .shl ∧ op ≠ .shr) (h : intBin op k a b K = some r) :
    ∃ s v, K s = some r ∧ (∀ C : Cx, SR C s v) ∧ ∀ w t, (binOp op t (.int k a) (.int k b)).run P w = .ok v w := by
  unfold intBin at h
  split at h
  · exact ⟨_, _, h, fun C => rfl, fun w t => by simp [binOp, Op.intArith]⟩
  · exact ⟨_, _, h, fun C => rfl, fun w t => by simp [binOp, Op.intArith]⟩
  · exact ⟨_, _, h, fun C => rfl, fun w t => by simp [binOp, Op.intArith]⟩
  · obtain ⟨hb, h⟩ := cond_none h
    have hb : ¬ b = 0 := by simpa using hb
    exact ⟨_, _, h, fun C => rfl, fun w t => by simp [binOp, Op.intDiv, hb]⟩
  · obtain ⟨hb, h⟩ := cond_none h
    have hb : ¬ b = 0 := by simpa using hb
    exact ⟨_, _, h, fun C => rfl, fun w t => by simp [binOp, Op.intDiv, hb]⟩
  · exact ⟨_, _, h, fun C => rfl, fun w t => by simp [binOp, Op.intBits]⟩
  · exact ⟨_, _, h, fun C => rfl, fun w t => by simp [binOp, Op.intBits]⟩
  · exact ⟨_, _, h, fun C => rfl, fun w t => by simp [binOp, Op.intBits]⟩
  · exact ⟨_, _, h, fun C => rfl, fun w t => by simp [binOp, Op.intCmp, beq_decide]⟩
  · exact ⟨_, _, h, fun C => rfl, fun w t => by simp [binOp, Op.intCmp, bne, beq_decide]⟩
  · exact ⟨_, _, h, fun C => rfl, fun w t => by simp [binOp, Op.intCmp]⟩
  · exact ⟨_, _, h, fun C => rfl, fun w t => by simp [binOp, Op.intCmp]⟩
  · exact ⟨_, _, h, fun C => rfl, fun w t => by simp [binOp, Op.intCmp]⟩
  · exact ⟨_, _, h, fun C => rfl, fun w t => by simp [binOp, Op.intCmp]⟩
  · cases h

theorem shiftBin_run {op : BinOp} {k k' : IntKind} {a b : Int} {K : Sc → Option R} {r : R} (h : shiftBin op k a b K = some r) :
    ∃ s v, K s = some r ∧ (∀ C : Cx, SR C s v) ∧ ∀ w t, (binOp op t (.int k a) (.int k' b)).run P w = .ok v w := by
  unfold shiftBin at h
  split at h
  · obtain ⟨hb, h⟩ := cond_none h
    have hb : ¬ b < 0 := by simpa using hb
    exact ⟨_, _, h, fun C => rfl, fun w t => by simp [binOp, Op.shift, hb]⟩
  · obtain ⟨hb, h⟩ := cond_none h
    have hb : ¬ b < 0 := by simpa using hb
    exact ⟨_, _, h, fun C => rfl, fun w t => by simp [binOp, Op.shift, hb]⟩
  · cases h

theorem strBin_run {op : BinOp} {a b : List UInt8} {K : Sc → Option R} {r : R} (h : strBin op a b K = some r) :
    ∃ s v, K s = some r ∧ (∀ C : Cx, SR C s v) ∧ ∀ w t, (binOp op t (.string ⟨a.toArray⟩) (.string ⟨b.toArray⟩)).run P w = .ok v w := by
  unfold strBin at h
  split at h
  · obtain ⟨hb, h⟩ := cond_some h
    have hb : a.length + b.length ≤ 1099511627776 := by simpa using hb
    refine ⟨_, _, h, fun C => rfl, fun w t => ?_⟩
    have h2 : ¬ (IntKind.i64.max < (((ByteArray.mk a.toArray).size + (ByteArray.mk b.toArray).size : Nat) : Int)) := by
      have : IntKind.i64.max = 9223372036854775807 := rfl
      rw [this]
      show ¬ ((9223372036854775807 : Int) < ((a.toArray.size + b.toArray.size : Nat) : Int))
      simp only [List.size_toArray]
      omega
    simp only [binOp, Op.stringOp]
    rw [Sem.run_ite, if_neg h2, ByteArray.mk_append_mk]
    rfl
  · refine ⟨_, _, h, fun C => rfl, fun w t => ?_⟩
    simp only [binOp, Op.stringOp, ByteArray.toList_mk, Sem.run_pure]
    congr 2
    by_cases e : a = b <;> simp [e]
  · refine ⟨_, _, h, fun C => rfl, fun w t => ?_⟩
    simp only [binOp, Op.stringOp, ByteArray.toList_mk, Sem.run_pure]
    congr 2
    by_cases e : a = b <;> simp [e]
  · refine ⟨_, _, h, fun C => rfl, fun w t => ?_⟩
    simp only [binOp, Op.stringOp, ByteArray.toList_mk, Sem.run_pure]
  · cases h

theorem run_ite_unit {c : Prop} [Decidable c] {X : Sem Unit} {w : World} (h : X.run P w = .ok () w) : (if c then pure () else X).run P w = .ok () w := by
  split
  · rfl
  · exact h

/-- No guard where no interface can be nil. -/
theorem run_eqGuard_plain (op : BinOp) (t : TypeId) (x y : Operand) (a b : Value) (w : World) (h : a.oneCell' = true) (h2 : a ≠ .nilIface ∨ b ≠ .nilIface) :
    (eqGuard op t x y a b).run P w = .ok () w := by
  unfold eqGuard
  refine run_ite_unit ?_
  cases a <;> cases b <;> first | rfl | (simp [Value.oneCell'] at h; done) | (simp at h2; done)

theorem equal_bool {t : TypeId} (hu : P.underlying t = some .bool) (p q : Bool) (w : World) : (Op.equal t (.bool p) (.bool q)).run P w = .ok (p == q) w := by
  have : ∀ d, (Op.equalIn (d + 1) t (.bool p) (.bool q)).run P w = .ok (p == q) w := fun d => by simp [Op.equalIn, run_underlying hu]
  exact this 9999

theorem equal_slice {t e : TypeId} (hu : P.underlying t = some (.slice e)) (a : Option Addr) (n c : Nat) (w : World) : (Op.equal t (.slice a n c) (.slice none 0 0)).run P w = .ok a.isNone w := by
  have : ∀ d, (Op.equalIn (d + 1) t (.slice a n c) (.slice none 0 0)).run P w = .ok a.isNone w := fun d => by cases a <;> simp [Op.equalIn, run_underlying hu]
  exact this 9999

theorem equal_nil {t : TypeId} {ms : Array (String × TypeId)} (hu : P.underlying t = some (.interface ms)) (w : World) : (Op.equal t .nilIface .nilIface).run P w = .ok true w := by
  have : ∀ d, (Op.equalIn (d + 1) t .nilIface .nilIface).run P w = .ok true w := fun d => by simp [Op.equalIn, run_underlying hu]
  exact this 9999

theorem equal_err {t u : TypeId} {x : Value} {ms : Array (String × TypeId)} (hu : P.underlying t = some (.interface ms)) (w : World) : (Op.equal t (.iface u x) .nilIface).run P w = .ok false w := by
  have : ∀ d, (Op.equalIn (d + 1) t (.iface u x) .nilIface).run P w = .ok false w := fun d => by simp [Op.equalIn, run_underlying hu]
  exact this 9999

theorem neg1_some {op : BinOp} {b b' : Bool} (h : neg1 op b = some b') : (op = .eql ∧ b' = b) ∨ (op = .neq ∧ b' = !b) := by
  unfold neg1 at h
  split at h
  · cases h; exact .inl ⟨rfl, rfl⟩
  · cases h; exact .inr ⟨rfl, rfl⟩
  · cases h

end

section
variable {E : Env} {A : Base} {g : Nat → Option Loc} {B Bx : Nat → BS} {tm : Nat → T} {a : Act} {w : World} {o : Oper} {r : T} {d : List (Nat × BS)}

abbrev pk : T → List (Nat × BS) → Option (T × List (Nat × BS)) := fun t d => some (t, d)

theorem pk_one {s : Sc} (h : pk (one s) [] = some (r, d)) : r = one s ∧ d = [] := by
  simp only [pk, Option.some.injEq, Prod.mk.injEq] at h
  exact ⟨h.1.symm, h.2.symm⟩

theorem exec_bin {op : BinOp} {t u : TypeId} {x y : Operand} (ho : o.op = .binOp op t x y u) :
    (execOp a.eval o).run E.P w = ((eqGuard op t x y (a.eval x) (a.eval y)).run E.P w).andThen fun _ w => ((binOp op t (a.eval x) (a.eval y)).run E.P w).andThen fun v w => .ok (.value v) w := by
  simp [execOp, ho]

theorem binK_post (hM : Mem A g B w) (hB : Sub Bx B) (hT : ∀ n, TR (cxOf A g B w) (tm n) (a.tmps.getD n undef)) (hE : ∀ t ks, eqTyp E.eqT t = some ks → EqOk E.P t ks)
    {op : BinOp} {t u : TypeId} {x y : Operand} (ho : o.op = .binOp op t x y u) (h : binK E Bx op t (isConst y) (evalO tm x) (evalO tm y) pk = some (r, d)) : Post E.P A g B a w o r d := by
  have hx := evalO_tr hT x
  have hy := evalO_tr hT y
  have hr := exec_bin (E := E) (a := a) (w := w) ho
  generalize evalO tm x = X at hx h
  generalize evalO tm y = Y at hy h
  generalize a.eval x = vx at hx hr
  generalize a.eval y = vy at hy hr
  unfold binK at h
  split at h
  · rename_i ka m kb n
    rw [tr_int hx, tr_int hy] at hr
    rw [run_eqGuard_plain op t x y _ _ w rfl (.inl (by simp))] at hr
    simp only [Result.andThen_ok] at hr
    split at h
    · obtain ⟨s, v, h1, h2, h3⟩ := shiftBin_run (P := E.P) (k' := kb) h
      obtain ⟨rfl, rfl⟩ := pk_one h1
      rw [h3 w t] at hr
      exact .pure hM hr (h2 _)
    · obtain ⟨s, v, h1, h2, h3⟩ := shiftBin_run (P := E.P) (k' := kb) h
      obtain ⟨rfl, rfl⟩ := pk_one h1
      rw [h3 w t] at hr
      exact .pure hM hr (h2 _)
    · rename_i n1 n2
      split at h
      · rename_i hk
        subst hk
        obtain ⟨s, v, h1, h2, h3⟩ := intBin_run (P := E.P) ⟨fun e => n1 e, fun e => n2 e⟩ h
        obtain ⟨rfl, rfl⟩ := pk_one h1
        rw [h3 w t] at hr
        exact .pure hM hr (h2 _)
      · cases h
  · rw [tr_str hx, tr_str hy] at hr
    rw [run_eqGuard_plain op t x y _ _ w rfl (.inl (by simp))] at hr
    simp only [Result.andThen_ok] at hr
    obtain ⟨s, v, h1, h2, h3⟩ := strBin_run (P := E.P) h
    obtain ⟨rfl, rfl⟩ := pk_one h1
    rw [h3 w t] at hr
    exact .pure hM hr (h2 _)
  · rename_i p q
    rw [tr_bool hx, tr_bool hy] at hr
    rw [run_eqGuard_plain op t x y _ _ w rfl (.inl (by simp))] at hr
    simp only [Result.andThen_ok] at hr
    split at h
    · rename_i b hu hn
      obtain ⟨rfl, rfl⟩ := pk_one h
      have he := equal_bool hu p q w
      have hpq : (p == q) = decide (p = q) := by cases p <;> cases q <;> rfl
      rw [hpq] at he
      rcases neg1_some hn with ⟨rfl, rfl⟩ | ⟨rfl, rfl⟩
      · refine .pure hM (v := .bool (decide (p = q))) ?_ rfl
        rw [hr]; simp [binOp, he]
      · refine .pure hM (v := .bool (!decide (p = q))) ?_ rfl
        rw [hr]; simp [binOp, he]
    · cases h
  · rename_i xs ys
    obtain ⟨us, rfl, hus⟩ := tr_agg hx
    obtain ⟨vs, rfl, hvs⟩ := tr_agg hy
    split at h
    · rename_i ks hc
      split at h
      · rename_i b hb
        split at h
        · rename_i b' hn
          obtain ⟨rfl, rfl⟩ := pk_one h
          have he := hE t ks hc x y us vs b w (eqCells_eqV _ _ _ _ _ _ hus hvs hb)
          simp only [Sem.run_bind] at he
          rcases neg1_some hn with ⟨rfl, rfl⟩ | ⟨rfl, rfl⟩
          · have h1 := he.1
            refine .pure hM (v := .bool b') ?_ rfl
            rw [hr]
            revert h1
            generalize (eqGuard .eql t x y (.agg us) (.agg vs)).run E.P w = q
            cases q with
            | ok _ w1 => simp only [Result.andThen_ok]; intro h1; rw [h1]; rfl
            | halt _ _ => simp
          · have h1 := he.2
            refine .pure hM (v := .bool (!b)) ?_ rfl
            rw [hr]
            revert h1
            generalize (eqGuard .neq t x y (.agg us) (.agg vs)).run E.P w = q
            cases q with
            | ok _ w1 => simp only [Result.andThen_ok]; intro h1; rw [h1]; rfl
            | halt _ _ => simp
        · cases h
      · cases h
    · cases h
  · rename_i s
    have e2 : vy = .slice none 0 0 := hy
    subst e2
    split at h
    · rename_i e hu
      have key : ∀ (p : Option Addr) (n c : Nat), vx = .slice p n c → (match neg1 op p.isNone with | some r => pk (one (.bool r)) [] | none => none) = some (r, d) → Post E.P A g B a w o r d := by
        intro p n c e1 h
        subst e1
        rw [run_eqGuard_plain op t x y _ _ w rfl (.inr (by simp))] at hr
        simp only [Result.andThen_ok] at hr
        have he := equal_slice hu p n c w
        split at h
        · rename_i b' hn
          obtain ⟨rfl, rfl⟩ := pk_one h
          rcases neg1_some hn with ⟨rfl, rfl⟩ | ⟨rfl, rfl⟩
          · refine .pure hM (v := .bool p.isNone) ?_ rfl
            rw [hr]; simp [binOp, he]
          · refine .pure hM (v := .bool (!p.isNone)) ?_ rfl
            rw [hr]; simp [binOp, he]
        · cases h
      have keyU : ∀ (p : Option Addr) (n c : Nat), vx = .slice p n c → (match neg1 op true with | some _ => pk (one .boolU) [] | none => none) = some (r, d) → Post E.P A g B a w o r d := by
        intro p n c e1 h
        subst e1
        rw [run_eqGuard_plain op t x y _ _ w rfl (.inr (by simp))] at hr
        simp only [Result.andThen_ok] at hr
        have he := equal_slice hu p n c w
        split at h
        · rename_i b' hn
          obtain ⟨rfl, rfl⟩ := pk_one h
          rcases neg1_some hn with ⟨rfl, _⟩ | ⟨rfl, _⟩
          · refine .pure hM (v := .bool p.isNone) ?_ ⟨_, rfl⟩
            rw [hr]; simp [binOp, he]
          · refine .pure hM (v := .bool (!p.isNone)) ?_ ⟨_, rfl⟩
            rw [hr]; simp [binOp, he]
        · cases h
      cases hun : unkNil s with
      | true =>
        rw [hun] at h
        simp only [cond_true] at h
        unfold unkNil at hun
        split at hun
        · rename_i org c xs
          have hx' : DR w ((cxOf A g B w).ok org) (.list c) xs [vx] := hx
          rcases hx' with ⟨e1, _⟩ | ⟨b, o', cap, e1, _⟩
          · simp only [List.cons.injEq, and_true] at e1
            exact keyU none 0 0 e1 h
          · simp only [List.cons.injEq, and_true] at e1
            exact keyU (some _) _ _ e1 h
        · cases hun
      | false =>
      rw [hun] at h
      simp only [cond_false] at h
      unfold isNil at h
      split at h
      · exact key none 0 0 hx h
      · split at h
        · rename_i v hv
          obtain ⟨hb, h⟩ := cond_none h
          obtain ⟨l, hg, e1⟩ := (show SR (cxOf A g B w) (.own _) vx from hx)
          obtain ⟨hd, _⟩ := vecOf_dr hM hB hv hg (I := [_]) (fun _ => List.mem_singleton.2 rfl) (orgLe_refl _)
          rw [← e1] at hd
          rcases hd with ⟨_, e⟩ | ⟨b, o', cap, e1, _⟩
          · rw [e] at hb; simp at hb
          · simp only [List.cons.injEq, and_true] at e1
            exact key (some _) _ _ e1 h
        · cases h
      · rename_i xs
        obtain ⟨hb, h⟩ := cond_none h
        rcases (show DR _ _ (.list _) xs [vx] from hx) with ⟨_, e⟩ | ⟨b, o', cap, e1, _⟩
        · subst e; simp at hb
        · simp only [List.cons.injEq, and_true] at e1
          exact key (some _) _ _ e1 h
      · rename_i xs
        obtain ⟨hdr, hnil⟩ := (show DR _ _ (.list _) xs [vx] ∧ (xs = [] → vx = .slice none 0 0) from hx)
        cases xs with
        | nil => exact key none 0 0 (hnil rfl) h
        | cons x0 xs0 =>
          rcases hdr with ⟨_, e⟩ | ⟨b, o', cap, e1, _⟩
          · cases e
          · simp only [List.cons.injEq, and_true] at e1
            exact key (some _) _ _ e1 h
      · cases h
    · cases h
  · rename_i s
    have e2 : vy = .nilIface := hy
    subst e2
    have hc : isConst y = true → (eqGuard op t x y .nilIface .nilIface).run E.P w = .ok () w := by
      intro hc
      unfold isConst at hc
      split at hc
      · unfold eqGuard
        generalize (match op with
          | .eql => true
          | .neq => true
          | _ => false) = c
        cases c <;> simp
      · cases hc
    split at h
    · rename_i ms hu
      obtain ⟨u, q, e1⟩ := (show SR (cxOf A g B w) .errI vx from hx)
      subst e1
      rw [run_eqGuard_plain op t x y _ _ w rfl (.inl (by simp))] at hr
      simp only [Result.andThen_ok] at hr
      have he := equal_err (x := q) (u := u) hu w
      split at h
      · rename_i b' hn
        obtain ⟨rfl, rfl⟩ := pk_one h
        rcases neg1_some hn with ⟨rfl, rfl⟩ | ⟨rfl, rfl⟩
        · refine .pure hM (v := .bool false) ?_ rfl
          rw [hr]; simp [binOp, he]
        · refine .pure hM (v := .bool (!false)) ?_ rfl
          rw [hr]; simp [binOp, he]
      · cases h
    · rename_i ms hu
      have e1 : vx = .nilIface := hx
      subst e1
      have he := equal_nil hu w
      split at h
      · rename_i b' hcy hn
        rw [hc hcy] at hr
        simp only [Result.andThen_ok] at hr
        obtain ⟨rfl, rfl⟩ := pk_one h
        rcases neg1_some hn with ⟨rfl, rfl⟩ | ⟨rfl, rfl⟩
        · refine .pure hM (v := .bool true) ?_ rfl
          rw [hr]; simp [binOp, he]
        · refine .pure hM (v := .bool (!true)) ?_ rfl
          rw [hr]; simp [binOp, he]
      · cases h
    · cases h
  · cases h

end
end Ai
end Go.Proofs.YtpboclokodgnlaaGreat
