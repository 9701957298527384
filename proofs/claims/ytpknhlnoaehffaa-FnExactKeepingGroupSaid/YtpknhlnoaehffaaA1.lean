/-
  The ideal interpreter: typed values, memory by name, no tape and no order of evaluation.
-/
import Derived.Orders
namespace Go.Proofs.Ytpknhlnoaehffaa
namespace Ai

/-- Codes of plain data. -/
inductive Cd where
  | i (k : IntKind) | bool | str | list (c : Cd) | pair (a b : Cd) | unit
  deriving DecidableEq

@[reducible] def El : Cd → Type
  | .i _ => Int
  | .bool => Bool
  | .str => List UInt8
  | .list c => List (El c)
  | .pair a b => El a × El b
  | .unit => Unit

def csize : Cd → Nat
  | .pair a b => csize a + csize b
  | .unit => 0
  | _ => 1

/-- No slice inside. -/
def cflat : Cd → Bool
  | .pair a b => cflat a && cflat b
  | .list _ => false
  | _ => true

def dflt : (c : Cd) → El c
  | .i _ => (0 : Int)
  | .bool => false
  | .str => []
  | .list _ => []
  | .pair a b => (dflt a, dflt b)
  | .unit => ()

/-- What a closure has captured: a pointer to a variable of this call, or to one that is only read. -/
inductive Cap where
  | ptr (id : Nat)
  | pp (org : Nat) (c : Cd) (x : El c)

/-- What one cell holds. -/
inductive Sc where
  | und
  | skip
  | int (k : IntKind) (n : Int)
  | bool (b : Bool)
  | str (s : List UInt8)
  | ps (org : Nat) (c : Cd) (xs : List (El c))
  | nils
  | own (id : Nat)
  | sub (id lo hi : Nat)
  | ptr (id off : Nat)
  | pel (id i off : Nat)
  | pp (org : Nat) (c : Cd) (x : El c) (off : Nat)
  | fn (f : FuncId) (caps : List Cap)
  | mp (id : Nat)
  | nilp | nilI | errI

inductive Val where
  | one (s : Sc)
  | agg (cs : List Sc)

inductive T where
  | v (x : Val)
  | tup (vs : List Val)

inductive Blk where
  | box (cs : List Sc)
  | vec (org : Nat) (c : Cd) (xs : List (El c))
  | mp (kc vc : Cd) (es : List (El kc × El vc))

/-- A name's block: not made yet; given up; owned; a slice that nobody writes any more. -/
inductive BS where
  | fresh | dead
  | live (b : Blk)
  | ro (org : Nat) (c : Cd) (xs : List (El c))

structure St where
  tm : Nat → T
  bk : Nat → BS

def Val.cells : Val → List Sc
  | .one s => [s]
  | .agg cs => cs

/-- The cells of a datum. -/
def scells (org : Nat) : (c : Cd) → El c → List Sc
  | .i k, n => [.int k n]
  | .bool, b => [.bool b]
  | .str, s => [.str s]
  | .list c, xs => [.ps org c xs]
  | .pair a b, x => scells org a x.1 ++ scells org b x.2
  | .unit, _ => []

def mkVal (agg : Bool) (cs : List Sc) : Val :=
  match agg, cs with
  | false, [s] => .one s
  | _, cs => .agg cs

def castL {c c' : Cd} (h : c' = c) (xs : List (El c')) : List (El c) := h ▸ xs

/-- The part of a list between two places. -/
def cut {α : Type} (lo hi : Nat) (xs : List α) : List α := (xs.take hi).drop lo

structure Vc where
  org : Nat
  c : Cd
  xs : List (El c)

/-- A named slice. -/
def vecOf (B : Nat → BS) (id : Nat) : Option Vc :=
  match B id with
  | .live (.vec org c xs) => some ⟨org, c, xs⟩
  | .ro org c xs => some ⟨org, c, xs⟩
  | _ => none

def isLive (B : Nat → BS) (id : Nat) : Bool :=
  match B id with
  | .live _ => true
  | _ => false

/-- A slice's content. -/
def listOf (B : Nat → BS) (c : Cd) : Sc → Option (List (El c))
  | .ps _ c' xs => if h : c' = c then some (castL h xs) else none
  | .nils => some []
  | .own id => match vecOf B id with
    | some v => if h : v.c = c then some (castL h v.xs) else none
    | none => none
  | .sub id lo hi => match vecOf B id with
    | some v => if h : v.c = c then some (cut lo hi (castL h v.xs)) else none
    | none => none
  | _ => none

/-- Cells read as a datum. -/
def decC (B : Nat → BS) : (c : Cd) → List Sc → Option (El c)
  | .i k, cs => match cs with
    | [.int k' n] => if k' = k then some n else none
    | _ => none
  | .bool, cs => match cs with
    | [.bool b] => some b
    | _ => none
  | .str, cs => match cs with
    | [.str s] => some s
    | _ => none
  | .list c, cs => match cs with
    | [s] => listOf B c s
    | _ => none
  | .pair a b, cs => match decC B a (cs.take (csize a)), decC B b (cs.drop (csize a)) with
    | some x, some y => some (x, y)
    | _, _ => none
  | .unit, cs => match cs with
    | [] => some ()
    | _ => none

/-- Where a cell's slices come from (a set of parameters, as bits). -/
def orgS (B : Nat → BS) : Sc → Nat
  | .ps org _ _ => org
  | .own id | .sub id _ _ => match vecOf B id with
    | some v => v.org
    | none => 0
  | _ => 0

def orgL (B : Nat → BS) : List Sc → Nat
  | [] => 0
  | s :: r => orgS B s ||| orgL B r

/-- The owned slices that cells name. -/
def idsL : List Sc → List Nat
  | [] => []
  | .own id :: r | .sub id _ _ :: r => id :: idsL r
  | _ :: r => idsL r

/-- The owned slices that cells name, and that are still owned. -/
def liveL (B : Nat → BS) (cs : List Sc) : List Nat := (idsL cs).filter (isLive B)

/-- Slices that are not written any more. -/
def frzL (B : Nat → BS) : List Nat → List (Nat × BS)
  | [] => []
  | id :: r => match B id with
    | .live (.vec org c xs) => (id, .ro org c xs) :: frzL B r
    | _ => frzL B r

def orgLe (a b : Nat) : Bool := (a ||| b) == b

def upd {α : Type} (f : Nat → α) (k : Nat) (x : α) : Nat → α := fun n => cond (Nat.beq n k) x (f n)

def St.put (st : St) (dst : Option Tmp) (t : T) : St :=
  match dst with
  | some d => { st with tm := upd st.tm d t }
  | none => st

def applyB (B : Nat → BS) : List (Nat × BS) → Nat → BS
  | [] => B
  | (id, b) :: r => applyB (upd B id b) r

/-! ### Types -/

def isAggT (P : Program) (t : TypeId) : Option Bool :=
  match P.underlying t with
  | some (.struct _) | some (.array _ _) => some true
  | some _ => some false
  | none => none

def szT (P : Program) (t : TypeId) : Option Nat := (P.info? t).map (·.size)

def pairs : List Cd → Cd
  | [] => .unit
  | [c] => c
  | c :: d :: r => .pair c (pairs (d :: r))

/-- The code of a type. -/
def tcode (P : Program) : Nat → TypeId → Option Cd
  | 0, _ => none
  | n + 1, t =>
    match P.underlying t with
    | some (.int k) => some (.i k)
    | some .bool => some .bool
    | some .string => some .str
    | some (.slice e) => (tcode P n e).map .list
    | some (.struct fs) => (fs.toList.mapM fun f => tcode P n f.type).map pairs
    | _ => none

def elemT (P : Program) (t : TypeId) : Option TypeId :=
  match P.underlying t with
  | some (.slice e) => some e
  | _ => none

def ofOne : Value → Option Sc
  | .int k n => some (.int k n)
  | .bool b => some (.bool b)
  | .string s => some (.str s.data.toList)
  | .slice none 0 0 => some .nils
  | .nilIface => some .nilI
  | .pointer none => some .nilp
  | _ => none

def ofValue : Value → Option Val
  | .agg cs => (cs.toList.mapM ofOne).map .agg
  | v => (ofOne v).map .one

def evalO (tm : Nat → T) : Operand → T
  | .tmp t => tm t
  | .const v => match ofValue v with
    | some x => .v x
    | none => .v (.one .und)
  | .global _ => .v (.one .und)
  | .func f => .v (.one (.fn f []))

end Ai
end Go.Proofs.Ytpknhlnoaehffaa
