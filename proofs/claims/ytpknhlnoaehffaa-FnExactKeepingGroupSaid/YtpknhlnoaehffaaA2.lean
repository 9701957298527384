/-
  The ideal interpreter: operations, regions, code; with a continuation, so that the kernel reckons straight on.
-/
import Derived.Test.YtpknhlnoaehffaaA1
namespace Go.Proofs.Ytpknhlnoaehffaa
namespace Ai

/-! ### Shapes of what goes over a call's edge -/

inductive ASh where
  | d (c : Cd) (agg : Bool)
  | own (c : Cd)
  | ref (c : Cd)
  | rbox (c : Cd)
  | clo (f : FuncId) (caps : List Cd)
  | rp (c : Cd)
  | rag (a e : Cd)
  | k (s : Sc)

structure RSh where
  c : Cd
  agg : Bool
  org : Nat

structure FI where
  f : FuncId
  as : List ASh
  rs : List RSh

/-- Parts of a state at a loop's head or behind a loop. -/
inductive It where
  | sl (t org : Nat) (agg : Bool) (c : Cd)
  | so (t org : Nat) (c : Cd)
  | sk (t : Nat) (s : Sc)
  | cl (t : Nat) (f : FuncId) (org : Nat) (caps : List Cd)
  | rp (t org : Nat) (c : Cd)
  | bx (id n : Nat)
  | bd (id j org : Nat) (c : Cd)
  | bo (id j org : Nat) (c : Cd)
  | bk (id j : Nat) (s : Sc)
  | vc (id org : Nat) (c : Cd)
  | mp (id : Nat) (kc vc : Cd)

inductive Ex where
  | nrm | ret
  | exit (id : Nat)
  deriving DecidableEq

@[reducible] def Tup : List Cd → Type
  | [] => Unit
  | [c] => El c
  | c :: d :: r => El c × Tup (d :: r)

def tcons {c : Cd} (x : El c) : {r : List Cd} → Tup r → Tup (c :: r)
  | [], _ => x
  | _ :: _, y => (x, y)

def thd {c : Cd} : {r : List Cd} → Tup (c :: r) → El c
  | [], x => x
  | _ :: _, x => x.1

def ttl {c : Cd} : {r : List Cd} → Tup (c :: r) → Tup r
  | [], _ => ()
  | _ :: _, x => x.2

def acode1 : ASh → Option Cd
  | .d c _ => some c
  | .own c | .ref c => some (.list c)
  | .rbox c => some c
  | .clo _ caps => some (pairs caps)
  | .rp c => some c
  | .rag a e => some (.pair a (.list e))
  | .k _ => none

def acodes : List ASh → List Cd
  | [] => []
  | .d c _ :: r => c :: acodes r
  | .own c :: r | .ref c :: r => .list c :: acodes r
  | .rbox c :: r => c :: acodes r
  | .clo _ caps :: r => pairs caps :: acodes r
  | .rp c :: r => c :: acodes r
  | .rag a e :: r => .pair a (.list e) :: acodes r
  | .k _ :: r => acodes r

/-- What comes back beside the results: the content of what was lent. -/
def outs : List ASh → List Cd
  | [] => []
  | .ref c :: r => .list c :: outs r
  | .rag _ e :: r => .list e :: outs r
  | .rbox c :: r => c :: outs r
  | _ :: r => outs r

def rcodes : List RSh → List ASh → List Cd
  | [], as => outs as
  | r :: rs, as => r.c :: rcodes rs as

def icodes : List It → List Cd
  | [] => []
  | .sl _ _ _ c :: r => c :: icodes r
  | .cl _ _ _ caps :: r => pairs caps :: icodes r
  | .rp _ _ c :: r => c :: icodes r
  | .so _ _ c :: r => .list c :: icodes r
  | .bd _ _ _ c :: r => c :: icodes r
  | .bo _ _ _ c :: r => .list c :: icodes r
  | .vc _ _ c :: r => .list c :: icodes r
  | .mp _ kc vc :: r => .list (.pair kc vc) :: icodes r
  | .sk _ _ :: r | .bx _ _ :: r | .bk _ _ _ :: r => icodes r

abbrev Exs := List (Ex × List It)

@[reducible] def ExT : Exs → Type
  | [] => Empty
  | [(_, s)] => Tup (icodes s)
  | (_, s) :: d :: r => Tup (icodes s) ⊕ ExT (d :: r)

inductive Key where
  | fn (i : FI)
  | lp (f n : Nat) (ex : Exs) (h : List It)

@[reducible] def Dom : Key → Type
  | .fn i => Tup (acodes i.as)
  | .lp _ _ _ h => Tup (icodes h)

@[reducible] def Cod : Key → Type
  | .fn i => Tup (rcodes i.rs i.as)
  | .lp _ _ ex _ => ExT ex

abbrev Orc := (k : Key) → Dom k → Option (Cod k)

/-- What the interpreter is told of the program beside its text. -/
structure Env where
  P : Program
  fi : FuncId → List FI
  heads : Nat → Nat → List (List It)
  exits : Nat → Nat → Exs
  eqT : List (TypeId × List Cd)
  mutF : List FuncId

def LIM : Nat := 4194304

section
variable (E : Env) {R : Type}

abbrev Dl := List (Nat × BS)

def mkB (B : Nat → BS) (id : Nat) (b : Blk) (t : T) (k : T → Dl → Option R) : Option R :=
  match B id with
  | .fresh => k t [(id, .live b)]
  | _ => none

def rd {α : Type} (xs : List α) (i : Int) : Option α := cond (decide (0 ≤ i)) (xs[i.toNat]?) none

def one (s : Sc) : T := .v (.one s)

def chk (b : Bool) (k : Option R) : Option R := cond b k none

/-- Bytes of a string that the program has as a constant, etc. -/
def ofInts (xs : List Int) : List UInt8 := xs.map fun n => UInt8.ofNat n.toNat
def toInts (s : List UInt8) : List Int := s.map fun b => (b.toNat : Int)

def intBin (op : BinOp) (k : IntKind) (a b : Int) (K : Sc → Option R) : Option R :=
  match op with
  | .add => K (.int k (k.wrap (a + b)))
  | .sub => K (.int k (k.wrap (a - b)))
  | .mul => K (.int k (k.wrap (a * b)))
  | .quo => cond (decide (b = 0)) none (K (.int k (k.wrap (a.tdiv b))))
  | .rem => cond (decide (b = 0)) none (K (.int k (a.tmod b)))
  | .and => K (.int k (k.wrap (BitVec.ofInt k.bits a &&& BitVec.ofInt k.bits b).toNat))
  | .or => K (.int k (k.wrap (BitVec.ofInt k.bits a ||| BitVec.ofInt k.bits b).toNat))
  | .xor => K (.int k (k.wrap (BitVec.ofInt k.bits a ^^^ BitVec.ofInt k.bits b).toNat))
  | .eql => K (.bool (decide (a = b)))
  | .neq => K (.bool (!decide (a = b)))
  | .lss => K (.bool (decide (a < b)))
  | .leq => K (.bool (decide (a ≤ b)))
  | .gtr => K (.bool (decide (b < a)))
  | .geq => K (.bool (decide (b ≤ a)))
  | _ => none

def shiftBin (op : BinOp) (k : IntKind) (a b : Int) (K : Sc → Option R) : Option R :=
  match op with
  | .shl => cond (decide (b < 0)) none (K (.int k (k.wrap (a * 2 ^ (min b.toNat k.bits)))))
  | .shr => cond (decide (b < 0)) none (K (.int k (a.fdiv (2 ^ (min b.toNat k.bits)))))
  | _ => none

def strBin (op : BinOp) (a b : List UInt8) (K : Sc → Option R) : Option R :=
  match op with
  | .add => cond (decide (a.length + b.length ≤ 1099511627776)) (K (.str (a ++ b))) none
  | .eql => K (.bool (decide (a = b)))
  | .neq => K (.bool (!decide (a = b)))
  | .lss => K (.bool (Op.bytesLess a b))
  | _ => none

def eqCells : List Cd → List Sc → List Sc → Option Bool
  | [], [], [] => some true
  | .i k :: ks, .int k1 a :: r, .int k2 b :: s => if k1 = k ∧ k2 = k then (eqCells ks r s).map (decide (a = b) && ·) else none
  | .bool :: ks, .bool a :: r, .bool b :: s => (eqCells ks r s).map (decide (a = b) && ·)
  | .str :: ks, .str a :: r, .str b :: s => (eqCells ks r s).map (decide (a = b) && ·)
  | _, _, _ => none

/-- The leaves of a type whose values are compared. -/
def eqTyp : List (TypeId × List Cd) → TypeId → Option (List Cd)
  | [], _ => none
  | (u, ks) :: r, t => cond (Nat.beq u t) (some ks) (eqTyp r t)

/-- A slice against nil: is it nil? -/
def isNil (B : Nat → BS) (s : Sc) (K : Bool → Option R) : Option R :=
  match s with
  | .nils => K true
  | .own id => match vecOf B id with
    | some v => cond v.xs.isEmpty none (K false)
    | none => none
  | .ps _ _ xs => cond xs.isEmpty none (K false)
  | _ => none

def neg1 (op : BinOp) (b : Bool) : Option Bool :=
  match op with
  | .eql => some b
  | .neq => some (!b)
  | _ => none

def isConst : Operand → Bool
  | .const _ => true
  | _ => false

def binK (B : Nat → BS) (op : BinOp) (t : TypeId) (cy : Bool) (x y : T) (k : T → Dl → Option R) : Option R :=
  match x, y with
  | .v (.one (.int ka a)), .v (.one (.int kb b)) =>
    match op with
    | .shl | .shr => shiftBin op ka a b fun s => k (one s) []
    | _ => if ka = kb then intBin op ka a b fun s => k (one s) [] else none
  | .v (.one (.str a)), .v (.one (.str b)) => strBin op a b fun s => k (one s) []
  | .v (.one (.bool a)), .v (.one (.bool b)) =>
    match E.P.underlying t, neg1 op (decide (a = b)) with
    | some .bool, some r => k (one (.bool r)) []
    | _, _ => none
  | .v (.agg xs), .v (.agg ys) =>
    match eqTyp E.eqT t with
    | some ks => match eqCells ks xs ys with
      | some b => match neg1 op b with
        | some r => k (one (.bool r)) []
        | none => none
      | none => none
    | none => none
  | .v (.one s), .v (.one .nils) =>
    match E.P.underlying t with
    | some (.slice _) => isNil B s fun b => match neg1 op b with
      | some r => k (one (.bool r)) []
      | none => none
    | _ => none
  | .v (.one s), .v (.one .nilI) =>
    match E.P.underlying t, s with
    | some (.interface _), .errI => match neg1 op false with
      | some r => k (one (.bool r)) []
      | none => none
    | some (.interface _), .nilI => match cy, neg1 op true with
      | true, some r => k (one (.bool r)) []
      | _, _ => none
    | _, _ => none
  | _, _ => none

def unK (op : UnOp) (x : T) (k : T → Dl → Option R) : Option R :=
  match op, x with
  | .neg, .v (.one (.int ki n)) => k (one (.int ki (ki.wrap (0 - n)))) []
  | .not, .v (.one (.bool b)) => k (one (.bool (!b))) []
  | _, _ => none

/-- How many elements a slice has. -/
def lenS (B : Nat → BS) : Sc → Option Nat
  | .ps _ _ xs => some xs.length
  | .nils => some 0
  | .own id => match vecOf B id with
    | some v => some v.xs.length
    | none => none
  | .sub _ lo hi => some (hi - lo)
  | _ => none

def convK (B : Nat → BS) (src dst : TypeId) (x : T) (k : T → Dl → Option R) : Option R :=
  match E.P.underlying src, E.P.underlying dst, x with
  | some (.int _), some (.int kd), .v (.one (.int _ n)) => k (one (.int kd (kd.wrap n))) []
  | some .string, some .string, .v (.one (.str s)) => k (one (.str s)) []
  | some (.slice e), some .string, .v (.one s) =>
    match E.P.underlying e, listOf B (.i .u8) s with
    | some (.int .u8), some xs => k (one (.str (ofInts xs))) []
    | _, _ => none
  | _, _, _ => none

/-- Cells written over a row of cells. -/
def splice (cs : List Sc) (off : Nat) (vs : List Sc) : Option (List Sc) :=
  if off + vs.length ≤ cs.length then some (cs.take off ++ vs ++ cs.drop (off + vs.length)) else none

def noUnd : List Sc → Bool
  | [] => true
  | .und :: _ | .skip :: _ => false
  | _ :: r => noUnd r

def loadCs (cs : List Sc) (agg : Bool) (off sz : Nat) (k : T → Dl → Option R) : Option R :=
  match agg with
  | true => if off + sz ≤ cs.length then k (.v (.agg ((cs.drop off).take sz))) [] else none
  | false => match cs[off]? with
    | some s => k (one s) []
    | none => none

def loadK (B : Nat → BS) (t : TypeId) (a : T) (k : T → Dl → Option R) : Option R :=
  match isAggT E.P t, szT E.P t, a with
  | some agg, some sz, .v (.one (.ptr id off)) => match B id with
    | .live (.box cs) => loadCs cs agg off sz k
    | _ => none
  | some agg, some sz, .v (.one (.pel id i off)) => match vecOf B id with
    | some v => loadCs (scells v.org v.c (v.xs.getD i (dflt v.c))) agg off sz k
    | none => none
  | some agg, some sz, .v (.one (.pp org c x off)) => loadCs (scells org c x) agg off sz k
  | _, _, _ => none

def storeK (B : Nat → BS) (t : TypeId) (a v : T) (k : Dl → Option R) : Option R :=
  match szT E.P t, a, v with
  | some sz, .v (.one (.ptr id off)), .v x =>
    if x.cells.length = sz ∧ noUnd x.cells then
      match B id with
      | .live (.box cs) => match splice cs off x.cells with
        | some cs' => k [(id, .live (.box cs'))]
        | none => none
      | _ => none
    else none
  | some sz, .v (.one (.pel id i off)), .v x =>
    if x.cells.length = sz then
      match applyB B (frzL B (idsL x.cells)) id with
      | .live (.vec org c xs) =>
        match splice (scells org c (xs.getD i (dflt c))) off x.cells with
        | some cs => match decC (applyB B (frzL B (idsL x.cells))) c cs with
          | some y => k (frzL B (idsL x.cells) ++ [(id, .live (.vec (org ||| orgL (applyB B (frzL B (idsL x.cells))) x.cells) c (xs.set i y)))])
          | none => none
        | none => none
      | _ => none
    else none
  | _, _, _ => none

def fieldOf (P : Program) (s : TypeId) (f : Nat) : Option Field :=
  match P.underlying s with
  | some (.struct fs) => fs[f]?
  | _ => none

def fieldAddrK (s : TypeId) (a : T) (f : Nat) (k : T → Dl → Option R) : Option R :=
  match fieldOf E.P s f with
  | some fd => match szT E.P fd.type, a with
    | some (_ + 1), .v (.one (.ptr id off)) => k (one (.ptr id (off + fd.offset))) []
    | some (_ + 1), .v (.one (.pel id i off)) => k (one (.pel id i (off + fd.offset))) []
    | some (_ + 1), .v (.one (.pp org c x off)) => k (one (.pp org c x (off + fd.offset))) []
    | _, _ => none
  | none => none

/-- One of 0 .. n - 1, each by itself. -/
def splitIdx (i : Int) : Nat → Nat → (Nat → Option R) → Option R
  | 0, _, _ => none
  | n + 1, j, K => cond (decide (i = (j : Int))) (K j) (splitIdx i n (j + 1) K)

def indexAddrK (B : Nat → BS) (t : TypeId) (x ix : T) (k : T → Dl → Option R) : Option R :=
  match E.P.underlying t, x, ix with
  | some (.slice e), .v (.one (.ps org c xs)), .v (.one (.int _ i)) =>
    if szT E.P e = some (csize c) then (rd xs i).bind fun x => k (one (.pp org c x 0)) [] else none
  | some (.slice e), .v (.one (.own id)), .v (.one (.int _ i)) =>
    match B id with
    | .live (.vec _ c xs) => if szT E.P e = some (csize c) then
        cond (decide (0 ≤ i) && decide (i < xs.length)) (k (one (.pel id i.toNat 0)) []) none else none
    | .ro org c xs => if szT E.P e = some (csize c) then (rd xs i).bind fun x => k (one (.pp org c x 0)) [] else none
    | _ => none
  | some (.array n e), .v (.one (.ptr id off)), .v (.one (.int _ i)) =>
    match szT E.P e with
    | some sz => if 2 ≤ n then splitIdx i n 0 fun j => k (one (.ptr id (off + j * sz))) [] else none
    | none => none
  | _, _, _ => none

def indexK (t : TypeId) (x ix : T) (k : T → Dl → Option R) : Option R :=
  match E.P.underlying t, x, ix with
  | some .string, .v (.one (.str s)), .v (.one (.int _ i)) => (rd s i).bind fun b => k (one (.int .u8 (b.toNat : Int))) []
  | some (.array n e), .v (.agg cs), .v (.one (.int _ i)) =>
    match isAggT E.P e, szT E.P e with
    | some agg, some sz => splitIdx i n 0 fun j => loadCs cs agg (j * sz) sz k
    | _, _ => none
  | _, _, _ => none

def fieldK (t : TypeId) (x : T) (f : Nat) (k : T → Dl → Option R) : Option R :=
  match fieldOf E.P t f, x with
  | some fd, .v (.agg cs) => match isAggT E.P fd.type, szT E.P fd.type with
    | some agg, some sz => loadCs cs agg fd.offset sz k
    | _, _ => none
  | _, _ => none

/-- Bounds of a slice expression. -/
def loHi (len : Nat) (lo hi : Option T) (K : Nat → Nat → Option R) : Option R :=
  let H (h : Int) (K : Option R) : Option R := cond (decide (0 ≤ h) && decide (h ≤ (len : Int))) K none
  match lo, hi with
  | none, none => K 0 len
  | some (.v (.one (.int _ l))), none => cond (decide (0 ≤ l) && decide (l ≤ (len : Int))) (K l.toNat len) none
  | none, some (.v (.one (.int _ h))) => H h (K 0 h.toNat)
  | some (.v (.one (.int _ l))), some (.v (.one (.int _ h))) => H h (cond (decide (0 ≤ l) && decide (l ≤ h)) (K l.toNat h.toNat) none)
  | _, _ => none

def sliceK (B : Nat → BS) (t : TypeId) (x : T) (lo hi mx : Option T) (k : T → Dl → Option R) : Option R :=
  match mx with
  | some _ => none
  | none => match E.P.underlying t, x with
    | some .string, .v (.one (.str s)) => loHi s.length lo hi fun l h => k (one (.str (cut l h s))) []
    | some (.slice e), .v (.one (.ps org c xs)) =>
      if szT E.P e = some (csize c) then loHi xs.length lo hi fun l h => k (one (.ps org c (cut l h xs))) [] else none
    | some (.slice e), .v (.one (.own id)) =>
      match vecOf B id with
      | some v => if szT E.P e = some (csize v.c) then loHi v.xs.length lo hi fun l h => k (one (.sub id l h)) [] else none
      | none => none
    | _, _ => none

def partsCells : List T → Option (List (List Sc))
  | [] => some []
  | .v x :: r => if noUnd x.cells then (partsCells r).map (x.cells :: ·) else none
  | _ => none

/-- Elements one by one, as data. -/
def decAll (B : Nat → BS) (c : Cd) : List (List Sc) → Option (List (El c))
  | [] => some []
  | cs :: r => match decC B c cs, decAll B c r with
    | some x, some xs => some (x :: xs)
    | _, _ => none

def inOrder : Nat → List (Nat × T) → Bool
  | _, [] => true
  | n, (i, _) :: r => Nat.beq i n && inOrder (n + 1) r

def buildSliceK (B : Nat → BS) (id : Nat) (t : TypeId) (len : Nat) (parts : List (Nat × T)) (k : T → Dl → Option R) : Option R :=
  match elemT E.P t with
  | some e => match tcode E.P 20 e, szT E.P e, partsCells (parts.map (·.2)) with
    | some c, some sz, some css =>
      if inOrder 0 parts && Nat.beq parts.length len && Nat.beq sz (csize c) && decide (len * sz ≤ 65536) && ((E.P.info? e).bind (·.zero)).isSome then
        match decAll (applyB B (frzL B (idsL css.flatten))) c css with
        | some xs => mkB (applyB B (frzL B (idsL css.flatten))) id (.vec (orgL (applyB B (frzL B (idsL css.flatten))) css.flatten) c xs) (one (.own id)) fun t d => k t (frzL B (idsL css.flatten) ++ d)
        | none => none
      else none
    | _, _, _ => none
  | none => none

def fillS (place : Nat → Option (Nat × Nat)) (cells : List Sc) : List (Nat × List Sc) → Option (List Sc)
  | [] => some cells
  | (i, v) :: rest =>
    match place i with
    | none => none
    | some (off, size) => if v.length = size then
        match splice cells off v with
        | some cs => fillS place cs rest
        | none => none
      else none

def buildK (t : TypeId) (parts : List (Nat × T)) (k : T → Dl → Option R) : Option R :=
  match E.P.underlying t, ((E.P.info? t).bind (·.zero)).bind ofValue, partsCells (parts.map (·.2)) with
  | some (.struct fs), some z, some css =>
    match fs.toList.mapM (fun f => (szT E.P f.type).map fun n => (f.offset, n)) with
    | some places =>
      match fillS (places[·]?) z.cells ((parts.map (·.1)).zip css) with
      | some cs => k (.v (.agg cs)) []
      | none => none
    | none => none
  | some (.array _ e), some z, some css =>
    match szT E.P e with
    | some n =>
      match fillS (fun i => some (i * n, n)) z.cells ((parts.map (·.1)).zip css) with
      | some cs => k (.v (.agg cs)) []
      | none => none
    | none => none
  | _, _, _ => none

def makeSliceK (B : Nat → BS) (id : Nat) (t : TypeId) (l c : T) (k : T → Dl → Option R) : Option R :=
  match elemT E.P t, l, c with
  | some e, .v (.one (.int _ l)), .v (.one (.int _ n)) =>
    match tcode E.P 20 e, szT E.P e, (E.P.info? e).map (·.bytes), ((E.P.info? e).bind (·.zero)).bind ofValue with
    | some cd, some sz, some by_, some z =>
      if Nat.beq sz (csize cd) && (noUnd z.cells && decide (by_ ≤ 4096)) then
        match decC (fun _ => .dead) cd z.cells with
        | some z => cond (decide (0 ≤ l) && (decide (l ≤ n) && decide (n ≤ (LIM : Int))))
            (mkB B id (.vec 0 cd (List.replicate l.toNat z)) (one (.own id)) k) none
        | none => none
      else none
    | _, _, _, _ => none
  | _, _, _ => none

/-- append(s, x...) -/
def appendK (B : Nat → BS) (id : Nat) (t : TypeId) (s x : T) (k : T → Dl → Option R) : Option R :=
  match elemT E.P t with
  | some e => match tcode E.P 20 e, szT E.P e, (E.P.info? e).map (·.bytes), ((E.P.info? e).bind (·.zero)).bind ofValue, s, x with
    | some c, some sz, some by_, some z, .v (.one s), .v (.one x) =>
      if Nat.beq sz (csize c) && (Nat.beq z.cells.length sz && (noUnd z.cells && (decide (by_ ≤ 4096) && decide (1 ≤ by_)))) then
        match listOf B c x with
        | some ys => match s with
          | .nils => cond (decide (ys.length ≤ LIM)) (mkB B id (.vec (orgS B x) c ys) (one (.own id)) k) none
          | .own si => match B si with
            | .live (.vec org c' xs) => if h : c' = c then
                if (idsL [x]).contains si then none else
                cond (decide (xs.length + ys.length ≤ LIM)) (match B id with
                  | .fresh => k (one (.own id)) [(si, .dead), (id, .live (.vec (org ||| orgS B x) c (castL h xs ++ ys)))]
                  | _ => none) none
              else none
            | _ => none
          | _ => none
        | none => none
      else none
    | _, _, _, _, _, _ => none
  | none => none

/-- A list written over a part of a list. -/
def overL {α : Type} (xs ys : List α) (k : Nat) : List α := xs.take k ++ ys ++ xs.drop (k + ys.length)

/-- The part of an owned row that a slice is. -/
def spanS (B : Nat → BS) : Sc → Option (Nat × Nat × Nat)
  | .own id => match B id with
    | .live (.vec _ _ xs) => some (id, 0, xs.length)
    | _ => none
  | .sub id lo hi => some (id, lo, hi)
  | _ => none

/-- copy(s, x) -/
def copyK (B : Nat → BS) (t : TypeId) (s x : T) (k : T → Dl → Option R) : Option R :=
  match elemT E.P t with
  | some e => match tcode E.P 20 e, szT E.P e, s, x with
    | some c, some sz, .v (.one s), .v (.one x) =>
      if Nat.beq sz (csize c) && cflat c then
        match listOf B c x, spanS B s with
        | some ys, some (id, lo, hi) => match B id with
          | .live (.vec org c' xs) => if h : c' = c then
              k (one (.int .i64 ((min ys.length (hi - lo) : Nat) : Int))) [(id, .live (.vec org c (overL (castL h xs) (ys.take (hi - lo)) lo)))]
            else none
          | _ => none
        | _, _ => none
      else none
    | _, _, _, _ => none
  | none => none

/-- clear(s) -/
def clearK (B : Nat → BS) (t : TypeId) (s : T) (k : T → Dl → Option R) : Option R :=
  match elemT E.P t with
  | some e => match tcode E.P 20 e, szT E.P e, ((E.P.info? e).bind (·.zero)).bind ofValue, s with
    | some c, some sz, some z, .v (.one s) =>
      if Nat.beq sz (csize c) && (cflat c && noUnd z.cells) then
        match decC (fun _ => .dead) c z.cells, spanS B s with
        | some zd, some (id, lo, hi) => match B id with
          | .live (.vec org c' xs) => if h : c' = c then
              k (.tup []) [(id, .live (.vec org c (overL (castL h xs) (List.replicate (hi - lo) zd) lo)))]
            else none
          | _ => none
        | _, _ => none
      else none
    | _, _, _, _ => none
  | none => none

def minMax (mx : Bool) : List T → Option Sc
  | [.v (.one (.int k a)), .v (.one (.int k' b))] => if k = k' then some (.int k (match mx with
      | true => max a b
      | false => min a b)) else none
  | _ => none

def lenK (B : Nat → BS) (t : TypeId) (x : T) (k : T → Dl → Option R) : Option R :=
  match E.P.underlying t, x with
  | some .string, .v (.one (.str s)) => k (one (.int .i64 (s.length : Int))) []
  | some (.slice _), .v (.one s) => match lenS B s with
    | some n => k (one (.int .i64 (n : Int))) []
    | none => none
  | some (.map _ _), .v (.one (.mp id)) => match B id with
    | .live (.mp _ _ es) => k (one (.int .i64 (es.length : Int))) []
    | _ => none
  | _, _ => none

def builtinK (B : Nat → BS) (id : Nat) (b : Builtin) (ts : List TypeId) (args : List T) (k : T → Dl → Option R) : Option R :=
  match b, ts, args with
  | .len, t :: _, [x] => lenK E B t x k
  | .append, [t, u], [s, x] => match E.P.underlying u with
    | some (.slice _) => appendK E B id t s x k
    | _ => none
  | .copy, [t, u], [s, x] => match E.P.underlying u with
    | some (.slice _) => copyK E B t s x k
    | _ => none
  | .clear, [t], [s] => clearK E B t s k
  | .max, _, xs => match minMax true xs with
    | some s => k (one s) []
    | none => none
  | .min, _, xs => match minMax false xs with
    | some s => k (one s) []
    | none => none
  | _, _, _ => none

def capsOf : List T → Option (List Cap)
  | [] => some []
  | .v (.one (.ptr id 0)) :: r => (capsOf r).map (.ptr id :: ·)
  | .v (.one (.pp org c x 0)) :: r => (capsOf r).map (.pp org c x :: ·)
  | _ => none

/-- The operations that are no calls of functions. -/
def semK (B : Nat → BS) (tm : Nat → T) (o : Oper) (k : T → Dl → Option R) : Option R :=
  let ρ := evalO tm
  let id := 8 * o.dst.getD 0
  match o.op with
  | .move x | .assign x => k (ρ x) []
  | .pick c a b => match ρ c with
    | .v (.one (.bool q)) => cond q (k (ρ a) []) (k (ρ b) [])
    | _ => none
  | .alloc e => match ((E.P.info? e).bind (·.zero)).bind ofValue with
    | some z => if noUnd z.cells then mkB B id (.box z.cells) (one (.ptr id 0)) k else none
    | none => none
  | .box e x => match ρ x, szT E.P e with
    | .v v, some sz => if v.cells.length = sz ∧ noUnd v.cells then mkB B id (.box v.cells) (one (.ptr id 0)) k else none
    | _, _ => none
  | .build t ps => buildK E t (ps.toList.map fun p => (p.1, ρ p.2)) k
  | .buildSlice t n ps => buildSliceK E B id t n (ps.toList.map fun p => (p.1, ρ p.2)) k
  | .load t a => loadK E B t (ρ a) k
  | .store t a x => storeK E B t (ρ a) (ρ x) fun d => k (one .skip) d
  | .nilCheck x => match ρ x with
    | .v (.one (.ptr i j)) => k (one (.ptr i j)) []
    | .v (.one (.pel i j l)) => k (one (.pel i j l)) []
    | .v (.one (.pp a b c d)) => k (one (.pp a b c d)) []
    | _ => none
  | .binOp op t x y _ => binK E B op t (isConst y) (ρ x) (ρ y) k
  | .unOp op _ x => unK op (ρ x) k
  | .convert s d x => convK E B s d (ρ x) k
  | .makeFunc (.func f) first caps => match first.toList, capsOf (caps.toList.map ρ) with
    | [], some cs => k (one (.fn f cs)) []
    | _, _ => none
  | .makeSlice t l c => makeSliceK E B id t (ρ l) (ρ c) k
  | .slice t x lo hi mx => sliceK E B t (ρ x) (lo.map ρ) (hi.map ρ) (mx.map ρ) k
  | .fieldAddr s x f => fieldAddrK E s (ρ x) f k
  | .field t x f => fieldK E t (ρ x) f k
  | .indexAddr t x i => indexAddrK E B t (ρ x) (ρ i) k
  | .index t x i => indexK E t (ρ x) (ρ i) k
  | .extract t i => match ρ t with
    | .tup vs => match vs[i]? with
      | some v => k (.v v) []
      | none => none
    | _ => none
  | .call { callee := .builtin b, args, argTypes } => builtinK E B id b argTypes.toList (args.toList.map ρ) k
  | _ => none

end
end Ai
end Go.Proofs.Ytpknhlnoaehffaa
