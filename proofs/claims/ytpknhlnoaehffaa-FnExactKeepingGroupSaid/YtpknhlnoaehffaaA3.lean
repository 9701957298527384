/-
  The ideal interpreter: calls, regions, code, loops; one step of the whole.
-/
import Derived.Test.YtpknhlnoaehffaaA2
namespace Go.Proofs.Ytpknhlnoaehffaa
namespace Ai

def capT : Cap → T
  | .ptr id => one (.ptr id 0)
  | .pp org c x => one (.pp org c x 0)

def decArg (B : Nat → BS) (c : Cd) (agg : Bool) : Val → Option (El c)
  | .one s => match agg with
    | false => decC B c [s]
    | true => none
  | .agg cs => match agg with
    | true => decC B c cs
    | false => none

def boxOf (B : Nat → BS) : Cap → Option (List Sc)
  | .ptr id => match B id with
    | .live (.box cs) => some cs
    | _ => none
  | .pp org c x => some (scells org c x)

/-- What closures have captured, as data. -/
def decCaps (B : Nat → BS) : (cs : List Cd) → List Cap → Option (El (pairs cs))
  | [], [] => some ()
  | [c], [p] => match boxOf B p with
    | some l => decC B c l
    | none => none
  | c :: d :: r, p :: ps => match boxOf B p with
    | some l => match decC B c l, decCaps B (d :: r) ps with
      | some x, some y => some (x, y)
      | _, _ => none
    | none => none
  | _, _ => none

def capOrg (B : Nat → BS) : List Cap → Nat
  | [] => 0
  | .ptr id :: r => (match B id with
    | .live (.box cs) => orgL B cs
    | _ => 0) ||| capOrg B r
  | .pp org _ _ :: r => org ||| capOrg B r

/-- Constants that a shape may name. -/
def eqCap : List Cap → List Cap → Bool
  | [], [] => true
  | .ptr a :: r, .ptr b :: s => Nat.beq a b && eqCap r s
  | _, _ => false

def eqK : Sc → Sc → Bool
  | .nils, .nils | .nilI, .nilI | .nilp, .nilp | .errI, .errI | .skip, .skip => true
  | .own a, .own b | .mp a, .mp b => Nat.beq a b
  | .ptr a i, .ptr b j => Nat.beq a b && Nat.beq i j
  | .fn f a, .fn g b => Nat.beq f g && eqCap a b
  | _, _ => false

/-- Names that a constant uses. -/
def capNames : List Cap → List Nat
  | [] => []
  | .ptr id :: r => id :: capNames r
  | _ :: r => capNames r

def kNames : Sc → List Nat
  | .own id | .mp id | .ptr id _ => [id]
  | .fn _ caps => capNames caps
  | _ => []

/-- A slice that is owned. -/
def ownedL (B : Nat → BS) (c : Cd) (id : Nat) : Option (List (El c)) :=
  match isLive B id with
  | true => listOf B c (.own id)
  | false => none

/-- What one argument brings. -/
@[reducible] def In1 : ASh → Type
  | .d c _ => El c
  | .own c => List (El c)
  | .ref c => List (El c)
  | .rbox c => El c
  | .clo _ caps => El (pairs caps)
  | .rp c => El c
  | .rag a e => El a × List (El e)
  | .k _ => Unit

def cons1 : (s : ASh) → {r : List ASh} → In1 s → Tup (acodes r) → Tup (acodes (s :: r))
  | .d c _, _, x, y => tcons (c := c) x y
  | .own c, _, x, y => tcons (c := .list c) x y
  | .ref c, _, x, y => tcons (c := .list c) x y
  | .rbox c, _, x, y => tcons (c := c) x y
  | .clo _ caps, _, x, y => tcons (c := pairs caps) x y
  | .rp c, _, x, y => tcons (c := c) x y
  | .rag a e, _, x, y => tcons (c := .pair a (.list e)) x y
  | .k _, _, _, y => y

def hd1 : (s : ASh) → {r : List ASh} → Tup (acodes (s :: r)) → In1 s
  | .d c _, r, x => thd (c := c) (r := acodes r) x
  | .own c, r, x => thd (c := .list c) (r := acodes r) x
  | .ref c, r, x => thd (c := .list c) (r := acodes r) x
  | .rbox c, r, x => thd (c := c) (r := acodes r) x
  | .clo _ caps, r, x => thd (c := pairs caps) (r := acodes r) x
  | .rp c, r, x => thd (c := c) (r := acodes r) x
  | .rag a e, r, x => thd (c := .pair a (.list e)) (r := acodes r) x
  | .k _, _, _ => ()

def tl1 : (s : ASh) → {r : List ASh} → Tup (acodes (s :: r)) → Tup (acodes r)
  | .d c _, r, x => ttl (c := c) (r := acodes r) x
  | .own c, r, x => ttl (c := .list c) (r := acodes r) x
  | .ref c, r, x => ttl (c := .list c) (r := acodes r) x
  | .rbox c, r, x => ttl (c := c) (r := acodes r) x
  | .clo _ caps, r, x => ttl (c := pairs caps) (r := acodes r) x
  | .rp c, r, x => ttl (c := c) (r := acodes r) x
  | .rag a e, r, x => ttl (c := .pair a (.list e)) (r := acodes r) x
  | .k _, _, x => x

/-- The owned name that an argument hands over, or the variable. -/
def nameT : T → Option Nat
  | .v (.one (.own id)) => some id
  | _ => none

def ptrT : T → Option Nat
  | .v (.one (.ptr id 0)) => some id
  | _ => none

/-- A variable that is only read. -/
def capOfT : T → Option Cap
  | .v (.one (.ptr id 0)) => some (.ptr id)
  | .v (.one (.pp org c x 0)) => some (.pp org c x)
  | _ => none

/-- A struct whose last cell is an owned slice. -/
def nameG (a : Cd) : T → Option (List Sc × Nat)
  | .v (.agg cs) => match cs.drop (csize a) with
    | [.own id] => some (cs.take (csize a), id)
    | _ => none
  | _ => none

def packG (B : Nat → BS) (a e : Cd) (p : List Sc × Nat) : Option (El a × List (El e)) :=
  match cflat a with
  | true => match decC B a p.1, ownedL B e p.2 with
    | some y, some xs => some (y, xs)
    | _, _ => none
  | false => none

def packT (B : Nat → BS) : (s : ASh) → T → Option (In1 s)
  | .d c agg, t => match t with
    | .v v => decArg B c agg v
    | _ => none
  | .own c, t => match nameT t with
    | some id => ownedL B c id
    | none => none
  | .ref c, t => match nameT t with
    | some id => ownedL B c id
    | none => none
  | .rbox c, t => match ptrT t with
    | some id => match boxOf B (.ptr id) with
      | some cs => decC B c cs
      | none => none
    | none => none
  | .clo f cs, t => match t with
    | .v (.one (.fn g caps)) => match Nat.beq f g with
      | true => decCaps B cs caps
      | false => none
    | _ => none
  | .rp c, t => match capOfT t with
    | some q => match boxOf B q with
      | some cs => decC B c cs
      | none => none
    | none => none
  | .rag a e, t => match nameG a t with
    | some p => packG B a e p
    | none => none
  | .k s, t => match t with
    | .v (.one s') => match eqK s s' && (kNames s).isEmpty with
      | true => some ()
      | false => none
    | _ => none

def packA (B : Nat → BS) : (as : List ASh) → List T → Option (Tup (acodes as))
  | [], [] => some ()
  | s :: r, t :: ts => match packT B s t, packA B r ts with
    | some x, some y => some (cons1 s x y)
    | _, _ => none
  | _, _ => none

def lentT : ASh → T → List Nat
  | .own _, t => (nameT t).toList
  | .ref _, t => (nameT t).toList
  | .rag a _, t => match nameG a t with
    | some p => [p.2]
    | none => []
  | .rbox _, t => (ptrT t).toList
  | _, _ => []

def lentA : List ASh → List T → List Nat
  | s :: r, t :: ts => lentT s t ++ lentA r ts
  | _, _ => []

/-- The owned slices that captured variables hold. -/
def capCont (B : Nat → BS) : List Cap → List Nat
  | [] => []
  | .ptr id :: r => (match B id with
    | .live (.box cs) => idsL cs
    | _ => []) ++ capCont B r
  | .pp _ _ _ :: r => capCont B r

def capBox : List Cap → List Nat
  | [] => []
  | .ptr id :: r => id :: capBox r
  | .pp _ _ _ :: r => capBox r

/-- The owned slices that an argument's data name. -/
def seenT (B : Nat → BS) : ASh → T → List Nat
  | .d _ _, t => match t with
    | .v v => idsL v.cells
    | _ => []
  | .rbox _, t => match ptrT t with
    | some id => match B id with
      | .live (.box cs) => idsL cs
      | _ => []
    | none => []
  | .clo _ _, t => match t with
    | .v (.one (.fn _ caps)) => capCont B caps
    | _ => []
  | .rp _, t => match capOfT t with
    | some q => capCont B [q]
    | none => []
  | _, _ => []

def boxT : ASh → T → List Nat
  | .clo _ _, t => match t with
    | .v (.one (.fn _ caps)) => capBox caps
    | _ => []
  | .rp _, t => match capOfT t with
    | some q => capBox [q]
    | none => []
  | _, _ => []

def seenA (B : Nat → BS) : List ASh → List T → List Nat
  | s :: r, t :: ts => seenT B s t ++ (boxT s t ++ seenA B r ts)
  | _, _ => []

/-- What a result, or what was lent, may still look at: nobody writes it any more. -/
def keptT (B : Nat → BS) (mask p : Nat) (s : ASh) (t : T) : List Nat :=
  match s with
  | .rbox _ => seenT B s t
  | _ => cond (mask.testBit p) (seenT B s t) []

def keptA (B : Nat → BS) (mask : Nat) : Nat → List ASh → List T → List Nat
  | p, s :: r, t :: ts => keptT B mask p s t ++ keptA B mask (p + 1) r ts
  | _, _, _ => []

def maskR (rs : List RSh) : Nat := rs.foldl (fun m r => m ||| r.org) 0

def orgT (B : Nat → BS) : ASh → T → Nat
  | .clo _ _, t => match t with
    | .v (.one (.fn _ caps)) => capOrg B caps
    | _ => 0
  | .rp _, t => match capOfT t with
    | some q => capOrg B [q]
    | none => 0
  | .rbox _, t => match ptrT t with
    | some id => match B id with
      | .live (.box cs) => orgL B cs
      | _ => 0
    | none => 0
  | .rag a _, t => match nameG a t with
    | some p => orgL B [.own p.2]
    | none => 0
  | _, t => match t with
    | .v v => orgL B v.cells
    | _ => 0

def orgA (B : Nat → BS) : List ASh → List T → List Nat
  | s :: r, t :: ts => orgT B s t :: orgA B r ts
  | _, _ => []

def nodupB : List Nat → Bool
  | [] => true
  | a :: r => !(r.contains a) && nodupB r

def apartB (a b : List Nat) : Bool := a.all fun x => !(b.contains x)

/-- The caller's view of where a result's slices come from. -/
def orgR (mask : Nat) : Nat → List Nat → Nat
  | _, [] => 0
  | n, o :: r => (cond (mask.testBit n) o 0) ||| orgR mask (n + 1) r

def nlist : Cd → Nat
  | .list _ => 1
  | .pair a b => nlist a + nlist b
  | _ => 0

def impC (own : Option Nat) (org : Nat) : (c : Cd) → El c → List Sc × List (Nat × BS)
  | .list c, xs => match own with
    | some id => match cflat c && Nat.ble 1 (csize c) with
      | true => ([.own id], [(id, .live (.vec 0 c xs))])
      | false => ([.ps org c xs], [])
    | none => ([.ps org c xs], [])
  | .pair a b, x => ((impC own org a x.1).1 ++ (impC own org b x.2).1, (impC own org a x.1).2 ++ (impC own org b x.2).2)
  | .i k, x => (scells org (.i k) x, [])
  | .bool, x => (scells org .bool x, [])
  | .str, x => (scells org .str x, [])
  | .unit, x => (scells org .unit x, [])

def impR (own : Option Nat) (orgs : List Nat) : (rs : List RSh) → {as : List ASh} → Tup (rcodes rs as) → List Val × List (Nat × BS)
  | [], _, _ => ([], [])
  | r :: rs, as, x =>
    (mkVal r.agg (impC own (orgR r.org 0 orgs) r.c (thd (r := rcodes rs as) x)).1 :: (impR own orgs rs (as := as) (ttl (r := rcodes rs as) x)).1,
      (impC own (orgR r.org 0 orgs) r.c (thd (r := rcodes rs as) x)).2 ++ (impR own orgs rs (as := as) (ttl (r := rcodes rs as) x)).2)

def outR : (rs : List RSh) → {as : List ASh} → Tup (rcodes rs as) → Tup (outs as)
  | [], _, x => x
  | _ :: rs, as, x => outR rs (as := as) (ttl (r := rcodes rs as) x)

@[reducible] def Out1 : ASh → Type
  | .ref c => List (El c)
  | .rag _ e => List (El e)
  | .rbox c => El c
  | _ => Unit

def ohd : (s : ASh) → {r : List ASh} → Tup (outs (s :: r)) → Out1 s
  | .ref c, r, x => thd (c := .list c) (r := outs r) x
  | .rag _ e, r, x => thd (c := .list e) (r := outs r) x
  | .rbox c, r, x => thd (c := c) (r := outs r) x
  | .d _ _, _, _ => ()
  | .own _, _, _ => ()
  | .clo _ _, _, _ => ()
  | .rp _, _, _ => ()
  | .k _, _, _ => ()

def otl : (s : ASh) → {r : List ASh} → Tup (outs (s :: r)) → Tup (outs r)
  | .ref c, r, x => ttl (c := .list c) (r := outs r) x
  | .rag _ e, r, x => ttl (c := .list e) (r := outs r) x
  | .rbox c, r, x => ttl (c := c) (r := outs r) x
  | .d _ _, _, x => x
  | .own _, _, x => x
  | .clo _ _, _, x => x
  | .rp _, _, x => x
  | .k _, _, x => x

/-- What a call does to what it was lent. -/
def effT : (s : ASh) → T → Nat → Out1 s → List (Nat × BS)
  | .own _, t, _, _ => match nameT t with
    | some id => [(id, .dead)]
    | none => []
  | .ref c, t, o, x => match nameT t with
    | some id => [(id, .live (.vec o c x))]
    | none => []
  | .rbox c, t, o, x => match ptrT t with
    | some id => [(id, .live (.box (scells o c x)))]
    | none => []
  | .rag a e, t, o, x => match nameG a t with
    | some p => [(p.2, .live (.vec o e x))]
    | none => []
  | _, _, _, _ => []

def effA : (as : List ASh) → List T → List Nat → Tup (outs as) → List (Nat × BS)
  | s :: r, t :: ts, o :: os, x => effT s t o (ohd s x) ++ effA r ts os (otl s x)
  | _, _, _, _ => []

def ownId (d : Nat) (rs : List RSh) (as : List ASh) : Option Nat :=
  match rs.foldl (fun n r => n + nlist r.c) 0, rs.all (fun r => Nat.beq r.org 0) && as.all (fun
    | .ref c => cflat c
    | .rag _ c => cflat c
    | .rbox c => cflat c
    | _ => true) with
  | 1, true => some (8 * d)
  | _, _ => none

def resT : List Val → T
  | [v] => .v v
  | vs => .tup vs

def freshAll (B : Nat → BS) : List (Nat × BS) → Bool
  | [] => true
  | (id, _) :: r => (match B id with
    | .fresh => true
    | _ => false) && freshAll B r

section
variable (E : Env) (run : Orc) {R : Type}

def callWith (B : Nat → BS) (d : Nat) (gf : FuncId) (args : List T) (k : T → List (Nat × BS) → Option R) : List FI → Option R
  | [] => none
  | i :: r => match packA B i.as args with
    | some x =>
      if Nat.beq i.f gf && nodupB (lentA i.as args) && apartB (lentA i.as args) (seenA B i.as args) then
        (run (.fn i) x).bind fun y =>
          if freshAll B (impR (ownId d i.rs i.as) (orgA B i.as args) i.rs y).2 then
            k (resT (impR (ownId d i.rs i.as) (orgA B i.as args) i.rs y).1)
              (frzL B (keptA B (maskR i.rs) 0 i.as args) ++ (effA i.as args (orgA B i.as args) (outR i.rs y) ++ (impR (ownId d i.rs i.as) (orgA B i.as args) i.rs y).2))
          else none
      else none
    | none => callWith B d gf args k r

/-- Every operation: its value, and what it does to memory. -/
def opK (B : Nat → BS) (tm : Nat → T) (o : Oper) (k : T → List (Nat × BS) → Option R) : Option R :=
  match o.op with
  | .call { callee := .value f, args, .. } => match evalO tm f with
    | .v (.one (.fn g caps)) => callWith run B (o.dst.getD 0) g (args.toList.map (evalO tm) ++ caps.map capT) k (E.fi g)
    | _ => none
  | _ => semK E B tm o k

/-- The value goes to its place; an answer yes or no parts the way. -/
def putK (st : St) (dst : Option Tmp) (t : T) (k : St → Option R) : Option R :=
  match dst, t with
  | some d, .v (.one (.bool b)) => cond b (k { st with tm := upd st.tm d (one (.bool true)) }) (k { st with tm := upd st.tm d (one (.bool false)) })
  | _, _ => k (st.put dst t)

def wantedK (ops : Array Oper) (tm : Nat → T) (o : Oper) (ky kn : Option R) : Option R :=
  match o.guard with
  | none => ky
  | some (j, want) => match (ops[j]?).bind (·.dst) with
    | some d => match tm d with
      | .v (.one (.bool b)) => cond b (cond want ky kn) (cond want kn ky)
      | .v (.one .skip) => kn
      | _ => none
    | none => none

def opsK (ops : Array Oper) : List Oper → St → (St → Option R) → Option R
  | [], st, k => k st
  | o :: r, st, k => wantedK ops st.tm o
      (opK E run st.bk st.tm o fun t d => putK { st with bk := applyB st.bk d } o.dst t fun st' => opsK ops r st' k)
      (opsK ops r (st.put o.dst (one .skip)) k)

/-! A region whose order is open. -/

def cls (o : Op) : Nat :=
  match o with
  | .move _ | .assign _ | .pick .. | .build .. | .field .. | .fieldAddr .. | .binOp .. | .unOp .. | .extract .. | .makeFunc .. | .nilCheck _ | .index .. => 0
  | .store .. => 3
  | .mapUpdate .. | .insert .. => 2
  | .call { callee := .builtin .len, .. } => 1
  | .call { callee := .builtin .max, .. } | .call { callee := .builtin .min, .. } => 0
  | .call { callee := .builtin .append, .. } => 3
  | .call { callee := .builtin _, .. } => 2
  | .call { callee := .value (.func f), .. } => cond (E.mutF.contains f) 2 1
  | _ => 1

/-- The tmps whose names an operation may make or give up. -/
def tchs (o : Oper) : List Nat :=
  match o.op with
  | .call { callee := .builtin .append, args, .. } => o.dst.toList ++ (match (args.toList : List Operand) with
    | .tmp u :: _ => [u]
    | _ => [])
  | .store _ (.tmp u) _ => u :: o.dst.toList
  | _ => o.dst.toList

/-- The operation only touches names of these tmps. -/
def onlyT (xs : List Nat) (d : List (Nat × BS)) : Bool := d.all fun p => xs.contains (p.1 / 8)

/-- The operation only makes what bears its own name. -/
def onlyNew (dst : Nat) (B : Nat → BS) : List (Nat × BS) → Bool
  | [] => true
  | (id, .live _) :: r => Nat.beq (id / 8) dst && (match B id with
    | .fresh => true
    | _ => false) && onlyNew dst B r
  | _ => false

/-- What an operation that is ordered against 'bs' (the operations ahead of it) must not look at: the names that the others make. -/
def restr (xs : List Nat) (B : Nat → BS) : Nat → BS := fun id => cond (xs.contains (id / 8)) .dead (B id)

/-- What an operation is let see of memory, by its class. -/
def viewB (c : Nat) (xs : List Nat) (B : Nat → BS) : Nat → BS := match c with
  | 0 => fun _ => .dead
  | _ => restr xs B

def effOk (c : Nat) (dst : Option Tmp) (xs : List Nat) (solo : Bool) (B : Nat → BS) (d : List (Nat × BS)) : Bool := match c with
  | 0 => d.isEmpty
  | 3 => solo || onlyT xs d
  | 1 => onlyNew (dst.getD 0) B d && (dst.isSome || d.isEmpty)
  | _ => true

/-- The operations that stand ahead of each, as bits. -/
def bef1 (acc : List Nat) (o : Oper) : Nat := o.after.toList.foldl (fun s e => match Region.binds .any e with
  | true => s ||| 2 ^ e.on ||| acc.getD e.on 0
  | false => s) 0

def befs : List Nat → List Oper → List Nat
  | acc, [] => acc
  | acc, o :: r => befs (acc ++ [bef1 acc o]) r

def unord (b : List Nat) (i j : Nat) : Bool := !((b.getD j 0).testBit i) && !((b.getD i 0).testBit j)

def others (ops : List Oper) (b : List Nat) (i : Nat) : List Nat :=
  (ops.zipIdx.filter fun p => !(Nat.beq p.2 i) && unord b i p.2).flatMap fun p => tchs p.1

/-- Whatever has no order against the operation neither reads nor writes. -/
def soloB (ops : List Oper) (b : List Nat) (i : Nat) : Bool := ops.zipIdx.all fun q => Nat.beq q.2 i || !(unord b i q.2) || Nat.beq (cls E q.1.op) 0

def regOk (ops : Array Oper) (b : List Nat) : Bool :=
  (ops.toList.zipIdx.all fun p => p.1.after.toList.all fun e => match Region.binds .any e with
    | true => Nat.blt e.on p.2
    | false => true) &&
  ops.toList.zipIdx.all fun p => ops.toList.zipIdx.all fun q =>
    Nat.ble q.2 p.2 || !(unord b p.2 q.2) ||
      (p.1.apart ops q.1 && q.1.apart ops p.1 && !(Nat.beq (cls E p.1.op) 2 && !(Nat.beq (cls E q.1.op) 0)) && !(Nat.beq (cls E q.1.op) 2 && !(Nat.beq (cls E p.1.op) 0)) && apartB (tchs p.1) (tchs q.1))

def opsD (ops : Array Oper) (b : List Nat) : Nat → List Oper → St → (St → Option R) → Option R
  | _, [], st, k => k st
  | n, o :: r, st, k => wantedK ops st.tm o
      (opK E run (viewB (cls E o.op) (others ops.toList b n) st.bk) st.tm o fun t d =>
        if effOk (cls E o.op) o.dst (tchs o) (soloB E ops.toList b n) (viewB (cls E o.op) (others ops.toList b n) st.bk) d then
          putK { st with bk := applyB st.bk d } o.dst t fun st' => opsD ops b (n + 1) r st' k
        else none)
      (opsD ops b (n + 1) r (st.put o.dst (one .skip)) k)

/-! ### States at loops -/

/-- Before anything is made: parameters' own names are never made anew. -/
def bk0 : Nat → BS := fun id => cond (Nat.beq (id % 8) 5) .dead .fresh


def boxSet (B : Nat → BS) (id j : Nat) (s : Sc) : Nat → BS :=
  match B id with
  | .live (.box cs) => upd B id (.live (.box (cs.set j s)))
  | _ => B

def headS (cs : List Sc) : Sc := match cs with
  | [s] => s
  | _ => .und

def capsC (org : Nat) : (cs : List Cd) → El (pairs cs) → List Cap
  | [], _ => []
  | [c], x => [.pp org c x]
  | c :: d :: r, x => .pp org c x.1 :: capsC org (d :: r) x.2

def mkS : (is : List It) → Tup (icodes is) → St
  | [], _ => { tm := fun _ => one .und, bk := bk0 }
  | .sl t org agg c :: r, x =>
    let st := mkS r (ttl (c := c) (r := icodes r) x)
    { st with tm := upd st.tm t (.v (mkVal agg (scells org c (thd (r := icodes r) x)))) }
  | .so t org c :: r, x =>
    let st := mkS r (ttl (c := .list c) (r := icodes r) x)
    { tm := upd st.tm t (one (.own (8 * t + 7))), bk := upd st.bk (8 * t + 7) (.live (.vec org c (thd (c := .list c) (r := icodes r) x))) }
  | .sk t s :: r, x => let st := mkS r x; { st with tm := upd st.tm t (one s) }
  | .cl t f org caps :: r, x =>
    let st := mkS r (ttl (c := pairs caps) (r := icodes r) x)
    { st with tm := upd st.tm t (one (.fn f (capsC org caps (thd (c := pairs caps) (r := icodes r) x)))) }
  | .rp t org c :: r, x =>
    let st := mkS r (ttl (c := c) (r := icodes r) x)
    { st with tm := upd st.tm t (one (.pp org c (thd (r := icodes r) x) 0)) }
  | .bx id n :: r, x => let st := mkS r x; { st with bk := upd st.bk id (.live (.box (List.replicate n .und))) }
  | .bd id j org c :: r, x =>
    let st := mkS r (ttl (c := c) (r := icodes r) x)
    { st with bk := boxSet st.bk id j (headS (scells org c (thd (r := icodes r) x))) }
  | .bo id j org c :: r, x =>
    let st := mkS r (ttl (c := .list c) (r := icodes r) x)
    { st with bk := upd (boxSet st.bk id j (.own (8 * (id * 64 + j) + 6))) (8 * (id * 64 + j) + 6) (.live (.vec org c (thd (c := .list c) (r := icodes r) x))) }
  | .bk id j s :: r, x => let st := mkS r x; { st with bk := boxSet st.bk id j s }
  | .vc id org c :: r, x =>
    let st := mkS r (ttl (c := .list c) (r := icodes r) x)
    { st with bk := upd st.bk id (.live (.vec org c (thd (c := .list c) (r := icodes r) x))) }
  | .mp id kc vc :: r, x =>
    let st := mkS r (ttl (c := .list (.pair kc vc)) (r := icodes r) x)
    { st with bk := upd st.bk id (.live (.mp kc vc (thd (c := .list (.pair kc vc)) (r := icodes r) x))) }

def cellAt (st : St) (id j : Nat) : Option Sc :=
  match st.bk id with
  | .live (.box cs) => cs[j]?
  | _ => none

def packS1 : (is : List It) → St → Option (Tup (icodes is))
  | [], _ => some ()
  | .sl t org agg c :: r, st => match st.tm t with
    | .v v => if orgLe (orgL st.bk v.cells) org then
        match decArg st.bk c agg v, packS1 r st with
        | some x, some y => some (tcons x y)
        | _, _ => none
      else none
    | _ => none
  | .so t org c :: r, st => match st.tm t with
    | .v (.one (.own id)) => if orgLe (orgS st.bk (.own id)) org then
        match ownedL st.bk c id, packS1 r st with
        | some x, some y => some (tcons (c := .list c) x y)
        | _, _ => none
      else none
    | .v (.one .nils) => match packS1 r st with
      | some y => some (tcons (c := .list c) (r := icodes r) ([] : List (El c)) y)
      | none => none
    | _ => none
  | .sk t s :: r, st => match st.tm t with
    | .v (.one s') => if eqK s s' then packS1 r st else none
    | _ => none
  | .cl t f org caps :: r, st => match st.tm t with
    | .v (.one (.fn g cs)) => if Nat.beq f g && ((capBox cs).isEmpty && orgLe (capOrg st.bk cs) org) then
        match decCaps st.bk caps cs, packS1 r st with
        | some x, some y => some (tcons (c := pairs caps) x y)
        | _, _ => none
      else none
    | _ => none
  | .rp t org c :: r, st => match st.tm t with
    | .v (.one (.pp o c' x 0)) => if orgLe o org then
        match decC st.bk c (scells o c' x), packS1 r st with
        | some x, some y => some (tcons x y)
        | _, _ => none
      else none
    | _ => none
  | .bx id n :: r, st => match st.bk id with
    | .live (.box cs) => if Nat.beq cs.length n then packS1 r st else none
    | _ => none
  | .bd id j org c :: r, st => match cellAt st id j with
    | some s => if orgLe (orgL st.bk [s]) org then
        match decC st.bk c [s], packS1 r st with
        | some x, some y => some (tcons x y)
        | _, _ => none
      else none
    | none => none
  | .bo id j org c :: r, st => match cellAt st id j with
    | some (.own i) => if orgLe (orgS st.bk (.own i)) org then
        match ownedL st.bk c i, packS1 r st with
        | some x, some y => some (tcons (c := .list c) x y)
        | _, _ => none
      else none
    | some .nils => match packS1 r st with
      | some y => some (tcons (c := .list c) (r := icodes r) ([] : List (El c)) y)
      | none => none
    | _ => none
  | .bk id j s :: r, st => match cellAt st id j with
    | some s' => if eqK s s' then packS1 r st else none
    | none => none
  | .vc id org c :: r, st => if orgLe (orgS st.bk (.own id)) org then
      match ownedL st.bk c id, packS1 r st with
      | some x, some y => some (tcons (c := .list c) x y)
      | _, _ => none
    else none
  | .mp id kc vc :: r, st => match st.bk id with
    | .live (.mp kc' vc' es) => if h : kc' = kc ∧ vc' = vc then
        match packS1 r st with
        | some y => some (tcons (c := .list (.pair kc vc)) (castL (c := .pair kc vc) (c' := .pair kc' vc') (by rw [h.1, h.2]) es) y)
        | none => none
      else none
    | _ => none

/-- Owned slices that a shape takes over, by name in the old state. -/
def tookS (st : St) : List It → List Nat
  | [] => []
  | .so t _ _ :: r => (match st.tm t with
    | .v (.one (.own id)) => [id]
    | _ => []) ++ tookS st r
  | .bo id j _ _ :: r => (match cellAt st id j with
    | some (.own i) => [i]
    | _ => []) ++ tookS st r
  | .vc id _ _ :: r => id :: tookS st r
  | .bx id _ :: r => id :: tookS st r
  | .mp id _ _ :: r => id :: tookS st r
  | _ :: r => tookS st r

def seenS (st : St) : List It → List Nat
  | [] => []
  | .sl t _ _ _ :: r => (match st.tm t with
    | .v v => idsL v.cells
    | _ => []) ++ seenS st r
  | .bd id j _ _ :: r => (match cellAt st id j with
    | some s => idsL [s]
    | none => []) ++ seenS st r
  | _ :: r => seenS st r

def usesI : List It → List Nat
  | [] => []
  | .sk _ s :: r => kNames s ++ usesI r
  | .bk _ _ s :: r => kNames s ++ usesI r
  | _ :: r => usesI r

def keepsI : List It → List Nat
  | [] => []
  | .bx id _ :: r => id :: keepsI r
  | .vc id _ _ :: r => id :: keepsI r
  | .mp id _ _ :: r => id :: keepsI r
  | _ :: r => keepsI r

def makesI : List It → List Nat
  | [] => []
  | .so t _ _ :: r => (8 * t + 7) :: makesI r
  | .bo id j _ _ :: r => (8 * (id * 64 + j) + 6) :: makesI r
  | .bx id _ :: r => id :: makesI r
  | .vc id _ _ :: r => id :: makesI r
  | .mp id _ _ :: r => id :: makesI r
  | _ :: r => makesI r

/-- Box cells are filled in behind their box (the list is read from its end). -/
def boxesOk : List It → Bool
  | [] => true
  | .bd id _ _ _ :: r | .bo id _ _ _ :: r | .bk id _ _ :: r => (keepsI r).contains id && boxesOk r
  | _ :: r => boxesOk r

def packS (is : List It) (st : St) : Option (Tup (icodes is)) :=
  if nodupB (tookS st is) && apartB (tookS st is) (seenS st is) && (usesI is).all (fun id => (keepsI is).contains id) && nodupB (makesI is) && boxesOk is then packS1 is st else none

def packX : (ex : Exs) → Ex → St → Option (ExT ex)
  | [], _, _ => none
  | [(e, s)], e', st => if e = e' then packS s st else none
  | (e, s) :: d :: r, e', st => match (if e = e' then packS s st else none) with
    | some x => some (.inl x)
    | none => match packX (d :: r) e' st with
      | some y => some (.inr y)
      | none => none

def unX : (ex : Exs) → ExT ex → (Ex → St → Option R) → Option R
  | [], _, _ => none
  | [(e, s)], x, k => k e (mkS s x)
  | (e, s) :: d :: r, x, k => match x with
    | .inl x => k e (mkS s x)
    | .inr y => unX (d :: r) y k

def tryH (f n : Nat) (ex : Exs) (st : St) (k : ExT ex → Option R) : List (List It) → Option R
  | [] => none
  | h :: r => match packS h st with
    | some x => (run (.lp f n ex h) x).bind k
    | none => tryH f n ex st k r

/-! ### Code -/

def nloops : Code → Nat
  | .seq a b => nloops a + nloops b
  | .cond _ a b => nloops a + nloops b
  | .block _ c => nloops c
  | .loop c => nloops c + 1
  | _ => 0

def loopAt : Code → Nat → Option Code
  | .seq a b, n => if n < nloops a then loopAt a n else loopAt b (n - nloops a)
  | .cond _ a b, n => if n < nloops a then loopAt a n else loopAt b (n - nloops a)
  | .block _ c, n => loopAt c n
  | .loop c, n => match n with
    | 0 => some c
    | m + 1 => loopAt c m
  | _, _ => none

def codeK (f : Nat) : Nat → Code → St → (Ex → St → Option R) → Option R
  | _, .skip, st, k => k .nrm st
  | _, .region _ ops draw, st, k => match draw with
    | false => opsK E run ops ops.toList st (k .nrm)
    | true => if E.P.follows .mixedOrders && regOk E ops (befs [] ops.toList) then opsD E run ops (befs [] ops.toList) 0 ops.toList st (k .nrm) else none
  | n, .seq a b, st, k => codeK f n a st fun e st' => match e with
    | .nrm => codeK f (n + nloops a) b st' k
    | e => k e st'
  | n, .cond c a b, st, k => match evalO st.tm c with
    | .v (.one (.bool q)) => cond q (codeK f n a st k) (codeK f (n + nloops a) b st k)
    | _ => none
  | n, .block id c, st, k => codeK f n c st fun e st' => match e with
    | .exit j => if j = id then k .nrm st' else k (.exit j) st'
    | e => k e st'
  | n, .loop _, st, k => tryH run f n (E.exits f n) st (fun y => unX (E.exits f n) y k) (E.heads f n)
  | _, .exit id, st, k => k (.exit id) st
  | _, .ret, st, k => k .ret st
  | _, .label _, st, k => k .nrm st
  | _, _, _, _ => none

/-! ### Calls -/

/-- One argument, as the callee finds it. -/
def putA (p : Nat) (st : St) : (s : ASh) → In1 s → St
  | .d c agg, x => { st with tm := upd st.tm p (.v (mkVal agg (scells (2 ^ p) c x))) }
  | .own c, x => { tm := upd st.tm p (one (.own (8 * p + 5))), bk := upd st.bk (8 * p + 5) (.live (.vec (cond (cflat c) 0 (2 ^ p)) c x)) }
  | .ref c, x => { tm := upd st.tm p (one (.own (8 * p + 5))), bk := upd st.bk (8 * p + 5) (.live (.vec (2 ^ p) c x)) }
  | .rbox c, x => { tm := upd st.tm p (one (.ptr (8 * p + 5) 0)), bk := upd st.bk (8 * p + 5) (.live (.box (scells (2 ^ p) c x))) }
  | .clo f caps, x => { st with tm := upd st.tm p (one (.fn f (capsC (2 ^ p) caps x))) }
  | .rp c, x => { st with tm := upd st.tm p (one (.pp (2 ^ p) c x 0)) }
  | .rag a e, x => { tm := upd st.tm p (.v (.agg (scells (2 ^ p) a x.1 ++ [.own (8 * p + 5)]))), bk := upd st.bk (8 * p + 5) (.live (.vec (2 ^ p) e x.2)) }
  | .k s, _ => { st with tm := upd st.tm p (one s) }

def mkA : Nat → (as : List ASh) → Tup (acodes as) → St
  | _, [], _ => { tm := fun _ => one .und, bk := bk0 }
  | p, s :: r, x => putA p (mkA (p + 1) r (tl1 s x)) s (hd1 s x)

/-- A result's value behind the body. -/
def resV (st : St) : ResultVar → Option Val
  | .tmp t => match st.tm t with
    | .v v => some v
    | _ => none
  | .cell a t => match st.tm a, isAggT E.P t, szT E.P t with
    | .v (.one (.ptr id 0)), some agg, some sz => match st.bk id with
      | .live (.box cs) => match agg with
        | true => if sz ≤ cs.length then some (.agg (cs.take sz)) else none
        | false => match cs[0]? with
          | some s => some (.one s)
          | none => none
      | _ => none
    | _, _, _ => none

def packO (st : St) : Nat → (as : List ASh) → Option (Tup (outs as))
  | _, [] => some ()
  | p, .ref c :: r => if orgLe (orgS st.bk (.own (8 * p + 5))) (2 ^ p) then
      match ownedL st.bk c (8 * p + 5), packO st (p + 1) r with
      | some x, some y => some (tcons (c := .list c) x y)
      | _, _ => none
    else none
  | p, .rbox c :: r => match st.bk (8 * p + 5) with
    | .live (.box cs) => if orgLe (orgL st.bk cs) (2 ^ p) then
        match decC st.bk c cs, packO st (p + 1) r with
        | some x, some y => some (tcons x y)
        | _, _ => none
      else none
    | _ => none
  | p, .rp _ :: r => packO st (p + 1) r
  | p, .rag _ c :: r => if orgLe (orgS st.bk (.own (8 * p + 5))) (2 ^ p) then
      match ownedL st.bk c (8 * p + 5), packO st (p + 1) r with
      | some x, some y => some (tcons (c := .list c) x y)
      | _, _ => none
    else none
  | p, .d _ _ :: r => packO st (p + 1) r
  | p, .own _ :: r => packO st (p + 1) r
  | p, .clo _ _ :: r => packO st (p + 1) r
  | p, .k _ :: r => packO st (p + 1) r

def packR (st : St) : List ResultVar → (rs : List RSh) → (as : List ASh) → Option (Tup (rcodes rs as))
  | [], [], as => packO st 0 as
  | v :: vs, r :: rs, as => match resV E st v with
    | some x => if orgLe (orgL st.bk x.cells) r.org then
        match decArg st.bk r.c r.agg x, packR st vs rs as with
        | some y, some z => some (tcons (r := rcodes rs as) y z)
        | _, _ => none
      else none
    | none => none
  | _, _, _ => none

/-- What the caller goes on owning. -/
def refIds : Nat → List ASh → List Nat
  | _, [] => []
  | p, .ref _ :: r => (8 * p + 5) :: refIds (p + 1) r
  | p, .rag _ _ :: r => (8 * p + 5) :: refIds (p + 1) r
  | p, .rbox _ :: r => (8 * p + 5) :: refIds (p + 1) r
  | p, _ :: r => refIds (p + 1) r

def idsR (st : St) : List ResultVar → List Nat
  | [] => []
  | v :: r => (match resV E st v with
    | some x => idsL x.cells
    | none => []) ++ idsR st r

def idsB (st : St) : Nat → List ASh → List Nat
  | _, [] => []
  | p, .rbox _ :: r => (match st.bk (8 * p + 5) with
    | .live (.box cs) => idsL cs
    | _ => []) ++ idsB st (p + 1) r
  | p, _ :: r => idsB st (p + 1) r

def finR (st : St) (vs : List ResultVar) (rs : List RSh) (as : List ASh) : Option (Tup (rcodes rs as)) :=
  if apartB (idsR E st vs ++ idsB st 0 as) (refIds 0 as) then packR E st vs rs as else none

/-- One step: what a call or a loop comes to, given what those within come to. -/
def stp : Orc
  | .fn i, x => match E.P.funcs[i.f]? with
    | some fn => match fn.body with
      | some c => codeK E run i.f 0 c (mkA 0 i.as x) fun e st => match e with
        | .nrm => finR E st fn.results.toList i.rs i.as
        | .ret => finR E st fn.results.toList i.rs i.as
        | _ => none
      | none => none
    | none => none
  | .lp f n ex h, x => match (E.P.funcs[f]?).bind (·.body) with
    | some c => match loopAt c n with
      | some b => codeK E run f (n + 1) b (mkS h x) fun e st => match e with
        | .nrm => tryH run f n ex st some (E.heads f n)
        | e => packX ex e st
      | none => none
    | none => none

end
end Ai
end Go.Proofs.Ytpknhlnoaehffaa
