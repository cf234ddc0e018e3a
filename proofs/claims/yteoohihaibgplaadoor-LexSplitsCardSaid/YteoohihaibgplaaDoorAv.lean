/-
  Abstract values and resolved code: what a program's code does to plain data, without blocks, capacities and draws. (Definitions, and the translation of the program's code.)
-/
import Derived.Test.YteoohihaibgplaaDoorMem
namespace Go.AV
open Go.RowKit Go.RG

/-- a place: of a frame's own (the site that laid it, how often it had), or an object on the heap -/
inductive Key where
  | l (d c : Nat)
  | h (o : Nat)
  deriving DecidableEq

/-- how the record of a range over a function stands -/
inductive LS where
  | ready
  | busy
  | ret
  | exit (id : Nat)

inductive AV where
  | bl (b : Bool)
  | it (k : IntKind) (n : Int)
  | st (s : List UInt8)
  | agg (cs : List AV)
  | tup (vs : List AV)
  | sl (z : Bool) (n : Nat) (xs : List AV)
  | gs (k : Key) (n : Nat)
  | nptr
  | pt (k : Key) (off : Nat)
  | ep (xs : List AV) (off : Nat)
  | fn (f : Fn) (first cap : List AV)
  | nfn
  | un
  | yld (o : Nat)
  | rcd (ps : Array Tmp) (asg body : Code) (j : LS)

/-- what lies at a place: elements of type e, sz cells each -/
structure Blk where
  e : TypeId
  sz : Nat
  cells : List AV

def AV.cells : AV → List AV
  | .agg cs => cs
  | v => [v]

def AV.one : AV → Bool
  | .agg _ | .tup _ | .un | .rcd .. => false
  | _ => true

/-- a constant of the code -/
def cst1 : Value → Option AV
  | .bool b => some (.bl b)
  | .int k n => some (.it k n)
  | .string s => some (.st s.data.toList)
  | .slice none 0 0 => some (.sl true 0 [])
  | .pointer none => some .nptr
  | .nilFunc => some .nfn
  | _ => none
def cstL : List Value → Option (List AV)
  | [] => some []
  | v :: r => match cst1 v, cstL r with
    | some u, some us => some (u :: us)
    | _, _ => none
def cst : Value → Option AV
  | .agg cs => (cstL cs.toList).map AV.agg
  | v => cst1 v

inductive AOpd where
  | t (n : Nat)
  | c (v : AV)

inductive AOp where
  | mv (x : AOpd)
  | pick (c a b : AOpd)
  | box (e sz : Nat) (x : AOpd)
  | bld (zero : List AV) (parts : List (Nat × Nat × AOpd))
  | bsl (e sz len : Nat) (zero : List AV) (parts : List (Nat × Nat × AOpd))
  | ld (g : Bool) (sz : Nat) (a : AOpd)
  | sto (sz : Nat) (a v : AOpd)
  | nck (x : AOpd)
  | bin (op : BinOp) (x y : AOpd)
  | eq (neg : Bool) (kind : Nat) (x y : AOpd)
  | eqs (neg : Bool) (kinds : List Nat) (x y : AOpd)
  | un (op : UnOp) (x : AOpd)
  | cvi (k : IntKind) (x : AOpd)
  | cvs (x : AOpd)
  | b2s (x : AOpd)
  | s2b (e : Nat) (x : AOpd)
  | mks (e sz bytes : Nat) (zero : List AV) (len cap : AOpd)
  | sls (x : AOpd) (lo hi : Option AOpd)
  | sll (sz : Nat) (x : AOpd) (lo hi : Option AOpd)
  | fad (off : Nat) (x : AOpd)
  | fld (g : Bool) (off sz : Nat) (x : AOpd)
  | iad (sz : Nat) (x i : AOpd)
  | iada (len sz : Nat) (x i : AOpd)
  | idxs (x i : AOpd)
  | idxa (g : Bool) (len sz : Nat) (x i : AOpd)
  | ext (x : AOpd) (i : Nat)
  | lens (x : AOpd)
  | len (x : AOpd)
  | mnx (mx : Bool) (xs : List AOpd)
  | app (e sz bytes : Nat) (s x : AOpd)
  | apps (e : Nat) (s x : AOpd)
  | mkf (fn : Fn) (first cap : List AOpd)
  | call (f : FuncId) (args : List AOpd)
  | calv (x : AOpd) (args : List AOpd)

/-- an operation: its slot, the slot that it is guarded by, what it does -/
structure AO where
  dst : Option Nat
  guard : Option (Nat × Bool)
  op : AOp

inductive ACode where
  | skip
  | ops (l : List AO)
  | drw (l : List (AO × List Nat))
  | seq (a b : ACode)
  | cond (c : AOpd) (t e : ACode)
  | block (id : Nat) (b : ACode)
  | loop (b : ACode)
  | exit (id : Nat)
  | ret
  | rng (N : Nat) (g : AOpd) (ps : Array Tmp) (asg body : Code)

/-! ### the translation -/
/-- package-level variables that are as their text lays them -/
def gTabs : List (String × List AV) := [("internal/strconv.uint64pow10", [1, 10, 100, 1000, 10000, 100000, 1000000, 10000000, 100000000, 1000000000, 10000000000, 100000000000, 1000000000000, 10000000000000, 100000000000000, 1000000000000000, 10000000000000000, 100000000000000000, 1000000000000000000, 10000000000000000000].map (AV.it .u64)),
  ("regrater/lex.signs", [[60, 62], [60, 61], [62, 61], [124, 124], [40], [41], [44], [46], [42], [43], [45], [47], [37], [61], [60], [62]].map (AV.st))]
/-- variables that hold some error, whichever -/
def gErrs : List String := ["strconv.ErrRange"]
def gOfL (P : Program) (g : Nat) : List (String × List AV) → Option (List AV)
  | [] => none
  | p :: r => match P.globalNamed p.1 with
    | some h => match Nat.beq h g with
      | true => some p.2
      | false => gOfL P g r
    | none => gOfL P g r
/-- a cell of a variable's -/
def avV : AV → Value
  | .it k n => .int k n
  | .st l => .string ⟨l.toArray⟩
  | .bl b => .bool b
  | _ => undef
def avF : AV → Bool
  | .it _ _ => true
  | .st _ => true
  | .bl _ => true
  | _ => false

def trOpd (P : Program) (N : Nat) : Operand → Option AOpd
  | .tmp t => if t < N then some (.t t) else none
  | .const v => (cst v).map .c
  | .func f => some (.c (.fn (.func f) [] []))
  | .global g => match gOfL P g gTabs with
    | some cs => match cs.all avF with
      | true => some (.c (.ep cs 0))
      | false => none
    | none => none

def trL (P : Program) (N : Nat) : List Operand → Option (List AOpd)
  | [] => some []
  | x :: r => match trOpd P N x, trL P N r with
    | some u, some us => some (u :: us)
    | _, _ => none

def trO (P : Program) (N : Nat) : Option Operand → Option (Option AOpd)
  | none => some none
  | some x => (trOpd P N x).map some

/-- is a type an aggregate; its cells -/
def aggSz (P : Program) (t : TypeId) : Option (Bool × Nat) :=
  match P.underlying t, P.info? t with
  | some (.struct _), some i | some (.array _ _), some i => some (true, i.size)
  | some _, some i => some (false, i.size)
  | _, _ => none

def zeroOf (P : Program) (t : TypeId) : Option (List AV) := ((P.info? t).bind (·.zero)).bind fun z => cstL z.cells.toList

def trParts (P : Program) (N : Nat) (place : Nat → Option (Nat × Nat)) : List (Nat × Operand) → Option (List (Nat × Nat × AOpd))
  | [] => some []
  | (i, x) :: r => match place i, trOpd P N x, trParts P N place r with
    | some (off, sz), some u, some us => some ((off, sz, u) :: us)
    | _, _, _ => none

def szOf (P : Program) (t : TypeId) : Option Nat := (P.info? t).map (·.size)

def fieldPlaces (P : Program) (fs : Array Field) : Option (List (Nat × Nat)) := fs.toList.mapM fun f => (P.info? f.type).map fun i => (f.offset, i.size)

/-- which kind of equality: bools, numbers, texts, pointers, slices -/
def eqKind (P : Program) (t : TypeId) : Option Nat := match P.underlying t with
  | some .bool => some 0
  | some (.int _) => some 1
  | some .string => some 2
  | some (.pointer _) => some 3
  | some (.slice _) => some 4
  | _ => none

/-- fields from the i-th on that are basic, a cell each -/
def flatF (P : Program) : List Field → Nat → Option (List Nat)
  | [], _ => some []
  | f :: r, i => match eqKind P f.type, flatF P r (i + 1) with
    | some k, some ks => if k ≤ 2 ∧ f.offset = i ∧ f.name ≠ "_" then some (k :: ks) else none
    | _, _ => none

/-- a struct of basic fields, a cell each: their kinds -/
def flatEq (P : Program) (t : TypeId) : Option (List Nat) := match P.underlying t with
  | some (.struct fs) => if !P.stoodInHeld t && !P.eqGuardType P.depth t then flatF P fs.toList 0 else none
  | _ => none

def trOp (P : Program) (N : Nat) (o : Oper) : Option AOp :=
  match o.op with
  | .move x | .assign x => (trOpd P N x).map .mv
  | .pick c a b => match trOpd P N c, trOpd P N a, trOpd P N b with
    | some c, some a, some b => some (.pick c a b)
    | _, _, _ => none
  | .alloc e => match aggSz P e, zeroOf P e with
    | some (true, sz), some z => some (.box e sz (.c (.agg z)))
    | some (false, 1), some [z] => some (.box e 1 (.c z))
    | _, _ => none
  | .box e x => match szOf P e, trOpd P N x with
    | some sz, some x => some (.box e sz x)
    | _, _ => none
  | .build t parts => match P.underlying t, zeroOf P t with
    | some (.struct fs), some z => match fieldPlaces P fs with
      | some pl => (trParts P N (pl.toArray[·]?) parts.toList).map (.bld z)
      | none => none
    | some (.array _ elem), some z => match szOf P elem with
      | some sz => (trParts P N (fun i => some (i * sz, sz)) parts.toList).map (.bld z)
      | none => none
    | _, _ => none
  | .buildSlice t len parts => match P.underlying t with
    | some (.slice e) => match szOf P e, zeroOf P e with
      | some sz, some z => (trParts P N (fun i => some (i * sz, sz)) parts.toList).map (.bsl e sz len z)
      | _, _ => none
    | _ => none
  | .load t a => match aggSz P t, trOpd P N a with
    | some (g, sz), some a => if g || sz == 1 then some (.ld g sz a) else none
    | _, _ => none
  | .store t a v => match szOf P t, trOpd P N a, trOpd P N v with
    | some sz, some a, some v => some (.sto sz a v)
    | _, _, _ => none
  | .nilCheck x => (trOpd P N x).map .nck
  | .binOp op t x y _ => match trOpd P N x, trOpd P N y with
    | some u, some v =>
      if op == .eql || op == .neq then
        match eqKind P t with
        | some k => some (.eq (op == .neq) k u v)
        | none => (flatEq P t).map fun ks => .eqs (op == .neq) ks u v
      else some (.bin op u v)
    | _, _ => none
  | .unOp op _ x => (trOpd P N x).map (.un op)
  | .convert src dst x => match P.underlying src, P.underlying dst, trOpd P N x with
    | some (.int _), some (.int k), some x => some (.cvi k x)
    | some .string, some .string, some x => some (.cvs x)
    | some .string, some (.slice e), some x => if (P.underlying e) matches some (.int .u8) then some (.s2b e x) else none
    | some (.slice e), some .string, some x => if (P.underlying e) matches some (.int .u8) then some (.b2s x) else none
    | _, _, _ => none
  | .makeSlice t l c => match P.underlying t with
    | some (.slice e) => match P.info? e, zeroOf P e, trOpd P N l, trOpd P N c with
      | some i, some z, some l, some c => some (.mks e i.size i.bytes z l c)
      | _, _, _, _ => none
    | _ => none
  | .slice t x lo hi none => match P.underlying t, trOpd P N x, trO P N lo, trO P N hi with
    | some .string, some x, some lo, some hi => some (.sls x lo hi)
    | some (.slice e), some x, some lo, some hi => (szOf P e).map fun sz => .sll sz x lo hi
    | _, _, _, _ => none
  | .fieldAddr s x f => match P.underlying s, trOpd P N x with
    | some (.struct fs), some x => match fs[f]? with
      | some fd => match szOf P fd.type with
        | some (_ + 1) => some (.fad fd.offset x)
        | _ => none
      | none => none
    | _, _ => none
  | .field t x f => match P.underlying t, trOpd P N x with
    | some (.struct fs), some x => match fs[f]? with
      | some fd => (aggSz P fd.type).map fun (g, sz) => .fld g fd.offset sz x
      | none => none
    | _, _ => none
  | .indexAddr t x i => match P.underlying t, trOpd P N x, trOpd P N i with
    | some (.slice e), some x, some i => (szOf P e).map fun sz => .iad sz x i
    | some (.array len e), some x, some i => (szOf P e).map fun sz => .iada len sz x i
    | _, _, _ => none
  | .index t x i => match P.underlying t, trOpd P N x, trOpd P N i with
    | some .string, some x, some i => some (.idxs x i)
    | some (.array len e), some x, some i => (aggSz P e).map fun (g, sz) => .idxa g len sz x i
    | _, _, _ => none
  | .extract x i => (trOpd P N x).map fun x => .ext x i
  | .makeFunc fn first cap => match trL P N first.toList, trL P N cap.toList with
    | some first, some cap => some (.mkf fn first cap)
    | _, _ => none
  | .call c => match c.callee with
    | .builtin .len => match c.args.toList, c.argTypes[0]? with
      | [x], some t => match P.underlying t with
        | some .string => (trOpd P N x).map .lens
        | some (.slice _) => (trOpd P N x).map .len
        | _ => none
      | _, _ => none
    | .builtin .append => match c.args.toList, c.argTypes.toList with
      | [s, x], [t, u] => match P.underlying t, P.underlying u with
        | some (.slice e), some (.slice _) => match P.info? e, trOpd P N s, trOpd P N x with
          | some i, some s, some x => if (i.zero.map (·.cells.size)) = some i.size then some (.app e i.size i.bytes s x) else none
          | _, _, _ => none
        | some (.slice e), some .string => match P.info? e, trOpd P N s, trOpd P N x with
          | some i, some s, some x => match i.zero with
            | some (.int .u8 0) => if i.size = 1 ∧ i.bytes = 1 then some (.apps e s x) else none
            | _ => none
          | _, _, _ => none
        | _, _ => none
      | _, _ => none
    | .builtin .min => (trL P N c.args.toList).map (.mnx false)
    | .builtin .max => (trL P N c.args.toList).map (.mnx true)
    | .value (.func f) => (trL P N c.args.toList).map (.call f)
    | .value x => match trOpd P N x, trL P N c.args.toList with
      | some x, some l => some (.calv x l)
      | _, _ => none
    | _ => none
  | _ => none

def dstOk (N : Nat) : Option Nat → Bool
  | none => true
  | some d => decide (d < N)

def trGuard (ops : Array Oper) (N : Nat) : Option (Nat × Bool) → Option (Option (Nat × Bool))
  | none => some none
  | some (j, b) => match (ops[j]?).bind (·.dst) with
    | some d => if d < N then some (some (d, b)) else none
    | none => none

def trOps (P : Program) (N : Nat) (ops : Array Oper) : List Oper → Option (List AO)
  | [] => some []
  | o :: r => match trOp P N o, trGuard ops N o.guard, dstOk N o.dst, trOps P N ops r with
    | some u, some g, true, some us => some (⟨o.dst, g, u⟩ :: us)
    | _, _, _, _ => none

/-! ### a region that draws its order -/
def opds : AOp → List AOpd
  | .mv x | .nck x | .un _ x | .cvi _ x | .cvs x | .b2s x | .s2b _ x | .fad _ x | .fld _ _ _ x | .ext x _ | .lens x | .len x | .ld _ _ x | .box _ _ x => [x]
  | .pick c a b => [c, a, b]
  | .bld _ ps => ps.map fun p => p.2.2
  | .bsl _ _ _ _ ps => ps.map fun p => p.2.2
  | .sto _ a v => [a, v]
  | .bin _ x y | .eq _ _ x y | .eqs _ _ x y | .iad _ x y | .iada _ _ x y | .idxs x y | .idxa _ _ _ x y | .app _ _ _ x y | .apps _ x y => [x, y]
  | .mks _ _ _ _ l c => [l, c]
  | .sls x lo hi | .sll _ x lo hi => x :: (lo.toList ++ hi.toList)
  | .mnx _ xs => xs
  | .mkf _ f c => f ++ c
  | .call _ args => args
  | .calv x args => x :: args
def slotOf : AOpd → List Nat
  | .t n => [n]
  | .c _ => []
def readsS (o : AO) : List Nat := (match o.guard with | some (g, _) => [g] | none => []) ++ (opds o.op).flatMap slotOf
def allocs : AOp → Bool
  | .box .. | .bsl .. | .mks .. | .app .. | .apps .. => true
  | _ => false
def mayW : AOp → Bool
  | .sto .. | .call .. | .calv .. | .sll .. => true
  | u => allocs u
def insN (l : List Nat) (x : Nat) : List Nat := if l.contains x then l else x :: l
/-- what is ahead of each operation, whatever the order -/
def ancL : List Oper → List (List Nat) → List (List Nat)
  | [], acc => acc
  | o :: r, acc => ancL r (acc ++ [(o.after.toList.filter (Region.binds .any)).foldl (fun l e => ((acc[e.on]?).getD []).foldl insN (insN l e.on)) []])
def ancAt (anc : List (List Nat)) (i : Nat) : List Nat := (anc[i]?).getD []
def dNe : Option Nat → Option Nat → Bool
  | some a, some b => a != b
  | _, _ => true
def dNr : Option Nat → List Nat → Bool
  | some a, l => !l.contains a
  | none, _ => true
def pairOk (anc fre : List (List Nat)) (i j : Nat) (o p : AO) : Bool :=
  (ancAt anc i).contains j || (dNe o.dst p.dst && dNr p.dst (readsS o) && dNr o.dst (readsS p) && ((ancAt fre i).contains j || (!mayW o.op && !mayW p.op)))
def chkPairs (us : List AO) (anc fre : List (List Nat)) : Bool :=
  (List.range us.length).all fun i => (List.range i).all fun j => match us[i]?, us[j]? with
    | some o, some p => pairOk anc fre i j o p
    | _, _ => false
def chkAncA (ops : Array Oper) (anc : List (List Nat)) : Bool :=
  (List.range ops.size).all fun i => (ancAt anc i).all fun x => decide (x < i) && ((ops[i]?).map fun o => o.after.toList.any fun e => Region.binds .any e && (e.on == x || (ancAt anc e.on).contains x)).getD false
def freL (us : List AO) (anc : List (List Nat)) : List (List Nat) :=
  (List.range us.length).map fun i => (List.range i).filter fun j => !(ancAt anc i).contains j && match us[i]?, us[j]? with
    | some o, some p => mayW o.op || mayW p.op
    | _, _ => true
def trD (P : Program) (N : Nat) (ops : Array Oper) : Option (List (AO × List Nat)) :=
  match trOps P N ops ops.toList with
  | some us =>
    let anc := ancL ops.toList []
    let fre := freL us anc
    if P.follows .mixedOrders && chkWf ops && chkAncA ops anc && chkPairs us anc fre && us.all fun o => !allocs o.op || o.dst.isSome then some (us.zip fre) else none
  | none => none

def trC (P : Program) (N : Nat) : Code → Option ACode
  | .skip => some .skip
  | .region _ ops false => (trOps P N ops ops.toList).map .ops
  | .region _ ops true => (trD P N ops).map .drw
  | .seq a b => match trC P N a, trC P N b with
    | some a, some b => some (.seq a b)
    | _, _ => none
  | .cond c a b => match trOpd P N c, trC P N a, trC P N b with
    | some c, some a, some b => some (.cond c a b)
    | _, _, _ => none
  | .block id c => (trC P N c).map (.block id)
  | .loop c => (trC P N c).map .loop
  | .rangeFunc g ps a b => if ps.all (fun p => decide (p < N)) then (trOpd P N g).map fun g => .rng N g ps a b else none
  | .exit id => some (.exit id)
  | .ret => some .ret
  | _ => none

/-- a function's code: how many slots, how many parameters, its results (a slot; or a box of so many cells), its code -/
structure AFn where
  N : Nat
  res : List (Nat × Option Nat)
  body : ACode

def trRes (P : Program) (N : Nat) : List ResultVar → Option (List (Nat × Option Nat))
  | [] => some []
  | .tmp t :: r => if t < N then (trRes P N r).map ((t, none) :: ·) else none
  | .cell t ty :: r => match aggSz P ty, trRes P N r with
    | some (true, sz + 1), some us => if t < N then some ((t, some (sz + 1)) :: us) else none
    | some (false, 1), some us => if t < N then some ((t, some 0) :: us) else none
    | _, _ => none

def trF (P : Program) (f : FuncId) : Option AFn :=
  match P.funcs[f]? with
  | some fn => match (if fn.name == "runtime.NumGoroutine" then none else fn.body) with
    | some b => match trRes P fn.ntmps fn.results.toList, trC P fn.ntmps b with
      | some r, some c => some ⟨fn.ntmps, r, c⟩
      | _, _ => none
    | none => none
  | none => none
end Go.AV

