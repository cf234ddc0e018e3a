/-
  Typed states: what a program's code does to plain data, as a proposition that the kernel reckons. (Definitions.)
-/
import Derived.Test.YteoohihaibgplaaDoorAvZ
namespace Go.AV
open Go.RowKit Go.RG Go.Lib

/-! ### data -/
/-- an object on the heap -/
inductive HO (K : Nat → Type) where
  | ob (e : Nat) (x : K e)
  | row (e : Nat) (l : List (K e))
  | dead
/-- a variable of plain data -/
inductive DV (K : Nat → Type) where
  | i (n : Int)
  | b (b : Bool)
  | s (s : Str)
  | l (e : Nat) (l : List (K e))
  | v (t : Nat) (x : K t)
/-- a function that is handed over -/
structure FV (K : Nat → Type) where
  av : AV
  W : List (DV K) → List (DV K) → Prop
inductive AD (K : Nat → Type) where
  | d (x : DV K)
  | f (F : FV K)

inductive TV (K : Nat → Type) where
  | un
  | lb (b : Bool)
  | bl (b : Bool)
  | li (k : IntKind) (n : Int)
  | it (k : IntKind) (n : Int)
  | st (s : Str)
  | agg (cs : List (TV K))
  | tup (cs : List (TV K))
  | nil
  | em
  | sl (e : Nat) (l : List (K e))
  | rw (s c : Nat)
  | px (s c off : Nat)
  | pr (e s c i of : Nat)
  | ep (e : Nat) (l : List (K e)) (i of : Nat)
  | gs (l : List Str) (i : Nat)
  | nptr
  | fn (f : Nat) (a c : List (TV K))
  | fv (ps rs : List Nat) (F : FV K)
  | cn (id : Nat) (v : TV K)

inductive TB (K : Nat → Type) where
  | box (e : Nat) (cs : List (TV K))
  | row (e : Nat) (l : List (K e))
  | lrow (e n : Nat) (cs : List (TV K))

/-- a type: is it an aggregate; its cells; a value of cells; bytes; does it lead nowhere -/
structure Ty (K : Nat → Type) (t : Nat) where
  g : Bool
  c : K t → List (TV K)
  rd : List (TV K) → Option (K t)
  tb : Option (K t → UInt8)
  ob : Option (UInt8 → K t)
  fl : Bool
structure Cx (K : Nat → Type) where
  T : ∀ t, Ty K t
  E : ∀ t, Enc (K t)

structure TS (K : Nat → Type) where
  fr : List (Nat × TV K)
  od : List (Nat × Option (TB K))
  nw : List (Nat × Option (TB K))
  rg : List (Nat × TV K)
  h : List (HO K)

variable {K : Nat → Type}

def TV.s : TV K → TV K
  | .cn _ v => v
  | v => v
def lkT : List (Nat × TV K) → Nat → TV K
  | [], _ => .un
  | p :: r, t => match Nat.beq p.1 t with
    | true => p.2
    | false => lkT r t
def lkB : List (Nat × Option (TB K)) → Nat → Option (TB K)
  | [], _ => none
  | p :: r, t => match Nat.beq p.1 t with
    | true => p.2
    | false => lkB r t
def memB : List (Nat × Option (TB K)) → Nat → Bool
  | [], _ => false
  | p :: r, t => Nat.beq p.1 t || memB r t
def TS.tb (ts : TS K) (s c : Nat) : Option (TB K) := match Nat.beq c 1 with
  | true => lkB ts.od s
  | false => match Nat.beq c 2 with
    | true => lkB ts.nw s
    | false => none
def TS.setb (ts : TS K) (s c : Nat) (b : Option (TB K)) : TS K := match Nat.beq c 1 with
  | true => ⟨ts.fr, (s, b) :: ts.od, ts.nw, ts.rg, ts.h⟩
  | false => ⟨ts.fr, ts.od, (s, b) :: ts.nw, ts.rg, ts.h⟩
def TS.put (ts : TS K) (d : Option Nat) (v : TV K) : TS K := match d with
  | some d => ⟨(d, v) :: ts.fr, ts.od, ts.nw, ts.rg, ts.h⟩
  | none => ts

def strsA : List AV → Option (List Str)
  | [] => some []
  | .st s :: r => match strsA r with
    | some l => some (s :: l)
    | none => none
  | _ => none
mutual
def cvA : AV → TV K
  | .bl b => .lb b
  | .it k n => .li k n
  | .st s => .st s
  | .agg cs => .agg (cvAs cs)
  | .tup cs => .tup (cvAs cs)
  | .sl true 0 [] => .nil
  | .nptr => .nptr
  | .fn (.func f) [] [] => .fn f [] []
  | .ep cs off => match strsA cs with
    | some l => .gs l off
    | none => .un
  | _ => .un
def cvAs : List AV → List (TV K)
  | [] => []
  | v :: r => cvA v :: cvAs r
end
def tea (fr : List (Nat × TV K)) : AOpd → TV K
  | .t n => lkT fr n
  | .c v => cvA v
def tev (fr : List (Nat × TV K)) (x : AOpd) : TV K := (tea fr x).s
def tcl (v : TV K) : List (TV K) := match v.s with
  | .agg cs => cs
  | _ => [v]
def tone1 : TV K → Bool
  | .agg _ | .tup _ | .un | .cn _ _ => false
  | _ => true
def tone : TV K → Bool
  | .cn _ v => tone1 v
  | v => tone1 v
def twk (v : TV K) : TV K := match v.s with
  | .nil => .em
  | .agg _ => .un
  | .tup _ => .un
  | .fn _ _ _ => .un
  | .rw _ _ => .un
  | w => w

/-! ### operations that only tell a value: their conditions, it -/
def tint : TV K → Option (IntKind × Int)
  | .it k n => some (k, n)
  | .li k n => some (k, n)
  | _ => none
def tlit : TV K → Bool
  | .li _ _ => true
  | _ => false
def tbo : TV K → Option Bool
  | .bl b => some b
  | .lb b => some b
  | _ => none
abbrev TR0 (K : Nat → Type) := Option (List Prop × TV K)
def tnum (op : BinOp) (k : IntKind) (a b : Int) (lit : Bool) : TR0 K := match op with
  | .add => some ([], .it k (k.wrap (a + b)))
  | .sub => some ([], .it k (k.wrap (a - b)))
  | .mul => some ([], .it k (k.wrap (a * b)))
  | .quo => match lit with
    | true => if b = 0 then none else some ([], .it k (k.wrap (a.tdiv b)))
    | false => some ([b ≠ 0], .it k (k.wrap (a.tdiv b)))
  | .rem => match lit with
    | true => if b = 0 then none else some ([], .it k (a.tmod b))
    | false => some ([b ≠ 0], .it k (a.tmod b))
  | .and => some ([], .it k (bits .and k a b))
  | .or => some ([], .it k (bits .or k a b))
  | .xor => some ([], .it k (bits .xor k a b))
  | .lss => some ([], .bl (decide (a < b)))
  | .leq => some ([], .bl (decide (a ≤ b)))
  | .gtr => some ([], .bl (decide (b < a)))
  | .geq => some ([], .bl (decide (b ≤ a)))
  | _ => none
def tsh (op : BinOp) (k : IntKind) (a b : Int) : Option (TV K) := match op with
  | .shl => some (.it k (k.wrap (a * 2 ^ (min b.toNat k.bits))))
  | .shr => some (.it k (a.fdiv (2 ^ (min b.toNat k.bits))))
  | _ => none
def tshi (op : BinOp) (k : IntKind) (a b : Int) (lit : Bool) : TR0 K := match tsh op k a b with
  | some v => match lit with
    | true => if b < 0 then none else some ([], v)
    | false => some ([¬ b < 0], v)
  | none => none
def tstr (op : BinOp) (a b : Str) : TR0 K := match op with
  | .add => some ([a.length + b.length ≤ 9223372036854775807], .st (a ++ b))
  | .lss => some ([], .bl (Op.bytesLess a b))
  | .leq => some ([], .bl (Op.bytesLess a b || a == b))
  | .gtr => some ([], .bl (!(Op.bytesLess a b || a == b)))
  | .geq => some ([], .bl (!Op.bytesLess a b))
  | _ => none
def isShp : BinOp → Bool
  | .shl | .shr => true
  | _ => false
def tbin (op : BinOp) (x y : TV K) : TR0 K := match x, y with
  | .st a, .st b => tstr op a b
  | x, y => match tint x, tint y with
    | some (k, a), some (k', b) => match isShp op with
      | true => tshi op k a b (tlit y)
      | false => if k = k' then tnum op k a b (tlit y) else none
    | _, _ => none
def teq1 : Nat → TV K → TV K → Option Bool
  | 0, x, y => match tbo x, tbo y with
    | some a, some b => some (a == b)
    | _, _ => none
  | 1, x, y => match tint x, tint y with
    | some (k, a), some (k', b) => if k = k' then some (a == b) else none
    | _, _ => none
  | 2, .st a, .st b => some (a == b)
  | _, _, _ => none
def teq (g : Bool) (kind : Nat) (x y : TV K) : TR0 K := match kind with
  | 4 => match x, y with
    | .nil, .nil => some ([], .lb (!g))
    | _, _ => none
  | 3 => match x, y with
    | .nptr, .nptr => some ([], .lb (!g))
    | _, _ => none
  | k => match teq1 k x y with
    | some b => some ([], .bl (ngB g b))
    | none => none
def teqL : List Nat → List (TV K) → List (TV K) → Option Bool
  | [], [], [] => some true
  | k :: ks, a :: r, b :: q => match teq1 k a.s b.s, teqL ks r q with
    | some x, some y => some (x && y)
    | _, _ => none
  | _, _, _ => none
def tfill (cells : List (TV K)) : List (Nat × Nat × TV K) → Option (List (TV K))
  | [] => some cells
  | (off, sz, v) :: r => match Nat.beq (tcl v).length sz && Nat.ble (off + sz) cells.length && (tcl v).all tone with
    | true => tfill (cells.take off ++ tcl v ++ cells.drop (off + sz)) r
    | false => none
def tbnd (fr : List (Nat × TV K)) (d : Int) : Option AOpd → Option Int
  | none => some d
  | some x => match tint (tev fr x) with
    | some (_, n) => some n
    | none => none
def tmnL (mx : Bool) (k : IntKind) (a : Int) : List (TV K) → Option (TV K)
  | [] => some (.it k a)
  | v :: r => match tint v with
    | some (k', b) => if k' = k then tmnL mx k (match mx with | true => if b > a then b else a | false => if b < a then b else a) r else none
    | none => none
def tlive (ts : TS K) (s c : Nat) (v : TV K) : TR0 K := match ts.tb s c with
  | some _ => some ([], v)
  | none => none
def tlvx (ts : TS K) (s c : Nat) (v : TV K) : TR0 K := match ts.tb s c with
  | some (.box _ _) => some ([], v)
  | _ => none
def selI : List (TV K) → Option (IntKind × List Int)
  | [] => none
  | v :: r => match tint v.s with
    | some (k, n) => match r with
      | [] => some (k, [n])
      | _ :: _ => match selI r with
        | some (k', l) => if k = k' then some (k, n :: l) else none
        | none => none
    | none => none
def selS : List (TV K) → Option (List Str)
  | [] => some []
  | v :: r => match v.s, selS r with
    | .st s, some l => some (s :: l)
    | _, _ => none
/-- one of some cells, by a number -/
def tsel (cs : List (TV K)) (len : Nat) (i : Int) : TR0 K := match selI cs with
  | some (k, l) => some ([0 ≤ i ∧ i < len], .it k ((l[i.toNat]?).getD 0))
  | none => match selS cs with
    | some l => some ([0 ≤ i ∧ i < len], .st ((l[i.toNat]?).getD []))
    | none => none
def tqv (ts : TS K) (u : AOp) : TR0 K := let fr := ts.fr; match u with
  | .mv x => some ([], tea fr x)
  | .bld z parts => match tfill (cvAs z) (parts.map fun p => (p.1, p.2.1, tea fr p.2.2)) with
    | some cs => some ([], .agg cs)
    | none => none
  | .nck x => match tev fr x with
    | .px s c o => tlvx ts s c (.px s c o)
    | .pr e s c i o => tlive ts s c (.pr e s c i o)
    | .ep e l i o => some ([], .ep e l i o)
    | .gs l i => some ([], .gs l i)
    | .fn f a c => some ([], .fn f a c)
    | .fv ps rs F => some ([], .fv ps rs F)
    | _ => none
  | .bin op x y => tbin op (tev fr x) (tev fr y)
  | .eq g kind x y => teq g kind (tev fr x) (tev fr y)
  | .eqs g ks x y => match tev fr x, tev fr y with
    | .agg a, .agg b => match teqL ks a b with
      | some r => some ([], .bl (ngB g r))
      | none => none
    | _, _ => none
  | .un op x => match op with
    | .neg => match tint (tev fr x) with
      | some (k, n) => some ([], .it k (k.wrap (0 - n)))
      | none => none
    | .not => match tev fr x with
      | .lb b => some ([], .lb (!b))
      | .bl b => some ([], .bl (!b))
      | _ => none
    | _ => none
  | .cvi k x => match tint (tev fr x) with
    | some (_, n) => some ([], .it k (k.wrap n))
    | none => none
  | .cvs x => match tev fr x with
    | .st l => some ([], .st l)
    | _ => none
  | .sls x lo hi => match tev fr x with
    | .st l => match tbnd fr 0 lo, tbnd fr l.length hi with
      | some a, some b => some ([0 ≤ a ∧ a ≤ b ∧ b ≤ l.length], .st ((l.drop a.toNat).take (b.toNat - a.toNat)))
      | _, _ => none
    | _ => none
  | .fad off x => match tev fr x with
    | .px s c o => tlvx ts s c (.px s c (o + off))
    | .pr e s c i o => tlive ts s c (.pr e s c i (o + off))
    | .ep e l i o => some ([], .ep e l i (o + off))
    | _ => none
  | .fld g off sz x => match tev fr x with
    | .agg cs => match g with
      | true => some ([], .agg ((cs.drop off).take sz))
      | false => match cs[off]? with
        | some v => some ([], v)
        | none => none
    | _ => none
  | .iada len sz x i => match tev fr x, tev fr i with
    | .px s c o, .li _ i => if 0 ≤ i ∧ i < len then tlvx ts s c (.px s c (o + i.toNat * sz)) else none
    | .gs l o, y => match tint y with
      | some (_, i) => some ([0 ≤ i ∧ i < len], .gs l (o + i.toNat * sz))
      | none => none
    | _, _ => none
  | .idxs x i => match tev fr x, tint (tev fr i) with
    | .st l, some (_, i) => some ([0 ≤ i ∧ i < l.length], .it .u8 (bAt l i))
    | _, _ => none
  | .idxa g len sz x i => match tev fr x, tev fr i with
    | .agg cs, .li _ i => if 0 ≤ i ∧ i < len then (match g with
      | true => some ([], .agg ((cs.drop (i.toNat * sz)).take sz))
      | false => match cs[i.toNat * sz]? with
        | some v => some ([], v)
        | none => none) else none
    | .agg cs, .it _ i => match !g && Nat.beq sz 1 && Nat.ble len cs.length with
      | true => tsel cs len i
      | false => none
    | _, _ => none
  | .ext x i => match tev fr x with
    | .tup vs => match vs[i]? with
      | some v => some ([], v)
      | none => none
    | _ => none
  | .lens x => match tev fr x with
    | .st l => some ([], .it .i64 (l.length : Int))
    | _ => none
  | .mnx mx xs => match xs with
    | [] => none
    | x :: r => match tint (tev fr x) with
      | some (k, a) => match tmnL mx k a (r.map (tev fr)) with
        | some v => some ([], v)
        | none => none
      | none => none
  | .mkf (.func f) a c => some ([], .fn f (a.map (tea fr)) (c.map (tea fr)))
  | _ => none

/-! ### rows -/
def andL : List Prop → Prop → Prop
  | [], p => p
  | c :: r, p => c ∧ andL r p
def ifL (b : Bool) (c : Prop) : List Prop := match b with
  | true => []
  | false => [c]
def castL (e e' : Nat) (l : List (K e)) : Option (List (K e')) := if h : e = e' then some (h ▸ l) else none
def chunk {T : Type} (mk : List (TV K) → Option T) (sz : Nat) : Nat → List (TV K) → Option (List T)
  | 0, _ => some []
  | n + 1, cs => match mk ((cs.take sz).map TV.s), chunk mk sz n (cs.drop sz) with
    | some x, some r => some (x :: r)
    | _, _ => none
/-- the row at a place, of such things -/
def trow (C : Cx K) (e : Nat) (b : Option (TB K)) : Option (List (K e)) := match b with
  | some (.row e' l) => castL e' e l
  | some (.lrow e' n cs) => match Nat.beq e' e with
    | true => chunk (C.T e).rd (C.E e).sz n cs
    | false => none
  | _ => none
def tbe : Option (TB K) → Nat
  | some (.row e _) => e
  | some (.lrow e _ _) => e
  | _ => 0
/-- a row's length -/
def tln : Option (TB K) → Option Nat
  | some (.row _ l) => some l.length
  | some (.lrow _ n _) => some n
  | _ => none
/-- is it a row of a few things -/
def tfew : Option (TB K) → Bool
  | some (.lrow _ n _) => Nat.ble n 1000
  | _ => false
def tldc (g : Bool) (sz off : Nat) (cs : List (TV K)) : Option (TV K) := match g with
  | true => match Nat.ble (off + sz) cs.length with
    | true => some (.agg ((cs.drop off).take sz))
    | false => none
  | false => cs[off]?
def wpo' {α : Type} (o : Option α) (X : α → Prop) : Prop := match o with
  | some x => X x
  | none => False
def tld (C : Cx K) (g : Bool) (sz : Nat) (ts : TS K) (X : TV K → Prop) : TV K → Prop
  | .px s c off => match ts.tb s c with
    | some (.box _ cs) => wpo' (tldc g sz off cs) X
    | some (.lrow _ _ cs) => wpo' (tldc g sz off cs) X
    | _ => False
  | .pr e s c i of => wpo' (trow C e (ts.tb s c)) fun l => ∃ y : K e, l[i]? = some y ∧ wpo' (tldc g sz of ((C.T e).c y)) X
  | .ep e l i of => ∃ y : K e, l[i]? = some y ∧ wpo' (tldc g sz of ((C.T e).c y)) X
  | .gs l i => match g with
    | true => match Nat.beq i 0 && Nat.beq sz l.length with
      | true => X (.agg (l.map .st))
      | false => False
    | false => ∃ y : Str, l[i]? = some y ∧ X (.st y)
  | _ => False
def tsplice (cs : List (TV K)) (off : Nat) (vs : List (TV K)) : List (TV K) := cs.take off ++ vs ++ cs.drop (off + vs.length)
def tsto (C : Cx K) (sz : Nat) (ts : TS K) (vs : List (TV K)) (X : TS K → Prop) : TV K → Prop
  | .px s c off => match ts.tb s c with
    | some (.box e cs) => match Nat.beq vs.length sz && vs.all tone && Nat.ble (off + sz) cs.length with
      | true => X (ts.setb s c (some (.box e (tsplice cs off vs))))
      | false => False
    | _ => False
  | .pr e s c i of => match Nat.beq vs.length sz && vs.all tone && Nat.ble (of + sz) (C.E e).sz with
    | true => wpo' (trow C e (ts.tb s c)) fun l => ∃ y : K e, l[i]? = some y ∧ wpo' ((C.T e).rd ((tsplice ((C.T e).c y) of vs).map TV.s)) fun y' => X (ts.setb s c (some (.row e (l.set i y'))))
    | false => False
  | _ => False
def tfresh (ts : TS K) (d : Nat) (p : Prop) : Prop := match memB ts.nw d with
  | true => False
  | false => p
def tnew (ts : TS K) (d : Option Nat) (b : TB K) (v : Nat → TV K) : TS K := (ts.setb (site d) 2 (some b)).put d (v (site d))
def tiad (C : Cx K) (sz : Nat) (ts : TS K) (q : Int) (X : TV K → Prop) : TV K → Prop
  | .sl e l => match Nat.beq sz (C.E e).sz with
    | true => 0 ≤ q ∧ q < l.length ∧ X (.ep e l q.toNat 0)
    | false => False
  | .rw s c => match Nat.beq sz (C.E (tbe (ts.tb s c))).sz with
    | true => wpo' (trow C (tbe (ts.tb s c)) (ts.tb s c)) fun l => 0 ≤ q ∧ q < l.length ∧ X (.pr (tbe (ts.tb s c)) s c q.toNat 0)
    | false => False
  | _ => False
def tsrc (C : Cx K) (e : Nat) (ts : TS K) : TV K → Option (List (K e))
  | .sl e' l => castL e' e l
  | .rw s c => trow C e (ts.tb s c)
  | .nil => some []
  | .em => some []
  | _ => none
def tshort (ts : TS K) : TV K → Bool
  | .rw s c => tfew (ts.tb s c)
  | .nil => true
  | .em => true
  | _ => false
def trw (s : Nat) : TV K := .rw s 2
/-- append to a slice -/
def tapp (C : Cx K) (e : Nat) (d : Option Nat) (ts : TS K) (l2 : List (K e)) (c2 : List Prop) (X : TS K → Prop) : TV K → Prop
  | .nil => tfresh ts (site d) (andL c2 (X (tnew ts d (.row e l2) trw)))
  | .rw s c => tfresh ts (site d) (wpo' (trow C e (ts.tb s c)) fun l => andL (ifL (tfew (ts.tb s c)) (l.length ≤ 1000000000)) (andL c2 (X (tnew (ts.setb s c none) d (.row e (l ++ l2)) trw))))
  | _ => False
/-! refs to a place are dropped -/
mutual
def tdrop (s c : Nat) : TV K → TV K
  | .agg cs => .agg (tdrops s c cs)
  | .tup cs => .tup (tdrops s c cs)
  | .rw s' c' => match Nat.beq s s' && Nat.beq c c' with
    | true => .un
    | false => .rw s' c'
  | .pr e s' c' i o => match Nat.beq s s' && Nat.beq c c' with
    | true => .un
    | false => .pr e s' c' i o
  | .fn _ _ _ => .un
  | .cn i v => .cn i v
  | v => v
def tdrops (s c : Nat) : List (TV K) → List (TV K)
  | [] => []
  | v :: r => tdrop s c v :: tdrops s c r
end
def tslice {T : Type} (l : List T) (a b : Int) : List T := (l.drop a.toNat).take (b.toNat - a.toNat)
def mapB (f : TV K → TV K) : Option (TB K) → Option (TB K)
  | some (.box e cs) => some (.box e (cs.map f))
  | some (.lrow e n cs) => some (.lrow e n (cs.map f))
  | b => b
def mapF (f : TV K → TV K) : List (Nat × TV K) → List (Nat × TV K)
  | [] => []
  | p :: r => (p.1, f p.2) :: mapF f r
def mapM (f : TV K → TV K) : List (Nat × Option (TB K)) → List (Nat × Option (TB K))
  | [] => []
  | p :: r => (p.1, mapB f p.2) :: mapM f r
def TS.mapv (ts : TS K) (f : TV K → TV K) : TS K := ⟨mapF f ts.fr, mapM f ts.od, mapM f ts.nw, ts.rg, ts.h⟩

/-! ### calls -/
/-- a parameter: data; a function; a pointer to a box that never turns again -/
inductive PD where
  | v (t : Nat)
  | p (t : Nat)
  | f (ps rs : List Nat)
structure Sp (K : Nat → Type) where
  f : Nat
  ps : List PD
  rs : List Nat
  W : List (AD K) → List (DV K) → Prop
def RTy (K : Nat → Type) : List Nat → Type
  | [] => Prop
  | r :: rs => K r → RTy K rs
def FTy (K : Nat → Type) (rs : List Nat) : List Nat → Type
  | [] => RTy K rs
  | p :: ps => K p → FTy K rs ps
def PTy (K : Nat → Type) : PD → Type
  | .v t => K t
  | .p t => K t
  | .f as bs => FTy K bs as
def WTy (K : Nat → Type) (rs : List Nat) : List PD → Type
  | [] => RTy K rs
  | p :: ps => PTy K p → WTy K rs ps
/-- a relation of data, out of one of lists -/
def curR : (rs : List Nat) → (List (DV K) → Prop) → RTy K rs
  | [], W => W []
  | r :: rs, W => fun x => curR rs fun b => W (.v r x :: b)
def curF (rs : List Nat) : (ps : List Nat) → (List (DV K) → List (DV K) → Prop) → FTy K rs ps
  | [], W => curR rs (W [])
  | p :: ps, W => fun x => curF rs ps fun a b => W (.v p x :: a) b
def apR : (rs : List Nat) → RTy K rs → List (DV K) → Prop
  | [], w, [] => w
  | r :: rs, w, .v t x :: b => if h : t = r then apR rs (w (h ▸ x)) b else False
  | _, _, _ => False
def outP : (p : PD) → AD K → Option (PTy K p)
  | .v p, .d (.v t x) => if h : t = p then some (h ▸ x) else none
  | .p p, .d (.v t x) => if h : t = p then some (h ▸ x) else none
  | .f as bs, .f F => some (curF bs as F.W)
  | _, _ => none
def appW (rs : List Nat) : (ps : List PD) → WTy K rs ps → List (AD K) → List (DV K) → Prop
  | [], w, [], b => apR rs w b
  | p :: ps, w, x :: a, b => match outP p x with
    | some y => appW rs ps (w y) a b
    | none => False
  | _, _, _, _ => False
def lkS : List (Sp K) → Nat → Option (Sp K)
  | [], _ => none
  | p :: r, f => match Nat.beq p.f f with
    | true => some p
    | false => lkS r f
def outV (C : Cx K) (t : Nat) (v : TV K) : Option (K t) := match (C.T t).g, v.s with
  | true, .agg cs => (C.T t).rd (cs.map TV.s)
  | true, _ => none
  | false, .agg _ => none
  | false, w => (C.T t).rd [w]
def out1 (C : Cx K) : PD → TV K → Option (AD K)
  | .v t, v => match outV C t v with
    | some x => some (.d (.v t x))
    | none => none
  | .p t, v => match v.s with
    | .ep e [x] 0 0 => if h : e = t then some (.d (.v t (h ▸ x))) else none
    | _ => none
  | .f _ _, _ => none
def outD (C : Cx K) : List PD → List (TV K) → Option (List (AD K))
  | [], [] => some []
  | p :: ps, v :: vs => match out1 C p v, outD C ps vs with
    | some x, some r => some (x :: r)
    | _, _ => none
  | _, _ => none
/-- a function value: what it is handed over besides -/
def outFn (C : Cx K) (sp : Sp K) (np : Nat) (a c : List (TV K)) : Option (List (AD K) × List (AD K)) :=
  match outD C (sp.ps.take a.length) a, outD C (sp.ps.drop (a.length + np)) c with
  | some x, some y => some (x, y)
  | _, _ => none
/-! data as it is in another state: no places -/
mutual
def tAV (C : Cx K) : TV K → AV
  | .lb b => .bl b
  | .bl b => .bl b
  | .li k n => .it k n
  | .it k n => .it k n
  | .st s => .st s
  | .agg cs => .agg (tAVs C cs)
  | .tup cs => .tup (tAVs C cs)
  | .nil => .sl false 0 []
  | .em => .sl false 0 []
  | .sl e l => slA (C.E e) l
  | .ep e l i of => .ep (cl (C.E e) l) (i * (C.E e).sz + of)
  | .gs l i => .ep (l.map .st) i
  | .nptr => .nptr
  | .fn f a c => .fn (.func f) (tAVs C a) (tAVs C c)
  | .fv _ _ F => F.av
  | .cn _ v => tAV C v
  | _ => .un
def tAVs (C : Cx K) : List (TV K) → List AV
  | [] => []
  | v :: r => tAV C v :: tAVs C r
end
def allV : List PD → Bool
  | [] => true
  | .v _ :: r => allV r
  | _ => false
mutual
def norefV : TV K → Bool
  | .agg cs => norefVs cs
  | .tup cs => norefVs cs
  | .fn _ a c => norefVs a && norefVs c
  | .rw _ _ | .px _ _ _ | .pr _ _ _ _ _ | .cn _ _ | .un => false
  | _ => true
def norefVs : List (TV K) → Bool
  | [] => true
  | v :: r => norefV v && norefVs r
end
def outA1 (C : Cx K) (Φ : List (Sp K)) : PD → TV K → Option (AD K)
  | .f ps _, v => match v.s with
    | .fv _ _ F => some (.f F)
    | .fn f a c => match lkS Φ f with
      | some sp => match outFn C sp ps.length a c with
        | some (x, y) => match allV ((sp.ps.drop a.length).take ps.length) && norefVs a && norefVs c with
          | true => some (.f ⟨.fn (.func f) (tAVs C a) (tAVs C c), fun e r => match Nat.beq e.length ps.length with
            | true => sp.W (x ++ e.map .d ++ y) r
            | false => False⟩)
          | false => none
        | none => none
      | none => none
    | _ => none
  | p, v => out1 C p v
def outA (C : Cx K) (Φ : List (Sp K)) : List PD → List (TV K) → Option (List (AD K))
  | [], [] => some []
  | p :: ps, v :: vs => match outA1 C Φ p v, outA C Φ ps vs with
    | some x, some r => some (x :: r)
    | _, _ => none
  | _, _ => none
def inV (C : Cx K) (t : Nat) (x : K t) : TV K := match (C.T t).g with
  | true => .agg ((C.T t).c x)
  | false => match (C.T t).c x with
    | [v] => v
    | _ => .un
/-- a call's results -/
def exR (C : Cx K) : List Nat → (List (DV K) → List (TV K) → Prop) → Prop
  | [], p => p [] []
  | t :: r, p => ∃ z : K t, exR C r fun a b => p (.v t z :: a) (inV C t z :: b)
def tres : List (TV K) → TV K
  | [v] => v
  | vs => .tup vs
def twf (C : Cx K) (sp : Sp K) (env : List (AD K)) (X : TV K → Prop) : Prop := exR C sp.rs fun rs vs => sp.W env rs ∧ X (tres vs)
/-- rows that are handed over as they are -/
def tpubs (C : Cx K) : TS K → List (TV K) → Option (List (TV K) × TS K)
  | ts, [] => some ([], ts)
  | ts, v :: r => match v.s with
    | .rw s c => match trow C (tbe (ts.tb s c)) (ts.tb s c) with
      | some l => match tpubs C (ts.setb s c none) r with
        | some (ws, ts') => some (.sl (tbe (ts.tb s c)) l :: ws, ts')
        | none => none
      | none => none
    | _ => match tpubs C ts r with
      | some (ws, ts') => some (v :: ws, ts')
      | none => none
/-- a row, as it is lent -/
def vt1 (C : Cx K) (ts : TS K) (v : TV K) : TV K := match v.s with
  | .rw s c => match trow C (tbe (ts.tb s c)) (ts.tb s c) with
    | some l => .sl (tbe (ts.tb s c)) l
    | none => .un
  | _ => v
def vtV (C : Cx K) (ts : TS K) (v : TV K) : TV K := match v.s with
  | .agg cs => .agg (cs.map (vt1 C ts))
  | _ => vt1 C ts v
/-- its results lead nowhere: rows are but lent -/
def flR (C : Cx K) (sp : Sp K) : Bool := sp.rs.all fun t => (C.T t).fl
def flS (C : Cx K) (Φ : List (Sp K)) (f : Nat) : Bool := match lkS Φ f with
  | some sp => flR C sp
  | none => false
def tcall (C : Cx K) (Φ : List (Sp K)) (ts : TS K) (d : Option Nat) (f : Nat) (vs : List (TV K)) (X : TS K → Prop) : Prop :=
  match lkS Φ f with
  | some sp => match flR C sp with
    | true => match outA C Φ sp.ps (vs.map (vtV C ts)) with
      | some env => twf C sp env fun v => X (ts.put d v)
      | none => False
    | false => match tpubs C ts vs with
      | some (ws, ts') => match outA C Φ sp.ps ws with
        | some env => twf C sp env fun v => X (ts'.put d v)
        | none => False
      | none => False
  | none => False
def adD : AD K → Option (DV K)
  | .d y => some y
  | .f _ => none
def tcalv (C : Cx K) (ts : TS K) (d : Option Nat) (F : FV K) (ps rs : List Nat) (vs : List (TV K)) (X : TS K → Prop) : Prop :=
  match tpubs C ts vs with
  | some (ws, ts') => match outD C (ps.map .v) ws with
    | some env => exR C rs fun r us => F.W (env.filterMap adD) r ∧ X (ts'.put d (tres us))
    | none => False
  | none => False

/-! ### a step -/
def eqO : AOpd → AOpd → Bool
  | .t a, .t b => Nat.beq a b
  | .c (.it _ a), .c (.it _ b) => decide (a = b)
  | _, _ => false
structure Cf (K : Nat → Type) where
  C : Cx K
  S : List (Sp K)
  N : Nat
def tslot (N : Nat) : AOpd → Bool
  | .t n => Nat.ble (n + 1) N
  | .c _ => false
def tlen (C : Cx K) (nofact : Bool) (ts : TS K) (X : TV K → Prop) : TV K → Prop
  | .sl _ l => match nofact with
    | true => X (.it .i64 (l.length : Int))
    | false => l.length ≤ maxLen → X (.it .i64 (l.length : Int))
  | .nil => X (.li .i64 0)
  | .em => X (.li .i64 0)
  | .rw s c => match ts.tb s c with
    | some (.row _ l) => X (.it .i64 (l.length : Int))
    | some (.lrow _ n _) => X (.li .i64 (n : Int))
    | _ => False
  | _ => False
def step (F : Cf K) (drw : Bool) (o : AO) (ts : TS K) (X : TS K → Prop) : Prop :=
  match o.op with
  | .ld g sz a => tld F.C g sz ts (fun v => X (ts.put o.dst v)) (tev ts.fr a)
  | .sto sz a v => tsto F.C sz ts (tcl (tea ts.fr v)) (fun t => X (t.put o.dst .un)) (tev ts.fr a)
  | .pick c a b => match tev ts.fr c with
    | .lb true => X (ts.put o.dst (tea ts.fr a))
    | .lb false => X (ts.put o.dst (tea ts.fr b))
    | _ => False
  | .box e sz x => match Nat.beq (tcl (tea ts.fr x)).length sz && (tcl (tea ts.fr x)).all tone && Nat.ble 1 sz with
    | true => tfresh ts (site o.dst) (X (tnew ts o.dst (.box e (tcl (tea ts.fr x))) fun s => .px s 2 0))
    | false => False
  | .bsl e sz n z parts => match Nat.beq z.length sz && Nat.beq (F.C.E e).sz sz && Nat.ble (n * sz) 16777216 with
    | true => tfresh ts (site o.dst) (wpo' (tfill (List.replicate n (cvAs z)).flatten (parts.map fun p => (p.1, p.2.1, tea ts.fr p.2.2))) fun cs => X (tnew ts o.dst (.lrow e n (cs.map twk)) trw))
    | false => False
  | .mks e sz bytes z x y => match tint (tev ts.fr x), tint (tev ts.fr y), (F.C.T e).rd ((cvAs z).map TV.s) with
    | some (_, q), some (_, _), some v => match Nat.beq z.length sz && Nat.beq (F.C.E e).sz sz && eqO x y with
      | true => tfresh ts (site o.dst) (0 ≤ q ∧ bytes * q.toNat ≤ 281474976710656 ∧ q ≤ 1000000000 ∧ X (tnew ts o.dst (.row e (List.replicate q.toNat v)) trw))
      | false => False
    | _, _, _ => False
  | .iad sz x i => match tint (tev ts.fr i) with
    | some (_, q) => tiad F.C sz ts q (fun v => X (ts.put o.dst v)) (tev ts.fr x)
    | none => False
  | .len x => tlen F.C (drw || !tslot F.N x) ts (fun v => X (ts.put o.dst v)) (tev ts.fr x)
  | .app e sz bytes x y => match Nat.beq (F.C.E e).sz sz && Nat.ble bytes 100000 with
    | true => wpo' (tsrc F.C e ts (tev ts.fr y)) fun l2 => tapp F.C e o.dst ts l2 (ifL (tshort ts (tev ts.fr y)) (l2.length ≤ 400000000)) X (tev ts.fr x)
    | false => False
  | .apps e x y => match tev ts.fr y, (F.C.T e).ob with
    | .st l, some f => tapp F.C e o.dst ts (l.map f) [l.length ≤ 400000000] X (tev ts.fr x)
    | _, _ => False
  | .b2s x => match tev ts.fr x with
    | .sl e l => match (F.C.T e).tb with
      | some f => X (ts.put o.dst (.st (l.map f)))
      | none => False
    | .rw s c => match (F.C.T (tbe (ts.tb s c))).tb, trow F.C (tbe (ts.tb s c)) (ts.tb s c) with
      | some f, some l => X (ts.put o.dst (.st (l.map f)))
      | _, _ => False
    | .nil => X (ts.put o.dst (.st []))
    | _ => False
  | .sll sz x lo hi => match tev ts.fr x with
    | .sl e l => match Nat.beq sz (F.C.E e).sz, tbnd ts.fr 0 lo, tbnd ts.fr l.length hi with
      | true, some a, some b => (0 ≤ a ∧ a ≤ b ∧ b ≤ l.length) ∧ X (ts.put o.dst (.sl e (tslice l a b)))
      | _, _, _ => False
    | .rw s c => match Nat.beq sz (F.C.E (tbe (ts.tb s c))).sz, lo, trow F.C (tbe (ts.tb s c)) (ts.tb s c) with
      | true, none, some l => match tbnd ts.fr l.length hi with
        | some b => (0 ≤ b ∧ b ≤ l.length) ∧ X (((ts.mapv (tdrop s c)).setb s c (some (.row (tbe (ts.tb s c)) (l.take b.toNat)))).put o.dst (.rw s c))
        | none => False
      | _, _, _ => False
    | _ => False
  | .call f args => tcall F.C F.S ts o.dst f (args.map (tea ts.fr)) X
  | .calv x args => match tev ts.fr x with
    | .fn f a c => tcall F.C F.S ts o.dst f (a ++ args.map (tea ts.fr) ++ c) X
    | .fv ps rs V => tcalv F.C ts o.dst V ps rs (args.map (tea ts.fr)) X
    | _ => False
  | u => match tqv ts u with
    | some (cs, v) => andL cs (X (ts.put o.dst v))
    | none => False

/-! ### places are named anew; rows are made ones for good -/
mutual
def rnV (A : Nat → Nat → Option (TV K)) (B : Nat → Nat → Option Nat) : TV K → TV K
  | .agg cs => .agg (rnVs A B cs)
  | .tup cs => .tup (rnVs A B cs)
  | .fn f a c => .fn f (rnVs A B a) (rnVs A B c)
  | .rw s c => match A s c with
    | some w => w
    | none => .un
  | .px s c o => match B s c with
    | some s1 => .px s1 1 o
    | none => .un
  | .pr e s c i o => match A s c with
    | some (.rw s1 _) => .pr e s1 1 i o
    | _ => .un
  | v => v
def rnVs (A : Nat → Nat → Option (TV K)) (B : Nat → Nat → Option Nat) : List (TV K) → List (TV K)
  | [] => []
  | v :: r => rnV A B v :: rnVs A B r
end
/-- names from 2000000 on are the caller's: none of these is new -/
def nwL : List (Nat × Option (TB K)) → List (Nat × Option (TB K))
  | [] => []
  | p :: r => match Nat.ble 2000000 p.1 with
    | true => nwL r
    | false => p :: nwL r
def erN (nw : List (Nat × Option (TB K))) (s c : Nat) : Option Nat := match memB nw s with
  | true => match Nat.beq c 2 with
    | true => some s
    | false => none
  | false => match Nat.beq c 1 with
    | true => some s
    | false => none
def erA (ts : TS K) (s c : Nat) : Option (TV K) := match tln (ts.tb s c) with
  | some _ => match erN (nwL ts.nw) s c with
    | some s => some (.rw s 1)
    | none => none
  | none => none
def erB (ts : TS K) (s c : Nat) : Option Nat := match ts.tb s c with
  | some (.box _ _) => erN (nwL ts.nw) s c
  | _ => none
/-- the end of a region: new places take the old ones' names -/
def er (ts : TS K) : TS K := ⟨mapF (rnV (erA ts) (erB ts)) ts.fr, mapM (rnV (erA ts) (erB ts)) (nwL ts.nw ++ ts.od), [], ts.rg, ts.h⟩
def fzS (ts : TS K) (s0 : Nat) (w : TV K) (s c : Nat) : Option (TV K) := match Nat.beq c 1 with
  | true => match Nat.beq s s0 with
    | true => some w
    | false => match tln (ts.tb s 1) with
      | some _ => some (.rw s 1)
      | none => none
  | false => none
def fzB (ts : TS K) (s c : Nat) : Option Nat := match Nat.beq c 1, ts.tb s 1 with
  | true, some (.box _ _) => some s
  | _, _ => none
/-- a row is made one for good -/
def fz (C : Cx K) (ts : TS K) (s : Nat) : TS K := match ts.nw, trow C (tbe (ts.tb s 1)) (ts.tb s 1) with
  | [], some l => ⟨mapF (rnV (fzS ts s (.sl (tbe (ts.tb s 1)) l)) (fzB ts)) ts.fr, (s, none) :: mapM (rnV (fzS ts s (.sl (tbe (ts.tb s 1)) l)) (fzB ts)) ts.od, [], ts.rg, ts.h⟩
  | _, _ => ts
mutual
def rwsV : TV K → List Nat
  | .agg cs => rwsVs cs
  | .tup cs => rwsVs cs
  | .rw s _ => [s]
  | _ => []
def rwsVs : List (TV K) → List Nat
  | [] => []
  | v :: r => rwsV v ++ rwsVs r
end
/-- rows in these values, and those that they lead to, are made ones for good -/
def fzA (C : Cx K) : Nat → List (TV K) → TS K → TS K
  | 0, _, ts => ts
  | n + 1, vs, ts => match rwsVs vs with
    | [] => ts
    | s :: _ => match ts.tb s 1 with
      | some (.lrow _ _ cs) => fz C (fzA C n cs ts) s
      | _ => fz C ts s

/-! ### what is known where ways meet -/
inductive CT where
  | i
  | b
  | s
  | l (e : Nat)
  | v (t : Nat)
inductive Kd where
  | it (k : IntKind)
  | bl
  | st
  | sl (e : Nat)
  | v (t : Nat)
  | agg (l : List Kd)
  | row (s : Nat)
  | px (s off : Nat)
  | kp (id : Nat)
  | nil
  | un
structure Tm where
  ks : List (Nat × Kd)
  bx : List (Nat × Nat × List Kd)
  rw : List (Nat × Nat)
/-- rows and boxes, as they are named there -/
structure RM where
  r : List (Nat × Option (Nat × Nat))
  b : List (Nat × (Nat × Nat))
def lkA {α : Type} : List (Nat × α) → Nat → Option α
  | [], _ => none
  | p :: r, s => match Nat.beq p.1 s with
    | true => some p.2
    | false => lkA r s
def sameP (p q : Nat × Nat) : Bool := Nat.beq p.1 q.1 && Nat.beq p.2 q.2
def sameO : Option (Nat × Nat) → Option (Nat × Nat) → Bool
  | none, none => true
  | some p, some q => sameP p q
  | _, _ => false
def addA {α : Type} (eq : α → α → Bool) (m : List (Nat × α)) (s : Nat) (p : α) : Option (List (Nat × α)) := match lkA m s with
  | none => some ((s, p) :: m)
  | some q => match eq p q with
    | true => some m
    | false => none
def addR (m : RM) (s : Nat) (p : Option (Nat × Nat)) : Option (List (DV K) × RM) := match addA sameO m.r s p with
  | some r => some ([], ⟨r, m.b⟩)
  | none => none
def addB (m : RM) (s : Nat) (p : Nat × Nat) : Option (List (DV K) × RM) := match addA sameP m.b s p with
  | some b => some ([], ⟨m.r, b⟩)
  | none => none
mutual
def ctV : Kd → List CT
  | .it _ => [.i]
  | .bl => [.b]
  | .st => [.s]
  | .sl e => [.l e]
  | .v t => [.v t]
  | .agg l => ctVs l
  | _ => []
def ctVs : List Kd → List CT
  | [] => []
  | k :: r => ctV k ++ ctVs r
end
def ctT (τ : Tm) : List CT := (τ.ks.flatMap fun p => ctV p.2) ++ (τ.bx.flatMap fun p => ctVs p.2.2) ++ τ.rw.map fun p => .l p.2
def rd1 (C : Cx K) (k : Kd) (v : TV K) (m : RM) : Option (List (DV K) × RM) := match k with
  | .it k => match tint v.s with
    | some (k', n) => if k = k' then some ([.i n], m) else none
    | none => none
  | .bl => match tbo v.s with
    | some b => some ([.b b], m)
    | none => none
  | .st => match v.s with
    | .st s => some ([.s s], m)
    | _ => none
  | .sl e => match v.s with
    | .sl e' l => match castL e' e l with
      | some l => some ([.l e l], m)
      | none => none
    | .nil => some ([.l e []], m)
    | .em => some ([.l e []], m)
    | _ => none
  | .v t => match outV C t v with
    | some x => some ([.v t x], m)
    | none => none
  | .row s => match v.s with
    | .rw s' c => addR m s (some (s', c))
    | .nil => addR m s none
    | _ => none
  | .px s off => match v.s with
    | .px s' c off' => match Nat.beq off off' with
      | true => addB m s (s', c)
      | false => none
    | _ => none
  | .kp id => match v with
    | .cn id' _ => match Nat.beq id id' with
      | true => some ([], m)
      | false => none
    | _ => none
  | .nil => match v.s with
    | .nil => some ([], m)
    | _ => none
  | .un => some ([], m)
  | .agg _ => none
mutual
def rdV (C : Cx K) : Kd → TV K → RM → Option (List (DV K) × RM)
  | .agg l, v, m => match v.s with
    | .agg vs => rdVs C l vs m
    | _ => none
  | k, v, m => rd1 C k v m
def rdVs (C : Cx K) : List Kd → List (TV K) → RM → Option (List (DV K) × RM)
  | [], [], m => some ([], m)
  | k :: r, v :: q, m => match rdV C k v m with
    | some (a, m) => match rdVs C r q m with
      | some (b, m) => some (a ++ b, m)
      | none => none
    | none => none
  | _, _, _ => none
end
def rdS (C : Cx K) (fr : List (Nat × TV K)) : List (Nat × Kd) → RM → Option (List (DV K) × RM)
  | [], m => some ([], m)
  | p :: r, m => match rdV C p.2 (lkT fr p.1) m with
    | some (a, m) => match rdS C fr r m with
      | some (b, m) => some (a ++ b, m)
      | none => none
    | none => none
def rdB (C : Cx K) (ts : TS K) : List (Nat × Nat × List Kd) → RM → Option (List (DV K) × RM)
  | [], m => some ([], m)
  | p :: r, m => match lkA m.b p.1 with
    | some q => match ts.tb q.1 q.2 with
      | some (.box e cs) => match Nat.beq e p.2.1 with
        | true => match rdVs C p.2.2 cs m with
          | some (a, m) => match rdB C ts r m with
            | some (b, m) => some (a ++ b, m)
            | none => none
          | none => none
        | false => none
      | _ => none
    | _ => none
def rdR (C : Cx K) (ts : TS K) (m : RM) : List (Nat × Nat) → Option (List (DV K))
  | [] => some []
  | p :: r => match lkA m.r p.1 with
    | some none => (rdR C ts m r).map fun b => .l p.2 [] :: b
    | some (some q) => match trow C p.2 (ts.tb q.1 q.2) with
      | some l => (rdR C ts m r).map fun b => .l p.2 l :: b
      | none => none
    | none => none
def memN2 : List (Nat × Nat) → Nat × Nat → Bool
  | [], _ => false
  | p :: r, q => sameP p q || memN2 r q
def plsR : List (Nat × Option (Nat × Nat)) → List (Nat × Nat)
  | [] => []
  | (_, some p) :: r => p :: plsR r
  | (_, none) :: r => plsR r
def nodN2 : List (Nat × Nat) → Bool
  | [] => true
  | p :: r => !memN2 r p && nodN2 r
/-- every place is told, by names that are apart -/
def domRM (m : RM) (τ : Tm) : Bool := (m.b.all fun p => τ.bx.any fun q => Nat.beq q.1 p.1) && (m.r.all fun p => τ.rw.any fun q => Nat.beq q.1 p.1) && τ.bx.all fun p => τ.rw.all fun q => !Nat.beq p.1 q.1
/-- a place of the caller's keeps its name -/
def fixM (m : RM) : Bool := (m.b.all fun p => !Nat.ble 2000000 p.1 || sameP p.2 (p.1, 1)) && m.r.all fun p => !Nat.ble 2000000 p.1 || match p.2 with
  | some q => sameP q (p.1, 1)
  | none => true
def rdT (C : Cx K) (τ : Tm) (ts : TS K) : Option (List (DV K)) := match rdS C ts.fr τ.ks ⟨[], []⟩ with
  | some (a, m) => match rdB C ts τ.bx m with
    | some (b, m) => match rdR C ts m τ.rw, nodN2 (plsR m.r ++ m.b.map (·.2)) && domRM m τ && fixM m with
      | some c, true => some (a ++ b ++ c)
      | _, _ => none
    | none => none
  | none => none
def lkR : List (Nat × TV K) → Nat → Option (TV K)
  | [], _ => none
  | p :: r, t => match Nat.beq p.1 t with
    | true => some p.2
    | false => lkR r t
/-! a state, out of what is known -/
mutual
def bdV (C : Cx K) (rg : List (Nat × TV K)) : Kd → List (DV K) → TV K × List (DV K)
  | .it k, .i n :: r => (.it k n, r)
  | .bl, .b b :: r => (.bl b, r)
  | .st, .s s :: r => (.st s, r)
  | .sl e, .l e' l :: r => (match castL e' e l with | some l => .sl e l | none => .un, r)
  | .v t, .v t' x :: r => (if h : t' = t then inV C t (h ▸ x) else .un, r)
  | .agg l, r => let p := bdVs C rg l r; (.agg p.1, p.2)
  | .row s, r => (.rw s 1, r)
  | .px s o, r => (.px s 1 o, r)
  | .kp id, r => (match lkR rg id with | some v => .cn id v | none => .un, r)
  | .nil, r => (.nil, r)
  | _, r => (.un, r)
def bdVs (C : Cx K) (rg : List (Nat × TV K)) : List Kd → List (DV K) → List (TV K) × List (DV K)
  | [], r => ([], r)
  | k :: q, r => let p := bdV C rg k r; let p' := bdVs C rg q p.2; (p.1 :: p'.1, p'.2)
end
def bdS (C : Cx K) (rg : List (Nat × TV K)) : List (Nat × Kd) → List (DV K) → List (Nat × TV K) × List (DV K)
  | [], r => ([], r)
  | k :: q, r => let p := bdV C rg k.2 r; let p' := bdS C rg q p.2; ((k.1, p.1) :: p'.1, p'.2)
def bdB (C : Cx K) (rg : List (Nat × TV K)) : List (Nat × Nat × List Kd) → List (DV K) → List (Nat × Option (TB K)) × List (DV K)
  | [], r => ([], r)
  | k :: q, r => let p := bdVs C rg k.2.2 r; let p' := bdB C rg q p.2; ((k.1, some (.box k.2.1 p.1)) :: p'.1, p'.2)
def bdR : List (Nat × Nat) → List (DV K) → List (Nat × Option (TB K))
  | k :: q, .l e l :: r => (match castL e k.2 l with | some l => (k.1, some (.row k.2 l)) | none => (k.1, none)) :: bdR q r
  | _, _ => []
def bdT (C : Cx K) (τ : Tm) (rg : List (Nat × TV K)) (h : List (HO K)) (env : List (DV K)) : TS K :=
  let p := bdS C rg τ.ks env; let q := bdB C rg τ.bx p.2; ⟨p.1, q.1 ++ bdR τ.rw q.2, [], rg, h⟩
/-! what stays is marked -/
mutual
def tagV : Kd → TV K → List (Nat × TV K) → TV K × List (Nat × TV K)
  | .kp id, v, rg => match norefV v, lkR rg id with
    | true, none => (.cn id v, (id, v) :: rg)
    | _, _ => (v, rg)
  | .agg l, .agg vs, rg => let p := tagVs l vs rg; (.agg p.1, p.2)
  | _, v, rg => (v, rg)
def tagVs : List Kd → List (TV K) → List (Nat × TV K) → List (TV K) × List (Nat × TV K)
  | k :: r, v :: q, rg => let p := tagV k v rg; let p' := tagVs r q p.2; (p.1 :: p'.1, p'.2)
  | _, vs, rg => (vs, rg)
end
def tagS : List (Nat × Kd) → TS K → TS K
  | [], ts => ts
  | p :: r, ts => let q := tagV p.2 (lkT ts.fr p.1) ts.rg; tagS r ⟨(p.1, q.1) :: ts.fr, ts.od, ts.nw, q.2, ts.h⟩
def tagB : List (Nat × Nat × List Kd) → TS K → TS K
  | [], ts => ts
  | p :: r, ts => match lkB ts.od p.1 with
    | some (.box e cs) => let q := tagVs p.2.2 cs ts.rg; tagB r ⟨ts.fr, (p.1, some (.box e q.1)) :: ts.od, ts.nw, q.2, ts.h⟩
    | _ => tagB r ts
def tagT (τ : Tm) (ts : TS K) : TS K := tagB τ.bx (tagS τ.ks ts)
/-- rows where slices are told are made ones for good -/
def fzT (C : Cx K) (fr : List (Nat × TV K)) : List (Nat × Kd) → TS K → TS K
  | [], ts => ts
  | (t, .sl _) :: r, ts => fzT C fr r (match (lkT fr t).s with | .rw s 1 => fz C ts s | _ => ts)
  | _ :: r, ts => fzT C fr r ts
def rdJ (C : Cx K) (τ : Tm) (ts : TS K) (J : List (DV K) → Prop) : Prop := match rdT C τ (fzT C ts.fr τ.ks ts) with
  | some env => J env
  | none => False

/-! ### what ways that meet ask for -/
def CTy (K : Nat → Type) : CT → Type
  | .i => Int
  | .b => Bool
  | .s => Str
  | .l e => List (K e)
  | .v t => K t
def Cur (K : Nat → Type) (R : Type) : List CT → Type
  | [] => R
  | c :: r => CTy K c → Cur K R r
def outI : DV K → Option Int
  | .i n => some n
  | _ => none
def outBo : DV K → Option Bool
  | .b b => some b
  | _ => none
def outS : DV K → Option Str
  | .s s => some s
  | _ => none
def outL (e : Nat) : DV K → Option (List (K e))
  | .l e' l => castL e' e l
  | _ => none
def outT (t : Nat) : DV K → Option (K t)
  | .v t' x => if h : t' = t then some (h ▸ x) else none
  | _ => none
def outC (c : CT) : DV K → Option (CTy K c) := match c with
  | .i => outI
  | .b => outBo
  | .s => outS
  | .l e => outL e
  | .v t => outT t
def inC : (c : CT) → CTy K c → DV K
  | .i, n => .i n
  | .b, b => .b b
  | .s, s => .s s
  | .l e, l => .l e l
  | .v t, x => .v t x
def apC {R : Type} (d : R) : (cs : List CT) → Cur K R cs → List (DV K) → R
  | [], f, [] => f
  | [], _, _ :: _ => d
  | c :: cs, f, x :: env => match outC c x with
    | some y => apC d cs (f y) env
    | none => d
  | _ :: _, _, [] => d
def allC : (cs : List CT) → (List (DV K) → Prop) → Prop
  | [], p => p []
  | c :: cs, p => ∀ x : CTy K c, allC cs fun env => p (inC c x :: env)

/-! ### functions that are lent places -/
/-- a function: slots of function values; what it is handed and lent, as at its start; its results and what it leaves, as at its end; names of what it leaves as it was -/
structure Sl (K : Nat → Type) where
  f : Nat
  fs : List (Nat × List Nat × List Nat)
  ti : Tm
  te : Tm
  kp : List Nat
  W : List (FV K) → List (DV K) → List (DV K) → Prop
def memNn : List Nat → Nat → Bool
  | [], _ => false
  | x :: r, y => Nat.beq x y || memNn r y
def Sl.kbx (sp : Sl K) : List (Nat × Nat × List Kd) := sp.ti.bx.filter fun p => memNn sp.kp p.1
def Sl.krw (sp : Sl K) : List (Nat × Nat) := sp.ti.rw.filter fun p => memNn sp.kp p.1
/-- all that is told at its end -/
def Sl.to (sp : Sl K) : Tm := ⟨sp.te.ks, sp.te.bx ++ sp.kbx, sp.te.rw ++ sp.krw⟩
/-! what a function leaves as it was -/
inductive An (K : Nat → Type) where
  | o
  | s (a b : An K)
  | c (a b : An K)
  | b (a : An K)
  | l (τ : Tm) (a : List (DV K) → An K)
  | j (τ : Tm) (a : An K) (b : List (DV K) → An K)

/-! ### code -/
def tgd (fr : List (Nat × TV K)) (g : Option (Nat × Bool)) (run skip : Prop) (both : Nat → Bool → Bool → Prop) : Prop := match g with
  | none => run
  | some (d, b) => match (lkT fr d).s with
    | .lb c => match c == b with
      | true => run
      | false => skip
    | .bl c => both d c b
    | .tup [] => skip
    | _ => False
def frzs (F : Cf K) (args : List AOpd) (ts : TS K) : TS K := match rwsVs (args.map (tea ts.fr)) with
  | [] => ts
  | _ => args.foldl (fun ts x => fzA F.C 9 [tea ts.fr x] ts) (er ts)
/-- which operands' rows are made ones for good -/
def frzO (F : Cf K) (fr : List (Nat × TV K)) : AOp → List AOpd
  | .call f args => match flS F.C F.S f with
    | true => []
    | false => args
  | .calv x args => match tev fr x with
    | .fn f _ _ => match flS F.C F.S f with
      | true => []
      | false => args
    | _ => args
  | .bsl _ _ _ _ parts => parts.map fun p => p.2.2
  | _ => []
def frzA (F : Cf K) (o : AO) (ts : TS K) : TS K := frzs F (frzO F ts.fr o.op) ts
def topg (F : Cf K) (o : AO) (R : TS K → Prop) (ts : TS K) : Prop :=
  tgd ts.fr o.guard (step F false o ts R) (R (ts.put o.dst (.tup [])))
    fun d c b => cnd c (match b with
      | true => step F false o (ts.put (some d) (.lb true)) R
      | false => R ((ts.put (some d) (.lb true)).put o.dst (.tup []))) (match b with
      | true => R ((ts.put (some d) (.lb false)).put o.dst (.tup []))
      | false => step F false o (ts.put (some d) (.lb false)) R)
def tops (F : Cf K) : List AO → TS K → (TS K → Prop) → Prop
  | [], ts, X => X ts
  | o :: r, ts, X => topg F o (fun t => tops F r t X) (frzA F o ts)
/-! a region that draws its order: which places an operation looks at and turns -/
structure TFt where
  rk : List (Nat × Nat)
  wk : List (Nat × Nat)
def tky1 (ts : TS K) (v : TV K) : Option (List (Nat × Nat)) := match v.s with
  | .un => none
  | .rw s c => match tln (ts.tb s c) with
    | some _ => some [(s, c)]
    | none => none
  | .px s c _ => some [(s, c)]
  | .pr _ s c _ _ => some [(s, c)]
  | _ => some []
def tkys (ts : TS K) (f : TV K → Option (List (Nat × Nat))) : List (TV K) → Option (List (Nat × Nat))
  | [] => some []
  | v :: r => match f v, tkys ts f r with
    | some a, some b => some (a ++ b)
    | _, _ => none
def tky (ts : TS K) (v : TV K) : Option (List (Nat × Nat)) := match v.s with
  | .agg cs => tkys ts (tky1 ts) cs
  | _ => tky1 ts v
def tkcap (ts : TS K) (v : TV K) : Option (List (Nat × Nat)) := match v.s with
  | .fn _ a c => tkys ts (tky ts) (a ++ c)
  | .fv _ _ _ => some []
  | _ => none
def trf : TV K → List (Nat × Nat)
  | .rw s c => [(s, c)]
  | .px s c _ => [(s, c)]
  | .pr _ s c _ _ => [(s, c)]
  | _ => []
/-- which places it turns -/
def twk' (ts : TS K) (o : AO) : List (Nat × Nat) := match o.op with
  | .box .. | .bsl .. | .mks .. => [(site o.dst, 2)]
  | .app _ _ _ x _ => (site o.dst, 2) :: trf (tev ts.fr x)
  | .apps _ x _ => (site o.dst, 2) :: trf (tev ts.fr x)
  | .sto _ a _ => trf (tev ts.fr a)
  | .sll _ x _ _ => trf (tev ts.fr x)
  | _ => []
def trows : List (TV K) → List (Nat × Nat)
  | [] => []
  | v :: r => match v.s with
    | .rw s c => (s, c) :: trows r
    | _ => trows r
def tft (F : Cf K) (ts : TS K) (o : AO) : Option TFt := match o.op with
  | .call f args => match tkys ts (tky ts) (args.map (tea ts.fr)) with
    | some l => some ⟨l, match flS F.C F.S f with
      | true => []
      | false => trows (args.map (tea ts.fr))⟩
    | none => none
  | .calv x args => match tkcap ts (tea ts.fr x), tkys ts (tky ts) (args.map (tea ts.fr)) with
    | some a, some l => some ⟨a ++ l, trows (match tev ts.fr x with | .fn _ a c => a ++ args.map (tea ts.fr) ++ c | _ => args.map (tea ts.fr))⟩
    | _, _ => none
  | u => match tkys ts (tky ts) ((opds u).map (tea ts.fr)) with
    | some l => some ⟨l, twk' ts o⟩
    | none => none
def memQ : List (Nat × Nat) → Nat × Nat → Bool
  | [], _ => false
  | p :: r, q => (Nat.beq p.1 q.1 && Nat.beq p.2 q.2) || memQ r q
def okT (a b : TFt) : Bool := (a.wk.all fun p => !memQ b.rk p && !memQ b.wk p) && b.wk.all fun p => !memQ a.rk p
def okTs (t : TFt) (acc : List TFt) : List Nat → Bool
  | [] => true
  | j :: r => (match acc[j]? with
    | some x => okT t x
    | none => true) && okTs t acc r
def tdrun (F : Cf K) (o : AO) (fre : List Nat) (acc : List TFt) (R : List TFt → TS K → Prop) (ts : TS K) : Prop := match tft F ts o with
  | some t => match okTs t acc fre with
    | true => step F true o ts (R (acc ++ [t]))
    | false => False
  | none => False
def tdg (F : Cf K) (o : AO) (fre : List Nat) (acc : List TFt) (R : List TFt → TS K → Prop) (ts : TS K) : Prop :=
  tgd ts.fr o.guard (tdrun F o fre acc R ts) (R (acc ++ [⟨[], []⟩]) (ts.put o.dst (.tup [])))
    fun d c b => cnd c (match b with
      | true => tdrun F o fre acc R (ts.put (some d) (.lb true))
      | false => R (acc ++ [⟨[], []⟩]) ((ts.put (some d) (.lb true)).put o.dst (.tup []))) (match b with
      | true => R (acc ++ [⟨[], []⟩]) ((ts.put (some d) (.lb false)).put o.dst (.tup []))
      | false => tdrun F o fre acc R (ts.put (some d) (.lb false)))
def tdrw (F : Cf K) : List (AO × List Nat) → List TFt → TS K → (TS K → Prop) → Prop
  | [], _, ts, X => X ts
  | (o, fre) :: r, acc, ts, X => tdg F o fre acc (fun acc t => tdrw F r acc t X) ts
/-- where a slot's value comes from, within a region -/
def srcD (L : List (AO × List Nat)) : Nat → Nat → Nat
  | 0, n => n
  | k + 1, n => match L.find? (fun p => match p.1.dst with | some d => Nat.beq d n | none => false) with
    | some (⟨_, _, .mv (.t m)⟩, _) => srcD L k m
    | _ => n
/-- rows that are handed over are made ones for good ahead of it -/
def frzD (F : Cf K) (L : List (AO × List Nat)) (ts : TS K) : TS K :=
  (L.flatMap fun p => (frzO F ts.fr p.1.op).flatMap fun x => match x with | .t n => [srcD L 9 n] | .c _ => []).foldl (fun ts n => fzA F.C 9 [lkT ts.fr n] ts) ts
def Dn (F : Cf K) : An K → ACode → (AEx → TS K → Prop) → TS K → Prop
  | .o, .skip, Q, ts => Q .n ts
  | .o, .ops L, Q, ts => tops F L ts fun t => Q .n (er t)
  | .o, .drw L, Q, ts => tdrw F L [] (frzD F L ts) fun t => Q .n (er t)
  | .o, .exit id, Q, ts => Q (.x id) ts
  | .o, .ret, Q, ts => Q .r ts
  | .s a b, .seq x y, Q, ts => Dn F a x (fun e t => match e with
    | .n => Dn F b y Q t
    | e => Q e t) ts
  | .c a b, .cond u x y, Q, ts => match tev ts.fr u with
    | .lb true => Dn F a x Q ts
    | .lb false => Dn F b y Q ts
    | .bl c => cnd c (Dn F a x Q ts) (Dn F b y Q ts)
    | _ => False
  | .b a, .block id x, Q, ts => Dn F a x (fun e t => match e with
    | .x i => match Nat.beq i id with
      | true => Q .n t
      | false => Q (.x i) t
    | e => Q e t) ts
  | .l τ a, .loop x, Q, ts => ∀ X : Cur K Prop (ctT τ), (allC (ctT τ) fun env => Dn F (a env) x (fun e t => match e with
      | .n => rdJ F.C τ t (apC False (ctT τ) X)
      | e => Q e t) (bdT F.C τ (tagT τ ts).rg ts.h env) → apC False (ctT τ) X env) → rdJ F.C τ (tagT τ ts) (apC False (ctT τ) X)
  | .j τ a b, .seq x y, Q, ts => ∀ J : Cur K Prop (ctT τ), (allC (ctT τ) fun env => Dn F (b env) y Q (bdT F.C τ (tagT τ ts).rg ts.h env) → apC False (ctT τ) J env) →
      Dn F a x (fun e t => match e with
        | .n => rdJ F.C τ t (apC False (ctT τ) J)
        | e => Q e t) (tagT τ ts)
  | _, _, _, _ => False
/-! ### a function -/
def resT (ts : TS K) : Nat × Option Nat → Option (TV K)
  | (t, none) => some (lkT ts.fr t)
  | (t, some 0) => match (lkT ts.fr t).s with
    | .px s c o => match ts.tb s c with
      | some (.box _ cs) => cs[o]?
      | _ => none
    | _ => none
  | (t, some (sz + 1)) => match (lkT ts.fr t).s with
    | .px s c o => match ts.tb s c with
      | some (.box _ cs) => tldc true (sz + 1) o cs
      | _ => none
    | _ => none
def resTs (ts : TS K) : List (Nat × Option Nat) → Option (List (TV K))
  | [] => some []
  | p :: r => match resT ts p, resTs ts r with
    | some v, some vs => some (v :: vs)
    | _, _ => none
def outR (C : Cx K) : List Nat → List (TV K) → (List (DV K) → Prop) → Prop
  | [], [], p => p []
  | t :: r, v :: q, p => match outV C t v with
    | some x => outR C r q fun env => p (.v t x :: env)
    | none => False
  | _, _, _ => False
def retF (C : Cx K) (res : List (Nat × Option Nat)) (ts : TS K) : Nat → TS K
  | 0 => ts
  | n + 1 => match resTs ts res with
    | some vs => match rwsVs vs with
      | [] => ts
      | s :: _ => retF C res (fzA C 9 [.rw s 1] ts) n
    | none => ts
def retD (C : Cx K) (res : List (Nat × Option Nat)) (rs : List Nat) (p : List (DV K) → Prop) : AEx → TS K → Prop
  | .x _, _ => False
  | _, ts => match resTs (retF C res ts 9) res with
    | some vs => outR C rs vs p
    | none => False
def entT (C : Cx K) : List PD → List (AD K) → Nat → List (Nat × TV K)
  | .v t :: ps, .d (.v t' x) :: env, i => (i, if h : t' = t then inV C t (h ▸ x) else .un) :: entT C ps env (i + 1)
  | .p t :: ps, .d (.v t' x) :: env, i => (i, if h : t' = t then .ep t [h ▸ x] 0 0 else .un) :: entT C ps env (i + 1)
  | .f as bs :: ps, .f F :: env, i => (i, .fv as bs F) :: entT C ps env (i + 1)
  | _, _, _ => []
def eqR : List (DV K) → List (DV K) → Prop
  | [], [] => True
  | [.v t x], [.v t' y] => if h : t = t' then h ▸ x = y else False
  | .v t x :: a, .v t' y :: b => (if h : t = t' then h ▸ x = y else False) ∧ eqR a b
  | _, _ => False
/-- what a function comes to -/
def DnF (F : Cf K) (A : An K) (c : AFn) (ps : List PD) (rs : List Nat) (env : List (AD K)) (r : List (DV K)) : Prop :=
  Dn F A c.body (retD F.C c.res rs fun x => eqR x r) ⟨entT F.C ps env 0, [], [], [], []⟩
end Go.AV

