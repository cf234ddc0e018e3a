/- General texts and own ones, joined: what the program computes, told of abstract states, and the laws of plain data. No condition. -/
import Derived.Test.YtoiojmpkifgimaaDoorMb
noncomputable section
namespace Go.AV
open Go.RowKit Go.RG Go.Lib
inductive HO (K : Nat → Type) where
 | ob (e : Nat) (x : K e)
 | row (e : Nat) (l : List (K e))
 | dead
inductive DV (K : Nat → Type) where
 | i (n : Int)
 | b (b : Bool)
 | s (s : Str)
 | l (e : Nat) (l : List (K e))
 | v (t : Nat) (x : K t)
structure FV (K : Nat → Type) where
 av : AV
 W : List (DV K) -> List (DV K) -> Prop
inductive AD (K : Nat → Type) where
 | d (x : DV K)
 | f (F : FV K)
inductive TV (K : Nat → Type) where
 | un
 | lb (b : Bool)
 | bl (b : Bool)
 | li (k : IntKind) (n : Int)
 | it (k : IntKind) (n : Int)
 | st (s : Str)
 | agg (cs : List (TV K))
 | tup (cs : List (TV K))
 | nil
 | em
 | sl (e : Nat) (l : List (K e))
 | rw (s c : Nat)
 | px (s c off : Nat)
 | pr (e s c i of : Nat)
 | ep (e : Nat) (l : List (K e)) (i of : Nat)
 | gs (l : List Str) (i : Nat)
 | nptr
 | fn (f : Nat) (a c : List (TV K))
 | fv (ps rs : List Nat) (F : FV K)
 | cn (id : Nat) (v : TV K)
inductive TB (K : Nat → Type) where
 | box (e : Nat) (cs : List (TV K))
 | row (e : Nat) (l : List (K e))
 | lrow (e n : Nat) (cs : List (TV K))
structure Ty (K : Nat → Type) (t : Nat) where
 g : Bool
 c : K t -> List (TV K)
 rd : List (TV K) -> Option (K t)
 tb : Option (K t -> UInt8)
 ob : Option (UInt8 -> K t)
 fl : Bool
structure Cx (K : Nat → Type) where
 T : ∀ t, Ty K t
 E : ∀ t, Enc (K t)
structure TS (K : Nat → Type) where
 fr : List (Nat × TV K)
 od : List (Nat × Option (TB K))
 nw : List (Nat × Option (TB K))
 rg : List (Nat × TV K)
 h : List (HO K)
variable {K : Nat -> Type}
def TV.s : TV K → TV K
 | .cn _ v => v
 | v => v
def lkT : List (Nat × TV K) → Nat → TV K
 | [], _ => .un
 | p :: r, t => match Nat.beq p.1 t with
   | true => p.2
   | false => lkT r t
def lkB : List (Nat × Option (TB K)) → Nat → Option (TB K)
 | [], _ => none
 | p :: r, t => match Nat.beq p.1 t with
   | true => p.2
   | false => lkB r t
def memB : List (Nat × Option (TB K)) → Nat → Bool
 | [], _ => false
 | p :: r, t => Nat.beq p.1 t || memB r t
def TS.tb (ts : TS K) (s c : Nat) : Option (TB K) := match Nat.beq c 1 with
 | true => lkB ts.od s
 | false => match Nat.beq c 2 with
   | true => lkB ts.nw s
   | false => none
def TS.setb (ts : TS K) (s c : Nat) (b : Option (TB K)) : TS K := match Nat.beq c 1 with
 | true => ⟨ts.fr, (s, b) :: ts.od, ts.nw, ts.rg, ts.h⟩
 | false => ⟨ts.fr, ts.od, (s, b) :: ts.nw, ts.rg, ts.h⟩
def TS.put (ts : TS K) (d : Option Nat) (v : TV K) : TS K := match d with
 | some d => ⟨(d, v) :: ts.fr, ts.od, ts.nw, ts.rg, ts.h⟩
 | none => ts
def yli : List AV → Option (List Str)
 | [] => some []
 | .st s :: r => match yli r with
   | some l => some (s :: l)
   | none => none
 | _ => none
mutual
def cvA : AV → TV K
 | .bl b => .lb b
 | .it k n => .li k n
 | .st s => .st s
 | .agg cs => .agg (cvAs cs)
 | .tup cs => .tup (cvAs cs)
 | .sl true 0 [] => .nil
 | .nptr => .nptr
 | .fn (.func f) [] [] => .fn f [] []
 | .ep cs off => match yli cs with
   | some l => .gs l off
   | none => .un
 | _ => .un
def cvAs : List AV → List (TV K)
 | [] => []
 | v :: r => cvA v :: cvAs r
end
def tea (fr : List (Nat × TV K)) : AOpd → TV K
 | .t n => lkT fr n
 | .c v => cvA v
def tev (fr : List (Nat × TV K)) (x : AOpd) : TV K := (tea fr x).s
def tcl (v : TV K) : List (TV K) := match v.s with
 | .agg cs => cs
 | _ => [v]
def ynl : TV K → Bool
 | .agg _ | .tup _ | .un | .cn _ _ => false
 | _ => true
def tone : TV K → Bool
 | .cn _ v => ynl v
 | v => ynl v
def twk (v : TV K) : TV K := match v.s with
 | .nil => .em
 | .agg _ => .un
 | .tup _ => .un
 | .fn _ _ _ => .un
 | .rw _ _ => .un
 | w => w
def tint : TV K → Option (IntKind × Int)
 | .it k n => some (k, n)
 | .li k n => some (k, n)
 | _ => none
def tlit : TV K → Bool
 | .li _ _ => true
 | _ => false
def tbo : TV K → Option Bool
 | .bl b => some b
 | .lb b => some b
 | _ => none
abbrev TR0 (K : Nat -> Type) := Option (List Prop × TV K)
def tnum (op : BinOp) (k : IntKind) (a b : Int) (lit : Bool) : TR0 K := match op with
 | .add => some ([], .it k (k.wrap (a + b)))
 | .sub => some ([], .it k (k.wrap (a - b)))
 | .mul => some ([], .it k (k.wrap (a * b)))
 | .quo => match lit with
   | true => if b = 0 then none else some ([], .it k (k.wrap (a.tdiv b)))
   | false => some ([b ≠ 0], .it k (k.wrap (a.tdiv b)))
 | .rem => match lit with
   | true => if b = 0 then none else some ([], .it k (a.tmod b))
   | false => some ([b ≠ 0], .it k (a.tmod b))
 | .and => some ([], .it k (bits .and k a b))
 | .or => some ([], .it k (bits .or k a b))
 | .xor => some ([], .it k (bits .xor k a b))
 | .lss => some ([], .bl (decide (a < b)))
 | .leq => some ([], .bl (decide (a <= b)))
 | .gtr => some ([], .bl (decide (b < a)))
 | .geq => some ([], .bl (decide (b <= a)))
 | _ => none
def tsh (op : BinOp) (k : IntKind) (a b : Int) : Option (TV K) := match op with
 | .shl => some (.it k (k.wrap (a * 2 ^ (min b.toNat k.bits))))
 | .shr => some (.it k (a.fdiv (2 ^ (min b.toNat k.bits))))
 | _ => none
def tshi (op : BinOp) (k : IntKind) (a b : Int) (lit : Bool) : TR0 K := match tsh op k a b with
 | some v => match lit with
   | true => if b < 0 then none else some ([], v)
   | false => some ([¬ b < 0], v)
 | none => none
def tstr (op : BinOp) (a b : Str) : TR0 K := match op with
 | .add => some ([a.length + b.length <= 9223372036854775807], .st (a ++ b))
 | .lss => some ([], .bl (Op.bytesLess a b))
 | .leq => some ([], .bl (Op.bytesLess a b || a == b))
 | .gtr => some ([], .bl (!(Op.bytesLess a b || a == b)))
 | .geq => some ([], .bl (!Op.bytesLess a b))
 | _ => none
def ysF : BinOp → Bool
 | .shl | .shr => true
 | _ => false
def tbin (op : BinOp) (x y : TV K) : TR0 K := match x, y with
 | .st a, .st b => tstr op a b
 | x, y => match tint x, tint y with
   | some (k, a), some (k', b) => match ysF op with
     | true => tshi op k a b (tlit y)
     | false => if k = k' then tnum op k a b (tlit y) else none
   | _, _ => none
def teq1 : Nat → TV K → TV K → Option Bool
 | 0, x, y => match tbo x, tbo y with
   | some a, some b => some (a == b)
   | _, _ => none
 | 1, x, y => match tint x, tint y with
   | some (k, a), some (k', b) => if k = k' then some (a == b) else none
   | _, _ => none
 | 2, .st a, .st b => some (a == b)
 | _, _, _ => none
def teq (g : Bool) (kind : Nat) (x y : TV K) : TR0 K := match kind with
 | 4 => match x, y with
   | .nil, .nil => some ([], .lb (!g))
   | _, _ => none
 | 3 => match x, y with
   | .nptr, .nptr => some ([], .lb (!g))
   | _, _ => none
 | k => match teq1 k x y with
   | some b => some ([], .bl (ngB g b))
   | none => none
def teqL : List Nat → List (TV K) → List (TV K) → Option Bool
 | [], [], [] => some true
 | k :: ks, a :: r, b :: q => match teq1 k a.s b.s, teqL ks r q with
   | some x, some y => some (x && y)
   | _, _ => none
 | _, _, _ => none
def yl6 (cells : List (TV K)) : List (Nat × Nat × TV K) → Option (List (TV K))
 | [] => some cells
 | (off, sz, v) :: r => match Nat.beq (tcl v).length sz && Nat.ble (off + sz) cells.length && (tcl v).all tone with
   | true => yl6 (cells.take off ++ tcl v ++ cells.drop (off + sz)) r
   | false => none
def tbnd (fr : List (Nat × TV K)) (d : Int) : Option AOpd → Option Int
 | none => some d
 | some x => match tint (tev fr x) with
   | some (_, n) => some n
   | none => none
def tmnL (mx : Bool) (k : IntKind) (a : Int) : List (TV K) → Option (TV K)
 | [] => some (.it k a)
 | v :: r => match tint v with
   | some (k', b) => if k' = k then tmnL mx k (match mx with | true => if b > a then b else a | false => if b < a then b else a) r else none
   | none => none
def ypw (ts : TS K) (s c : Nat) (v : TV K) : TR0 K := match ts.tb s c with
 | some _ => some ([], v)
 | none => none
def tlvx (ts : TS K) (s c : Nat) (v : TV K) : TR0 K := match ts.tb s c with
 | some (.box _ _) => some ([], v)
 | _ => none
def selI : List (TV K) → Option (IntKind × List Int)
 | [] => none
 | v :: r => match tint v.s with
   | some (k, n) => match r with
     | [] => some (k, [n])
     | _ :: _ => match selI r with
       | some (k', l) => if k = k' then some (k, n :: l) else none
       | none => none
   | none => none
def selS : List (TV K) → Option (List Str)
 | [] => some []
 | v :: r => match v.s, selS r with
   | .st s, some l => some (s :: l)
   | _, _ => none
def tsel (cs : List (TV K)) (len : Nat) (i : Int) : TR0 K := match selI cs with
 | some (k, l) => some ([0 <= i /\ i < len], .it k ((l[i.toNat]?).getD 0))
 | none => match selS cs with
   | some l => some ([0 <= i /\ i < len], .st ((l[i.toNat]?).getD []))
   | none => none
def tqv (ts : TS K) (u : AOp) : TR0 K := let fr := ts.fr; match u with
 | .mv x => some ([], tea fr x)
 | .bld z parts => match yl6 (cvAs z) (parts.map fun p => (p.1, p.2.1, tea fr p.2.2)) with
   | some cs => some ([], .agg cs)
   | none => none
 | .nck x => match tev fr x with
   | .px s c o => tlvx ts s c (.px s c o)
   | .pr e s c i o => ypw ts s c (.pr e s c i o)
   | .ep e l i o => some ([], .ep e l i o)
   | .gs l i => some ([], .gs l i)
   | .fn f a c => some ([], .fn f a c)
   | .fv ps rs F => some ([], .fv ps rs F)
   | _ => none
 | .bin op x y => tbin op (tev fr x) (tev fr y)
 | .eq g kind x y => teq g kind (tev fr x) (tev fr y)
 | .eqs g ks x y => match tev fr x, tev fr y with
   | .agg a, .agg b => match teqL ks a b with
     | some r => some ([], .bl (ngB g r))
     | none => none
   | _, _ => none
 | .un op x => match op with
   | .neg => match tint (tev fr x) with
     | some (k, n) => some ([], .it k (k.wrap (0 - n)))
     | none => none
   | .not => match tev fr x with
     | .lb b => some ([], .lb (!b))
     | .bl b => some ([], .bl (!b))
     | _ => none
   | _ => none
 | .cvi k x => match tint (tev fr x) with
   | some (_, n) => some ([], .it k (k.wrap n))
   | none => none
 | .cvs x => match tev fr x with
   | .st l => some ([], .st l)
   | _ => none
 | .sls x lo hi => match tev fr x with
   | .st l => match tbnd fr 0 lo, tbnd fr l.length hi with
     | some a, some b => some ([0 <= a /\ a <= b /\ b <= l.length], .st ((l.drop a.toNat).take (b.toNat - a.toNat)))
     | _, _ => none
   | _ => none
 | .fad off x => match tev fr x with
   | .px s c o => tlvx ts s c (.px s c (o + off))
   | .pr e s c i o => ypw ts s c (.pr e s c i (o + off))
   | .ep e l i o => some ([], .ep e l i (o + off))
   | _ => none
 | .fld g off sz x => match tev fr x with
   | .agg cs => match g with
     | true => some ([], .agg ((cs.drop off).take sz))
     | false => match cs[off]? with
       | some v => some ([], v)
       | none => none
   | _ => none
 | .iada len sz x i => match tev fr x, tev fr i with
   | .px s c o, .li _ i => if 0 <= i /\ i < len then tlvx ts s c (.px s c (o + i.toNat * sz)) else none
   | .gs l o, y => match tint y with
     | some (_, i) => some ([0 <= i /\ i < len], .gs l (o + i.toNat * sz))
     | none => none
   | _, _ => none
 | .idxs x i => match tev fr x, tint (tev fr i) with
   | .st l, some (_, i) => some ([0 <= i /\ i < l.length], .it .u8 (bAt l i))
   | _, _ => none
 | .idxa g len sz x i => match tev fr x, tev fr i with
   | .agg cs, .li _ i => if 0 ≤ i ∧ i < len then (match g with
     | true => some ([], .agg ((cs.drop (i.toNat * sz)).take sz))
     | false => match cs[i.toNat * sz]? with
       | some v => some ([], v)
       | none => none) else none
   | .agg cs, .it _ i => match !g && Nat.beq sz 1 && Nat.ble len cs.length with
     | true => tsel cs len i
     | false => none
   | _, _ => none
 | .ext x i => match tev fr x with
   | .tup vs => match vs[i]? with
     | some v => some ([], v)
     | none => none
   | _ => none
 | .lens x => match tev fr x with
   | .st l => some ([], .it .i64 (l.length : Int))
   | _ => none
 | .mnx mx xs => match xs with
   | [] => none
   | x :: r => match tint (tev fr x) with
     | some (k, a) => match tmnL mx k a (r.map (tev fr)) with
       | some v => some ([], v)
       | none => none
     | none => none
 | .mkf (.func f) a c => some ([], .fn f (a.map (tea fr)) (c.map (tea fr)))
 | _ => none
def andL : List Prop → Prop → Prop
 | [], p => p
 | c :: r, p => c /\ andL r p
def ifL (b : Bool) (c : Prop) : List Prop := match b with
 | true => []
 | false => [c]
def yhy (e e' : Nat) (l : List (K e)) : Option (List (K e')) := if h : e = e' then some (h ▸ l) else none
def yoD {T : Type} (mk : List (TV K) → Option T) (sz : Nat) : Nat → List (TV K) → Option (List T)
 | 0, _ => some []
 | n + 1, cs => match mk ((cs.take sz).map TV.s), yoD mk sz n (cs.drop sz) with
   | some x, some r => some (x :: r)
   | _, _ => none
def trow (C : Cx K) (e : Nat) (b : Option (TB K)) : Option (List (K e)) := match b with
 | some (.row e' l) => yhy e' e l
 | some (.lrow e' n cs) => match Nat.beq e' e with
   | true => yoD (C.T e).rd (C.E e).sz n cs
   | false => none
 | _ => none
def tbe : Option (TB K) → Nat
 | some (.row e _) => e
 | some (.lrow e _ _) => e
 | _ => 0
def tln : Option (TB K) → Option Nat
 | some (.row _ l) => some l.length
 | some (.lrow _ n _) => some n
 | _ => none
def tfew : Option (TB K) → Bool
 | some (.lrow _ n _) => Nat.ble n 1000
 | _ => false
def tldc (g : Bool) (sz off : Nat) (cs : List (TV K)) : Option (TV K) := match g with
 | true => match Nat.ble (off + sz) cs.length with
   | true => some (.agg ((cs.drop off).take sz))
   | false => none
 | false => cs[off]?
def wpo' {α : Type} (o : Option α) (X : α → Prop) : Prop := match o with
 | some x => X x
 | none => False
def tld (C : Cx K) (g : Bool) (sz : Nat) (ts : TS K) (X : TV K → Prop) : TV K → Prop
 | .px s c off => match ts.tb s c with
   | some (.box _ cs) => wpo' (tldc g sz off cs) X
   | some (.lrow _ _ cs) => wpo' (tldc g sz off cs) X
   | _ => False
 | .pr e s c i of => wpo' (trow C e (ts.tb s c)) fun l => ∃ y : K e, l[i]? = some y /\ wpo' (tldc g sz of ((C.T e).c y)) X
 | .ep e l i of => ∃ y : K e, l[i]? = some y /\ wpo' (tldc g sz of ((C.T e).c y)) X
 | .gs l i => match g with
   | true => match Nat.beq i 0 && Nat.beq sz l.length with
     | true => X (.agg (l.map .st))
     | false => False
   | false => ∃ y : Str, l[i]? = some y /\ X (.st y)
 | _ => False
def yfn (cs : List (TV K)) (off : Nat) (vs : List (TV K)) : List (TV K) := cs.take off ++ vs ++ cs.drop (off + vs.length)
def tsto (C : Cx K) (sz : Nat) (ts : TS K) (vs : List (TV K)) (X : TS K → Prop) : TV K → Prop
 | .px s c off => match ts.tb s c with
   | some (.box e cs) => match Nat.beq vs.length sz && vs.all tone && Nat.ble (off + sz) cs.length with
     | true => X (ts.setb s c (some (.box e (yfn cs off vs))))
     | false => False
   | _ => False
 | .pr e s c i of => match Nat.beq vs.length sz && vs.all tone && Nat.ble (of + sz) (C.E e).sz with
   | true => wpo' (trow C e (ts.tb s c)) fun l => ∃ y : K e, l[i]? = some y /\ wpo' ((C.T e).rd ((yfn ((C.T e).c y) of vs).map TV.s)) fun y' => X (ts.setb s c (some (.row e (l.set i y'))))
   | false => False
 | _ => False
def yhC (ts : TS K) (d : Nat) (p : Prop) : Prop := match memB ts.nw d with
 | true => False
 | false => p
def tnew (ts : TS K) (d : Option Nat) (b : TB K) (v : Nat -> TV K) : TS K := (ts.setb (site d) 2 (some b)).put d (v (site d))
def tiad (C : Cx K) (sz : Nat) (ts : TS K) (q : Int) (X : TV K → Prop) : TV K → Prop
 | .sl e l => match Nat.beq sz (C.E e).sz with
   | true => 0 <= q /\ q < l.length /\ X (.ep e l q.toNat 0)
   | false => False
 | .rw s c => match Nat.beq sz (C.E (tbe (ts.tb s c))).sz with
   | true => wpo' (trow C (tbe (ts.tb s c)) (ts.tb s c)) fun l => 0 <= q /\ q < l.length /\ X (.pr (tbe (ts.tb s c)) s c q.toNat 0)
   | false => False
 | _ => False
def tsrc (C : Cx K) (e : Nat) (ts : TS K) : TV K → Option (List (K e))
 | .sl e' l => yhy e' e l
 | .rw s c => trow C e (ts.tb s c)
 | .nil => some []
 | .em => some []
 | _ => none
def ymT (ts : TS K) : TV K → Bool
 | .rw s c => tfew (ts.tb s c)
 | .nil => true
 | .em => true
 | _ => false
def trw (s : Nat) : TV K := .rw s 2
def tapp (C : Cx K) (e : Nat) (d : Option Nat) (ts : TS K) (l2 : List (K e)) (c2 : List Prop) (X : TS K → Prop) : TV K → Prop
 | .nil => yhC ts (site d) (andL c2 (X (tnew ts d (.row e l2) trw)))
 | .rw s c => yhC ts (site d) (wpo' (trow C e (ts.tb s c)) fun l => andL (ifL (tfew (ts.tb s c)) (l.length <= 1000000000)) (andL c2 (X (tnew (ts.setb s c none) d (.row e (l ++ l2)) trw))))
 | _ => False
mutual
def yeX (s c : Nat) : TV K → TV K
 | .agg cs => .agg (ygk s c cs)
 | .tup cs => .tup (ygk s c cs)
 | .rw s' c' => match Nat.beq s s' && Nat.beq c c' with
   | true => .un
   | false => .rw s' c'
 | .pr e s' c' i o => match Nat.beq s s' && Nat.beq c c' with
   | true => .un
   | false => .pr e s' c' i o
 | .fn _ _ _ => .un
 | .cn i v => .cn i v
 | v => v
def ygk (s c : Nat) : List (TV K) → List (TV K)
 | [] => []
 | v :: r => yeX s c v :: ygk s c r
end
def yeF {T : Type} (l : List T) (a b : Int) : List T := (l.drop a.toNat).take (b.toNat - a.toNat)
def mapB (f : TV K → TV K) : Option (TB K) → Option (TB K)
 | some (.box e cs) => some (.box e (cs.map f))
 | some (.lrow e n cs) => some (.lrow e n (cs.map f))
 | b => b
def mapF (f : TV K → TV K) : List (Nat × TV K) → List (Nat × TV K)
 | [] => []
 | p :: r => (p.1, f p.2) :: mapF f r
def mapM (f : TV K → TV K) : List (Nat × Option (TB K)) → List (Nat × Option (TB K))
 | [] => []
 | p :: r => (p.1, mapB f p.2) :: mapM f r
def TS.mapv (ts : TS K) (f : TV K -> TV K) : TS K := ⟨mapF f ts.fr, mapM f ts.od, mapM f ts.nw, ts.rg, ts.h⟩
inductive PD where
 | v (t : Nat)
 | p (t : Nat)
 | f (ps rs : List Nat)
structure Sp (K : Nat → Type) where
 f : Nat
 ps : List PD
 rs : List Nat
 W : List (AD K) -> List (DV K) -> Prop
def RTy (K : Nat → Type) : List Nat → Type
 | [] => Prop
 | r :: rs => K r -> RTy K rs
def FTy (K : Nat → Type) (rs : List Nat) : List Nat → Type
 | [] => RTy K rs
 | p :: ps => K p -> FTy K rs ps
def PTy (K : Nat → Type) : PD → Type
 | .v t => K t
 | .p t => K t
 | .f az bs => FTy K bs az
def WTy (K : Nat → Type) (rs : List Nat) : List PD → Type
 | [] => RTy K rs
 | p :: ps => PTy K p -> WTy K rs ps
def curR : (rs : List Nat) → (List (DV K) → Prop) → RTy K rs
 | [], W => W []
 | r :: rs, W => fun x => curR rs fun b => W (.v r x :: b)
def curF (rs : List Nat) : (ps : List Nat) → (List (DV K) → List (DV K) → Prop) → FTy K rs ps
 | [], W => curR rs (W [])
 | p :: ps, W => fun x => curF rs ps fun a b => W (.v p x :: a) b
def apR : (rs : List Nat) → RTy K rs → List (DV K) → Prop
 | [], w, [] => w
 | r :: rs, w, .v t x :: b => if h : t = r then apR rs (w (h ▸ x)) b else False
 | _, _, _ => False
def outP : (p : PD) → AD K → Option (PTy K p)
 | .v p, .d (.v t x) => if h : t = p then some (h ▸ x) else none
 | .p p, .d (.v t x) => if h : t = p then some (h ▸ x) else none
 | .f az bs, .f F => some (curF bs az F.W)
 | _, _ => none
def appW (rs : List Nat) : (ps : List PD) → WTy K rs ps → List (AD K) → List (DV K) → Prop
 | [], w, [], b => apR rs w b
 | p :: ps, w, x :: a, b => match outP p x with
   | some y => appW rs ps (w y) a b
   | none => False
 | _, _, _, _ => False
def lkS : List (Sp K) → Nat → Option (Sp K)
 | [], _ => none
 | p :: r, f => match Nat.beq p.f f with
   | true => some p
   | false => lkS r f
def outV (C : Cx K) (t : Nat) (v : TV K) : Option (K t) := match (C.T t).g, v.s with
 | true, .agg cs => (C.T t).rd (cs.map TV.s)
 | true, _ => none
 | false, .agg _ => none
 | false, w => (C.T t).rd [w]
def out1 (C : Cx K) : PD → TV K → Option (AD K)
 | .v t, v => match outV C t v with
   | some x => some (.d (.v t x))
   | none => none
 | .p t, v => match v.s with
   | .ep e [x] 0 0 => if h : e = t then some (.d (.v t (h ▸ x))) else none
   | _ => none
 | .f _ _, _ => none
def outD (C : Cx K) : List PD → List (TV K) → Option (List (AD K))
 | [], [] => some []
 | p :: ps, v :: vs => match out1 C p v, outD C ps vs with
   | some x, some r => some (x :: r)
   | _, _ => none
 | _, _ => none
def ysg (C : Cx K) (sp : Sp K) (np : Nat) (a c : List (TV K)) : Option (List (AD K) × List (AD K)) :=
 match outD C (sp.ps.take a.length) a, outD C (sp.ps.drop (a.length + np)) c with
 | some x, some y => some (x, y)
 | _, _ => none
mutual
def tAV (C : Cx K) : TV K → AV
 | .lb b => .bl b
 | .bl b => .bl b
 | .li k n => .it k n
 | .it k n => .it k n
 | .st s => .st s
 | .agg cs => .agg (tAVs C cs)
 | .tup cs => .tup (tAVs C cs)
 | .nil => .sl false 0 []
 | .em => .sl false 0 []
 | .sl e l => slA (C.E e) l
 | .ep e l i of => .ep (cl (C.E e) l) (i * (C.E e).sz + of)
 | .gs l i => .ep (l.map .st) i
 | .nptr => .nptr
 | .fn f a c => .fn (.func f) (tAVs C a) (tAVs C c)
 | .fv _ _ F => F.av
 | .cn _ v => tAV C v
 | _ => .un
def tAVs (C : Cx K) : List (TV K) → List AV
 | [] => []
 | v :: r => tAV C v :: tAVs C r
end
def allV : List PD → Bool
 | [] => true
 | .v _ :: r => allV r
 | _ => false
mutual
def ybf : TV K → Bool
 | .agg cs => ybp cs
 | .tup cs => ybp cs
 | .fn _ a c => ybp a && ybp c
 | .rw _ _ | .px _ _ _ | .pr _ _ _ _ _ | .cn _ _ | .un => false
 | _ => true
def ybp : List (TV K) → Bool
 | [] => true
 | v :: r => ybf v && ybp r
end
def yrd (C : Cx K) (Φ : List (Sp K)) : PD → TV K → Option (AD K)
 | .f ps _, v => match v.s with
   | .fv _ _ F => some (.f F)
   | .fn f a c => match lkS Φ f with
     | some sp => match ysg C sp ps.length a c with
       | some (x, y) => match allV ((sp.ps.drop a.length).take ps.length) && ybp a && ybp c with
         | true => some (.f ⟨.fn (.func f) (tAVs C a) (tAVs C c), fun e r => match Nat.beq e.length ps.length with
           | true => sp.W (x ++ e.map .d ++ y) r
           | false => False⟩)
         | false => none
       | none => none
     | none => none
   | _ => none
 | p, v => out1 C p v
def outA (C : Cx K) (Φ : List (Sp K)) : List PD → List (TV K) → Option (List (AD K))
 | [], [] => some []
 | p :: ps, v :: vs => match yrd C Φ p v, outA C Φ ps vs with
   | some x, some r => some (x :: r)
   | _, _ => none
 | _, _ => none
def inV (C : Cx K) (t : Nat) (x : K t) : TV K := match (C.T t).g with
 | true => .agg ((C.T t).c x)
 | false => match (C.T t).c x with
   | [v] => v
   | _ => .un
def exR (C : Cx K) : List Nat → (List (DV K) → List (TV K) → Prop) → Prop
 | [], p => p [] []
 | t :: r, p => ∃ z : K t, exR C r fun a b => p (.v t z :: a) (inV C t z :: b)
def tres : List (TV K) → TV K
 | [v] => v
 | vs => .tup vs
def twf (C : Cx K) (sp : Sp K) (env : List (AD K)) (X : TV K -> Prop) : Prop := exR C sp.rs fun rs vs => sp.W env rs /\ X (tres vs)
def yl8 (C : Cx K) : TS K → List (TV K) → Option (List (TV K) × TS K)
 | ts, [] => some ([], ts)
 | ts, v :: r => match v.s with
   | .rw s c => match trow C (tbe (ts.tb s c)) (ts.tb s c) with
     | some l => match yl8 C (ts.setb s c none) r with
       | some (ws, ts') => some (.sl (tbe (ts.tb s c)) l :: ws, ts')
       | none => none
     | none => none
   | _ => match yl8 C ts r with
     | some (ws, ts') => some (v :: ws, ts')
     | none => none
def vt1 (C : Cx K) (ts : TS K) (v : TV K) : TV K := match v.s with
 | .rw s c => match trow C (tbe (ts.tb s c)) (ts.tb s c) with
   | some l => .sl (tbe (ts.tb s c)) l
   | none => .un
 | _ => v
def vtV (C : Cx K) (ts : TS K) (v : TV K) : TV K := match v.s with
 | .agg cs => .agg (cs.map (vt1 C ts))
 | _ => vt1 C ts v
def flR (C : Cx K) (sp : Sp K) : Bool := sp.rs.all fun t => (C.T t).fl
def flS (C : Cx K) (Φ : List (Sp K)) (f : Nat) : Bool := match lkS Φ f with
 | some sp => flR C sp
 | none => false
def yo4 (C : Cx K) (Φ : List (Sp K)) (ts : TS K) (d : Option Nat) (f : Nat) (vs : List (TV K)) (X : TS K → Prop) : Prop :=
 match lkS Φ f with
 | some sp => match flR C sp with
   | true => match outA C Φ sp.ps (vs.map (vtV C ts)) with
     | some env => twf C sp env fun v => X (ts.put d v)
     | none => False
   | false => match yl8 C ts vs with
     | some (ws, ts') => match outA C Φ sp.ps ws with
       | some env => twf C sp env fun v => X (ts'.put d v)
       | none => False
     | none => False
 | none => False
def adD : AD K → Option (DV K)
 | .d y => some y
 | .f _ => none
def yrr (C : Cx K) (ts : TS K) (d : Option Nat) (F : FV K) (ps rs : List Nat) (vs : List (TV K)) (X : TS K → Prop) : Prop :=
 match yl8 C ts vs with
 | some (ws, ts') => match outD C (ps.map .v) ws with
   | some env => exR C rs fun r us => F.W (env.filterMap adD) r /\ X (ts'.put d (tres us))
   | none => False
 | none => False
def eqO : AOpd → AOpd → Bool
 | .t a, .t b => Nat.beq a b
 | .c (.it _ a), .c (.it _ b) => decide (a = b)
 | _, _ => false
structure Cf (K : Nat → Type) where
 C : Cx K
 S : List (Sp K)
 N : Nat
def ysp (N : Nat) : AOpd → Bool
 | .t n => Nat.ble (n + 1) N
 | .c _ => false
def tlen (C : Cx K) (nofact : Bool) (ts : TS K) (X : TV K → Prop) : TV K → Prop
 | .sl _ l => match nofact with
   | true => X (.it .i64 (l.length : Int))
   | false => l.length <= maxLen -> X (.it .i64 (l.length : Int))
 | .nil => X (.li .i64 0)
 | .em => X (.li .i64 0)
 | .rw s c => match ts.tb s c with
   | some (.row _ l) => X (.it .i64 (l.length : Int))
   | some (.lrow _ n _) => X (.li .i64 (n : Int))
   | _ => False
 | _ => False
def step (F : Cf K) (drw : Bool) (o : AO) (ts : TS K) (X : TS K → Prop) : Prop :=
 match o.op with
 | .ld g sz a => tld F.C g sz ts (fun v => X (ts.put o.dst v)) (tev ts.fr a)
 | .sto sz a v => tsto F.C sz ts (tcl (tea ts.fr v)) (fun t => X (t.put o.dst .un)) (tev ts.fr a)
 | .pick c a b => match tev ts.fr c with
   | .lb true => X (ts.put o.dst (tea ts.fr a))
   | .lb false => X (ts.put o.dst (tea ts.fr b))
   | _ => False
 | .box e sz x => match Nat.beq (tcl (tea ts.fr x)).length sz && (tcl (tea ts.fr x)).all tone && Nat.ble 1 sz with
   | true => yhC ts (site o.dst) (X (tnew ts o.dst (.box e (tcl (tea ts.fr x))) fun s => .px s 2 0))
   | false => False
 | .bsl e sz n z parts => match Nat.beq z.length sz && Nat.beq (F.C.E e).sz sz && Nat.ble (n * sz) 16777216 with
   | true => yhC ts (site o.dst) (wpo' (yl6 (List.replicate n (cvAs z)).flatten (parts.map fun p => (p.1, p.2.1, tea ts.fr p.2.2))) fun cs => X (tnew ts o.dst (.lrow e n (cs.map twk)) trw))
   | false => False
 | .mks e sz bytes z x y => match tint (tev ts.fr x), tint (tev ts.fr y), (F.C.T e).rd ((cvAs z).map TV.s) with
   | some (_, q), some (_, _), some v => match Nat.beq z.length sz && Nat.beq (F.C.E e).sz sz && eqO x y with
     | true => yhC ts (site o.dst) (0 <= q /\ bytes * q.toNat <= 281474976710656 /\ q <= 1000000000 /\ X (tnew ts o.dst (.row e (List.replicate q.toNat v)) trw))
     | false => False
   | _, _, _ => False
 | .iad sz x i => match tint (tev ts.fr i) with
   | some (_, q) => tiad F.C sz ts q (fun v => X (ts.put o.dst v)) (tev ts.fr x)
   | none => False
 | .len x => tlen F.C (drw || !ysp F.N x) ts (fun v => X (ts.put o.dst v)) (tev ts.fr x)
 | .app e sz bytes x y => match Nat.beq (F.C.E e).sz sz && Nat.ble bytes 100000 with
   | true => wpo' (tsrc F.C e ts (tev ts.fr y)) fun l2 => tapp F.C e o.dst ts l2 (ifL (ymT ts (tev ts.fr y)) (l2.length <= 400000000)) X (tev ts.fr x)
   | false => False
 | .apps e x y => match tev ts.fr y, (F.C.T e).ob with
   | .st l, some f => tapp F.C e o.dst ts (l.map f) [l.length <= 400000000] X (tev ts.fr x)
   | _, _ => False
 | .b2s x => match tev ts.fr x with
   | .sl e l => match (F.C.T e).tb with
     | some f => X (ts.put o.dst (.st (l.map f)))
     | none => False
   | .rw s c => match (F.C.T (tbe (ts.tb s c))).tb, trow F.C (tbe (ts.tb s c)) (ts.tb s c) with
     | some f, some l => X (ts.put o.dst (.st (l.map f)))
     | _, _ => False
   | .nil => X (ts.put o.dst (.st []))
   | _ => False
 | .sll sz x lo hi => match tev ts.fr x with
   | .sl e l => match Nat.beq sz (F.C.E e).sz, tbnd ts.fr 0 lo, tbnd ts.fr l.length hi with
     | true, some a, some b => (0 <= a /\ a <= b /\ b <= l.length) /\ X (ts.put o.dst (.sl e (yeF l a b)))
     | _, _, _ => False
   | .rw s c => match Nat.beq sz (F.C.E (tbe (ts.tb s c))).sz, lo, trow F.C (tbe (ts.tb s c)) (ts.tb s c) with
     | true, none, some l => match tbnd ts.fr l.length hi with
       | some b => (0 <= b /\ b <= l.length) /\ X (((ts.mapv (yeX s c)).setb s c (some (.row (tbe (ts.tb s c)) (l.take b.toNat)))).put o.dst (.rw s c))
       | none => False
     | _, _, _ => False
   | _ => False
 | .call f args => yo4 F.C F.S ts o.dst f (args.map (tea ts.fr)) X
 | .calv x args => match tev ts.fr x with
   | .fn f a c => yo4 F.C F.S ts o.dst f (a ++ args.map (tea ts.fr) ++ c) X
   | .fv ps rs V => yrr F.C ts o.dst V ps rs (args.map (tea ts.fr)) X
   | _ => False
 | u => match tqv ts u with
   | some (cs, v) => andL cs (X (ts.put o.dst v))
   | none => False
mutual
def rnV (A : Nat → Nat → Option (TV K)) (B : Nat → Nat → Option Nat) : TV K → TV K
 | .agg cs => .agg (rnVs A B cs)
 | .tup cs => .tup (rnVs A B cs)
 | .fn f a c => .fn f (rnVs A B a) (rnVs A B c)
 | .rw s c => match A s c with
   | some w => w
   | none => .un
 | .px s c o => match B s c with
   | some s1 => .px s1 1 o
   | none => .un
 | .pr e s c i o => match A s c with
   | some (.rw s1 _) => .pr e s1 1 i o
   | _ => .un
 | v => v
def rnVs (A : Nat → Nat → Option (TV K)) (B : Nat → Nat → Option Nat) : List (TV K) → List (TV K)
 | [] => []
 | v :: r => rnV A B v :: rnVs A B r
end
def nwL : List (Nat × Option (TB K)) → List (Nat × Option (TB K))
 | [] => []
 | p :: r => match Nat.ble 2000000 p.1 with
   | true => nwL r
   | false => p :: nwL r
def erN (nw : List (Nat × Option (TB K))) (s c : Nat) : Option Nat := match memB nw s with
 | true => match Nat.beq c 2 with
   | true => some s
   | false => none
 | false => match Nat.beq c 1 with
   | true => some s
   | false => none
def erA (ts : TS K) (s c : Nat) : Option (TV K) := match tln (ts.tb s c) with
 | some _ => match erN (nwL ts.nw) s c with
   | some s => some (.rw s 1)
   | none => none
 | none => none
def erB (ts : TS K) (s c : Nat) : Option Nat := match ts.tb s c with
 | some (.box _ _) => erN (nwL ts.nw) s c
 | _ => none
def er (ts : TS K) : TS K := ⟨mapF (rnV (erA ts) (erB ts)) ts.fr, mapM (rnV (erA ts) (erB ts)) (nwL ts.nw ++ ts.od), [], ts.rg, ts.h⟩
def fzS (ts : TS K) (s0 : Nat) (w : TV K) (s c : Nat) : Option (TV K) := match Nat.beq c 1 with
 | true => match Nat.beq s s0 with
   | true => some w
   | false => match tln (ts.tb s 1) with
     | some _ => some (.rw s 1)
     | none => none
 | false => none
def fzB (ts : TS K) (s c : Nat) : Option Nat := match Nat.beq c 1, ts.tb s 1 with
 | true, some (.box _ _) => some s
 | _, _ => none
def fz (C : Cx K) (ts : TS K) (s : Nat) : TS K := match ts.nw, trow C (tbe (ts.tb s 1)) (ts.tb s 1) with
 | [], some l => ⟨mapF (rnV (fzS ts s (.sl (tbe (ts.tb s 1)) l)) (fzB ts)) ts.fr, (s, none) :: mapM (rnV (fzS ts s (.sl (tbe (ts.tb s 1)) l)) (fzB ts)) ts.od, [], ts.rg, ts.h⟩
 | _, _ => ts
mutual
def rwsV : TV K → List Nat
 | .agg cs => ynf cs
 | .tup cs => ynf cs
 | .rw s _ => [s]
 | _ => []
def ynf : List (TV K) → List Nat
 | [] => []
 | v :: r => rwsV v ++ ynf r
end
def fzA (C : Cx K) : Nat → List (TV K) → TS K → TS K
 | 0, _, ts => ts
 | n + 1, vs, ts => match ynf vs with
   | [] => ts
   | s :: _ => match ts.tb s 1 with
     | some (.lrow _ _ cs) => fz C (fzA C n cs ts) s
     | _ => fz C ts s
inductive CT where
 | i
 | b
 | s
 | l (e : Nat)
 | v (t : Nat)
inductive Kd where
 | it (k : IntKind)
 | bl
 | st
 | sl (e : Nat)
 | v (t : Nat)
 | agg (l : List Kd)
 | row (s : Nat)
 | px (s off : Nat)
 | kp (id : Nat)
 | nil
 | un
structure Tm where
 ks : List (Nat × Kd)
 bx : List (Nat × Nat × List Kd)
 rw : List (Nat × Nat)
structure RM where
 r : List (Nat × Option (Nat × Nat))
 b : List (Nat × (Nat × Nat))
def lkA {α : Type} : List (Nat × α) → Nat → Option α
 | [], _ => none
 | p :: r, s => match Nat.beq p.1 s with
   | true => some p.2
   | false => lkA r s
def yhM (p q : Nat × Nat) : Bool := Nat.beq p.1 q.1 && Nat.beq p.2 q.2
def ysb : Option (Nat × Nat) → Option (Nat × Nat) → Bool
 | none, none => true
 | some p, some q => yhM p q
 | _, _ => false
def addA {α : Type} (eq : α → α → Bool) (m : List (Nat × α)) (s : Nat) (p : α) : Option (List (Nat × α)) := match lkA m s with
 | none => some ((s, p) :: m)
 | some q => match eq p q with
   | true => some m
   | false => none
def addR (m : RM) (s : Nat) (p : Option (Nat × Nat)) : Option (List (DV K) × RM) := match addA ysb m.r s p with
 | some r => some ([], ⟨r, m.b⟩)
 | none => none
def addB (m : RM) (s : Nat) (p : Nat × Nat) : Option (List (DV K) × RM) := match addA yhM m.b s p with
 | some b => some ([], ⟨m.r, b⟩)
 | none => none
mutual
def ctV : Kd → List CT
 | .it _ => [.i]
 | .bl => [.b]
 | .st => [.s]
 | .sl e => [.l e]
 | .v t => [.v t]
 | .agg l => ctVs l
 | _ => []
def ctVs : List Kd → List CT
 | [] => []
 | k :: r => ctV k ++ ctVs r
end
def ctT (τ : Tm) : List CT := (τ.ks.flatMap fun p => ctV p.2) ++ (τ.bx.flatMap fun p => ctVs p.2.2) ++ τ.rw.map fun p => .l p.2
def rd1 (C : Cx K) (k : Kd) (v : TV K) (m : RM) : Option (List (DV K) × RM) := match k with
 | .it k => match tint v.s with
   | some (k', n) => if k = k' then some ([.i n], m) else none
   | none => none
 | .bl => match tbo v.s with
   | some b => some ([.b b], m)
   | none => none
 | .st => match v.s with
   | .st s => some ([.s s], m)
   | _ => none
 | .sl e => match v.s with
   | .sl e' l => match yhy e' e l with
     | some l => some ([.l e l], m)
     | none => none
   | .nil => some ([.l e []], m)
   | .em => some ([.l e []], m)
   | _ => none
 | .v t => match outV C t v with
   | some x => some ([.v t x], m)
   | none => none
 | .row s => match v.s with
   | .rw s' c => addR m s (some (s', c))
   | .nil => addR m s none
   | _ => none
 | .px s off => match v.s with
   | .px s' c off' => match Nat.beq off off' with
     | true => addB m s (s', c)
     | false => none
   | _ => none
 | .kp id => match v with
   | .cn id' _ => match Nat.beq id id' with
     | true => some ([], m)
     | false => none
   | _ => none
 | .nil => match v.s with
   | .nil => some ([], m)
   | _ => none
 | .un => some ([], m)
 | .agg _ => none
mutual
def rdV (C : Cx K) : Kd → TV K → RM → Option (List (DV K) × RM)
 | .agg l, v, m => match v.s with
   | .agg vs => rdVs C l vs m
   | _ => none
 | k, v, m => rd1 C k v m
def rdVs (C : Cx K) : List Kd → List (TV K) → RM → Option (List (DV K) × RM)
 | [], [], m => some ([], m)
 | k :: r, v :: q, m => match rdV C k v m with
   | some (a, m) => match rdVs C r q m with
     | some (b, m) => some (a ++ b, m)
     | none => none
   | none => none
 | _, _, _ => none
end
def rdS (C : Cx K) (fr : List (Nat × TV K)) : List (Nat × Kd) → RM → Option (List (DV K) × RM)
 | [], m => some ([], m)
 | p :: r, m => match rdV C p.2 (lkT fr p.1) m with
   | some (a, m) => match rdS C fr r m with
     | some (b, m) => some (a ++ b, m)
     | none => none
   | none => none
def rdB (C : Cx K) (ts : TS K) : List (Nat × Nat × List Kd) → RM → Option (List (DV K) × RM)
 | [], m => some ([], m)
 | p :: r, m => match lkA m.b p.1 with
   | some q => match ts.tb q.1 q.2 with
     | some (.box e cs) => match Nat.beq e p.2.1 with
       | true => match rdVs C p.2.2 cs m with
         | some (a, m) => match rdB C ts r m with
           | some (b, m) => some (a ++ b, m)
           | none => none
         | none => none
       | false => none
     | _ => none
   | _ => none
def rdR (C : Cx K) (ts : TS K) (m : RM) : List (Nat × Nat) → Option (List (DV K))
 | [] => some []
 | p :: r => match lkA m.r p.1 with
   | some none => (rdR C ts m r).map fun b => .l p.2 [] :: b
   | some (some q) => match trow C p.2 (ts.tb q.1 q.2) with
     | some l => (rdR C ts m r).map fun b => .l p.2 l :: b
     | none => none
   | none => none
def ypD : List (Nat × Nat) → Nat × Nat → Bool
 | [], _ => false
 | p :: r, q => yhM p q || ypD r q
def plsR : List (Nat × Option (Nat × Nat)) → List (Nat × Nat)
 | [] => []
 | (_, some p) :: r => p :: plsR r
 | (_, none) :: r => plsR r
def yo9 : List (Nat × Nat) → Bool
 | [] => true
 | p :: r => !ypD r p && yo9 r
def ys6 (m : RM) (τ : Tm) : Bool := (m.b.all fun p => τ.bx.any fun q => Nat.beq q.1 p.1) && (m.r.all fun p => τ.rw.any fun q => Nat.beq q.1 p.1) && τ.bx.all fun p => τ.rw.all fun q => !Nat.beq p.1 q.1
def fixM (m : RM) : Bool := (m.b.all fun p => !Nat.ble 2000000 p.1 || yhM p.2 (p.1, 1)) && m.r.all fun p => !Nat.ble 2000000 p.1 || match p.2 with
 | some q => yhM q (p.1, 1)
 | none => true
def rdT (C : Cx K) (τ : Tm) (ts : TS K) : Option (List (DV K)) := match rdS C ts.fr τ.ks ⟨[], []⟩ with
 | some (a, m) => match rdB C ts τ.bx m with
   | some (b, m) => match rdR C ts m τ.rw, yo9 (plsR m.r ++ m.b.map (·.2)) && ys6 m τ && fixM m with
     | some c, true => some (a ++ b ++ c)
     | _, _ => none
   | none => none
 | none => none
def lkR : List (Nat × TV K) → Nat → Option (TV K)
 | [], _ => none
 | p :: r, t => match Nat.beq p.1 t with
   | true => some p.2
   | false => lkR r t
mutual
def bdV (C : Cx K) (rg : List (Nat × TV K)) : Kd → List (DV K) → TV K × List (DV K)
 | .it k, .i n :: r => (.it k n, r)
 | .bl, .b b :: r => (.bl b, r)
 | .st, .s s :: r => (.st s, r)
 | .sl e, .l e' l :: r => (match yhy e' e l with | some l => .sl e l | none => .un, r)
 | .v t, .v t' x :: r => (if h : t' = t then inV C t (h ▸ x) else .un, r)
 | .agg l, r => let p := bdVs C rg l r; (.agg p.1, p.2)
 | .row s, r => (.rw s 1, r)
 | .px s o, r => (.px s 1 o, r)
 | .kp id, r => (match lkR rg id with | some v => .cn id v | none => .un, r)
 | .nil, r => (.nil, r)
 | _, r => (.un, r)
def bdVs (C : Cx K) (rg : List (Nat × TV K)) : List Kd → List (DV K) → List (TV K) × List (DV K)
 | [], r => ([], r)
 | k :: q, r => let p := bdV C rg k r; let p' := bdVs C rg q p.2; (p.1 :: p'.1, p'.2)
end
def bdS (C : Cx K) (rg : List (Nat × TV K)) : List (Nat × Kd) → List (DV K) → List (Nat × TV K) × List (DV K)
 | [], r => ([], r)
 | k :: q, r => let p := bdV C rg k.2 r; let p' := bdS C rg q p.2; ((k.1, p.1) :: p'.1, p'.2)
def bdB (C : Cx K) (rg : List (Nat × TV K)) : List (Nat × Nat × List Kd) → List (DV K) → List (Nat × Option (TB K)) × List (DV K)
 | [], r => ([], r)
 | k :: q, r => let p := bdVs C rg k.2.2 r; let p' := bdB C rg q p.2; ((k.1, some (.box k.2.1 p.1)) :: p'.1, p'.2)
def bdR : List (Nat × Nat) → List (DV K) → List (Nat × Option (TB K))
 | k :: q, .l e l :: r => (match yhy e k.2 l with | some l => (k.1, some (.row k.2 l)) | none => (k.1, none)) :: bdR q r
 | _, _ => []
def bdT (C : Cx K) (τ : Tm) (rg : List (Nat × TV K)) (h : List (HO K)) (env : List (DV K)) : TS K :=
 let p := bdS C rg τ.ks env; let q := bdB C rg τ.bx p.2; ⟨p.1, q.1 ++ bdR τ.rw q.2, [], rg, h⟩
mutual
def tagV : Kd → TV K → List (Nat × TV K) → TV K × List (Nat × TV K)
 | .kp id, v, rg => match ybf v, lkR rg id with
   | true, none => (.cn id v, (id, v) :: rg)
   | _, _ => (v, rg)
 | .agg l, .agg vs, rg => let p := yen l vs rg; (.agg p.1, p.2)
 | _, v, rg => (v, rg)
def yen : List Kd → List (TV K) → List (Nat × TV K) → List (TV K) × List (Nat × TV K)
 | k :: r, v :: q, rg => let p := tagV k v rg; let p' := yen r q p.2; (p.1 :: p'.1, p'.2)
 | _, vs, rg => (vs, rg)
end
def tagS : List (Nat × Kd) → TS K → TS K
 | [], ts => ts
 | p :: r, ts => let q := tagV p.2 (lkT ts.fr p.1) ts.rg; tagS r ⟨(p.1, q.1) :: ts.fr, ts.od, ts.nw, q.2, ts.h⟩
def tagB : List (Nat × Nat × List Kd) → TS K → TS K
 | [], ts => ts
 | p :: r, ts => match lkB ts.od p.1 with
   | some (.box e cs) => let q := yen p.2.2 cs ts.rg; tagB r ⟨ts.fr, (p.1, some (.box e q.1)) :: ts.od, ts.nw, q.2, ts.h⟩
   | _ => tagB r ts
def tagT (τ : Tm) (ts : TS K) : TS K := tagB τ.bx (tagS τ.ks ts)
def fzT (C : Cx K) (fr : List (Nat × TV K)) : List (Nat × Kd) → TS K → TS K
 | [], ts => ts
 | (t, .sl _) :: r, ts => fzT C fr r (match (lkT fr t).s with | .rw s 1 => fz C ts s | _ => ts)
 | _ :: r, ts => fzT C fr r ts
def rdJ (C : Cx K) (τ : Tm) (ts : TS K) (J : List (DV K) → Prop) : Prop := match rdT C τ (fzT C ts.fr τ.ks ts) with
 | some env => J env
 | none => False
def CTy (K : Nat → Type) : CT → Type
 | .i => Int
 | .b => Bool
 | .s => Str
 | .l e => List (K e)
 | .v t => K t
def Cur (K : Nat → Type) (R : Type) : List CT → Type
 | [] => R
 | c :: r => CTy K c -> Cur K R r
def outI : DV K → Option Int
 | .i n => some n
 | _ => none
def yr7 : DV K → Option Bool
 | .b b => some b
 | _ => none
def outS : DV K → Option Str
 | .s s => some s
 | _ => none
def outL (e : Nat) : DV K → Option (List (K e))
 | .l e' l => yhy e' e l
 | _ => none
def outT (t : Nat) : DV K → Option (K t)
 | .v t' x => if h : t' = t then some (h ▸ x) else none
 | _ => none
def outC (c : CT) : DV K → Option (CTy K c) := match c with
 | .i => outI
 | .b => yr7
 | .s => outS
 | .l e => outL e
 | .v t => outT t
def inC : (c : CT) → CTy K c → DV K
 | .i, n => .i n
 | .b, b => .b b
 | .s, s => .s s
 | .l e, l => .l e l
 | .v t, x => .v t x
def apC {R : Type} (d : R) : (cs : List CT) → Cur K R cs → List (DV K) → R
 | [], f, [] => f
 | [], _, _ :: _ => d
 | c :: cs, f, x :: env => match outC c x with
   | some y => apC d cs (f y) env
   | none => d
 | _ :: _, _, [] => d
def allC : (cs : List CT) → (List (DV K) → Prop) → Prop
 | [], p => p []
 | c :: cs, p => ∀ x : CTy K c, allC cs fun env => p (inC c x :: env)
structure Sl (K : Nat → Type) where
 f : Nat
 fs : List (Nat × List Nat × List Nat)
 ti : Tm
 te : Tm
 kp : List Nat
 W : List (FV K) -> List (DV K) -> List (DV K) -> Prop
def yrx : List Nat → Nat → Bool
 | [], _ => false
 | x :: r, y => Nat.beq x y || yrx r y
def Sl.kbx (sp : Sl K) : List (Nat × Nat × List Kd) := sp.ti.bx.filter fun p => yrx sp.kp p.1
def Sl.krw (sp : Sl K) : List (Nat × Nat) := sp.ti.rw.filter fun p => yrx sp.kp p.1
def Sl.to (sp : Sl K) : Tm := ⟨sp.te.ks, sp.te.bx ++ sp.kbx, sp.te.rw ++ sp.krw⟩
inductive An (K : Nat → Type) where
 | o
 | s (a b : An K)
 | c (a b : An K)
 | b (a : An K)
 | l (τ : Tm) (a : List (DV K) -> An K)
 | j (τ : Tm) (a : An K) (b : List (DV K) -> An K)
def tgd (fr : List (Nat × TV K)) (g : Option (Nat × Bool)) (run skip : Prop) (both : Nat → Bool → Bool → Prop) : Prop := match g with
 | none => run
 | some (d, b) => match (lkT fr d).s with
   | .lb c => match c == b with
     | true => run
     | false => skip
   | .bl c => both d c b
   | .tup [] => skip
   | _ => False
def frzs (F : Cf K) (args : List AOpd) (ts : TS K) : TS K := match ynf (args.map (tea ts.fr)) with
 | [] => ts
 | _ => args.foldl (fun ts x => fzA F.C 9 [tea ts.fr x] ts) (er ts)
def frzO (F : Cf K) (fr : List (Nat × TV K)) : AOp → List AOpd
 | .call f args => match flS F.C F.S f with
   | true => []
   | false => args
 | .calv x args => match tev fr x with
   | .fn f _ _ => match flS F.C F.S f with
     | true => []
     | false => args
   | _ => args
 | .bsl _ _ _ _ parts => parts.map fun p => p.2.2
 | _ => []
def frzA (F : Cf K) (o : AO) (ts : TS K) : TS K := frzs F (frzO F ts.fr o.op) ts
def topg (F : Cf K) (o : AO) (R : TS K → Prop) (ts : TS K) : Prop :=
 tgd ts.fr o.guard (step F false o ts R) (R (ts.put o.dst (.tup [])))
  fun d c b => cnd c (match b with
   | true => step F false o (ts.put (some d) (.lb true)) R
   | false => R ((ts.put (some d) (.lb true)).put o.dst (.tup []))) (match b with
   | true => R ((ts.put (some d) (.lb false)).put o.dst (.tup []))
   | false => step F false o (ts.put (some d) (.lb false)) R)
def tops (F : Cf K) : List AO → TS K → (TS K → Prop) → Prop
 | [], ts, X => X ts
 | o :: r, ts, X => topg F o (fun t => tops F r t X) (frzA F o ts)
structure TFt where
 rk : List (Nat × Nat)
 wk : List (Nat × Nat)
def tky1 (ts : TS K) (v : TV K) : Option (List (Nat × Nat)) := match v.s with
 | .un => none
 | .rw s c => match tln (ts.tb s c) with
   | some _ => some [(s, c)]
   | none => none
 | .px s c _ => some [(s, c)]
 | .pr _ s c _ _ => some [(s, c)]
 | _ => some []
def tkys (ts : TS K) (f : TV K → Option (List (Nat × Nat))) : List (TV K) → Option (List (Nat × Nat))
 | [] => some []
 | v :: r => match f v, tkys ts f r with
   | some a, some b => some (a ++ b)
   | _, _ => none
def tky (ts : TS K) (v : TV K) : Option (List (Nat × Nat)) := match v.s with
 | .agg cs => tkys ts (tky1 ts) cs
 | _ => tky1 ts v
def yrF (ts : TS K) (v : TV K) : Option (List (Nat × Nat)) := match v.s with
 | .fn _ a c => tkys ts (tky ts) (a ++ c)
 | .fv _ _ _ => some []
 | _ => none
def trf : TV K → List (Nat × Nat)
 | .rw s c => [(s, c)]
 | .px s c _ => [(s, c)]
 | .pr _ s c _ _ => [(s, c)]
 | _ => []
def twk' (ts : TS K) (o : AO) : List (Nat × Nat) := match o.op with
 | .box .. | .bsl .. | .mks .. => [(site o.dst, 2)]
 | .app _ _ _ x _ => (site o.dst, 2) :: trf (tev ts.fr x)
 | .apps _ x _ => (site o.dst, 2) :: trf (tev ts.fr x)
 | .sto _ a _ => trf (tev ts.fr a)
 | .sll _ x _ _ => trf (tev ts.fr x)
 | _ => []
def ym4 : List (TV K) → List (Nat × Nat)
 | [] => []
 | v :: r => match v.s with
   | .rw s c => (s, c) :: ym4 r
   | _ => ym4 r
def tft (F : Cf K) (ts : TS K) (o : AO) : Option TFt := match o.op with
 | .call f args => match tkys ts (tky ts) (args.map (tea ts.fr)) with
   | some l => some ⟨l, match flS F.C F.S f with
     | true => []
     | false => ym4 (args.map (tea ts.fr))⟩
   | none => none
 | .calv x args => match yrF ts (tea ts.fr x), tkys ts (tky ts) (args.map (tea ts.fr)) with
   | some a, some l => some ⟨a ++ l, ym4 (match tev ts.fr x with | .fn _ a c => a ++ args.map (tea ts.fr) ++ c | _ => args.map (tea ts.fr))⟩
   | _, _ => none
 | u => match tkys ts (tky ts) ((opds u).map (tea ts.fr)) with
   | some l => some ⟨l, twk' ts o⟩
   | none => none
def memQ : List (Nat × Nat) → Nat × Nat → Bool
 | [], _ => false
 | p :: r, q => (Nat.beq p.1 q.1 && Nat.beq p.2 q.2) || memQ r q
def okT (a b : TFt) : Bool := (a.wk.all fun p => !memQ b.rk p && !memQ b.wk p) && b.wk.all fun p => !memQ a.rk p
def okTs (t : TFt) (acc : List TFt) : List Nat → Bool
 | [] => true
 | j :: r => (match acc[j]? with
   | some x => okT t x
   | none => true) && okTs t acc r
def yna (F : Cf K) (o : AO) (fre : List Nat) (acc : List TFt) (R : List TFt → TS K → Prop) (ts : TS K) : Prop := match tft F ts o with
 | some t => match okTs t acc fre with
   | true => step F true o ts (R (acc ++ [t]))
   | false => False
 | none => False
def tdg (F : Cf K) (o : AO) (fre : List Nat) (acc : List TFt) (R : List TFt → TS K → Prop) (ts : TS K) : Prop :=
 tgd ts.fr o.guard (yna F o fre acc R ts) (R (acc ++ [⟨[], []⟩]) (ts.put o.dst (.tup [])))
  fun d c b => cnd c (match b with
   | true => yna F o fre acc R (ts.put (some d) (.lb true))
   | false => R (acc ++ [⟨[], []⟩]) ((ts.put (some d) (.lb true)).put o.dst (.tup []))) (match b with
   | true => R (acc ++ [⟨[], []⟩]) ((ts.put (some d) (.lb false)).put o.dst (.tup []))
   | false => yna F o fre acc R (ts.put (some d) (.lb false)))
def tdrw (F : Cf K) : List (AO × List Nat) → List TFt → TS K → (TS K → Prop) → Prop
 | [], _, ts, X => X ts
 | (o, fre) :: r, acc, ts, X => tdg F o fre acc (fun acc t => tdrw F r acc t X) ts
def srcD (L : List (AO × List Nat)) : Nat → Nat → Nat
 | 0, n => n
 | k + 1, n => match L.find? (fun p => match p.1.dst with | some d => Nat.beq d n | none => false) with
   | some (⟨_, _, .mv (.t m)⟩, _) => srcD L k m
   | _ => n
def frzD (F : Cf K) (L : List (AO × List Nat)) (ts : TS K) : TS K :=
 (L.flatMap fun p => (frzO F ts.fr p.1.op).flatMap fun x => match x with | .t n => [srcD L 9 n] | .c _ => []).foldl (fun ts n => fzA F.C 9 [lkT ts.fr n] ts) ts
def Dn (F : Cf K) : An K → ybC → (AEx → TS K → Prop) → TS K → Prop
 | .o, .skip, Q, ts => Q .n ts
 | .o, .ops L, Q, ts => tops F L ts fun t => Q .n (er t)
 | .o, .drw L, Q, ts => tdrw F L [] (frzD F L ts) fun t => Q .n (er t)
 | .o, .exit id, Q, ts => Q (.x id) ts
 | .o, .ret, Q, ts => Q .r ts
 | .s a b, .seq x y, Q, ts => Dn F a x (fun e t => match e with
   | .n => Dn F b y Q t
   | e => Q e t) ts
 | .c a b, .cond u x y, Q, ts => match tev ts.fr u with
   | .lb true => Dn F a x Q ts
   | .lb false => Dn F b y Q ts
   | .bl c => cnd c (Dn F a x Q ts) (Dn F b y Q ts)
   | _ => False
 | .b a, .block id x, Q, ts => Dn F a x (fun e t => match e with
   | .x i => match Nat.beq i id with
     | true => Q .n t
     | false => Q (.x i) t
   | e => Q e t) ts
 | .l τ a, .loop x, Q, ts => ∀ X : Cur K Prop (ctT τ), (allC (ctT τ) fun env => Dn F (a env) x (fun e t => match e with
    | .n => rdJ F.C τ t (apC False (ctT τ) X)
    | e => Q e t) (bdT F.C τ (tagT τ ts).rg ts.h env) -> apC False (ctT τ) X env) -> rdJ F.C τ (tagT τ ts) (apC False (ctT τ) X)
 | .j τ a b, .seq x y, Q, ts => ∀ J : Cur K Prop (ctT τ), (allC (ctT τ) fun env => Dn F (b env) y Q (bdT F.C τ (tagT τ ts).rg ts.h env) → apC False (ctT τ) J env) →
    Dn F a x (fun e t => match e with
     | .n => rdJ F.C τ t (apC False (ctT τ) J)
     | e => Q e t) (tagT τ ts)
 | _, _, _, _ => False
def resT (ts : TS K) : Nat × Option Nat → Option (TV K)
 | (t, none) => some (lkT ts.fr t)
 | (t, some 0) => match (lkT ts.fr t).s with
   | .px s c o => match ts.tb s c with
     | some (.box _ cs) => cs[o]?
     | _ => none
   | _ => none
 | (t, some (sz + 1)) => match (lkT ts.fr t).s with
   | .px s c o => match ts.tb s c with
     | some (.box _ cs) => tldc true (sz + 1) o cs
     | _ => none
   | _ => none
def yoI (ts : TS K) : List (Nat × Option Nat) → Option (List (TV K))
 | [] => some []
 | p :: r => match resT ts p, yoI ts r with
   | some v, some vs => some (v :: vs)
   | _, _ => none
def outR (C : Cx K) : List Nat → List (TV K) → (List (DV K) → Prop) → Prop
 | [], [], p => p []
 | t :: r, v :: q, p => match outV C t v with
   | some x => outR C r q fun env => p (.v t x :: env)
   | none => False
 | _, _, _ => False
def retF (C : Cx K) (res : List (Nat × Option Nat)) (ts : TS K) : Nat → TS K
 | 0 => ts
 | n + 1 => match yoI ts res with
   | some vs => match ynf vs with
     | [] => ts
     | s :: _ => retF C res (fzA C 9 [.rw s 1] ts) n
   | none => ts
def retD (C : Cx K) (res : List (Nat × Option Nat)) (rs : List Nat) (p : List (DV K) → Prop) : AEx → TS K → Prop
 | .x _, _ => False
 | _, ts => match yoI (retF C res ts 9) res with
   | some vs => outR C rs vs p
   | none => False
def entT (C : Cx K) : List PD → List (AD K) → Nat → List (Nat × TV K)
 | .v t :: ps, .d (.v t' x) :: env, i => (i, if h : t' = t then inV C t (h ▸ x) else .un) :: entT C ps env (i + 1)
 | .p t :: ps, .d (.v t' x) :: env, i => (i, if h : t' = t then .ep t [h ▸ x] 0 0 else .un) :: entT C ps env (i + 1)
 | .f az bs :: ps, .f F :: env, i => (i, .fv az bs F) :: entT C ps env (i + 1)
 | _, _, _ => []
def eqR : List (DV K) → List (DV K) → Prop
 | [], [] => True
 | [.v t x], [.v t' y] => if h : t = t' then h ▸ x = y else False
 | .v t x :: a, .v t' y :: b => (if h : t = t' then h ▸ x = y else False) /\ eqR a b
 | _, _ => False
def DnF (F : Cf K) (A : An K) (c : AFn) (ps : List PD) (rs : List Nat) (env : List (AD K)) (r : List (DV K)) : Prop :=
 Dn F A c.body (retD F.C c.res rs fun x => eqR x r) ⟨entT F.C ps env 0, [], [], [], []⟩
end Go.AV
end
noncomputable section
namespace Go.AV
open Go.RowKit Go.RG Go.Lib
mutual
def dwk : AV → AV
 | .sl _ n xs => .sl false n (dwks xs)
 | .agg cs => .agg (dwks cs)
 | .tup cs => .tup (dwks cs)
 | .fn f a c => .fn f (dwks a) (dwks c)
 | .ep xs off => .ep (dwks xs) off
 | u => u
def dwks : List AV → List AV
 | [] => []
 | u :: r => dwk u :: dwks r
end
theorem ycS : ∀ (l : List AV), dwks l = l.map dwk
 | [] => rfl
 | x :: l => by simp only [dwks, List.map_cons, ycS l]
theorem ycL (l : List AV) (j : Nat) (u : AV) (h : (dwks l)[j]? = some u) : ∃ v, l[j]? = some v ∧ u = dwk v := by
 rw [ycS, List.getElem?_map] at h
 obtain ⟨v, h1, h2⟩ := Option.map_eq_some_iff.1 h
 exact ⟨v, h1, h2.symm⟩
theorem yba (l : List AV) : (dwks l).length = l.length := by rw [ycS]; simp
mutual
theorem yd9 : ∀ (u : AV), (dwk u).noL = u.noL
 | .agg cs => by simp only [dwk, AV.noL]; exact yct cs
 | .tup cs => by simp only [dwk, AV.noL]; exact yct cs
 | .fn f a c => by simp only [dwk, AV.noL, yct]
 | .sl z n xs => rfl
 | .gs k n => rfl
 | .pt k n => rfl
 | .bl b => rfl
 | .it k n => rfl
 | .st s => rfl
 | .nptr => rfl
 | .ep xs off => rfl
 | .nfn => rfl
 | .un => rfl
 | .yld o => rfl
 | .rcd a b c d => rfl
theorem yct : ∀ (l : List AV), noLs (dwks l) = noLs l
 | [] => rfl
 | x :: l => by simp only [dwks, noLs, yd9, yct]
end
theorem VR.dwk {G : Gh} {u : AV} {v : Value} (h : VR G u v) : VR G (AV.dwk u) v := by
 induction h with
 | agg cs vs hl h h1 ih => exact .agg _ vs (by rw [yba]; exact hl) (fun j u x hu hx => by obtain ⟨w, e1, rfl⟩ := ycL cs j u hu; exact ih j w x e1 hx) h1
 | tup cs vs hl h ih => exact .tup _ vs (by rw [yba]; exact hl) (fun j u x hu hx => by obtain ⟨w, e1, rfl⟩ := ycL cs j u hu; exact ih j w x e1 hx)
 | nsl z n xs hn hx => exact .nsl false n _ hn (by rw [hx]; rfl)
 | esl n xs hn hx a cap => exact .esl n _ hn (by rw [hx]; rfl) a cap
 | sl n xs b off cap f hI hc h h1 hn hm hq ih => exact .sl n _ b off cap f hI (fun j u hu => by obtain ⟨w, e1, rfl⟩ := ycL xs j u hu; exact hc j w e1) (fun j u hu => by obtain ⟨w, e1, rfl⟩ := ycL xs j u hu; exact ih j w e1) (fun j u hu => by obtain ⟨w, e1, rfl⟩ := ycL xs j u hu; exact h1 j w e1) hn hm (by rw [yct]; exact hq)
 | fn f a c va vc ha hc h h' ih ih' => exact .fn f _ _ va vc (by rw [yba]; exact ha) (by rw [yba]; exact hc) (fun j u x hu hx => by obtain ⟨w, e1, rfl⟩ := ycL a j u hu; exact ih j w x e1 hx) (fun j u x hu hx => by obtain ⟨w, e1, rfl⟩ := ycL c j u hu; exact ih' j w x e1 hx)
 | bl b => exact .bl b
 | it k n => exact .it k n
 | st s b h => exact .st s b h
 | gs k n b cap hk => exact .gs k n b cap hk
 | gsd k n v hk h1 => exact .gsd k n v hk h1
 | nptr => exact .nptr
 | pt k off b cap hk => exact .pt k off b cap hk
 | ptd k off v hk h1 => exact .ptd k off v hk h1
 | ep xs off b base f hI hc h h1 hq ih => exact .ep _ off b base f hI (fun j u hu => by obtain ⟨w, e1, rfl⟩ := ycL xs j u hu; exact hc j w e1) (fun j u hu => by obtain ⟨w, e1, rfl⟩ := ycL xs j u hu; exact ih j w e1) (fun j u hu => by obtain ⟨w, e1, rfl⟩ := ycL xs j u hu; exact h1 j w e1) (by rw [yct]; exact hq)
 | nfn => exact .nfn
 | yld o l cap hk => exact .yld o l cap hk
 | yldd o v hk h1 => exact .yldd o v hk h1
 | un v => exact .un v
theorem VRs.dwk {G : Gh} {us : List AV} {vs : List Value} (h : VRs G us vs) : VRs G (dwks us) vs :=
 ⟨by rw [yba]; exact h.1, fun j u x hu hx => by obtain ⟨w, e1, rfl⟩ := ycL us j u hu; exact (h.2 j w x e1 hx).dwk⟩
theorem yao.dwkA {P : Program} {f : FuncId} {args : List AV} {H : Hp} {n : Nat} {Post : AV -> Hp -> Nat -> Prop} (h : yao P f (dwks args) H n Post) : yao P f args H n Post := fun G vs hg hM hV => h G vs hg hM hV.dwk
theorem yao.dwkR {P : Program} {f : FuncId} {args : List AV} {H : Hp} {n : Nat} {Post : AV → Hp → Nat → Prop} (h : yao P f args H n fun av H' n' => Post (AV.dwk av) H' n') : yao P f args H n Post := fun G vs hg hM hV =>
 (h G vs hg hM hV).mono fun _ _ ⟨v, av, H', n', G', a1, a2, a3, a4, a5, a6⟩ => ⟨v, AV.dwk av, H', n', G', a1, a2, a3, a4, a5.dwk, by rw [yd9]; exact a6⟩
theorem yjK {u : AV} : (dwk u).one = u.one := by cases u <;> rfl
variable {K : Nat -> Type}
def eV (C : Cx K) (t : Nat) (x : K t) : AV := match (C.T t).g with
 | true => .agg ((C.E t).c x)
 | false => ((C.E t).c x).headD .un
def dvA (C : Cx K) : DV K → AV
 | .v t x => eV C t x
 | _ => .un
def yaP : List AV → AV
 | [v] => v
 | vs => .tup vs
def FOk (P : Program) (C : Cx K) (F : FV K) : Prop := F.av.noL = true ∧ dwk F.av = F.av ∧ F.av.one = true ∧
 ∃ (f : Nat) (a c : List AV), F.av = .fn (.func f) a c /\ ∀ (e r : List (DV K)), F.W e r -> Pure P f (a ++ e.map (dvA C) ++ c) (yaP (r.map (dvA C)))
def penc (C : Cx K) : PD → AD K → AV
 | .p t, .d (.v t' x) => if h : t' = t then .ep ((C.E t).c (h ▸ x)) 0 else .un
 | _, .d x => dvA C x
 | _, .f F => F.av
def yax (C : Cx K) : List PD → List (AD K) → List AV
 | p :: ps, x :: xs => penc C p x :: yax C ps xs
 | _, _ => []
def SpOk (P : Program) (C : Cx K) (sp : Sp K) : Prop := ∀ (env : List (AD K)) (r : List (DV K)), (∀ F, AD.f F ∈ env -> FOk P C F) -> sp.W env r -> env.length = sp.ps.length /\ Pure P sp.f (yax C sp.ps env) (yaP (r.map (dvA C)))
def okr (ts : TS K) (s c : Nat) : Prop := c = 1 ∨ (c = 2 /\ memB ts.nw s = true)
section
variable (P : Program) (C : Cx K) (ts : TS K) (χ : Nat -> Nat -> Bool)
inductive TR : TV K → AV → Prop
 | un (v : AV) : TR .un v
 | lb (b : Bool) : TR (.lb b) (.bl b)
 | bl (b : Bool) : TR (.bl b) (.bl b)
 | li (k : IntKind) (n : Int) : TR (.li k n) (.it k n)
 | it (k : IntKind) (n : Int) : TR (.it k n) (.it k n)
 | st (s : Str) : TR (.st s) (.st s)
 | agg (us : List (TV K)) (vs : List AV) (hl : vs.length = us.length) (h : ∀ (j : Nat) (u : TV K) (v : AV), us[j]? = some u -> vs[j]? = some v -> TR u v) : TR (.agg us) (.agg vs)
 | tup (us : List (TV K)) (vs : List AV) (hl : vs.length = us.length) (h : ∀ (j : Nat) (u : TV K) (v : AV), us[j]? = some u -> vs[j]? = some v -> TR u v) : TR (.tup us) (.tup vs)
 | nil : TR .nil (.sl true 0 [])
 | em (z : Bool) : TR .em (.sl z 0 [])
 | sl (e : Nat) (l : List (K e)) (z : Bool) (n : Nat) (xs : List AV) (hn : n = l.length) (hx : dwks xs = cl (C.E e) l) : TR (.sl e l) (.sl z n xs)
 | rwd (s c : Nat) (v : AV) (hr : okr ts s c) (h : tln (ts.tb s c) = none) (h1 : v.one = true) : TR (.rw s c) v
 | rw (s c n : Nat) (hr : okr ts s c) (h : tln (ts.tb s c) = some n) (hx : χ s c = false) : TR (.rw s c) (.gs (.l s c) n)
 | rwn (s c : Nat) (hr : okr ts s c) (h : tln (ts.tb s c) = some 0) (hx : χ s c = true) : TR (.rw s c) (.sl true 0 [])
 | px (s c off : Nat) (hr : okr ts s c) : TR (.px s c off) (.pt (.l s c) off)
 | pr (e s c i of : Nat) (hr : okr ts s c) (hx : χ s c = false) : TR (.pr e s c i of) (.pt (.l s c) (i * (C.E e).sz + of))
 | ep (e : Nat) (l : List (K e)) (i of : Nat) (xs : List AV) (hx : dwks xs = cl (C.E e) l) : TR (.ep e l i of) (.ep xs (i * (C.E e).sz + of))
 | gs (l : List Str) (i : Nat) (xs : List AV) (hx : dwks xs = l.map .st) : TR (.gs l i) (.ep xs i)
 | nptr : TR .nptr .nptr
 | fn (f : Nat) (a c : List (TV K)) (a' c' : List AV) (ha : a'.length = a.length) (hc : c'.length = c.length) (h : ∀ (j : Nat) (u : TV K) (v : AV), a[j]? = some u → a'[j]? = some v → TR u v)
    (h' : ∀ (j : Nat) (u : TV K) (v : AV), c[j]? = some u -> c'[j]? = some v -> TR u v) : TR (.fn f a c) (.fn (.func f) a' c')
 | fv (ps rs : List Nat) (F : FV K) (v : AV) (h : FOk P C F) (hv : dwk v = F.av) : TR (.fv ps rs F) v
 | cn (id : Nat) (u : TV K) (v : AV) (h : lkR ts.rg id = some u) (hn : ybf u = true) (hv : TR u v) : TR (.cn id u) v
end
structure CxOk (P : Program) (C : Cx K) : Prop where
 c : ∀ (t : Nat) (x : K t) ts χ, ((C.E t).c x).length = ((C.T t).c x).length /\ ∀ (j : Nat) (u : TV K) (v : AV), ((C.T t).c x)[j]? = some u -> ((C.E t).c x)[j]? = some v -> TR P C ts χ u v
 rd : ∀ (t : Nat) (cs : List (TV K)) (x : K t) ts χ (vs : List AV), (C.T t).rd cs = some x -> vs.length = cs.length -> (∀ (j : Nat) (u : TV K) (v : AV), cs[j]? = some u -> vs[j]? = some v -> TR P C ts χ u v) -> dwks vs = (C.E t).c x
 g : ∀ t, (C.T t).g = false -> (C.E t).sz = 1
 dw : ∀ t (x : K t), dwks ((C.E t).c x) = (C.E t).c x
 tb : ∀ t f, (C.T t).tb = some f -> ∀ x, ∃ n, (C.E t).c x = [.it .u8 n] /\ f x = UInt8.ofNat n.toNat
 ob : ∀ t f, (C.T t).ob = some f -> ∀ b : UInt8, (C.E t).c (f b) = [.it .u8 b.toNat]
 fl : ∀ t, (C.T t).fl = true -> ∀ x, ydY ((C.E t).c x) = true
 nr : ∀ t x, ybp ((C.T t).c x) = true
section
variable {P : Program} {C : Cx K} {R : List (HO K) -> Hp -> Nat -> Prop} {ts ts' : TS K} {χ χ' : Nat -> Nat -> Bool}
theorem TR.s {u : TV K} {v : AV} (h : TR P C ts χ u v) : TR P C ts χ u.s v := by
 cases h with
 | cn id u v h hn hv => exact hv
 | un v => exact .un v
 | lb b => exact .lb b
 | bl b => exact .bl b
 | li k n => exact .li k n
 | it k n => exact .it k n
 | st s => exact .st s
 | agg us vs hl h => exact .agg us vs hl h
 | tup us vs hl h => exact .tup us vs hl h
 | nil => exact .nil
 | em z => exact .em z
 | sl e l z n xs hn hx => exact .sl e l z n xs hn hx
 | rwd s c v hr h h1 => exact .rwd s c v hr h h1
 | rw s c n hr h hx => exact .rw s c n hr h hx
 | rwn s c hr h hx => exact .rwn s c hr h hx
 | px s c off hr => exact .px s c off hr
 | pr e s c i of hr hx => exact .pr e s c i of hr hx
 | ep e l i of xs hx => exact .ep e l i of xs hx
 | gs l i xs hx => exact .gs l i xs hx
 | nptr => exact .nptr
 | fn f a c a' c' ha hc h h' => exact .fn f a c a' c' ha hc h h'
 | fv ps rs F v h hv => exact .fv ps rs F v h hv
structure Mono (ts ts' : TS K) (χ χ' : Nat → Nat → Bool) : Prop where
 rg : ∀ id u, lkR ts.rg id = some u -> lkR ts'.rg id = some u
 ok : ∀ s c, okr ts s c -> okr ts' s c
 pl : ∀ s c, okr ts s c -> (tln (ts'.tb s c) = none /\ χ' s c = false) ∨ (tln (ts'.tb s c) = tln (ts.tb s c) /\ χ' s c = χ s c)
theorem TR.mono (hm : Mono ts ts' χ χ') {u : TV K} {v : AV} (h : TR P C ts χ u v) : TR P C ts' χ' u v := by
 induction h with
 | cn id u v h hn _ ih => exact .cn id u v (hm.rg id u h) hn ih
 | un v => exact .un v
 | lb b => exact .lb b
 | bl b => exact .bl b
 | li k n => exact .li k n
 | it k n => exact .it k n
 | st s => exact .st s
 | agg us vs hl _ ih => exact .agg us vs hl ih
 | tup us vs hl _ ih => exact .tup us vs hl ih
 | nil => exact .nil
 | em z => exact .em z
 | sl e l z n xs hn hx => exact .sl e l z n xs hn hx
 | rwd s c v hr h ho =>
   refine .rwd s c v (hm.ok s c hr) ?_ ho
   rcases hm.pl s c hr with h1 | h1
   ·exact h1.1
   ·rw [h1.1]; exact h
 | rw s c n hr h hx =>
   rcases hm.pl s c hr with h1 | h1
   ·exact .rwd s c _ (hm.ok s c hr) h1.1 rfl
   ·exact .rw s c n (hm.ok s c hr) (by rw [h1.1]; exact h) (by rw [h1.2]; exact hx)
 | rwn s c hr h hx =>
   rcases hm.pl s c hr with h1 | h1
   ·exact .rwd s c _ (hm.ok s c hr) h1.1 rfl
   ·exact .rwn s c (hm.ok s c hr) (by rw [h1.1]; exact h) (by rw [h1.2]; exact hx)
 | px s c off hr => exact .px s c off (hm.ok s c hr)
 | pr e s c i of hr hx =>
   refine .pr e s c i of (hm.ok s c hr) ?_
   rcases hm.pl s c hr with h1 | h1
   ·exact h1.2
   ·rw [h1.2]; exact hx
 | ep e l i of xs hx => exact .ep e l i of xs hx
 | gs l i xs hx => exact .gs l i xs hx
 | nptr => exact .nptr
 | fn f a c a' c' ha hc _ _ ih ih' => exact .fn f a c a' c' ha hc ih ih'
 | fv ps rs F v h hv => exact .fv ps rs F v h hv
theorem Mono.refl : Mono ts ts χ χ := ⟨fun _ _ h => h, fun _ _ h => h, fun _ _ _ => .inr ⟨rfl, rfl⟩⟩
theorem Mono.put {d : Option Nat} {u : TV K} : Mono ts (ts.put d u) χ χ := by
 cases d with
 | none => exact .refl
 | some d => exact ⟨fun _ _ h => h, fun _ _ h => h, fun _ _ _ => .inr ⟨rfl, rfl⟩⟩
theorem Mono.trans {ts'' : TS K} {χ'' : Nat → Nat → Bool} (h : Mono ts ts' χ χ') (k : Mono ts' ts'' χ' χ'') (hv : ∀ s c, tln (ts'.tb s c) = none → χ' s c = false → tln (ts''.tb s c) = none ∧ χ'' s c = false) : Mono ts ts'' χ χ'' :=
 ⟨fun _ _ q => k.rg _ _ (h.rg _ _ q), fun _ _ q => k.ok _ _ (h.ok _ _ q), fun s c q => by
   rcases h.pl s c q with h1 | h1
   ·exact .inl (hv s c h1.1 h1.2)
   ·rcases k.pl s c (h.ok s c q) with h2 | h2
    ·exact .inl h2
    ·exact .inr ⟨h2.1.trans h1.1, h2.2.trans h1.2⟩⟩
theorem TR.noref {u : TV K} {v : AV} (h : TR P C ts χ u v) : ybf u = true → TR P C ts' χ' u v ∧ v.noL = true := by
 have hL : ∀ {us : List (TV K)} {vs : List AV}, vs.length = us.length → ybp us = true → (∀ (j : Nat) (u : TV K) (v : AV), us[j]? = some u → vs[j]? = some v → ybf u = true → TR P C ts' χ' u v ∧ v.noL = true) →
   (∀ (j : Nat) (u : TV K) (v : AV), us[j]? = some u -> vs[j]? = some v -> TR P C ts' χ' u v) /\ noLs vs = true := by
  intro us
  induction us with
  | nil => intro vs hl _ _; exact ⟨fun j u v h => by simp at h, by cases vs with | nil => rfl | cons x r => simp at hl⟩
  | cons x r ih =>
    intro vs hl hn hh
    cases vs with
    | nil => simp at hl
    | cons y q =>
      simp only [ybp, Bool.and_eq_true] at hn
      obtain ⟨a1, a2⟩ := ih (vs := q) (by simpa using hl) hn.2 (fun j u v h1 h2 => hh (j + 1) u v (by simpa using h1) (by simpa using h2))
      obtain ⟨b1, b2⟩ := hh 0 x y rfl rfl hn.1
      refine ⟨fun j u v h1 h2 => ?_, by simp [noLs, a2, b2]⟩
      cases j with
      | zero => simp at h1 h2; subst h1; subst h2; exact b1
      | succ j => exact a1 j u v (by simpa using h1) (by simpa using h2)
 induction h with
 | cn id u v h _ _ ih => intro hn; simp [ybf] at hn
 | un v => intro hn; simp [ybf] at hn
 | lb b => exact fun _ => ⟨.lb b, rfl⟩
 | bl b => exact fun _ => ⟨.bl b, rfl⟩
 | li k n => exact fun _ => ⟨.li k n, rfl⟩
 | it k n => exact fun _ => ⟨.it k n, rfl⟩
 | st s => exact fun _ => ⟨.st s, rfl⟩
 | agg us vs hl _ ih =>
   intro hn
   obtain ⟨a, b⟩ := hL hl (by simpa only [ybf] using hn) ih
   exact ⟨.agg us vs hl a, by simpa only [AV.noL] using b⟩
 | tup us vs hl _ ih =>
   intro hn
   obtain ⟨a, b⟩ := hL hl (by simpa only [ybf] using hn) ih
   exact ⟨.tup us vs hl a, by simpa only [AV.noL] using b⟩
 | nil => exact fun _ => ⟨.nil, rfl⟩
 | em z => exact fun _ => ⟨.em z, rfl⟩
 | sl e l z n xs hn hx => exact fun _ => ⟨.sl e l z n xs hn hx, rfl⟩
 | rwd s c v hr h h1 => intro hn; simp [ybf] at hn
 | rw s c n hr h hx => intro hn; simp [ybf] at hn
 | rwn s c hr h hx => intro hn; simp [ybf] at hn
 | px s c off hr => intro hn; simp [ybf] at hn
 | pr e s c i of hr hx => intro hn; simp [ybf] at hn
 | ep e l i of xs hx => exact fun _ => ⟨.ep e l i of xs hx, rfl⟩
 | gs l i xs hx => exact fun _ => ⟨.gs l i xs hx, rfl⟩
 | nptr => exact fun _ => ⟨.nptr, rfl⟩
 | fn f a c a' c' ha hc _ _ ih ih' =>
   intro hn
   simp only [ybf, Bool.and_eq_true] at hn
   obtain ⟨a1, a2⟩ := hL ha hn.1 ih
   obtain ⟨b1, b2⟩ := hL hc hn.2 ih'
   exact ⟨.fn f a c a' c' ha hc a1 b1, by simp [AV.noL, a2, b2]⟩
 | fv ps rs F v h hv => exact fun _ => ⟨.fv ps rs F v h hv, by rw [<- yd9, hv]; exact h.1⟩
variable (P C ts χ) in
def MR (b : TB K) (kb : KB) : Prop := match b with
 | .box e cs => kb.e = e /\ kb.sz = cs.length /\ kb.cells.length = cs.length /\ ∀ (j : Nat) (u : TV K) (v : AV), cs[j]? = some u -> kb.cells[j]? = some v -> TR P C ts χ u v
 | .row e l => kb.e = e /\ kb.sz = (C.E e).sz /\ dwks kb.cells = cl (C.E e) l
 | .lrow e n cs => kb.e = e /\ kb.sz = (C.E e).sz /\ kb.cells.length = cs.length /\ cs.length = n * (C.E e).sz /\ ∀ (j : Nat) (u : TV K) (v : AV), cs[j]? = some u -> kb.cells[j]? = some v -> TR P C ts χ u v
theorem MR.mono (hm : Mono ts ts' χ χ') {b : TB K} {kb : KB} (h : MR P C ts χ b kb) : MR P C ts' χ' b kb := by
 cases b with
 | box e cs => exact ⟨h.1, h.2.1, h.2.2.1, fun j u v a b => (h.2.2.2 j u v a b).mono hm⟩
 | row e l => exact h
 | lrow e n cs => exact ⟨h.1, h.2.1, h.2.2.1, h.2.2.2.1, fun j u v a b => (h.2.2.2.2 j u v a b).mono hm⟩
variable (P C R ts χ) in
structure GM (ds : DS) : Prop where
 fr : ∀ t, TR P C ts χ (lkT ts.fr t) (lkF ds.fr t)
 mb : ∀ s c b, ts.tb s c = some b -> χ s c = false -> ∃ kb, ds.kb s c = some kb /\ MR P C ts χ b kb
 vi : ∀ s c, χ s c = true -> ∃ e, ts.tb s c = some (.row e [])
 nw : ∀ s, memB ts.nw s = false -> memO ds.nw s = false
 hp : R ts.h ds.H ds.nx
theorem yfe (fr : List (Nat × TV K)) (d t : Nat) (u : TV K) : lkT ((d, u) :: fr) t = if d = t then u else lkT fr t := by
 show (match Nat.beq d t with | true => u | false => lkT fr t) = _
 cases h : Nat.beq d t with
 | true => simp [nbeq.1 h]
 | false => simp only; rw [if_neg (fun e => by rw [nbeq.2 e] at h; cases h)]
theorem GM.put {ds : DS} (h : GM P C R ts χ ds) {d : Option Nat} {u : TV K} {v : AV} (hv : TR P C ts χ u v) : GM P C R (ts.put d u) χ (ds.put d v) := by
 cases d with
 | none => exact h
 | some d =>
   refine ⟨fun t => TR.mono Mono.put ?_, fun s c b hb hx => ?_, h.vi, h.nw, h.hp⟩
   ·show TR P C ts χ (lkT ((d, u) :: ts.fr) t) (lkF ((d, v) :: ds.fr) t)
    rw [yfe, ycX]
    simp only
    split
    ·exact hv
    ·exact h.fr t
   ·obtain ⟨kb, h1, h2⟩ := h.mb s c b hb hx
    exact ⟨kb, by rw [<- h1]; rfl, h2.mono Mono.put⟩
theorem ypE : ∀ {cs : List AV} {l : List Str}, yli cs = some l → cs = l.map .st := by
 intro cs
 induction cs with
 | nil => intro l h; simp [yli] at h; subst h; rfl
 | cons x cs ih =>
   intro l h
   cases x with
   | st s =>
     simp only [yli] at h
     cases h' : yli cs with
     | none => rw [h'] at h; simp at h
     | some m => rw [h'] at h; simp at h; subst h; rw [ih h']; rfl
   | _ => simp [yli] at h
theorem yqU (l : List Str) : dwks (l.map AV.st) = l.map AV.st := by
 induction l with
 | nil => rfl
 | cons s l ih => simp only [List.map_cons, dwks, ih]; rfl
mutual
theorem ypP : ∀ (v : AV), TR P C ts χ (cvA v) v
 | .bl b => .lb b
 | .it k n => .li k n
 | .st s => .st s
 | .agg cs => by rw [cvA]; exact .agg _ _ (ygF cs).1 (ygF cs).2
 | .tup cs => by rw [cvA]; exact .tup _ _ (ygF cs).1 (ygF cs).2
 | .sl true 0 [] => .nil
 | .sl true (n + 1) xs => .un _
 | .sl true 0 (x :: xs) => .un _
 | .sl false n xs => .un _
 | .nptr => .nptr
 | .fn (.func f) [] [] => .fn f [] [] [] [] rfl rfl (fun j u v h => by simp at h) (fun j u v h => by simp at h)
 | .fn (.func f) (a :: r) c => .un _
 | .fn (.func f) [] (a :: r) => .un _
 | .fn (.method n) a c => .un _
 | .fn (.methodOf t n) a c => .un _
 | .fn (.via t a b p) _ _ => .un _
 | .fn (.yield l) a c => .un _
 | .gs k n => .un _
 | .pt k n => .un _
 | .ep xs off => by
   rw [cvA]
   cases h : yli xs with
   | none => exact .un _
   | some l => exact .gs l off xs (by rw [ypE h]; exact yqU l)
 | .nfn => .un _
 | .un => .un _
 | .yld o => .un _
 | .rcd a b c d => .un _
theorem ygF : ∀ (l : List AV), l.length = (cvAs (K := K) l).length ∧ ∀ (j : Nat) (u : TV K) (v : AV), (cvAs l)[j]? = some u → l[j]? = some v → TR P C ts χ u v
 | [] => ⟨rfl, fun j u v h => by simp [cvAs] at h⟩
 | x :: l => by
   obtain ⟨a, b⟩ := ygF l
   refine ⟨by simp [cvAs, <- a], fun j u v h1 h2 => ?_⟩
   cases j with
   | zero => simp [cvAs] at h1 h2; subst h1; subst h2; exact ypP x
   | succ j => exact b j u v (by simpa [cvAs] using h1) (by simpa using h2)
end
theorem GM.tea {ds : DS} (h : GM P C R ts χ ds) (x : AOpd) : TR P C ts χ (Go.AV.tea ts.fr x) (ev (lkF ds.fr) x) := by
 cases x with
 | t n => exact h.fr n
 | c v => exact ypP v
theorem GM.tev {ds : DS} (h : GM P C R ts χ ds) (x : AOpd) : TR P C ts χ (Go.AV.tev ts.fr x) (ev (lkF ds.fr) x) := (h.tea x).s
theorem TR.int {u : TV K} {v : AV} {k : IntKind} {n : Int} (h : TR P C ts χ u v) (e : tint u = some (k, n)) : v = .it k n := by
 cases h <;> first | (simp [tint] at e; obtain ⟨rfl, rfl⟩ := e; rfl) | (simp [tint] at e; done)
theorem TR.bool {u : TV K} {v : AV} {b : Bool} (h : TR P C ts χ u v) (e : tbo u = some b) : v = .bl b := by
 cases h <;> first | (simp [tbo] at e; subst e; rfl) | (simp [tbo] at e; done)
end
end Go.AV
end
noncomputable section
namespace Go.AV
open Go.RowKit Go.RG Go.Lib
variable {K : Nat -> Type}
def VW (u v : AV) : Prop := ∀ (G : Gh) (x : Value), VR G u x -> VR G v x
theorem VW.refl (u : AV) : VW u u := fun _ _ h => h
theorem VW.trans {u v w : AV} (h : VW u v) (k : VW v w) : VW u w := fun G x q => k G x (h G x q)
theorem VW.un (u : AV) : VW u .un := fun _ x _ => .un x
theorem VW.dwk (u : AV) : VW u (AV.dwk u) := fun _ _ h => h.dwk
def VWs (us vs : List AV) : Prop := us.length = vs.length /\ ∀ (j : Nat) (u v : AV), us[j]? = some u -> vs[j]? = some v -> VW u v
theorem VWs.nil : VWs [] [] := ⟨rfl, fun j u v h => by simp at h⟩
theorem VWs.cons {u v : AV} {us vs : List AV} (h : VW u v) (k : VWs us vs) : VWs (u :: us) (v :: vs) := by
 refine ⟨by simp [k.1], fun j a b p q => ?_⟩
 cases j with
 | zero => simp at p q; subst p; subst q; exact h
 | succ j => exact k.2 j a b (by simpa using p) (by simpa using q)
theorem VW.agg {us vs : List AV} (h : VWs us vs) : VW (.agg us) (.agg vs) := fun G x hx => by
 obtain ⟨xs, e, h1, h2, h3⟩ := hx.agg_inv
 rw [e]
 refine .agg vs xs (by rw [h1, h.1]) (fun j u x hu hx => ?_) h3
 have hj : j < us.length := by rw [h.1]; exact (List.getElem?_eq_some_iff.1 hu).1
 exact h.2 j us[j] u (List.getElem?_eq_getElem hj) hu G x (h2 j _ x (List.getElem?_eq_getElem hj) hx)
theorem VW.tup {us vs : List AV} (h : VWs us vs) : VW (.tup us) (.tup vs) := fun G x hx => by
 obtain ⟨xs, e, h1, h2⟩ := hx.tup_inv
 rw [e]
 refine .tup vs xs (by rw [h1, h.1]) (fun j u x hu hx => ?_)
 have hj : j < us.length := by rw [h.1]; exact (List.getElem?_eq_some_iff.1 hu).1
 exact h.2 j us[j] u (List.getElem?_eq_getElem hj) hu G x (h2 j _ x (List.getElem?_eq_getElem hj) hx)
theorem VW.fn {f : Fn} {us vs us' vs' : List AV} (h : VWs us vs) (h' : VWs us' vs') : VW (.fn f us us') (.fn f vs vs') := fun G x hx => by
 obtain ⟨xa, xc, e, h1, h2, h3, h4⟩ := hx.fn_inv
 rw [e]
 refine .fn f vs vs' xa xc (by rw [h1, h.1]) (by rw [h2, h'.1]) (fun j u x hu hx => ?_) (fun j u x hu hx => ?_)
 ·have hj : j < us.length := by rw [h.1]; exact (List.getElem?_eq_some_iff.1 hu).1
  exact h.2 j us[j] u (List.getElem?_eq_getElem hj) hu G x (h3 j _ x (List.getElem?_eq_getElem hj) hx)
 ·have hj : j < us'.length := by rw [h'.1]; exact (List.getElem?_eq_some_iff.1 hu).1
  exact h'.2 j us'[j] u (List.getElem?_eq_getElem hj) hu G x (h4 j _ x (List.getElem?_eq_getElem hj) hx)
mutual
def aT (C : Cx K) (ts : TS K) (χ : Nat → Nat → Bool) : TV K → AV
 | .lb b => .bl b
 | .bl b => .bl b
 | .li k n => .it k n
 | .it k n => .it k n
 | .st s => .st s
 | .agg cs => .agg (aTs C ts χ cs)
 | .tup cs => .tup (aTs C ts χ cs)
 | .nil => .sl true 0 []
 | .em => .sl false 0 []
 | .sl e l => slA (C.E e) l
 | .rw s c => match tln (ts.tb s c) with
   | some n => match χ s c with
     | true => .sl true 0 []
     | false => .gs (.l s c) n
   | none => .un
 | .px s c o => .pt (.l s c) o
 | .pr e s c i of => .pt (.l s c) (i * (C.E e).sz + of)
 | .ep e l i of => .ep (cl (C.E e) l) (i * (C.E e).sz + of)
 | .gs l i => .ep (l.map .st) i
 | .nptr => .nptr
 | .fn f a c => .fn (.func f) (aTs C ts χ a) (aTs C ts χ c)
 | .fv _ _ F => F.av
 | .cn _ v => aT C ts χ v
 | .un => .un
def aTs (C : Cx K) (ts : TS K) (χ : Nat → Nat → Bool) : List (TV K) → List AV
 | [] => []
 | v :: r => aT C ts χ v :: aTs C ts χ r
end
theorem yhJ (C : Cx K) (ts : TS K) (χ : Nat → Nat → Bool) : ∀ l : List (TV K), aTs C ts χ l = l.map (aT C ts χ)
 | [] => rfl
 | u :: r => by rw [aTs, yhJ C ts χ r]; rfl
section
variable {P : Program} {C : Cx K} {ts : TS K} {χ : Nat -> Nat -> Bool}
theorem TR.canon {u : TV K} {v : AV} (h : TR P C ts χ u v) : VW v (aT C ts χ u) := by
 have hL : ∀ {us : List (TV K)} {vs : List AV}, vs.length = us.length → (∀ (j : Nat) (u : TV K) (v : AV), us[j]? = some u → vs[j]? = some v → VW v (aT C ts χ u)) → VWs vs (aTs C ts χ us) := by
  intro us vs hl ih
  refine ⟨by rw [yhJ, List.length_map]; exact hl, fun j v w hv hw => ?_⟩
  rw [yhJ, List.getElem?_map] at hw
  obtain ⟨u, h1, rfl⟩ := Option.map_eq_some_iff.1 hw
  exact ih j u v h1 hv
 induction h with
 | un v => exact VW.un v
 | lb b => exact .refl _
 | bl b => exact .refl _
 | li k n => exact .refl _
 | it k n => exact .refl _
 | st s => exact .refl _
 | agg us vs hl _ ih => simp only [aT]; exact VW.agg (hL hl ih)
 | tup us vs hl _ ih => simp only [aT]; exact VW.tup (hL hl ih)
 | nil => exact .refl _
 | em z => exact VW.dwk (.sl z 0 [])
 | sl e l z n xs hn hx =>
   subst hn
   have := VW.dwk (.sl z l.length xs)
   simp only [AV.dwk] at this
   rw [hx] at this
   exact this
 | rwd s c v hr h h1 => simp only [aT, h]; exact VW.un v
 | rw s c n hr h hx => simp only [aT, h, hx]; exact .refl _
 | rwn s c hr h hx => simp only [aT, h, hx]; exact .refl _
 | px s c off hr => exact .refl _
 | pr e s c i of hr hx => exact .refl _
 | ep e l i of xs hx =>
   have := VW.dwk (.ep xs (i * (C.E e).sz + of))
   simp only [AV.dwk] at this
   rw [hx] at this
   exact this
 | gs l i xs hx =>
   have := VW.dwk (.ep xs i)
   simp only [AV.dwk] at this
   rw [hx] at this
   exact this
 | nptr => exact .refl _
 | fn f a c a' c' ha hc _ _ ih ih' => simp only [aT]; exact VW.fn (hL ha ih) (hL hc ih')
 | fv ps rs F v h hv => simp only [aT]; rw [<- hv]; exact VW.dwk v
 | cn id u v h hn _ ih => simp only [aT]; exact ih
end
def BW : Option Blk → Option Blk → Prop
 | none, none => True
 | some b, some b' => b.sz ≠ 0 /\ b'.sz = b.sz /\ b'.e = b.e /\ VWs b.cells b'.cells
 | _, _ => False
theorem MRel.canon {B : Base} {S S' : St} {G : Gh} (h : MRel B S G) (hc : S'.cnt = S.cnt) (hn : S'.nx = S.nx) (hh : ∀ o, S'.M (.h o) = S.M (.h o)) (hl : ∀ d c, BW (S.M (.l d c)) (S'.M (.l d c))) : MRel B S' G := by
 have hold : ∀ k, ybe S' k ↔ ybe S k := fun k => by cases k <;> simp only [ybe, hc, hn]
 have hnone : ∀ k, S'.M k = none ↔ S.M k = none := by
  intro k
  cases k with
  | h o => rw [hh]
  | l d c =>
    have := hl d c
    cases h1 : S.M (.l d c) <;> cases h2 : S'.M (.l d c) <;> rw [h1, h2] at this <;> first | exact this.elim | simp
 refine { h with blk := ?_, dead := fun k => (h.dead k).trans ?_, live := fun k b hb => ?_, nx := by rw [hn]; exact h.nx, hno := fun k b hb => ?_ }
 ·intro k
  cases k with
  | h o => rw [hh]; exact h.blk _
  | l d c =>
    have h1 := h.blk (.l d c)
    have h2 := hl d c
    cases hb : S.M (.l d c) with
    | none =>
      cases hb' : S'.M (.l d c) with
      | none => rw [hb] at h1; exact h1
      | some b' => rw [hb, hb'] at h2; exact h2.elim
    | some b =>
      cases hb' : S'.M (.l d c) with
      | none => rw [hb, hb'] at h2; exact h2.elim
      | some b' =>
        rw [hb] at h1; rw [hb, hb'] at h2
        obtain ⟨z, e1, e2, e3, e4⟩ := h2
        cases hk : G.κ (.l d c) with
        | none => rw [hk] at h1; exact h1.elim
        | some r =>
          rw [hk] at h1
          obtain ⟨cur, c1, c2, c3, c4, c5, c6, c7⟩ := (yak.cell z).1 h1
          refine (yak.cell (by rw [e1]; exact z)).2 ⟨cur, by rw [e2]; exact c1, by rw [e1]; exact c2, c3, by rw [e1]; exact c4, by rw [<- e3]; exact c5, fun j u x p q => ?_, fun j x p q => c7 j x (by rw [e3]; exact p) q⟩
          have hj : j < b.cells.length := by rw [e3]; exact (List.getElem?_eq_some_iff.1 p).1
          exact e4 j _ u (List.getElem?_eq_getElem hj) p G x (c6 j _ x (List.getElem?_eq_getElem hj) q)
 ·unfold yb0; rw [hold, hnone]
 ·refine (hold k).2 ?_
  cases hb0 : S.M k with
  | none => rw [(hnone k).2 hb0] at hb; cases hb
  | some b0 => exact h.live k b0 hb0
 ·cases k with
  | h o => rw [hh] at hb; exact h.hno _ b hb
  | l d c => rfl
theorem ybD.weak {P : Program} {f : FuncId} {args args' : List AV} {mem mem' : Nat → Option Blk} {H : Hp} {n : Nat} {Post : AV → St → Prop} (h : ybD P f args' mem' H n Post) (ha : VWs args args') (hm : ∀ d, BW (mem d) (mem' d)) : ybD P f args mem H n Post := by
 intro G vs hg hM hV
 refine h G vs hg (hM.canon rfl rfl (fun _ => rfl) fun d c => ?_) ⟨hV.1.trans ha.1, fun j u x p q => ?_⟩
 ·show BW (if c = 1 then mem d else none) (if c = 1 then mem' d else none)
  split
  ·exact hm d
  ·trivial
 ·have hj : j < args.length := by rw [ha.1]; exact (List.getElem?_eq_some_iff.1 p).1
  exact ha.2 j _ u (List.getElem?_eq_getElem hj) p G x (hV.2 j _ x (List.getElem?_eq_getElem hj) q)
theorem ybD.canon {P : Program} {f : FuncId} {args : List AV} {mem : Nat → Option Blk} {H : Hp} {n : Nat} {Post Post' : AV → St → Prop} (h : ybD P f args mem H n Post)
  (hp : ∀ av S1, Post av S1 -> ∃ av' S1', VW av av' /\ S1'.cnt = S1.cnt /\ S1'.nx = S1.nx /\ (∀ o, S1'.M (.h o) = S1.M (.h o)) /\ (∀ d c, BW (S1.M (.l d c)) (S1'.M (.l d c))) /\ Post' av' S1') : ybD P f args mem H n Post' := by
 intro G vs hg hM hV
 refine (h G vs hg hM hV).mono ?_
 rintro e w' ⟨v, av, S1, G1, rfl, hP, hM1, hw, hv⟩
 obtain ⟨av', S1', a1, a2, a3, a4, a5, a6⟩ := hp av S1 hP
 exact ⟨v, av', S1', G1, rfl, a6, hM1.canon a2 a3 a4 a5, hw, a1 G1 v hv⟩
def bT (C : Cx K) (ts : TS K) (χ : Nat → Nat → Bool) : TB K → Blk
 | .box e cs => ⟨e, cs.length, aTs C ts χ cs⟩
 | .row e l => ⟨e, (C.E e).sz, cl (C.E e) l⟩
 | .lrow e _ cs => ⟨e, (C.E e).sz, aTs C ts χ cs⟩
theorem MR.canon {P : Program} {C : Cx K} {ts : TS K} {χ : Nat → Nat → Bool} {b : TB K} {kb : KB} (h : MR P C ts χ b kb) (hz : kb.sz ≠ 0) : BW (some kb.blk) (some (bT C ts χ b)) := by
 have hL : ∀ {us : List (TV K)} {vs : List AV}, vs.length = us.length → (∀ (j : Nat) (u : TV K) (v : AV), us[j]? = some u → vs[j]? = some v → TR P C ts χ u v) → VWs vs (aTs C ts χ us) := by
  intro us vs hl ih
  refine ⟨by rw [yhJ, List.length_map]; exact hl, fun j v w hv hw => ?_⟩
  rw [yhJ, List.getElem?_map] at hw
  obtain ⟨u, h1, rfl⟩ := Option.map_eq_some_iff.1 hw
  exact (ih j u v h1 hv).canon
 cases b with
 | box e cs => exact ⟨hz, h.2.1.symm, h.1.symm, hL h.2.2.1 h.2.2.2⟩
 | row e l =>
   refine ⟨hz, h.2.1.symm, h.1.symm, ?_⟩
   show VWs kb.cells (cl (C.E e) l)
   rw [<- h.2.2]
   refine ⟨(yba _).symm, fun j u v hu hv => ?_⟩
   obtain ⟨w, e1, rfl⟩ := ycL _ j v hv
   rw [show kb.cells[j]? = some u from hu] at e1; cases e1
   exact VW.dwk u
 | lrow e n cs => exact ⟨hz, h.2.1.symm, h.1.symm, hL h.2.2.1 h.2.2.2.2⟩
section
variable {P : Program} {C : Cx K} {ts : TS K} {χ : Nat -> Nat -> Bool}
end
end Go.AV
end
noncomputable section
namespace Go.AV
open Go.RowKit Go.RG Go.Lib
variable {K : Nat -> Type}
section
variable {P : Program} {C : Cx K} {R : List (HO K) -> Hp -> Nat -> Prop} {ts ts' : TS K} {χ χ' : Nat -> Nat -> Bool} {ds : DS}
theorem yeQ : ∀ {cs : List Prop} {p : Prop}, andL cs p → AllP cs ∧ p
 | [], _, h => ⟨trivial, h⟩
 | _ :: r, _, h => ⟨⟨h.1, (yeQ (cs := r) h.2).1⟩, (yeQ (cs := r) h.2).2⟩
theorem ycq {α : Type} {o : Option α} {X : α → Prop} (h : wpo' o X) : ∃ x, o = some x ∧ X x := by
 cases o with
 | none => exact h.elim
 | some x => exact ⟨x, rfl, h⟩
theorem GM.live (h : GM P C R ts χ ds) {s c : Nat} {b : TB K} (hb : ts.tb s c = some b) (hx : χ s c = false) : yaz (toD ds) (.l s c) = true := by
 obtain ⟨kb, h1, _⟩ := h.mb s c b hb hx
 show ((ds.kb s c).map KB.blk).isSome = true
 rw [h1]; rfl
theorem GM.box (h : GM P C R ts χ ds) {s c e : Nat} {cs : List (TV K)} (hb : ts.tb s c = some (.box e cs)) : χ s c = false := by
 cases hx : χ s c with
 | false => rfl
 | true => obtain ⟨e', h1⟩ := h.vi s c hx; rw [hb] at h1; cases h1
theorem GM.lrow (h : GM P C R ts χ ds) {s c e n : Nat} {cs : List (TV K)} (hb : ts.tb s c = some (.lrow e n cs)) : χ s c = false := by
 cases hx : χ s c with
 | false => rfl
 | true => obtain ⟨e', h1⟩ := h.vi s c hx; rw [hb] at h1; cases h1
theorem yqI {op : BinOp} {k : IntKind} {a b : Int} {lit : Bool} {cs : List Prop} {w : TV K} (h : tnum op k a b lit = some (cs, w)) (hc : AllP cs) (hs : ysF op = false) :
  ∃ D v, kbin op k a b = some (D, v) /\ AllP D /\ TR P C ts χ w v := by
 cases op <;> simp only [tnum] at h <;> simp only [kbin, binI, kok] <;> first
  | (cases h; done)
  | (cases h; exact ⟨_, _, rfl, trivial, .it _ _⟩)
  | (cases h; exact ⟨_, _, rfl, trivial, .bl _⟩)
  | (split at h
     ·split at h
      ·cases h
      ·rename_i h0; cases h; exact ⟨_, _, rfl, ⟨h0, trivial⟩, .it _ _⟩
     ·cases h; exact ⟨_, _, rfl, hc, .it _ _⟩)
  | (cases hs; done)
theorem yrs {op : BinOp} {k : IntKind} {a b : Int} {lit : Bool} {cs : List Prop} {w : TV K} (h : tshi op k a b lit = some (cs, w)) (hc : AllP cs) : (op = .shl ∨ op = .shr) ∧
  ∃ D v, kshi op k a b = some (D, v) /\ AllP D /\ TR P C ts χ w v := by
 cases op <;> simp only [tshi, tsh] at h <;> first | (cases h; done) | skip
 all_goals
  cases lit with
  | true =>
    simp only at h
    split at h
    ·cases h
    ·rename_i h0; cases h; exact ⟨by simp, _, _, rfl, ⟨h0, trivial⟩, .it _ _⟩
  | false => simp only at h; cases h; exact ⟨by simp, _, _, rfl, hc, .it _ _⟩
theorem yrm {op : BinOp} {a b : Str} {cs : List Prop} {w : TV K} (h : tstr op a b = some (cs, w)) (hc : AllP cs) : ∃ D v, kstr op a b = some (D, v) ∧ AllP D ∧ TR P C ts χ w v := by
 cases op <;> simp only [tstr] at h <;> simp only [kstr, binS, kok] <;> first
  | (cases h; done)
  | (cases h; exact ⟨_, _, rfl, hc, .st _⟩)
  | (cases h; exact ⟨_, _, rfl, trivial, .bl _⟩)
theorem TR.pxi {s c o : Nat} {v : AV} (h : TR P C ts χ (.px s c o) v) : v = .pt (.l s c) o := by cases h; rfl
theorem TR.lbi {b : Bool} {v : AV} (h : TR P C ts χ (.lb b) v) : v = .bl b := by cases h; rfl
theorem TR.bli {b : Bool} {v : AV} (h : TR P C ts χ (.bl b) v) : v = .bl b := by cases h; rfl
theorem TR.str {s : Str} {v : AV} (h : TR P C ts χ (.st s) v) : v = .st s := by cases h; rfl
theorem yri {op : BinOp} {x y : TV K} {u v : AV} {cs : List Prop} {w : TV K} (hx : TR P C ts χ x u) (hy : TR P C ts χ y v) (h : tbin op x y = some (cs, w)) (hc : AllP cs) :
  ∃ D z, (match u, v with
   | .it k a, .it k' b => if op = .shl ∨ op = .shr then kshi op k a b else if k = k' then kbin op k a b else none
   | .st a, .st b => kstr op a b
   | _, _ => none) = some (D, z) /\ AllP D /\ TR P C ts χ w z := by
 unfold tbin at h
 split at h
 ·rw [hx.str, hy.str]; exact yrm h hc
 ·split at h
  ·rename_i k a k' b e1 e2
   rw [hx.int e1, hy.int e2]
   simp only
   split at h
   ·obtain ⟨q, r⟩ := yrs (P := P) (C := C) (ts := ts) (χ := χ) h hc
    rw [if_pos q]; exact r
   ·rename_i hs
    split at h
    ·rename_i e
     rw [if_neg (by rintro (rfl | rfl) <;> cases hs), if_pos e]
     exact yqI h hc hs
    ·cases h
  ·cases h
theorem ynr {k : Nat} {x y : TV K} {u v : AV} {b : Bool} (hx : TR P C ts χ x u) (hy : TR P C ts χ y v) (h : teq1 k x y = some b) : k ≤ 2 ∧ eq1 k u v = some b := by
 unfold teq1 at h
 split at h
 ·split at h
  ·rename_i e1 e2; cases h; rw [hx.bool e1, hy.bool e2]; exact ⟨by omega, rfl⟩
  ·cases h
 ·split at h
  ·rename_i e1 e2
   split at h
   ·rename_i e; cases h; rw [hx.int e1, hy.int e2]; exact ⟨by omega, by simp [eq1, e]⟩
   ·cases h
  ·cases h
 ·cases h; rw [hx.str, hy.str]; exact ⟨by omega, rfl⟩
 ·cases h
theorem yom : ∀ {ks : List Nat} {xs ys : List (TV K)} {us vs : List AV} {b : Bool}, us.length = xs.length → vs.length = ys.length → (∀ (j : Nat) (u : TV K) (v : AV), xs[j]? = some u → us[j]? = some v → TR P C ts χ u v) →
  (∀ (j : Nat) (u : TV K) (v : AV), ys[j]? = some u -> vs[j]? = some v -> TR P C ts χ u v) -> teqL ks xs ys = some b -> eqL ks us vs = some b
 | [], [], [], us, vs, b, h1, h2, _, _, h => by
   cases us with
   | cons => simp at h1
   | nil => cases vs with
     | cons => simp at h2
     | nil => exact h
 | k :: ks, x :: xs, y :: ys, us, vs, b, h1, h2, hx, hy, h => by
   cases us with
   | nil => simp at h1
   | cons u us => cases vs with
     | nil => simp at h2
     | cons v vs =>
       simp only [teqL] at h
       split at h
       ·rename_i p q e1 e2
        cases h
        have a1 := (ynr (hx 0 x u rfl rfl).s (hy 0 y v rfl rfl).s e1).2
        have a2 := yom (us := us) (vs := vs) (by simpa using h1) (by simpa using h2) (fun j u v a b => hx (j + 1) u v (by simpa using a) (by simpa using b)) (fun j u v a b => hy (j + 1) u v (by simpa using a) (by simpa using b)) e2
        simp only [eqL, a1, a2]
       ·cases h
 | [], _ :: _, _, _, _, _, _, _, _, _, h => by simp [teqL] at h
 | [], [], _ :: _, _, _, _, _, _, _, _, h => by simp [teqL] at h
 | _ :: _, [], _, _, _, _, _, _, _, _, h => by simp [teqL] at h
 | _ :: _, _ :: _, [], _, _, _, _, _, _, _, h => by simp [teqL] at h
theorem TR.agg' {us : List (TV K)} {v : AV} (h : TR P C ts χ (.agg us) v) : ∃ vs, v = .agg vs ∧ vs.length = us.length ∧ ∀ (j : Nat) (u : TV K) (v : AV), us[j]? = some u → vs[j]? = some v → TR P C ts χ u v := by
 cases h with
 | agg us vs hl h => exact ⟨vs, rfl, hl, h⟩
theorem TR.tup' {us : List (TV K)} {v : AV} (h : TR P C ts χ (.tup us) v) : ∃ vs, v = .tup vs ∧ vs.length = us.length ∧ ∀ (j : Nat) (u : TV K) (v : AV), us[j]? = some u → vs[j]? = some v → TR P C ts χ u v := by
 cases h with
 | tup us vs hl h => exact ⟨vs, rfl, hl, h⟩
theorem TR.one1 {u : TV K} {v : AV} (h : TR P C ts χ u v) : ynl u = true → v.one = true := by
 cases h with
 | rwd s c v hr h h1 => exact fun _ => h1
 | fv ps rs F v h hv => intro _; rw [<- yjK, hv]; exact h.2.2.1
 | _ => intro h; first | rfl | (cases h; done)
theorem TR.one {u : TV K} {v : AV} (h : TR P C ts χ u v) (ht : tone u = true) : v.one = true := by
 cases h with
 | cn id u v h hn hv => exact hv.one1 ht
 | rwd s c v hr h h1 => exact h1
 | fv ps rs F v h hv => rw [<- yjK, hv]; exact h.2.2.1
 | _ => first | rfl | (cases ht; done)
theorem yki {v : AV} (h : v.one = true) : v.cells = [v] := by cases v <;> first | rfl | (cases h; done)
theorem TR.cells {u : TV K} {v : AV} (h : TR P C ts χ u v) (hu : u.s ≠ .un) : (v.cells).length = (tcl u).length ∧ ∀ (j : Nat) (w : TV K) (x : AV), (tcl u)[j]? = some w → v.cells[j]? = some x → TR P C ts χ w x := by
 have one : v.cells = [v] → (v.cells).length = [u].length ∧ ∀ (j : Nat) (w : TV K) (x : AV), [u][j]? = some w → v.cells[j]? = some x → TR P C ts χ w x := by
  intro e2
  rw [e2]
  refine ⟨rfl, fun j w x h1 h2 => ?_⟩
  cases j with
  | zero => simp at h1 h2; subst h1; subst h2; exact h
  | succ j => simp at h1
 have hs := h.s
 unfold tcl
 split
 ·rename_i cs e
  rw [e] at hs
  obtain ⟨vs, rfl, a, b⟩ := hs.agg'
  exact ⟨a, b⟩
 ·rename_i hne
  refine one ?_
  have hnc : ∀ id w, u.s ≠ .cn id w := by
   intro id w e
   cases h with
   | cn id' u v h hn hv => simp only [TV.s] at e; rw [e] at hn; cases hn
   | _ => cases e
  revert hs hne hu hnc
  generalize hw : u.s = w
  intro hu hs hne hnc
  cases hs with
  | agg us vs hl h => exact (hne _ rfl).elim
  | un v => exact (hu rfl).elim
  | rwd s c v hr h h1 => exact yki h1
  | fv ps rs F v h hv => exact yki (by rw [<- yjK, hv]; exact h.2.2.1)
  | cn id u' v h hn hv => exact (hnc _ _ rfl).elim
  | _ => rfl
variable (P C ts χ) in
def TL (us : List (TV K)) (vs : List AV) : Prop := vs.length = us.length /\ ∀ (j : Nat) (u : TV K) (v : AV), us[j]? = some u -> vs[j]? = some v -> TR P C ts χ u v
theorem TL.app {us us' : List (TV K)} {vs vs' : List AV} (h : TL P C ts χ us vs) (k : TL P C ts χ us' vs') : TL P C ts χ (us ++ us') (vs ++ vs') := by
 refine ⟨by simp [h.1, k.1], fun j u v h1 h2 => ?_⟩
 by_cases hj : j < us.length
 ·rw [List.getElem?_append_left hj] at h1
  rw [List.getElem?_append_left (by rw [h.1]; exact hj)] at h2
  exact h.2 j u v h1 h2
 ·rw [List.getElem?_append_right (by omega)] at h1
  rw [List.getElem?_append_right (by rw [h.1]; omega), h.1] at h2
  exact k.2 _ u v h1 h2
theorem TL.take {us : List (TV K)} {vs : List AV} (h : TL P C ts χ us vs) (n : Nat) : TL P C ts χ (us.take n) (vs.take n) := by
 refine ⟨by simp [h.1], fun j u v h1 h2 => ?_⟩
 rw [List.getElem?_take] at h1 h2
 split at h1
 ·rename_i hj; rw [if_pos hj] at h2; exact h.2 j u v h1 h2
 ·cases h1
theorem TL.drop {us : List (TV K)} {vs : List AV} (h : TL P C ts χ us vs) (n : Nat) : TL P C ts χ (us.drop n) (vs.drop n) := by
 refine ⟨by simp [h.1], fun j u v h1 h2 => ?_⟩
 rw [List.getElem?_drop] at h1 h2
 exact h.2 _ u v h1 h2
theorem TL.at' {us : List (TV K)} {vs : List AV} (h : TL P C ts χ us vs) {j : Nat} {u : TV K} (hj : us[j]? = some u) : ∃ v, vs[j]? = some v ∧ TR P C ts χ u v := by
 have hlt : j < vs.length := by rw [h.1]; exact (List.getElem?_eq_some_iff.1 hj).1
 exact ⟨vs[j], List.getElem?_eq_getElem hlt, h.2 j u _ hj (List.getElem?_eq_getElem hlt)⟩
theorem TL.mono (hm : Mono ts ts' χ χ') {us : List (TV K)} {vs : List AV} (h : TL P C ts χ us vs) : TL P C ts' χ' us vs := ⟨h.1, fun j u v a b => (h.2 j u v a b).mono hm⟩
theorem TL.nil : TL P C ts χ [] [] := ⟨rfl, fun j u v h => by simp at h⟩
theorem TL.cons {u : TV K} {v : AV} {us : List (TV K)} {vs : List AV} (h : TR P C ts χ u v) (k : TL P C ts χ us vs) : TL P C ts χ (u :: us) (v :: vs) := TL.app (us := [u]) (vs := [v]) ⟨rfl, fun j u' v' h1 h2 => by cases j with | zero => simp at h1 h2; subst h1; subst h2; exact h | succ j => simp at h1⟩ k
theorem TL.head {u : TV K} {v : AV} {us : List (TV K)} {vs : List AV} (h : TL P C ts χ (u :: us) (v :: vs)) : TR P C ts χ u v ∧ TL P C ts χ us vs :=
 ⟨h.2 0 u v rfl rfl, by simpa using h.1, fun j u v a b => h.2 (j + 1) u v (by simpa using a) (by simpa using b)⟩
theorem TL.cvAs (z : List AV) : TL P C ts χ (cvAs z) z := ygF z
theorem TL.one : ∀ {us : List (TV K)} {vs : List AV}, TL P C ts χ us vs → us.all tone = true → vs.all AV.one = true
 | [], [], _, _ => rfl
 | [], _ :: _, h, _ => by simp [TL] at h
 | _ :: _, [], h, _ => by simp [TL] at h
 | u :: us, v :: vs, h, ht => by
   simp only [List.all_cons, Bool.and_eq_true] at ht ⊢
   exact ⟨h.head.1.one ht.1, TL.one h.head.2 ht.2⟩
theorem TL.mapS {us : List (TV K)} {vs : List AV} (h : TL P C ts χ us vs) : TL P C ts χ (us.map TV.s) vs := by
 refine ⟨by simp [h.1], fun j u v h1 h2 => ?_⟩
 rw [List.getElem?_map] at h1
 obtain ⟨w, e1, rfl⟩ := Option.map_eq_some_iff.1 h1
 exact (h.2 j w v e1 h2).s
theorem TL.tea (h : GM P C R ts χ ds) : ∀ (l : List AOpd), TL P C ts χ (l.map (tea ts.fr)) (l.map (ev (lkF ds.fr)))
 | [] => .nil
 | x :: l => .cons (h.tea x) (TL.tea h l)
theorem TL.tev (h : GM P C R ts χ ds) : ∀ (l : List AOpd), TL P C ts χ (l.map (tev ts.fr)) (l.map (ev (lkF ds.fr)))
 | [] => .nil
 | x :: l => .cons (h.tev x) (TL.tev h l)
theorem TR.tcl {u : TV K} {v : AV} (h : TR P C ts χ u v) (ht : (tcl u).all tone = true) : TL P C ts χ (tcl u) v.cells ∧ v.cells.all AV.one = true := by
 have hu : u.s ≠ .un := by
  intro e
  cases u with
  | un => simp [Go.AV.tcl, TV.s, tone, ynl] at ht
  | cn id w => simp only [TV.s] at e; subst e; simp [Go.AV.tcl, TV.s, tone, ynl] at ht
  | _ => cases e
 have := h.cells hu
 exact ⟨this, TL.one this ht⟩
theorem yjE : ∀ (l : List (Nat × Nat × TV K)) (m : List (Nat × Nat × AV)) (cells : List (TV K)) (cells' : List AV) (cs : List (TV K)), TL P C ts χ cells cells' → m.length = l.length →
  (∀ (j : Nat) (p : Nat × Nat × TV K) (q : Nat × Nat × AV), l[j]? = some p -> m[j]? = some q -> q.1 = p.1 /\ q.2.1 = p.2.1 /\ TR P C ts χ p.2.2 q.2.2) -> yl6 cells l = some cs -> ∃ cs', yfk cells' m = some cs' /\ TL P C ts χ cs cs'
 | [], m, cells, cells', cs, h, hl, _, e => by
   cases m with
   | cons => simp at hl
   | nil => cases e; exact ⟨cells', rfl, h⟩
 | (off, sz, v) :: l, m, cells, cells', cs, h, hl, hh, e => by
   cases m with
   | nil => simp at hl
   | cons q m =>
     obtain ⟨off', sz', v'⟩ := q
     obtain ⟨e1, e2, e3⟩ := hh 0 _ _ rfl rfl
     simp only at e1 e2 e3
     subst e1; subst e2
     simp only [yl6] at e
     split at e
     ·rename_i hc
      simp only [Bool.and_eq_true] at hc
      obtain ⟨⟨c1, c2⟩, c3⟩ := hc
      obtain ⟨t1, t2⟩ := e3.tcl c3
      have c1' := nbeq.1 c1
      have hc' : v'.cells.length = sz' /\ off' + sz' <= cells'.length /\ v'.cells.all AV.one = true := ⟨by rw [t1.1, c1'], by rw [h.1]; exact Nat.le_of_ble_eq_true c2, t2⟩
      simp only [yfk]
      rw [if_pos hc']
      exact yjE l m _ _ cs (((h.take off').app t1).app (h.drop (off' + sz'))) (by simpa using hl) (fun j p q a b => hh (j + 1) p q (by simpa using a) (by simpa using b)) e
     ·cases e
theorem yof {mx : Bool} {k : IntKind} : ∀ (r : List (TV K)) (r' : List AV) (a : Int) (w : TV K), TL P C ts χ r r' → tmnL mx k a r = some w → ∃ v, mnL mx k a r' = some v ∧ TR P C ts χ w v
 | [], r', a, w, h, e => by
   cases r' with
   | cons => simp [TL] at h
   | nil => cases e; exact ⟨_, rfl, .it _ _⟩
 | x :: r, r', a, w, h, e => by
   cases r' with
   | nil => simp [TL] at h
   | cons y r' =>
     simp only [tmnL] at e
     split at e
     ·rename_i k' b e1
      have hy := h.head.1.int e1
      subst hy
      split at e
      ·rename_i ek
       obtain ⟨v, h1, h2⟩ := yof r r' _ w h.head.2 e
       refine ⟨v, ?_, h2⟩
       simp only [mnL]
       rw [if_pos ek, <- h1]
       cases mx <;> rfl
      ·cases e
     ·cases e
theorem ygy (h : GM P C R ts χ ds) {d a : Int} {x : Option AOpd} (e : tbnd ts.fr d x = some a) : bnd (ev (lkF ds.fr)) d x = some a := by
 cases x with
 | none => exact e
 | some x =>
   simp only [tbnd] at e
   split at e
   ·rename_i k n e1
    cases e
    simp only [bnd, (h.tev x).int e1]
   ·cases e
theorem ysf {g : Bool} {kind : Nat} {x y : TV K} {u v : AV} {live : Key → Bool} {cs : List Prop} {w : TV K} (hx : TR P C ts χ x u) (hy : TR P C ts χ y v) (h : teq g kind x y = some (cs, w)) (hc : AllP cs) :
  ∃ D z, keq live g kind u v = some (D, z) /\ AllP D /\ TR P C ts χ w z := by
 unfold teq at h
 split at h
 ·split at h
  ·cases h; cases hx; cases hy; exact ⟨[], .bl (!g), rfl, trivial, .lb _⟩
  ·cases h
 ·split at h
  ·cases h; cases hx; cases hy; exact ⟨[], .bl (!g), by cases g <;> rfl, trivial, .lb _⟩
  ·cases h
 ·split at h
  ·rename_i b e1
   cases h
   obtain ⟨hk, e2⟩ := ynr hx hy e1
   refine ⟨[], .bl (ngB g b), ?_, trivial, .bl _⟩
   have hk' : kind = 0 ∨ kind = 1 ∨ kind = 2 := by omega
   have : eqP live kind u v = some b := by
    rcases hk' with rfl | rfl | rfl <;> exact e2
   have hns : ∀ z n xs, u ≠ .sl z n xs := by
    rintro z n xs rfl
    rcases hk' with rfl | rfl | rfl <;> simp [eq1] at e2
   unfold keq
   split
   ·exact absurd rfl (hns _ _ _)
   ·exact absurd rfl (hns _ _ _)
   ·exact absurd rfl (hns _ _ _)
   ·rw [this]; rfl
  ·cases h
theorem yoo : ∀ {cs : List (TV K)} {vs : List AV} {k : IntKind} {l : List Int}, TL P C ts χ cs vs → selI cs = some (k, l) → l.length = cs.length ∧ ∀ (j : Nat) (n : Int), l[j]? = some n → vs[j]? = some (.it k n)
 | [], vs, k, l, t, h => by simp [selI] at h
 | v :: r, [], k, l, t, h => by simp [TL] at t
 | v :: r, w :: vs, k, l, t, h => by
   simp only [selI] at h
   split at h
   ·rename_i k0 n0 h0
    have hw : w = .it k0 n0 := t.head.1.s.int h0
    split at h
    ·cases h
     refine ⟨rfl, fun j n hj => ?_⟩
     cases j with
     | zero => simp at hj; subst hj; simp [hw]
     | succ j => simp at hj
    ·split at h
     ·rename_i k' l' h1
      split at h
      ·rename_i e
       cases h
       subst e
       obtain ⟨a, b⟩ := yoo t.head.2 h1
       refine ⟨by simp [a], fun j n hj => ?_⟩
       cases j with
       | zero => simp at hj; subst hj; simp [hw]
       | succ j => simpa using b j n (by simpa using hj)
      ·cases h
     ·cases h
   ·cases h
theorem ynN : ∀ {cs : List (TV K)} {vs : List AV} {l : List Str}, TL P C ts χ cs vs → selS cs = some l → l.length = cs.length ∧ ∀ (j : Nat) (n : Str), l[j]? = some n → vs[j]? = some (.st n)
 | [], vs, l, t, h => by simp only [selS] at h; cases h; exact ⟨rfl, fun j n hj => by simp at hj⟩
 | v :: r, [], l, t, h => by simp [TL] at t
 | v :: r, w :: vs, l, t, h => by
   simp only [selS] at h
   split at h
   ·rename_i s l' h0 h1
    cases h
    have hs := t.head.1.s
    rw [h0] at hs
    have hw : w = .st s := hs.str
    obtain ⟨a, b⟩ := ynN t.head.2 h1
    refine ⟨by simp [a], fun j n hj => ?_⟩
    cases j with
    | zero => simp at hj; subst hj; simp [hw]
    | succ j => simpa using b j n (by simpa using hj)
   ·cases h
theorem yrB {us : List (TV K)} {vs : List AV} {len : Nat} {i : Int} {cs : List Prop} {w : TV K} (t : TL P C ts χ us vs) (h : tsel us len i = some (cs, w)) (hl : Nat.ble len us.length = true) (hc : AllP cs) : cs = [0 ≤ i ∧ i < len] ∧ TR P C ts χ w ((vs[i.toNat]?).getD .un) := by
 unfold tsel at h
 have hl' := Nat.le_of_ble_eq_true hl
 split at h
 ·rename_i k l h1
  cases h
  refine ⟨rfl, ?_⟩
  obtain ⟨a, b⟩ := yoo t h1
  have h0 : 0 <= i /\ i < len := hc.1
  have hlt : i.toNat < l.length := by omega
  rw [b _ _ (List.getElem?_eq_getElem hlt), List.getElem?_eq_getElem hlt]
  exact .it _ _
 ·split at h
  ·rename_i l h1
   cases h
   refine ⟨rfl, ?_⟩
   obtain ⟨a, b⟩ := ynN t h1
   have h0 : 0 <= i /\ i < len := hc.1
   have hlt : i.toNat < l.length := by omega
   rw [b _ _ (List.getElem?_eq_getElem hlt), List.getElem?_eq_getElem hlt]
   exact .st _
  ·cases h
theorem ysB (hγ : GM P C R ts χ ds) {u : AOp} {cs : List Prop} {w : TV K} (h : tqv ts u = some (cs, w)) (hc : AllP cs) :
  ysi u = false /\ ∃ D v, kpv (yaz (toD ds)) ds.fr u = some (D, v) /\ AllP D /\ TR P C ts χ w v := by
 have lvx : ∀ {s c : Nat} {v : TV K}, tlvx ts s c v = some (cs, w) → cs = [] ∧ w = v ∧ yaz (toD ds) (.l s c) = true := by
  intro s c v e
  unfold tlvx at e
  split at e
  ·rename_i e' cs' e1; cases e; exact ⟨rfl, rfl, hγ.live e1 (hγ.box e1)⟩
  ·cases e
 have lv : ∀ {s c : Nat} {v : TV K}, χ s c = false → ypw ts s c v = some (cs, w) → cs = [] ∧ w = v ∧ yaz (toD ds) (.l s c) = true := by
  intro s c v hx e
  unfold ypw at e
  split at e
  ·rename_i b e1; cases e; exact ⟨rfl, rfl, hγ.live e1 hx⟩
  ·cases e
 unfold tqv at h
 simp only at h
 split at h
 case h_1 x =>
  cases h; exact ⟨rfl, [], _, rfl, trivial, hγ.tea x⟩
 case h_2 z parts =>
  split at h
  ·rename_i cs' e
   cases h
   obtain ⟨cs2, e2, t⟩ := yjE (P := P) (C := C) (ts := ts) (χ := χ) _ (parts.map fun p => (p.1, p.2.1, ev (lkF ds.fr) p.2.2)) _ z _ (TL.cvAs z) (by simp) (fun j p q a b => by
    rw [List.getElem?_map] at a b
    cases hp : parts[j]? with
    | none => rw [hp] at a; cases a
    | some r => rw [hp] at a b; cases a; cases b; exact ⟨rfl, rfl, hγ.tea _⟩) e
   refine ⟨rfl, [], .agg cs2, ?_, trivial, .agg _ _ t.1 t.2⟩
   simp only [kpv, pval, e2, kok, Option.map_some]
  ·cases h
 case h_3 x =>
  have hx := hγ.tev x
  split at h
  ·rename_i s c o e
   rw [e] at hx
   obtain ⟨rfl, rfl, hl⟩ := lvx h
   have ev' : ev (lkF ds.fr) x = .pt (.l s c) o := hx.pxi
   refine ⟨rfl, [], _, ?_, trivial, ev' ▸ hx⟩
   simp only [kpv, pval, ev', hl, if_true, kok]
  ·rename_i e' s c i o e
   rw [e] at hx
   cases hx' : (ev (lkF ds.fr) x) with
   | pt k off =>
     rw [hx'] at hx
     cases hx with
     | pr _ _ _ _ _ hr hxx =>
       obtain ⟨rfl, rfl, hl⟩ := lv hxx h
       refine ⟨rfl, [], .pt (.l s c) _, ?_, trivial, .pr _ _ _ _ _ hr hxx⟩
       simp only [kpv, pval, hx', hl, if_true, kok]
   | _ => rw [hx'] at hx; cases hx
  ·rename_i e' l i o e
   rw [e] at hx
   cases h
   cases hx' : (ev (lkF ds.fr) x) with
   | ep xs off =>
     rw [hx'] at hx
     refine ⟨rfl, [], .ep xs off, ?_, trivial, hx⟩
     simp only [kpv, pval, hx', kok]
   | _ => rw [hx'] at hx; cases hx
  ·rename_i l i e
   rw [e] at hx
   cases h
   cases hx' : (ev (lkF ds.fr) x) with
   | ep xs off =>
     rw [hx'] at hx
     refine ⟨rfl, [], .ep xs off, ?_, trivial, hx⟩
     simp only [kpv, pval, hx', kok]
   | _ => rw [hx'] at hx; cases hx
  ·rename_i f a c e
   rw [e] at hx
   cases h
   cases hx' : (ev (lkF ds.fr) x) with
   | fn f' a' c' =>
     rw [hx'] at hx
     have : f' = .func f := by cases hx; rfl
     subst this
     refine ⟨rfl, [], .fn (.func f) a' c', ?_, trivial, hx⟩
     simp only [kpv, pval, hx', kok]
   | _ => rw [hx'] at hx; cases hx
  ·rename_i ps rs V e
   rw [e] at hx
   cases h
   have hx2 := hx
   cases hx with
   | fv _ _ _ _ hF hv =>
     obtain ⟨_, _, _, f, a, c, e1, _⟩ := hF
     rw [e1] at hv
     cases hx' : (ev (lkF ds.fr) x) with
     | fn f' a' c' =>
       rw [hx'] at hv hx2
       simp only [dwk, AV.fn.injEq] at hv
       obtain ⟨rfl, _, _⟩ := hv
       refine ⟨rfl, [], .fn (.func f) a' c', ?_, trivial, hx2⟩
       simp only [kpv, pval, hx', kok]
     | _ => rw [hx'] at hv; simp [dwk] at hv
  ·cases h
 case h_4 op x y =>
  obtain ⟨D, z, h1, h2, h3⟩ := yri (hγ.tev x) (hγ.tev y) h hc
  exact ⟨rfl, D, z, h1, h2, h3⟩
 case h_5 g k x y =>
  obtain ⟨D, z, h1, h2, h3⟩ := ysf (live := yaz (toD ds)) (hγ.tev x) (hγ.tev y) h hc
  exact ⟨rfl, D, z, h1, h2, h3⟩
 case h_6 g ks x y =>
  have hx := hγ.tev x
  have hy := hγ.tev y
  split at h
  ·rename_i a b e1 e2
   rw [e1] at hx; rw [e2] at hy
   obtain ⟨us, f1, t1, t2⟩ := hx.agg'
   obtain ⟨vs, f2, t3, t4⟩ := hy.agg'
   split at h
   ·rename_i r e3
    cases h
    have := yom t1 t3 t2 t4 e3
    refine ⟨rfl, [], .bl (ngB g r), ?_, trivial, .bl _⟩
    simp only [kpv, f1, f2, this, kok, Option.map_some]
   ·cases h
  ·cases h
 case h_7 op x =>
  have hx := hγ.tev x
  split at h
  ·split at h
   ·rename_i k n e
    cases h
    have := hx.int e
    refine ⟨rfl, [], .it k _, ?_, trivial, .it _ _⟩
    simp only [kpv, pval, this, kok]
   ·cases h
  ·split at h
   ·rename_i b e
    cases h
    rw [e] at hx
    have : ev (lkF ds.fr) x = .bl b := hx.lbi
    refine ⟨rfl, [], .bl (!b), ?_, trivial, .lb _⟩
    simp only [kpv, pval, this, kok]
   ·rename_i b e
    cases h
    rw [e] at hx
    have : ev (lkF ds.fr) x = .bl b := hx.bli
    refine ⟨rfl, [], .bl (!b), ?_, trivial, .bl _⟩
    simp only [kpv, pval, this, kok]
   ·cases h
  ·cases h
 case h_8 k x =>
  split at h
  ·rename_i k' n e
   cases h
   have := (hγ.tev x).int e
   refine ⟨rfl, [], .it k _, ?_, trivial, .it _ _⟩
   simp only [kpv, pval, this, kok]
  ·cases h
 case h_9 x =>
  have hx := hγ.tev x
  split at h
  ·rename_i l e
   cases h
   rw [e] at hx
   refine ⟨rfl, [], .st l, ?_, trivial, .st _⟩
   simp only [kpv, pval, hx.str, kok]
  ·cases h
 case h_10 x lo hi =>
  have hx := hγ.tev x
  split at h
  ·rename_i l e
   rw [e] at hx
   split at h
   ·rename_i a b e1 e2
    cases h
    refine ⟨rfl, _, .st ((l.drop a.toNat).take (b.toNat - a.toNat)), ?_, hc, .st _⟩
    simp only [kpv, hx.str, ygy hγ e1, ygy hγ e2, ksls]
   ·cases h
  ·cases h
 case h_11 off x =>
  have hx := hγ.tev x
  split at h
  ·rename_i s c o e
   rw [e] at hx
   obtain ⟨rfl, rfl, hl⟩ := lvx h
   cases hx' : (ev (lkF ds.fr) x) with
   | pt k off' =>
     rw [hx'] at hx
     cases hx with
     | px _ _ _ hr =>
       refine ⟨rfl, [], .pt (.l s c) (o + off), ?_, trivial, .px _ _ _ hr⟩
       simp only [kpv, pval, hx', hl, if_true, kok]
   | _ => rw [hx'] at hx; cases hx
  ·rename_i e' s c i o e
   rw [e] at hx
   cases hx' : (ev (lkF ds.fr) x) with
   | pt k off' =>
     rw [hx'] at hx
     cases hx with
     | pr _ _ _ _ _ hr hxx =>
       obtain ⟨rfl, rfl, hl⟩ := lv hxx h
       refine ⟨rfl, [], .pt (.l s c) (i * (C.E e').sz + o + off), ?_, trivial, by rw [Nat.add_assoc]; exact .pr _ _ _ _ _ hr hxx⟩
       simp only [kpv, pval, hx', hl, if_true, kok]
   | _ => rw [hx'] at hx; cases hx
  ·rename_i e' l i o e
   rw [e] at hx
   cases h
   cases hx' : (ev (lkF ds.fr) x) with
   | ep xs off' =>
     rw [hx'] at hx
     cases hx with
     | ep _ _ _ _ _ hxx =>
       refine ⟨rfl, [], .ep xs (i * (C.E e').sz + o + off), ?_, trivial, by rw [Nat.add_assoc]; exact .ep _ _ _ _ _ hxx⟩
       simp only [kpv, pval, hx', kok]
   | _ => rw [hx'] at hx; cases hx
  ·cases h
 case h_12 g off sz x =>
  have hx := hγ.tev x
  split at h
  ·rename_i us e
   rw [e] at hx
   obtain ⟨vs, f1, t⟩ := hx.agg'
   have t : TL P C ts χ us vs := t
   split at h
   ·cases h
    refine ⟨rfl, [], .agg ((vs.drop off).take sz), ?_, trivial, .agg _ _ ((t.drop off).take sz).1 ((t.drop off).take sz).2⟩
    simp only [kpv, pval, f1, kok, if_true]
   ·split at h
    ·rename_i v e1
     cases h
     obtain ⟨v', e2, e3⟩ := t.at' e1
     refine ⟨rfl, [], v', ?_, trivial, e3⟩
     simp only [kpv, pval, f1, e2, kok, Bool.false_eq_true, if_false]
    ·cases h
  ·cases h
 case h_13 len sz x i =>
  have hx := hγ.tev x
  have hi := hγ.tev i
  split at h
  ·rename_i s c o k n e1 e2
   rw [e1] at hx; rw [e2] at hi
   split at h
   ·rename_i hb
    obtain ⟨rfl, rfl, hl⟩ := lvx h
    cases hx' : (ev (lkF ds.fr) x) with
    | pt q off' =>
      rw [hx'] at hx
      cases hx with
      | px _ _ _ hr =>
        refine ⟨rfl, [0 <= n /\ n < len], .pt (.l s c) (o + n.toNat * sz), ?_, ⟨hb, trivial⟩, .px _ _ _ hr⟩
        simp only [kpv, hx', hi.int (k := k) (n := n) rfl, hl]
    | _ => rw [hx'] at hx; cases hx
   ·cases h
  ·rename_i l o e1
   rw [e1] at hx
   split at h
   ·rename_i k n e2
    cases h
    cases hx' : (ev (lkF ds.fr) x) with
    | ep xs off' =>
      rw [hx'] at hx
      cases hx with
      | gs _ _ _ hxx =>
        refine ⟨rfl, [0 <= n /\ n < len], .ep xs (o + n.toNat * sz), ?_, ?_, .gs _ _ _ hxx⟩
        ·simp only [kpv, hx', hi.int e2]
        ·exact hc
    | _ => rw [hx'] at hx; cases hx
   ·cases h
  ·cases h
 case h_14 x i =>
  have hx := hγ.tev x
  split at h
  ·rename_i l k n e1 e2
   rw [e1] at hx
   cases h
   refine ⟨rfl, _, _, ?_, hc, .it _ _⟩
   simp only [kpv, hx.str, (hγ.tev i).int e2, bAt]
  ·cases h
 case h_15 g len sz x i =>
  have hx := hγ.tev x
  have hi := hγ.tev i
  split at h
  ·rename_i us k n e1 e2
   rw [e1] at hx; rw [e2] at hi
   obtain ⟨vs, f1, t⟩ := hx.agg'
   have t : TL P C ts χ us vs := t
   split at h
   ·rename_i hb
    split at h
    ·cases h
     refine ⟨rfl, [], .agg ((vs.drop (n.toNat * sz)).take sz), ?_, trivial, .agg _ _ ((t.drop _).take sz).1 ((t.drop _).take sz).2⟩
     simp only [kpv, pval, f1, hi.int (k := k) (n := n) rfl, kok, if_true, if_pos hb, Bool.not_true, Bool.false_and]
    ·split at h
     ·rename_i v e3
      cases h
      obtain ⟨v', e4, e5⟩ := t.at' e3
      cases hq : (!false && Nat.beq sz 1 && Nat.ble len vs.length) with
      | false =>
        refine ⟨rfl, [], v', ?_, trivial, e5⟩
        simp only [kpv, pval, f1, hi.int (k := k) (n := n) rfl, e4, kok, hq, Bool.false_eq_true, if_false, if_pos hb]
      | true =>
        refine ⟨rfl, [0 <= n /\ n < len], v', ?_, ⟨hb, trivial⟩, e5⟩
        have h1 : sz = 1 := by simp only [Bool.and_eq_true] at hq; exact nbeq.1 hq.1.2
        subst h1
        rw [Nat.mul_one] at e4
        simp only [kpv, f1, hi.int (k := k) (n := n) rfl, hq, e4, Option.getD_some]
     ·cases h
   ·cases h
  ·rename_i us k n e1 e2
   rw [e1] at hx; rw [e2] at hi
   obtain ⟨vs, f1, t⟩ := hx.agg'
   have t : TL P C ts χ us vs := t
   split at h
   ·rename_i hq
    have hq0 := hq
    simp only [Bool.and_eq_true] at hq
    obtain ⟨e3, e4⟩ := yrB t h hq.2 hc
    refine ⟨rfl, [0 <= n /\ n < len], _, ?_, by rw [<- e3]; exact hc, e4⟩
    rw [<- t.1] at hq0
    simp only [kpv, f1, hi.int (k := k) (n := n) rfl, hq0]
   ·cases h
  ·cases h
 case h_16 x i =>
  have hx := hγ.tev x
  split at h
  ·rename_i us e
   rw [e] at hx
   obtain ⟨vs, f1, t⟩ := hx.tup'
   have t : TL P C ts χ us vs := t
   split at h
   ·rename_i v e1
    cases h
    obtain ⟨v', e2, e3⟩ := t.at' e1
    refine ⟨rfl, [], v', ?_, trivial, e3⟩
    simp only [kpv, pval, f1, e2, kok]
   ·cases h
  ·cases h
 case h_17 x =>
  have hx := hγ.tev x
  split at h
  ·rename_i l e
   cases h
   rw [e] at hx
   refine ⟨rfl, [], .it .i64 (l.length : Int), ?_, trivial, .it _ _⟩
   simp only [kpv, pval, hx.str, kok]
  ·cases h
 case h_18 mx xs =>
  split at h
  ·cases h
  ·rename_i x r
   split at h
   ·rename_i k a e1
    split at h
    ·rename_i v e2
     cases h
     obtain ⟨v', e3, e4⟩ := yof _ _ a w (TL.tev hγ r) e2
     refine ⟨rfl, [], v', ?_, trivial, e4⟩
     simp only [kpv, pval, List.map_cons, (hγ.tev x).int e1, e3, kok]
    ·cases h
   ·cases h
 case h_19 f a c =>
  cases h
  refine ⟨rfl, [], .fn (.func f) (a.map (ev (lkF ds.fr))) (c.map (ev (lkF ds.fr))), ?_, trivial, .fn _ _ _ _ _ (TL.tea hγ a).1 (TL.tea hγ c).1 (TL.tea hγ a).2 (TL.tea hγ c).2⟩
  simp only [kpv, pval, kok]
 case h_20 => cases h
end
end Go.AV
end
noncomputable section
namespace Go.AV
open Go.RowKit Go.RG Go.Lib
variable {K : Nat -> Type}
mutual
theorem ykh : ∀ (u : AV), dwk (dwk u) = dwk u
 | .agg cs => by simp only [dwk]; rw [ybL cs]
 | .tup cs => by simp only [dwk]; rw [ybL cs]
 | .fn f a c => by simp only [dwk]; rw [ybL a, ybL c]
 | .sl z n xs => by simp only [dwk]; rw [ybL xs]
 | .ep xs off => by simp only [dwk]; rw [ybL xs]
 | .gs k n => rfl
 | .pt k n => rfl
 | .bl b => rfl
 | .it k n => rfl
 | .st s => rfl
 | .nptr => rfl
 | .nfn => rfl
 | .un => rfl
 | .yld o => rfl
 | .rcd a b c d => rfl
theorem ybL : ∀ (l : List AV), dwks (dwks l) = dwks l
 | [] => rfl
 | x :: l => by simp only [dwks]; rw [ykh x, ybL l]
end
theorem ybi (a b : List AV) : dwks (a ++ b) = dwks a ++ dwks b := by simp [ycS]
theorem ydQ (a : List AV) (n : Nat) : dwks (a.take n) = (dwks a).take n := by simp [ycS, List.map_take]
theorem yeE (a : List AV) (n : Nat) : dwks (a.drop n) = (dwks a).drop n := by simp [ycS, List.map_drop]
mutual
theorem yjk : ∀ (u : AV), dwk (weak u) = dwk u
 | .agg cs => by simp only [weak, dwk]; rw [ydH cs]
 | .tup cs => by simp only [weak, dwk]; rw [ydH cs]
 | .fn f a c => by simp only [weak, dwk]; rw [ydH a, ydH c]
 | .sl z n xs => rfl
 | .ep xs off => rfl
 | .gs k n => rfl
 | .pt k n => rfl
 | .bl b => rfl
 | .it k n => rfl
 | .st s => rfl
 | .nptr => rfl
 | .nfn => rfl
 | .un => rfl
 | .yld o => rfl
 | .rcd a b c d => rfl
theorem ydH : ∀ (l : List AV), dwks (yeV l) = dwks l
 | [] => rfl
 | x :: l => by simp only [yeV, dwks]; rw [yjk x, ydH l]
end
theorem ycB {l : List AV} {T : Type} {E : Enc T} {k : List T} (h : dwks l = cl E k) : noLs l = true := by rw [<- yct, h]; exact yty E k
section
variable {P : Program} {C : Cx K} {R : List (HO K) -> Hp -> Nat -> Prop} {ts ts' : TS K} {χ χ' : Nat -> Nat -> Bool} {ds : DS}
theorem TR.undwk {u : TV K} {w : AV} (h : TR P C ts χ u w) : ∀ {v : AV}, w = dwk v → TR P C ts χ u v := by
 have hL : ∀ {us : List (TV K)} {ws : List AV}, ws.length = us.length → (∀ (j : Nat) (u : TV K) (w : AV), us[j]? = some u → ws[j]? = some w → ∀ {v : AV}, w = dwk v → TR P C ts χ u v) → ∀ {vs : List AV}, ws = dwks vs → vs.length = us.length ∧ ∀ (j : Nat) (u : TV K) (v : AV), us[j]? = some u → vs[j]? = some v → TR P C ts χ u v := by
  intro us ws hl hh vs e
  subst e
  refine ⟨by rw [<- hl, yba], fun j u v h1 h2 => hh j u (dwk v) h1 (by rw [ycS, List.getElem?_map, h2]; rfl) rfl⟩
 induction h with
 | un w => exact fun _ => .un _
 | lb b => intro v e; cases v <;> simp [dwk] at e; subst e; exact .lb _
 | bl b => intro v e; cases v <;> simp [dwk] at e; subst e; exact .bl _
 | li k n => intro v e; cases v <;> simp [dwk] at e; obtain ⟨rfl, rfl⟩ := e; exact .li _ _
 | it k n => intro v e; cases v <;> simp [dwk] at e; obtain ⟨rfl, rfl⟩ := e; exact .it _ _
 | st s => intro v e; cases v <;> simp [dwk] at e; subst e; exact .st _
 | agg us ws hl _ ih =>
   intro v e
   cases v with
   | agg vs => simp only [dwk, AV.agg.injEq] at e; obtain ⟨a, b⟩ := hL hl ih e; exact .agg us vs a b
   | _ => simp [dwk] at e
 | tup us ws hl _ ih =>
   intro v e
   cases v with
   | tup vs => simp only [dwk, AV.tup.injEq] at e; obtain ⟨a, b⟩ := hL hl ih e; exact .tup us vs a b
   | _ => simp [dwk] at e
 | nil => intro v e; cases v <;> simp [dwk] at e
 | em z =>
   intro v e
   cases v with
   | sl z' n xs =>
     simp only [dwk, AV.sl.injEq] at e
     obtain ⟨_, rfl, e⟩ := e
     have : xs = [] := by cases xs with | nil => rfl | cons => simp [dwks] at e
     subst this; exact .em _
   | _ => simp [dwk] at e
 | sl e0 l z n xs hn hx =>
   intro v e
   cases v with
   | sl z' n' xs' =>
     simp only [dwk, AV.sl.injEq] at e
     obtain ⟨_, rfl, rfl⟩ := e
     exact .sl e0 l _ _ _ hn (by rw [<- hx, ybL])
   | _ => simp [dwk] at e
 | rwd s c w hr h h1 => intro v e; subst e; exact .rwd s c v hr h (by rw [<- yjK]; exact h1)
 | rw s c n hr h hx => intro v e; cases v <;> simp [dwk] at e; obtain ⟨rfl, rfl⟩ := e; exact .rw _ _ _ hr h hx
 | rwn s c hr h hx => intro v e; cases v <;> simp [dwk] at e
 | px s c off hr => intro v e; cases v <;> simp [dwk] at e; obtain ⟨rfl, rfl⟩ := e; exact .px _ _ _ hr
 | pr e0 s c i of hr hx => intro v e; cases v <;> simp [dwk] at e; obtain ⟨rfl, rfl⟩ := e; exact .pr _ _ _ _ _ hr hx
 | ep e0 l i of xs hx =>
   intro v e
   cases v with
   | ep xs' off =>
     simp only [dwk, AV.ep.injEq] at e
     obtain ⟨rfl, rfl⟩ := e
     exact .ep e0 l i of _ (by rw [<- hx, ybL])
   | _ => simp [dwk] at e
 | gs l i xs hx =>
   intro v e
   cases v with
   | ep xs' off =>
     simp only [dwk, AV.ep.injEq] at e
     obtain ⟨rfl, rfl⟩ := e
     exact .gs l _ _ (by rw [<- hx, ybL])
   | _ => simp [dwk] at e
 | nptr => intro v e; cases v <;> simp [dwk] at e; exact .nptr
 | fn f a c a' c' ha hc _ _ ih ih' =>
   intro v e
   cases v with
   | fn f' a2 c2 =>
     simp only [dwk, AV.fn.injEq] at e
     obtain ⟨rfl, e1, e2⟩ := e
     obtain ⟨p1, p2⟩ := hL ha ih e1
     obtain ⟨q1, q2⟩ := hL hc ih' e2
     exact .fn f a c a2 c2 p1 q1 p2 q2
   | _ => simp [dwk] at e
 | fv ps rs F w h hv => intro v e; subst e; exact .fv ps rs F v h (by rw [<- hv, ykh])
 | cn id u w h hn _ ih => intro v e; exact .cn id u v h hn (ih e)
theorem TR.pri {e s c i of : Nat} {v : AV} (h : TR P C ts χ (.pr e s c i of) v) : χ s c = false /\ v = .pt (.l s c) (i * (C.E e).sz + of) := by cases h; exact ⟨by assumption, rfl⟩
theorem TR.epi {e i of : Nat} {l : List (K e)} {v : AV} (h : TR P C ts χ (.ep e l i of) v) : ∃ xs, dwks xs = cl (C.E e) l /\ v = .ep xs (i * (C.E e).sz + of) := by cases h; exact ⟨_, by assumption, rfl⟩
theorem ymx : ∀ (l : List Str) {xs : List AV}, dwks xs = l.map .st → xs = l.map .st
 | [], xs, h => by cases xs with | nil => rfl | cons x xs => simp [dwks] at h
 | s :: l, xs, h => by
   cases xs with
   | nil => simp [dwks] at h
   | cons x xs =>
     simp only [dwks, List.map_cons, List.cons.injEq] at h
     rw [ymx l h.2, List.map_cons]
     congr 1
     cases x <;> simp [dwk] at h
     rw [h.1]
theorem TR.gsi {i : Nat} {l : List Str} {v : AV} (h : TR P C ts χ (.gs l i) v) : ∃ xs, dwks xs = l.map .st /\ v = .ep xs i := by cases h; exact ⟨_, by assumption, rfl⟩
theorem TR.sli {e : Nat} {l : List (K e)} {v : AV} (h : TR P C ts χ (.sl e l) v) : ∃ z xs, dwks xs = cl (C.E e) l ∧ v = .sl z l.length xs := by
 cases h with
 | sl _ _ z n xs hn hx => subst hn; exact ⟨z, xs, hx, rfl⟩
theorem TR.rwi {s c : Nat} {n : Nat} {v : AV} (h : TR P C ts χ (.rw s c) v) (hn : tln (ts.tb s c) = some n) : (χ s c = false ∧ v = .gs (.l s c) n) ∨ (χ s c = true ∧ n = 0 ∧ v = .sl true 0 []) := by
 cases h with
 | rwd _ _ _ _ h => rw [hn] at h; cases h
 | rw _ _ n' _ h hx => rw [hn] at h; cases h; exact .inl ⟨hx, rfl⟩
 | rwn _ _ _ h hx => rw [hn] at h; cases h; exact .inr ⟨hx, rfl, rfl⟩
theorem TR.twk {u : TV K} {v : AV} (h : TR P C ts χ u v) : TR P C ts χ (Go.AV.twk u) (weak v) := by
 have hs := h.s
 unfold Go.AV.twk
 revert hs
 have hnc : ∀ id w, u.s ≠ .cn id w := by
  intro id w e
  cases h with
  | cn id' u v h hn hv => simp only [TV.s] at e; rw [e] at hn; cases hn
  | _ => cases e
 revert hnc
 generalize u.s = w
 intro hnc hs
 cases hs with
 | un v => exact .un _
 | lb b => exact .lb b
 | bl b => exact .bl b
 | li k n => exact .li k n
 | it k n => exact .it k n
 | st s => exact .st s
 | agg us vs hl h => exact .un _
 | tup us vs hl h => exact .un _
 | nil => exact .em _
 | em z => exact .em _
 | sl e l z n xs hn hx => exact .sl e l _ n xs hn hx
 | rwd s c v hr h h1 => exact .un _
 | rw s c n hr h hx => exact .un _
 | rwn s c hr h hx => exact .un _
 | px s c off hr => exact .px s c off hr
 | pr e s c i of hr hx => exact .pr e s c i of hr hx
 | ep e l i of xs hx => exact .ep e l i of xs hx
 | gs l i xs hx => exact .gs l i xs hx
 | nptr => exact .nptr
 | fn f a c a' c' ha hc h h' => exact .un _
 | fv ps rs F v h hv => exact .fv ps rs F _ h (by rw [yjk]; exact hv)
 | cn id u v h hn hv => exact (hnc _ _ rfl).elim
theorem ydF {e e' : Nat} {l : List (K e)} {l' : List (K e')} (h : yhy e e' l = some l') : ∃ he : e = e', he ▸ l = l' := by
 unfold yhy at h
 split at h
 ·rename_i he; exact ⟨he, Option.some.inj h⟩
 ·cases h
theorem yjY (hC : CxOk P C) {e : Nat} : ∀ (n : Nat) (cs : List (TV K)) (vs : List AV) (l : List (K e)), yoD (C.T e).rd (C.E e).sz n cs = some l → TL P C ts χ cs vs → cs.length = n * (C.E e).sz → dwks vs = cl (C.E e) l ∧ l.length = n
 | 0, cs, vs, l, h, t, hl => by
   cases h
   have : vs = [] := List.eq_nil_of_length_eq_zero (by rw [t.1, hl]; simp)
   subst this; exact ⟨rfl, rfl⟩
 | n + 1, cs, vs, l, h, t, hl => by
   simp only [yoD] at h
   split at h
   ·rename_i x r h1 h2
    cases h
    obtain ⟨a1, a2⟩ := yjY hC n _ (vs.drop (C.E e).sz) r h2 (t.drop _) (by rw [List.length_drop, hl, Nat.add_mul]; omega)
    have b1 := (t.take (C.E e).sz).mapS
    have b2 := hC.rd e _ x ts χ _ h1 (by rw [b1.1]) b1.2
    refine ⟨?_, by simp [a2]⟩
    rw [show cl (C.E e) (x :: r) = (C.E e).c x ++ cl (C.E e) r by simp [cl], <- a1, <- b2, <- ybi, List.take_append_drop]
   ·cases h
theorem GM.trow (hC : CxOk P C) (h : GM P C R ts χ ds) {s c e : Nat} {l : List (K e)} (hr : trow C e (ts.tb s c) = some l) : tln (ts.tb s c) = some l.length ∧ (χ s c = true → l = []) ∧ (χ s c = false → ∃ kb, ds.kb s c = some kb ∧ kb.e = e ∧ kb.sz = (C.E e).sz ∧ dwks kb.cells = cl (C.E e) l) := by
 unfold Go.AV.trow at hr
 split at hr
 ·rename_i e' l' hb
  obtain ⟨rfl, rfl⟩ := ydF hr
  refine ⟨by rw [hb]; rfl, fun hx => ?_, fun hx => ?_⟩
  ·obtain ⟨e2, h2⟩ := h.vi s c hx
   rw [hb] at h2
   cases h2; rfl
  ·obtain ⟨kb, h1, h2⟩ := h.mb s c _ hb hx
   exact ⟨kb, h1, h2⟩
 ·rename_i e' n cs hb
  split at hr
  ·rename_i he
   have := nbeq.1 he; subst this
   have hx := h.lrow hb
   obtain ⟨kb, h1, h2, h3, h4, h5, h6⟩ := h.mb s c _ hb hx
   obtain ⟨a1, a2⟩ := yjY hC n cs kb.cells l hr ⟨h4, h6⟩ h5
   exact ⟨by rw [hb, a2]; rfl, fun q => (by rw [hx] at q; cases q), fun _ => ⟨kb, h1, h2, h3, a1⟩⟩
  ·cases hr
 ·cases hr
theorem ygg (hC : CxOk P C) {e : Nat} {l : List (K e)} {cells : List AV} {i : Nat} {y : K e} (hc : dwks cells = cl (C.E e) l) (hy : l[i]? = some y) : TL P C ts χ ((C.T e).c y) ((cells.drop (i * (C.E e).sz)).take (C.E e).sz) := by
 obtain ⟨c1, c2⟩ := hC.c e y ts χ
 have h1 : dwks ((cells.drop (i * (C.E e).sz)).take (C.E e).sz) = (C.E e).c y := by
  rw [ydQ, yeE, hc]
  have := yqG (C.E e) hy 0 (C.E e).sz (by omega)
  rw [Nat.add_zero] at this
  rw [this, List.drop_zero, List.take_of_length_le (by rw [(C.E e).len]; exact Nat.le_refl _)]
 have hlen : ((cells.drop (i * (C.E e).sz)).take (C.E e).sz).length = ((C.T e).c y).length := by
  rw [<- c1, <- h1, yba]
 refine ⟨hlen, fun j u v h2 h3 => ?_⟩
 refine TR.undwk (c2 j u (dwk v) h2 ?_) rfl
 rw [<- h1, ycS, List.getElem?_map, h3]; rfl
theorem yjd {g : Bool} {sz off : Nat} {cs : List (TV K)} {vs : List AV} {u : TV K} (t : TL P C ts χ cs vs) (h : tldc g sz off cs = some u) : ∃ v, kld g sz vs off = some v ∧ TR P C ts χ u v := by
 unfold tldc at h
 split at h
 ·split at h
  ·rename_i hb
   cases h
   have := Nat.le_of_ble_eq_true hb
   refine ⟨.agg ((vs.drop off).take sz), ?_, .agg _ _ ((t.drop off).take sz).1 ((t.drop off).take sz).2⟩
   simp only [kld]
   rw [if_pos (by rw [t.1]; exact this)]
  ·cases h
 ·obtain ⟨v, h1, h2⟩ := t.at' h
  exact ⟨v, h1, h2⟩
theorem ypV {e : Nat} {l : List (K e)} {cells : List AV} {i : Nat} {y : K e} (hc : dwks cells = cl (C.E e) l) (hy : l[i]? = some y) : i * (C.E e).sz ≤ cells.length := by
 rw [<- yba cells, hc, ye1]
 exact Nat.mul_le_mul_right _ (Nat.le_of_lt (List.getElem?_eq_some_iff.1 hy).1)
theorem yp1 {g : Bool} {w of o sz : Nat} {cells : List AV} {v : AV} (hoo : o ≤ cells.length) (hw : (g = true → of + w ≤ sz) ∧ (g = false → of < sz)) (h : kld g w ((cells.drop o).take sz) of = some v) : kld g w cells (o + of) = some v := by
 cases g with
 | true =>
   simp only [kld] at h ⊢
   split at h
   ·rename_i hle
    cases h
    have h1 := hw.1 rfl
    simp only [List.length_take, List.length_drop] at hle
    rw [if_pos (by omega)]
    congr 2
    rw [List.drop_take, List.drop_drop, List.take_take]
    congr 1
    omega
   ·cases h
 | false =>
   simp only [kld] at h ⊢
   have h1 := hw.2 rfl
   rw [List.getElem?_take, if_pos h1, List.getElem?_drop] at h
   exact h
theorem yoV {g : Bool} {w of : Nat} {cs : List (TV K)} {u : TV K} (h : tldc g w of cs = some u) : (g = true → of + w ≤ cs.length) ∧ (g = false → of < cs.length) := by
 unfold tldc at h
 split at h
 ·split at h
  ·rename_i hb; exact ⟨fun _ => Nat.le_of_ble_eq_true hb, fun e => by cases e⟩
  ·cases h
 ·exact ⟨fun e => by (cases e), fun _ => (List.getElem?_eq_some_iff.1 h).1⟩
variable (P C R) in
def SR (o : AO) (ts : TS K) (ds : DS) (X : TS K -> Prop) : Prop := ∃ e ds' ts' χ', Eff o.op o.dst ds e ds' /\ (∀ p ∈ e.mem, p.1 ∈ twk' ts o) /\ e.H = none /\ GM P C R ts' χ' ds' /\ X ts' /\ ts'.rg = ts.rg
theorem ybK (ts : TS K) (d : Option Nat) (u : TV K) : (ts.put d u).rg = ts.rg := by cases d <;> rfl
theorem yk9 {g : Bool} {sz : Nat} {x : AOpd} {d : Option Nat} {v : AV} (hk : DOk ds) (h : (∃ s c off b, ev (lkF ds.fr) x = .pt (.l s c) off ∧ ds.kb s c = some b ∧ kld g sz b.cells off = some v) ∨ ∃ xs off, ev (lkF ds.fr) x = .ep xs off ∧ kld g sz xs off = some v) : Eff (.ld g sz x) d ds (eff1 v) (ds.put d v) := by
 refine yl3 (C := []) ?_ trivial hk
 rcases h with ⟨s, c, off, b, h1, h2, h3⟩ | ⟨xs, off, h1, h2⟩
 ·simp only [kx, h1, h2, h3]
 ·simp only [kx, h1, h2]
theorem yej {o : AO} {X : TS K → Prop} {u : TV K} {v : AV} (hγ : GM P C R ts χ ds) (hv : TR P C ts χ u v) (he : Eff o.op o.dst ds (eff1 v) (ds.put o.dst v)) (hX : X (ts.put o.dst u)) : SR P C R o ts ds X :=
 ⟨_, _, _, χ, he, fun p hp => (by cases hp), rfl, hγ.put hv, hX, ybK _ _ _⟩
theorem yti (hC : CxOk P C) (hγ : GM P C R ts χ ds) (hk : DOk ds) {o : AO} {g : Bool} {sz : Nat} {x : AOpd} {X : TS K → Prop} (ho : o.op = .ld g sz x) (h : tld C g sz ts (fun v => X (ts.put o.dst v)) (tev ts.fr x)) : SR P C R o ts ds X := by
 have hx := hγ.tev x
 have pxc : ∀ {s c off : Nat} {cs : List (TV K)} {kb : KB}, tev ts.fr x = .px s c off → ds.kb s c = some kb → TL P C ts χ cs kb.cells → wpo' (tldc g sz off cs) (fun v => X (ts.put o.dst v)) → SR P C R o ts ds X := by
  intro s c off cs kb e h1 t hw
  obtain ⟨u, h2, hX⟩ := ycq hw
  rw [e] at hx
  obtain ⟨v, h3, h4⟩ := yjd t h2
  exact yej hγ h4 (by rw [ho]; exact yk9 hk (.inl ⟨s, c, off, kb, hx.pxi, h1, h3⟩)) hX
 unfold tld at h
 split at h
 ·rename_i s c off e
  split at h
  ·rename_i e' cs hb
   obtain ⟨kb, h1, _, _, h4, h5⟩ := hγ.mb s c _ hb (hγ.box hb)
   exact pxc e h1 ⟨h4, h5⟩ h
  ·rename_i e' n cs hb
   obtain ⟨kb, h1, _, _, h4, _, h5⟩ := hγ.mb s c _ hb (hγ.lrow hb)
   exact pxc e h1 ⟨h4, h5⟩ h
  ·exact h.elim
 ·rename_i e' s c i of e
  obtain ⟨l, hl, y, hy, hw⟩ := ycq h
  obtain ⟨u, h2, hX⟩ := ycq hw
  rw [e] at hx
  have hx' := hx.pri
  obtain ⟨kb, k1, k2, k3, k4⟩ := (hγ.trow hC hl).2.2 hx'.1
  have t := ygg (P := P) (ts := ts) (χ := χ) hC k4 hy
  obtain ⟨v, h3, h4⟩ := yjd t h2
  have hin := yoV h2
  rw [<- (hC.c e' y ts χ).1, (C.E e').len] at hin
  exact yej hγ h4 (by rw [ho]; exact yk9 hk (.inl ⟨s, c, _, kb, hx'.2, k1, yp1 (ypV k4 hy) hin h3⟩)) hX
 ·rename_i e' l i of e
  obtain ⟨y, hy, hw⟩ := h
  obtain ⟨u, h2, hX⟩ := ycq hw
  rw [e] at hx
  obtain ⟨xs, hxs, hev⟩ := hx.epi
  have t := ygg (P := P) (ts := ts) (χ := χ) hC hxs hy
  obtain ⟨v, h3, h4⟩ := yjd t h2
  have hin := yoV h2
  rw [<- (hC.c e' y ts χ).1, (C.E e').len] at hin
  exact yej hγ h4 (by rw [ho]; exact yk9 hk (.inr ⟨xs, _, hev, yp1 (ypV hxs hy) hin h3⟩)) hX
 ·rename_i l i e
  rw [e] at hx
  obtain ⟨xs, hxs, hev⟩ := hx.gsi
  obtain rfl := ymx l hxs
  split at h
  ·split at h
   ·rename_i hb
    have hb := Bool.and_eq_true_iff.1 hb
    have hi : i = 0 := nbeq.1 hb.1
    have hs : sz = (l.map AV.st).length := by rw [List.length_map]; exact nbeq.1 hb.2
    have hkl : kld true sz (l.map AV.st) i = some (.agg (l.map .st)) := by
     simp only [kld, hi, hs, List.drop_zero, List.take_length]
     first | done | simp
    refine yej (v := .agg (l.map .st)) hγ ?_ (by rw [ho]; exact yk9 hk (.inr ⟨_, _, hev, hkl⟩)) h
    refine .agg _ _ (by simp) fun j u v h1 h2 => ?_
    rw [List.getElem?_map] at h1 h2
    cases hj : l[j]? with
    | none => rw [hj] at h1; cases h1
    | some s => rw [hj] at h1 h2; cases h1; cases h2; exact .st s
   ·exact h.elim
  ·obtain ⟨y, hy, hX⟩ := h
   have hkl : kld false sz (l.map AV.st) i = some (.st y) := by
    simp only [kld, List.getElem?_map, hy, Option.map_some]
   exact yej (v := .st y) hγ (.st y) (by rw [ho]; exact yk9 hk (.inr ⟨_, _, hev, hkl⟩)) hX
 ·exact h.elim
theorem ybx (p : Nat × Option (TB K)) (r : List (Nat × Option (TB K))) (t : Nat) : lkB (p :: r) t = if p.1 = t then p.2 else lkB r t := by
 show (match Nat.beq p.1 t with | true => p.2 | false => lkB r t) = _
 cases h : Nat.beq p.1 t with
 | true => simp [nbeq.1 h]
 | false => simp only; rw [if_neg (fun e => by rw [nbeq.2 e] at h; cases h)]
theorem ybW (ts : TS K) (q c : Nat) (b : Option (TB K)) (hc : c = 1 ∨ c = 2) (s c' : Nat) : (ts.setb q c b).tb s c' = if s = q ∧ c' = c then b else ts.tb s c' := by
 have h1 : ∀ (ts : TS K) (s : Nat), ts.tb s 1 = lkB ts.od s := fun _ _ => rfl
 have h2 : ∀ (ts : TS K) (s : Nat), ts.tb s 2 = lkB ts.nw s := fun _ _ => rfl
 have h3 : ∀ (ts : TS K) (s : Nat) (c : Nat), c ≠ 1 → c ≠ 2 → ts.tb s c = none := by
  intro ts s c n1 n2
  unfold TS.tb
  cases e1 : Nat.beq c 1 with
  | true => exact absurd (nbeq.1 e1) n1
  | false => cases e2 : Nat.beq c 2 with
    | true => exact absurd (nbeq.1 e2) n2
    | false => rfl
 by_cases k1 : c' = 1
 ·subst k1
  rw [h1, h1]
  rcases hc with rfl | rfl
  ·show lkB ((q, b) :: ts.od) s = _
   rw [ybx]
   by_cases e : q = s
   ·subst e; simp
   ·rw [if_neg e, if_neg (fun x => e x.1.symm)]
  ·rw [if_neg (fun x => by cases x.2)]; rfl
 ·by_cases k2 : c' = 2
  ·subst k2
   rw [h2, h2]
   rcases hc with rfl | rfl
   ·rw [if_neg (fun x => by cases x.2)]; rfl
   ·show lkB ((q, b) :: ts.nw) s = _
    rw [ybx]
    by_cases e : q = s
    ·subst e; simp
    ·rw [if_neg e, if_neg (fun x => e x.1.symm)]
  ·rw [h3 _ _ _ k1 k2, h3 _ _ _ k1 k2, if_neg]
   rintro ⟨_, rfl⟩
   rcases hc with rfl | rfl
   ·exact k1 rfl
   ·exact k2 rfl
def updχ (χ : Nat -> Nat -> Bool) (s c : Nat) (v : Bool) : Nat -> Nat -> Bool := fun s' c' => if s' = s /\ c' = c then v else χ s' c'
theorem yca (ts : TS K) (q c : Nat) (b : Option (TB K)) : (ts.setb q c b).rg = ts.rg := by unfold TS.setb; split <;> rfl
theorem ymo (ts : TS K) (q c : Nat) (b : Option (TB K)) : (ts.setb q c b).h = ts.h := by unfold TS.setb; split <;> rfl
theorem yjy (ts : TS K) (q c : Nat) (b : Option (TB K)) : (ts.setb q c b).fr = ts.fr := by unfold TS.setb; split <;> rfl
theorem yhs (ts : TS K) (q c : Nat) (b : Option (TB K)) (hc : c = 1 ∨ c = 2) {s c' : Nat} (h : okr ts s c') : okr (ts.setb q c b) s c' := by
 rcases h with h | ⟨h1, h2⟩
 ·exact .inl h
 ·refine .inr ⟨h1, ?_⟩
  rcases hc with rfl | rfl
  ·exact h2
  ·show (Nat.beq q s || memB ts.nw s) = true
   rw [h2, Bool.or_true]
theorem Mono.setb {s c : Nat} {b : Option (TB K)} {v : Bool} (hc : c = 1 ∨ c = 2) (h : okr ts s c → (tln b = none ∧ v = false) ∨ (tln b = tln (ts.tb s c) ∧ v = χ s c)) : Mono ts (ts.setb s c b) χ (updχ χ s c v) := by
 refine ⟨fun id u q => by rw [yca]; exact q, fun s' c' q => yhs ts s c b hc q, fun s' c' q => ?_⟩
 rw [ybW ts s c b hc]
 unfold updχ
 by_cases e : s' = s /\ c' = c
 ·obtain ⟨rfl, rfl⟩ := e
  simpa using h q
 ·rw [if_neg e, if_neg e]; exact .inr ⟨rfl, rfl⟩
theorem GM.setb {s c : Nat} {b : Option (TB K)} {kb : Option KB} (hγ : GM P C R ts χ ds) (hc : c = 1 ∨ c = 2) (hm : Mono ts (ts.setb s c b) χ (updχ χ s c false)) (hb : ∀ b', b = some b' → ∃ k', kb = some k' ∧ MR P C ts χ b' k') : GM P C R (ts.setb s c b) (updχ χ s c false) (ds.set s c kb) := by
 refine ⟨fun t => ?_, fun s' c' b' h1 h2 => ?_, fun s' c' h1 => ?_, fun s' h1 => ?_, by rw [ymo, yq1, yiW]; exact hγ.hp⟩
 ·rw [yjy, ykK]; exact (hγ.fr t).mono hm
 ·rw [ybW ts s c b hc] at h1
  rw [yky ds s c kb hc]
  unfold updχ at h2
  by_cases e : s' = s /\ c' = c
  ·rw [if_pos e] at h1 ⊢
   obtain ⟨k', q1, q2⟩ := hb b' h1
   exact ⟨k', q1, q2.mono hm⟩
  ·rw [if_neg e] at h1 h2 ⊢
   obtain ⟨k', q1, q2⟩ := hγ.mb s' c' b' h1 h2
   exact ⟨k', q1, q2.mono hm⟩
 ·unfold updχ at h1
  rw [ybW ts s c b hc]
  by_cases e : s' = s /\ c' = c
  ·rw [if_pos e] at h1; cases h1
  ·rw [if_neg e] at h1 ⊢; exact hγ.vi s' c' h1
 ·rcases hc with rfl | rfl
  ·exact hγ.nw s' h1
  ·have h1' : (Nat.beq s s' || memB ts.nw s') = false := h1
   simp only [Bool.or_eq_false_iff] at h1'
   show (Nat.beq s s' || memO ds.nw s') = false
   rw [h1'.1, hγ.nw s' h1'.2]; rfl
theorem GM.setv {s e : Nat} (hγ : GM P C R ts χ ds) (hn : memB ts.nw s = false) : GM P C R (ts.setb s 2 (some (.row e []))) (updχ χ s 2 true) ds := by
 have hm : Mono ts (ts.setb s 2 (some (.row e []))) χ (updχ χ s 2 true) := Mono.setb (.inr rfl) (fun q => by
  rcases q with q | ⟨_, q⟩
  ·cases q
  ·rw [hn] at q; cases q)
 refine ⟨fun t => ?_, fun s' c' b' h1 h2 => ?_, fun s' c' h1 => ?_, fun s' h1 => ?_, by rw [ymo]; exact hγ.hp⟩
 ·rw [yjy]; exact (hγ.fr t).mono hm
 ·rw [ybW ts s 2 _ (.inr rfl)] at h1
  unfold updχ at h2
  by_cases e : s' = s /\ c' = 2
  ·rw [if_pos e] at h2; cases h2
  ·rw [if_neg e] at h1 h2
   obtain ⟨k', q1, q2⟩ := hγ.mb s' c' b' h1 h2
   exact ⟨k', q1, q2.mono hm⟩
 ·unfold updχ at h1
  rw [ybW ts s 2 _ (.inr rfl)]
  by_cases e : s' = s /\ c' = 2
  ·rw [if_pos e]; exact ⟨_, rfl⟩
  ·rw [if_neg e] at h1 ⊢; exact hγ.vi s' c' h1
 ·have h1' : (Nat.beq s s' || memB ts.nw s') = false := h1
  simp only [Bool.or_eq_false_iff] at h1'
  exact hγ.nw s' h1'.2
theorem tb_c {s c : Nat} {b : TB K} (h : ts.tb s c = some b) : c = 1 ∨ c = 2 := by
 unfold TS.tb at h
 split at h
 ·rename_i e; exact .inl (nbeq.1 e)
 ·split at h
  ·rename_i e; exact .inr (nbeq.1 e)
  ·cases h
theorem yke : ∀ {l : List (Nat × Option (TB K))} {s : Nat} {b : TB K}, lkB l s = some b → memB l s = true
 | [], _, _, h => by cases h
 | p :: r, s, b, h => by
   rw [ybx] at h
   show (Nat.beq p.1 s || memB r s) = true
   split at h
   ·rename_i e; rw [nbeq.2 e]; rfl
   ·rw [yke h, Bool.or_true]
theorem yt4 {s c : Nat} {b : TB K} (h : ts.tb s c = some b) : okr ts s c := by
 rcases tb_c h with rfl | rfl
 ·exact .inl rfl
 ·exact .inr ⟨rfl, yke h⟩
theorem yi2 {cs vs : List (TV K)} {cs' vs' : List AV} {off sz : Nat} (h : TL P C ts χ cs cs') (k : TL P C ts χ vs vs') (hs : vs.length = sz) : TL P C ts χ (yfn cs off vs) (cs'.take off ++ vs' ++ cs'.drop (off + sz)) := by
 unfold yfn
 rw [hs]
 exact ((h.take off).app k).app (h.drop _)
theorem ynC {sz : Nat} {x y : AOpd} {d : Option Nat} {s c off : Nat} {b : KB} (hk : DOk ds) (h1 : ev (lkF ds.fr) x = .pt (.l s c) off) (h2 : ds.kb s c = some b) (h3 : (ev (lkF ds.fr) y).cells.length = sz) (h4 : (ev (lkF ds.fr) y).cells.all AV.one = true) (h5 : off + sz ≤ b.cells.length) :
  Eff (.sto sz x y) d ds ⟨.un, [((s, c), some ⟨b.e, b.sz, b.cells.take off ++ (ev (lkF ds.fr) y).cells ++ b.cells.drop (off + sz)⟩)], [], none⟩ ((ds.set s c (some ⟨b.e, b.sz, b.cells.take off ++ (ev (lkF ds.fr) y).cells ++ b.cells.drop (off + sz), false⟩)).put d .un) := by
 refine yl3 (C := []) ?_ trivial hk
 simp only [kx, h1, h2]
 rw [if_pos ⟨h3, h4, h5⟩]
theorem yqu (hC : CxOk P C) (hγ : GM P C R ts χ ds) (hk : DOk ds) {o : AO} {sz : Nat} {x y : AOpd} {X : TS K → Prop} (ho : o.op = .sto sz x y) (h : tsto C sz ts (tcl (tea ts.fr y)) (fun t => X (t.put o.dst .un)) (tev ts.fr x)) : SR P C R o ts ds X := by
 have hx := hγ.tev x
 unfold tsto at h
 split at h
 ·rename_i s c off e
  rw [e] at hx
  split at h
  ·rename_i e' cs hb
   split at h
   ·rename_i hc
    simp only [Bool.and_eq_true] at hc
    obtain ⟨⟨c1, c2⟩, c3⟩ := hc
    have c1 := nbeq.1 c1
    obtain ⟨t1, t2⟩ := (hγ.tea y).tcl c2
    have hχ := hγ.box hb
    obtain ⟨kb, k1, k2, k3, k4, k5⟩ := hγ.mb s c _ hb hχ
    have hE := ynC (sz := sz) (d := o.dst) hk hx.pxi k1 (by rw [t1.1, c1]) t2 (by rw [k4]; exact Nat.le_of_ble_eq_true c3)
    have hm : Mono ts (ts.setb s c (some (.box e' (yfn cs off (tcl (tea ts.fr y)))))) χ (updχ χ s c false) := Mono.setb (tb_c hb) (fun _ => .inl ⟨rfl, rfl⟩)
    have hsp := yi2 (off := off) (show TL P C ts χ cs kb.cells from ⟨k4, k5⟩) t1 c1
    have hlen : (yfn cs off (tcl (tea ts.fr y))).length = cs.length := by
     have := Nat.le_of_ble_eq_true c3
     unfold yfn
     simp only [List.length_append, List.length_take, List.length_drop, c1]; omega
    refine ⟨_, _, _, _, by rw [ho]; exact hE, fun p hp => ?_, rfl, (hγ.setb (tb_c hb) hm fun b' hb' => ⟨_, rfl, ?_⟩).put (.un _), h, by rw [ybK, yca]⟩
    ·simp only [List.mem_singleton] at hp; subst hp; simp only [twk', ho, e, trf, List.mem_singleton]
    ·cases hb'
     exact ⟨k2, by rw [hlen]; exact k3, hsp.1, hsp.2⟩
   ·exact h.elim
  ·exact h.elim
 ·rename_i e' s c i of e
  rw [e] at hx
  split at h
  ·rename_i hc
   simp only [Bool.and_eq_true] at hc
   obtain ⟨⟨c1, c2⟩, c4⟩ := hc
   have c1 := nbeq.1 c1
   have c4 := Nat.le_of_ble_eq_true c4
   obtain ⟨t1, t2⟩ := (hγ.tea y).tcl c2
   obtain ⟨l, hl, y0, hy, hw⟩ := ycq h
   obtain ⟨y', hy', hX⟩ := ycq hw
   obtain ⟨hχ, hev⟩ := hx.pri
   obtain ⟨hln, _, hkb⟩ := hγ.trow hC hl
   obtain ⟨kb, k1, k2, k3, k4⟩ := hkb hχ
   have hil : i < l.length := (List.getElem?_eq_some_iff.1 hy).1
   have hclen : kb.cells.length = l.length * (C.E e').sz := by rw [<- yba kb.cells, k4, ye1]
   have hoff : i * (C.E e').sz + of + sz ≤ kb.cells.length := by
    rw [hclen]
    have : (i + 1) * (C.E e').sz <= l.length * (C.E e').sz := Nat.mul_le_mul_right _ hil
    rw [Nat.add_mul] at this
    omega
   have hE := ynC (sz := sz) (d := o.dst) hk hev k1 (by rw [t1.1, c1]) t2 hoff
   have hbt : ∃ b0, ts.tb s c = some b0 := by
    cases hq : ts.tb s c with
    | none => rw [hq] at hln; cases hln
    | some b0 => exact ⟨b0, rfl⟩
   obtain ⟨b0, hb0⟩ := hbt
   have hm : Mono ts (ts.setb s c (some (.row e' (l.set i y')))) χ (updχ χ s c false) := Mono.setb (tb_c hb0) (fun _ => .inr ⟨by rw [hln]; simp [tln], hχ.symm⟩)
   have hcells : dwks (kb.cells.take (i * (C.E e').sz + of) ++ (ev (lkF ds.fr) y).cells ++ kb.cells.drop (i * (C.E e').sz + of + sz)) = cl (C.E e') (l.set i y') := by
    have tt := yi2 (off := of) (ygg (P := P) (ts := ts) (χ := χ) hC k4 hy) t1 c1
    have hd := hC.rd e' _ y' ts χ _ hy' (by rw [tt.mapS.1]) tt.mapS.2
    rw [ybi, ybi, ydQ, yeE] at hd
    rw [ybi, ybi, ydQ, yeE, k4]
    have hch : dwks ((kb.cells.drop (i * (C.E e').sz)).take (C.E e').sz) = (C.E e').c y0 := by
     rw [ydQ, yeE, k4]
     have := yqG (C.E e') hy 0 (C.E e').sz (by omega)
     rw [Nat.add_zero] at this
     rw [this, List.drop_zero, List.take_of_length_le (by rw [(C.E e').len]; exact Nat.le_refl _)]
    rw [hch] at hd
    refine ysn (C.E e') hy of sz c4 ?_
    exact hd
   refine ⟨_, _, _, _, by rw [ho]; exact hE, fun p hp => ?_, rfl, (hγ.setb (tb_c hb0) hm fun b' hb' => ⟨_, rfl, ?_⟩).put (.un _), hX, by rw [ybK, yca]⟩
   ·simp only [List.mem_singleton] at hp; subst hp; simp only [twk', ho, e, trf, List.mem_singleton]
   ·cases hb'
    exact ⟨k2, k3, hcells⟩
  ·exact h.elim
 ·exact h.elim
end
end Go.AV
end
noncomputable section
namespace Go.AV
open Go.RowKit Go.RG Go.Lib
variable {K : Nat -> Type}
section
variable {P : Program} {C : Cx K} {R : List (HO K) -> Hp -> Nat -> Prop} {ts ts' : TS K} {χ χ' : Nat -> Nat -> Bool} {ds : DS}
theorem ydD {d : Nat} {p : Prop} (h : yhC ts d p) : memB ts.nw d = false ∧ p := by
 unfold yhC at h
 split at h
 ·exact h.elim
 ·rename_i e; exact ⟨e, h⟩
theorem ymj {s : Nat} (h : memB ts.nw s = false) : ¬ okr ts s 2 := by
 rintro (q | ⟨_, q⟩)
 ·cases q
 ·rw [h] at q; cases q
theorem Mono.new {s : Nat} {b : Option (TB K)} {v : Bool} (h : memB ts.nw s = false) : Mono ts (ts.setb s 2 b) χ (updχ χ s 2 v) := Mono.setb (.inr rfl) (fun q => (ymj h q).elim)
theorem yjg (ts : TS K) (s : Nat) (b : Option (TB K)) : okr (ts.setb s 2 b) s 2 := .inr ⟨rfl, by show (Nat.beq s s || memB ts.nw s) = true; rw [nbeq.2 rfl]; rfl⟩
theorem yo6 {o : AO} {X : TS K → Prop} {b : TB K} {kb : KB} {w : Nat → TV K} {v : AV} {e : REff} (hγ : GM P C R ts χ ds) (hn : memB ts.nw (site o.dst) = false) (hE : Eff o.op o.dst ds e ((ds.set (site o.dst) 2 (some kb)).put o.dst v))
  (he : ∀ p ∈ e.mem, p.1 ∈ twk' ts o) (hH : e.H = none) (hM : MR P C ts χ b kb) (hv : okr (ts.setb (site o.dst) 2 (some b)) (site o.dst) 2 -> TR P C (ts.setb (site o.dst) 2 (some b)) (updχ χ (site o.dst) 2 false) (w (site o.dst)) v) (hX : X (tnew ts o.dst b w)) : SR P C R o ts ds X := by
 have hg := hγ.setb (s := site o.dst) (c := 2) (b := some b) (kb := some kb) (.inr rfl) (Mono.new hn) (fun b' hb' => ⟨kb, rfl, by cases hb'; exact hM⟩)
 exact ⟨e, _, _, _, hE, he, hH, hg.put (hv (yjg _ _ _)), hX, by rw [ybK, yca]⟩
theorem yfz (χ : Nat -> Nat -> Bool) (s c : Nat) (v : Bool) : updχ χ s c v s c = v := by simp [updχ]
theorem ykZ (ts : TS K) (s : Nat) (b : Option (TB K)) : (ts.setb s 2 b).tb s 2 = b := by rw [ybW ts s 2 b (.inr rfl)]; simp
theorem yqA (hγ : GM P C R ts χ ds) (hk : DOk ds) {F : Cf K} {o : AO} {e sz : Nat} {x : AOpd} {X : TS K → Prop} {dr : Bool} (ho : o.op = .box e sz x) (h : step F dr o ts X) : SR P C R o ts ds X := by
 unfold step at h
 rw [ho] at h
 simp only at h
 split at h
 ·rename_i hc
  simp only [Bool.and_eq_true] at hc
  obtain ⟨⟨c1, c2⟩, c3⟩ := hc
  obtain ⟨hn, hX⟩ := ydD h
  obtain ⟨t1, t2⟩ := (hγ.tea x).tcl c2
  have c1 := nbeq.1 c1
  have hE : Eff o.op o.dst ds ⟨.pt (.l (site o.dst) 2) 0, [((site o.dst, 2), some ⟨e, sz, (ev (lkF ds.fr) x).cells⟩)], [site o.dst], none⟩ ((ds.set (site o.dst) 2 (some ⟨e, sz, (ev (lkF ds.fr) x).cells, false⟩)).put o.dst (.pt (.l (site o.dst) 2) 0)) := by
   rw [ho]
   refine yl3 (C := []) ?_ trivial hk
   simp only [kx, hγ.nw _ hn]
   rw [if_pos ⟨by rw [t1.1, c1], t2, Nat.le_of_ble_eq_true c3⟩]
  refine yo6 (b := .box e (Go.AV.tcl (Go.AV.tea ts.fr x))) (w := fun s => .px s 2 0) hγ hn hE (fun p hp => ?_) rfl ⟨rfl, c1.symm, t1.1, t1.2⟩ (fun q => .px _ _ _ q) hX
  simp only [List.mem_singleton] at hp; subst hp; simp [twk', ho]
 ·exact h.elim
theorem ykx : ∀ (l : List (Nat × Nat × TV K)) (cells cs : List (TV K)), yl6 cells l = some cs → cs.length = cells.length
 | [], cells, cs, h => by cases h; rfl
 | (off, sz, v) :: l, cells, cs, h => by
   simp only [yl6] at h
   split at h
   ·rename_i hc
    simp only [Bool.and_eq_true] at hc
    have c1 := nbeq.1 hc.1.1
    have c2 := Nat.le_of_ble_eq_true hc.1.2
    rw [ykx l _ cs h]
    simp only [List.length_append, List.length_take, List.length_drop, c1]; omega
   ·cases h
theorem TL.rep {us : List (TV K)} {vs : List AV} (h : TL P C ts χ us vs) : ∀ n, TL P C ts χ (List.replicate n us).flatten (List.replicate n vs).flatten
 | 0 => .nil
 | n + 1 => by rw [List.replicate_succ, List.replicate_succ, List.flatten_cons, List.flatten_cons]; exact h.app (TL.rep h n)
theorem yov {α : Type} (z : List α) : ∀ n, (List.replicate n z).flatten.length = n * z.length
 | 0 => by simp
 | n + 1 => by rw [List.replicate_succ, List.flatten_cons, List.length_append, yov z n, Nat.add_mul]; omega
theorem TL.twk {us : List (TV K)} {vs : List AV} (h : TL P C ts χ us vs) : TL P C ts χ (us.map Go.AV.twk) (vs.map weak) := by
 refine ⟨by simp [h.1], fun j u v h1 h2 => ?_⟩
 rw [List.getElem?_map] at h1 h2
 obtain ⟨u', e1, rfl⟩ := Option.map_eq_some_iff.1 h1
 obtain ⟨v', e2, rfl⟩ := Option.map_eq_some_iff.1 h2
 exact (h.2 j u' v' e1 e2).twk
theorem yrK (hγ : GM P C R ts χ ds) (hk : DOk ds) {F : Cf K} (hF : F.C = C) {o : AO} {e sz n : Nat} {z : List AV} {parts : List (Nat × Nat × AOpd)} {X : TS K → Prop} {dr : Bool} (ho : o.op = .bsl e sz n z parts) (h : step F dr o ts X) : SR P C R o ts ds X := by
 unfold step at h
 rw [ho, hF] at h
 simp only at h
 split at h
 ·rename_i hc
  simp only [Bool.and_eq_true] at hc
  obtain ⟨⟨c1, c2⟩, c3⟩ := hc
  have c1 := nbeq.1 c1
  have c2 := nbeq.1 c2
  have c3 := Nat.le_of_ble_eq_true c3
  obtain ⟨hn, h⟩ := ydD h
  obtain ⟨cs, hcs, hX⟩ := ycq h
  obtain ⟨cs', e2, t⟩ := yjE (P := P) (C := C) (ts := ts) (χ := χ) _ (parts.map fun p => (p.1, p.2.1, ev (lkF ds.fr) p.2.2)) _ (ybA z n) _ (TL.rep (TL.cvAs z) n) (by simp) (fun j p q a b => by
   rw [List.getElem?_map] at a b
   cases hp : parts[j]? with
   | none => rw [hp] at a; cases a
   | some r => rw [hp] at a b; cases a; cases b; exact ⟨rfl, rfl, hγ.tea _⟩) hcs
  have hz : 0 < sz := by rw [<- c2]; exact (C.E e).pos
  have hE : Eff o.op o.dst ds ⟨.gs (.l (site o.dst) 2) n, [((site o.dst, 2), some ⟨e, sz, cs'.map weak⟩)], [site o.dst], none⟩ ((ds.set (site o.dst) 2 (some ⟨e, sz, cs'.map weak, false⟩)).put o.dst (.gs (.l (site o.dst) 2) n)) := by
   rw [ho]
   refine yl3 (C := []) ?_ trivial hk
   simp only [kx, hγ.nw _ hn, e2]
   rw [if_pos ⟨c1, hz, c3⟩]
  have hcl : cs.length = n * sz := by rw [ykx _ _ _ hcs, yov]; rw [<- (TL.cvAs (P := P) (C := C) (ts := ts) (χ := χ) z).1, c1]
  refine yo6 (b := .lrow e n (cs.map Go.AV.twk)) (w := trw) hγ hn hE (fun p hp => ?_) rfl ⟨rfl, c2.symm, (TL.twk t).1, by simp [hcl, c2], (TL.twk t).2⟩ (fun q => .rw _ _ n q (by rw [ykZ]; rfl) (yfz _ _ _ _)) hX
  simp only [List.mem_singleton] at hp; subst hp; simp [twk', ho]
 ·exact h.elim
theorem yto {x y : AOpd} {k k' : IntKind} {n m : Int} (h : eqO x y = true) (hx : ev (lkF ds.fr) x = .it k n) (hy : ev (lkF ds.fr) y = .it k' m) : n = m := by
 unfold eqO at h
 split at h
 ·have := nbeq.1 h; subst this; rw [hx] at hy; cases hy; rfl
 ·have := of_decide_eq_true h
  simp only [ev] at hx hy
  cases hx; cases hy; exact this
 ·cases h
theorem yp4 {T : Type} (E : Enc T) (v : T) : ∀ n, cl E (List.replicate n v) = (List.replicate n (E.c v)).flatten
 | 0 => rfl
 | n + 1 => by rw [List.replicate_succ, List.replicate_succ, List.flatten_cons, <- yp4 E v n]; simp [cl]
theorem yml (z : List AV) : ∀ n, dwks (List.replicate n z).flatten = (List.replicate n (dwks z)).flatten
 | 0 => rfl
 | n + 1 => by rw [List.replicate_succ, List.replicate_succ, List.flatten_cons, List.flatten_cons, ybi, yml z n]
theorem yqN (hC : CxOk P C) (hγ : GM P C R ts χ ds) (hk : DOk ds) {F : Cf K} (hF : F.C = C) {o : AO} {e sz bytes : Nat} {z : List AV} {x y : AOpd} {X : TS K → Prop} {dr : Bool} (ho : o.op = .mks e sz bytes z x y) (h : step F dr o ts X) : SR P C R o ts ds X := by
 unfold step at h
 rw [ho, hF] at h
 simp only at h
 split at h
 ·rename_i k q k' q' v e1 e2 e3
  split at h
  ·rename_i hc
   simp only [Bool.and_eq_true] at hc
   obtain ⟨⟨c1, c2⟩, c3⟩ := hc
   have c1 := nbeq.1 c1
   have c2 := nbeq.1 c2
   obtain ⟨hn, h0, h1, h2, hX⟩ := ydD h
   have hx := (hγ.tev x).int e1
   have hy := (hγ.tev y).int e2
   have hqq := yto c3 hx hy
   have hz : 0 < sz := by rw [<- c2]; exact (C.E e).pos
   have hE : Eff o.op o.dst ds ⟨.gs (.l (site o.dst) 2) q.toNat, [((site o.dst, 2), some ⟨e, sz, ybA z q.toNat⟩)], [site o.dst], none⟩ ((ds.set (site o.dst) 2 (some ⟨e, sz, ybA z q.toNat, false⟩)).put o.dst (.gs (.l (site o.dst) 2) q.toNat)) := by
    rw [ho]
    refine ⟨?_, yjc (b := ⟨e, sz, ybA z q.toNat, false⟩) (hγ.nw _ hn), DOk.put (hk.set (.inr rfl) fun x hx => by cases hx; exact ⟨Nat.pos_iff_ne_zero.1 hz, fun q => by cases q⟩)⟩
    simp only [effA]
    rw [yb6, hx, hy]
    simp only
    rw [if_pos ⟨hqq, h0, c1, hz, h1, h2⟩, ygh (hγ.nw _ hn)]
    rfl
   have hcells : dwks (ybA z q.toNat) = cl (C.E e) (List.replicate q.toNat v) := by
    have t := (TL.cvAs (P := P) (C := C) (ts := ts) (χ := χ) z).mapS
    have := hC.rd e _ v ts χ z e3 t.1 t.2
    unfold ybA
    rw [yml, this, yp4]
   refine yo6 (b := .row e (List.replicate q.toNat v)) (w := trw) hγ hn hE (fun p hp => ?_) rfl ⟨rfl, c2.symm, hcells⟩ (fun q => .rw _ _ _ q (by rw [ykZ]; simp [tln]) (yfz _ _ _ _)) hX
   simp only [List.mem_singleton] at hp; subst hp; simp [twk', ho]
  ·exact h.elim
 ·exact h.elim
theorem ymH {s c n : Nat} (h : tln (ts.tb s c) = some n) : okr ts s c := by
 cases hq : ts.tb s c with
 | none => rw [hq] at h; cases h
 | some b0 => exact yt4 hq
theorem yqV (hC : CxOk P C) (hγ : GM P C R ts χ ds) (hk : DOk ds) {F : Cf K} (hF : F.C = C) {o : AO} {sz : Nat} {x i : AOpd} {X : TS K → Prop} {dr : Bool} (ho : o.op = .iad sz x i) (h : step F dr o ts X) : SR P C R o ts ds X := by
 unfold step at h
 rw [ho, hF] at h
 simp only at h
 split at h
 ·rename_i k q e1
  have hi := (hγ.tev i).int e1
  have hx := hγ.tev x
  unfold tiad at h
  split at h
  ·rename_i e l ex
   split at h
   ·rename_i hz
    have hz := nbeq.1 hz
    obtain ⟨h0, h1, hX⟩ := h
    rw [ex] at hx
    obtain ⟨z, xs, hxs, hv⟩ := hx.sli
    refine yej hγ (TR.ep e l q.toNat 0 xs hxs) ?_ hX
    rw [ho]
    refine yl3 (C := [0 <= q /\ q < (l.length : Int)]) ?_ ⟨⟨h0, h1⟩, trivial⟩ hk
    simp only [kx, kpv, hv, hi, hz, Nat.add_zero]
   ·exact h.elim
  ·rename_i s c ex
   split at h
   ·rename_i hz
    have hz := nbeq.1 hz
    obtain ⟨l, hl, h0, h1, hX⟩ := ycq h
    rw [ex] at hx
    obtain ⟨g1, g2, g3⟩ := hγ.trow hC hl
    rcases hx.rwi g1 with ⟨hχ, hv⟩ | ⟨hχ, hn, _⟩
    ·have hro : okr ts s c := ymH g1
     refine yej hγ (TR.pr _ s c q.toNat 0 hro hχ) ?_ hX
     rw [ho]
     refine yl3 (C := [0 <= q /\ q < (l.length : Int)]) ?_ ⟨⟨h0, h1⟩, trivial⟩ hk
     obtain ⟨kb, k1, _⟩ := g3 hχ
     have hlv : yaz (toD ds) (.l s c) = true := by show ((ds.kb s c).map KB.blk).isSome = true; rw [k1]; rfl
     simp only [kx, kpv, hv, hi, hlv, hz, Nat.add_zero]
    ·rw [hn] at h1; exact absurd h1 (by omega)
   ·exact h.elim
  ·exact h.elim
 ·exact h.elim
theorem ygr {u : AOp} {d : Option Nat} {D : List Prop} {v : AV} (hk : DOk ds) (hm : ysi u = false) (h : kpv (yaz (toD ds)) ds.fr u = some (D, v)) (hD : AllP D) : Eff u d ds (eff1 v) (ds.put d v) := by
 refine yl3 (C := D) ?_ hD hk
 unfold kx
 split <;> first | (cases hm; done) | (rw [h])
theorem yqK (hγ : GM P C R ts χ ds) (hk : DOk ds) {o : AO} {x : AOpd} {X : TS K → Prop} (ho : o.op = .len x) (h : tlen C true ts (fun v => X (ts.put o.dst v)) (tev ts.fr x)) : SR P C R o ts ds X := by
 have hx := hγ.tev x
 have fin : ∀ {u : TV K} {v : AV}, TR P C ts χ u v → pval (yaz (toD ds)) (ev (lkF ds.fr)) (.len x) = some v → X (ts.put o.dst u) → SR P C R o ts ds X := by
  intro u v hv hp hX
  refine yej hγ hv ?_ hX
  rw [ho]
  exact ygr hk rfl (show kok (pval (yaz (toD ds)) (ev (lkF ds.fr)) (.len x)) = some ([], v) by rw [hp]; rfl) trivial
 unfold tlen at h
 split at h
 ·rename_i e l ex
  rw [ex] at hx
  obtain ⟨z, xs, hxs, hv⟩ := hx.sli
  exact fin (.it .i64 _) (by simp only [pval, hv]) h
 ·rename_i ex
  rw [ex] at hx
  have : ev (lkF ds.fr) x = .sl true 0 [] := by
   revert hx; generalize ev (lkF ds.fr) x = w; intro hx; cases hx; rfl
  exact fin (.li .i64 0) (by simp only [pval, this]; rfl) h
 ·rename_i ex
  rw [ex] at hx
  have : ∃ z, ev (lkF ds.fr) x = .sl z 0 [] := by
   revert hx; generalize ev (lkF ds.fr) x = w; intro hx; cases hx; exact ⟨_, rfl⟩
  obtain ⟨z, this⟩ := this
  exact fin (.li .i64 0) (by simp only [pval, this]; rfl) h
 ·rename_i s c ex
  rw [ex] at hx
  have go : ∀ {n : Nat} {b : TB K} {u : TV K}, ts.tb s c = some b → tln (some b) = some n → TR P C ts χ u (.it .i64 (n : Int)) → X (ts.put o.dst u) → SR P C R o ts ds X := by
   intro n b u hb hn hu hX
   rcases hx.rwi (n := n) (by rw [hb]; exact hn) with ⟨hχ, hv⟩ | ⟨hχ, h0, hv⟩
   ·exact fin hu (by simp only [pval, hv, hγ.live hb hχ, if_true]) hX
   ·subst h0; exact fin hu (by simp only [pval, hv]) hX
  split at h
  ·rename_i e l hb; exact go hb rfl (.it _ _) h
  ·rename_i e n cs hb; exact go hb rfl (.li _ _) h
  ·exact h.elim
 ·exact h.elim
end
end Go.AV
end
noncomputable section
namespace Go.AV
open Go.RowKit Go.RG Go.Lib
variable {K : Nat -> Type}
section
variable {P : Program} {C : Cx K} {R : List (HO K) -> Hp -> Nat -> Prop} {ts ts' : TS K} {χ χ' : Nat -> Nat -> Bool} {ds : DS}
theorem yol {b : Bool} {c : Prop} (h : AllP (ifL b c)) : b = false → c := by
 intro e; subst e; exact h.1
theorem yoq (hC : CxOk P C) (hγ : GM P C R ts χ ds) {s c e : Nat} {l : List (K e)} (hl : trow C e (ts.tb s c) = some l) (h : tfew (ts.tb s c) = true) : l.length ≤ 1000 := by
 obtain ⟨g1, _⟩ := hγ.trow hC hl
 unfold tfew at h
 split at h
 ·rename_i e' n cs hb
  rw [hb] at g1
  cases g1
  exact Nat.le_of_ble_eq_true h
 ·cases h
theorem yrM (hC : CxOk P C) (hγ : GM P C R ts χ ds) {e : Nat} {u : TV K} {v : AV} {l2 : List (K e)} (hv : TR P C ts χ u v) (h : tsrc C e ts u = some l2) : ∃ ys, srcA (toD ds) v = some (l2.length, ys) ∧ dwks ys = cl (C.E e) l2 := by
 unfold tsrc at h
 split at h
 ·obtain ⟨rfl, rfl⟩ := ydF h
  obtain ⟨z, xs, hx, rfl⟩ := hv.sli
  exact ⟨xs, rfl, hx⟩
 ·rename_i s c
  obtain ⟨g1, g2, g3⟩ := hγ.trow hC h
  rcases hv.rwi g1 with ⟨hχ, rfl⟩ | ⟨hχ, h0, rfl⟩
  ·obtain ⟨kb, k1, k2, k3, k4⟩ := g3 hχ
   refine ⟨kb.cells, ?_, k4⟩
   show (((ds.kb s c).map KB.blk).bind fun b => if b.sz = 0 then none else some (l2.length, b.cells)) = _
   rw [k1]
   show (if kb.sz = 0 then none else some (l2.length, kb.cells)) = _
   rw [if_neg (by rw [k3]; exact Nat.pos_iff_ne_zero.1 (C.E e).pos)]
  ·have := g2 hχ; subst this
   exact ⟨[], rfl, rfl⟩
 ·cases h; cases hv; exact ⟨[], rfl, rfl⟩
 ·cases h; cases hv; exact ⟨[], rfl, rfl⟩
 ·cases h
theorem yoC (hC : CxOk P C) (hγ : GM P C R ts χ ds) {e : Nat} {u : TV K} {l2 : List (K e)} (h : tsrc C e ts u = some l2) (hc : AllP (ifL (ymT ts u) (l2.length ≤ 400000000))) : l2.length ≤ 400000000 := by
 cases hs : ymT ts u with
 | false => exact yol hc hs
 | true =>
   unfold ymT at hs
   split at hs
   ·have := yoq hC hγ (by simpa [tsrc] using h) hs; omega
   ·simp only [tsrc] at h; cases h; simp
   ·simp only [tsrc] at h; cases h; simp
   ·cases hs
theorem GM.kill {s c : Nat} (hγ : GM P C R ts χ ds) (hc : c = 1 ∨ c = 2) : GM P C R (ts.setb s c none) (updχ χ s c false) ds := by
 have hm : Mono ts (ts.setb s c none) χ (updχ χ s c false) := Mono.setb hc (fun _ => .inl ⟨rfl, rfl⟩)
 refine ⟨fun t => ?_, fun s' c' b' h1 h2 => ?_, fun s' c' h1 => ?_, fun s' h1 => ?_, by rw [ymo]; exact hγ.hp⟩
 ·rw [yjy]; exact (hγ.fr t).mono hm
 ·rw [ybW ts s c none hc] at h1
  unfold updχ at h2
  by_cases e : s' = s /\ c' = c
  ·rw [if_pos e] at h1; cases h1
  ·rw [if_neg e] at h1 h2
   obtain ⟨k', q1, q2⟩ := hγ.mb s' c' b' h1 h2
   exact ⟨k', q1, q2.mono hm⟩
 ·unfold updχ at h1
  rw [ybW ts s c none hc]
  by_cases e : s' = s /\ c' = c
  ·rw [if_pos e] at h1; cases h1
  ·rw [if_neg e] at h1 ⊢; exact hγ.vi s' c' h1
 ·rcases hc with rfl | rfl
  ·exact hγ.nw s' h1
  ·have h1' : (Nat.beq s s' || memB ts.nw s') = false := h1
   simp only [Bool.or_eq_false_iff] at h1'
   exact hγ.nw s' h1'.2
structure AppC (u : AOp) (d : Option Nat) (ds : DS) (x : AOpd) (e sz m : Nat) (ys : List AV) : Prop where
 eff : effA (fun _ => false) u d (toD ds) = ydl (fun _ => false) (site d) e sz m ys (toD ds) (ev (lkF ds.fr) x)
 pos : 0 < sz
theorem ylC {u : AOp} {d : Option Nat} {x : AOpd} {e sz m n : Nat} {ys xs : List AV} (hk : DOk ds) (hA : AppC u d ds x e sz m ys) (hx : ev (lkF ds.fr) x = .sl true n xs) (hm : 0 < m) (hnw : memO ds.nw (site d) = false) :
  Eff u d ds ⟨.gs (.l (site d) 2) m, [((site d, 2), some ⟨e, sz, ys⟩)], [site d], none⟩ ((ds.set (site d) 2 (some ⟨e, sz, ys, false⟩)).put d (.gs (.l (site d) 2) m)) := by
 refine ⟨?_, yjc (b := ⟨e, sz, ys, false⟩) hnw, DOk.put (hk.set (.inr rfl) fun x hx => by cases hx; exact ⟨Nat.pos_iff_ne_zero.1 hA.pos, fun q => by cases q⟩)⟩
 rw [hA.eff, hx]
 simp only [ydl]
 rw [if_neg (by omega), ygh hnw]
 rfl
theorem ynd {u : AOp} {d : Option Nat} {x : AOpd} {e sz m n : Nat} {ys xs : List AV} (hk : DOk ds) (hA : AppC u d ds x e sz m ys) (hx : ev (lkF ds.fr) x = .sl true n xs) (hm : m = 0) :
  Eff u d ds (eff1 (.sl true 0 [])) (ds.put d (.sl true 0 [])) := by
 refine ⟨?_, yec _ d ds, hk.put⟩
 rw [hA.eff, hx]
 simp only [ydl]
 rw [if_pos hm]
theorem ylU {u : AOp} {d : Option Nat} {x : AOpd} {e sz m n s c : Nat} {ys : List AV} {kb : KB} (hk : DOk ds) (hA : AppC u d ds x e sz m ys) (hx : ev (lkF ds.fr) x = .gs (.l s c) n) (hm : ds.kb s c = some kb) (he : kb.e = e) (hz : kb.sz = sz) (hl : kb.cells.length = n * sz) (hn : n ≤ 1000000000) (hnw : memO ds.nw (site d) = false) :
  Eff u d ds ⟨.gs (.l (site d) 2) (n + m), [((s, c), none), ((site d, 2), some ⟨e, sz, kb.cells ++ ys⟩)], [site d], none⟩ (((ds.set s c none).set (site d) 2 (some ⟨e, sz, kb.cells ++ ys, false⟩)).put d (.gs (.l (site d) 2) (n + m))) := by
 have hcc := kb_c hm
 refine ⟨?_, ypA (b := ⟨e, sz, kb.cells ++ ys, false⟩) hnw hcc, DOk.put ((hk.set (hcc.imp id (·.1)) fun x hx => by cases hx).set (.inr rfl) fun x hx => by cases hx; exact ⟨Nat.pos_iff_ne_zero.1 hA.pos, fun q => by cases q⟩)⟩
 rw [hA.eff, hx]
 simp only [ydl]
 show (((ds.kb s c).map KB.blk).bind _) = _
 rw [hm]
 simp only [Option.map_some, Option.bind_some, KB.blk]
 rw [if_pos ⟨he, hz, hl, hn⟩, ygh hnw]
 rfl
theorem yoL (hC : CxOk P C) (hγ : GM P C R ts χ ds) (hk : DOk ds) {o : AO} {x : AOpd} {e : Nat} {l2 : List (K e)} {c2 : List Prop} {ys : List AV} {X : TS K → Prop} (h : tapp C e o.dst ts l2 c2 X (tev ts.fr x)) (hA : AllP c2 → AppC o.op o.dst ds x e (C.E e).sz l2.length ys) (hys : dwks ys = cl (C.E e) l2)
  (hw : twk' ts o = (site o.dst, 2) :: trf (tev ts.fr x)) : SR P C R o ts ds X := by
 have hx := hγ.tev x
 have hyl : ys.length = l2.length * (C.E e).sz := by rw [<- yba ys, hys, ye1]
 have nilC : ∀ {ts0 : TS K} {χ0 : Nat → Nat → Bool}, GM P C R ts0 χ0 ds → memB ts0.nw (site o.dst) = false → ts0.rg = ts.rg → AllP c2 → ev (lkF ds.fr) x = .sl true 0 [] → X (tnew ts0 o.dst (.row e l2) trw) → SR P C R o ts ds X := by
  intro ts0 χ0 hγ0 hn hrg hc hev hX
  have hnw := hγ0.nw _ hn
  by_cases h0 : l2 = []
  ·subst h0
   have hE := ynd hk (hA hc) hev rfl
   refine ⟨_, _, _, _, hE, fun p hp => (by cases hp), rfl, GM.put (hγ0.setv hn) ?_, hX, by rw [ybK, yca, hrg]⟩
   exact .rwn _ _ (yjg _ _ _) (by rw [ykZ]; rfl) (yfz _ _ _ _)
  ·have hm : 0 < l2.length := List.length_pos_iff.2 h0
   have hE := ylC hk (hA hc) hev hm hnw
   have hg := hγ0.setb (s := site o.dst) (c := 2) (b := some (.row e l2)) (kb := some ⟨e, (C.E e).sz, ys, false⟩) (.inr rfl) (Mono.new hn) (fun b' hb' => ⟨_, rfl, by cases hb'; exact ⟨rfl, rfl, hys⟩⟩)
   refine ⟨_, _, _, _, hE, fun p hp => ?_, rfl, hg.put (.rw _ _ _ (yjg _ _ _) (by rw [ykZ]; rfl) (yfz _ _ _ _)), hX, by rw [ybK, yca, hrg]⟩
   simp only [List.mem_singleton] at hp; subst hp; rw [hw]; simp
 unfold tapp at h
 split at h
 ·rename_i ex
  obtain ⟨hn, h⟩ := ydD h
  obtain ⟨hc, hX⟩ := yeQ h
  rw [ex] at hx
  have hev : ev (lkF ds.fr) x = .sl true 0 [] := by
   revert hx; generalize ev (lkF ds.fr) x = w; intro hx; cases hx; rfl
  exact nilC hγ hn rfl hc hev hX
 ·rename_i s c ex
  obtain ⟨hn, h⟩ := ydD h
  obtain ⟨l, hl, h⟩ := ycq h
  obtain ⟨hc1, h⟩ := yeQ h
  obtain ⟨hc, hX⟩ := yeQ h
  rw [ex] at hx
  obtain ⟨g1, g2, g3⟩ := hγ.trow hC hl
  have hok := ymH g1
  have hcc : c = 1 ∨ c = 2 := hok.imp id (·.1)
  have hne : ¬ (s = site o.dst ∧ c = 2) := by
   rintro ⟨rfl, rfl⟩; exact ymj hn hok
  have hn' : memB (ts.setb s c none).nw (site o.dst) = false := by
   rcases hcc with rfl | rfl
   ·exact hn
   ·show (Nat.beq s (site o.dst) || memB ts.nw (site o.dst)) = false
    rw [hn, Bool.or_false]
    cases hq : Nat.beq s (site o.dst) with
    | false => rfl
    | true => exact (hne ⟨nbeq.1 hq, rfl⟩).elim
  rcases hx.rwi g1 with ⟨hχ, hv⟩ | ⟨hχ, hz, hv⟩
  ·obtain ⟨kb, k1, k2, k3, k4⟩ := g3 hχ
   have hlen : l.length ≤ 1000000000 := by
    cases hf : tfew (ts.tb s c) with
    | false => exact yol hc1 hf
    | true => have := yoq hC hγ hl hf; omega
   have hkl : kb.cells.length = l.length * (C.E e).sz := by rw [<- yba kb.cells, k4, ye1]
   have hE := ylU hk (hA hc) hv k1 k2 k3 hkl hlen (hγ.nw _ hn)
   have hg1 := hγ.setb (s := s) (c := c) (b := none) (kb := none) hcc (Mono.setb hcc (fun _ => .inl ⟨rfl, rfl⟩)) (fun b' hb' => by cases hb')
   have hg2 := hg1.setb (s := site o.dst) (c := 2) (b := some (.row e (l ++ l2))) (kb := some ⟨e, (C.E e).sz, kb.cells ++ ys, false⟩) (.inr rfl) (Mono.new hn') (fun b' hb' => ⟨_, rfl, by cases hb'; exact ⟨rfl, rfl, by show dwks (kb.cells ++ ys) = _; rw [ybi, k4, hys, ysY]⟩⟩)
   refine ⟨_, _, _, _, hE, fun p hp => ?_, rfl, hg2.put (.rw _ _ _ (yjg _ _ _) (by rw [ykZ]; simp [tln]) (yfz _ _ _ _)), hX, by rw [ybK, yca, yca]⟩
   simp only [List.mem_cons, List.not_mem_nil, or_false] at hp
   rw [hw, ex]
   rcases hp with rfl | rfl <;> simp [trf]
  ·have := g2 hχ; subst this
   exact nilC (hγ.kill (s := s) (c := c) hcc) hn' (yca _ _ _ _) hc hv (by simpa using hX)
 ·exact h.elim
theorem yjt {e : Nat} {f : K e → UInt8} (hC : CxOk P C) (hf : (C.T e).tb = some f) : ∀ (l : List (K e)) (ys : List AV), dwks ys = cl (C.E e) l → ydT ys = some (l.map f) ∧ ys.length = l.length
 | [], ys, h => by
   have : ys = [] := by cases ys with | nil => rfl | cons => simp [dwks, cl] at h
   subst this; exact ⟨rfl, rfl⟩
 | x :: l, ys, h => by
   obtain ⟨n, h1, h2⟩ := hC.tb e f hf x
   rw [show cl (C.E e) (x :: l) = (C.E e).c x ++ cl (C.E e) l by simp [cl], h1] at h
   cases ys with
   | nil => simp [dwks] at h
   | cons y ys =>
     simp only [dwks, List.cons_append, List.nil_append, List.cons.injEq] at h
     obtain ⟨a1, a2⟩ := yjt hC hf l ys h.2
     have : y = .it .u8 n := by
      have h1 := h.1
      cases y <;> simp [dwk] at h1
      obtain ⟨rfl, rfl⟩ := h1; rfl
     subst this
     exact ⟨by simp only [ydT, yqC, a1, List.map_cons, h2], by simp [a2]⟩
theorem yrz (hC : CxOk P C) (hγ : GM P C R ts χ ds) (hk : DOk ds) {F : Cf K} (hF : F.C = C) {o : AO} {x : AOpd} {X : TS K → Prop} {dr : Bool} (ho : o.op = .b2s x) (h : step F dr o ts X) : SR P C R o ts ds X := by
 unfold step at h
 rw [ho, hF] at h
 simp only at h
 have hx := hγ.tev x
 have fin : ∀ {s : Str}, effA (fun _ => false) (.b2s x) o.dst (toD ds) = some (eff1 (.st s)) → X (ts.put o.dst (.st s)) → SR P C R o ts ds X := by
  intro s he hX
  exact yej hγ (.st s) (by rw [ho]; exact ⟨he, yec _ _ _, hk.put⟩) hX
 split at h
 ·rename_i e l ex
  rw [ex] at hx
  obtain ⟨z, xs, hxs, hv⟩ := hx.sli
  split at h
  ·rename_i f hf
   obtain ⟨b1, b2⟩ := yjt hC hf l xs hxs
   refine fin ?_ h
   simp only [effA]
   rw [yb6, hv]
   simp only
   rw [if_pos b2, b1]; rfl
  ·exact h.elim
 ·rename_i s c ex
  rw [ex] at hx
  split at h
  ·rename_i f l hf hl
   obtain ⟨g1, g2, g3⟩ := hγ.trow hC hl
   rcases hx.rwi g1 with ⟨hχ, hv⟩ | ⟨hχ, h0, hv⟩
   ·obtain ⟨kb, k1, k2, k3, k4⟩ := g3 hχ
    obtain ⟨b1, b2⟩ := yjt hC hf l kb.cells k4
    refine fin ?_ h
    simp only [effA]
    rw [yb6, hv]
    simp only
    show (((ds.kb s c).map KB.blk).bind _) = _
    rw [k1]
    simp only [Option.map_some, Option.bind_some, KB.blk]
    rw [if_pos ⟨by rw [k3]; exact Nat.pos_iff_ne_zero.1 (C.E _).pos, b2⟩, b1]; rfl
   ·have := g2 hχ; subst this
    refine fin ?_ h
    simp only [effA]
    rw [yb6, hv]
    rfl
  ·exact h.elim
 ·rename_i ex
  rw [ex] at hx
  have hev : ev (lkF ds.fr) x = .sl true 0 [] := by
   revert hx; generalize ev (lkF ds.fr) x = w; intro hx; cases hx; rfl
  refine fin ?_ h
  simp only [effA]
  rw [yb6, hev]
  rfl
 ·exact h.elim
structure ysI (s c : Nat) (ts ts' : TS K) (χ χ' : Nat → Nat → Bool) : Prop where
 rg : ∀ id u, lkR ts.rg id = some u -> lkR ts'.rg id = some u
 ok : ∀ s c, okr ts s c -> okr ts' s c
 pl : ∀ s' c', ¬ (s' = s /\ c' = c) -> okr ts s' c' -> (tln (ts'.tb s' c') = none /\ χ' s' c' = false) ∨ (tln (ts'.tb s' c') = tln (ts.tb s' c') /\ χ' s' c' = χ s' c')
theorem ykl (s c : Nat) (l : List (TV K)) (j : Nat) : (ygk s c l)[j]? = (l[j]?).map (yeX s c) := by
 induction l generalizing j with
 | nil => simp [ygk]
 | cons x l ih => cases j with
   | zero => simp [ygk]
   | succ j => simp [ygk, ih]
theorem yi5 (s c : Nat) (l : List (TV K)) : (ygk s c l).length = l.length := by
 induction l with
 | nil => rfl
 | cons x l ih => simp [ygk, ih]
theorem beq2 {a b c d : Nat} (h : (Nat.beq a b && Nat.beq c d) = false) : ¬ (b = a ∧ d = c) := by
 rintro ⟨rfl, rfl⟩; rw [nbeq.2 rfl, nbeq.2 rfl] at h; cases h
theorem TR.drop {s c : Nat} (hm : ysI s c ts ts' χ χ') {u : TV K} {v : AV} (h : TR P C ts χ u v) : TR P C ts' χ' (yeX s c u) v := by
 induction h with
 | cn id u v h hn hv _ => exact .cn id u v (hm.rg id u h) hn (hv.noref hn).1
 | un v => exact .un v
 | lb b => exact .lb b
 | bl b => exact .bl b
 | li k n => exact .li k n
 | it k n => exact .it k n
 | st s => exact .st s
 | agg us vs hl _ ih =>
   refine .agg _ vs (by rw [yi5]; exact hl) (fun j u v h1 h2 => ?_)
   rw [ykl] at h1
   obtain ⟨u', e1, rfl⟩ := Option.map_eq_some_iff.1 h1
   exact ih j u' v e1 h2
 | tup us vs hl _ ih =>
   refine .tup _ vs (by rw [yi5]; exact hl) (fun j u v h1 h2 => ?_)
   rw [ykl] at h1
   obtain ⟨u', e1, rfl⟩ := Option.map_eq_some_iff.1 h1
   exact ih j u' v e1 h2
 | nil => exact .nil
 | em z => exact .em z
 | sl e l z n xs hn hx => exact .sl e l z n xs hn hx
 | rwd s' c' v hr h ho =>
   simp only [yeX]
   split
   ·exact .un _
   ·rename_i e
    refine .rwd s' c' v (hm.ok s' c' hr) ?_ ho
    rcases hm.pl s' c' (beq2 e) hr with h1 | h1
    ·exact h1.1
    ·rw [h1.1]; exact h
 | rw s' c' n hr h hx =>
   simp only [yeX]
   split
   ·exact .un _
   ·rename_i e
    rcases hm.pl s' c' (beq2 e) hr with h1 | h1
    ·exact .rwd s' c' _ (hm.ok s' c' hr) h1.1 rfl
    ·exact .rw s' c' n (hm.ok s' c' hr) (by rw [h1.1]; exact h) (by rw [h1.2]; exact hx)
 | rwn s' c' hr h hx =>
   simp only [yeX]
   split
   ·exact .un _
   ·rename_i e
    rcases hm.pl s' c' (beq2 e) hr with h1 | h1
    ·exact .rwd s' c' _ (hm.ok s' c' hr) h1.1 rfl
    ·exact .rwn s' c' (hm.ok s' c' hr) (by rw [h1.1]; exact h) (by rw [h1.2]; exact hx)
 | px s' c' off hr => exact .px s' c' off (hm.ok s' c' hr)
 | pr e0 s' c' i of hr hx =>
   simp only [yeX]
   split
   ·exact .un _
   ·rename_i e
    refine .pr e0 s' c' i of (hm.ok s' c' hr) ?_
    rcases hm.pl s' c' (beq2 e) hr with h1 | h1
    ·exact h1.2
    ·rw [h1.2]; exact hx
 | ep e l i of xs hx => exact .ep e l i of xs hx
 | gs l i xs hx => exact .gs l i xs hx
 | nptr => exact .nptr
 | fn f a c a' c' ha hc _ _ ih ih' => exact .un _
 | fv ps rs F v h hv => exact .fv ps rs F v h hv
theorem yjo (f : TV K → TV K) (hf : f .un = .un) : ∀ (l : List (Nat × TV K)) (t : Nat), lkT (mapF f l) t = f (lkT l t)
 | [], t => hf.symm
 | p :: r, t => by
   rw [show mapF f (p :: r) = (p.1, f p.2) :: mapF f r from rfl, yfe, yjo f hf r t]
   rw [show p :: r = (p.1, p.2) :: r from rfl, yfe]
   split <;> rfl
theorem mapM_at (f : TV K → TV K) : ∀ (l : List (Nat × Option (TB K))) (t : Nat), lkB (mapM f l) t = mapB f (lkB l t)
 | [], t => rfl
 | p :: r, t => by
   rw [show mapM f (p :: r) = (p.1, mapB f p.2) :: mapM f r from rfl, ybx, ybx, mapM_at f r t]
   split <;> rfl
theorem yeL (f : TV K → TV K) : ∀ (l : List (Nat × Option (TB K))) (t : Nat), memB (mapM f l) t = memB l t
 | [], t => rfl
 | p :: r, t => by show (Nat.beq p.1 t || memB (mapM f r) t) = (Nat.beq p.1 t || memB r t); rw [yeL f r t]
theorem ylB (ts : TS K) (f : TV K → TV K) (s c : Nat) : (ts.mapv f).tb s c = mapB f (ts.tb s c) := by
 unfold TS.tb TS.mapv
 cases Nat.beq c 1 with
 | true => exact mapM_at f _ _
 | false => cases Nat.beq c 2 with
   | true => exact mapM_at f _ _
   | false => rfl
theorem ylO (f : TV K → TV K) (b : Option (TB K)) : tln (mapB f b) = tln b := by
 cases b with
 | none => rfl
 | some b => cases b <;> rfl
theorem GM.cut {s c e : Nat} {l : List (K e)} {kb : Option KB} {v : Bool} {ds' : DS} (hγ : GM P C R ts χ ds) (hc : c = 1 ∨ c = 2) (hok : okr ts s c) (hds : ds' = match v with | true => ds | false => ds.set s c kb)
  (hb : v = false -> ∃ k', kb = some k' /\ k'.e = e /\ k'.sz = (C.E e).sz /\ dwks k'.cells = cl (C.E e) l) (hv : v = true -> l = []) : GM P C R ((ts.mapv (yeX s c)).setb s c (some (.row e l))) (updχ χ s c v) ds' := by
 have hokm : ∀ s' c', okr ts s' c' → okr (ts.mapv (yeX s c)) s' c' := by
  intro s' c' q
  rcases q with q | ⟨q1, q2⟩
  ·exact .inl q
  ·exact .inr ⟨q1, by show memB (mapM _ ts.nw) s' = true; rw [yeL]; exact q2⟩
 have hm : ysI s c ts ((ts.mapv (yeX s c)).setb s c (some (.row e l))) χ (updχ χ s c v) := by
  refine ⟨fun id u q => by rw [yca]; exact q, fun s' c' q => yhs _ _ _ _ hc (hokm s' c' q), fun s' c' hne q => .inr ⟨?_, ?_⟩⟩
  ·rw [ybW _ s c _ hc, if_neg hne, ylB, ylO]
  ·unfold updχ; rw [if_neg hne]
 have hkb : ∀ s' c', ¬ (s' = s ∧ c' = c) → ds'.kb s' c' = ds.kb s' c' := by
  intro s' c' hne
  subst hds
  cases v with
  | true => rfl
  | false => show (ds.set s c kb).kb s' c' = _; rw [yky ds s c kb hc, if_neg hne]
 refine ⟨fun t => ?_, fun s' c' b' h1 h2 => ?_, fun s' c' h1 => ?_, fun s' h1 => ?_, ?_⟩
 rotate_right
 ·rw [ymo]
  show R ts.h ds'.H ds'.nx
  subst hds
  cases v with
  | true => exact hγ.hp
  | false => show R ts.h (ds.set s c kb).H (ds.set s c kb).nx; rw [yq1, yiW]; exact hγ.hp
 ·rw [yjy]
  show TR P C _ _ (lkT (mapF (yeX s c) ts.fr) t) _
  rw [yjo _ rfl]
  have : lkF ds'.fr t = lkF ds.fr t := by
   subst hds
   cases v with
   | true => rfl
   | false => show lkF (ds.set s c kb).fr t = _; rw [ykK]
  rw [this]
  exact (hγ.fr t).drop hm
 ·rw [ybW _ s c _ hc] at h1
  unfold updχ at h2
  by_cases e' : s' = s /\ c' = c
  ·rw [if_pos e'] at h1 h2
   obtain ⟨rfl, rfl⟩ := e'
   subst h2
   obtain ⟨k', q1, q2, q3, q4⟩ := hb rfl
   cases h1
   refine ⟨k', ?_, q2, q3, q4⟩
   subst hds
   show (ds.set s' c' kb).kb s' c' = _
   rw [yky ds s' c' kb hc]; simpa using q1
  ·rw [if_neg e'] at h1 h2
   rw [ylB] at h1
   rw [hkb s' c' e']
   cases hq : ts.tb s' c' with
   | none => rw [hq] at h1; cases h1
   | some b0 =>
     rw [hq] at h1
     obtain ⟨k', q1, q2⟩ := hγ.mb s' c' b0 hq h2
     refine ⟨k', q1, ?_⟩
     cases b0 with
     | row e0 l0 => cases h1; exact q2
     | box e0 cs =>
       cases h1
       refine ⟨q2.1, by simpa using q2.2.1, by simpa using q2.2.2.1, fun j u v a b => ?_⟩
       rw [List.getElem?_map] at a
       obtain ⟨u', e1, rfl⟩ := Option.map_eq_some_iff.1 a
       exact (q2.2.2.2 j u' v e1 b).drop hm
     | lrow e0 n cs =>
       cases h1
       refine ⟨q2.1, q2.2.1, by simpa using q2.2.2.1, by simpa using q2.2.2.2.1, fun j u v a b => ?_⟩
       rw [List.getElem?_map] at a
       obtain ⟨u', e1, rfl⟩ := Option.map_eq_some_iff.1 a
       exact (q2.2.2.2.2 j u' v e1 b).drop hm
 ·unfold updχ at h1
  rw [ybW _ s c _ hc]
  by_cases e' : s' = s /\ c' = c
  ·rw [if_pos e'] at h1 ⊢
   have := hv h1; subst this
   exact ⟨_, rfl⟩
  ·rw [if_neg e'] at h1 ⊢
   obtain ⟨e0, h3⟩ := hγ.vi s' c' h1
   exact ⟨e0, by rw [ylB, h3]; rfl⟩
 ·have hmem : memB ts.nw s' = false := by
   rcases hc with rfl | rfl
   ·rw [<- yeL (yeX s 1)]; exact h1
   ·have h1' : (Nat.beq s s' || memB (mapM (yeX s 2) ts.nw) s') = false := h1
    simp only [Bool.or_eq_false_iff] at h1'
    rw [<- yeL (yeX s 2)]; exact h1'.2
  have := hγ.nw s' hmem
  subst hds
  cases v with
  | true => exact this
  | false =>
    show memO (ds.set s c kb).nw s' = false
    rcases hc with rfl | rfl
    ·exact this
    ·have h1' : (Nat.beq s s' || memB (mapM (yeX s 2) ts.nw) s') = false := h1
     simp only [Bool.or_eq_false_iff] at h1'
     show (Nat.beq s s' || memO ds.nw s') = false
     rw [h1'.1, this]; rfl
theorem ym5 {T : Type} {l : List T} {a b : Int} (h : 0 ≤ a ∧ a ≤ b ∧ b ≤ l.length) : (yeF l a b).length = b.toNat - a.toNat := by
 unfold yeF; simp; omega
theorem yry (hC : CxOk P C) (hγ : GM P C R ts χ ds) (hk : DOk ds) {F : Cf K} (hF : F.C = C) {o : AO} {sz : Nat} {x : AOpd} {lo hi : Option AOpd} {X : TS K → Prop} {dr : Bool} (ho : o.op = .sll sz x lo hi) (h : step F dr o ts X) : SR P C R o ts ds X := by
 unfold step at h
 rw [ho, hF] at h
 simp only at h
 have hx := hγ.tev x
 have slc : ∀ {z : Bool} {n : Nat} {xs : List AV} {a b : Int} {u : TV K}, ev (lkF ds.fr) x = .sl z n xs → bnd (ev (lkF ds.fr)) 0 lo = some a → bnd (ev (lkF ds.fr)) n hi = some b → (0 ≤ a ∧ a ≤ b ∧ b ≤ n) → TR P C ts χ u (.sl z (b.toNat - a.toNat) ((xs.drop (a.toNat * sz)).take ((b.toNat - a.toNat) * sz))) → X (ts.put o.dst u) → SR P C R o ts ds X := by
  intro z n xs a b u hev h1 h2 hc hu hX
  refine yej hγ hu ?_ hX
  rw [ho]
  refine ⟨?_, yec _ _ _, hk.put⟩
  simp only [effA]
  rw [yb6, hev]
  simp only [yhz, pval]
  rw [hev]
  simp only
  rw [h1, h2]
  simp only
  rw [if_pos hc]; rfl
 split at h
 ·rename_i e l ex
  rw [ex] at hx
  obtain ⟨z, xs, hxs, hv⟩ := hx.sli
  split at h
  ·rename_i a b hz e1 e2
   have hz := nbeq.1 hz
   obtain ⟨hc, hX⟩ := h
   refine slc hv (ygy hγ e1) (ygy hγ e2) hc (.sl e _ z _ _ (ym5 hc).symm ?_) hX
   rw [ydQ, yeE, hxs, hz]
   exact yny (C.E e) l a.toNat (b.toNat - a.toNat)
  ·exact h.elim
 ·rename_i s c ex
  rw [ex] at hx
  split at h
  ·rename_i l hz hl
   have hz := nbeq.1 hz
   split at h
   ·rename_i b e2
    obtain ⟨hc, hX⟩ := h
    obtain ⟨g1, g2, g3⟩ := hγ.trow hC hl
    have hok := ymH g1
    have hcc : c = 1 ∨ c = 2 := hok.imp id (·.1)
    rcases hx.rwi g1 with ⟨hχ, hv⟩ | ⟨hχ, h0, hv⟩
    ·obtain ⟨kb, k1, k2, k3, k4⟩ := g3 hχ
     have hcc2 := kb_c k1
     have hlt : (l.take b.toNat).length = b.toNat := by simp; omega
     have hE : Eff (.sll sz x none hi) o.dst ds ⟨.gs (.l s c) b.toNat, [((s, c), some ⟨kb.e, kb.sz, kb.cells.take (b.toNat * sz)⟩)], [], none⟩ ((ds.set s c (some ⟨kb.e, kb.sz, kb.cells.take (b.toNat * sz), false⟩)).put o.dst (.gs (.l s c) b.toNat)) := by
      refine ⟨?_, ynS (b := ⟨kb.e, kb.sz, kb.cells.take (b.toNat * sz), false⟩) hcc2, DOk.put (hk.set hcc fun x hx => by cases hx; exact ⟨by show kb.sz ≠ 0; rw [k3]; exact Nat.pos_iff_ne_zero.1 (C.E _).pos, fun q => by cases q⟩)⟩
      simp only [effA]
      rw [yb6, hv]
      simp only [yhz]
      rw [show bnd (ev (lkF ds.fr)) 0 none = some 0 from rfl, ygy hγ e2]
      simp only [ylg]
      show (((ds.kb s c).map KB.blk).bind _) = _
      rw [k1]
      simp only [Option.map_some, Option.bind_some, KB.blk]
      rw [if_pos ⟨by rw [k3, hz], by rw [hz]; exact (C.E _).pos, hc.1, hc.2, by rw [<- yba kb.cells, k4, ye1, hz]; exact Nat.le_refl _⟩]
     have hg := hγ.cut (s := s) (c := c) (e := tbe (ts.tb s c)) (l := l.take b.toNat) (kb := some ⟨kb.e, kb.sz, kb.cells.take (b.toNat * sz), false⟩) (v := false) hcc hok rfl (fun _ => ⟨_, rfl, k2, k3, by
      show dwks (kb.cells.take (b.toNat * sz)) = _
      rw [ydQ, k4, hz]
      have := yny (C.E (tbe (ts.tb s c))) l 0 b.toNat
      simpa using this⟩) (fun q => by cases q)
     refine ⟨_, _, _, _, by rw [ho]; exact hE, fun p hp => ?_, rfl, hg.put (.rw s c b.toNat ?_ ?_ (yfz _ _ _ _)), hX, by rw [ybK, yca]; rfl⟩
     ·simp only [List.mem_singleton] at hp; subst hp; simp [twk', ho, ex, trf]
     ·refine yhs _ _ _ _ hcc ?_
      rcases hok with q | ⟨q1, q2⟩
      ·exact .inl q
      ·exact .inr ⟨q1, by show memB (mapM _ ts.nw) s = true; rw [yeL]; exact q2⟩
     ·rw [ybW _ s c _ hcc]; simp only [and_self, if_true, tln]; rw [hlt]
    ·have := g2 hχ; subst this
     have hb0 : b = 0 := by have := hc.2; simp at this; omega
     subst hb0
     have e2' : bnd (ev (lkF ds.fr)) ((0 : Nat) : Int) hi = some 0 := ygy hγ e2
     have hE : Eff (.sll sz x none hi) o.dst ds (eff1 (.sl true 0 [])) (ds.put o.dst (.sl true 0 [])) := by
      refine ⟨?_, yec _ _ _, hk.put⟩
      simp only [effA]
      rw [yb6, hv]
      simp only [yhz, pval]
      rw [hv]
      simp only
      rw [show bnd (ev (lkF ds.fr)) 0 none = some 0 from rfl, e2']
      simp only
      rw [if_pos ⟨by omega, by omega, by omega⟩]
      simp [effP]
     have hg := hγ.cut (s := s) (c := c) (e := tbe (ts.tb s c)) (l := ([] : List (K (tbe (ts.tb s c))))) (kb := none) (v := true) hcc hok rfl (fun q => by cases q) (fun _ => rfl)
     refine ⟨_, _, _, _, by rw [ho]; exact hE, fun p hp => (by cases hp), rfl, hg.put (.rwn s c ?_ ?_ (yfz _ _ _ _)), hX, by rw [ybK, yca]; rfl⟩
     ·refine yhs _ _ _ _ hcc ?_
      rcases hok with q | ⟨q1, q2⟩
      ·exact .inl q
      ·exact .inr ⟨q1, by show memB (mapM _ ts.nw) s = true; rw [yeL]; exact q2⟩
     ·rw [ybW _ s c _ hcc]; simp [tln]
   ·exact h.elim
  ·exact h.elim
 ·exact h.elim
theorem ypt (hγ : GM P C R ts χ ds) (hk : DOk ds) {F : Cf K} {o : AO} {c a b : AOpd} {X : TS K → Prop} {dr : Bool} (ho : o.op = .pick c a b) (h : step F dr o ts X) : SR P C R o ts ds X := by
 unfold step at h
 rw [ho] at h
 simp only at h
 have hc := hγ.tev c
 have fin : ∀ {u : TV K} {v : AV}, TR P C ts χ u v → pval (yaz (toD ds)) (ev (lkF ds.fr)) (.pick c a b) = some v → X (ts.put o.dst u) → SR P C R o ts ds X := by
  intro u v hv hp hX
  refine yej hγ hv ?_ hX
  rw [ho]
  exact ygr hk rfl (show kok (pval (yaz (toD ds)) (ev (lkF ds.fr)) (.pick c a b)) = some ([], v) by rw [hp]; rfl) trivial
 split at h
 ·rename_i ex; rw [ex] at hc
  exact fin (hγ.tea a) (by simp only [pval, hc.lbi]) h
 ·rename_i ex; rw [ex] at hc
  exact fin (hγ.tea b) (by simp only [pval, hc.lbi]) h
 ·exact h.elim
theorem ys2 (hC : CxOk P C) (hγ : GM P C R ts χ ds) (hk : DOk ds) {F : Cf K} (hF : F.C = C) {o : AO} {e sz bytes : Nat} {x y : AOpd} {X : TS K → Prop} {dr : Bool} (ho : o.op = .app e sz bytes x y) (h : step F dr o ts X) : SR P C R o ts ds X := by
 unfold step at h
 rw [ho, hF] at h
 simp only at h
 split at h
 ·rename_i hc
  simp only [Bool.and_eq_true] at hc
  have hz := nbeq.1 hc.1
  have hb := Nat.le_of_ble_eq_true hc.2
  obtain ⟨l2, hl2, h⟩ := ycq h
  obtain ⟨ys, hs, hys⟩ := yrM hC hγ (hγ.tev y) hl2
  refine yoL hC hγ hk h (fun hA => ?_) hys (by rw [twk', ho])
  refine ⟨?_, (C.E e).pos⟩
  rw [ho]
  simp only [effA]
  rw [yb6, hs, Option.bind_some, if_pos ⟨by rw [<- hz]; exact (C.E e).pos, hb, by rw [<- yba ys, hys, ye1, hz], yoC hC hγ hl2 hA⟩, hz]
 ·exact h.elim
theorem yrA (hC : CxOk P C) (hγ : GM P C R ts χ ds) (hk : DOk ds) {F : Cf K} (hF : F.C = C) {o : AO} {e : Nat} {x y : AOpd} {X : TS K → Prop} {dr : Bool} (ho : o.op = .apps e x y) (h : step F dr o ts X) : SR P C R o ts ds X := by
 unfold step at h
 rw [ho, hF] at h
 simp only at h
 split at h
 ·rename_i l f ey hf
  have hy := hγ.tev y
  rw [ey] at hy
  have hsz : (C.E e).sz = 1 := by
   have := hC.ob e f hf 0
   rw [<- (C.E e).len (f 0), this]; rfl
  have hys : dwks (encB l) = cl (C.E e) (l.map f) := by
   clear hy ey h
   induction l with
   | nil => rfl
   | cons b l ih =>
     rw [List.map_cons, show cl (C.E e) (f b :: l.map f) = (C.E e).c (f b) ++ cl (C.E e) (l.map f) by simp [cl], hC.ob e f hf b, <- ih]
     rfl
  refine yoL hC hγ hk (ys := encB l) h (fun hA => ?_) hys (by rw [twk', ho])
  refine ⟨?_, (C.E e).pos⟩
  rw [ho]
  simp only [effA]
  rw [yb6, hy.str]
  simp only
  rw [if_pos hA.1, hsz, List.length_map]
 ·exact h.elim
def ylF : AOp → Bool
 | .call .. | .calv .. => false
 | _ => true
theorem ymM (hC : CxOk P C) (hγ : GM P C R ts χ ds) (hk : DOk ds) {F : Cf K} (hF : F.C = C) {o : AO} {X : TS K → Prop} (hn : ylF o.op = true) (h : step F true o ts X) : SR P C R o ts ds X := by
 have quiet : ∀ {u : AOp}, o.op = u → (match tqv ts u with | some (cs, v) => andL cs (X (ts.put o.dst v)) | none => False) → SR P C R o ts ds X := by
  intro u ho h
  split at h
  ·rename_i cs v e
   obtain ⟨hc, hX⟩ := yeQ h
   obtain ⟨hm, D, w, h1, h2, h3⟩ := ysB hγ e hc
   refine yej hγ h3 ?_ hX
   rw [ho]
   exact ygr hk hm h1 h2
  ·exact h.elim
 cases ho : o.op with
 | ld g sz x => unfold step at h; rw [ho, hF] at h; exact yti hC hγ hk ho h
 | sto sz x y => unfold step at h; rw [ho, hF] at h; exact yqu hC hγ hk ho h
 | pick c a b => exact ypt hγ hk ho h
 | box e sz x => exact yqA hγ hk ho h
 | bsl e sz n z parts => exact yrK hγ hk hF ho h
 | mks e sz b z x y => exact yqN hC hγ hk hF ho h
 | iad sz x i => exact yqV hC hγ hk hF ho h
 | len x => unfold step at h; rw [ho, hF] at h; exact yqK hγ hk ho h
 | app e sz b x y => exact ys2 hC hγ hk hF ho h
 | apps e x y => exact yrA hC hγ hk hF ho h
 | b2s x => exact yrz hC hγ hk hF ho h
 | sll sz x lo hi => exact yry hC hγ hk hF ho h
 | call f args => rw [ho] at hn; cases hn
 | calv x args => rw [ho] at hn; cases hn
 | _ => unfold step at h; rw [ho] at h; exact quiet ho h
end
end Go.AV
end
noncomputable section
namespace Go.AV
open Go.RowKit Go.RG Go.Lib
variable {K : Nat -> Type}
def χ1 (χ : Nat -> Bool) : Nat -> Nat -> Bool := fun s c => decide (c = 1) && χ s
section
variable {P : Program} {C : Cx K} {R : List (HO K) -> Hp -> Nat -> Prop} {ts ts1 : TS K} {χ : Nat -> Nat -> Bool} {ξ : Nat -> Bool} {ds : DS} {B : Base} {N : Nat} {ρ : Nat -> Option (Nat × Nat)} {p : Nat × Nat -> Prop}
theorem TR.noL' {u : TV K} {v : AV} (h : TR P C ts χ u v) (hn : ybf u = true) : v.noL = true := (h.noref (ts' := ts) (χ' := χ) hn).2
variable (P C ts ts1 χ ξ ds ρ p) in
def TM (u u1 : TV K) : Prop := ∀ v, TR P C ts χ u v -> ∃ v1, TR P C ts1 (χ1 ξ) u1 v1 /\ RV ρ (toD ds) p v1 v
theorem TM.un (u : TV K) : TM P C ts ts1 χ ξ ds ρ p u .un := fun v _ => ⟨.un, .un _, .un _⟩
theorem TM.noref {u : TV K} (h : ybf u = true) : TM P C ts ts1 χ ξ ds ρ p u u := fun v hv => ⟨v, (hv.noref h).1, .no v (hv.noL' h)⟩
theorem TM.list : ∀ {us us1 : List (TV K)} {vs : List AV}, us1.length = us.length → (∀ (j : Nat) (u u1 : TV K), us[j]? = some u → us1[j]? = some u1 → TM P C ts ts1 χ ξ ds ρ p u u1) → TL P C ts χ us vs →
  ∃ vs1, TL P C ts1 (χ1 ξ) us1 vs1 /\ vs1.length = vs.length /\ ∀ (j : Nat) (a b : AV), vs1[j]? = some a -> vs[j]? = some b -> RV ρ (toD ds) p a b
 | [], us1, vs, hl, _, t => by
   have h1 : us1 = [] := List.eq_nil_of_length_eq_zero hl
   have h2 : vs = [] := List.eq_nil_of_length_eq_zero t.1
   subst h1; subst h2
   exact ⟨[], .nil, rfl, fun j a b h => by simp at h⟩
 | u :: us, us1, vs, hl, hh, t => by
   cases us1 with
   | nil => simp at hl
   | cons u1 us1 => cases vs with
     | nil => simp [TL] at t
     | cons v vs =>
       obtain ⟨v1, a1, a2⟩ := hh 0 u u1 rfl rfl v t.head.1
       obtain ⟨vs1, b1, b2, b3⟩ := TM.list (us := us) (us1 := us1) (vs := vs) (by simpa using hl) (fun j u u1 x y => hh (j + 1) u u1 (by simpa using x) (by simpa using y)) t.head.2
       refine ⟨v1 :: vs1, .cons a1 b1, by simp [b2], fun j a b x y => ?_⟩
       cases j with
       | zero => simp at x y; subst x; subst y; exact a2
       | succ j => exact b3 j a b (by simpa using x) (by simpa using y)
theorem TM.agg {us us1 : List (TV K)} (hl : us1.length = us.length) (hh : ∀ (j : Nat) (u u1 : TV K), us[j]? = some u → us1[j]? = some u1 → TM P C ts ts1 χ ξ ds ρ p u u1) : TM P C ts ts1 χ ξ ds ρ p (.agg us) (.agg us1) := by
 intro v hv
 obtain ⟨vs, rfl, t⟩ := hv.agg'
 obtain ⟨vs1, a, b, c⟩ := TM.list hl hh t
 exact ⟨.agg vs1, .agg _ _ a.1 a.2, .agg _ _ b c⟩
theorem TM.tup {us us1 : List (TV K)} (hl : us1.length = us.length) (hh : ∀ (j : Nat) (u u1 : TV K), us[j]? = some u → us1[j]? = some u1 → TM P C ts ts1 χ ξ ds ρ p u u1) : TM P C ts ts1 χ ξ ds ρ p (.tup us) (.tup us1) := by
 intro v hv
 obtain ⟨vs, rfl, t⟩ := hv.tup'
 obtain ⟨vs1, a, b, c⟩ := TM.list hl hh t
 exact ⟨.tup vs1, .tup _ _ a.1 a.2, .tup _ _ b c⟩
theorem TM.fn {f : Nat} {us us1 ws ws1 : List (TV K)} (hl : us1.length = us.length) (hh : ∀ (j : Nat) (u u1 : TV K), us[j]? = some u → us1[j]? = some u1 → TM P C ts ts1 χ ξ ds ρ p u u1)
  (hl' : ws1.length = ws.length) (hh' : ∀ (j : Nat) (u u1 : TV K), ws[j]? = some u -> ws1[j]? = some u1 -> TM P C ts ts1 χ ξ ds ρ p u u1) : TM P C ts ts1 χ ξ ds ρ p (.fn f us ws) (.fn f us1 ws1) := by
 intro v hv
 cases hv with
 | fn _ _ _ a' c' ha hc h h' =>
   obtain ⟨vs1, a, b, c⟩ := TM.list hl hh (show TL P C ts χ us a' from ⟨ha, h⟩)
   obtain ⟨vs2, a2, b2, c2⟩ := TM.list hl' hh' (show TL P C ts χ ws c' from ⟨hc, h'⟩)
   exact ⟨.fn (.func f) vs1 vs2, .fn _ _ _ _ _ a.1 a2.1 a.2 a2.2, .fn _ _ _ _ _ b c b2 c2⟩
theorem TM.cn {id : Nat} {u : TV K} (hrg : ∀ id w, lkR ts.rg id = some w → lkR ts1.rg id = some w) : TM P C ts ts1 χ ξ ds ρ p (.cn id u) (.cn id u) := by
 intro v hv
 cases hv with
 | cn _ _ _ h hn hv => exact ⟨v, .cn id u v (hrg _ _ h) hn (hv.noref hn).1, .no v (hv.noL' hn)⟩
theorem TM.strip {id : Nat} {u u1 : TV K} (h : TM P C ts ts1 χ ξ ds ρ p u u1) : TM P C ts ts1 χ ξ ds ρ p (.cn id u) u1 := by
 intro v hv
 cases hv with
 | cn _ _ _ _ hn hv => exact h v hv
theorem TM.rw {s c s1 n : Nat} (hn : tln (ts.tb s c) = some n) (hn1 : tln (ts1.tb s1 1) = some n) (h0 : χ s c = false → ρ s1 = some (s, c) ∧ ξ s1 = false) (h1 : χ s c = true → ξ s1 = true) : TM P C ts ts1 χ ξ ds ρ p (.rw s c) (.rw s1 1) := by
 intro v hv
 rcases hv.rwi hn with ⟨hx, rfl⟩ | ⟨hx, rfl, rfl⟩
 ·obtain ⟨q1, q2⟩ := h0 hx
  exact ⟨.gs (.l s1 1) n, .rw s1 1 n (.inl rfl) hn1 (by simp [χ1, q2]), .gs s1 n (s, c) q1⟩
 ·exact ⟨.sl true 0 [], .rwn s1 1 (.inl rfl) hn1 (by simp [χ1, h1 hx]), .no _ rfl⟩
theorem TM.nilrw {s1 : Nat} (hn1 : tln (ts1.tb s1 1) = some 0) (h1 : ξ s1 = true) : TM P C ts ts1 χ ξ ds ρ p .nil (.rw s1 1) := by
 intro v hv
 cases hv
 exact ⟨.sl true 0 [], .rwn s1 1 (.inl rfl) hn1 (by simp [χ1, h1]), .no _ rfl⟩
theorem TM.px {s c s1 o : Nat} (h : ρ s1 = some (s, c)) : TM P C ts ts1 χ ξ ds ρ p (.px s c o) (.px s1 1 o) := by
 intro v hv
 rw [hv.pxi]
 exact ⟨.pt (.l s1 1) o, .px _ _ _ (.inl rfl), .pt s1 o (s, c) h⟩
theorem TM.pr {e s c i o s1 : Nat} (h : χ s c = false → ρ s1 = some (s, c) ∧ ξ s1 = false) : TM P C ts ts1 χ ξ ds ρ p (.pr e s c i o) (.pr e s1 1 i o) := by
 intro v hv
 obtain ⟨hx, rfl⟩ := hv.pri
 obtain ⟨q1, q2⟩ := h hx
 exact ⟨.pt (.l s1 1) _, .pr _ _ _ _ _ (.inl rfl) (by simp [χ1, q2]), .pt s1 _ (s, c) q1⟩
theorem TM.fz (hC : CxOk P C) (hγ : GM P C R ts χ ds) {s c e : Nat} {l : List (K e)} (hl : trow C e (ts.tb s c) = some l) (hp : χ s c = false → p (s, c)) : TM P C ts ts1 χ ξ ds ρ p (.rw s c) (.sl e l) := by
 intro v hv
 obtain ⟨g1, g2, g3⟩ := hγ.trow hC hl
 rcases hv.rwi g1 with ⟨hx, rfl⟩ | ⟨hx, h0, rfl⟩
 ·obtain ⟨kb, k1, k2, k3, k4⟩ := g3 hx
  refine ⟨.sl false l.length kb.cells, .sl e l _ _ _ rfl k4, ?_⟩
  exact .pub (s, c) l.length kb.blk (hp hx) (by show (ds.kb s c).map KB.blk = _; rw [k1]; rfl) (by show kb.cells.length = l.length * kb.sz; rw [k3, <- yba kb.cells, k4, ye1]) (by show kb.sz ≠ 0; rw [k3]; exact Nat.pos_iff_ne_zero.1 (C.E e).pos) (ycB k4)
 ·have := g2 hx; subst this
  exact ⟨.sl true 0 [], .sl e [] _ _ _ rfl rfl, .no _ rfl⟩
theorem TM.sem {u u1 : TV K} (h : ∀ v, TR P C ts χ u v -> TR P C ts1 (χ1 ξ) u1 v /\ v.noL = true) : TM P C ts ts1 χ ξ ds ρ p u u1 := fun v hv => ⟨v, (h v hv).1, .no v (h v hv).2⟩
variable (P C ts ts1 χ ξ ds ρ p) in
def BM (b b1 : TB K) : Prop := ∀ kb, MR P C ts χ b kb -> ∃ cells1, MR P C ts1 (χ1 ξ) b1 ⟨kb.e, kb.sz, cells1, false⟩ /\ RVL ρ (toD ds) p cells1 kb.cells
theorem BM.row {e : Nat} {l : List (K e)} : BM P C ts ts1 χ ξ ds ρ p (.row e l) (.row e l) := fun kb h => ⟨kb.cells, h, RVL.no (ycB h.2.2)⟩
theorem BM.box {e : Nat} {cs cs1 : List (TV K)} (hl : cs1.length = cs.length) (hh : ∀ (j : Nat) (u u1 : TV K), cs[j]? = some u → cs1[j]? = some u1 → TM P C ts ts1 χ ξ ds ρ p u u1) : BM P C ts ts1 χ ξ ds ρ p (.box e cs) (.box e cs1) := by
 intro kb h
 obtain ⟨vs1, a, b, c⟩ := TM.list hl hh (show TL P C ts χ cs kb.cells from ⟨h.2.2.1, h.2.2.2⟩)
 exact ⟨vs1, ⟨h.1, by rw [hl]; exact h.2.1, a.1, a.2⟩, b, c⟩
theorem BM.lrow {e n : Nat} {cs cs1 : List (TV K)} (hl : cs1.length = cs.length) (hh : ∀ (j : Nat) (u u1 : TV K), cs[j]? = some u → cs1[j]? = some u1 → TM P C ts ts1 χ ξ ds ρ p u u1) : BM P C ts ts1 χ ξ ds ρ p (.lrow e n cs) (.lrow e n cs1) := by
 intro kb h
 obtain ⟨vs1, a, b, c⟩ := TM.list hl hh (show TL P C ts χ cs kb.cells from ⟨h.2.2.1, h.2.2.2.2⟩)
 exact ⟨vs1, ⟨h.1, h.2.1, a.1, by rw [hl]; exact h.2.2.2.1, a.2⟩, b, c⟩
theorem BM.lr {e n : Nat} {cs : List (TV K)} {l : List (K e)} (hC : CxOk P C) (hc : yoD (C.T e).rd (C.E e).sz n cs = some l) : BM P C ts ts1 χ ξ ds ρ p (.lrow e n cs) (.row e l) := by
 intro kb h
 obtain ⟨a1, a2⟩ := yjY hC n cs kb.cells l hc ⟨h.2.2.1, h.2.2.2.2⟩ h.2.2.2.1
 exact ⟨kb.cells, ⟨h.1, h.2.1, a1⟩, RVL.no (ycB a1)⟩
theorem yln (g : Nat → AV) : ∀ (l : List (Nat × TV K)) (t : Nat), (lkF (l.map fun p => (p.1, g p.1)) t = g t) ∨ (lkF (l.map fun p => (p.1, g p.1)) t = .un ∧ lkT l t = .un)
 | [], t => .inr ⟨rfl, rfl⟩
 | p :: r, t => by
   rw [List.map_cons, ycX, show p :: r = (p.1, p.2) :: r from rfl, yfe]
   simp only
   by_cases e : p.1 = t
   ·subst e; simp
   ·rw [if_neg e, if_neg e]; exact yln g r t
theorem yj5 (q : Nat → Bool) (g : Nat → KB) : ∀ (l : List (Nat × Option (TB K))) (s : Nat), lkM ((l.filter fun p => q p.1).map fun p => (p.1, g p.1)) s = if memB l s = true ∧ q s = true then some (g s) else none
 | [], s => by simp [lkM, memB]
 | p :: r, s => by
   have hm : memB (p :: r) s = (Nat.beq p.1 s || memB r s) := rfl
   rw [hm]
   by_cases e : p.1 = s
   ·subst e
    rw [nbeq.2 rfl]
    cases hq : q p.1 with
    | true =>
      rw [List.filter_cons, if_pos hq, List.map_cons, yfV]; simp
    | false =>
      rw [List.filter_cons, if_neg (by rw [hq]; simp), yj5 q g r p.1]; simp [hq]
   ·have hb : Nat.beq p.1 s = false := by
     cases h : Nat.beq p.1 s with
     | false => rfl
     | true => exact absurd (nbeq.1 h) e
    rw [hb, Bool.false_or]
    cases hq : q p.1 with
    | true => rw [List.filter_cons, if_pos hq, List.map_cons, yfV]; simp only [e, if_false]; exact yj5 q g r s
    | false => rw [List.filter_cons, if_neg (by rw [hq]; simp)]; exact yj5 q g r s
theorem yrQ (hB : ycW B) (hγ : GM P C R ts χ ds) (hk : DOk ds) (ρ : Nat → Option (Nat × Nat)) (p : Nat × Nat → Prop) (ξ : Nat → Bool) (ts1 : TS K) (hnw : ts1.nw = []) (hhp : ∀ H n, R ts.h H n → R ts1.h H n)
  (hρ : ∀ s k, ρ s = some k -> χ k.1 k.2 = false /\ ∃ b b1, ts.tb k.1 k.2 = some b /\ lkB ts1.od s = some b1 /\ BM P C ts ts1 χ ξ ds ρ p b b1)
  (hm : ∀ s b1, lkB ts1.od s = some b1 -> ξ s = false -> ∃ k, ρ s = some k) (hv : ∀ s, ξ s = true -> ρ s = none /\ ∃ e, lkB ts1.od s = some (.row e []))
  (hfix : ∀ s k, 2000000 <= s -> ρ s = some k -> k = (s, 1)) (inj : ∀ s s' k, ρ s = some k -> ρ s' = some k -> s = s') (hp : ∀ k, p k -> χ k.1 k.2 = false /\ ∃ e l, trow C e (ts.tb k.1 k.2) = some l /\ ∀ s, ρ s ≠ some k) (hC : CxOk P C)
  (fr : ∀ t, TM P C ts ts1 χ ξ ds ρ p (lkT ts.fr t) (lkT ts1.fr t)) {X : KS -> Prop} (h : ∀ ks, KOk ks -> GM P C R ts1 (χ1 ξ) (ofK ks) -> X ks) : RE B N (toD ds) X := by
 have hg : ∀ t, ∃ v1, TR P C ts1 (χ1 ξ) (lkT ts1.fr t) v1 /\ RV ρ (toD ds) p v1 (lkF ds.fr t) := fun t => fr t _ (hγ.fr t)
 let g : Nat -> AV := fun t => Classical.choose (hg t)
 have hg' : ∀ t, TR P C ts1 (χ1 ξ) (lkT ts1.fr t) (g t) /\ RV ρ (toD ds) p (g t) (lkF ds.fr t) := fun t => Classical.choose_spec (hg t)
 have hgm : ∀ s, ∃ kb1 : KB, ∀ k, ρ s = some k → ∃ kb b1, ds.kb k.1 k.2 = some kb ∧ lkB ts1.od s = some b1 ∧ kb1.e = kb.e ∧ kb1.sz = kb.sz ∧ kb1.q = false ∧ MR P C ts1 (χ1 ξ) b1 kb1 ∧ RVL ρ (toD ds) p kb1.cells kb.cells := by
  intro s
  cases hs : ρ s with
  | none => exact ⟨⟨0, 0, [], false⟩, fun k hk => by cases hk⟩
  | some k =>
    obtain ⟨h0, b, b1, h1, h2, h3⟩ := hρ s k hs
    obtain ⟨kb, k1, k2⟩ := hγ.mb k.1 k.2 b h1 h0
    obtain ⟨cells1, c1, c2⟩ := h3 kb k2
    exact ⟨⟨kb.e, kb.sz, cells1, false⟩, fun k' hk' => by cases hk'; exact ⟨kb, b1, k1, h2, rfl, rfl, rfl, c1, c2⟩⟩
 let gm : Nat -> KB := fun s => Classical.choose (hgm s)
 have hgm' : ∀ s k, ρ s = some k -> ∃ kb b1, ds.kb k.1 k.2 = some kb /\ lkB ts1.od s = some b1 /\ (gm s).e = kb.e /\ (gm s).sz = kb.sz /\ (gm s).q = false /\ MR P C ts1 (χ1 ξ) b1 (gm s) /\ RVL ρ (toD ds) p (gm s).cells kb.cells := fun s => Classical.choose_spec (hgm s)
 let ks1 : KS := ⟨ts1.fr.map fun p => (p.1, g p.1), (ts1.od.filter fun p => (ρ p.1).isSome).map fun p => (p.1, gm p.1), ds.H, ds.nx⟩
 have hmem : ∀ s, lkM ks1.mem s = if (ρ s).isSome = true then some (gm s) else none := by
  intro s
  show lkM ((ts1.od.filter fun p => (ρ p.1).isSome).map fun p => (p.1, gm p.1)) s = _
  rw [yj5 (fun s => (ρ s).isSome) gm ts1.od s]
  by_cases hs : (ρ s).isSome = true
  ·obtain ⟨k, hk'⟩ := Option.isSome_iff_exists.1 hs
   obtain ⟨_, b, b1, _, h2, _⟩ := hρ s k hk'
   rw [if_pos ⟨yke h2, hs⟩, if_pos hs]
  ·rw [if_neg (fun q => hs q.2), if_neg hs]
 have hok : KOk ks1 := by
  intro s b hb
  rw [hmem] at hb
  split at hb
  ·rename_i hs
   cases hb
   obtain ⟨k, hk'⟩ := Option.isSome_iff_exists.1 hs
   obtain ⟨kb, b1, h1, h2, h3, h4, h5, _⟩ := hgm' s k hk'
   exact ⟨by rw [h4]; exact (hk k.1 k.2 kb h1).1, fun q => by rw [h5] at q; cases q⟩
  ·cases hb
 refine RE.of (ks1 := ks1) hB (ρ := ρ) (p := p) { dom := ?_, at' := ?_, inj := inj, disj := ?_, pub := ?_, fr := ?_, H := fun _ => rfl, nx := rfl, fix := fun d k hd h => hfix d k hd h } hok (h ks1 hok ⟨?_, ?_, ?_, ?_, hhp _ _ hγ.hp⟩)
 ·intro d b1 hb
  rw [hmem] at hb
  split at hb
  ·rename_i hs; exact Option.isSome_iff_exists.1 hs
  ·cases hb
 ·intro d k hd
  obtain ⟨kb, b1, h1, h2, h3, h4, h5, h6, h7⟩ := hgm' d k hd
  refine ⟨kb.blk, gm d, by show (ds.kb k.1 k.2).map KB.blk = _; rw [h1]; rfl, (hk k.1 k.2 kb h1).1, by rw [hmem, hd]; rfl, h3, h4, h7⟩
 ·intro k d hp' hd; obtain ⟨_, e, l, _, h3⟩ := hp k hp'; exact h3 d hd
 ·intro k hp'
  obtain ⟨h0, e, l, h1, _⟩ := hp k hp'
  obtain ⟨kb, k1, k2, k3, k4⟩ := (hγ.trow hC h1).2.2 h0
  exact ⟨kb.blk, by show (ds.kb k.1 k.2).map KB.blk = _; rw [k1]; rfl, (hk k.1 k.2 kb k1).1⟩
 ·intro t
  show RV ρ (toD ds) p (lkF (ts1.fr.map fun p => (p.1, g p.1)) t) (lkF ds.fr t)
  rcases yln g ts1.fr t with e | ⟨e, _⟩
  ·rw [e]; exact (hg' t).2
  ·rw [e]; exact .un _
 ·intro t
  show TR P C ts1 (χ1 ξ) (lkT ts1.fr t) (lkF (ts1.fr.map fun p => (p.1, g p.1)) t)
  rcases yln g ts1.fr t with e | ⟨e, e2⟩
  ·rw [e]; exact (hg' t).1
  ·rw [e, e2]; exact .un _
 ·intro s c b hb hx
  rcases tb_c hb with rfl | rfl
  ·have hx' : ξ s = false := by simpa [χ1] using hx
   obtain ⟨k, hk'⟩ := hm s b hb hx'
   obtain ⟨kb, b1, h1, h2, h3, h4, h5, h6, h7⟩ := hgm' s k hk'
   have : b1 = b := by
    have hb' : lkB ts1.od s = some b := hb
    rw [h2] at hb'; exact Option.some.inj hb'
   subst this
   refine ⟨gm s, ?_, h6⟩
   show lkO (ynF ks1.mem) s = _
   rw [yj4, hmem, hk']; rfl
  ·have hb' : lkB ts1.nw s = some b := hb
   rw [hnw] at hb'; cases hb'
 ·intro s c hx
  simp only [χ1, Bool.and_eq_true, decide_eq_true_eq] at hx
  obtain ⟨rfl, hx⟩ := hx
  exact (hv s hx).2
 ·intro s _; rfl
end
end Go.AV
end
noncomputable section
namespace Go.AV
open Go.RowKit Go.RG Go.Lib
variable {K : Nat -> Type}
section
variable {P : Program} {C : Cx K} {R : List (HO K) -> Hp -> Nat -> Prop} {ts ts1 : TS K} {χ : Nat -> Nat -> Bool} {ξ : Nat -> Bool} {ds : DS} {B : Base} {N : Nat} {ρ : Nat -> Option (Nat × Nat)} {p : Nat × Nat -> Prop}
theorem yhw (A : Nat → Nat → Option (TV K)) (D : Nat → Nat → Option Nat) (l : List (TV K)) : (rnVs A D l).length = l.length := by
 induction l with
 | nil => rfl
 | cons x l ih => simp [rnVs, ih]
variable (P C R ts ts1 χ ξ ds ρ p) in
structure RnOk (A : Nat → Nat → Option (TV K)) (D : Nat → Nat → Option Nat) : Prop where
 cx : CxOk P C
 γ : GM P C R ts χ ds
 A : ∀ s c w, A s c = some w → (∃ s1 n, w = .rw s1 1 ∧ tln (ts.tb s c) = some n ∧ tln (ts1.tb s1 1) = some n ∧ (χ s c = false → ρ s1 = some (s, c) ∧ ξ s1 = false) ∧ (χ s c = true → ξ s1 = true)) ∨
  (∃ e l, w = .sl e l /\ trow C e (ts.tb s c) = some l /\ (χ s c = false -> p (s, c)))
 D : ∀ s c s1, D s c = some s1 -> ρ s1 = some (s, c)
 rg : ∀ id w, lkR ts.rg id = some w -> lkR ts1.rg id = some w
mutual
theorem ymX {A : Nat → Nat → Option (TV K)} {D : Nat → Nat → Option Nat} (h : RnOk P C R ts ts1 χ ξ ds ρ p A D) : ∀ u, TM P C ts ts1 χ ξ ds ρ p u (rnV A D u)
 | .un => TM.un _
 | .lb b => TM.noref rfl
 | .bl b => TM.noref rfl
 | .li k n => TM.noref rfl
 | .it k n => TM.noref rfl
 | .st s => TM.noref rfl
 | .agg cs => TM.agg (yhw A D cs) (yh3 h cs)
 | .tup cs => TM.tup (yhw A D cs) (yh3 h cs)
 | .nil => TM.noref rfl
 | .em => TM.noref rfl
 | .sl e l => TM.noref rfl
 | .rw s c => by
   simp only [rnV]
   split
   ·rename_i w e
    rcases h.A s c w e with ⟨s1, n, rfl, h1, h2, h3, h4⟩ | ⟨e0, l, rfl, h1, h2⟩
    ·exact TM.rw h1 h2 h3 h4
    ·exact TM.fz h.cx h.γ h1 h2
   ·exact TM.un _
 | .px s c o => by
   simp only [rnV]
   split
   ·rename_i s1 e; exact TM.px (h.D s c s1 e)
   ·exact TM.un _
 | .pr e0 s c i o => by
   simp only [rnV]
   split
   ·rename_i s1 c1 e
    rcases h.A s c _ e with ⟨s2, n, e1, h1, h2, h3, h4⟩ | ⟨e0, l, e1, _⟩
    ·cases e1; exact TM.pr h3
    ·cases e1
   ·exact TM.un _
 | .ep e l i o => TM.noref rfl
 | .gs l i => TM.noref rfl
 | .nptr => TM.noref rfl
 | .fn f a c => TM.fn (yhw A D a) (yh3 h a) (yhw A D c) (yh3 h c)
 | .fv ps rs F => TM.noref rfl
 | .cn id v => TM.cn h.rg
theorem yh3 {A : Nat → Nat → Option (TV K)} {D : Nat → Nat → Option Nat} (h : RnOk P C R ts ts1 χ ξ ds ρ p A D) : ∀ (us : List (TV K)) (j : Nat) (u u1 : TV K), us[j]? = some u → (rnVs A D us)[j]? = some u1 → TM P C ts ts1 χ ξ ds ρ p u u1
 | [], j, u, u1, h1, _ => by simp at h1
 | x :: us, j, u, u1, h1, h2 => by
   cases j with
   | zero => simp [rnVs] at h1 h2; subst h1; subst h2; exact ymX h x
   | succ j => exact yh3 h us j u u1 (by simpa using h1) (by simpa [rnVs] using h2)
end
theorem BM.map {A : Nat → Nat → Option (TV K)} {D : Nat → Nat → Option Nat} (h : RnOk P C R ts ts1 χ ξ ds ρ p A D) {b b1 : TB K} (hb : mapB (rnV A D) (some b) = some b1) : BM P C ts ts1 χ ξ ds ρ p b b1 := by
 have hc : ∀ (cs : List (TV K)) (j : Nat) (u u1 : TV K), cs[j]? = some u → (cs.map (rnV A D))[j]? = some u1 → TM P C ts ts1 χ ξ ds ρ p u u1 := by
  intro cs j u u1 h1 h2
  rw [List.getElem?_map, h1] at h2
  cases h2; exact ymX h u
 cases b with
 | box e cs => cases hb; exact BM.box (by simp) (hc cs)
 | row e l => cases hb; exact BM.row
 | lrow e n cs => cases hb; exact BM.lrow (by simp) (hc cs)
theorem yoZ (a b : List (Nat × Option (TB K))) (s : Nat) : lkB (a ++ b) s = if memB a s = true then lkB a s else lkB b s := by
 induction a with
 | nil => rfl
 | cons p a ih =>
   have hm : memB (p :: a) s = (Nat.beq p.1 s || memB a s) := rfl
   rw [List.cons_append, ybx, ybx, ih, hm]
   by_cases e : p.1 = s
   ·rw [if_pos e, if_pos e, nbeq.2 e]; rfl
   ·rw [if_neg e, if_neg e]
    have : Nat.beq p.1 s = false := by
     cases h : Nat.beq p.1 s with
     | false => rfl
     | true => exact absurd (nbeq.1 h) e
    rw [this, Bool.false_or]
def REt (P : Program) (C : Cx K) (R : List (HO K) -> Hp -> Nat -> Prop) (B : Base) (N : Nat) (ts ts1 : TS K) : Prop := ∀ χ ds, DOk ds -> GM P C R ts χ ds -> RE B N (toD ds) (fun ks => KOk ks /\ ∃ ξ, GM P C R ts1 ξ (ofK ks))
theorem ynx {nw : List (Nat × Option (TB K))} {s : Nat} (h : memB (nwL nw) s = true) : s < 2000000 := by
 induction nw with
 | nil => cases h
 | cons p r ih =>
   simp only [nwL] at h
   split at h
   ·exact ih h
   ·rename_i hp
    simp only [memB, Bool.or_eq_true] at h
    rcases h with h | h
    ·have := nbeq.1 h; subst this
     exact Nat.lt_of_not_le fun q => by rw [Nat.ble_eq_true_of_le q] at hp; cases hp
    ·exact ih h
theorem ys7 {nw : List (Nat × Option (TB K))} {s : Nat} (h : s < 2000000) : lkB (nwL nw) s = lkB nw s := by
 induction nw with
 | nil => rfl
 | cons p r ih =>
   simp only [nwL]
   split
   ·rename_i hp
    have := Nat.le_of_ble_eq_true hp
    rw [ih, ybx, if_neg (by omega)]
   ·rw [ybx, ybx, ih]
theorem ytn (hB : ycW B) (hC : CxOk P C) : REt P C R B N ts (er ts) := by
 intro χ ds hk hγ
 let cc : Nat -> Nat := fun s => if memB (nwL ts.nw) s = true then 2 else 1
 let ρ : Nat → Option (Nat × Nat) := fun s => match ts.tb s (cc s) with
  | some _ => if χ s (cc s) = true then none else some (s, cc s)
  | none => none
 let ξ : Nat -> Bool := fun s => χ s (cc s)
 have hlk : ∀ s, lkB (nwL ts.nw ++ ts.od) s = ts.tb s (cc s) := by
  intro s
  rw [yoZ]
  by_cases h : memB (nwL ts.nw) s = true
  ·rw [if_pos h]; show _ = ts.tb s (if memB (nwL ts.nw) s = true then 2 else 1); rw [if_pos h]; exact ys7 (ynx h)
  ·rw [if_neg h]; show _ = ts.tb s (if memB (nwL ts.nw) s = true then 2 else 1); rw [if_neg h]; rfl
 have hod : ∀ s, lkB (er ts).od s = mapB (rnV (erA ts) (erB ts)) (ts.tb s (cc s)) := by
  intro s; show lkB (mapM _ (nwL ts.nw ++ ts.od)) s = _; rw [mapM_at, hlk]
 have hρi : ∀ s k, ρ s = some k → k = (s, cc s) ∧ χ s (cc s) = false ∧ ∃ b, ts.tb s (cc s) = some b := by
  intro s k h
  have h' : (match ts.tb s (cc s) with | some _ => if χ s (cc s) = true then none else some (s, cc s) | none => none) = some k := h
  split at h'
  ·rename_i b hb
   split at h'
   ·cases h'
   ·rename_i hx
    cases h'
    exact ⟨rfl, by simpa using hx, b, hb⟩
  ·cases h'
 have hρs : ∀ s b, ts.tb s (cc s) = some b → χ s (cc s) = false → ρ s = some (s, cc s) := by
  intro s b hb hx
  show (match ts.tb s (cc s) with | some _ => if χ s (cc s) = true then none else some (s, cc s) | none => none) = _
  rw [hb]; simp [hx]
 have hN : ∀ s c s1, erN (nwL ts.nw) s c = some s1 → s1 = s ∧ c = cc s := by
  intro s c s1 h
  unfold erN at h
  show s1 = s /\ c = if memB (nwL ts.nw) s = true then 2 else 1
  split at h
  ·rename_i hm
   rw [if_pos hm]
   split at h
   ·rename_i e; cases h; exact ⟨rfl, nbeq.1 e⟩
   ·cases h
  ·rename_i hm
   rw [if_neg (by rw [hm]; simp)]
   split at h
   ·rename_i e; cases h; exact ⟨rfl, nbeq.1 e⟩
   ·cases h
 have hRn : RnOk P C R ts (er ts) χ ξ ds ρ (fun _ => False) (erA ts) (erB ts) := by
  refine ⟨hC, hγ, ?_, ?_, fun _ _ h => h⟩
  ·intro s c w h
   unfold erA at h
   split at h
   ·rename_i n hn
    split at h
    ·rename_i s1 h1
     cases h
     obtain ⟨rfl, rfl⟩ := hN s c s1 h1
     refine .inl ⟨s1, n, rfl, hn, ?_, fun hx => ⟨?_, hx⟩, fun hx => hx⟩
     ·show tln (lkB (er ts).od s1) = _
      rw [hod, ylO]; exact hn
     ·cases hq : ts.tb s1 (cc s1) with
      | none => rw [hq] at hn; cases hn
      | some b => exact hρs s1 b hq hx
    ·cases h
   ·cases h
  ·intro s c s1 h
   unfold erB at h
   split at h
   ·rename_i e cs hb
    obtain ⟨rfl, rfl⟩ := hN s c s1 h
    exact hρs s1 _ hb (hγ.box hb)
   ·cases h
 refine yrQ hB hγ hk ρ (fun _ => False) ξ (er ts) rfl (fun _ _ h => h) ?_ ?_ ?_ ?_ ?_ (fun k h => h.elim) hC ?_ (fun ks h1 h2 => ⟨h1, _, h2⟩)
 ·intro s k h
  obtain ⟨rfl, h1, b, hb⟩ := hρi s k h
  refine ⟨h1, b, ?_⟩
  cases hm : mapB (rnV (erA ts) (erB ts)) (some b) with
  | none => cases b <;> cases hm
  | some b1 => exact ⟨b1, hb, by rw [hod, hb]; exact hm, BM.map hRn hm⟩
 ·intro s b1 h hx
  rw [hod] at h
  cases hq : ts.tb s (cc s) with
  | none => rw [hq] at h; cases h
  | some b => exact ⟨_, hρs s b hq hx⟩
 ·intro s hx
  obtain ⟨e, h1⟩ := hγ.vi s (cc s) hx
  refine ⟨?_, e, by rw [hod, h1]; rfl⟩
  show (match ts.tb s (cc s) with | some _ => if χ s (cc s) = true then none else some (s, cc s) | none => none) = none
  rw [h1]
  exact if_pos hx
 ·intro s k hs h
  have e1 := (hρi s k h).1
  have hm : ¬ memB (nwL ts.nw) s = true := fun hm => by have := ynx hm; omega
  rw [e1]; show (s, if memB (nwL ts.nw) s = true then 2 else 1) = _; rw [if_neg hm]
 ·intro s s' k h h'
  have e1 := (hρi s k h).1
  have e2 := (hρi s' k h').1
  rw [e1] at e2
  exact (Prod.mk.inj e2).1
 ·intro t
  show TM _ _ _ _ _ _ _ _ _ (lkT ts.fr t) (lkT (mapF (rnV (erA ts) (erB ts)) ts.fr) t)
  rw [yjo _ rfl]
  exact ymX hRn _
theorem RE.bind {S : St} {X Y : KS → Prop} (h : RE B N S X) (k : ∀ ks, KOk ks → X ks → RE B N (toS ks) Y) : RE B N S Y := by
 intro a G hR
 obtain ⟨ks1, G1, h1, h2, h3⟩ := h a G hR
 obtain ⟨ks2, G2, k1, k2, k3⟩ := k ks1 h2.2 h3 a G1 h2.1
 exact ⟨ks2, G2, by rw [k1, h1], k2, k3⟩
theorem REt.trans {ts2 : TS K} (h : REt P C R B N ts ts1) (k : REt P C R B N ts1 ts2) : REt P C R B N ts ts2 := by
 intro χ ds hk hγ
 refine RE.bind (h χ ds hk hγ) fun ks hko ⟨_, ξ, hg⟩ => ?_
 rw [<- yfE]
 exact k ξ (ofK ks) (yfa hko) hg
def REk (P : Program) (C : Cx K) (R : List (HO K) -> Hp -> Nat -> Prop) (B : Base) (N : Nat) (ts ts1 : TS K) : Prop := ∀ χ ks, KOk ks -> GM P C R ts χ (ofK ks) -> RE B N (toS ks) (fun ks => KOk ks /\ ∃ ξ, GM P C R ts1 ξ (ofK ks))
theorem REt.k (h : REt P C R B N ts ts1) : REk P C R B N ts ts1 := by
 intro χ ks hk hγ
 have := h χ (ofK ks) (yfa hk) hγ
 rw [yfE] at this
 exact this
theorem REk.refl : REk P C R B N ts ts := fun χ ks hk hγ => RE.id hk ⟨hk, χ, hγ⟩
theorem REk.trans {ts2 : TS K} (h : REk P C R B N ts ts1) (k : REk P C R B N ts1 ts2) : REk P C R B N ts ts2 := fun χ ks hk hγ => RE.bind (h χ ks hk hγ) fun ks' hko ⟨_, ξ, hg⟩ => k ξ ks' hko hg
theorem REt.thenk {ts2 : TS K} (h : REt P C R B N ts ts1) (k : REk P C R B N ts1 ts2) : REt P C R B N ts ts2 := fun χ ds hk hγ => RE.bind (h χ ds hk hγ) fun ks' hko ⟨_, ξ, hg⟩ => k ξ ks' hko hg
theorem yq7 (hB : ycW B) (hC : CxOk P C) (s0 : Nat) : REk P C R B N ts (fz C ts s0) := by
 intro χ ks hk hγ
 unfold fz
 split
 rotate_left
 ·exact RE.id hk ⟨hk, χ, hγ⟩
 ·rename_i l hnw hl
  rw [<- yfE]
  generalize he0 : tbe (ts.tb s0 1) = e0 at l hl
  let A := fzS ts s0 (.sl e0 l)
  let D := fzB ts
  let tsF : TS K := ⟨mapF (rnV A D) ts.fr, (s0, none) :: mapM (rnV A D) ts.od, [], ts.rg, ts.h⟩
  let ρ : Nat → Option (Nat × Nat) := fun s => if s = s0 then none else match ts.tb s 1 with
   | some _ => if χ s 1 = true then none else some (s, 1)
   | none => none
  let ξ : Nat -> Bool := fun s => if s = s0 then false else χ s 1
  let p : Nat × Nat -> Prop := fun k => k = (s0, 1) /\ χ s0 1 = false
  have hod : ∀ s, s ≠ s0 → lkB tsF.od s = mapB (rnV A D) (ts.tb s 1) := by
   intro s hs
   show lkB ((s0, none) :: mapM (rnV A D) ts.od) s = _
   rw [ybx, if_neg (fun e => hs e.symm), mapM_at]; rfl
  have hod0 : lkB tsF.od s0 = none := by show lkB ((s0, none) :: mapM (rnV A D) ts.od) s0 = _; rw [ybx, if_pos rfl]
  have hρi : ∀ s k, ρ s = some k → s ≠ s0 ∧ k = (s, 1) ∧ χ s 1 = false ∧ ∃ b, ts.tb s 1 = some b := by
   intro s k h
   have h' : (if s = s0 then none else match ts.tb s 1 with | some _ => if χ s 1 = true then none else some (s, 1) | none => none) = some k := h
   split at h'
   ·cases h'
   ·rename_i hs
    split at h'
    ·rename_i b hb
     split at h'
     ·cases h'
     ·rename_i hx; cases h'; exact ⟨hs, rfl, by simpa using hx, b, hb⟩
    ·cases h'
  have hρs : ∀ s b, s ≠ s0 → ts.tb s 1 = some b → χ s 1 = false → ρ s = some (s, 1) := by
   intro s b hs hb hx
   show (if s = s0 then none else match ts.tb s 1 with | some _ => if χ s 1 = true then none else some (s, 1) | none => none) = _
   rw [if_neg hs, hb]; simp [hx]
  have hRn : RnOk P C R ts tsF χ ξ (ofK ks) ρ p A D := by
   refine ⟨hC, hγ, ?_, ?_, fun _ _ h => h⟩
   ·intro s c w h
    have h' : fzS ts s0 (.sl e0 l) s c = some w := h
    unfold fzS at h'
    split at h'
    ·rename_i hc
     have := nbeq.1 hc; subst this
     split at h'
     ·rename_i hs
      have := nbeq.1 hs; subst this
      cases h'
      exact .inr ⟨e0, l, rfl, hl, fun hx => ⟨rfl, hx⟩⟩
     ·rename_i hs
      have hs' : s ≠ s0 := fun e => by rw [nbeq.2 e] at hs; cases hs
      split at h'
      ·rename_i n hn
       cases h'
       refine .inl ⟨s, n, rfl, hn, ?_, fun hx => ⟨?_, ?_⟩, fun hx => ?_⟩
       ·show tln (lkB tsF.od s) = _
        rw [hod s hs', ylO]; exact hn
       ·cases hq : ts.tb s 1 with
        | none => rw [hq] at hn; cases hn
        | some b => exact hρs s b hs' hq hx
       ·show (if s = s0 then false else χ s 1) = false; rw [if_neg hs']; exact hx
       ·show (if s = s0 then false else χ s 1) = true; rw [if_neg hs']; exact hx
      ·cases h'
    ·cases h'
   ·intro s c s1 h
    have h' : fzB ts s c = some s1 := h
    unfold fzB at h'
    split at h'
    ·rename_i e cs hc hb
     cases h'
     have := nbeq.1 hc; subst this
     refine hρs _ _ ?_ hb (hγ.box hb)
     rintro rfl
     rw [hb] at hl; cases hl
    ·cases h'
  refine yrQ hB hγ (yfa hk) ρ p ξ tsF rfl (fun _ _ h => h) ?_ ?_ ?_ (fun s k _ h => (hρi s k h).2.1) ?_ ?_ hC ?_ (fun ks h1 h2 => ⟨h1, _, h2⟩)
  ·intro s k h
   obtain ⟨hs, rfl, h1, b, hb⟩ := hρi s k h
   refine ⟨h1, b, ?_⟩
   cases hm : mapB (rnV A D) (some b) with
   | none => cases b <;> cases hm
   | some b1 => exact ⟨b1, hb, by rw [hod s hs, hb]; exact hm, BM.map hRn hm⟩
  ·intro s b1 h hx
   have hs : s ≠ s0 := by rintro rfl; rw [hod0] at h; cases h
   rw [hod s hs] at h
   have hx' : χ s 1 = false := by
    have : (if s = s0 then false else χ s 1) = false := hx
    rw [if_neg hs] at this; exact this
   cases hq : ts.tb s 1 with
   | none => rw [hq] at h; cases h
   | some b => exact ⟨_, hρs s b hs hq hx'⟩
  ·intro s hx
   have hx' : (if s = s0 then false else χ s 1) = true := hx
   split at hx'
   ·cases hx'
   ·rename_i hs
    obtain ⟨e, h1⟩ := hγ.vi s 1 hx'
    refine ⟨?_, e, by rw [hod s hs, h1]; rfl⟩
    show (if s = s0 then none else match ts.tb s 1 with | some _ => if χ s 1 = true then none else some (s, 1) | none => none) = none
    rw [if_neg hs, h1]
    exact if_pos hx'
  ·intro s s' k h h'
   have e1 := (hρi s k h).2.1
   have e2 := (hρi s' k h').2.1
   rw [e1] at e2
   exact (Prod.mk.inj e2).1
  ·rintro k ⟨rfl, hx⟩
   refine ⟨hx, e0, l, hl, fun s h => ?_⟩
   obtain ⟨hs, e1, _⟩ := hρi s _ h
   exact hs (Prod.mk.inj e1).1.symm
  ·intro t
   show TM _ _ _ _ _ _ _ _ _ (lkT ts.fr t) (lkT (mapF (rnV A D) ts.fr) t)
   rw [yjo _ rfl]
   exact ymX hRn _
theorem ymy (hB : ycW B) (hC : CxOk P C) : ∀ (n : Nat) (vs : List (TV K)) (ts : TS K), REk P C R B N ts (fzA C n vs ts)
 | 0, _, _ => .refl
 | n + 1, vs, ts => by
   simp only [fzA]
   split
   ·exact .refl
   ·split
    ·exact (ymy hB hC n _ ts).trans (yq7 hB hC _)
    ·exact yq7 hB hC _
theorem yoW (hB : ycW B) (hC : CxOk P C) (fr : List (Nat × TV K)) : ∀ (l : List (Nat × Kd)) (ts : TS K), REk P C R B N ts (fzT C fr l ts)
 | [], _ => .refl
 | (t, k) :: r, ts => by
   cases k with
   | sl e =>
     simp only [fzT]
     refine REk.trans ?_ (yoW hB hC fr r _)
     split
     ·exact yq7 hB hC _
     ·exact .refl
   | _ => simp only [fzT]; exact yoW hB hC fr r ts
end
end Go.AV
end
noncomputable section
namespace Go.AV
open Go.RowKit Go.RG Go.Lib
variable {K : Nat -> Type}
theorem ydV {α : Type} (p : Nat × α) (r : List (Nat × α)) (t : Nat) : lkA (p :: r) t = if p.1 = t then some p.2 else lkA r t := by
 show (match Nat.beq p.1 t with | true => some p.2 | false => lkA r t) = _
 cases h : Nat.beq p.1 t with
 | true => simp [nbeq.1 h]
 | false => simp only; rw [if_neg (fun e => by rw [nbeq.2 e] at h; cases h)]
def SubA {α : Type} (m m' : List (Nat × α)) : Prop := ∀ s x, lkA m s = some x -> lkA m' s = some x
theorem ylK {α : Type} {eq : α → α → Bool} (heq : ∀ a b, eq a b = true → a = b) {m m' : List (Nat × α)} {s : Nat} {x : α} (h : addA eq m s x = some m') : SubA m m' ∧ lkA m' s = some x := by
 unfold addA at h
 split at h
 ·rename_i e
  cases h
  refine ⟨fun t y hy => ?_, by rw [ydV]; simp⟩
  rw [ydV]
  split
  ·rename_i e'; simp only at e'; subst e'; rw [e] at hy; cases hy
  ·exact hy
 ·rename_i q e
  split at h
  ·rename_i hq
   cases h
   exact ⟨fun _ _ h => h, by rw [e, heq _ _ hq]⟩
  ·cases h
theorem yhp {p q : Nat × Nat} (h : yhM p q = true) : p = q := by
 unfold yhM at h
 simp only [Bool.and_eq_true] at h
 exact Prod.ext (nbeq.1 h.1) (nbeq.1 h.2)
theorem ymI : ∀ {p q : Option (Nat × Nat)}, ysb p q = true → p = q
 | none, none, _ => rfl
 | some p, some q, h => by rw [yhp (show yhM p q = true from h)]
 | none, some _, h => by cases h
 | some _, none, h => by cases h
structure SubM (m m' : RM) : Prop where
 r : SubA m.r m'.r
 b : SubA m.b m'.b
theorem SubM.refl {m : RM} : SubM m m := ⟨fun _ _ h => h, fun _ _ h => h⟩
theorem SubM.trans {a b c : RM} (h : SubM a b) (k : SubM b c) : SubM a c := ⟨fun s x q => k.r s x (h.r s x q), fun s x q => k.b s x (h.b s x q)⟩
section
variable {P : Program} {C : Cx K} {R : List (HO K) -> Hp -> Nat -> Prop} {ts ts1 : TS K} {χ : Nat -> Nat -> Bool} {ξ : Nat -> Bool} {ds : DS} {B : Base} {N : Nat} {ρ : Nat -> Option (Nat × Nat)} {p : Nat × Nat -> Prop} {rg : List (Nat × TV K)}
theorem ylJ (hC : CxOk P C) {t : Nat} {u : TV K} {x : K t} {v : AV} (h : outV C t u = some x) (hv : TR P C ts χ u v) : dwk v = eV C t x ∧ v.noL = true ∧ ∀ (ts' : TS K) (χ' : Nat → Nat → Bool), TR P C ts' χ' (inV C t x) v := by
 unfold outV at h
 unfold eV inV
 have hs := hv.s
 revert h hs
 generalize hw : u.s = w
 intro h hs
 cases hg : (C.T t).g with
 | true =>
   rw [hg] at h
   cases w with
   | agg cs =>
     simp only at h ⊢
     obtain ⟨vs, rfl, a, b⟩ := hs.agg'
     have tl := (show TL P C ts χ cs vs from ⟨a, b⟩).mapS
     have hd := hC.rd t _ x ts χ vs h tl.1 tl.2
     refine ⟨by simp only [dwk, hd], ?_, fun ts' χ' => ?_⟩
     ·simp only [AV.noL]; rw [<- yct, hd]; exact (C.E t).no x
     ·obtain ⟨c1, c2⟩ := hC.c t x ts' χ'
      refine .agg _ _ (by rw [<- c1, <- hd, yba]) (fun j u' v' h1 h2 => ?_)
      refine TR.undwk (c2 j u' (dwk v') h1 ?_) rfl
      rw [<- hd, ycS, List.getElem?_map, h2]; rfl
   | _ => cases h
 | false =>
   rw [hg] at h
   have hsz := hC.g t hg
   have go : (C.T t).rd [w] = some x → dwk v = ((C.E t).c x).headD .un ∧ v.noL = true ∧ ∀ (ts' : TS K) (χ' : Nat → Nat → Bool), TR P C ts' χ' (match (C.T t).c x with | [v] => v | _ => .un) v := by
    intro h
    have tl : TL P C ts χ [w] [v] := .cons hs .nil
    have hd := hC.rd t [w] x ts χ [v] h tl.1 tl.2
    simp only [dwks] at hd
    refine ⟨by rw [<- hd]; rfl, ?_, fun ts' χ' => ?_⟩
    ·have := (C.E t).no x
     rw [<- hd] at this
     simp only [noLs, Bool.and_true] at this
     rw [<- yd9]; exact this
    ·obtain ⟨c1, c2⟩ := hC.c t x ts' χ'
     rw [<- hd] at c1 c2
     cases hc : (C.T t).c x with
     | nil => rw [hc] at c1; simp at c1
     | cons a r => cases r with
       | cons b r => rw [hc] at c1; simp at c1
       | nil => rw [hc] at c2; exact (c2 0 a (dwk v) rfl rfl).undwk rfl
   cases w with
   | agg cs => cases h
   | _ => exact go h
variable (P C ts ts1 χ ξ ρ) in
structure Good (M : RM) : Prop where
 r : ∀ s k, lkA M.r s = some (some k) -> ∀ n, tln (ts.tb k.1 k.2) = some n -> tln (ts1.tb s 1) = some n /\ (χ k.1 k.2 = false -> ρ s = some k /\ ξ s = false) /\ (χ k.1 k.2 = true -> ξ s = true)
 rn : ∀ s k, lkA M.r s = some (some k) -> ∃ n, tln (ts.tb k.1 k.2) = some n
 n : ∀ s, lkA M.r s = some none -> tln (ts1.tb s 1) = some 0 /\ ξ s = true
 b : ∀ s k, lkA M.b s = some k -> ρ s = some k
 rg : ts1.rg = rg
theorem Good.sub {M m : RM} (h : Good (rg := rg) ts ts1 χ ξ ρ M) (k : SubM m M) : Good (rg := rg) ts ts1 χ ξ ρ m :=
 ⟨fun s q a => h.r s q (k.r _ _ a), fun s q a => h.rn s q (k.r _ _ a), fun s a => h.n s (k.r _ _ a), fun s q a => h.b s q (k.b _ _ a), h.rg⟩
def ExtR (rg rg' : List (Nat × TV K)) : Prop := ∀ id w, lkR rg id = some w -> lkR rg' id = some w
theorem TM.stp {u : TV K} : ∀ {w u1 : TV K}, u.s = w → TM P C ts ts1 χ ξ ds ρ p w u1 → TM P C ts ts1 χ ξ ds ρ p u u1 := by
 intro w u1 e t
 cases u with
 | cn id v => simp only [TV.s] at e; subst e; exact TM.strip t
 | _ => simp only [TV.s] at e; subst e; exact t
theorem ye3 (hC : CxOk P C) (hx : ExtR rg ts.rg) {k : Kd} {u : TV K} {m m' : RM} {a : List (DV K)} (h : rd1 C k u m = some (a, m')) : SubM m m' ∧ ∀ r, ∃ u1, bdV C rg k (a ++ r) = (u1, r) ∧ (Good (rg := rg) ts ts1 χ ξ ρ m' → TM P C ts ts1 χ ξ ds ρ p u u1) := by
 have st := @TM.stp K P C ts ts1 χ ξ ds ρ p u
 cases k with
 | it k =>
   simp only [rd1] at h
   split at h
   ·rename_i k' n e
    split at h
    ·rename_i ek
     subst ek; cases h
     refine ⟨.refl, fun r => ⟨.it k n, rfl, fun _ => ?_⟩⟩
     have e2 : u.s = .it k n ∨ u.s = .li k n := by
      revert e; generalize u.s = w; intro e
      cases w <;> simp [tint] at e
      ·obtain ⟨rfl, rfl⟩ := e; exact .inr rfl
      ·obtain ⟨rfl, rfl⟩ := e; exact .inl rfl
     rcases e2 with e2 | e2
     ·exact st e2 (TM.noref rfl)
     ·exact st e2 (TM.sem fun v hv => by cases hv; exact ⟨.it k n, rfl⟩)
    ·cases h
   ·cases h
 | bl =>
   simp only [rd1] at h
   split at h
   ·rename_i b e
    cases h
    refine ⟨.refl, fun r => ⟨.bl b, rfl, fun _ => ?_⟩⟩
    have e2 : u.s = .bl b ∨ u.s = .lb b := by
     revert e; generalize u.s = w; intro e
     cases w <;> simp [tbo] at e
     ·subst e; exact .inr rfl
     ·subst e; exact .inl rfl
    rcases e2 with e2 | e2
    ·exact st e2 (TM.noref rfl)
    ·exact st e2 (TM.sem fun v hv => by cases hv; exact ⟨.bl b, rfl⟩)
   ·cases h
 | st =>
   simp only [rd1] at h
   split at h
   ·rename_i s e
    cases h
    exact ⟨.refl, fun r => ⟨.st s, rfl, fun _ => st e (TM.noref rfl)⟩⟩
   ·cases h
 | sl e =>
   simp only [rd1] at h
   have bd : ∀ (l : List (K e)) r, bdV C rg (.sl e) (.l e l :: r) = (.sl e l, r) := by
    intro l r; simp [bdV, yhy]
   split at h
   ·rename_i e' l eu
    split at h
    ·rename_i l' hl
     obtain ⟨rfl, rfl⟩ := ydF hl
     cases h
     exact ⟨.refl, fun r => ⟨_, bd _ r, fun _ => st eu (TM.noref rfl)⟩⟩
    ·cases h
   ·rename_i eu
    cases h
    exact ⟨.refl, fun r => ⟨_, bd [] r, fun _ => st eu (TM.sem fun v hv => by cases hv; exact ⟨.sl e [] _ _ _ rfl rfl, rfl⟩)⟩⟩
   ·rename_i eu
    cases h
    exact ⟨.refl, fun r => ⟨_, bd [] r, fun _ => st eu (TM.sem fun v hv => by cases hv; exact ⟨.sl e [] _ _ _ rfl rfl, rfl⟩)⟩⟩
   ·cases h
 | v t =>
   simp only [rd1] at h
   split at h
   ·rename_i x e
    cases h
    refine ⟨.refl, fun r => ⟨inV C t x, by simp [bdV], fun _ => TM.sem fun v hv => ?_⟩⟩
    obtain ⟨_, a2, a3⟩ := ylJ hC e hv
    exact ⟨a3 _ _, a2⟩
   ·cases h
 | agg l => simp only [rd1] at h; cases h
 | row s =>
   simp only [rd1] at h
   split at h
   ·rename_i s' c e
    unfold addR at h
    split at h
    ·rename_i r' hr
     cases h
     obtain ⟨h1, h2⟩ := ylK (fun _ _ => ymI) hr
     refine ⟨⟨h1, fun _ _ q => q⟩, fun r => ⟨.rw s 1, rfl, fun hg => st e ?_⟩⟩
     obtain ⟨n, hn⟩ := hg.rn s (s', c) h2
     obtain ⟨g1, g2, g3⟩ := hg.r s (s', c) h2 n hn
     exact TM.rw hn g1 g2 g3
    ·cases h
   ·rename_i e
    unfold addR at h
    split at h
    ·rename_i r' hr
     cases h
     obtain ⟨h1, h2⟩ := ylK (fun _ _ => ymI) hr
     refine ⟨⟨h1, fun _ _ q => q⟩, fun r => ⟨.rw s 1, rfl, fun hg => st e ?_⟩⟩
     obtain ⟨g1, g2⟩ := hg.n s h2
     exact TM.nilrw g1 g2
    ·cases h
   ·cases h
 | px s off =>
   simp only [rd1] at h
   split at h
   ·rename_i s' c off' e
    split at h
    ·rename_i ho
     have := nbeq.1 ho; subst this
     unfold addB at h
     split at h
     ·rename_i b' hb
      cases h
      obtain ⟨h1, h2⟩ := ylK (fun _ _ => yhp) hb
      exact ⟨⟨fun _ _ q => q, h1⟩, fun r => ⟨.px s 1 off, rfl, fun hg => st e (TM.px (hg.b s (s', c) h2))⟩⟩
     ·cases h
    ·cases h
   ·cases h
 | kp id =>
   simp only [rd1] at h
   split at h
   ·rename_i id' w
    split at h
    ·rename_i hi
     have := nbeq.1 hi; subst this
     cases h
     refine ⟨.refl, fun r => ⟨match lkR rg id with | some v => .cn id v | none => .un, rfl, fun hg => ?_⟩⟩
     cases hr : lkR rg id with
     | none => exact TM.un _
     | some v =>
       intro v0 hv
       cases hv with
       | cn _ _ _ h1 hn hv =>
         have := hx id v hr
         rw [h1] at this; cases this
         exact ⟨v0, .cn id w v0 (by rw [hg.rg]; exact hr) hn (hv.noref hn).1, .no v0 (hv.noL' hn)⟩
    ·cases h
   ·cases h
 | nil =>
   simp only [rd1] at h
   split at h
   ·rename_i e
    cases h
    exact ⟨.refl, fun r => ⟨.nil, rfl, fun _ => st e (TM.noref rfl)⟩⟩
   ·cases h
 | un =>
   simp only [rd1] at h
   cases h
   exact ⟨.refl, fun r => ⟨.un, by cases r <;> rfl, fun _ => TM.un _⟩⟩
mutual
theorem yqk (hC : CxOk P C) (hx : ExtR rg ts.rg) : ∀ (k : Kd) (u : TV K) (m m' : RM) (a : List (DV K)), rdV C k u m = some (a, m') → SubM m m' ∧ ∀ r, ∃ u1, bdV C rg k (a ++ r) = (u1, r) ∧ (Good (rg := rg) ts ts1 χ ξ ρ m' → TM P C ts ts1 χ ξ ds ρ p u u1)
 | .agg l, u, m, m', a, h => by
   simp only [rdV] at h
   split at h
   ·rename_i vs e
    obtain ⟨h1, h2⟩ := ylL hC hx l vs m m' a h
    refine ⟨h1, fun r => ?_⟩
    obtain ⟨us1, e1, e2, e3⟩ := h2 r
    refine ⟨.agg us1, by simp only [bdV, e1], fun hg => ?_⟩
    exact TM.stp e (TM.agg e2 (e3 hg))
   ·cases h
 | .it k, u, m, m', a, h => ye3 hC hx h
 | .bl, u, m, m', a, h => ye3 hC hx h
 | .st, u, m, m', a, h => ye3 hC hx h
 | .sl e, u, m, m', a, h => ye3 hC hx h
 | .v t, u, m, m', a, h => ye3 hC hx h
 | .row s, u, m, m', a, h => ye3 hC hx h
 | .px s o, u, m, m', a, h => ye3 hC hx h
 | .kp id, u, m, m', a, h => ye3 hC hx h
 | .nil, u, m, m', a, h => ye3 hC hx h
 | .un, u, m, m', a, h => ye3 hC hx h
theorem ylL (hC : CxOk P C) (hx : ExtR rg ts.rg) : ∀ (l : List Kd) (us : List (TV K)) (m m' : RM) (a : List (DV K)), rdVs C l us m = some (a, m') → SubM m m' ∧ ∀ r, ∃ us1, bdVs C rg l (a ++ r) = (us1, r) ∧ us1.length = us.length ∧ (Good (rg := rg) ts ts1 χ ξ ρ m' → ∀ (j : Nat) (u u1 : TV K), us[j]? = some u → us1[j]? = some u1 → TM P C ts ts1 χ ξ ds ρ p u u1)
 | [], [], m, m', a, h => by
   simp only [rdVs] at h; cases h
   exact ⟨.refl, fun r => ⟨[], rfl, rfl, fun _ j u u1 h => by simp at h⟩⟩
 | k :: l, u :: us, m, m', a, h => by
   simp only [rdVs] at h
   split at h
   ·rename_i a1 m1 h1
    split at h
    ·rename_i a2 m2 h2
     cases h
     obtain ⟨s1, t1⟩ := yqk hC hx k u m m1 a1 h1
     obtain ⟨s2, t2⟩ := ylL hC hx l us m1 m' a2 h2
     refine ⟨s1.trans s2, fun r => ?_⟩
     obtain ⟨u1, e1, f1⟩ := t1 (a2 ++ r)
     obtain ⟨us1, e2, e3, f2⟩ := t2 r
     refine ⟨u1 :: us1, ?_, by simp [e3], fun hg j u' u1' x y => ?_⟩
     ·rw [List.append_assoc]; simp only [bdVs, e1, e2]
     ·cases j with
      | zero => simp at x y; subst x; subst y; exact f1 (hg.sub s2)
      | succ j => exact f2 hg j u' u1' (by simpa using x) (by simpa using y)
    ·cases h
   ·cases h
 | [], _ :: _, _, _, _, h => by simp [rdVs] at h
 | _ :: _, [], _, _, _, h => by simp [rdVs] at h
end
theorem ypS (hC : CxOk P C) (hx : ExtR rg ts.rg) : ∀ (l : List (Nat × Kd)) (m m' : RM) (a : List (DV K)), rdS C ts.fr l m = some (a, m') → SubM m m' ∧ ∀ r, ∃ fr1, bdS C rg l (a ++ r) = (fr1, r) ∧ (Good (rg := rg) ts ts1 χ ξ ρ m' → ∀ t, TM P C ts ts1 χ ξ ds ρ p (lkT ts.fr t) (lkT fr1 t))
 | [], m, m', a, h => by
   simp only [rdS] at h; cases h
   exact ⟨.refl, fun r => ⟨[], rfl, fun _ t => TM.un _⟩⟩
 | k :: l, m, m', a, h => by
   simp only [rdS] at h
   split at h
   ·rename_i a1 m1 h1
    split at h
    ·rename_i a2 m2 h2
     cases h
     obtain ⟨s1, t1⟩ := yqk hC hx k.2 (lkT ts.fr k.1) m m1 a1 h1
     obtain ⟨s2, t2⟩ := ypS hC hx l m1 m' a2 h2
     refine ⟨s1.trans s2, fun r => ?_⟩
     obtain ⟨u1, e1, f1⟩ := t1 (a2 ++ r)
     obtain ⟨fr1, e2, f2⟩ := t2 r
     refine ⟨(k.1, u1) :: fr1, ?_, fun hg t => ?_⟩
     ·rw [List.append_assoc]; simp only [bdS, e1, e2]
     ·rw [yfe]
      split
      ·rename_i e; rw [<- e]; exact f1 (hg.sub s2)
      ·exact f2 hg t
    ·cases h
   ·cases h
theorem ypZ (hC : CxOk P C) (hx : ExtR rg ts.rg) : ∀ (l : List (Nat × Nat × List Kd)) (m m' : RM) (a : List (DV K)), rdB C ts l m = some (a, m') → SubM m m' ∧ ∀ r, ∃ od1, bdB C rg l (a ++ r) = (od1, r) ∧ (∀ s, memB od1 s = l.any fun q => Nat.beq q.1 s) ∧ (∀ s, memB od1 s = true → ∃ q e cs cs1, lkA m'.b s = some q ∧ ts.tb q.1 q.2 = some (.box e cs) ∧ lkB od1 s = some (.box e cs1) ∧
   (Good (rg := rg) ts ts1 χ ξ ρ m' -> BM P C ts ts1 χ ξ ds ρ p (.box e cs) (.box e cs1)))
 | [], m, m', a, h => by
   simp only [rdB] at h; cases h
   exact ⟨.refl, fun r => ⟨[], rfl, fun s => rfl, fun s h => by cases h⟩⟩
 | k :: l, m, m', a, h => by
   simp only [rdB] at h
   split at h
   ·rename_i q hq
    split at h
    ·rename_i e cs hb
     split at h
     ·rename_i he
      have he := nbeq.1 he
      split at h
      ·rename_i a1 m1 h1
       split at h
       ·rename_i a2 m2 h2
        cases h
        obtain ⟨s1, t1⟩ := ylL hC hx k.2.2 cs m m1 a1 h1
        obtain ⟨s2, t2⟩ := ypZ hC hx l m1 m' a2 h2
        refine ⟨s1.trans s2, fun r => ?_⟩
        obtain ⟨us1, e1, e1', f1⟩ := t1 (a2 ++ r)
        obtain ⟨od1, e2, g2, f2⟩ := t2 r
        refine ⟨(k.1, some (.box k.2.1 us1)) :: od1, ?_, fun s => ?_, fun s hs => ?_⟩
        ·rw [List.append_assoc]; simp only [bdB, e1, e2]
        ·show (Nat.beq k.1 s || memB od1 s) = _; rw [g2, List.any_cons]
        ·rw [ybx]
         by_cases ek : k.1 = s
         ·subst ek
          refine ⟨q, e, cs, us1, (s1.trans s2).b _ _ hq, hb, by simp [he], fun hg => BM.box e1' (f1 (hg.sub s2))⟩
         ·rw [if_neg ek]
          have hs' : memB od1 s = true := by
           have : (Nat.beq k.1 s || memB od1 s) = true := hs
           have hb' : Nat.beq k.1 s = false := by
            cases hh : Nat.beq k.1 s with
            | false => rfl
            | true => exact absurd (nbeq.1 hh) ek
           rwa [hb', Bool.false_or] at this
          exact f2 s hs'
       ·cases h
      ·cases h
     ·cases h
    ·cases h
   ·cases h
theorem yqa {m : RM} : ∀ (l : List (Nat × Nat)) (a : List (DV K)), rdR C ts m l = some a → (∀ s, memB (bdR l a) s = l.any fun q => Nat.beq q.1 s) ∧ ∀ s, memB (bdR l a) s = true → ∃ e, (lkA m.r s = some none ∧ lkB (bdR l a) s = some (.row e [])) ∨ ∃ q l', lkA m.r s = some (some q) ∧ trow C e (ts.tb q.1 q.2) = some l' ∧ lkB (bdR l a) s = some (.row e l')
 | [], a, h => by
   simp only [rdR] at h; cases h
   exact ⟨fun s => rfl, fun s h => by cases h⟩
 | k :: l, a, h => by
   have step : ∀ {x : List (K k.2)} {b : List (DV K)}, rdR C ts m l = some b → (lkA m.r k.1 = some none ∧ x = [] ∨ ∃ q, lkA m.r k.1 = some (some q) ∧ trow C k.2 (ts.tb q.1 q.2) = some x) → (∀ s, memB (bdR (k :: l) (.l k.2 x :: b)) s = (k :: l).any fun q => Nat.beq q.1 s) ∧
     ∀ s, memB (bdR (k :: l) (.l k.2 x :: b)) s = true -> ∃ e, (lkA m.r s = some none /\ lkB (bdR (k :: l) (.l k.2 x :: b)) s = some (.row e [])) ∨ ∃ q l', lkA m.r s = some (some q) /\ trow C e (ts.tb q.1 q.2) = some l' /\ lkB (bdR (k :: l) (.l k.2 x :: b)) s = some (.row e l') := by
    intro x b hb hx
    obtain ⟨g1, g2⟩ := yqa l b hb
    have e : bdR (k :: l) (.l k.2 x :: b) = (k.1, some (.row k.2 x)) :: bdR l b := by simp [bdR, yhy]
    rw [e]
    refine ⟨fun s => ?_, fun s hs => ?_⟩
    ·show (Nat.beq k.1 s || memB (bdR l b) s) = _; rw [g1, List.any_cons]
    ·rw [ybx]
     by_cases ek : k.1 = s
     ·subst ek
      rcases hx with ⟨h1, rfl⟩ | ⟨q, h1, h2⟩
      ·exact ⟨k.2, .inl ⟨h1, by simp⟩⟩
      ·exact ⟨k.2, .inr ⟨q, x, h1, h2, by simp⟩⟩
     ·rw [if_neg ek]
      refine g2 s ?_
      have : (Nat.beq k.1 s || memB (bdR l b) s) = true := hs
      have hb' : Nat.beq k.1 s = false := by
       cases hh : Nat.beq k.1 s with
       | false => rfl
       | true => exact absurd (nbeq.1 hh) ek
      rwa [hb', Bool.false_or] at this
   simp only [rdR] at h
   split at h
   ·rename_i hq
    obtain ⟨b, hb, rfl⟩ := Option.map_eq_some_iff.1 h
    exact step hb (.inl ⟨hq, rfl⟩)
   ·rename_i q hq
    split at h
    ·rename_i l' hl
     obtain ⟨b, hb, rfl⟩ := Option.map_eq_some_iff.1 h
     exact step hb (.inr ⟨q, hq, hl⟩)
    ·cases h
   ·cases h
theorem yko : ∀ {l : List (Nat × Nat)} {q : Nat × Nat}, q ∈ l → ypD l q = true
 | p :: r, q, h => by
   show (yhM p q || ypD r q) = true
   rcases List.mem_cons.1 h with rfl | h
   ·have : yhM q q = true := by unfold yhM; rw [nbeq.2 rfl, nbeq.2 rfl]; rfl
    rw [this]; rfl
   ·rw [yko h, Bool.or_true]
theorem ymE : ∀ {l : List (Nat × Nat)}, yo9 l = true → l.Nodup
 | [], _ => List.nodup_nil
 | p :: r, h => by
   simp only [yo9, Bool.and_eq_true, Bool.not_eq_true'] at h
   refine List.nodup_cons.2 ⟨fun hm => ?_, ymE h.2⟩
   rw [yko hm] at h; cases h.1
theorem yfM : ∀ {m : List (Nat × Option (Nat × Nat))} {s : Nat} {k : Nat × Nat}, lkA m s = some (some k) → k ∈ plsR m
 | [], _, _, h => by cases h
 | (t, x) :: r, s, k, h => by
   rw [ydV] at h
   split at h
   ·cases h; simp [plsR]
   ·have := yfM h
    cases x with
    | none => exact this
    | some q => exact List.mem_cons_of_mem _ this
theorem yj3 : ∀ {m : List (Nat × Option (Nat × Nat))} {s s' : Nat} {k : Nat × Nat}, (plsR m).Nodup → lkA m s = some (some k) → lkA m s' = some (some k) → s = s'
 | [], _, _, _, _, h, _ => by cases h
 | (t, x) :: r, s, s', k, hn, h, h' => by
   rw [ydV] at h h'
   cases x with
   | none =>
     split at h
     ·cases h
     ·split at h'
      ·cases h'
      ·exact yj3 (m := r) hn h h'
   | some q =>
     have hn' := List.nodup_cons.1 (show (q :: plsR r).Nodup from hn)
     split at h
     ·rename_i e1
      split at h'
      ·rename_i e2; simp only at e1 e2; rw [<- e1, <- e2]
      ·cases h; exact absurd (yfM h') hn'.1
     ·split at h'
      ·cases h'; exact absurd (yfM h) hn'.1
      ·exact yj3 hn'.2 h h'
theorem yf9 : ∀ {m : List (Nat × (Nat × Nat))} {s : Nat} {k : Nat × Nat}, lkA m s = some k → k ∈ m.map (·.2)
 | [], _, _, h => by cases h
 | (t, x) :: r, s, k, h => by
   rw [ydV] at h
   split at h
   ·cases h; simp
   ·exact List.mem_cons_of_mem _ (yf9 h)
theorem ymL : ∀ {m : List (Nat × (Nat × Nat))} {s s' : Nat} {k : Nat × Nat}, (m.map (·.2)).Nodup → lkA m s = some k → lkA m s' = some k → s = s'
 | [], _, _, _, _, h, _ => by cases h
 | (t, x) :: r, s, s', k, hn, h, h' => by
   rw [ydV] at h h'
   have hn' := List.nodup_cons.1 (show (x :: r.map (·.2)).Nodup from hn)
   split at h
   ·rename_i e1
    split at h'
    ·rename_i e2; simp only at e1 e2; rw [<- e1, <- e2]
    ·cases h; exact absurd (yf9 h') hn'.1
   ·split at h'
    ·cases h'; exact absurd (yf9 h) hn'.1
    ·exact ymL hn'.2 h h'
theorem yjw {α : Type} {m : List (Nat × α)} {s : Nat} {x : α} {f : Nat × α → Bool} (h : lkA m s = some x) (ha : m.all f = true) : f (s, x) = true := by
 induction m with
 | nil => cases h
 | cons q m ih =>
   rw [ydV] at h
   simp only [List.all_cons, Bool.and_eq_true] at ha
   split at h
   ·rename_i e; cases h; subst e; exact ha.1
   ·exact ih h ha.2
theorem ysh (hB : ycW B) (hC : CxOk P C) (hx : ExtR rg ts.rg) {τ : Tm} {env : List (DV K)} (h : rdT C τ ts = some env) (hh : List (HO K)) (hR : ∀ h h' H n, R h H n → R h' H n) : REt P C R B N ts (bdT C τ rg hh env) := by
 intro χ ds hk hγ
 unfold rdT at h
 split at h
 rotate_left
 ·cases h
 rename_i a m1 h1
 split at h
 rotate_left
 ·cases h
 rename_i b M h2
 split at h
 rotate_left
 ·cases h
 rename_i c h3 h4
 cases h
 simp only [Bool.and_eq_true] at h4
 obtain ⟨⟨hnod, hdom⟩, hfixM⟩ := h4
 simp only [fixM, Bool.and_eq_true] at hfixM
 simp only [ys6, Bool.and_eq_true] at hdom
 obtain ⟨⟨hdb, hdr⟩, hdis⟩ := hdom
 have hnod := ymE hnod
 obtain ⟨nr, nb, ndis⟩ := List.nodup_append.1 hnod
 let ρ : Nat → Option (Nat × Nat) := fun s => match lkA M.b s with
  | some k => some k
  | none => match lkA M.r s with
    | some (some k) => if χ k.1 k.2 = true then none else some k
    | _ => none
 let ξ : Nat → Bool := fun s => match lkA M.b s with
  | some _ => false
  | none => match lkA M.r s with
    | some none => true
    | some (some k) => χ k.1 k.2
    | none => false
 obtain ⟨rb, gb1, gb2⟩ := yqa τ.rw c h3 |> fun x => (⟨rfl, x.1, x.2⟩ : (bdR τ.rw c = bdR τ.rw c) /\ _ /\ _)
 have hbname : ∀ s k, lkA M.b s = some k -> τ.bx.any (fun q => Nat.beq q.1 s) = true := fun s k hs => yjw hs hdb
 have hrname : ∀ s k, lkA M.r s = some k -> τ.rw.any (fun q => Nat.beq q.1 s) = true := fun s k hs => yjw hs hdr
 have hapart : ∀ s, τ.bx.any (fun q => Nat.beq q.1 s) = true → τ.rw.any (fun q => Nat.beq q.1 s) = true → False := by
  intro s q1 q2
  obtain ⟨x, hx1, hx2⟩ := List.any_eq_true.1 q1
  obtain ⟨y, hy1, hy2⟩ := List.any_eq_true.1 q2
  have := List.all_eq_true.1 (List.all_eq_true.1 hdis x hx1) y hy1
  rw [nbeq.1 hx2, nbeq.1 hy2, nbeq.2 rfl] at this; cases this
 have hbr : ∀ s k k', lkA M.b s = some k -> lkA M.r s = some k' -> False := fun s k k' q1 q2 => hapart s (hbname s k q1) (hrname s k' q2)
 have hρb : ∀ s k, lkA M.b s = some k → ρ s = some k := by
  intro s k hs
  show (match lkA M.b s with | some k => some k | none => _) = _
  rw [hs]
 have hρr : ∀ s k, lkA M.r s = some (some k) → ρ s = (if χ k.1 k.2 = true then none else some k) ∧ ξ s = χ k.1 k.2 := by
  intro s k hs
  have hn : lkA M.b s = none := by
   cases hq : lkA M.b s with
   | none => rfl
   | some k' => exact (hbr s k' _ hq hs).elim
  constructor
  ·show (match lkA M.b s with | some k => some k | none => match lkA M.r s with | some (some k) => if χ k.1 k.2 = true then none else some k | _ => none) = _
   rw [hn, hs]
  ·show (match lkA M.b s with | some _ => false | none => match lkA M.r s with | some none => true | some (some k) => χ k.1 k.2 | none => false) = _
   rw [hn, hs]
 have hξn : ∀ s, lkA M.r s = some none → ρ s = none ∧ ξ s = true := by
  intro s hs
  have hn : lkA M.b s = none := by
   cases hq : lkA M.b s with
   | none => rfl
   | some k' => exact (hbr s k' _ hq hs).elim
  constructor
  ·show (match lkA M.b s with | some k => some k | none => match lkA M.r s with | some (some k) => if χ k.1 k.2 = true then none else some k | _ => none) = _
   rw [hn, hs]
  ·show (match lkA M.b s with | some _ => false | none => match lkA M.r s with | some none => true | some (some k) => χ k.1 k.2 | none => false) = _
   rw [hn, hs]
 have hρi : ∀ s k, ρ s = some k → (lkA M.b s = some k) ∨ (lkA M.r s = some (some k) ∧ χ k.1 k.2 = false) := by
  intro s k hs
  have hs' : (match lkA M.b s with | some k => some k | none => match lkA M.r s with | some (some k) => if χ k.1 k.2 = true then none else some k | _ => none) = some k := hs
  split at hs'
  ·rename_i k' e; cases hs'; exact .inl e
  ·split at hs'
   ·rename_i k' e
    split at hs'
    ·cases hs'
    ·rename_i hx'; cases hs'; exact .inr ⟨e, by simpa using hx'⟩
   ·cases hs'
 let tsS : TS K := bdT C τ rg hh (a ++ b ++ c)
 obtain ⟨sub1, t1⟩ := ypS (P := P) (ts1 := tsS) (χ := χ) (ξ := ξ) (ρ := ρ) (ds := ds) (p := fun _ => False) hC hx τ.ks ⟨[], []⟩ m1 a h1
 obtain ⟨sub2, t2⟩ := ypZ (P := P) (ts1 := tsS) (χ := χ) (ξ := ξ) (ρ := ρ) (ds := ds) (p := fun _ => False) hC hx τ.bx m1 M b h2
 obtain ⟨fr1, e1, f1⟩ := t1 (b ++ c)
 obtain ⟨od1, e2, g2, f2⟩ := t2 c
 have hS : tsS = ⟨fr1, od1 ++ bdR τ.rw c, [], rg, hh⟩ := by
  show bdT C τ rg hh (a ++ b ++ c) = _
  unfold bdT
  rw [List.append_assoc, e1]
  simp only
  rw [e2]
 have hlk : ∀ s, lkB tsS.od s = if memB od1 s = true then lkB od1 s else lkB (bdR τ.rw c) s := by
  intro s; rw [hS]; exact yoZ _ _ s
 have hrowlk : ∀ s, τ.rw.any (fun q => Nat.beq q.1 s) = true → lkB tsS.od s = lkB (bdR τ.rw c) s := by
  intro s hs
  rw [hlk, if_neg]
  intro hm
  rw [g2] at hm
  exact hapart s hm hs
 have hGood : Good (rg := rg) ts tsS χ ξ ρ M := by
  refine ⟨?_, ?_, ?_, hρb, by rw [hS]⟩
  ·intro s k hs n hn
   obtain ⟨r1, r2⟩ := hρr s k hs
   have hnm := hrname s _ hs
   obtain ⟨e, ⟨q1, _⟩ | ⟨q, l', q1, q2, q3⟩⟩ := gb2 s (by rw [gb1]; exact hnm)
   ·rw [hs] at q1; cases q1
   ·rw [hs] at q1; cases q1
    refine ⟨?_, fun hx' => ⟨by rw [r1, hx']; rfl, by rw [r2, hx']⟩, fun hx' => by rw [r2, hx']⟩
    show tln (lkB tsS.od s) = _
    rw [hrowlk s hnm, q3]
    rw [(hγ.trow hC q2).1] at hn
    exact hn
  ·intro s k hs
   obtain ⟨e, ⟨q1, _⟩ | ⟨q, l', q1, q2, q3⟩⟩ := gb2 s (by rw [gb1]; exact hrname s _ hs)
   ·rw [hs] at q1; cases q1
   ·rw [hs] at q1; cases q1
    exact ⟨_, (hγ.trow hC q2).1⟩
  ·intro s hs
   obtain ⟨r1, r2⟩ := hξn s hs
   refine ⟨?_, r2⟩
   have hnm := hrname s _ hs
   obtain ⟨e, ⟨q1, q3⟩ | ⟨q, l', q1, q2, q3⟩⟩ := gb2 s (by rw [gb1]; exact hnm)
   ·show tln (lkB tsS.od s) = _
    rw [hrowlk s hnm, q3]; rfl
   ·rw [hs] at q1; cases q1
 refine yrQ hB hγ hk ρ (fun _ => False) ξ tsS (by rw [hS]) (fun H n => hR _ _ H n) ?_ ?_ ?_ ?_ ?_ (fun k h => h.elim) hC ?_ (fun ks h1 h2 => ⟨h1, _, h2⟩)
 ·intro s k hs
  rcases hρi s k hs with hb | ⟨hr, hx'⟩
  ·have hm : memB od1 s = true := by rw [g2]; exact hbname s k hb
   obtain ⟨q, e, cs, cs1, q1, q2, q3, q4⟩ := f2 s hm
   rw [hb] at q1; cases q1
   exact ⟨hγ.box q2, _, _, q2, by rw [hlk, if_pos hm]; exact q3, q4 hGood⟩
  ·have hnm := hrname s _ hr
   obtain ⟨e, ⟨q1, _⟩ | ⟨q, l', q1, q2, q3⟩⟩ := gb2 s (by rw [gb1]; exact hnm)
   ·rw [hr] at q1; cases q1
   ·rw [hr] at q1; cases q1
    refine ⟨hx', ?_⟩
    have q3' : lkB tsS.od s = some (.row e l') := by rw [hrowlk s hnm]; exact q3
    unfold trow at q2
    split at q2
    ·rename_i e' l0 hb
     obtain ⟨rfl, rfl⟩ := ydF q2
     exact ⟨_, _, hb, q3', BM.row⟩
    ·rename_i e' n cs hb
     split at q2
     ·rename_i he
      have := nbeq.1 he; subst this
      exact ⟨_, _, hb, q3', BM.lr hC q2⟩
     ·cases q2
    ·cases q2
 ·intro s b1 hs hxx
  rw [hlk] at hs
  by_cases hm : memB od1 s = true
  ·obtain ⟨q, e, cs, cs1, q1, _⟩ := f2 s hm
   exact ⟨q, hρb s q q1⟩
  ·rw [if_neg hm] at hs
   have hm2 := yke hs
   obtain ⟨e, ⟨q1, _⟩ | ⟨q, l', q1, q2, q3⟩⟩ := gb2 s hm2
   ·rw [(hξn s q1).2] at hxx; cases hxx
   ·obtain ⟨r1, r2⟩ := hρr s q q1
    rw [r2] at hxx
    exact ⟨q, by rw [r1, hxx]; rfl⟩
 ·intro s hs
  have hs' : (match lkA M.b s with | some _ => false | none => match lkA M.r s with | some none => true | some (some k) => χ k.1 k.2 | none => false) = true := hs
  split at hs'
  ·cases hs'
  ·split at hs'
   ·rename_i hr
    obtain ⟨r1, r2⟩ := hξn s hr
    refine ⟨r1, ?_⟩
    have hnm := hrname s _ hr
    obtain ⟨e, ⟨q1, q3⟩ | ⟨q, l', q1, q2, q3⟩⟩ := gb2 s (by rw [gb1]; exact hnm)
    ·exact ⟨e, by rw [hrowlk s hnm]; exact q3⟩
    ·rw [hr] at q1; cases q1
   ·rename_i k hr
    obtain ⟨r1, r2⟩ := hρr s k hr
    refine ⟨by rw [r1, if_pos hs'], ?_⟩
    have hnm := hrname s _ hr
    obtain ⟨e, ⟨q1, q3⟩ | ⟨q, l', q1, q2, q3⟩⟩ := gb2 s (by rw [gb1]; exact hnm)
    ·rw [hr] at q1; cases q1
    ·rw [hr] at q1; cases q1
     have := (hγ.trow hC q2).2.1 hs'
     subst this
     exact ⟨e, by rw [hrowlk s hnm]; exact q3⟩
   ·cases hs'
 ·intro s k h2 hs
  have hbl : Nat.ble 2000000 s = true := Nat.ble_eq_true_of_le h2
  rcases hρi s k hs with q1 | ⟨q1, _⟩
  ·have := yjw q1 hfixM.1
   simp only [hbl, Bool.not_true, Bool.false_or] at this
   exact yhp this
  ·have := yjw q1 hfixM.2
   simp only [hbl, Bool.not_true, Bool.false_or] at this
   exact yhp this
 ·intro s s' k hs hs'
  rcases hρi s k hs with q1 | ⟨q1, _⟩ <;> rcases hρi s' k hs' with q2 | ⟨q2, _⟩
  ·exact ymL nb q1 q2
  ·exact absurd rfl (ndis k (yfM q2) k (yf9 q1))
  ·exact absurd rfl (ndis k (yfM q1) k (yf9 q2))
  ·exact yj3 nr q1 q2
 ·intro t
  have := f1 (hGood.sub sub2) t
  rw [hS]; rw [hS] at this
  exact this
end
end Go.AV
end
noncomputable section
namespace Go.AV
open Go.RowKit Go.RG Go.Lib
variable {K : Nat -> Type}
section
variable {P : Program} {C : Cx K} {R : List (HO K) -> Hp -> Nat -> Prop} {ts ts1 : TS K} {χ : Nat -> Nat -> Bool} {ds : DS} {B : Base} [GB P B] {N : Nat} {ro : Option Nat}
theorem yi1 (hC : CxOk P C) (t : Nat) (x : K t) : TR P C ts χ (inV C t x) (eV C t x) ∧ (eV C t x).noL = true ∧ dwk (eV C t x) = eV C t x := by
 obtain ⟨c1, c2⟩ := hC.c t x ts χ
 have hno := (C.E t).no x
 have hdw := hC.dw t x
 unfold inV eV
 cases hg : (C.T t).g with
 | true => exact ⟨.agg _ _ c1 c2, hno, by simp only [dwk, hdw]⟩
 | false =>
   have hl := (C.E t).len x
   rw [hC.g t hg] at hl
   cases he : (C.E t).c x with
   | nil => rw [he] at hl; cases hl
   | cons a r =>
     cases r with
     | cons b r => rw [he] at hl; simp at hl
     | nil =>
       rw [he] at c1 c2 hno hdw
       simp only [noLs, Bool.and_true] at hno
       simp only [dwks, List.cons.injEq, and_true] at hdw
       cases hc : (C.T t).c x with
       | nil => rw [hc] at c1; simp at c1
       | cons u r => cases r with
         | cons b r => rw [hc] at c1; simp at c1
         | nil => rw [hc] at c2; exact ⟨c2 0 u a rfl rfl, hno, hdw⟩
mutual
theorem yrX : ∀ (u : TV K) (v : AV), ybf u = true → TR P C ts χ u v → dwk v = tAV C u
 | .un, v, h, _ => by simp [ybf] at h
 | .lb b, v, _, t => by rw [t.lbi]; rfl
 | .bl b, v, _, t => by rw [t.bli]; rfl
 | .li k n, v, _, t => by rw [t.int (k := k) (n := n) rfl]; rfl
 | .it k n, v, _, t => by rw [t.int (k := k) (n := n) rfl]; rfl
 | .st s, v, _, t => by rw [t.str]; rfl
 | .agg us, v, h, t => by
   obtain ⟨vs, rfl, a, b⟩ := t.agg'
   simp only [ybf] at h
   simp only [dwk, tAV, yfA us vs h ⟨a, b⟩]
 | .tup us, v, h, t => by
   obtain ⟨vs, rfl, a, b⟩ := t.tup'
   simp only [ybf] at h
   simp only [dwk, tAV, yfA us vs h ⟨a, b⟩]
 | .nil, v, _, t => by cases t; rfl
 | .em, v, _, t => by cases t; rfl
 | .sl e l, v, _, t => by
   obtain ⟨z, xs, hx, rfl⟩ := t.sli
   simp only [dwk, hx, tAV, slA]
 | .rw s c, v, h, _ => by simp [ybf] at h
 | .px s c o, v, h, _ => by simp [ybf] at h
 | .pr e s c i o, v, h, _ => by simp [ybf] at h
 | .ep e l i o, v, _, t => by
   obtain ⟨xs, hx, rfl⟩ := t.epi
   simp only [dwk, hx, tAV]
 | .gs l i, v, _, t => by
   obtain ⟨xs, hx, rfl⟩ := t.gsi
   simp only [dwk, hx, tAV]
 | .nptr, v, _, t => by cases t; rfl
 | .fn f a c, v, h, t => by
   simp only [ybf, Bool.and_eq_true] at h
   cases t with
   | fn _ _ _ a' c' ha hc h1 h2 => simp only [dwk, tAV, yfA a a' h.1 ⟨ha, h1⟩, yfA c c' h.2 ⟨hc, h2⟩]
 | .fv ps rs F, v, _, t => by cases t with | fv _ _ _ _ h hv => exact hv
 | .cn id v', v, h, _ => by simp [ybf] at h
theorem yfA : ∀ (us : List (TV K)) (vs : List AV), ybp us = true → TL P C ts χ us vs → dwks vs = tAVs C us
 | [], vs, _, t => by
   have : vs = [] := List.eq_nil_of_length_eq_zero t.1
   subst this; rfl
 | u :: us, vs, h, t => by
   cases vs with
   | nil => simp [TL] at t
   | cons v vs =>
     simp only [ybp, Bool.and_eq_true] at h
     simp only [dwks, tAVs, yrX u v h.1 t.head.1, yfA us vs h.2 t.head.2]
end
theorem ylG (hC : CxOk P C) {pd : PD} {u : TV K} {v : AV} {x : AD K} (h : out1 C pd u = some x) (hv : TR P C ts χ u v) : v.noL = true ∧ dwk v = penc C pd x ∧ ∃ y, x = .d y := by
 cases pd with
 | v t =>
   simp only [out1] at h
   split at h
   ·rename_i y e
    cases h
    obtain ⟨a1, a2, _⟩ := ylJ hC e hv
    exact ⟨a2, a1, _, rfl⟩
   ·cases h
 | p t =>
   simp only [out1] at h
   split at h
   ·rename_i e x' eu
    split at h
    ·rename_i he
     subst he
     cases h
     have := hv.s
     rw [eu] at this
     obtain ⟨xs, hx, rfl⟩ := this.epi
     refine ⟨rfl, ?_, _, rfl⟩
     simp only [dwk, hx, penc, dif_pos, cl, List.flatMap_cons, List.flatMap_nil, List.append_nil]
     simp
    ·cases h
   ·cases h
 | f ps rs => simp only [out1] at h; cases h
theorem yjq (hC : CxOk P C) : ∀ (ps : List PD) (us : List (TV K)) (vs : List AV) (xs : List (AD K)), outD C ps us = some xs → TL P C ts χ us vs → noLs vs = true ∧ dwks vs = yax C ps xs ∧ xs.length = ps.length ∧ (∀ x ∈ xs, ∃ y, x = .d y)
 | [], [], vs, xs, h, t => by
   cases h
   have : vs = [] := List.eq_nil_of_length_eq_zero t.1
   subst this; exact ⟨rfl, rfl, rfl, fun x hx => by cases hx⟩
 | p :: ps, u :: us, vs, xs, h, t => by
   cases vs with
   | nil => simp [TL] at t
   | cons v vs =>
     simp only [outD] at h
     split at h
     ·rename_i x r h1 h2
      cases h
      obtain ⟨a1, a2, a3⟩ := ylG hC h1 t.head.1
      obtain ⟨b1, b2, b3, b4⟩ := yjq hC ps us vs r h2 t.head.2
      refine ⟨by simp [noLs, a1, b1], by simp only [dwks, yax, a2, b2], by simp [b3], fun x hx => ?_⟩
      rcases List.mem_cons.1 hx with rfl | hx
      ·exact a3
      ·exact b4 x hx
     ·cases h
 | [], _ :: _, _, _, h, _ => by simp [outD] at h
 | _ :: _, [], _, _, h, _ => by simp [outD] at h
theorem yhD (C : Cx K) : ∀ (ps qs : List PD) (xs ys : List (AD K)), xs.length = ps.length → yax C (ps ++ qs) (xs ++ ys) = yax C ps xs ++ yax C qs ys
 | [], qs, xs, ys, h => by
   have : xs = [] := List.eq_nil_of_length_eq_zero h
   subst this; rfl
 | p :: ps, qs, xs, ys, h => by
   cases xs with
   | nil => simp at h
   | cons x xs => simp only [List.cons_append, yax]; rw [yhD C ps qs xs ys (by simpa using h)]
theorem yoc (C : Cx K) : ∀ (ps : List PD) (e : List (DV K)), allV ps = true → e.length = ps.length → yax C ps (e.map .d) = e.map (dvA C)
 | [], [], _, _ => rfl
 | [], _ :: _, _, h => by simp at h
 | p :: ps, [], _, h => by simp at h
 | p :: ps, y :: e, h, hl => by
   cases p with
   | v t => simp only [List.map_cons, yax]; rw [yoc C ps e h (by simpa using hl)]; rfl
   | p t => cases h
   | f a b => cases h
def SsOk (P : Program) (C : Cx K) (Φ : List (Sp K)) : Prop := ∀ sp ∈ Φ, SpOk P C sp
theorem ypF {Φ : List (Sp K)} {f : Nat} {sp : Sp K} (h : lkS Φ f = some sp) : sp ∈ Φ ∧ sp.f = f := by
 induction Φ with
 | nil => cases h
 | cons q Φ ih =>
   simp only [lkS] at h
   split at h
   ·rename_i e; cases h; exact ⟨List.mem_cons_self, nbeq.1 e⟩
   ·exact ⟨List.mem_cons_of_mem _ (ih h).1, (ih h).2⟩
theorem ymF (hC : CxOk P C) {Φ : List (Sp K)} (hS : SsOk P C Φ) {pd : PD} {u : TV K} {v : AV} {x : AD K} (h : yrd C Φ pd u = some x) (hv : TR P C ts χ u v) : v.noL = true ∧ dwk v = penc C pd x ∧ ∀ F, x = .f F → FOk P C F := by
 have data : out1 C pd u = some x → v.noL = true ∧ dwk v = penc C pd x ∧ ∀ F, x = .f F → FOk P C F := by
  intro h
  obtain ⟨a, b, y, rfl⟩ := ylG hC h hv
  exact ⟨a, b, fun F e => by cases e⟩
 cases pd with
 | v t => exact data h
 | p t => exact data h
 | f ps rs =>
   simp only [yrd] at h
   have hs := hv.s
   split at h
   ·rename_i ps' rs' F e
    cases h
    rw [e] at hs
    cases hs with
    | fv _ _ _ _ hF hv' => exact ⟨by rw [<- yd9, hv']; exact hF.1, hv', fun F' e => by cases e; exact hF⟩
   ·rename_i f a c e
    rw [e] at hs
    split at h
    ·rename_i sp hsp
     obtain ⟨hmem, hf⟩ := ypF hsp
     split at h
     ·rename_i xa xc ho
      split at h
      ·rename_i hall
       cases h
       simp only [Bool.and_eq_true] at hall
       obtain ⟨⟨hall, hna⟩, hnc⟩ := hall
       unfold ysg at ho
       split at ho
       ·rename_i xa' xc' h1 h2
        cases ho
        cases hs with
        | fn _ _ _ a' c' ha hc t1 t2 =>
          have ta : TL P C ts χ a a' := ⟨ha, t1⟩
          have tc : TL P C ts χ c c' := ⟨hc, t2⟩
          obtain ⟨p1, p2, p3, p4⟩ := yjq hC _ a a' xa h1 ta
          obtain ⟨q1, q2, q3, q4⟩ := yjq hC _ c c' xc h2 tc
          have ea := yfA a a' hna ta
          have ec := yfA c c' hnc tc
          have hdv : dwk (.fn (.func f) a' c') = .fn (.func f) (tAVs C a) (tAVs C c) := by simp only [dwk, ea, ec]
          refine ⟨by simp [AV.noL, p1, q1], hdv, fun F e => ?_⟩
          cases e
          refine ⟨?_, ?_, rfl, f, tAVs C a, tAVs C c, rfl, fun en r hW => ?_⟩
          ·rw [<- hdv, yd9]; simp [AV.noL, p1, q1]
          ·rw [<- hdv, ykh]
          ·simp only at hW
           split at hW
           ·rename_i hlen
            have hlen := nbeq.1 hlen
            obtain ⟨hl, hP⟩ := hS sp hmem _ _ (fun F hF => by
             rcases List.mem_append.1 hF with hF | hF
             ·rcases List.mem_append.1 hF with hF | hF
              ·obtain ⟨y, hy⟩ := p4 _ hF; cases hy
              ·obtain ⟨y, _, hy⟩ := List.mem_map.1 hF; cases hy
             ·obtain ⟨y, hy⟩ := q4 _ hF; cases hy) hW
            rw [hf] at hP
            have hps : sp.ps = sp.ps.take a.length ++ ((sp.ps.drop a.length).take ps.length ++ sp.ps.drop (a.length + ps.length)) := by
             rw [<- List.drop_drop, List.take_append_drop, List.take_append_drop]
            simp only [List.length_append, List.length_map] at hl
            have hal : (sp.ps.take a.length).length = xa.length := p3.symm
            have hml : ((sp.ps.drop a.length).take ps.length).length = ps.length := by
             rw [q3, p3] at hl
             simp only [List.length_take, List.length_drop] at hl ⊢
             omega
            rw [hps, List.append_assoc, yhD C _ _ _ _ p3, yhD C _ _ _ _ (by simp [hlen, hml]), <- p2, <- q2, ea, ec, yoc C _ _ hall (by rw [hml, hlen]), <- List.append_assoc] at hP
            exact hP
           ·exact hW.elim
       ·cases ho
      ·cases h
     ·cases h
    ·cases h
   ·cases h
theorem yll (hC : CxOk P C) {Φ : List (Sp K)} (hS : SsOk P C Φ) : ∀ (ps : List PD) (us : List (TV K)) (vs : List AV) (xs : List (AD K)), outA C Φ ps us = some xs → TL P C ts χ us vs → noLs vs = true ∧ dwks vs = yax C ps xs ∧ ∀ F, AD.f F ∈ xs → FOk P C F
 | [], [], vs, xs, h, t => by
   cases h
   have : vs = [] := List.eq_nil_of_length_eq_zero t.1
   subst this; exact ⟨rfl, rfl, fun F hF => by cases hF⟩
 | p :: ps, u :: us, vs, xs, h, t => by
   cases vs with
   | nil => simp [TL] at t
   | cons v vs =>
     simp only [outA] at h
     split at h
     ·rename_i x r h1 h2
      cases h
      obtain ⟨a1, a2, a3⟩ := ymF hC hS h1 t.head.1
      obtain ⟨b1, b2, b3⟩ := yll hC hS ps us vs r h2 t.head.2
      refine ⟨by simp [noLs, a1, b1], by simp only [dwks, yax, a2, b2], fun F hF => ?_⟩
      rcases List.mem_cons.1 hF with e | hF
      ·exact a3 F e.symm
      ·exact b3 F hF
     ·cases h
 | [], _ :: _, _, _, h, _ => by simp [outA] at h
 | _ :: _, [], _, _, h, _ => by simp [outA] at h
structure Kil (ts ts' : TS K) (χ χ' : Nat → Nat → Bool) : Prop where
 m : Mono ts ts' χ χ'
 d : ∀ s c, tln (ts.tb s c) = none -> χ s c = false -> tln (ts'.tb s c) = none /\ χ' s c = false
theorem Kil.refl {ts : TS K} {χ : Nat -> Nat -> Bool} : Kil ts ts χ χ := ⟨.refl, fun _ _ a b => ⟨a, b⟩⟩
theorem Kil.trans {ts ts' ts'' : TS K} {χ χ' χ'' : Nat -> Nat -> Bool} (h : Kil ts ts' χ χ') (k : Kil ts' ts'' χ' χ'') : Kil ts ts'' χ χ'' := ⟨h.m.trans k.m k.d, fun s c a b => k.d s c (h.d s c a b).1 (h.d s c a b).2⟩
theorem Kil.one {ts : TS K} {χ : Nat → Nat → Bool} {s c : Nat} (hc : c = 1 ∨ c = 2) : Kil ts (ts.setb s c none) χ (updχ χ s c false) := by
 refine ⟨Mono.setb hc (fun _ => .inl ⟨rfl, rfl⟩), fun s' c' a b => ?_⟩
 rw [ybW ts s c none hc]
 unfold updχ
 by_cases e : s' = s /\ c' = c
 ·rw [if_pos e, if_pos e]; exact ⟨rfl, rfl⟩
 ·rw [if_neg e, if_neg e]; exact ⟨a, b⟩
theorem ymG (hC : CxOk P C) {Φ : List (Sp K)} (hS : SsOk P C Φ) : ∀ (ps : List PD) (us : List (TV K)) (xs : List (AD K)), outA C Φ ps us = some xs → ∀ u ∈ us, ∀ (ts : TS K) (χ : Nat → Nat → Bool) (v : AV), TR P C ts χ u v → v.noL = true
 | [], [], _, _, u, hu, _, _, _, _ => by cases hu
 | p :: ps, w :: us, xs, h, u, hu, ts, χ, v, hv => by
   simp only [outA] at h
   split at h
   ·rename_i x r h1 h2
    rcases List.mem_cons.1 hu with rfl | hu
    ·exact (ymF hC hS h1 hv).1
    ·exact ymG hC hS ps us r h2 u hu ts χ v hv
   ·cases h
 | [], _ :: _, _, h, _, _, _, _, _, _ => by simp [outA] at h
 | _ :: _, [], _, h, _, _, _, _, _, _ => by simp [outA] at h
theorem ym0 (hC : CxOk P C) : ∀ (ps : List PD) (us : List (TV K)) (xs : List (AD K)), outD C ps us = some xs → ∀ u ∈ us, ∀ (ts : TS K) (χ : Nat → Nat → Bool) (v : AV), TR P C ts χ u v → v.noL = true
 | [], [], _, _, u, hu, _, _, _, _ => by cases hu
 | p :: ps, w :: us, xs, h, u, hu, ts, χ, v, hv => by
   simp only [outD] at h
   split at h
   ·rename_i x r h1 h2
    rcases List.mem_cons.1 hu with rfl | hu
    ·exact (ylG hC h1 hv).1
    ·exact ym0 hC ps us r h2 u hu ts χ v hv
   ·cases h
 | [], _ :: _, _, h, _, _, _, _, _, _ => by simp [outD] at h
 | _ :: _, [], _, h, _, _, _, _, _, _ => by simp [outD] at h
theorem ygi (hC : CxOk P C) : ∀ (us : List (TV K)) (vs : List AV) (ts : TS K) (χ : Nat → Nat → Bool) (ds : DS) (ws : List (TV K)) (ts' : TS K), DOk ds → GM P C R ts χ ds → TL P C ts χ us vs → yl8 C ts us = some (ws, ts') → (∀ w ∈ ws, ∀ (ts : TS K) (χ : Nat → Nat → Bool) (v : AV), TR P C ts χ w v → v.noL = true) →
  ∃ vs' kl ds1 χ', yeg vs ds = some (vs', kl, ds1) /\ noLs vs' = true /\ TL P C ts' χ' ws vs' /\ GM P C R ts' χ' ds1 /\ DOk ds1 /\ ts'.rg = ts.rg /\ Kil ts ts' χ χ' /\ (∀ k ∈ kl, ∃ u ∈ us, u.s = .rw k.1 k.2)
 | [], vs, ts, χ, ds, ws, ts', hk, hγ, t, h, hn => by
   cases h
   have : vs = [] := List.eq_nil_of_length_eq_zero t.1
   subst this
   exact ⟨[], [], ds, χ, rfl, rfl, .nil, hγ, hk, rfl, .refl, fun k hk => by cases hk⟩
 | u :: us, vs, ts, χ, ds, ws, ts', hk, hγ, t, h, hn => by
   cases vs with
   | nil => simp [TL] at t
   | cons v vs =>
     have quiet : ∀ {ws2 : List (TV K)}, yl8 C ts us = some (ws2, ts') → ws = u :: ws2 → ∃ vs' kl ds1 χ', yeg (v :: vs) ds = some (vs', kl, ds1) ∧ noLs vs' = true ∧ TL P C ts' χ' ws vs' ∧ GM P C R ts' χ' ds1 ∧ DOk ds1 ∧ ts'.rg = ts.rg ∧ Kil ts ts' χ χ' ∧ (∀ k ∈ kl, ∃ u' ∈ u :: us, u'.s = .rw k.1 k.2) := by
      intro ws2 h2 e
      subst e
      have hv : v.noL = true := hn u List.mem_cons_self ts χ v t.head.1
      obtain ⟨vs', kl, ds1, χ', a1, a2, a3, a4, a5, a6, a7, a8⟩ := ygi hC us vs ts χ ds ws2 ts' hk hγ t.head.2 h2 (fun w hw => hn w (List.mem_cons_of_mem _ hw))
      refine ⟨v :: vs', kl, ds1, χ', ?_, by simp [noLs, hv, a2], .cons (t.head.1.mono a7.m) a3, a4, a5, a6, a7, fun k hk => ?_⟩
      ·simp only [yeg, hv, a1]
      ·obtain ⟨u', h1, h2⟩ := a8 k hk; exact ⟨u', List.mem_cons_of_mem _ h1, h2⟩
     simp only [yl8] at h
     split at h
     ·rename_i s c eu
      split at h
      ·rename_i l hl
       split at h
       ·rename_i ws2 ts2 h2
        cases h
        have hs := t.head.1.s
        rw [eu] at hs
        obtain ⟨g1, g2, g3⟩ := hγ.trow hC hl
        have hcc : c = 1 ∨ c = 2 := (ymH g1).imp id (·.1)
        rcases hs.rwi g1 with ⟨hχ, rfl⟩ | ⟨hχ, h0, rfl⟩
        ·obtain ⟨kb, k1, k2, k3, k4⟩ := g3 hχ
         have hγ1 := hγ.setb (s := s) (c := c) (b := none) (kb := none) hcc (Kil.one hcc).m (fun b' hb' => by cases hb')
         have hk1 : DOk (ds.set s c none) := hk.set hcc (fun x hx => by cases hx)
         obtain ⟨vs', kl, ds1, χ', a1, a2, a3, a4, a5, a6, a7, a8⟩ := ygi hC us vs (ts.setb s c none) (updχ χ s c false) (ds.set s c none) ws2 ts' hk1 hγ1 (t.head.2.mono (Kil.one hcc).m) h2 (fun w hw => hn w (List.mem_cons_of_mem _ hw))
         refine ⟨.sl false l.length kb.cells :: vs', (s, c) :: kl, ds1, χ', ?_, by simp [noLs, AV.noL, a2], .cons (.sl _ l _ _ _ rfl k4) a3, a4, a5, by rw [a6, yca], (Kil.one hcc).trans a7, fun k hk => ?_⟩
         ·have hb : (Nat.beq kb.cells.length (l.length * kb.sz) && noLs kb.cells) = true := by
           rw [Bool.and_eq_true]
           exact ⟨nbeq.2 (by rw [k3, <- yba kb.cells, k4, ye1]), ycB k4⟩
          simp only [yeg, AV.noL, k1, hb, a1]
         ·rcases List.mem_cons.1 hk with rfl | hk
          ·exact ⟨u, List.mem_cons_self, eu⟩
          ·obtain ⟨u', h1, h2⟩ := a8 k hk; exact ⟨u', List.mem_cons_of_mem _ h1, h2⟩
        ·have hnil := g2 hχ
         have hγ1 := hγ.kill (s := s) (c := c) hcc
         obtain ⟨vs', kl, ds1, χ', a1, a2, a3, a4, a5, a6, a7, a8⟩ := ygi hC us vs (ts.setb s c none) (updχ χ s c false) ds ws2 ts' hk hγ1 (t.head.2.mono (Kil.one hcc).m) h2 (fun w hw => hn w (List.mem_cons_of_mem _ hw))
         refine ⟨.sl true 0 [] :: vs', kl, ds1, χ', ?_, by simp [noLs, AV.noL, a2], .cons (by rw [hnil]; exact .sl _ [] _ _ _ rfl rfl) a3, a4, a5, by rw [a6, yca], (Kil.one hcc).trans a7, fun k hk => ?_⟩
         ·simp only [yeg, AV.noL, a1]
         ·obtain ⟨u', h1, h2⟩ := a8 k hk; exact ⟨u', List.mem_cons_of_mem _ h1, h2⟩
       ·cases h
      ·cases h
     ·rename_i hne
      split at h
      ·rename_i ws2 ts2 h2
       cases h
       exact quiet h2 rfl
      ·cases h
theorem yop (hC : CxOk P C) : ∀ (rs : List Nat) (p : List (DV K) → List (TV K) → Prop), exR C rs p → ∃ r us, p r us ∧ noLs (r.map (dvA C)) = true ∧ ∀ (ts : TS K) (χ : Nat → Nat → Bool), TL P C ts χ us (r.map (dvA C))
 | [], p, h => ⟨[], [], h, rfl, fun _ _ => .nil⟩
 | t :: rs, p, h => by
   obtain ⟨z, h⟩ := h
   obtain ⟨r, us, h1, h2, h3⟩ := yop hC rs _ h
   exact ⟨.v t z :: r, inV C t z :: us, h1, by simp only [List.map_cons, noLs, h2, Bool.and_true]; exact (yi1 (P := P) (ts := ⟨[], [], [], [], []⟩) (χ := fun _ _ => false) hC t z).2.1, fun ts χ => .cons (yi1 hC t z).1 (h3 ts χ)⟩
theorem ylX {us : List (TV K)} {vs : List AV} (h : TL P C ts χ us vs) : TR P C ts χ (tres us) (yaP vs) := by
 match us, vs, h with
 | [], [], h => exact .tup _ _ rfl (fun j u v h => by simp at h)
 | [u], [v], h => exact h.head.1
 | u :: u' :: us, v :: v' :: vs, h => exact .tup _ _ h.1 h.2
 | [], _ :: _, h => simp [TL] at h
 | _ :: _, [], h => simp [TL] at h
 | [_], _ :: _ :: _, h => simp [TL] at h
 | _ :: _ :: _, [_], h => simp [TL] at h
theorem ygT {f : FuncId} {vs vs' : List AV} {S : St} {S1 : St} {v : AV} {k : AV → St → Prop} (hp : pubL vs S = (vs', S1)) (hn : noLs vs' = true) (hF : Pure P f (dwks vs') v) (h : k v S1) : ye6 P (.f f) vs S k := by
 unfold ye6
 rw [hp]
 refine ⟨hn, (yao.dwkA (hF S1.hp S1.nx)).mono ?_⟩
 rintro av H' n' ⟨rfl, rfl, rfl⟩
 rw [ygP]
 exact h
theorem ykX : ∀ (a : List AV) {vs vs' : List AV} {ds d1 : DS} {kl : List (Nat × Nat)}, noLs a = true → yeg vs ds = some (vs', kl, d1) → yeg (a ++ vs) ds = some (a ++ vs', kl, d1)
 | [], _, _, _, _, _, _, h => h
 | x :: a, vs, vs', ds, d1, kl, hn, h => by
   simp only [noLs, Bool.and_eq_true] at hn
   simp only [List.cons_append, yeg, hn.1, ykX a hn.2 h]
theorem ykG : ∀ (a : List AV) (ds : DS), noLs a = true → yeg a ds = some (a, [], ds)
 | [], _, _ => rfl
 | x :: a, ds, hn => by
   simp only [noLs, Bool.and_eq_true] at hn
   simp only [yeg, hn.1, ykG a ds hn.2]
theorem ygz : ∀ (vs : List AV) {c vs' : List AV} {ds d1 : DS} {kl : List (Nat × Nat)}, noLs c = true → yeg vs ds = some (vs', kl, d1) → yeg (vs ++ c) ds = some (vs' ++ c, kl, d1)
 | [], c, vs', ds, d1, kl, hn, h => by cases h; exact ykG c _ hn
 | x :: vs, c, vs', ds, d1, kl, hn, h => by
   simp only [List.cons_append, yeg] at h ⊢
   split at h
   ·split at h
    ·rename_i h1; cases h; simp only [ygz vs hn h1, List.cons_append]
    ·cases h
   ·split at h
    ·split at h
     ·split at h
      ·split at h
       ·rename_i hkb _ hb _ _ _ _ h1; cases h; simp only [ygz vs hn h1, hb, hkb, List.cons_append]
       ·cases h
      ·cases h
     ·cases h
    ·cases h
theorem yht {a b : List AV} : noLs (a ++ b) = (noLs a && noLs b) := by
 induction a with
 | nil => rfl
 | cons x a ih => simp only [List.cons_append, noLs, ih, Bool.and_assoc]
structure yoH (P : Program) (o : AO) (ds : DS) (f : FuncId) (vs vs' : List AV) (kl : List (Nat × Nat)) (d1 : DS) (v : AV) : Prop where
 ho : CalO o ds f vs
 nl : noLs vs' = true
 pure : Pure P f (dwks vs') v
 way : yeg vs ds = some (vs', kl, d1) ∨ (kl = [] /\ d1 = ds /\ vs' = vs.map (vwV (toD ds).M) /\ v.flat = true)
theorem ypX {M : Key → Option Blk} {v : AV} (h : v.noL = true) : vw1 M v = v := by
 unfold vw1
 split
 ·simp [AV.noL] at h
 ·rfl
theorem ypL (hC : CxOk P C) (hγ : GM P C R ts χ ds) (hk : DOk ds) {u : TV K} {v : AV} (h : TR P C ts χ u v) : TR P C ts χ (vt1 C ts u) (vw1 (toD ds).M v) := by
 unfold vt1
 split
 ·rename_i s c eu
  split
  ·rename_i l hl
   have hs := h.s
   rw [eu] at hs
   obtain ⟨g1, g2, g3⟩ := hγ.trow hC hl
   rcases hs.rwi g1 with ⟨hχ, rfl⟩ | ⟨hχ, h0, rfl⟩
   ·obtain ⟨kb, k1, k2, k3, k4⟩ := g3 hχ
    have hm : (toD ds).M (.l s c) = some kb.blk := by show (ds.kb s c).map KB.blk = _; rw [k1]; rfl
    have hcond : kb.blk.cells.length = l.length * kb.blk.sz ∧ kb.blk.sz ≠ 0 ∧ noLs kb.blk.cells = true :=
     ⟨by show kb.cells.length = _ * kb.sz; rw [k3, <- yba kb.cells, k4, ye1], (hk s c kb k1).1, ycB k4⟩
    simp only [vw1, hm]
    rw [if_pos hcond]
    exact .sl _ l _ _ _ rfl k4
   ·have := g2 hχ
    rw [this]
    exact .sl _ [] _ _ _ rfl rfl
  ·exact .un _
 ·rename_i hne
  have hv : vw1 (toD ds).M v = v ∨ u.s = .un := by
   have hs := h.s
   revert hs hne
   generalize u.s = w
   intro hne hs
   cases hs with
   | rwd s c v _ _ _ => exact absurd rfl (hne s c)
   | rw s c n _ _ _ => exact absurd rfl (hne s c)
   | rwn s c _ _ _ => exact absurd rfl (hne s c)
   | un v => exact .inr rfl
   | fv ps rs F v hF hv' =>
     left
     obtain ⟨g1, _⟩ := hF
     exact ypX (by rw [<- yd9, hv']; exact g1)
   | cn id w v hl hn hv' => exact .inl (ypX (hv'.noref hn (ts' := ts) (χ' := χ)).2)
   | _ => exact .inl rfl
  rcases hv with e | e
  ·rw [e]; exact h
  ·cases u with
   | un => exact .un _
   | cn id w =>
     cases h with
     | cn _ _ _ hl hn hv' =>
       simp only [TV.s] at e
       subst e
       simp [ybf] at hn
   | _ => cases e
theorem yrR (hC : CxOk P C) (hγ : GM P C R ts χ ds) (hk : DOk ds) {u : TV K} {v : AV} (h : TR P C ts χ u v) : TR P C ts χ (vtV C ts u) (vwV (toD ds).M v) := by
 unfold vtV
 split
 ·rename_i cs eu
  have hs := h.s
  rw [eu] at hs
  obtain ⟨vs, rfl, hl, hc⟩ := hs.agg'
  refine .agg _ _ (by simpa using hl) fun j u' v' p q => ?_
  rw [List.getElem?_map] at p q
  obtain ⟨x, h1, rfl⟩ := Option.map_eq_some_iff.1 p
  obtain ⟨y, h2, rfl⟩ := Option.map_eq_some_iff.1 q
  exact ypL hC hγ hk (hc j x y h1 h2)
 ·rename_i hne
  have h1 := ypL hC hγ hk h
  cases v with
  | agg cs =>
    have hs := h.s
    revert hs
    cases hw : u.s with
    | agg us => exact absurd hw (hne us)
    | un =>
      intro _
      have : vt1 C ts u = u := by unfold vt1; rw [hw]
      rw [this]
      cases u with
      | un => exact .un _
      | cn id w =>
        cases h with
        | cn _ _ _ hl hn hv' => simp only [TV.s] at hw; subst hw; simp [ybf] at hn
      | _ => cases hw
    | rw s c =>
      intro hs
      cases hs with
      | rwd _ _ _ _ _ h0 => cases h0
    | fv ps rs F =>
      intro hs
      cases hs with
      | fv _ _ _ _ hF hv' =>
        obtain ⟨_, _, _, f, a, c, e, _⟩ := hF
        rw [e] at hv'; simp [dwk] at hv'
    | cn id w =>
      intro _
      cases u with
      | cn id' w' =>
        cases h with
        | cn _ _ _ hl hn hv' => simp only [TV.s] at hw; subst hw; simp [ybf] at hn
      | _ => cases hw
    | _ => intro hs; cases hs
  | _ => exact h1
theorem ytd (hC : CxOk P C) (hγ : GM P C R ts χ ds) (hk : DOk ds) {us : List (TV K)} {vs : List AV} (h : TL P C ts χ us vs) : TL P C ts χ (us.map (vtV C ts)) (vs.map (vwV (toD ds).M)) := by
 refine ⟨by simpa using h.1, fun j u v p q => ?_⟩
 rw [List.getElem?_map] at p q
 obtain ⟨x, h1, rfl⟩ := Option.map_eq_some_iff.1 p
 obtain ⟨y, h2, rfl⟩ := Option.map_eq_some_iff.1 q
 exact yrR hC hγ hk (h.2 j x y h1 h2)
theorem yqy (hC : CxOk P C) {t : Nat} (h : (C.T t).fl = true) (x : K t) : (eV C t x).flat = true := by
 have := hC.fl t h x
 unfold eV
 split
 ·exact this
 ·rename_i hg
  have h1 := hC.g t hg
  have h2 := (C.E t).len x
  rw [h1] at h2
  obtain ⟨v, hv⟩ := List.length_eq_one_iff.1 h2
  rw [hv] at this ⊢
  simp only [ydY, Bool.and_true] at this
  exact this
theorem ymt (hC : CxOk P C) : ∀ (rs : List Nat) (p : List (DV K) → List (TV K) → Prop), rs.all (fun t => (C.T t).fl) = true → exR C rs p → ∃ r us, p r us ∧ noLs (r.map (dvA C)) = true ∧ (∀ (ts : TS K) (χ : Nat → Nat → Bool), TL P C ts χ us (r.map (dvA C))) ∧ ydY (r.map (dvA C)) = true
 | [], p, _, h => ⟨[], [], h, rfl, fun _ _ => .nil, rfl⟩
 | t :: rs, p, hf, h => by
   obtain ⟨z, h⟩ := h
   simp only [List.all_cons, Bool.and_eq_true] at hf
   obtain ⟨r, us, h1, h2, h3, h4⟩ := ymt hC rs _ hf.2 h
   obtain ⟨q1, q2, q3⟩ := yi1 (P := P) (ts := ⟨[], [], [], [], []⟩) (χ := fun _ _ => false) hC t z
   refine ⟨.v t z :: r, inV C t z :: us, h1, by simp [noLs, dvA, q2, h2], fun ts χ => .cons (yi1 (P := P) (ts := ts) (χ := χ) hC t z).1 (h3 ts χ), ?_⟩
   simp only [List.map_cons, ydY, dvA, yqy hC hf.1 z, h4, Bool.and_true]
theorem ynk : ∀ {vs : List AV}, ydY vs = true → (yaP vs).flat = true
 | [], _ => rfl
 | [v], h => by simpa [ydY, yaP] using h
 | v :: w :: vs, h => h
theorem yi7 (hC : CxOk P C) {Φ : List (Sp K)} (hS : SsOk P C Φ) (hγ : GM P C R ts χ ds) (hk : DOk ds) {o : AO} {f : Nat} {us : List (TV K)} {vs : List AV} {X : TS K → Prop} (ht : TL P C ts χ us vs) (ho : CalO o ds f vs) (h : yo4 C Φ ts o.dst f us X) :
  ∃ vs' kl d1 v ts' χ', yoH P o ds f vs vs' kl d1 v /\ GM P C R ts' χ' (d1.put o.dst v) /\ DOk d1 /\ X ts' /\ ts'.rg = ts.rg /\ (flS C Φ f = true -> kl = []) /\ (∀ k ∈ kl, ∃ u ∈ us, u.s = .rw k.1 k.2) := by
 unfold yo4 at h
 split at h
 rotate_left
 ·exact h.elim
 rename_i sp h1
 obtain ⟨hmem, hf⟩ := ypF h1
 split at h
 ·rename_i hfl
  split at h
  ·rename_i env he
   have tv := ytd hC hγ hk ht
   obtain ⟨b1, b2, b3⟩ := yll hC hS _ _ _ _ he tv
   obtain ⟨r, rs, ⟨hW, hX⟩, n1, n2, n3⟩ := ymt (P := P) hC _ _ hfl h
   obtain ⟨_, hP⟩ := hS sp hmem env r b3 hW
   rw [hf] at hP
   exact ⟨vs.map (vwV (toD ds).M), [], ds, yaP (r.map (dvA C)), _, χ, ⟨ho, b1, by rw [b2]; exact hP, .inr ⟨rfl, rfl, rfl, ynk n3⟩⟩, hγ.put (ylX (n2 _ _)), hk, hX, by rw [ybK], fun _ => rfl, fun k hk => by cases hk⟩
  ·exact h.elim
 ·rename_i hfl
  split at h
  rotate_left
  ·exact h.elim
  rename_i ws ts2 h2
  split at h
  ·rename_i env he
   obtain ⟨vs', kl, ds1, χ', a1, a2, a3, a4, a5, a6, a7, a8⟩ := ygi hC us vs ts χ ds ws ts2 hk hγ ht h2 (ymG hC hS _ _ _ he)
   obtain ⟨b1, b2, b3⟩ := yll hC hS _ _ _ _ he a3
   obtain ⟨r, rs, ⟨hW, hX⟩, n1, n2⟩ := yop (P := P) hC _ _ h
   obtain ⟨_, hP⟩ := hS sp hmem env r b3 hW
   rw [hf] at hP
   exact ⟨vs', kl, ds1, yaP (r.map (dvA C)), _, χ', ⟨ho, a2, by rw [b2]; exact hP, .inl a1⟩, a4.put (ylX (n2 _ _)), a5, hX, by rw [ybK]; exact a6, fun hq => (by unfold flS at hq; rw [h1] at hq; simp only at hq; rw [hfl] at hq; cases hq), a8⟩
  ·exact h.elim
theorem ymW (hC : CxOk P C) (hγ : GM P C R ts χ ds) (hk : DOk ds) {o : AO} {F : FV K} (hF : FOk P C F) {ps rs : List Nat} {x : AOpd} {args : List AOpd} {v : AV} (hop : o.op = .calv x args) (hx : ev (lkF ds.fr) x = v) (hv : dwk v = F.av) {us : List (TV K)} {X : TS K → Prop} (ht : TL P C ts χ us (args.map (ev (lkF ds.fr)))) (h : yrr C ts o.dst F ps rs us X) :
  ∃ f vs vs' kl d1 w ts' χ', yoH P o ds f vs vs' kl d1 w /\ GM P C R ts' χ' (d1.put o.dst w) /\ DOk d1 /\ X ts' /\ ts'.rg = ts.rg /\ (∀ k ∈ kl, ∃ u ∈ us, u.s = .rw k.1 k.2) := by
 unfold yrr at h
 split at h
 ·rename_i ws ts2 h2
  split at h
  ·rename_i env he
   obtain ⟨vs', kl, ds1, χ', a1, a2, a3, a4, a5, a6, a7, a8⟩ := ygi hC us _ ts χ ds ws ts2 hk hγ ht h2 (ym0 hC _ _ _ he)
   obtain ⟨b1, b2, b3, b4⟩ := yjq hC _ _ _ _ he a3
   obtain ⟨r, rr, ⟨hW, hX⟩, n1, n2⟩ := yop (P := P) hC _ _ h
   obtain ⟨g1, g2, g3, f, a, c, g4, g5⟩ := hF
   have hP := g5 _ _ hW
   rw [g4] at hv
   cases v with
   | fn f' a' c' =>
     simp only [dwk, AV.fn.injEq] at hv
     obtain ⟨rfl, e1, e2⟩ := hv
     have hnl : noLs a' = true ∧ noLs c' = true := by
      rw [g4] at g1
      simp only [AV.noL, Bool.and_eq_true] at g1
      rw [<- e1, <- e2, yct, yct] at g1
      exact g1
     have henv : (env.filterMap adD).map (dvA C) = dwks vs' := by
      rw [b2]
      clear he h hX hW hP b2 b1
      induction env generalizing ps with
      | nil => cases ps <;> rfl
      | cons y env ih =>
        cases ps with
        | nil => simp at b3
        | cons q ps =>
          obtain ⟨z, rfl⟩ := b4 y List.mem_cons_self
          simp only [List.filterMap_cons, adD, List.map_cons, yax]
          rw [ih (by simpa using b3) (fun x hx => b4 x (List.mem_cons_of_mem _ hx))]
          rfl
     have hpub := ykX a' hnl.1 (ygz _ hnl.2 a1)
     refine ⟨f, a' ++ (args.map (ev (lkF ds.fr)) ++ c'), a' ++ (vs' ++ c'), kl, ds1, yaP (r.map (dvA C)), _, χ', ⟨.inr ⟨x, args, a', c', hop, hx, by rw [List.append_assoc]⟩, by simp [yht, hnl, a2], ?_, .inl hpub⟩, a4.put (ylX (n2 _ _)), a5, hX, by rw [ybK]; exact a6, a8⟩
     rw [ybi, ybi, e1, e2, <- henv, <- List.append_assoc]
     exact hP
   | _ => simp [dwk] at hv
  ·exact h.elim
 ·exact h.elim
section
variable {L : List AO} {Q : KS -> Prop} {i : Nat}
theorem ymg {o : AO} {f : FuncId} {vs vs' : List AV} {kl : List (Nat × Nat)} {d1 : DS} {v : AV} (e0 : L[i]? = some o) (hg : gok o.guard ds.fr = true) (h : yoH P o ds f vs vs' kl d1 v) (k : WD P B N ro L (i + 1) Q (d1.put o.dst v)) : WD P B N ro L i Q ds := by
 refine yp5 (hs := fun _ => false) e0 hg fun hk => ?_
 have fin : ybo P (.f f) vs (toD ds) fun v S' => ∃ ds', S'.put o.dst v = toD ds' ∧ DOk ds' ∧ WD P B N ro L (i + 1) Q ds' := by
  rcases h.way with hw | ⟨rfl, rfl, rfl, hfl⟩
  ·obtain ⟨a1, a2, a3, _⟩ := yhq vs ds vs' kl d1 hk hw
   exact .inl (ygT a1 h.nl h.pure ⟨_, ybS d1 o.dst v, a3.put, k⟩)
  ·exact .inr (.inl ⟨f, v, rfl, h.nl, fun H n => yao.dwkA (h.pure H n), hfl, _, ybS d1 o.dst v, hk.put, k⟩)
 rcases h.ho with ⟨args, h1, h2⟩ | ⟨x, args, first, cap, h1, h2, h3⟩
 ·rw [h1]; simp only [aop]; rw [yb6, h2]; exact fin
 ·rw [h1]; simp only [aop]; rw [yb6, h2]; simp only; rw [h3]; exact fin
end
end
end Go.AV
end
