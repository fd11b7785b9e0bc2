/- Code on data that are all known. -/
import Derived.Test.YtjbgmaaojbamdaaGreatPv19
namespace Go.Pv
open Go

/-- Slots in a tree: the slot 0 at the root, odd ones to the left. -/
inductive Tr where
  | leaf
  | node (l : Tr) (v : PV) (r : Tr)
def Tr.get : Tr → Nat → Option PV
  | .leaf, _ => none
  | .node l v r, i => match i with
    | 0 => some v
    | j + 1 => match j % 2 with
      | 0 => l.get (j / 2)
      | _ + 1 => r.get (j / 2)
def Tr.set : Tr → Nat → PV → Tr
  | .leaf, _, _ => .leaf
  | .node l v r, i, x => match i with
    | 0 => .node l x r
    | j + 1 => match j % 2 with
      | 0 => .node (l.set (j / 2) x) v r
      | _ + 1 => .node l v (r.set (j / 2) x)
def Tr.full : Nat → Nat → Tr
  | 0, _ => .leaf
  | f + 1, n => match n with
    | 0 => .leaf
    | m + 1 => .node (Tr.full f ((m + 1) / 2)) (.tup []) (Tr.full f (m / 2))
def Tr.setAll : Nat → List PV → Tr → Tr
  | _, [], t => t
  | i, x :: xs, t => Tr.setAll (i + 1) xs (t.set i x)

def evT (T : Tr) (x : Operand) : PV := match x with
  | .tmp t => (match T.get t with | some v => v | none => .un)
  | x => ev [] x
def putT (T : Tr) (dst : Option Tmp) (x : PV) : Tr :=
  match dst with
  | some d => T.set d x
  | none => T

def resOneX (P : Program) (e : Operand → PV) (H : List Blk) : ResultVar → Option PV
  | .tmp t => some (e (.tmp t))
  | .cell a T => ploadX P T (e (.tmp a)) H
def resAllX (P : Program) (e : Operand → PV) (H : List Blk) : List ResultVar → Option (List PV)
  | [] => some []
  | x :: xs => match resOneX P e H x, resAllX P e H xs with
    | some y, some ys => some (y :: ys)
    | _, _ => none
def oneOf : List PV → PV
  | [y] => y
  | ys => .tup ys
def resX (P : Program) (fn : Func) (e : Operand → PV) (H : List Blk) : Option PV :=
  match resAllX P e H fn.results.toList with
  | some ys => some (oneOf ys)
  | none => none

/-- Is an operation wanted? -/
def wantX (ops : Array Oper) (o : Oper) (e : Operand → PV) : Option Bool :=
  match o.guard with
  | none => some true
  | some (j, want) => match (ops[j]?).bind (·.dst) with
    | none => none
    | some t => match e (.tmp t) with
      | .kb b => some (sameB b want)
      | .d (.v (.bool b)) => some (sameB b want)
      | .tup _ => some false
      | _ => none

def opsX (P : Program) (C : CallX) (ops : Array Oper) : List Oper → Tr → List Blk → Option (Tr × List Blk)
  | [], T, H => some (T, H)
  | o :: rest, T, H => match wantX ops o (evT T) with
    | some true => match popX P C o (evT T) H with
      | some (r, H') => opsX P C ops rest (putT T o.dst r) H'
      | none => none
    | some false => opsX P C ops rest (putT T o.dst (.tup [])) H
    | none => none

/-- Atoms alone: such a result is one value. -/
def flatC : PV → Bool
  | .d (.v _) | .kb _ => true
  | _ => false
def flatW : PV → Bool
  | .agg cs => cs.all flatC
  | x => flatC x
def flatV : PV → Bool
  | .tup cs => cs.all flatW
  | x => flatW x

/-- A call in a region that draws. -/
def callQ (C : CallX) (f : FuncId) (args : List PV) (H : List Blk) : Option PV :=
  match lendL H args with
  | some ys => match C f ys [] with
    | some (r, _) => if flatV r then some r else none
    | none => none
  | none => none

def popQX (P : Program) (C : CallX) (o : Oper) (e : Operand → PV) (H : List Blk) : Option PV :=
  match o.op with
  | .call c => match c.callee with
    | .value f => match e f with
      | .fn f caps => callQ C f (c.args.toList.map e ++ caps) H
      | _ => none
    | _ => if o.op.quiet then (match popX P C o e H with | some (r, _) => some r | none => none) else none
  | _ => if o.op.quiet then (match popX P C o e H with | some (r, _) => some r | none => none) else none

def quietX (P : Program) (C : CallX) (ops : Array Oper) : List Oper → Tr → List Blk → Option Tr
  | [], T, _ => some T
  | o :: rest, T, H => match wantX ops o (evT T) with
    | some true => match popQX P C o (evT T) H with
      | some r => quietX P C ops rest (putT T o.dst r) H
      | none => none
    | some false => quietX P C ops rest (putT T o.dst (.tup [])) H
    | none => none

/-! ### Ranges over functions -/
/-- The code of a round. -/
def roundX (P : Program) (C : CallX) : Code → Tr → List Blk → Option (Tr × List Blk)
  | .skip, T, H => some (T, H)
  | .region _ ops draw, T, H => match draw with
    | false => opsX P C ops ops.toList T H
    | true => none
  | .seq a b, T, H => match roundX P C a T H with
    | some (T', H') => roundX P C b T' H'
    | none => none
  | .block _ a, T, H => roundX P C a T H
  | _, _, _ => none

def memY (t : Nat) : List Nat → Bool
  | [] => false
  | x :: r => match Nat.beq x t with | true => true | false => memY t r
def dropD (t : Nat) : List Nat → List Nat
  | [] => []
  | x :: r => match Nat.beq x t with | true => dropD t r | false => x :: dropD t r
def dropY (Y : List Nat) (dst : Option Tmp) : List Nat := match dst with | some d => dropD d Y | none => Y
/-- Yield is moved to another slot. -/
def moveOf (Y : List Nat) (o : Oper) : Option Nat := match o.op, o.dst with
  | .move (.tmp t), some d => (match memY t Y with | true => some d | false => none)
  | _, _ => none
/-- A call of yield: its arguments. -/
def yieldOf (Y : List Nat) (o : Oper) : Option (List Operand) := match o.op with
  | .call c => (match c.callee with
    | .value (.tmp t) => (match memY t Y with | true => some c.args.toList | false => none)
    | _ => none)
  | _ => none
/-- What an iterator knows behind a round: read-only data. -/
def killO : PV → PV
  | .d x => .d x
  | .kb b => .kb b
  | .rp cs => .rp cs
  | .tup [] => .tup []
  | _ => .un
def Tr.kill : Tr → Tr
  | .leaf => .leaf
  | .node l v r => .node l.kill (killO v) r.kill

/-- An iterator's state: slots that hold yield; slots; blocks. -/
abbrev SS := List Nat × Tr × List Blk

def opsS (P : Program) (C : CallX) (ops : Array Oper) : List Oper → SS → Option (SS × List (List PV))
  | [], s => some (s, [])
  | o :: rest, (Y, T, H) => match wantX ops o (evT T) with
    | some true => (match yieldOf Y o with
      | some args => (match (args.map (evT T)).all flatW with
        | true => (match opsS P C ops rest (dropY Y o.dst, putT T.kill o.dst (.kb true), []) with
          | some (s', ys) => some (s', args.map (evT T) :: ys)
          | none => none)
        | false => none)
      | none => (match moveOf Y o with
        | some d => (match T.get d with
          | some _ => opsS P C ops rest (d :: Y, putT T o.dst .un, H)
          | none => none)
        | none => (match popX P C o (evT T) H with
          | some (r, H') => opsS P C ops rest (dropY Y o.dst, putT T o.dst r, H')
          | none => none)))
    | some false => opsS P C ops rest (dropY Y o.dst, putT T o.dst (.tup []), H)
    | none => none

def iterS (f : SS → Option (PExit × SS × List (List PV))) : Nat → SS → Option (PExit × SS × List (List PV))
  | 0, _ => none
  | n + 1, s => match f s with
    | some (.normal, s', ys) => (match iterS f n s' with
      | some (e, s2, zs) => some (e, s2, ys ++ zs)
      | none => none)
    | some (.exit i, s', ys) => some (.exit i, s', ys)
    | some (.ret, s', ys) => some (.ret, s', ys)
    | none => none

/-- An iterator's code: what it yields. -/
def codeS (P : Program) (C : CallX) (L : Nat) : Code → SS → Option (PExit × SS × List (List PV))
  | .skip, s => some (.normal, s, [])
  | .ret, s => some (.ret, s, [])
  | .exit id, s => some (.exit id, s, [])
  | .region _ ops draw, s => match draw with
    | false => (match opsS P C ops ops.toList s with | some (s', ys) => some (.normal, s', ys) | none => none)
    | true => none
  | .seq a b, s => match codeS P C L a s with
    | some (.normal, s', ys) => (match codeS P C L b s' with
      | some (e, s2, zs) => some (e, s2, ys ++ zs)
      | none => none)
    | some (.exit i, s', ys) => some (.exit i, s', ys)
    | some (.ret, s', ys) => some (.ret, s', ys)
    | none => none
  | .cond c t f, (Y, T, H) => match evT T c with
    | .kb true => codeS P C L t (Y, T, H)
    | .kb false => codeS P C L f (Y, T, H)
    | .d (.v (.bool b)) => (match b with | true => codeS P C L t (Y, T, H) | false => codeS P C L f (Y, T, H))
    | _ => none
  | .block id body, s => match codeS P C L body s with
    | some (.normal, s', ys) => some (.normal, s', ys)
    | some (.exit i, s', ys) => if i = id then some (.normal, s', ys) else some (.exit i, s', ys)
    | some (.ret, s', ys) => some (.ret, s', ys)
    | none => none
  | .loop body, s => iterS (codeS P C L body) L s
  | _, _ => none

/-- What an iterator yields. -/
def seqX (P : Program) (C : CallX) (L : Nat) (f : FuncId) (args : List PV) : Option (List (List PV)) :=
  match P.funcs[f]? with
  | none => none
  | some fn => match fn.body with
    | none => none
    | some code => match enters fn && fn.results.toList.isEmpty && Nat.ble (args.length + 1) fn.ntmps && Nat.ble fn.ntmps 4095 with
      | true => (match codeS P C L code ([0], Tr.setAll 0 (.un :: args) (Tr.full 12 fn.ntmps), []) with
        | some (.normal, _, ys) => some ys
        | some (.ret, _, ys) => some ys
        | _ => none)
      | false => none

/-- What a closure has captured, lent to it; boxes are given away. -/
def giveP : List PV → List Blk → Option (List PV × List Blk)
  | [], H => some ([], H)
  | .ptr b off g :: r, H => (match off, H[b]? with
    | 0, some (.box g' cs) => (match Nat.beq g g' with
      | true => (match pub (H.set b (.gone (g + 1))) cs with
        | some (ds, H1) => (match giveP r H1 with
          | some (xs, H') => some (.rp ds :: xs, H')
          | none => none)
        | none => none)
      | false => none)
    | _, _ => none)
  | .d x :: r, H => (match giveP r H with | some (xs, H') => some (.d x :: xs, H') | none => none)
  | .kb b :: r, H => (match giveP r H with | some (xs, H') => some (.kb b :: xs, H') | none => none)
  | _ :: _, _ => none

def roundsX (P : Program) (C : CallX) (p : Nat) (assign body : Code) (T : Tr) : List (List PV) → List Blk → Option (List Blk)
  | [], H => some H
  | [x] :: r, H => (match roundX P C assign (T.set p x) H with
    | some (T1, H1) => (match roundX P C body T1 H1 with
      | some (_, H2) => roundsX P C p assign body T r H2
      | none => none)
    | none => none)
  | _ :: _, _ => none

def rangeX (P : Program) (C : CallX) (L : Nat) (g : Operand) (ps : Array Tmp) (assign body : Code) (T : Tr) (H : List Blk) : Option (List Blk) :=
  match evT T g, ps.toList with
  | .fn f caps, [p] => (match giveP caps H with
    | some (xs, H1) => (match seqX P C L f xs with
      | some ys => roundsX P C p assign body T ys H1
      | none => none)
    | none => none)
  | _, _ => none

abbrev St := PExit × Tr × List Blk
abbrev DrawX := Array Oper → Tr → List Blk → Option (Tr × List Blk)

def iterX (f : Tr → List Blk → Option St) : Nat → Tr → List Blk → Option St
  | 0, _, _ => none
  | n + 1, T, H => match f T H with
    | some (.normal, T', H') => iterX f n T' H'
    | some (.exit i, T', H') => some (.exit i, T', H')
    | some (.ret, T', H') => some (.ret, T', H')
    | none => none

def runX (P : Program) (C : CallX) (L : Nat) (drawn : DrawX) : Code → Tr → List Blk → Option St
  | .skip, T, H => some (.normal, T, H)
  | .label _, T, H => some (.normal, T, H)
  | .ret, T, H => some (.ret, T, H)
  | .exit id, T, H => some (.exit id, T, H)
  | .region _ ops draw, T, H => match draw with
    | false => (match opsX P C ops ops.toList T H with | some (T', H') => some (.normal, T', H') | none => none)
    | true => (match drawn ops T H with | some (T', H') => some (.normal, T', H') | none => none)
  | .seq a b, T, H => match runX P C L drawn a T H with
    | some (.normal, T', H') => runX P C L drawn b T' H'
    | some (.exit i, T', H') => some (.exit i, T', H')
    | some (.ret, T', H') => some (.ret, T', H')
    | none => none
  | .cond c t f, T, H => match evT T c with
    | .kb true => runX P C L drawn t T H
    | .kb false => runX P C L drawn f T H
    | .d (.v (.bool b)) => (match b with | true => runX P C L drawn t T H | false => runX P C L drawn f T H)
    | _ => none
  | .block id body, T, H => match runX P C L drawn body T H with
    | some (.normal, T', H') => some (.normal, T', H')
    | some (.exit i, T', H') => if i = id then some (.normal, T', H') else some (.exit i, T', H')
    | some (.ret, T', H') => some (.ret, T', H')
    | none => none
  | .scope body, T, H => runX P C L drawn body T H
  | .loop body, T, H => iterX (fun T H => runX P C L drawn body T H) L T H
  | .rangeFunc g ps assign body, T, H => match rangeX P C L g ps assign body T H with
    | some H' => some (.normal, T, H')
    | none => none
  | _, _, _ => none

/-- A function's body. -/
def bodyX (P : Program) (C : CallX) (L : Nat) (drawn : DrawX) (fn : Func) (args : List PV) (H : List Blk) : Option (PV × List Blk) :=
  match fn.body with
  | none => none
  | some code => match Nat.ble args.length fn.ntmps && Nat.ble fn.ntmps 4095 with
    | true => (match runX P C L drawn code (Tr.setAll 0 args (Tr.full 12 fn.ntmps)) H with
      | some (.normal, T', H') => (match resX P fn (evT T') H' with | some r => some (r, H') | none => none)
      | some (.ret, T', H') => (match resX P fn (evT T') H' with | some r => some (r, H') | none => none)
      | _ => none)
    | false => none

/-- The ids of the own slices that stand alone in a result. -/
def topIds : List PV → List Nat
  | [] => []
  | .own b _ _ _ _ :: r => b :: topIds r
  | _ :: r => topIds r
def distinctN : List Nat → Bool
  | [] => true
  | x :: xs => match xs.contains x with | true => false | false => distinctN xs
def idxOf (b : Nat) : List Nat → Nat → Option Nat
  | [], _ => none
  | x :: r, i => match Nat.beq x b with | true => some i | false => idxOf b r (i + 1)
def freeC (S : List Nat) : List PV → Bool
  | [] => true
  | .own b _ _ _ _ :: r => (match S.contains b with | true => false | false => freeC S r)
  | _ :: r => freeC S r
def mapO {α β : Type} (f : α → Option β) : List α → Option (List β)
  | [] => some []
  | x :: xs => match f x, mapO f xs with
    | some y, some ys => some (y :: ys)
    | _, _ => none
/-- A value as data, with all that lies under it; none of the blocks S among them. -/
def deepD (S : List Nat) (G : List Blk) : Nat → PV → Option D
  | _, .d x => some (normD x)
  | _, .kb b => some (.v (.bool b))
  | n + 1, .own b off k sz g => (match S.contains b with
    | true => none
    | false => match G[b]? with
      | some (.row g' cs) => if g = g' then some (.sl k (cut cs off (k * sz))) else none
      | some (.box g' cs) => if g = g' then (match mapO (deepD S G n) (cut cs off (k * sz)) with | some ds => some (.sl k ds) | none => none) else none
      | _ => none)
  | _, _ => none
/-- A part of a result, told by the caller: own slices that stand alone get new ids; those inside a struct are read only from then on. -/
def outP (G : List Blk) (S : List Nat) (base : Nat) : PV → Option PV
  | .own b off n sz g => match idxOf b S 0, G[b]? with
    | some i, some (.row g' _) => if g = g' then some (.own (base + i) off n sz 0) else none
    | _, _ => none
  | .agg cs => (match freeC S cs with
    | true => (match lendC G cs with
      | some ys => some (.agg ys)
      | none => (match mapO (deepD S G 8) cs with | some ds => some (.agg (ds.map .d)) | none => none))
    | false => none)
  | .d x => some (.d x)
  | .kb b => some (.kb b)
  | .fn f [] => some (.fn f [])
  | _ => none
def outPs (G : List Blk) (S : List Nat) (base : Nat) : List PV → Option (List PV)
  | [] => some []
  | x :: xs => match outP G S base x, outPs G S base xs with
    | some y, some ys => some (y :: ys)
    | _, _ => none
def rowsOf (G : List Blk) : List Nat → Option (List Blk)
  | [] => some []
  | b :: r => match G[b]?, rowsOf G r with
    | some (.row _ cs), some l => some (.row 0 cs :: l)
    | _, _ => none
def outAll (vs : List PV) (S : List Nat) (G H : List Blk) : Option (List PV × List Blk) :=
  match distinctN S with
  | true => (match outPs G S H.length vs, rowsOf G S with
    | some ys, some l => some (ys, H ++ l)
    | _, _ => none)
  | false => none
/-- What a callee gives: slices that stand alone become the caller's, laid behind its blocks. -/
def outX (r : PV) (G H : List Blk) : Option (PV × List Blk) :=
  match r with
  | .tup vs => (match outAll vs (topIds vs) G H with | some (ys, H2) => some (.tup ys, H2) | none => none)
  | r => (match outAll [r] (topIds [r]) G H with | some ([y], H2) => some (y, H2) | _ => none)

def flatD : D → Bool
  | .v _ => true
  | .sl .. => false
def flatCell : PV → Bool
  | .d x => flatD x
  | .kb _ => true
  | .fn _ [] => true
  | _ => false
/-- No slice that is read only comes with a result. -/
def flatP (H : List Blk) : PV → Bool
  | .d x => flatD x
  | .agg cs => cs.all flatCell
  | .kb _ => true
  | .own b _ _ _ _ => match H[b]? with | some (.row _ cs) => cs.all flatD | _ => false
  | .fn _ [] => true
  | _ => false
def flatR (H : List Blk) (r : PV) : Bool := match r with
  | .tup vs => vs.all (flatP H)
  | r => flatP H r
def noOwnC : List PV → Bool
  | [] => true
  | .own .. :: _ => false
  | _ :: r => noOwnC r
def noOwnV : PV → Bool
  | .agg cs => noOwnC cs
  | x => noOwnC [x]
/-- Own slices among the arguments are given away. -/
def giveC : List PV → List Blk → List Blk
  | [], H => H
  | .own b _ _ _ g :: r, H => giveC r (H.set b (.gone (g + 1)))
  | _ :: r, H => giveC r H
def giveL : List PV → List Blk → List Blk
  | [], H => H
  | .agg cs :: r, H => giveL r (giveC cs H)
  | x :: r, H => giveL r (giveC [x] H)

/-- A call by value: own slices that are lent stay the caller's only where no read-only slice comes back. -/
def outSafe (args : List PV) (r : PV) (H' H : List Blk) : Option (PV × List Blk) :=
  match args.all noOwnV with
  | true => outX r H' H
  | false => match flatR H' r with
    | true => outX r H' H
    | false => outX r H' (giveL args H)

def trimX (k : Nat) (r : PV) (H : List Blk) : PV × List Blk :=
  match okT [] k r && (H.take k).all (okBlk [] k) with
  | true => (r, H.take k)
  | false => (r, H)

structure Opts where
  special : FuncId → Option (List PV → List Blk → Option (PV × List Blk))
  inl : FuncId → Bool
  loops : Nat
  drawn : CallX → DrawX

def callX (P : Program) (O : Opts) : Nat → CallX
  | 0, _, _, _ => none
  | n + 1, f, args, H => match O.special f with
    | some s => s args H
    | none => match P.funcs[f]? with
      | none => none
      | some fn => if enters fn then
          (match (match O.inl f with | true => none | false => lendL H args) with
          | some ys => (match bodyX P (callX P O n) O.loops (O.drawn (callX P O n)) fn ys [] with
            | some (r, H') => outSafe args r H' H
            | none => none)
          | none => match bodyX P (callX P O n) O.loops (O.drawn (callX P O n)) fn args H with
            | some (r, H') => some (trimX H.length r H')
            | none => none)
        else none

end Go.Pv
