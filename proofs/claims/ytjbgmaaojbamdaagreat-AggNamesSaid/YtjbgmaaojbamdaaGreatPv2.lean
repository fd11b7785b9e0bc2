/- The evaluator: what code asks, over pure values. -/
import Derived.Test.YtjbgmaaojbamdaaGreatPv1
import Derived.Still
namespace Go.Pv
open Go

/-- The value of a computation that asks nothing of the world. -/
def semv {α : Type} (P : Program) : Sem α → Option α
  | .pure a => some a
  | .program k => semv P (k P)
  | .mark _ k => semv P k
  | _ => none

def ev (env : List PV) : Operand → PV
  | .tmp t => env.getD t .un
  | .const v => match v with
    | .bool b => .kb b
    | .agg _ | .tuple _ => .un
    | v => .d (.v v)
  | .global _ => .un
  | .func f => .fn f []

/-- A value as an atom. -/
def PV.atom : PV → Option Value
  | .kb b => some (.bool b)
  | .d (.v x) => some x
  | _ => none

def PV.asI : PV → Option (IntKind × Int)
  | .d (.v (.int k n)) => some (k, n)
  | _ => none

/-- Is a reference one to a block as it now is? -/
def validB (H : List Blk) (b g : Nat) : Bool :=
  match H[b]? with
  | some (.row g' _) => Nat.beq g g'
  | some (.box g' _) => Nat.beq g g'
  | _ => false

def PV.isCell (H : List Blk) : PV → Bool
  | .agg _ | .tup _ | .un | .kb _ => false
  | .own b _ _ _ g => validB H b g
  | .ptr b _ g => validB H b g
  | _ => true

def allCells (H : List Blk) : List PV → Bool
  | [] => true
  | x :: xs => x.isCell H && allCells H xs

/-- A value's cells. -/
def PV.cells? (H : List Blk) : PV → Option (List PV)
  | .agg cs => if allCells H cs then some cs else none
  | .kb b => some [.d (.v (.bool b))]
  | x => if x.isCell H then some [x] else none

def isAggT (P : Program) (t : TypeId) : Option Bool :=
  match P.underlying t with
  | some (.struct _) | some (.array _ _) => some true
  | some _ => some false
  | none => none

inductive CK where
  | i (k : IntKind) | b | s | sl
  deriving DecidableEq

def kindsL (f : TypeId → Option (List CK)) : List Field → Option (List CK)
  | [] => some []
  | x :: xs => match f x.type, kindsL f xs with
    | some a, some b => some (a ++ b)
    | _, _ => none

/-- The kinds of a type's cells. -/
def kinds (P : Program) : Nat → TypeId → Option (List CK)
  | 0, _ => none
  | n + 1, t => match P.underlying t with
    | some (.int k) => some [.i k]
    | some .bool => some [.b]
    | some .string => some [.s]
    | some (.slice _) => some [.sl]
    | some (.struct fs) => kindsL (kinds P n) fs.toList
    | some (.array l e) => (kinds P n e).map fun ks => (List.replicate l ks).flatten
    | _ => none

def exK : List CK → (List D → Prop) → Prop
  | [], f => f []
  | .i k :: ks, f => ∃ n : Int, exK ks fun xs => f (.v (.int k n) :: xs)
  | .b :: ks, f => ∃ b : Bool, exK ks fun xs => f (.v (.bool b) :: xs)
  | .s :: ks, f => ∃ s : ByteArray, exK ks fun xs => f (.v (.string s) :: xs)
  | .sl :: ks, f => ∃ (n : Nat) (cs : List D), exK ks fun xs => f (.sl n cs :: xs)

def loadD (P : Program) (T : TypeId) (cs : List D) (K : PV → Prop) : Prop :=
  match P.info? T, isAggT P T, kinds P 8 T with
  | some i, some ag, some ks =>
    if ks.length = i.size then
      exK ks fun xs => cs.take i.size = xs ∧ (match ag with | true => K (.agg (xs.map .d)) | false => match xs with | [y] => K (.d y) | _ => False)
    else False
  | _, _, _ => False

def pload (P : Program) (T : TypeId) (x : PV) (H : List Blk) (K : PV → Prop) : Prop :=
  match x with
  | .rp cs => loadD P T cs K
  | .ptr b off g => match H[b]? with
    | some (.row g' cs) => if g = g' then loadD P T (cs.drop off) K else False
    | some (.box g' cs) =>
      if g = g' then
        match P.info? T, isAggT P T with
        | some i, some true => if off + i.size ≤ cs.length then K (.agg ((cs.drop off).take i.size)) else False
        | some _, some false => match cs[off]? with | some y => K y | none => False
        | _, _ => False
      else False
    | _ => False
  | _ => False

def splice {α : Type} (cs : List α) (off : Nat) (vs : List α) : List α := cs.take off ++ vs ++ cs.drop (off + vs.length)

def normD : D → D
  | .v (.slice none 0 0) => .sl 0 []
  | x => x

def toDs : List PV → Option (List D)
  | [] => some []
  | .d x :: r => match toDs r with | some ys => some (normD x :: ys) | none => none
  | _ :: _ => none

def pstore (P : Program) (T : TypeId) (x val : PV) (H : List Blk) (K : List Blk → Prop) : Prop :=
  match val.cells? H, P.info? T with
  | some vs, some i =>
    if vs.length = i.size then
      match x with
      | .ptr b off g => match H[b]? with
        | some (.box g' cs) => if g = g' then (if off + vs.length ≤ cs.length then K (H.set b (.box g (splice cs off vs))) else False) else False
        | some (.row g' cs) => if g = g' then (match toDs vs with | some ds => off + i.size ≤ cs.length ∧ K (H.set b (.row g (splice cs off ds))) | none => False) else False
        | _ => False
      | _ => False
    else False
  | _, _ => False

def zeroCellsOf (P : Program) (T : TypeId) : Option (List PV) :=
  match P.info? T with
  | some i => match i.zero with
    | some z => if z.cells.toList.all Value.oneCell' then some (z.cells.toList.map fun v => .d (.v v)) else none
    | none => none
  | none => none

/-- Parts laid into cells. -/
def fillP (place : Nat → Option (Nat × Nat)) (H : List Blk) (env : List PV) (cells : List PV) : List (Nat × Operand) → Option (List PV)
  | [] => some cells
  | (i, x) :: rest => match place i, (ev env x).cells? H with
    | some (off, size), some vs =>
      if vs.length = size then if off + vs.length ≤ cells.length then fillP place H env (splice cells off vs) rest else none else none
    | _, _ => none

def fieldPlaces (P : Program) : List Field → Option (List (Nat × Nat))
  | [] => some []
  | f :: fs => match P.info? f.type, fieldPlaces P fs with
    | some i, some r => some ((f.offset, i.size) :: r)
    | _, _ => none

def pbuild (P : Program) (T : TypeId) (H : List Blk) (env : List PV) (parts : List (Nat × Operand)) : Option (List PV) :=
  match zeroCellsOf P T, P.underlying T with
  | some zs, some (.struct fs) => match fieldPlaces P fs.toList with
    | some places => fillP (fun i => places[i]?) H env zs parts
    | none => none
  | some zs, some (.array _ e) => match P.info? e with
    | some i => fillP (fun j => some (j * i.size, i.size)) H env zs parts
    | none => none
  | _, _ => none

def rep {α : Type} (n : Nat) (zs : List α) : List α := (List.replicate n zs).flatten

/-- A new block of cells. -/
def newBlk (cs : List PV) : Blk := match toDs cs with | some ds => .row 0 ds | none => .box 0 cs

def pbuildSlice (P : Program) (T : TypeId) (len : Nat) (H : List Blk) (env : List PV) (parts : List (Nat × Operand)) : Option (Nat × List PV) :=
  match P.underlying T with
  | some (.slice e) => match P.info? e, zeroCellsOf P e with
    | some i, some zs =>
      if len * i.size ≤ 16777216 then if zs.length = i.size then if 0 < i.size then
        match fillP (fun j => some (j * i.size, i.size)) H env (rep len zs) parts with
        | some cs => some (i.size, cs)
        | none => none
      else none else none else none
    | _, _ => none
  | _ => none

/-- All cells of an own slice. -/
def cut {α : Type} (cs : List α) (off len : Nat) : List α := match off with | 0 => cs.take len | off + 1 => (cs.drop (off + 1)).take len

/-- An own slice as data, for as long as nothing of it is written. -/
def lend (H : List Blk) : PV → Option PV
  | .own b off n sz g => match H[b]? with
    | some (.row g' cs) => if g = g' then some (.d (.sl n (cut cs off (n * sz)))) else none
    | _ => none
  | .d x => some (.d x)
  | .kb b => some (.d (.v (.bool b)))
  | .fn f [] => some (.fn f [])
  | _ => none
def lendC (H : List Blk) : List PV → Option (List PV)
  | [] => some []
  | x :: xs => match lend H x, lendC H xs with | some y, some ys => some (y :: ys) | _, _ => none
def lendV (H : List Blk) : PV → Option PV
  | .agg cs => match lendC H cs with | some ys => some (.agg ys) | none => none
  | x => lend H x
def lendL (H : List Blk) : List PV → Option (List PV)
  | [] => some []
  | x :: xs => match lendV H x, lendL H xs with | some y, some ys => some (y :: ys) | _, _ => none

/-- Cells to be kept in a row: an own slice among them is given away: its block is no longer one of ours. -/
def pub (H : List Blk) : List PV → Option (List D × List Blk)
  | [] => some ([], H)
  | .d x :: r => match pub H r with | some (ys, H') => some (normD x :: ys, H') | none => none
  | .kb b :: r => match pub H r with | some (ys, H') => some (.v (.bool b) :: ys, H') | none => none
  | .own b off n sz g :: r => match H[b]? with
    | some (.row g' cs) => if g = g' then (match pub (H.set b (.gone (g + 1))) r with | some (ys, H') => some (.sl n (cut cs off (n * sz)) :: ys, H') | none => none) else none
    | _ => none
  | _ :: _ => none

/-- flat equality -/
def flatEq : List CK → List PV → List PV → Option Bool
  | [], [], [] => some true
  | .i _ :: ks, .d (.v (.int k a)) :: xs, .d (.v (.int k' b)) :: ys => if k = k' then (match flatEq ks xs ys with | some r => some ((a == b) && r) | none => none) else none
  | .b :: ks, .d (.v (.bool a)) :: xs, .d (.v (.bool b)) :: ys => (match flatEq ks xs ys with | some r => some ((a == b) && r) | none => none)
  | _, _, _ => none

def eqFs (f : TypeId → Option (List CK)) : Nat → List Field → Option (List CK)
  | _, [] => some []
  | off, x :: xs => if x.name ≠ "_" then if x.offset = off then (match f x.type with
    | some ks => (match eqFs f (off + ks.length) xs with | some r => some (ks ++ r) | none => none)
    | none => none) else none else none
/-- A type whose values are equal just if their cells are; the cells' kinds. -/
def eqK (P : Program) : Nat → TypeId → Option (List CK)
  | 0, _ => none
  | n + 1, t => match P.underlying t, P.info? t with
    | some (.int k), some i => if i.size = 1 then some [.i k] else none
    | some .bool, some i => if i.size = 1 then some [.b] else none
    | some (.struct fs), some i => if P.stoodInHeld t = false then (match eqFs (eqK P n) 0 fs.toList with | some ks => if ks.length = i.size then some ks else none | none => none) else none
    | some (.array l e), some i => match eqK P n e with
      | some ks => if i.size = l * ks.length then some (List.replicate l ks).flatten else none
      | none => none
    | _, _ => none

def eqAgg (P : Program) (T : TypeId) (xs ys : List PV) (K : Bool → Prop) : Prop :=
  match eqK P 8 T, isAggT P T with
  | some ks, some true => if P.eqGuardType P.depth T = false then (match flatEq ks xs ys with | some r => K r | none => False) else False
  | _, _ => False

def isSlice (P : Program) (T : TypeId) : Bool := match P.underlying T with | some (.slice _) => true | _ => false

def pbin (P : Program) (op : BinOp) (T : TypeId) (xo yo : Operand) (x y : PV) (H : List Blk) (K : PV → Prop) : Prop :=
  match op, x, y with
  | .quo, .d (.v (.int k m)), .d (.v (.int k' n)) => if k = k' then n ≠ 0 ∧ K (.d (.v (.int k (k.wrap (m.tdiv n))))) else False
  | .rem, .d (.v (.int k m)), .d (.v (.int k' n)) => if k = k' then n ≠ 0 ∧ K (.d (.v (.int k (m.tmod n)))) else False
  | .shl, .d (.v (.int k m)), .d (.v (.int _ n)) => 0 ≤ n ∧ K (.d (.v (.int k (k.wrap (m * 2 ^ min n.toNat k.bits)))))
  | .shr, .d (.v (.int k m)), .d (.v (.int _ n)) => 0 ≤ n ∧ K (.d (.v (.int k (m.fdiv (2 ^ min n.toNat k.bits)))))
  | .eql, .agg xs, .agg ys => eqAgg P T xs ys fun r => K (.d (.v (.bool r)))
  | .neq, .agg xs, .agg ys => eqAgg P T xs ys fun r => K (.d (.v (.bool (!r))))
  | .eql, .d (.sl n _), .d (.v (.slice none 0 0)) => if isSlice P T then ∀ b : Bool, (b = true → n = 0) → K (.d (.v (.bool b))) else False
  | .neq, .d (.sl n _), .d (.v (.slice none 0 0)) => if isSlice P T then ∀ b : Bool, (b = false → n = 0) → K (.d (.v (.bool b))) else False
  | .eql, .own b _ n _ g, .d (.v (.slice none 0 0)) => if validB H b g then if isSlice P T then ∀ b : Bool, (b = true → n = 0) → K (.d (.v (.bool b))) else False else False
  | .neq, .own b _ n _ g, .d (.v (.slice none 0 0)) => if validB H b g then if isSlice P T then ∀ b : Bool, (b = false → n = 0) → K (.d (.v (.bool b))) else False else False
  | op, x, y => match x.atom, y.atom with
    | some a, some b => match semv P (do eqGuard op T xo yo a b; binOp op T a b) with
      | some v => if v.oneCell' then K (.d (.v v)) else False
      | none => False
    | _, _ => False

/-- Cases on a small index. -/
def idxCases (m : Int) (K : Nat → Prop) : Nat → Nat → Prop
  | 0, _ => True
  | l + 1, j => (m = (j : Int) → K j) ∧ idxCases m K l (j + 1)

def atIdx (ixo : Operand) (m : Int) (len : Nat) (K : Nat → Prop) : Prop :=
  match ixo with
  | .const _ => if 0 ≤ m then (if m < len then K m.toNat else False) else False
  | _ => 0 ≤ m ∧ m < len ∧ idxCases m K len 0

def pindexAddr (P : Program) (T : TypeId) (ixo : Operand) (x ix : PV) (H : List Blk) (K : PV → Prop) : Prop :=
  match ix.asI, P.underlying T with
  | some (_, m), some (.slice e) => match P.info? e, x with
    | some i, .d (.sl n cs) => 0 ≤ m ∧ m < n ∧ K (.rp (cs.drop (m.toNat * i.size)))
    | some i, .own b off n _ g => match H[b]? with
      | some (.row g' _) => if g = g' then 0 ≤ m ∧ m < n ∧ K (.ptr b (off + m.toNat * i.size) g) else False
      | some (.box g' _) => if g = g' then atIdx ixo m n fun j => K (.ptr b (off + j * i.size) g) else False
      | _ => False
    | _, _ => False
  | some (_, m), some (.array len e) => match P.info? e, x with
    | some i, .rp cs => atIdx ixo m len fun j => K (.rp (cs.drop (j * i.size)))
    | some i, .ptr b off g => match H[b]? with
      | some (.box g' _) => if g = g' then atIdx ixo m len fun j => K (.ptr b (off + j * i.size) g) else False
      | some (.row g' _) => if g = g' then atIdx ixo m len fun j => K (.ptr b (off + j * i.size) g) else False
      | _ => False
    | _, _ => False
  | _, _ => False

def partOf (P : Program) (T : TypeId) (cs : List PV) (off : Nat) : Option PV :=
  match P.info? T, isAggT P T with
  | some i, some true => if off + i.size ≤ cs.length then some (.agg ((cs.drop off).take i.size)) else none
  | some _, some false => cs[off]?
  | _, _ => none

def optI (env : List PV) : Option Operand → Option (Option Int)
  | none => some none
  | some o => match (ev env o).asI with | some (_, m) => some (some m) | none => none

/-- The bounds of a slice expression. -/
def goB (lo hi : Option Int) (n : Nat) (k : Nat → Nat → Prop) : Prop :=
  match lo, hi with
  | none, none => k 0 n
  | some l, none => 0 ≤ l ∧ l ≤ n ∧ k l.toNat n
  | none, some h => 0 ≤ h ∧ h ≤ n ∧ k 0 h.toNat
  | some l, some h => 0 ≤ l ∧ l ≤ h ∧ h ≤ n ∧ k l.toNat h.toNat

def pslice (P : Program) (T : TypeId) (x : PV) (lo hi mx : Option (Int)) (H : List Blk) (K : PV → List Blk → Prop) : Prop :=
  match P.underlying T with
  | some (.slice e) => match P.info? e with
    | some i =>
      match x, mx with
      | .d (.sl n cs), none => goB lo hi n fun l h => K (.d (.sl (h - l) (cut cs (l * i.size) ((h - l) * i.size)))) H
      | .own b off n sz g, none => if validB H b g then if sz = i.size then goB lo hi n fun l h => K (.own b (off + l * sz) (h - l) sz g) H else False else False
      | .own b off n sz g, some m => if validB H b g then if sz = i.size then (match hi with | some h => h ≤ m ∧ m ≤ n ∧ goB lo hi n fun l h => K (.own b (off + l * sz) (h - l) sz g) H | none => False) else False else False
      | .d (.sl n cs), some m => match hi with
        | some h => h ≤ m ∧ m ≤ n ∧ goB lo hi n fun l h => K (.d (.sl (h - l) (cut cs (l * i.size) ((h - l) * i.size)))) H
        | none => False
      | _, _ => False
    | none => False
  | _ => False

/-- The cells of what is appended or copied, and how many elements. -/
def srcCells (H : List Blk) (sz : Nat) : PV → Option (Nat × Prop × (List D × List Blk))
  | .d (.sl n cs) => some (n, cs.length = n * sz, (cs, H))
  | .d (.v (.slice none 0 0)) => some (0, True, ([], H))
  | .own b off n _ g => match H[b]? with
    | some (.row g' cs) => if g = g' then some (n, off + n * sz ≤ cs.length, (cut cs off (n * sz), H)) else none
    | some (.box g' cs) => if g = g' then (match pub H (cut cs off (n * sz)) with | some (ds, H') => some (n, off + n * sz ≤ cs.length, (ds, H')) | none => none) else none
    | _ => none
  | _ => none

def pappend (P : Program) (T T2 : TypeId) (s x : PV) (H : List Blk) (K : PV → List Blk → Prop) : Prop :=
  if T = T2 then
    match P.underlying T with
    | some (.slice e) => match P.info? e, zeroCellsOf P e with
      | some i, some zs =>
        if zs.length = i.size then if 0 < i.size then if 0 < i.bytes then
          match srcCells H i.size x with
          | some (m, ok, (news, H1)) => match s with
            | .own b 0 n sz g => match H1[b]? with
              | some (.row g' cs) => if g = g' then if sz = i.size then
                  ok ∧ n * i.size ≤ cs.length ∧ (n + m) * i.bytes ≤ 140737488355328 ∧ K (.own b 0 (n + m) sz (g + 1)) (H1.set b (.row (g + 1) (cs.take (n * i.size) ++ news)))
                else False else False
              | _ => False
            | .d (.v (.slice none 0 0)) => ok ∧ m * i.bytes ≤ 140737488355328 ∧ K (.own H1.length 0 m i.size 0) (H1 ++ [.row 0 news])
            | _ => False
          | none => False
        else False else False else False
      | _, _ => False
    | _ => False
  else False

def plen (H : List Blk) (x : PV) (K : PV → Prop) : Prop :=
  match x with
  | .d (.sl n _) => K (.d (.v (.int .i64 n)))
  | .own b _ n _ g => if validB H b g then K (.d (.v (.int .i64 n))) else False
  | .d (.v (.slice none 0 0)) => K (.d (.v (.int .i64 0)))
  | _ => False

def pbuiltin (P : Program) (b : Builtin) (argTypes : Array TypeId) (args : List PV) (H : List Blk) (K : PV → List Blk → Prop) : Prop :=
  match b, args with
  | .len, [x] => match argTypes[0]?.bind (P.underlying ·) with
    | some (.slice _) => plen H x (K · H)
    | _ => False
  | .append, [s, x] => match argTypes[0]?, argTypes[1]? with
    | some T, some T2 => pappend P T T2 s x H K
    | _, _ => False
  | .min, [x, y] => match x.atom, y.atom with
    | some (.int k m), some (.int _ n) => K (.d (.v (.int k (if n < m then n else m)))) H
    | _, _ => False
  | .max, [x, y] => match x.atom, y.atom with
    | some (.int k m), some (.int _ n) => K (.d (.v (.int k (if n > m then n else m)))) H
    | _, _ => False
  | .copy, [dst, src] => match argTypes[0]?.bind (P.underlying ·) with
    | some (.slice e) => match P.info? e, dst with
      | some i, .own b off n sz g => match srcCells H i.size src with
        | some (m, ok, (news, H1)) => match H1[b]? with
          | some (.row g' cs) => if g = g' then if sz = i.size then
              ok ∧ off + n * i.size ≤ cs.length ∧ K (.d (.v (.int .i64 (min m n : Nat)))) (H1.set b (.row g (splice cs off (news.take (min m n * i.size)))))
            else False else False
          | _ => False
        | none => False
      | _, _ => False
    | _ => False
  | .clear, [dst] => match argTypes[0]?.bind (P.underlying ·) with
    | some (.slice e) => match P.info? e, zeroCellsOf P e, dst with
      | some i, some zs, .own b off n sz g => match H[b]?, toDs zs with
        | some (.row g' cs), some ds => if g = g' then if sz = i.size then if zs.length = i.size then
            off + n * i.size ≤ cs.length ∧ 0 < i.size ∧ K (.tup []) (H.set b (.row g (splice cs off (rep n ds))))
          else False else False else False
        | _, _ => False
      | _, _, _ => False
    | _ => False
  | _, _ => False

abbrev CallW := FuncId → List PV → List Blk → (PV → List Blk → Prop) → Prop

/-- One operation; C says what a call asks. -/
def pop (P : Program) (C : FuncId → List PV → List Blk → (PV → List Blk → Prop) → Prop) (o : Oper) (env : List PV) (H : List Blk) (K : PV → List Blk → Prop) : Prop :=
  match o.op with
  | .move x => K (ev env x) H
  | .assign x => match x with
    | .const (.slice none 0 0) => match P.underlying o.type with
      | some (.slice e) => match P.info? e with
        | some i => K (.own H.length 0 0 i.size 0) (H ++ [.row 0 []])
        | none => False
      | _ => False
    | x => K (ev env x) H
  | .pick c a b => match ev env c with
    | .kb true => K (ev env a) H
    | .kb false => K (ev env b) H
    | .d (.v (.bool t)) => (t = true → K (ev env a) H) ∧ (t = false → K (ev env b) H)
    | _ => False
  | .alloc T => match zeroCellsOf P T with
    | some zs => K (.ptr H.length 0 0) (H ++ [.box 0 zs])
    | none => False
  | .box _ x => match (ev env x).cells? H with
    | some cs => K (.ptr H.length 0 0) (H ++ [.box 0 cs])
    | none => False
  | .build T parts => match pbuild P T H env parts.toList with
    | some cs => K (.agg cs) H
    | none => False
  | .buildSlice T len parts => match pbuildSlice P T len H env parts.toList with
    | some (sz, cs) => K (.own H.length 0 len sz 0) (H ++ [newBlk cs])
    | none => False
  | .load T a => pload P T (ev env a) H (K · H)
  | .store T a x => pstore P T (ev env a) (ev env x) H (K (.tup []))
  | .nilCheck x => match ev env x with
    | .ptr b off g => match H[b]? with
      | some (.row g' _) => if g = g' then K (.ptr b off g) H else False
      | some (.box g' _) => if g = g' then K (.ptr b off g) H else False
      | _ => False
    | .rp cs => K (.rp cs) H
    | _ => False
  | .binOp op T x y _ => pbin P op T x y (ev env x) (ev env y) H (K · H)
  | .unOp op _ x => match op, ev env x with
    | .not, .kb b => K (.kb !b) H
    | op, x => match x.atom with
      | some a => match semv P (Op.unary op a) with
        | some v => if v.oneCell' then K (.d (.v v)) H else False
        | none => False
      | none => False
  | .convert src dst x => match (ev env x).atom with
    | some a => match semv P (convert src dst a) with
      | some v => if v.oneCell' then K (.d (.v v)) H else False
      | none => False
    | none => False
  | .makeFunc fn first captured => match fn, first.toList with
    | .func f, [] => K (.fn f (captured.toList.map (ev env))) H
    | _, _ => False
  | .makeSlice T l c => match (ev env l).asI, (ev env c).asI, P.underlying T with
    | some (_, l), some (_, c), some (.slice e) => match P.info? e, zeroCellsOf P e with
      | some i, some zs => match toDs zs with
        | some ds => if zs.length = i.size then if 0 < i.size then if 0 < i.bytes then
            0 ≤ l ∧ l ≤ c ∧ c * i.bytes ≤ 140737488355328 ∧ K (.own H.length 0 l.toNat i.size 0) (H ++ [.row 0 (rep l.toNat ds)])
          else False else False else False
        | none => False
      | _, _ => False
    | _, _, _ => False
  | .slice T x lo hi mx => match optI env lo, optI env hi, optI env mx with
    | some l, some h, some m => pslice P T (ev env x) l h m H K
    | _, _, _ => False
  | .fieldAddr S x f => match P.underlying S with
    | some (.struct fs) => match fs[f]? with
      | some fd => match P.info? fd.type with
        | some i => if 0 < i.size then (match ev env x with
          | .ptr b off g => match H[b]? with
            | some (.row g' _) => if g = g' then K (.ptr b (off + fd.offset) g) H else False
            | some (.box g' _) => if g = g' then K (.ptr b (off + fd.offset) g) H else False
            | _ => False
          | .rp cs => K (.rp (cs.drop fd.offset)) H
          | _ => False) else False
        | none => False
      | none => False
    | _ => False
  | .field S x f => match P.underlying S, ev env x with
    | some (.struct fs), .agg cs => match fs[f]? with
      | some fd => match partOf P fd.type cs fd.offset with
        | some y => K y H
        | none => False
      | none => False
    | _, _ => False
  | .indexAddr T x ix => pindexAddr P T ix (ev env x) (ev env ix) H (K · H)
  | .index T x ix => match P.underlying T, ev env x, (ev env ix).asI with
    | some (.array len e), .agg cs, some (_, m) => match P.info? e with
      | some i => atIdx ix m len fun j => match partOf P e cs (j * i.size) with | some y => K y H | none => False
      | none => False
    | some .string, .d (.v (.string s)), some (_, m) => 0 ≤ m ∧ match s[m.toNat]? with | some b => K (.d (.v (.int .u8 b.toNat))) H | none => False
    | _, _, _ => False
  | .extract t ix => match ev env t with
    | .tup vs => match vs[ix]? with | some y => K y H | none => False
    | _ => False
  | .call c => match c.callee with
    | .builtin b => pbuiltin P b c.argTypes (c.args.toList.map (ev env)) H K
    | .value f => match ev env f with
      | .fn f caps => C f (c.args.toList.map (ev env) ++ caps) H K
      | _ => False
    | _ => False
  | _ => False

def sameB : Bool → Bool → Bool
  | true, b => b
  | false, true => false
  | false, false => true

def quietB : Builtin → Bool
  | .len | .min | .max => true
  | _ => false
/-- Operations that only look. -/
def _root_.Go.Op.quiet : Op → Bool
  | .move _ | .pick .. | .build .. | .load .. | .nilCheck _ | .binOp .. | .unOp .. | .convert .. | .makeFunc .. | .slice .. | .fieldAddr .. | .field .. | .indexAddr .. | .index .. | .extract .. => true
  | .assign x => match x with | .const (.slice none 0 0) => false | _ => true
  | .call c => match c.callee with | .builtin b => quietB b | _ => false
  | _ => false

def putE (env : List PV) (dst : Option Tmp) (x : PV) : List PV :=
  match dst with
  | some d => env.set d x
  | none => env

def runOps (P : Program) (C : FuncId → List PV → List Blk → (PV → List Blk → Prop) → Prop) (ops : Array Oper) : List Oper → List PV → List Blk → (List PV → List Blk → Prop) → Prop
  | [], env, H, K => K env H
  | o :: rest, env, H, K =>
    match o.guard with
    | none => pop P C o env H fun r H' => runOps P C ops rest (putE env o.dst r) H' K
    | some (j, want) => match (ops[j]?).bind (·.dst) with
      | none => False
      | some t => match env.getD t .un with
        | .kb b => match sameB b want with
          | true => pop P C o env H fun r H' => runOps P C ops rest (putE env o.dst r) H' K
          | false => runOps P C ops rest (putE env o.dst (.tup [])) H K
        | .d (.v (.bool b)) =>
          (b = want → pop P C o (env.set t (.kb want)) H fun r H' => runOps P C ops rest (putE (env.set t (.kb want)) o.dst r) H' K) ∧
          (b = !want → runOps P C ops rest (putE (env.set t (.kb !want)) o.dst (.tup [])) H K)
        | .tup _ => runOps P C ops rest (putE env o.dst (.tup [])) H K
        | _ => False

inductive PExit where
  | normal | exit (id : Nat) | ret

/-- A loop's states: the slots that it turns and that are read later, with what they may hold; those that are not read later; the local blocks that it turns; those among them whose generation begins anew at the head. -/
structure Ann where
  α : Type
  live : List Nat
  vals : α → List PV
  dead : List Nat
  blks : α → List (Nat × Blk)
  regen : List Nat

/-- References to some blocks are forgotten. -/
def killC (bs : List Nat) : PV → PV
  | .own b off n sz g => if bs.contains b then .un else .own b off n sz g
  | .ptr b off g => if bs.contains b then .un else .ptr b off g
  | .d x => .d x
  | .kb b => .kb b
  | .rp cs => .rp cs
  | _ => .un
def killV (bs : List Nat) : PV → PV
  | .agg cs => .agg (cs.map (killC bs))
  | .tup cs => .tup (cs.map (killC bs))
  | .fn f cs => .fn f (cs.map (killC bs))
  | x => killC bs x

def assocT : List (Nat × PV) → Nat → Option PV
  | [], _ => none
  | (s, v) :: r, t => if s = t then some v else assocT r t

def headFrom (tab : List (Nat × PV)) (dead bs : List Nat) : Nat → List PV → List PV
  | _, [] => []
  | t, x :: r => (match assocT tab t with | some v => v | none => if dead.contains t then .un else killV bs x) :: headFrom tab dead bs (t + 1) r

def setBlks (H : List Blk) : List (Nat × Blk) → List Blk
  | [] => H
  | (b, x) :: r => setBlks (H.set b x) r

def Ann.headE (ann : Ann) (a : ann.α) (env : List PV) : List PV := headFrom (ann.live.zip (ann.vals a)) ann.dead ann.regen 0 env
def Ann.headH (ann : Ann) (a : ann.α) (H : List Blk) : List Blk := setBlks H (ann.blks a)

def genOf (H : List Blk) (b : Nat) : Option Nat := match H[b]? with | some (.row g _) => some g | some (.box g _) => some g | _ => none

def regenV (bs : List Nat) (H : List Blk) : PV → PV
  | .own b off n sz g => if bs.contains b then (if validB H b g then .own b off n sz 0 else .un) else .own b off n sz g
  | x => x
def regenB (bs : List Nat) : Nat → List Blk → List Blk
  | _, [] => []
  | i, .row g cs :: r => (if bs.contains i then .row 0 cs else .row g cs) :: regenB bs (i + 1) r
  | i, .box g cs :: r => (if bs.contains i then .box 0 cs else .box g cs) :: regenB bs (i + 1) r
  | i, .gone g :: r => .gone g :: regenB bs (i + 1) r

def okC (bs : List Nat) (m : Nat) : PV → Bool
  | .own b _ _ _ _ | .ptr b _ _ => Nat.blt b m && !bs.contains b
  | .d _ | .kb _ | .rp _ | .un => true
  | _ => false
def okT (bs : List Nat) (m : Nat) : PV → Bool
  | .own b _ _ _ _ => Nat.blt b m
  | .agg cs | .tup cs | .fn _ cs => cs.all (okC bs m)
  | x => okC bs m x
def okBlk (bs : List Nat) (m : Nat) : Blk → Bool
  | .box _ cs => cs.all (okC bs m)
  | _ => true

def allowed (lim : Nat) (bs : List Nat) (b : Nat) : Bool := Nat.ble lim b || bs.contains b

/-- Is a loop's head in order? -/
def Ann.ok (ann : Ann) (a : ann.α) (H : List Blk) : Bool :=
  (ann.vals a).all (okT ann.regen H.length) && (ann.headH a H).all (okBlk ann.regen H.length)

/-- A state is that of the head. -/
def Ann.fits (ann : Ann) (a : ann.α) (H0 : List Blk) (env : List PV) (H : List Blk) : Prop :=
  ann.live.map (fun t => regenV ann.regen H (env.getD t .un)) = ann.vals a ∧ regenB ann.regen 0 (H.take H0.length) = ann.headH a H0

def opsWrites : List Oper → List Nat
  | [] => []
  | o :: r => match o.dst with | some d => d :: opsWrites r | none => opsWrites r
def writes : Code → List Nat
  | .region _ ops _ => opsWrites ops.toList
  | .seq a b => writes a ++ writes b
  | .cond _ a b => writes a ++ writes b
  | .block _ a => writes a
  | .loop a => writes a
  | _ => []
def firstRegion : Code → Nat
  | .region id _ _ => id
  | .seq a _ => firstRegion a
  | .block _ a => firstRegion a
  | .loop a => firstRegion a
  | _ => 0

def setKb (env : List PV) (x : Operand) (b : Bool) : List PV :=
  match x with
  | .tmp t => env.set t (.kb b)
  | _ => env

/-- Operations of a region that draws its order. -/
def quietOps (P : Program) (CQ : CallW) (ops : Array Oper) : List Oper → List PV → List Blk → (List PV → Prop) → Prop
  | [], env, _, K => K env
  | o :: rest, env, H, K =>
    let go (env : List PV) : Prop :=
      match o.op with
      | .call c => match c.callee with
        | .value f => match ev env f with
          | .fn f caps => CQ f (c.args.toList.map (ev env) ++ caps) H fun r _ => quietOps P CQ ops rest (putE env o.dst r) H K
          | _ => False
        | _ => if o.op.quiet then pop P CQ o env H fun r _ => quietOps P CQ ops rest (putE env o.dst r) H K else False
      | _ => if o.op.quiet then pop P CQ o env H fun r _ => quietOps P CQ ops rest (putE env o.dst r) H K else False
    match o.guard with
    | none => go env
    | some (j, want) => match (ops[j]?).bind (·.dst) with
      | none => False
      | some t => match env.getD t .un with
        | .kb b => match sameB b want with
          | true => go env
          | false => quietOps P CQ ops rest (putE env o.dst (.tup [])) H K
        | .d (.v (.bool b)) =>
          (b = want → go (env.set t (.kb want))) ∧
          (b = !want → quietOps P CQ ops rest (putE (env.set t (.kb !want)) o.dst (.tup [])) H K)
        | .tup _ => quietOps P CQ ops rest (putE env o.dst (.tup [])) H K
        | _ => False

/-- What code asks: A tells the loops' states, C what calls ask, CQ what quiet calls ask. -/
def run (P : Program) (A : Nat → Option Ann) (C CQ : CallW) : Code → Nat → List Nat → List PV → List Blk → (PExit → List PV → List Blk → Prop) → Prop
  | .skip, _, _, env, H, K => K .normal env H
  | .label _, _, _, env, H, K => K .normal env H
  | .ret, _, _, env, H, K => K .ret env H
  | .exit id, _, _, env, H, K => K (.exit id) env H
  | .region _ ops draw, _, _, env, H, K => match draw with
    | false => runOps P C ops ops.toList env H (K .normal)
    | true => if Region.lexB .any ops then quietOps P CQ ops ops.toList env H (fun env' => K .normal env' H) else False
  | .seq a b, lim, bs, env, H, K => run P A C CQ a lim bs env H fun e env' H' => match e with
    | .normal => run P A C CQ b lim bs env' H' K
    | .exit i => K (.exit i) env' H'
    | .ret => K .ret env' H'
  | .cond c t f, lim, bs, env, H, K => match ev env c with
    | .kb true => run P A C CQ t lim bs env H K
    | .kb false => run P A C CQ f lim bs env H K
    | .d (.v (.bool b)) => (b = true → run P A C CQ t lim bs (setKb env c true) H K) ∧ (b = false → run P A C CQ f lim bs (setKb env c false) H K)
    | _ => False
  | .block id body, lim, bs, env, H, K => run P A C CQ body lim bs env H fun e env' H' => match e with
    | .normal => K .normal env' H'
    | .exit i => if i = id then K .normal env' H' else K (.exit i) env' H'
    | .ret => K .ret env' H'
  | .loop body, lim, bs, env, H, K => match A (firstRegion body) with
    | none => False
    | some ann =>
      if ann.regen.all (allowed lim bs) then
        if (writes body).all (fun t => (ann.live ++ ann.dead).contains t) then
          ∃ (inv : ann.α → Prop) (μ : ann.α → Nat), (∃ a, inv a ∧ ann.fits a H env H) ∧ ∀ a, inv a →
            if ann.ok a H then
              run P A C CQ body H.length ann.regen (ann.headE a env) (ann.headH a H) fun e env' H' => match e with
                | .normal => ∃ a', inv a' ∧ μ a' < μ a ∧ ann.fits a' H env' H'
                | .exit i => K (.exit i) env' H'
                | .ret => K .ret env' H'
            else False
        else False
      else False
  | _, _, _, _, _, _ => False

end Go.Pv
