/- Functions of Go's library that are told, not run. -/
import Derived.Test.YtjbgmaaojbamdaaGreatPv29
namespace Go.Pv
open Go

/-- slices.Clone at elements of some cells. -/
def cloneX (esz : Nat) (args : List PV) (H : List Blk) : Option (PV × List Blk) := match args with
  | [.d (.v (.slice none 0 0))] => some (.own H.length 0 0 esz 0, H ++ [.row 0 []])
  | [.d (.sl n cs)] => if cs.length = n * esz then if n ≤ 4294967296 then some (.own H.length 0 n esz 0, H ++ [.row 0 cs]) else none else none
  | [.own b off n sz g] => match H[b]? with
    | some (.row g' cs) => if g = g' then if sz = esz then if off + n * sz ≤ cs.length then if n ≤ 4294967296 then if (cut cs off (n * sz)).all flatD then some (.own H.length 0 n esz 0, H ++ [.row 0 (cut cs off (n * sz))]) else none else none else none else none else none
    | _ => none
  | _ => none

/-- slices.Insert of one element. -/
def insertX (esz : Nat) (args : List PV) (H : List Blk) : Option (PV × List Blk) := match args with
  | [.own b 0 n sz g, .d (.v (.int .i64 i)), .own b2 0 1 sz2 g2] => match H[b]?, H[b2]? with
    | some (.row g' cs), some (.row g2' vs) => if g = g' then if g2 = g2' then if sz = esz then if sz2 = esz then if cs.length = n * esz then if vs.length = esz then if n ≤ 4294967296 then if 0 ≤ i then if i ≤ n then if b = b2 then none else
        some (.own b 0 (n + 1) esz (g + 1), H.set b (.row (g + 1) (cs.take (i.toNat * esz) ++ vs ++ cs.drop (i.toNat * esz))))
      else none else none else none else none else none else none else none else none else none
    | _, _ => none
  | _ => none

/-- slices.Delete of one element. -/
def deleteX (esz : Nat) (args : List PV) (H : List Blk) : Option (PV × List Blk) := match args with
  | [.own b 0 n sz g, .d (.v (.int .i64 i)), .d (.v (.int .i64 j))] => match H[b]? with
    | some (.row g' cs) => if g = g' then if sz = esz then if cs.length = n * esz then if n ≤ 4294967296 then if 0 ≤ i then if i < n then if j = i + 1 then
        some (.own b 0 (n - 1) esz (g + 1), H.set b (.row (g + 1) (cs.take (i.toNat * esz) ++ cs.drop ((i.toNat + 1) * esz))))
      else none else none else none else none else none else none else none
    | _ => none
  | _ => none

def intsOf : List D → Option (List Int)
  | [] => some []
  | .v (.int .i64 n) :: r => if -9223372036854775808 ≤ n then if n ≤ 9223372036854775807 then (match intsOf r with | some l => some (n :: l) | none => none) else none else none
  | _ => none

def anyI (x : Int) : List Int → Bool
  | [] => false
  | y :: r => if y = x then true else anyI x r
/-- How many different numbers there are. -/
def countI (l : List Int) : Nat := (l.foldl (fun acc x => match anyI x acc with | true => acc | false => acc ++ [x]) []).length

/-- clauses.distinct: how many different numbers there are. -/
def distinctX (args : List PV) (H : List Blk) : Option (PV × List Blk) := match lendL H args with
  | some [.d (.sl n cs)] => match intsOf cs with
    | some l => if l.length = n then if n ≤ 4294967296 then some (.d (.v (.int .i64 (countI l : Nat))), H) else none else none
    | none => none
  | _ => none

def drawB (P : Program) (C : CallX) : DrawX := fun ops T H => match drawQ P C ops T H with
  | some y => some y
  | none => drawC P C ops T H

theorem drawB_ok {P : Program} {CX : CallX} (hC : CallSound P (asW CX)) (hm : P.follows .mixedOrders = true) : DrawOK P (drawB P CX) := by
  intro n0 id ops c T env a T' H' Q h hT hs hq
  unfold drawB at h
  split at h
  · rename_i hx
    exact drawQ_ok hC hm (hx.trans h) hT hs hq
  · exact drawC_ok hC hm h hT hs hq
end Go.Pv
