/- The evaluator with values computed through before they are handed on: so equal calls are equal terms. -/
import Derived.Test.YtjbgmaaojbamdaaGreatPv38
namespace Go.Pv
open Go

section
variable {α : Type}
def forceN (n : Nat) (k : Nat → α) : α := match n with | 0 => k 0 | m + 1 => k (m + 1)
def forceI (n : Int) (k : Int → α) : α := match n with
  | .ofNat m => forceN m fun m => k (.ofNat m)
  | .negSucc m => forceN m fun m => k (.negSucc m)
def forceB (b : Bool) (k : Bool → α) : α := match b with | true => k true | false => k false
def forceA (v : Value) (k : Value → α) : α := match v with
  | .int .i64 n => forceI n fun n => k (.int .i64 n)
  | .int .u8 n => forceI n fun n => k (.int .u8 n)
  | .bool b => forceB b fun b => k (.bool b)
  | v => k v
mutual
def forceD : D → (D → α) → α
  | .v x, k => forceA x fun x => k (.v x)
  | .sl n cs, k => forceN n fun n => forceDs cs fun cs => k (.sl n cs)
def forceDs : List D → (List D → α) → α
  | [], k => k []
  | x :: xs, k => forceD x fun x => forceDs xs fun xs => k (x :: xs)
end
mutual
def forceP : PV → (PV → α) → α
  | .d x, k => forceD x fun x => k (.d x)
  | .own b o n z g, k => forceN b fun b => forceN o fun o => forceN n fun n => forceN z fun z => forceN g fun g => k (.own b o n z g)
  | .ptr b o g, k => forceN b fun b => forceN o fun o => forceN g fun g => k (.ptr b o g)
  | .rp cs, k => forceDs cs fun cs => k (.rp cs)
  | .agg cs, k => forcePs cs fun cs => k (.agg cs)
  | .tup cs, k => forcePs cs fun cs => k (.tup cs)
  | .fn f cs, k => forceN f fun f => forcePs cs fun cs => k (.fn f cs)
  | .kb b, k => forceB b fun b => k (.kb b)
  | .un, k => k .un
def forcePs : List PV → (List PV → α) → α
  | [], k => k []
  | x :: xs, k => forceP x fun x => forcePs xs fun xs => k (x :: xs)
end
def forceBlk (b : Blk) (k : Blk → α) : α := match b with
  | .row g cs => forceN g fun g => forceDs cs fun cs => k (.row g cs)
  | .box g cs => forceN g fun g => forcePs cs fun cs => k (.box g cs)
  | .gone g => forceN g fun g => k (.gone g)
def forceH : List Blk → (List Blk → α) → α
  | [], k => k []
  | x :: xs, k => forceBlk x fun x => forceH xs fun xs => k (x :: xs)

theorem forceN_eq (n : Nat) (k : Nat → α) : forceN n k = k n := by cases n <;> rfl
theorem forceI_eq (n : Int) (k : Int → α) : forceI n k = k n := by
  cases n with
  | ofNat m => exact forceN_eq m fun m => k (.ofNat m)
  | negSucc m => exact forceN_eq m fun m => k (.negSucc m)
theorem forceB_eq (b : Bool) (k : Bool → α) : forceB b k = k b := by cases b <;> rfl
theorem forceA_eq (v : Value) (k : Value → α) : forceA v k = k v := by
  unfold forceA
  split
  · exact forceI_eq _ _
  · exact forceI_eq _ _
  · exact forceB_eq _ _
  · rfl
mutual
theorem forceD_eq : ∀ (x : D) (k : D → α), forceD x k = k x
  | .v x, k => by simp only [forceD, forceA_eq]
  | .sl n cs, k => by simp only [forceD, forceN_eq, forceDs_eq cs]
theorem forceDs_eq : ∀ (xs : List D) (k : List D → α), forceDs xs k = k xs
  | [], k => by simp only [forceDs]
  | x :: xs, k => by simp only [forceDs, forceD_eq x, forceDs_eq xs]
end
mutual
theorem forceP_eq : ∀ (x : PV) (k : PV → α), forceP x k = k x
  | .d x, k => by simp only [forceP, forceD_eq]
  | .own b o n z g, k => by simp only [forceP, forceN_eq]
  | .ptr b o g, k => by simp only [forceP, forceN_eq]
  | .rp cs, k => by simp only [forceP, forceDs_eq]
  | .agg cs, k => by simp only [forceP, forcePs_eq cs]
  | .tup cs, k => by simp only [forceP, forcePs_eq cs]
  | .fn f cs, k => by simp only [forceP, forceN_eq, forcePs_eq cs]
  | .kb b, k => by simp only [forceP, forceB_eq]
  | .un, k => by simp only [forceP]
theorem forcePs_eq : ∀ (xs : List PV) (k : List PV → α), forcePs xs k = k xs
  | [], k => by simp only [forcePs]
  | x :: xs, k => by simp only [forcePs, forceP_eq x, forcePs_eq xs]
end
theorem forceBlk_eq (b : Blk) (k : Blk → α) : forceBlk b k = k b := by
  cases b <;> simp only [forceBlk, forceN_eq, forceDs_eq, forcePs_eq]
theorem forceH_eq : ∀ (H : List Blk) (k : List Blk → α), forceH H k = k H
  | [], k => rfl
  | x :: xs, k => by simp only [forceH, forceBlk_eq, forceH_eq xs]
end

def forceR (y : Option (PV × List Blk)) : Option (PV × List Blk) := match y with
  | some (r, H) => forceP r fun r => forceH H fun H => some (r, H)
  | none => none
theorem forceR_eq (y : Option (PV × List Blk)) : forceR y = y := by
  cases y with
  | none => rfl
  | some p => simp only [forceR, forceP_eq, forceH_eq]

/-- Calls, values computed through. -/
def callF (P : Program) (O : Opts) : Nat → CallX
  | 0, _, _, _ => none
  | n + 1, f, args, H => match O.special f with
    | some s => forcePs args fun args => forceH H fun H => forceR (s args H)
    | none => match P.funcs[f]? with
      | none => none
      | some fn => if enters fn then
          (match (match O.inl f with | true => none | false => lendL H args) with
          | some ys => forcePs ys fun ys => (match forceR (bodyX P (callF P O n) O.loops (O.drawn (callF P O n)) fn ys []) with
            | some (r, H') => outSafe args r H' H
            | none => none)
          | none => forcePs args fun args => forceH H fun H => (match forceR (bodyX P (callF P O n) O.loops (O.drawn (callF P O n)) fn args H) with
            | some (r, H') => some (trimX H.length r H')
            | none => none))
        else none

theorem callF_eq (P : Program) (O : Opts) : ∀ n, callF P O n = callX P O n
  | 0 => by funext f args H; rfl
  | n + 1 => by
    funext f args H
    simp only [callF, callX, forcePs_eq, forceH_eq, forceR_eq, callF_eq P O n]
    rfl

/-- The drawers, but for the one whose test of the order is dear. -/
def drawZ (P : Program) (C : CallX) : DrawX := fun ops T H => match drawC P C ops T H with
  | some y => some y
  | none => drawI P C ops T H
theorem drawZ_ok {P : Program} {CX : CallX} (hC : CallSound P (asW CX)) (hm : P.follows .mixedOrders = true) : DrawOK P (drawZ P CX) := by
  intro n0 id ops c T env a T' H' Q h hT hs hq
  unfold drawZ at h
  split at h
  · rename_i hx
    exact drawC_ok hC hm (hx.trans h) hT hs hq
  · exact drawI_ok hC hm h hT hs hq
def optsZ (P : Program) (tbl : List (Nat × SpecX)) (inl : List Nat) : Opts where
  special := assocS tbl
  inl f := memN f inl
  loops := 100000
  drawn := drawZ P

theorem soundF {P : Program} (hm : P.follows .mixedOrders = true) {tbl : List (Nat × SpecX)} (ht : AllOK P tbl) (inl : List Nat) (n : Nat) : CallSound P (asW (callF P (optsZ P tbl inl) n)) := by
  rw [callF_eq]
  exact callX_sound (fun f s h => ht.get f s h) (fun _ hC => drawZ_ok hC hm) n
end Go.Pv
