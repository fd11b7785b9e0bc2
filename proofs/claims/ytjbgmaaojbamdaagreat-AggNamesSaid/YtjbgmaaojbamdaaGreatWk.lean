/- The library's functions that are told, walked; the evaluator's options. -/
import Derived.Test.YtjbgmaaojbamdaaGreatPv39
import Derived.Test.YtjbgmaaojbamdaaGreatProg
import Derived.KernelRfl
import Derived.Shelf.RegionOpenPlain
import Derived.WalkKit
import Derived.Deep.RegionLaw
import Derived.Lib.Walk
import Derived.Lib.SliceRun
import Derived.Lib.AppendZeros
import Derived.Shelf.Spec.SlicesInsert
import Derived.Maps.OwnSet
namespace Go.Pv
open Go Go.Proofs
set_option linter.unusedVariables false
theorem mixedOrders : Tryz.prog.follows .mixedOrders = true := by kernel_rfl
section
open Go.RowKit Go.Lib

theorem clone75 : SpecOK Tryz.prog 75 (cloneX 11) :=
  clone_spec mixedOrders (tb := 4) ⟨Tryz.func75, by kernel_rfl, by kernel_rfl, by kernel_rfl, by kernel_rfl⟩ (ElemT.of Tryz.underlying26 (by' := 88) (by kernel_rfl))

theorem clone82 : SpecOK Tryz.prog 82 (cloneX 1) :=
  clone_spec mixedOrders (tb := 4) ⟨Tryz.func82, by kernel_rfl, by kernel_rfl, by kernel_rfl, by kernel_rfl⟩ (ElemT.of Tryz.underlying25 (by' := 8) (by kernel_rfl))

theorem clone120 : SpecOK Tryz.prog 120 (cloneX 11) :=
  clone_spec mixedOrders (tb := 4) ⟨Tryz.func120, by kernel_rfl, by kernel_rfl, by kernel_rfl, by kernel_rfl⟩ (ElemT.of Tryz.underlying24 (by' := 88) (by kernel_rfl))

theorem clone121 : SpecOK Tryz.prog 121 (cloneX 5) :=
  clone_spec mixedOrders (tb := 4) ⟨Tryz.func121, by kernel_rfl, by kernel_rfl, by kernel_rfl, by kernel_rfl⟩ (ElemT.of Tryz.underlying27 (by' := 40) (by kernel_rfl))

theorem clone122 : SpecOK Tryz.prog 122 (cloneX 5) :=
  clone_spec mixedOrders (tb := 4) ⟨Tryz.func122, by kernel_rfl, by kernel_rfl, by kernel_rfl, by kernel_rfl⟩ (ElemT.of Tryz.underlying28 (by' := 40) (by kernel_rfl))

theorem clone123 : SpecOK Tryz.prog 123 (cloneX 3) :=
  clone_spec mixedOrders (tb := 4) ⟨Tryz.func123, by kernel_rfl, by kernel_rfl, by kernel_rfl, by kernel_rfl⟩ (ElemT.of Tryz.underlying29 (by' := 24) (by kernel_rfl))

theorem clone129 : SpecOK Tryz.prog 129 (cloneX 2) :=
  clone_spec mixedOrders (tb := 4) ⟨Tryz.func129, by kernel_rfl, by kernel_rfl, by kernel_rfl, by kernel_rfl⟩ (ElemT.of Tryz.underlying80 (by' := 32) (by kernel_rfl))

theorem clone130 : SpecOK Tryz.prog 130 (cloneX 10) :=
  clone_spec mixedOrders (tb := 4) ⟨Tryz.func130, by kernel_rfl, by kernel_rfl, by kernel_rfl, by kernel_rfl⟩ (ElemT.of Tryz.underlying67 (by' := 80) (by kernel_rfl))

theorem clone131 : SpecOK Tryz.prog 131 (cloneX 5) :=
  clone_spec mixedOrders (tb := 4) ⟨Tryz.func131, by kernel_rfl, by kernel_rfl, by kernel_rfl, by kernel_rfl⟩ (ElemT.of Tryz.underlying35 (by' := 40) (by kernel_rfl))

theorem clone132 : SpecOK Tryz.prog 132 (cloneX 1) :=
  clone_spec mixedOrders (tb := 4) ⟨Tryz.func132, by kernel_rfl, by kernel_rfl, by kernel_rfl, by kernel_rfl⟩ (ElemT.of Tryz.underlying36 (by' := 8) (by kernel_rfl))

theorem clone133 : SpecOK Tryz.prog 133 (cloneX 2) :=
  clone_spec mixedOrders (tb := 4) ⟨Tryz.func133, by kernel_rfl, by kernel_rfl, by kernel_rfl, by kernel_rfl⟩ (ElemT.of Tryz.underlying75 (by' := 16) (by kernel_rfl))

theorem clone134 : SpecOK Tryz.prog 134 (cloneX 5) :=
  clone_spec mixedOrders (tb := 4) ⟨Tryz.func134, by kernel_rfl, by kernel_rfl, by kernel_rfl, by kernel_rfl⟩ (ElemT.of Tryz.underlying76 (by' := 40) (by kernel_rfl))

theorem clone135 : SpecOK Tryz.prog 135 (cloneX 9) :=
  clone_spec mixedOrders (tb := 4) ⟨Tryz.func135, by kernel_rfl, by kernel_rfl, by kernel_rfl, by kernel_rfl⟩ (ElemT.of Tryz.underlying79 (by' := 168) (by kernel_rfl))

theorem clone151 : SpecOK Tryz.prog 151 (cloneX 2) :=
  clone_spec mixedOrders (tb := 4) ⟨Tryz.func151, by kernel_rfl, by kernel_rfl, by kernel_rfl, by kernel_rfl⟩ (ElemT.of Tryz.underlying148 (by' := 16) (by kernel_rfl))

/-- An operation of a region that draws whose run is known. -/
theorem step_append_run {P : Program} {ops : Array Oper} {o : Oper} {a : Act} {w : World} {K : Act → World → Prop} {Q : Exit → Act → World → Prop} {E : Prop}
    (hg : o.guard = none) (s x : Operand) (t t2 : TypeId) (hop : o.op = Op.call { callee := Callee.builtin Builtin.append, args := #[s, x], argTypes := #[t, t2] })
    (v u : Value) (hs : a.eval s = v) (hx : a.eval x = u) {v' : Value} {w' : World} (hr : (Builtin.append_ #[t, t2] o.type #[v, u]).run P w = .ok v' w') (hK : K (a.put o.dst v') w') :
    if Region.wanted o (yielded ops a.tmps) = true then Oper.wp P o a w K Q else E := by
  have hw : Region.wanted o (yielded ops a.tmps) = true := by simp [Region.wanted, hg]
  rw [if_pos hw]
  unfold Oper.wp
  simp [execOp, hop, resolve, invoke, builtin, hs, hx, hr, Result.andThen]
  exact hK

set_option maxHeartbeats 4000000 in
set_option maxRecDepth 1000000 in
theorem delete115_gen (B n k i : Nat) (w W1 W2 : World) (hi : i < n) (hnk : n ≤ k) (hik : ¬ (k = i + 1))
    (ha : ∀ ty, (Builtin.append_ #[26, 26] ty #[.slice (some ⟨B, 0, none⟩) i k, .slice (some ⟨B, (i + 1) * 11, none⟩) (n - (i + 1)) (k - (i + 1))]).run Tryz.prog w.drew = .ok (.slice (some ⟨B, 0, none⟩) (n - 1) k) W1)
    (hc : ∀ ty, (Builtin.clear_ #[26] ty #[.slice (some ⟨B, (n - 1) * 11, none⟩) (n - (n - 1)) (k - (n - 1))]).run Tryz.prog W1 = .ok (.tuple #[]) W2) :
    Calls Tryz.prog 115 #[.slice (some ⟨B, 0, none⟩) n k, .int .i64 i, .int .i64 ((i : Int) + 1)] w fun e w' => e = .returned (.slice (some ⟨B, 0, none⟩) (n - 1) k) ∧ w' = W2 := by
  have hik2 : i ≤ k := by omega
  have hik3 : i + 1 ≤ k := by omega
  have hne : ¬ ((i : Int) = (i : Int) + 1) := by omega
  have ht : ((i : Int) + 1).toNat = i + 1 := by omega
  have hin : i ≤ n := by omega
  have hin2 : i + 1 ≤ n := by omega
  go_enter Tryz.func115, Tryz.ntmps115
  have mixed : Tryz.prog.follows .mixedOrders = true := by kernel_rfl
  have hz1 : (0 : Int) ≤ (i : Int) + 1 := by omega
  have hz2 : (i : Int) + 1 ≤ (n : Int) := by omega
  have hz3 : (i : Int) ≤ (i : Int) + 1 := by omega
  have hz4 : (i : Int) ≤ (k : Int) := by omega
  have hz5 : (i : Int) + 1 ≤ (k : Int) := by omega
  have hb1 : ¬ (k = n - 1) := by omega
  have hb2 : n - 1 ≤ n := by omega
  have hb3 : n ≤ k := hnk
  go_wp2_with fail
  go_region_law_o (refine step_append_run rfl (.tmp 22) (.tmp 25) 26 26 rfl _ _ (by simp [Act.eval, Act.put]) (by simp [Act.eval, Act.put]) (ha _) ?_)
  go_wp2_with fail
  go_ret
  exact ⟨rfl, rfl⟩

set_option maxHeartbeats 4000000 in
set_option maxRecDepth 1000000 in
theorem delete115_last (B i : Nat) (w W1 W2 : World)
    (ha : ∀ ty, (Builtin.append_ #[26, 26] ty #[.slice (some ⟨B, 0, none⟩) i (i + 1), .slice (some ⟨B, 0, none⟩) 0 0]).run Tryz.prog w.drew = .ok (.slice (some ⟨B, 0, none⟩) i (i + 1)) W1)
    (hc : ∀ ty, (Builtin.clear_ #[26] ty #[.slice (some ⟨B, i * 11, none⟩) 1 1]).run Tryz.prog W1 = .ok (.tuple #[]) W2) :
    Calls Tryz.prog 115 #[.slice (some ⟨B, 0, none⟩) (i + 1) (i + 1), .int .i64 i, .int .i64 ((i : Int) + 1)] w fun e w' => e = .returned (.slice (some ⟨B, 0, none⟩) i (i + 1)) ∧ w' = W2 := by
  have hne : ¬ ((i : Int) = (i : Int) + 1) := by omega
  have ht : ((i : Int) + 1).toNat = i + 1 := by omega
  have mixed : Tryz.prog.follows .mixedOrders = true := by kernel_rfl
  have hz1 : (0 : Int) ≤ (i : Int) + 1 := by omega
  have hz3 : (i : Int) ≤ (i : Int) + 1 := by omega
  have hs1 : i + 1 - i = 1 := by omega
  have hs2 : ¬ (i + 1 = i) := by omega
  go_enter Tryz.func115, Tryz.ntmps115
  go_wp2_with fail
  go_region_law_o (refine step_append_run rfl (.tmp 22) (.tmp 25) 26 26 rfl _ _ (by simp [Act.eval, Act.put]) (by simp [Act.eval, Act.put]) (ha _) ?_)
  go_wp2_with fail
  go_ret
  exact ⟨rfl, rfl⟩
theorem delete115 : SpecOK Tryz.prog 115 (deleteX 11) :=
  delete_spec (T := 26) ⟨fun vs w => enters_run Tryz.func115 (by kernel_rfl) vs w, fun B n k i w W1 W2 h1 h2 h3 ha hc => delete115_gen B n k i w W1 W2 h1 h2 h3 ha hc, fun B i w W1 W2 ha hc => delete115_last B i w W1 W2 ha hc⟩ (ElemT.of Tryz.underlying26 (by' := 88) (by kernel_rfl))

set_option maxHeartbeats 4000000 in
set_option maxRecDepth 1000000 in
theorem insert119_end (n k k2 : Nat) (A : Option Addr) (hA : A = none → n = 0 ∧ k = 0) (A2 : Addr) (w W1 : World) (v : Value) (hnk : n ≤ k) (hn : n ≤ 4294967296)
    (ha : ∀ ty, (Builtin.append_ #[26, 26] ty #[.slice A n k, .slice (some A2) 1 k2]).run Tryz.prog w = .ok v W1) :
    Calls Tryz.prog 119 #[.slice A n k, .int .i64 n, .slice (some A2) 1 k2] w fun e w' => e = .returned v ∧ w' = W1 := by
  cases A with
  | none =>
    obtain ⟨rfl, rfl⟩ := hA rfl
    go_enter Tryz.func119, Tryz.ntmps119
    go_wp2_with (at_builtin; refine Lib.wpList_append_run _ rfl _ _ _ _ rfl _ _ rfl rfl _ _ (ha _) ?_)
    go_ret
    exact ⟨rfl, rfl⟩
  | some A =>
    obtain ⟨B, o, s⟩ := A
    clear hA
    go_enter Tryz.func119, Tryz.ntmps119
    go_wp2_with (at_builtin; refine Lib.wpList_append_run _ rfl _ _ _ _ rfl _ _ rfl rfl _ _ (ha _) ?_)
    all_goals (go_ret; exact ⟨rfl, rfl⟩)

set_option maxHeartbeats 4000000 in
set_option maxRecDepth 1000000 in
theorem insert119_room (B n k k2 i : Nat) (A2 : Addr) (w W1 W2 : World) (hi : i < n) (hroom : n + 1 ≤ k) (hn : n ≤ 4294967296)
    (hov : ∀ lb cb, (callFunc 157 #[.slice (some A2) 1 k2, .slice (some ⟨B, (i + 1) * 11, none⟩) lb cb]).run Tryz.prog w = .ok (.value (.bool false)) w)
    (h1 : ∀ ty dc sc, (Builtin.copy_ #[26, 26] ty #[.slice (some ⟨B, (i + 1) * 11, none⟩) (n - i) dc, .slice (some ⟨B, i * 11, none⟩) (n + 1 - i) sc]).run Tryz.prog w.drew = .ok (goInt ((n - i : Nat) : Int)) W1)
    (h2 : ∀ ty dc, (Builtin.copy_ #[26, 26] ty #[.slice (some ⟨B, i * 11, none⟩) (n + 1 - i) dc, .slice (some A2) 1 k2]).run Tryz.prog W1 = .ok (goInt 1) W2) :
    Calls Tryz.prog 119 #[.slice (some ⟨B, 0, none⟩) n k, .int .i64 i, .slice (some A2) 1 k2] w fun e w' => e = .returned (.slice (some ⟨B, 0, none⟩) (n + 1) k) ∧ w' = W2 := by
  have hne : ¬ ((i : Int) = (n : Int)) := by omega
  have ht : ((i : Int) + 1).toNat = i + 1 := by omega
  have htn : ((n : Int) + 1).toNat = n + 1 := by omega
  have mixed : Tryz.prog.follows .mixedOrders = true := by kernel_rfl
  have hw1 : IntKind.i64.wrap ((i : Int) + 1) = (i : Int) + 1 := by rw [IntKind.wrap_i64]; omega
  have hw2 : IntKind.i64.wrap ((n : Int) + 1) = (n : Int) + 1 := by rw [IntKind.wrap_i64]; omega
  have hz1 : (0 : Int) ≤ (i : Int) + 1 := by omega
  have hz2 : (i : Int) + 1 ≤ (n : Int) := by omega
  have hz3 : (i : Int) + 1 ≤ (n : Int) + 1 := by omega
  have hz4 : (i : Int) ≤ (n : Int) + 1 := by omega
  have hz5 : (0 : Int) ≤ (n : Int) + 1 := by omega
  have hz6 : (n : Int) + 1 ≤ (k : Int) := by omega
  have hb1 : ¬ (k = i + 1) := by omega
  have hb2 : ¬ (k = i) := by omega
  have hb3 : i ≤ n := by omega
  have hb4 : i ≤ k := by omega
  go_enter Tryz.func119, Tryz.ntmps119
  go_wp2_with (simp only [hov])
  go_region_law_o (refine step_copy_runI rfl _ _ 26 26 rfl _ _ (by simp [Act.eval, Act.put]) (by simp [Act.eval, Act.put]) (h1 _ _ _) ?_)
  go_wp2_with (at_builtin; refine wpList_copy_runI _ rfl _ _ 26 26 rfl _ _ rfl rfl (h2 _ _) ?_)
  go_ret
  exact ⟨rfl, rfl⟩

set_option maxHeartbeats 4000000 in
set_option maxRecDepth 1000000 in
theorem insert119_grow (B n k2 i cap2 : Nat) (A2 : Addr) (w W1 W2 W3 : World) (B2 : Nat) (hi : i < n) (hn : n ≤ 4294967296) (hcap : n + 1 ≤ cap2)
    (h0 : ∀ ty, (Builtin.append_ #[26, 3] ty #[.slice (some ⟨B, 0, none⟩) i n, .int .i64 ((n : Int) + 1 - i)]).run Tryz.prog w = .ok (.slice (some ⟨B2, 0, none⟩) (n + 1) cap2) W1)
    (h1 : ∀ ty dc, (Builtin.copy_ #[26, 26] ty #[.slice (some ⟨B2, i * 11, none⟩) (n + 1 - i) dc, .slice (some A2) 1 k2]).run Tryz.prog W1 = .ok (goInt 1) W2)
    (h2 : ∀ ty dc sc, (Builtin.copy_ #[26, 26] ty #[.slice (some ⟨B2, (i + 1) * 11, none⟩) (n - i) dc, .slice (some ⟨B, i * 11, none⟩) (n - i) sc]).run Tryz.prog W2.drew = .ok (goInt ((n - i : Nat) : Int)) W3) :
    Calls Tryz.prog 119 #[.slice (some ⟨B, 0, none⟩) n n, .int .i64 i, .slice (some A2) 1 k2] w fun e w' => e = .returned (.slice (some ⟨B2, 0, none⟩) (n + 1) cap2) ∧ w' = W3 := by
  have hne : ¬ ((i : Int) = (n : Int)) := by omega
  have ht : ((i : Int) + 1).toNat = i + 1 := by omega
  have mixed : Tryz.prog.follows .mixedOrders = true := by kernel_rfl
  have hw1 : IntKind.i64.wrap ((i : Int) + 1) = (i : Int) + 1 := by rw [IntKind.wrap_i64]; omega
  have hw2 : IntKind.i64.wrap ((n : Int) + 1) = (n : Int) + 1 := by rw [IntKind.wrap_i64]; omega
  have hw3 : IntKind.i64.wrap ((n : Int) + 1 - (i : Int)) = (n : Int) + 1 - i := by rw [IntKind.wrap_i64]; omega
  have hz1 : (0 : Int) ≤ (i : Int) + 1 := by omega
  have hz2 : (i : Int) + 1 ≤ (n : Int) := by omega
  have hz3 : (i : Int) + 1 ≤ (n : Int) + 1 := by omega
  have hz4 : (i : Int) ≤ (n : Int) + 1 := by omega
  have hz5 : (0 : Int) ≤ (n : Int) + 1 := by omega
  have hz7 : (n : Int) < (n : Int) + 1 := by omega
  have hb0 : ¬ (n = i) := by omega
  have hb1 : ¬ (cap2 = i + 1) := by omega
  have hb2 : ¬ (cap2 = i) := by omega
  have hb3 : i ≤ n := by omega
  have hb4 : i ≤ cap2 := by omega
  have hb5 : i + 1 ≤ cap2 := by omega
  have hb6 : i ≤ n + 1 := by omega
  go_enter Tryz.func119, Tryz.ntmps119
  go_wp2_with (at_builtin; refine Lib.wpList_append_run _ rfl _ _ _ _ rfl _ _ rfl rfl _ _ (h0 _) ?_)
  all_goals go_wp2_with (at_builtin; refine wpList_copy_runI _ rfl _ _ 26 26 rfl _ _ rfl rfl (h1 _ _) ?_)
  go_region_law_o (refine step_copy_runI rfl _ _ 26 26 rfl _ _ (by simp [Act.eval, Act.put]) (by simp [Act.eval, Act.put]) (h2 _ _ _) ?_)
  go_wp2_with fail
  go_ret
  exact ⟨rfl, rfl⟩
theorem overlaps119 (B B2 o o2 la ca lb cb : Nat) (w : World) (C C2 : Array Value) (T1 T2 : TypeId) (hne : B2 ≠ B) (h2 : w.heap[B2]? = some (.cells C2 T2 (0, 0))) (h1 : w.heap[B]? = some (.cells C T1 (0, 0))) (hC : 0 < C.size) :
    (callFunc 157 #[.slice (some ⟨B2, o2, none⟩) la ca, .slice (some ⟨B, o, none⟩) lb cb]).run Tryz.prog w = .ok (.value (.bool false)) w := by
  rw [run_callFunc_extern Tryz.func157 (by kernel_rfl) (by kernel_rfl) (by kernel_rfl) (e := Extern.SlicesOverlaps.overlaps #[26, 26] #[4]) (by kernel_rfl),
    Lib.run_overlaps_apart w 26 4 62 Tryz.underlying26 11 Tryz.sizeOf62 ⟨B2, o2, none⟩ ⟨B, o, none⟩ la ca lb cb hne T2 T1 C2.size C.size (by simp [World.shape?, h2]) (by simp [World.shape?, h1]) (by omega) (by simp [World.frozen?, h2]) (by simp [World.frozen?, h2])]
  rfl
theorem insert119 : SpecOK Tryz.prog 119 (insertX 11) :=
  insert_spec (T := 26) (tn := 3) ⟨fun vs w => enters_run Tryz.func119 (by kernel_rfl) vs w, fun n k k2 A A2 w W1 v h1 h2 h3 ha => insert119_end n k k2 A h1 A2 w W1 v h2 h3 ha,
    fun B n k k2 i B2 o2 w W1 W2 C C2 T1 T2 h1 h2 h3 h4 h5 h6 h7 ha hb => insert119_room B n k k2 i ⟨B2, o2, none⟩ w W1 W2 h1 h2 h3 (fun lb cb => overlaps119 B B2 _ o2 _ _ lb cb w C C2 T1 T2 h4 h5 h6 h7) ha hb,
    fun B n k2 i cap2 A2 w W1 W2 W3 B2 h1 h2 h3 ha hb hc => insert119_grow B n k2 i cap2 A2 w W1 W2 W3 B2 h1 h2 h3 ha hb hc⟩ Tryz.underlying3 (ElemT.of Tryz.underlying26 (by' := 88) (by kernel_rfl))

end
section
open Go.RowKit Go.Maps Go.WideMaps
theorem lawI178 : Keyed Tryz.prog 3 := int_keyed Tryz.underlying3
set_option maxRecDepth 100000 in
theorem distinct178_none (a : Option Addr) (cap : Nat) (w : World) : Calls Tryz.prog 178 #[.slice a 0 cap] w fun e w' => e = .returned (.int .i64 0) ∧ Below w.heap.size w w' := by
  have hmm := @run_makeMap Tryz.prog
  go_enter Tryz.func178, Tryz.ntmps178
  go_wp2
  refine wp_loop_rounds 1 ?_
  rw [rounds_succ]
  go_wp2_with (first
    | (at_len; refine wpList_len_own _ rfl _ 282 rfl 3 4 Tryz.underlying282 (plainElem (H := Unit) Tryz.prog 4) w.heap.size 0 (.map []) rfl (World.ownsMap_made _ _ _ _) ?_)
    | go_in)
  go_ret
  exact ⟨rfl, (Below.refl _ _).alloc (Nat.le_refl _) _⟩

set_option maxRecDepth 100000 in
theorem distinct178_any (b off len cap : Nat) (zf : Nat → Int) (w : World) (hreach : len ≤ 4294967296) (hb : b < w.heap.size)
    (hc : ∀ j, j < len → w.cell? ⟨b, off + j, none⟩ = some (.int .i64 (zf j))) (hwf : ∀ j, (Lit.int .i64 (zf j)).wf = true) :
    Calls Tryz.prog 178 #[.slice (some ⟨b, off, none⟩) len cap] w fun e w' => e = .returned (.int .i64 (Maps.size (SnI (H := Unit) zf len))) ∧ Below w.heap.size w w' := by
  have hmm := @run_makeMap Tryz.prog
  go_enter Tryz.func178, Tryz.ntmps178
  go_wp2
  go_loopw [9] (fun i wr => ∃ k : Nat, k ≤ len ∧ i = .int .i64 k ∧ wr.ownsMap Tryz.prog 3 (plainElem Tryz.prog 4) w.heap.size k (SnI (H := Unit) zf k) ∧ Below w.heap.size w wr)
    (fun i _ => len - (intOf i).toNat)
  case atStart => exact ⟨0, Nat.zero_le _, rfl, by rw [SnI_zero]; exact World.ownsMap_made _ _ _ _, (Below.refl _ _).alloc (Nat.le_refl _) _⟩
  case round =>
    obtain ⟨k, hk, rfl, hown, hnx⟩ := hrel
    have hcx : k < len → wr.cell? ⟨b, off + k, none⟩ = some (.int .i64 (zf k)) := fun _ => (hnx.cell (by exact hb)).trans (hc k (by omega))
    have hkey : keyOf Tryz.prog 3 (.int .i64 (zf k)) = some (.int .i64 (zf k)) := keyOf_int_mk Tryz.underlying3 (hwf k)
    go_wp2_with (first
      | (at_mapUpdate; refine wpList_mapUpdate_own _ rfl _ _ _ 282 rfl 3 4 lawI178 Tryz.underlying282 (plainElem (H := Unit) Tryz.prog 4) w.heap.size k _ rfl hown (by unfold maxLen; omega) _ _ _ rfl rfl hkey _ [] (plainElem_bool Tryz.underlying4 true) ?_; intro w1 hown1 hgrow1)
      | (at_len; refine wpList_len_own _ rfl _ 282 rfl 3 4 Tryz.underlying282 _ w.heap.size k _ rfl hown ?_)
      | go_in)
    · have hlt : k < len := by assumption
      go_roundw
      case rel => exact ⟨k + 1, by omega, by go_num, (SnI_succ zf k).symm ▸ hown1, hnx.grown hgrow1 hnx.size (fun j hj => by cases hj; exact Nat.le_refl _)⟩
      case measure => simp [intOf]; omega
    · have : k = len := by omega
      subst this
      go_ret
      exact ⟨rfl, hnx⟩
theorem distinct178 : SpecOK Tryz.prog 178 distinctX :=
  distinct_spec ⟨fun vs w => enters_run Tryz.func178 (by kernel_rfl) vs w, fun a cap w => distinct178_none a cap w, fun b off len cap zf w h1 h2 h3 h4 => distinct178_any b off len cap zf w h1 h2 h3 h4⟩

end
def table : List (Nat × SpecX) := [(75, cloneX 11), (82, cloneX 1), (120, cloneX 11), (121, cloneX 5), (122, cloneX 5), (123, cloneX 3), (129, cloneX 2), (130, cloneX 10), (131, cloneX 5), (132, cloneX 1), (133, cloneX 2), (134, cloneX 5), (135, cloneX 9), (151, cloneX 2), (115, deleteX 11), (119, insertX 11), (178, distinctX)]
theorem table_ok : AllOK Tryz.prog table := .cons clone75 (.cons clone82 (.cons clone120 (.cons clone121 (.cons clone122 (.cons clone123 (.cons clone129 (.cons clone130 (.cons clone131 (.cons clone132 (.cons clone133 (.cons clone134 (.cons clone135 (.cons clone151 (.cons delete115 (.cons insert119 (.cons distinct178 (.nil)))))))))))))))))
def inPlace : List Nat := [48, 49, 65, 77, 79, 80, 83, 93, 97, 112, 118, 137, 138, 148, 152, 156, 157, 158, 160, 161, 162, 163, 164, 165, 166, 167, 168, 177, 180, 181, 183, 184, 185, 186, 188, 189, 192, 194, 195, 196, 197, 198, 199, 200, 201, 202, 203, 204, 207, 209, 210, 211, 212, 213, 214, 216, 217, 218, 219, 220, 223, 224, 225, 226, 228]
noncomputable def theOpts : Opts := optsZ Tryz.prog table inPlace
theorem theSound (n : Nat) : CallSound Tryz.prog (asW (callF Tryz.prog theOpts n)) := soundF mixedOrders table_ok inPlace n
end Go.Pv
