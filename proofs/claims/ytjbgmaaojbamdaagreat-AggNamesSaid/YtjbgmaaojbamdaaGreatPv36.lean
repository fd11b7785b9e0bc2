/- New blocks moved into places that were kept for them. -/
import Derived.Test.YtjbgmaaojbamdaaGreatPv35
namespace Go.Pv
open Go

def reGen (g : Nat) : Blk → Blk
  | .row _ cs => .row g cs
  | .box _ cs => .box g cs
  | .gone _ => .gone g
theorem reGen_cells (g : Nat) (x : Blk) : (reGen g x).cells = x.cells ∧ (reGen g x).live = x.live ∧ (reGen g x).gen = g := by
  cases x <;> exact ⟨rfl, rfl, rfl⟩

/-- Values told anew: the block N, of generation g0, is now the block b, of generation g. -/
def renC (N b g0 g : Nat) : PV → PV
  | .own b' off n sz g' => (match Nat.beq b' N with | true => (match Nat.beq g' g0 with | true => .own b off n sz g | false => .un) | false => .own b' off n sz g')
  | .ptr b' off g' => (match Nat.beq b' N with | true => (match Nat.beq g' g0 with | true => .ptr b off g | false => .un) | false => .ptr b' off g')
  | .d x => .d x
  | .kb x => .kb x
  | .rp cs => .rp cs
  | _ => .un
def renV (N b g0 g : Nat) : PV → PV
  | .agg cs => .agg (cs.map (renC N b g0 g))
  | .fn f cs => .fn f (cs.map (renC N b g0 g))
  | x => renC N b g0 g x
def renT (N b g0 g : Nat) : PV → PV
  | .tup cs => .tup (cs.map (renV N b g0 g))
  | x => renV N b g0 g x

section
variable {w : World} {F : Nat → Prop} {Mm : List (Option Nat)} {m : Option Nat} {Hm : List Blk} {blk : Blk} {b g g1 : Nat}

theorem snocM (hl : Mm.length = Hm.length) : (Mm ++ [m])[Hm.length]? = some m := by rw [← hl]; simp

theorem moved_O (hl : Mm.length = Hm.length) (hlv : blk.live = true) (hb : Hm[b]? = some (.gone g1)) (k : Nat) :
    (Cfg.mk w F (Mm.set b m) (Hm.set b (reGen g blk))).O k ↔ (Cfg.mk w F (Mm ++ [m]) (Hm ++ [blk])).O k := by
  have hbM : b < Mm.length := by rw [hl]; exact lt_of_getElem? hb
  constructor
  · rintro ⟨i, x, hi, hx, hM⟩
    rcases getElem?_set' hi with ⟨rfl, rfl⟩ | ⟨hne, hi⟩
    · have hM' : (Mm.set i m)[i]? = some (some k) := hM
      rw [List.getElem?_set] at hM'
      simp only [if_true, hbM] at hM'
      refine ⟨Hm.length, blk, by show (Hm ++ [blk])[Hm.length]? = _; simp, hlv, ?_⟩
      show (Mm ++ [m])[Hm.length]? = _
      rw [snocM hl]; exact hM'
    · refine ⟨i, x, getElem?_snoc_old hi, hx, ?_⟩
      have hM' : (Mm.set b m)[i]? = some (some k) := hM
      rw [getElem?_set_ne' hne] at hM'
      exact getElem?_snoc_old hM'
  · rintro ⟨i, x, hi, hx, hM⟩
    rcases getElem?_snoc hi with hi | ⟨rfl, rfl⟩
    · have hne : i ≠ b := fun h => by subst h; rw [hb] at hi; cases hi; cases hx
      refine ⟨i, x, (getElem?_set_ne' hne).trans hi, hx, ?_⟩
      show (Mm.set b m)[i]? = _
      rw [getElem?_set_ne' hne]
      have hM' : (Mm ++ [m])[i]? = some (some k) := hM
      rw [List.getElem?_append_left (by rw [hl]; exact lt_of_getElem? hi)] at hM'
      exact hM'
    · have hM' : (Mm ++ [m])[Hm.length]? = some (some k) := hM
      rw [snocM hl] at hM'
      refine ⟨b, reGen g x, getElem?_set_self' hb, (reGen_cells g x).2.1 ▸ hx, ?_⟩
      show (Mm.set b m)[b]? = _
      rw [List.getElem?_set]
      simp only [if_true, hbM]
      exact hM'

theorem moved_X (hl : Mm.length = Hm.length) (hlv : blk.live = true) (hb : Hm[b]? = some (.gone g1)) (k : Nat) :
    (Cfg.mk w F (Mm.set b m) (Hm.set b (reGen g blk))).X k ↔ (Cfg.mk w F (Mm ++ [m]) (Hm ++ [blk])).X k :=
  or_congr Iff.rfl (moved_O hl hlv hb k)

theorem renC_rel (hl : Mm.length = Hm.length) (hlv : blk.live = true) (hb : Hm[b]? = some (.gone g1)) (hg : g1 < g) {x : PV} {u : Value}
    (h : rel (Cfg.mk w F (Mm ++ [m]) (Hm ++ [blk])) x u) : rel (Cfg.mk w F (Mm.set b m) (Hm.set b (reGen g blk))) (renC Hm.length b blk.gen g x) u := by
  have hbM : b < Mm.length := by rw [hl]; exact lt_of_getElem? hb
  have hMb : (Mm.set b m)[b]? = some m := by rw [List.getElem?_set]; simp [hbM]
  have hblk : (Hm ++ [blk])[Hm.length]? = some blk := by simp
  have hD : ∀ {x : D} {u : Value}, relD w (Cfg.mk w F (Mm ++ [m]) (Hm ++ [blk])).X x u → relD w (Cfg.mk w F (Mm.set b m) (Hm.set b (reGen g blk))).X x u := fun {x u} hx =>
    relD_mono (Nat.le_refl _) (fun _ _ _ => rfl) (fun k hk => .inl ((moved_X hl hlv hb k).1 hk)) x u hx
  have hC : ∀ {cs : List D} {B o : Nat}, ¬ (Cfg.mk w F (Mm ++ [m]) (Hm ++ [blk])).X B → relCs w (Cfg.mk w F (Mm ++ [m]) (Hm ++ [blk])).X cs B o → relCs w (Cfg.mk w F (Mm.set b m) (Hm.set b (reGen g blk))).X cs B o := fun {cs B o} hX hx =>
    relCs_mono (Nat.le_refl _) (fun _ _ _ => rfl) (fun k hk => .inl ((moved_X hl hlv hb k).1 hk)) cs B o hX hx
  cases x with
  | d x => simp only [renC, rel] at h ⊢; exact hD h
  | kb x => simpa [renC, rel] using h
  | un => simp [renC, rel]
  | agg cs => simp [renC, rel]
  | tup cs => simp [renC, rel]
  | fn f cs => simp [renC, rel]
  | rp cs =>
    simp only [renC, rel] at h ⊢
    obtain ⟨B, o, hu, hX, hcs⟩ := h
    rcases hX with rfl | hX
    · exact ⟨B, o, hu, .inl rfl, by simp [relCs]⟩
    · exact ⟨B, o, hu, .inr fun h' => hX ((moved_X hl hlv hb B).1 h'), hC hX hcs⟩
  | own b' off n sz g' =>
    simp only [renC]
    split
    · rename_i hbn
      have hbn := Nat.eq_of_beq_eq_true hbn
      subst hbn
      split
      · rename_i hgg
        have hgg := Nat.eq_of_beq_eq_true hgg
        subst hgg
        simp only [rel] at h ⊢
        obtain ⟨blk0, h0, _, hh⟩ := h
        rw [hblk] at h0; cases h0
        refine ⟨reGen g blk, getElem?_set_self' hb, Nat.le_of_eq (reGen_cells g blk).2.2.symm, fun _ _ => ?_⟩
        have := hh hlv rfl
        unfold ownAt at this ⊢
        rcases this with h0 | ⟨B, k, C, T, hM, rest⟩
        · exact .inl h0
        · have hM' : (Mm ++ [m])[Hm.length]? = some (some B) := hM
          rw [snocM hl] at hM'
          exact .inr ⟨B, k, C, T, hMb.trans hM', rest⟩
      · simp [rel]
    · rename_i hbn
      have hbn' : b' ≠ Hm.length := fun h => by subst h; simp at hbn
      simp only [rel] at h ⊢
      obtain ⟨blk0, h0, hge, hh⟩ := h
      rcases getElem?_snoc h0 with h0 | ⟨h0, _⟩
      · by_cases hbb : b' = b
        · subst hbb
          rw [hb] at h0; cases h0
          exact ⟨reGen g blk, getElem?_set_self' hb, by rw [(reGen_cells g blk).2.2]; exact Nat.le_trans hge (Nat.le_of_lt hg), fun _ he => by rw [(reGen_cells g blk).2.2] at he; simp only [Blk.gen] at hge; omega⟩
        · refine ⟨blk0, (getElem?_set_ne' hbb).trans h0, hge, fun hlv' he => ?_⟩
          have := hh hlv' he
          unfold ownAt at this ⊢
          rcases this with h1 | ⟨B, k, C, T, hM, rest⟩
          · exact .inl h1
          · have hM' : (Mm ++ [m])[b']? = some (some B) := hM
            rw [List.getElem?_append_left (by rw [hl]; exact lt_of_getElem? h0)] at hM'
            exact .inr ⟨B, k, C, T, (getElem?_set_ne' hbb).trans hM', rest⟩
      · exact absurd h0 hbn'
  | ptr b' off g' =>
    simp only [renC]
    split
    · rename_i hbn
      have hbn := Nat.eq_of_beq_eq_true hbn
      subst hbn
      split
      · rename_i hgg
        have hgg := Nat.eq_of_beq_eq_true hgg
        subst hgg
        simp only [rel] at h ⊢
        obtain ⟨blk0, h0, _, hh⟩ := h
        rw [hblk] at h0; cases h0
        refine ⟨reGen g blk, getElem?_set_self' hb, Nat.le_of_eq (reGen_cells g blk).2.2.symm, fun _ _ => ?_⟩
        obtain ⟨B, hM, hu⟩ := hh hlv rfl
        have hM' : (Mm ++ [m])[Hm.length]? = some (some B) := hM
        rw [snocM hl] at hM'
        exact ⟨B, hMb.trans hM', hu⟩
      · simp [rel]
    · rename_i hbn
      have hbn' : b' ≠ Hm.length := fun h => by subst h; simp at hbn
      simp only [rel] at h ⊢
      obtain ⟨blk0, h0, hge, hh⟩ := h
      rcases getElem?_snoc h0 with h0 | ⟨h0, _⟩
      · by_cases hbb : b' = b
        · subst hbb
          rw [hb] at h0; cases h0
          exact ⟨reGen g blk, getElem?_set_self' hb, by rw [(reGen_cells g blk).2.2]; exact Nat.le_trans hge (Nat.le_of_lt hg), fun _ he => by rw [(reGen_cells g blk).2.2] at he; simp only [Blk.gen] at hge; omega⟩
        · refine ⟨blk0, (getElem?_set_ne' hbb).trans h0, hge, fun hlv' he => ?_⟩
          obtain ⟨B, hM, hu⟩ := hh hlv' he
          have hM' : (Mm ++ [m])[b']? = some (some B) := hM
          rw [List.getElem?_append_left (by rw [hl]; exact lt_of_getElem? h0)] at hM'
          exact ⟨B, (getElem?_set_ne' hbb).trans hM', hu⟩
      · exact absurd h0 hbn'

theorem map_rel {c c2 : Cfg} {f : PV → PV} (hf : ∀ {x : PV} {u : Value}, rel c x u → rel c2 (f x) u) : ∀ {xs : List PV} {us : List Value}, relL c xs us → relL c2 (xs.map f) us
  | [], us, h => by simpa [relL] using h
  | x :: xs, us, h => by
    simp only [relL, List.map_cons] at h ⊢
    obtain ⟨u, us', rfl, hu, hs⟩ := h
    exact ⟨u, us', rfl, hf hu, map_rel hf hs⟩

theorem renV_rel (hl : Mm.length = Hm.length) (hlv : blk.live = true) (hb : Hm[b]? = some (.gone g1)) (hg : g1 < g) {x : PV} {u : Value}
    (h : rel (Cfg.mk w F (Mm ++ [m]) (Hm ++ [blk])) x u) : rel (Cfg.mk w F (Mm.set b m) (Hm.set b (reGen g blk))) (renV Hm.length b blk.gen g x) u := by
  cases x with
  | agg cs =>
    simp only [renV, rel] at h ⊢
    obtain ⟨us, hu, hs⟩ := h
    exact ⟨us, hu, map_rel (fun h => renC_rel hl hlv hb hg h) hs⟩
  | fn f cs =>
    simp only [renV, rel] at h ⊢
    obtain ⟨us, hu, hs⟩ := h
    exact ⟨us, hu, map_rel (fun h => renC_rel hl hlv hb hg h) hs⟩
  | _ => exact renC_rel hl hlv hb hg h

theorem renT_rel (hl : Mm.length = Hm.length) (hlv : blk.live = true) (hb : Hm[b]? = some (.gone g1)) (hg : g1 < g) {x : PV} {u : Value}
    (h : rel (Cfg.mk w F (Mm ++ [m]) (Hm ++ [blk])) x u) : rel (Cfg.mk w F (Mm.set b m) (Hm.set b (reGen g blk))) (renT Hm.length b blk.gen g x) u := by
  cases x with
  | tup cs =>
    simp only [renT, rel] at h ⊢
    obtain ⟨us, hu, hs⟩ := h
    exact ⟨us, hu, map_rel (fun h => renV_rel hl hlv hb hg h) hs⟩
  | _ => exact renV_rel hl hlv hb hg h

theorem renC_ok {N : Nat} {x : PV} (h : okC [] N x = true) (b g0 g : Nat) : renC N b g0 g x = x := by
  cases x with
  | own b' off n sz g' =>
    simp only [okC, Bool.and_eq_true] at h
    have : b' < N := Nat.blt_eq.mp h.1
    have hne : Nat.beq b' N = false := by
      cases hb : Nat.beq b' N with
      | false => rfl
      | true => have := Nat.eq_of_beq_eq_true hb; omega
    simp only [renC, hne]
  | ptr b' off g' =>
    simp only [okC, Bool.and_eq_true] at h
    have : b' < N := Nat.blt_eq.mp h.1
    have hne : Nat.beq b' N = false := by
      cases hb : Nat.beq b' N with
      | false => rfl
      | true => have := Nat.eq_of_beq_eq_true hb; omega
    simp only [renC, hne]
  | d _ => rfl
  | kb _ => rfl
  | rp _ => rfl
  | un => rfl
  | agg _ => simp [okC] at h
  | tup _ => simp [okC] at h
  | fn _ _ => simp [okC] at h

theorem okBlk_cells {N : Nat} {x : Blk} (h : okBlk [] N x = true) {i : Nat} {y : PV} (hy : x.cells[i]? = some y) : okC [] N y = true := by
  cases x with
  | row g cs =>
    simp only [Blk.cells, List.getElem?_map] at hy
    obtain ⟨d, _, rfl⟩ := Option.map_eq_some_iff.1 hy
    rfl
  | box g cs =>
    have h' : cs.all (okC [] N) = true := h
    exact (List.all_eq_true.1 h') y (List.mem_of_getElem? (show cs[i]? = some y from hy))
  | gone g => simp [Blk.cells] at hy

theorem moved_inv (hl : Mm.length = Hm.length) (hlv : blk.live = true) (hb : Hm[b]? = some (.gone g1)) (hg : g1 < g) (hok : (Hm ++ [blk]).all (okBlk [] Hm.length) = true)
    (hI : Inv (Cfg.mk w F (Mm ++ [m]) (Hm ++ [blk]))) : Inv (Cfg.mk w F (Mm.set b m) (Hm.set b (reGen g blk))) := by
  have hbM : b < Mm.length := by rw [hl]; exact lt_of_getElem? hb
  have hMb : (Mm.set b m)[b]? = some m := by rw [List.getElem?_set]; simp [hbM]
  have hblk : (Hm ++ [blk])[Hm.length]? = some blk := by simp
  have cell : ∀ {x : Blk} {j : Nat} {y : PV} {u : Value}, x ∈ Hm ++ [blk] → x.cells[j]? = some y → rel (Cfg.mk w F (Mm ++ [m]) (Hm ++ [blk])) y u → rel (Cfg.mk w F (Mm.set b m) (Hm.set b (reGen g blk))) y u := fun {x j y u} hx hy hr => by
    have := renC_rel hl hlv hb hg hr
    rwa [renC_ok (okBlk_cells ((List.all_eq_true.1 hok) x hx) hy)] at this
  -- an entry of the new heap is one of the old
  have back : ∀ {i : Nat} {x : Blk}, (Hm.set b (reGen g blk))[i]? = some x → x.live = true → ∃ (i' : Nat) (x' : Blk), (Hm ++ [blk])[i']? = some x' ∧ x'.live = true ∧ x'.cells = x.cells ∧ (Mm ++ [m])[i']? = (Mm.set b m)[i]? ∧ ((i = b ∧ i' = Hm.length) ∨ (i ≠ b ∧ i' = i ∧ i < Hm.length)) := fun {i x} hi hx => by
    rcases getElem?_set' hi with ⟨rfl, rfl⟩ | ⟨hne, hi⟩
    · exact ⟨Hm.length, blk, hblk, hlv, (reGen_cells g blk).1.symm, by rw [snocM hl, hMb], .inl ⟨rfl, rfl⟩⟩
    · have hlt := lt_of_getElem? hi
      exact ⟨i, x, getElem?_snoc_old hi, hx, rfl, by rw [getElem?_set_ne' hne, List.getElem?_append_left (by rw [hl]; exact hlt)], .inr ⟨hne, rfl, hlt⟩⟩
  refine ⟨hI.ltF, by simp [hl], ?_, ?_, ?_⟩
  · intro i x B hi hx hM
    obtain ⟨i', x', h1, h2, h3, h4, _⟩ := back hi hx
    obtain ⟨hnF, C, T, hC, hcs⟩ := hI.cells i' x' B h1 h2 (h4.trans hM)
    refine ⟨hnF, C, T, hC, fun j y hy => ?_⟩
    rw [← h3] at hy
    obtain ⟨u, hu, ho, hr⟩ := hcs j y hy
    exact ⟨u, hu, ho, cell (List.mem_of_getElem? h1) hy hr⟩
  · intro i x hi hx hM
    obtain ⟨i', x', h1, h2, h3, h4, _⟩ := back hi hx
    rw [← h3]
    exact hI.nil i' x' h1 h2 (h4.trans hM)
  · intro i j x y B hi hx hj hy hM1 hM2
    obtain ⟨i', x', h1, h2, _, h4, h5⟩ := back hi hx
    obtain ⟨j', y', k1, k2, _, k4, k5⟩ := back hj hy
    have := hI.inj i' j' x' y' B h1 h2 k1 k2 (h4.trans hM1) (k4.trans hM2)
    rcases h5 with ⟨rfl, h5⟩ | ⟨h5, h6, h7⟩ <;> rcases k5 with ⟨rfl, k5⟩ | ⟨k5, k6, k7⟩
    · rfl
    · omega
    · omega
    · omega

theorem moved_fut (hl : Mm.length = Hm.length) (hlv : blk.live = true) (hb : Hm[b]? = some (.gone g1)) (hg : g1 < g) {c0 : Cfg} (hle : c0.H.length ≤ Hm.length)
    (hF : Fut c0 (Cfg.mk w F (Mm ++ [m]) (Hm ++ [blk]))) : Fut c0 (Cfg.mk w F (Mm.set b m) (Hm.set b (reGen g blk))) := by
  refine ⟨hF.foreign, hF.size, hF.os, hF.tape, hF.output, hF.keepO, fun k hk => hF.freshO k ((moved_O hl hlv hb k).1 hk), fun i x hi => ?_⟩
  obtain ⟨x1, h1, hge, hh⟩ := hF.blk i x hi
  have hlt : i < Hm.length := Nat.lt_of_lt_of_le (lt_of_getElem? hi) hle
  have h1' : (Hm ++ [blk])[i]? = some x1 := h1
  rw [List.getElem?_append_left hlt] at h1'
  by_cases hib : i = b
  · subst hib
    rw [hb] at h1'; cases h1'
    refine ⟨reGen g blk, getElem?_set_self' hb, by rw [(reGen_cells g blk).2.2]; exact Nat.le_trans hge (Nat.le_of_lt hg), fun _ he => ?_⟩
    rw [(reGen_cells g blk).2.2] at he
    have hge' : x.gen ≤ g1 := hge
    omega
  · refine ⟨x1, (getElem?_set_ne' hib).trans h1', hge, fun hlv' he => ?_⟩
    obtain ⟨l1, m1, s1⟩ := hh hlv' he
    refine ⟨l1, ?_, s1⟩
    have m1' : (Mm ++ [m])[i]? = c0.M[i]? := m1
    rw [List.getElem?_append_left (by rw [hl]; exact hlt)] at m1'
    show (Mm.set b m)[i]? = _
    rw [getElem?_set_ne' hib]
    exact m1'
end

/-- k new blocks behind N are moved to places from b on. -/
def relocate (N b : Nat) : Nat → PV → List Blk → Option (PV × List Blk)
  | 0, r, H => (match Nat.beq H.length N with | true => some (r, H) | false => none)
  | k + 1, r, H => match Nat.beq H.length (N + k + 1) && H.all (okBlk [] (N + k)) with
    | true => (match H[N + k]?, H[b + k]? with
      | some blk, some (.gone g1) => (match blk.live && Nat.blt (b + k) (N + k) with
        | true => relocate N b k (renT (N + k) (b + k) blk.gen (g1 + 1) r) ((H.take (N + k)).set (b + k) (reGen (g1 + 1) blk))
        | false => none)
      | _, _ => none)
    | false => none

theorem relocate_sound {N b : Nat} {c0 : Cfg} (hN : c0.H.length ≤ N) {v : Value} : ∀ (k : Nat) {r r' : PV} {H' : List Blk} {c : Cfg}, relocate N b k r c.H = some (r', H') → Inv c → Fut c0 c → rel c r v →
    ∃ c', c'.w = c.w ∧ c'.H = H' ∧ Inv c' ∧ Fut c0 c' ∧ rel c' r' v
  | 0, r, r', H', c, h, hI, hF, hr => by
    unfold relocate at h
    split at h
    · cases h; exact ⟨c, rfl, rfl, hI, hF, hr⟩
    · cases h
  | k + 1, r, r', H', c, h, hI, hF, hr => by
    unfold relocate at h
    split at h
    case h_2 => cases h
    rename_i hc
    simp only [Bool.and_eq_true] at hc
    obtain ⟨hlen, hok⟩ := hc
    have hlen := Nat.eq_of_beq_eq_true hlen
    split at h
    case h_2 => cases h
    rename_i blk g1 hblk hhole
    split at h
    case h_2 => cases h
    rename_i hc2
    simp only [Bool.and_eq_true] at hc2
    obtain ⟨hlv, hlt⟩ := hc2
    have hlt : b + k < N + k := Nat.blt_eq.mp hlt
    obtain ⟨w, F, M, H⟩ := c
    simp only at hlen hok hblk hhole h
    have hMl : M.length = N + k + 1 := by have := hI.lenM; simp only at this; omega
    have hH : H = H.take (N + k) ++ [blk] := by
      apply List.ext_getElem?
      intro i
      rcases Nat.lt_trichotomy i (N + k) with hi | hi | hi
      · rw [List.getElem?_append_left (by simp; omega), List.getElem?_take_of_lt hi]
      · subst hi
        rw [hblk, List.getElem?_append_right (by simp; omega)]
        simp [hlen, Nat.min_eq_left]
      · rw [List.getElem?_eq_none (by omega), List.getElem?_eq_none (by simp; omega)]
    have hM : M = M.take (N + k) ++ [(M[N + k]?).getD none] := by
      apply List.ext_getElem?
      intro i
      rcases Nat.lt_trichotomy i (N + k) with hi | hi | hi
      · rw [List.getElem?_append_left (by simp; omega), List.getElem?_take_of_lt hi]
      · subst hi
        rw [List.getElem?_append_right (by simp; omega)]
        have : N + k < M.length := by omega
        simp [hMl, Nat.min_eq_left, List.getElem?_eq_getElem this]
      · rw [List.getElem?_eq_none (by omega), List.getElem?_eq_none (by simp; omega)]
    have htl : (H.take (N + k)).length = N + k := by simp; omega
    have hml : (M.take (N + k)).length = (H.take (N + k)).length := by simp; omega
    have hhole' : (H.take (N + k))[b + k]? = some (.gone g1) := by rw [List.getElem?_take_of_lt hlt]; exact hhole
    rw [hH, hM] at hI hF hr
    rw [hH] at hok
    have i1 := moved_inv (g := g1 + 1) hml hlv hhole' (Nat.lt_succ_self g1) (by rw [htl]; exact hok) hI
    have i2 := moved_fut (g := g1 + 1) hml hlv hhole' (Nat.lt_succ_self g1) (by omega) hF
    have i3 := renT_rel (g := g1 + 1) hml hlv hhole' (Nat.lt_succ_self g1) hr
    rw [htl] at i3
    obtain ⟨c', w1, w2, w3, w4, w5⟩ := relocate_sound hN k (c := ⟨w, F, (M.take (N + k)).set (b + k) ((M[N + k]?).getD none), (H.take (N + k)).set (b + k) (reGen (g1 + 1) blk)⟩) h i1 i2 i3
    exact ⟨c', w1, w2, w3, w4, w5⟩

/-! ### Places kept for new blocks -/
def holes (n : Nat) : List Blk := List.replicate n (.gone 0)

theorem holes_get {c : Cfg} {n i : Nat} {x : Blk} (h : (c.H ++ holes n)[i]? = some x) : c.H[i]? = some x ∨ (c.H.length ≤ i ∧ x = .gone 0) := by
  rcases Nat.lt_or_ge i c.H.length with hi | hi
  · rw [List.getElem?_append_left hi] at h; exact .inl h
  · rw [List.getElem?_append_right hi] at h
    exact .inr ⟨hi, by unfold holes at h; rw [List.getElem?_replicate] at h; split at h <;> simp_all⟩

theorem holes_inv {c : Cfg} (hI : Inv c) (n : Nat) : Inv ⟨c.w, c.F, c.M ++ List.replicate n none, c.H ++ holes n⟩ ∧ Fut c ⟨c.w, c.F, c.M ++ List.replicate n none, c.H ++ holes n⟩ := by
  have hO : ∀ k, (Cfg.mk c.w c.F (c.M ++ List.replicate n none) (c.H ++ holes n)).O k → c.O k := by
    rintro k ⟨i, x, hi, hl, hM⟩
    rcases holes_get hi with h | ⟨_, rfl⟩
    · refine ⟨i, x, h, hl, ?_⟩
      have hM' : (c.M ++ List.replicate n none)[i]? = some (some k) := hM
      rwa [List.getElem?_append_left (by rw [hI.lenM]; exact lt_of_getElem? h)] at hM'
    · cases hl
  have hf : Fut c ⟨c.w, c.F, c.M ++ List.replicate n none, c.H ++ holes n⟩ := by
    refine ⟨rfl, Nat.le_refl _, rfl, rfl, rfl, fun _ _ _ => rfl, fun k hk => .inl (hO k hk), fun i x hi => ⟨x, ?_, Nat.le_refl _, fun hl _ => ⟨hl, ?_, fun B _ C T hC => ⟨C, hC, rfl⟩⟩⟩⟩
    · show (c.H ++ holes n)[i]? = _
      rw [List.getElem?_append_left (lt_of_getElem? hi)]; exact hi
    · show (c.M ++ _)[i]? = _
      rw [List.getElem?_append_left (by rw [hI.lenM]; exact lt_of_getElem? hi)]
  have hMo : ∀ {i : Nat} {x : Blk}, c.H[i]? = some x → ∀ {y}, (c.M ++ List.replicate n none)[i]? = y → c.M[i]? = y := fun {i x} hi {y} hM => by
    rwa [List.getElem?_append_left (by rw [hI.lenM]; exact lt_of_getElem? hi)] at hM
  refine ⟨⟨hI.ltF, by simp [hI.lenM, holes], ?_, ?_, ?_⟩, hf⟩
  · intro i x B hi hl hM
    rcases holes_get hi with h | ⟨_, rfl⟩
    · obtain ⟨hnF, C, T, hC, hcs⟩ := hI.cells i x B h hl (hMo h hM)
      refine ⟨hnF, C, T, hC, fun j y hy => ?_⟩
      obtain ⟨u, h1, h2, h3⟩ := hcs j y hy
      exact ⟨u, h1, h2, rel_fut hf y u h3⟩
    · cases hl
  · intro i x hi hl hM
    rcases holes_get hi with h | ⟨_, rfl⟩
    · exact hI.nil i x h hl (hMo h hM)
    · cases hl
  · intro i j x y B hi hl hj hl2 hM1 hM2
    rcases holes_get hi with h | ⟨_, rfl⟩
    · rcases holes_get hj with h' | ⟨_, rfl⟩
      · exact hI.inj i j x y B h hl h' hl2 (hMo h hM1) (hMo h' hM2)
      · cases hl2
    · cases hl
end Go.Pv
