/- Ranges over functions: the caller's side. -/
import Derived.Test.YtjbgmaaojbamdaaGreatPvS
namespace Go.Pv
open Go Go.RowKit
variable {n0 : Nat}

theorem giveP_sound : ∀ (caps : List PV) {c : Cfg} (_ : Inv c) {xs : List PV} {H1 : List Blk} {us : List Value}, giveP caps c.H = some (xs, H1) → relL c caps us →
    ∃ c1 : Cfg, c1.w = c.w ∧ c1.H = H1 ∧ Inv c1 ∧ Fut c c1 ∧ relL (start c1.w c1.X) xs us
  | [], c, hI, xs, H1, us, h, hr => by
    simp only [giveP, Option.some.injEq, Prod.mk.injEq] at h
    obtain ⟨rfl, rfl⟩ := h
    exact ⟨c, rfl, rfl, hI, Fut.refl c, by simpa [relL] using hr⟩
  | x :: r, c, hI, xs, H1, us, h, hr => by
    simp only [relL] at hr
    obtain ⟨u, us', rfl, hx, hus⟩ := hr
    -- a part that is only read, and what stays of it
    have tail : ∀ {c' : Cfg} {y : PV} {ys : List PV}, c'.w = c.w → Inv c' → Fut c c' → killO y = y → rel (start c'.w c'.X) y u → giveP r c'.H = some (ys, H1) → xs = y :: ys →
        ∃ c1 : Cfg, c1.w = c.w ∧ c1.H = H1 ∧ Inv c1 ∧ Fut c c1 ∧ relL (start c1.w c1.X) xs (u :: us') := fun {c' y ys} hw hI' hf hk hy hg he => by
      obtain ⟨c1, w1, w2, w3, w4, w5⟩ := giveP_sound r hI' hg (relL_fut hf _ _ hus)
      refine ⟨c1, w1.trans hw, w2, w3, hf.trans w4, ?_⟩
      subst he
      simp only [relL]
      refine ⟨u, us', rfl, ?_, w5⟩
      rw [← hk]
      refine killO_rel (c := start c'.w c'.X) (by show c'.w.heap.size ≤ c1.w.heap.size; rw [w1]; exact Nat.le_refl _) (fun k _ _ => by show c1.w.heap[k]? = c'.w.heap[k]?; rw [w1]) (fun k hk => ?_) hy
      rcases w4.fresh k (start_X.1 hk) with h1 | h1
      · exact .inl (start_X.2 h1)
      · exact .inr h1
    cases x with
    | d x =>
      simp only [giveP] at h
      split at h
      · rename_i ys H2 hg
        simp only [Option.some.injEq, Prod.mk.injEq] at h
        obtain ⟨rfl, rfl⟩ := h
        refine tail rfl hI (Fut.refl c) rfl ?_ hg rfl
        simp only [rel] at hx ⊢
        exact relD_mono (Nat.le_refl _) (fun _ _ _ => rfl) (fun k hk => .inl (start_X.1 hk)) _ _ hx
      · cases h
    | kb b =>
      simp only [giveP] at h
      split at h
      · rename_i ys H2 hg
        simp only [Option.some.injEq, Prod.mk.injEq] at h
        obtain ⟨rfl, rfl⟩ := h
        exact tail rfl hI (Fut.refl c) rfl (by simpa [rel] using hx) hg rfl
      · cases h
    | ptr b off g =>
      simp only [giveP] at h
      split at h
      · rename_i g' cs hb
        split at h
        · rename_i hgg
          have hgg := Nat.eq_of_beq_eq_true hgg
          subst hgg
          split at h
          · rename_i ds H2 hp
            split at h
            · rename_i ys H3 hg
              simp only [Option.some.injEq, Prod.mk.injEq] at h
              obtain ⟨rfl, rfl⟩ := h
              simp only [rel] at hx
              obtain ⟨blk, hb2, _, hh⟩ := hx
              rw [hb] at hb2; cases hb2
              obtain ⟨B, hM, hu⟩ := hh rfl rfl
              obtain ⟨hF, C, T, hC, hcs⟩ := hI.cells b _ B hb rfl hM
              obtain ⟨i1, i2⟩ := gone_inv hI hb rfl (show (Blk.box g cs).gen < g + 1 from Nat.lt_succ_self g)
              have hfree : ¬ (Cfg.X ⟨c.w, c.F, c.M, c.H.set b (.gone (g + 1))⟩ B) := gone_free hI hb rfl hM
              have hlen : cs.length ≤ C.size := by
                apply Nat.le_of_not_lt
                intro hlt
                obtain ⟨x, hx⟩ : ∃ x, cs[C.size]? = some x := ⟨_, List.getElem?_eq_getElem hlt⟩
                obtain ⟨v, hv, _⟩ := hcs C.size x hx
                simp at hv
              have hrow : relL c cs (C.toList.take cs.length) := by
                refine relL_of_get (by simp [hlen]) fun i x v hx hv => ?_
                obtain ⟨v', hv', _, hr⟩ := hcs i x hx
                rw [List.getElem?_take, if_pos (List.getElem?_eq_some_iff.1 hx).1] at hv
                rw [show C.toList[i]? = C[i]? by simp, hv'] at hv
                cases hv; exact hr
              obtain ⟨c2, p1, p2, p3, p4, p5, _⟩ := pub_sound cs ⟨c.w, c.F, c.M, c.H.set b (.gone (g + 1))⟩ i1 _ _ _ hp (relL_fut i2 _ _ hrow)
              rw [← p2] at hg
              refine tail p1 p3 (i2.trans p4) rfl ?_ hg rfl
              simp only [rel]
              have hX : ¬ c2.X B := fun hx => by
                rcases p4.fresh B hx with h1 | h1
                · exact hfree h1
                · have := (Array.getElem?_eq_some_iff.1 hC).1
                  exact absurd h1 (by show ¬ c.w.heap.size ≤ B; omega)
              refine ⟨B, 0, hu, .inr fun hx => hX (start_X.1 hx), ?_⟩
              refine relCs_of_get fun i y hy => ?_
              obtain ⟨v, hv, hr⟩ := relL_get p5 (i := i) (x := .d y) (by simpa using hy)
              have hi : i < cs.length := by
                have h1 := relL_length p5
                have h2 := (List.getElem?_eq_some_iff.1 hv).1
                simp at h2; omega
              refine ⟨v, ?_, ?_⟩
              · have h1 : c2.w.heap[B]? = some (.cells C T (0, 0)) := by rw [p1]; exact hC
                rw [show (start c2.w c2.X).w = c2.w from rfl, cell_of_row c2.w B (0 + i) C T (0, 0) h1, Nat.zero_add]
                rw [List.getElem?_take, if_pos hi] at hv
                simpa using hv
              · simp only [rel] at hr
                exact relD_mono (Nat.le_refl _) (fun _ _ _ => rfl) (fun k hk => .inl (start_X.1 hk)) _ _ hr
            · cases h
          · cases h
        · cases h
      · cases h
    | _ => simp [giveP] at h

theorem Marks.lt {w : World} : ∀ {ds : List Deferred}, Marks n0 w ds → ∀ d ∈ ds, ∀ D : Nat, d = { target := .collected D, args := #[] } → D < w.heap.size
  | [], _, d, h => by simp at h
  | e :: ds, ⟨⟨D', h1, _, h3, _⟩, h5⟩, d, h => by
    intro D hd
    simp only [List.mem_cons] at h
    rcases h with rfl | h
    · rw [h1] at hd
      injection hd with hd
      injection hd with hd
      subst hd
      exact (Array.getElem?_eq_some_iff.1 h3).1
    · exact Marks.lt h5 d h D hd

theorem Marks.keep {w w' : World} (h : ∀ k : Nat, w.heap[k]? = some (.deferred (some [])) → w'.heap[k]? = w.heap[k]?) : ∀ {ds : List Deferred}, Marks n0 w ds → Marks n0 w' ds
  | [], _ => trivial
  | _ :: _, ⟨⟨D, h1, h2, h3, h4⟩, h5⟩ => ⟨⟨D, h1, h2, (h D h3).trans h3, h4⟩, Marks.keep h h5⟩

theorem own_not {c : Cfg} (hI : Inv c) {k : Nat} {o : Obj} (hk : c.w.heap[k]? = some o) (ho : ∀ C T s, o ≠ .cells C T s) : ¬ c.O k := by
  rintro ⟨b, blk, hb, hl, hM⟩
  obtain ⟨_, C, T, hC, _⟩ := hI.cells b blk k hb hl hM
  rw [hk] at hC; cases hC
  exact ho _ _ _ rfl

theorem rangeX_sound {P : Program} {CX : CallX} (hC : CallSound P (asW CX)) {L : Nat} {g : Operand} {ps : Array Tmp} {assign body : Code} {c : Cfg} {T : Tr} {env : List PV} {a : Act} {H' : List Blk} {Q : Exit → Act → World → Prop}
    (h : rangeX P CX L g ps assign body T c.H = some H') (hT : TE T env) (hs : SR n0 c env a) (hq : ∀ c' a', c'.H = H' → SR n0 c' env a' → Fut c c' → Q .normal a' c'.w) : (Code.rangeFunc g ps assign body).wp P Q a c.w := by
  unfold rangeX at h
  rw [hT.ev] at h
  have hg := ev_rel hs.env g
  split at h
  case h_2 => cases h
  rename_i f caps p hev hps
  rw [hev] at hg
  simp only [rel] at hg
  obtain ⟨us, hu, hus⟩ := hg
  split at h
  case h_2 => cases h
  rename_i xs H1 hgive
  split at h
  case h_2 => cases h
  rename_i ys hseq
  obtain ⟨c1, g1, g2, g3, g4, g5⟩ := giveP_sound caps hs.inv hgive hus
  obtain ⟨hent, hgives⟩ := seqX_sound hC hseq
  have hpsz : ps = #[p] := by apply Array.ext'; simpa using hps
  refine (wpIn_wide (n := 0)).1 (wpIn_rangeFunc fun fn hfn => ?_)
  obtain ⟨rec, hrec⟩ : ∃ rec : LoopState → Option Code → Loop, rec = fun st pe => { state := st, pending := pe, fn, tmps := a.tmps, params := ps, assign, body, defers := c.w.heap.size } := ⟨_, rfl⟩
  obtain ⟨W1, hW1⟩ : ∃ W1, (c.w.alloc (.deferred (some []))).alloc (.loop (rec .ready none)) = W1 := ⟨_, rfl⟩
  have hck1 : CKept c.w W1 := by
    rw [← hW1]
    have h1 := CKept.alloc c.w (.deferred (some []))
    have h2 := CKept.alloc (c.w.alloc (.deferred (some []))) (.loop (rec .ready none))
    exact ⟨Nat.le_trans h1.size h2.size, h2.os.trans h1.os, h2.tape.trans h1.tape, h2.output.trans h1.output, fun k C T s hk => (h2.keep k C T s ((h1.keep k C T s hk).trans hk)).trans (h1.keep k C T s hk)⟩
  have hL1 : W1.heap[c.w.heap.size + 1]? = some (.loop (rec .ready none)) := by
    rw [← hW1]; have := World.alloc_heap_new (c.w.alloc (.deferred (some []))) (.loop (rec .ready none)); rwa [World.size_alloc] at this
  have hK1 : W1.heap[c.w.heap.size]? = some (.deferred (some [])) := by
    rw [← hW1]; exact (Below.heap_alloc _ _ _ (by simp)).trans (World.alloc_heap_new c.w _)
  have hold1 : ∀ k, k < c.w.heap.size → W1.heap[k]? = c.w.heap[k]? := fun k hk => by
    rw [← hW1]; exact (Below.heap_alloc _ _ _ (by simp; omega)).trans (Below.heap_alloc _ _ _ hk)
  have hsz1 : W1.heap.size = c.w.heap.size + 2 := by rw [← hW1]; simp
  refine ⟨c.w.heap.size + 1, [{ target := .collected c.w.heap.size, args := #[] }], W1, { target := .fn (.func f) us, args := #[.func (.yield (c.w.heap.size + 1)) #[] #[]] }, W1, f,
    #[.func (.yield (c.w.heap.size + 1)) #[] #[]] ++ us, W1, ?_, ?_, fun _ _ => trivial, ?_, (fun h => by cases h), ?_⟩
  · rw [← hW1, hrec]; exact run_enterLoop_outer _ _ _ _ _
  · simp only [resolve, hu]
    simp [go_sem]
  · simp [invoke, go_sem, hent]
  -- the iterator's contract
  have hck1' : CKept c1.w W1 := by rw [g1]; exact hck1
  have hI1 := g3.ck hck1'
  have hF1 : Fut c (c1.into W1) := g4.ck hck1' fun k hk => by rw [g1]; exact hold1 k hk
  let J : Nat → (Nat → Prop) → World → Prop := fun i G W => ∃ ci : Cfg, ci.w = W ∧ roundsX P CX p assign body T (ys.drop i) ci.H = some H' ∧ Inv ci ∧ Fut c ci ∧
    W.heap[c.w.heap.size + 1]? = some (.loop (rec .ready none)) ∧ W.heap[c.w.heap.size]? = some (.deferred (some [])) ∧ ∀ k, G k ↔ (ci.O k ∨ k = c.w.heap.size ∨ k = c.w.heap.size + 1)
  have key := hgives (c.w.heap.size + 1) J W1 (fun k => c1.X k ∨ k = c.w.heap.size ∨ k = c.w.heap.size + 1) (fun k => c1.O k ∨ k = c.w.heap.size ∨ k = c.w.heap.size + 1) us.toList
    (fun k hk => by
      rcases hk with hk | hk | hk
      · have := g3.lt hk; rw [g1] at this; omega
      · omega
      · omega)
    (fun k hk => hk.imp .inr id)
    (by
      have e : ∀ {x : PV} {u : Value}, rel (start c1.w c1.X) x u → killO x = x → rel (start W1 fun k => c1.X k ∨ k = c.w.heap.size ∨ k = c.w.heap.size + 1) x u := fun {x u} hx hk => by
        rw [← hk]
        refine killO_rel (c := start c1.w c1.X) (c' := start W1 fun k => c1.X k ∨ k = c.w.heap.size ∨ k = c.w.heap.size + 1) hck1'.size (fun k hk1 _ => by show W1.heap[k]? = c1.w.heap[k]?; rw [g1] at hk1 ⊢; exact hold1 k hk1) (fun k hk1 => ?_) hx
        rcases start_X.1 hk1 with h1 | h1 | h1
        · exact .inl (start_X.2 h1)
        · exact .inr (by show c1.w.heap.size ≤ k; rw [g1]; omega)
        · exact .inr (by show c1.w.heap.size ≤ k; rw [g1]; omega)
      have hks : ∀ (caps : List PV) (H : List Blk) (xs : List PV) (H1 : List Blk), giveP caps H = some (xs, H1) → ∀ x ∈ xs, killO x = x := by
        intro caps
        induction caps with
        | nil => intro H xs H1 h x hx; simp only [giveP, Option.some.injEq, Prod.mk.injEq] at h; rw [← h.1] at hx; simp at hx
        | cons y r ih =>
          intro H xs H1 h x hx
          cases y with
          | d y =>
            simp only [giveP] at h
            split at h
            · rename_i h1
              simp only [Option.some.injEq, Prod.mk.injEq] at h
              rw [← h.1] at hx
              rcases List.mem_cons.1 hx with rfl | hx
              · rfl
              · exact ih _ _ _ h1 x hx
            · cases h
          | kb y =>
            simp only [giveP] at h
            split at h
            · rename_i h1
              simp only [Option.some.injEq, Prod.mk.injEq] at h
              rw [← h.1] at hx
              rcases List.mem_cons.1 hx with rfl | hx
              · rfl
              · exact ih _ _ _ h1 x hx
            · cases h
          | ptr b off g =>
            simp only [giveP] at h
            split at h
            · split at h
              · split at h
                · split at h
                  · rename_i h1
                    simp only [Option.some.injEq, Prod.mk.injEq] at h
                    rw [← h.1] at hx
                    rcases List.mem_cons.1 hx with rfl | hx
                    · rfl
                    · exact ih _ _ _ h1 x hx
                  · cases h
                · cases h
              · cases h
            · cases h
          | _ => simp [giveP] at h
      exact relL_of_get (relL_length g5) fun i x u hx hu => by
        obtain ⟨v, hv, hr⟩ := relL_get g5 hx
        rw [hu] at hv; cases hv
        exact e hr (hks caps _ _ _ hgive x (List.mem_of_getElem? hx)))
    (by
      rintro i G W W' ⟨ci, rfl, hr, hI, hf, hl, hk, hG⟩ hext
      obtain ⟨i1, i2⟩ := ext_inv hI hext
      exact ⟨⟨W', ci.F, ci.M, ci.H⟩, rfl, hr, i1, hf.trans i2, (hext.keep _ (Array.getElem?_eq_some_iff.1 hl).1).trans hl, (hext.keep _ (Array.getElem?_eq_some_iff.1 hk).1).trans hk, hG⟩)
    ?_ ⟨c1.into W1, rfl, by simpa [Cfg.into, g2] using h, hI1, hF1, hL1, hK1, fun k => Iff.rfl⟩
  · have e1 : us.toList.toArray = us := by simp
    rw [e1] at key
    refine key.mono ?_
    rintro e W' ⟨⟨v, rfl⟩, G, cn, rfl, hr, hI, hf, hl, hk, hG⟩
    rw [List.drop_length] at hr
    simp only [roundsX, Option.some.injEq] at hr
    refine ⟨none, _, by have := run_endLoop (P := P) hl (by rw [hrec]; simp); rw [hrec] at this; exact this, ?_⟩
    have hck := CKept.putObj (Obj.loop { state := LoopState.exhausted, pending := none, fn := fn, tmps := a.tmps, params := ps, assign := assign, body := body, defers := c.w.heap.size }) hl (fun _ _ _ e => by cases e)
    have hfn := hf.ck hck fun k hk => World.putObj_heap_other (by omega)
    have hkD : (cn.w.putObj (c.w.heap.size + 1) (Obj.loop { state := LoopState.exhausted, pending := none, fn := fn, tmps := a.tmps, params := ps, assign := assign, body := body, defers := c.w.heap.size })).heap[c.w.heap.size]? = some (.deferred (some [])) := (World.putObj_heap_other (by omega)).trans hk
    exact hq (cn.into _) _ hr ⟨hI.ck hck, relL_fut hfn _ _ hs.env, ⟨⟨c.w.heap.size, rfl, hs.lim, hkD, fun d' hd' D' hD' => hs.defers.lt d' hd' D' hD'⟩, hs.defers.fut hs.inv hfn⟩, Nat.le_trans hs.lim hfn.size⟩ hfn
  · rintro i y x W G hy hx ⟨ci, rfl, hr, hI, hf, hl, hk, hG⟩
    have hdrop : ys.drop i = y :: ys.drop (i + 1) := by
      have hi := (List.getElem?_eq_some_iff.1 hy)
      rw [← hi.2, List.drop_eq_getElem_cons]
    rw [hdrop] at hr
    unfold roundsX at hr
    split at hr
    · rename_i heq; cases heq
    · rename_i pv r heq
      injection heq with he1 he2
      subst he1; subst he2
      split at hr
      · rename_i T1 H1' hra
        split at hr
        · rename_i T2 H2 hrb
          have hx0 := hx ci
          simp only [relL] at hx0
          obtain ⟨u, us2, rfl, hu0, rfl⟩ := hx0
          refine ⟨fn, (ps.zip #[u]).foldl (fun tmps (t, a) => tmps.setIfInBounds t a) a.tmps, assign, body, ?_, ?_⟩
          · have := run_yield (P := P) (args := #[u]) hl (by rw [hrec, hpsz]; rfl)
            rw [hrec] at this; exact this
          have htm : (ps.zip #[u]).foldl (fun tmps (t, a) => tmps.setIfInBounds t a) a.tmps = a.tmps.setIfInBounds p u := by rw [hpsz]; simp
          rw [htm]
          have hlt : c.w.heap.size + 1 < ci.w.heap.size := (Array.getElem?_eq_some_iff.1 hl).1
          refine roundIn_of_wpIn hfn ?_
          refine roundX_sound (ro := some (c.w.heap.size + 1)) hC assign hra (hT.set p pv) (a := { tmps := a.tmps.setIfInBounds p u, defers := [] }) ⟨hI, ?_, trivial, Nat.zero_le _⟩ ?_
          · show relL ci (env.set p pv) (a.tmps.setIfInBounds p u).toList
            rw [Array.toList_setIfInBounds]
            exact relL_set (relL_fut hf _ _ hs.env) p hu0
          intro env1 c2 a1 hT1 hH2 hs1 hf1
          have hno1 : ¬ ci.O (c.w.heap.size + 1) := own_not hI hl (fun _ _ _ e => by cases e)
          have hno0 : ¬ ci.O c.w.heap.size := own_not hI hk (fun _ _ _ e => by cases e)
          have hl2 : c2.w.heap[c.w.heap.size + 1]? = some (.loop (rec .ready none)) := (hf1.keepO _ hlt hno1).trans hl
          have hk2 : c2.w.heap[c.w.heap.size]? = some (.deferred (some [])) := (hf1.keepO _ (by omega) hno0).trans hk
          have hrun := run_beginRound (P := P) hl2 (by rw [hrec])
          refine ⟨_, hrun, ?_⟩
          have hckb := CKept.putObj (Obj.loop { rec .ready none with state := .busy }) hl2 (fun _ _ _ e => by cases e)
          have hlt2 : c.w.heap.size + 1 < c2.w.heap.size := (Array.getElem?_eq_some_iff.1 hl2).1
          refine roundX_sound (c := c2.into _) (ro := some (c.w.heap.size + 1)) hC body (show roundX P CX body T1 c2.H = some (T2, H2) by rw [hH2]; exact hrb) hT1 ⟨hs1.inv.ck hckb, relL_ck hckb _ _ hs1.env, hs1.defers.keep fun k hk => World.putObj_heap_other (fun e => by subst e; rw [hl2] at hk; cases hk), Nat.zero_le _⟩ ?_
          intro env2 c4 a2 hT2 hH4 hs2 hf2
          have hl3 : (c2.into (c2.w.putObj (c.w.heap.size + 1) (.loop { rec .ready none with state := .busy }))).w.heap[c.w.heap.size + 1]? = some (.loop { rec .ready none with state := .busy }) := World.putObj_heap_same hlt2
          have hk3 : (c2.into (c2.w.putObj (c.w.heap.size + 1) (.loop { rec .ready none with state := .busy }))).w.heap[c.w.heap.size]? = some (.deferred (some [])) := (World.putObj_heap_other (by omega)).trans hk2
          have hI3 := hs1.inv.ck hckb
          have hl4 := (hf2.keepO _ (Array.getElem?_eq_some_iff.1 hl3).1 (own_not hI3 hl3 (fun _ _ _ e => by cases e))).trans hl3
          have hk4 := (hf2.keepO _ (Array.getElem?_eq_some_iff.1 hk3).1 (own_not hI3 hk3 (fun _ _ _ e => by cases e))).trans hk3
          have hend : (Instr.endRound (c.w.heap.size + 1) none).run P c4.w = .ok (.bool true) (c4.w.putObj (c.w.heap.size + 1) (.loop (rec .ready none))) := by
            have := run_endRound (P := P) none hl4
            rw [hrec] at this ⊢; exact this
          have hcke := CKept.putObj (Obj.loop (rec .ready none)) hl4 (fun _ _ _ e => by cases e)
          have hO3 : ∀ k, c4.O k → ci.O k ∨ ci.w.heap.size ≤ k := fun k hk => by
            rcases hf2.freshO k hk with h1 | h1
            · exact hf1.freshO k h1
            · exact .inr (Nat.le_trans hf1.size (by simpa [Cfg.into] using h1))
          refine ⟨_, _, hend, rfl, fun k => (c4.O k ∨ k = c.w.heap.size ∨ k = c.w.heap.size + 1), ⟨c4.into (c4.w.putObj (c.w.heap.size + 1) (.loop (rec .ready none))), rfl, ?_, hs2.inv.ck hcke, ?_, ?_, ?_, fun k => Iff.rfl⟩, ?_, ?_⟩
          · show roundsX P CX p assign body T (ys.drop (i + 1)) c4.H = some H'
            rw [hH4]; exact hr
          · exact (((hf.trans hf1).ck hckb fun k hk => World.putObj_heap_other (by omega)).trans hf2).ck hcke fun k hk => World.putObj_heap_other (by omega)
          · exact World.putObj_heap_same (Array.getElem?_eq_some_iff.1 hl4).1
          · exact (World.putObj_heap_other (by omega)).trans hk4
          · intro k hk
            have hsz4 := (Array.getElem?_eq_some_iff.1 hl4).1
            have hszk := (Array.getElem?_eq_some_iff.1 hk4).1
            rcases hk with h1 | rfl | rfl
            · refine ⟨?_, ?_⟩
              · rcases hO3 k h1 with h2 | h2
                · exact .inl ((hG k).2 (.inl h2))
                · exact .inr h2
              · have := hs2.inv.lt (.inr h1); simpa using this
            · exact ⟨.inl ((hG _).2 (.inr (.inl rfl))), by simpa using hszk⟩
            · exact ⟨.inl ((hG _).2 (.inr (.inr rfl))), by simpa using hsz4⟩
          · refine ⟨?_, fun k hk1 hk2 => ?_⟩
            · have h1 := hf1.size
              have h2 := hf2.size
              have h3 := hckb.size
              simp only [Cfg.into, World.putObj_size] at h2 h3 ⊢
              simp only [World.putObj, Array.size_setIfInBounds] at h2 h3 ⊢
              omega
            · have hno : ¬ ci.O k ∧ k ≠ c.w.heap.size + 1 := ⟨fun h => hk2 ((hG k).2 (.inl h)), fun h => hk2 ((hG k).2 (.inr (.inr h)))⟩
              have h1 := hf1.keepO k hk1 hno.1
              have hk3 : k < c2.w.heap.size := Nat.lt_of_lt_of_le hk1 hf1.size
              have hno2 : ¬ c2.O k := fun h => by
                rcases hf1.freshO k h with h1 | h1
                · exact hno.1 h1
                · omega
              have h2 := hf2.keepO k (by simpa [Cfg.into] using hk3) hno2
              exact (World.putObj_heap_other hno.2).trans (h2.trans ((World.putObj_heap_other hno.2).trans h1))
        · cases hr
      · cases hr
    · cases hr
end Go.Pv
