/- dataflowlaw18.AndersenOrder -/
import Derived.Test.YtcfiohphjlohhaaDoorT43
namespace Go.Proofs.YtcfiohphjlohhaaDoor
open Go.RowKit

theorem small_len {s : Sys} (h : smallB s = true) : s.cons.length ≤ 100 := by
  unfold smallB shortB at h
  simp only [Bool.and_eq_true, decide_eq_true_eq] at h
  exact h.1.1.1.1
theorem cell_keep' {w w' : World} (h : Below w.heap.size w w') {p : Addr} {v : Value} (hc : w.cell? p = some v) : w'.cell? p = some v := cell_keep h hc

set_option maxRecDepth 100000 in
set_option maxHeartbeats 2000000 in
theorem andersenOrder_any (s : Sys) (aS : Option Addr) (cS : Nat) (w : World) (hS : Cons w aS s.cons) (hT : TzMem w) :
    Calls Tryd.prog 6 #[sysV s aS cS] w (BoolAnd true w) := by
  have hb : Below w.heap.size w (w.alloc (.cells #[.int .i64 s.vars, .int .i64 s.sites, .int .i64 s.fields, .slice aS s.cons.length cS] 24)) := (Below.refl _ _).alloc (Nat.le_refl _) _
  have hm := hS.len.le
  dsimp only [sysV]
  have HB := Lib.hid hb
  have HS := Lib.hid (hS.below hb)
  have HT := Lib.hid (hT.below hb)
  have HK1 := Lib.hid (Blk.new w 24 #[.int .i64 s.vars, .int .i64 s.sites, .int .i64 s.fields, .slice aS s.cons.length cS])
  clear hS hT hb
  cases hsm : smallB s
  · have HSM := Lib.hid hsm
    clear hsm
    go_enter Tryd.func6, Tryd.ntmps6
    go_wp2_with (first
      | (go_at_call 12; refine (small_any s _ _ _ HS.out).mono ?_; rintro e w1 ⟨rfl, hb1⟩; rw [HSM.out])
      | (go_at_call 13; refine (awake_any _ (HT.out.below hb1)).mono ?_; rintro e w2 ⟨rfl, hb2⟩))
    go_ret
    have z := HB.out.size
    have e1 := HB.out.trans (hb1.mono z)
    exact BoolAnd.mk rfl (e1.trans (hb2.mono e1.size))
  have HSM := Lib.hid hsm
  obtain ⟨v1, v2, v3⟩ := small_bd hsm
  clear hsm
  by_cases hE : checkE s = 0
  case neg =>
    have hq : (checkE s != 0) = true := by simpa using hE
    clear hE
    go_enter Tryd.func6, Tryd.ntmps6
    go_wp2_with (first
      | (go_at_call 12; refine (small_any s _ _ _ HS.out).mono ?_; rintro e w1 ⟨rfl, hb1⟩; rw [HSM.out]; have k2 := (HK1.out.below hb1).cell)
      | (go_at_call 13; (with_reducible refine (awake_any w1 (HT.out.below hb1)).mono ?_); rintro e w3 ⟨rfl, hb4⟩; have hb5 := hb1.trans (hb4.mono hb1.size); have k4 := (HK1.out.below hb5).cell)
      | (go_at_call 14; refine (solveP_any s _ _ w3 (HS.out.below hb5) (HT.out.below hb5) v2).mono ?_; rintro e w4 hp; obtain ⟨q, b1, b2, d1, d2, rfl, hr1, hr2, hb6, hsol⟩ := hp.sol; clear hp; dsimp only [ptsV]))
    go_ret
    have z := HB.out.size
    have e1 := HB.out.trans (hb5.mono z)
    exact BoolAnd.mk rfl ((e1.trans (hb6.mono e1.size)).alloc (e1.trans (hb6.mono e1.size)).size _)
  have HE := Lib.hid hE
  have hs12 := Lib.hid v2
  clear hE
  go_enter Tryd.func6, Tryd.ntmps6
  go_wp2_with (first
    | (go_at_call 12; refine (small_any s _ _ _ HS.out).mono ?_; rintro e w1 ⟨rfl, hb1⟩; rw [HSM.out]; have k2 := (HK1.out.below hb1).cell)
    | (go_at_call 13; (with_reducible refine (awake_any w1 (HT.out.below hb1)).mono ?_); rintro e w3 ⟨rfl, hb4⟩; have hb5 := hb1.trans (hb4.mono hb1.size); have k4 := (HK1.out.below hb5).cell)
    | (go_at_call 14; (with_reducible refine (solveP_any s aS cS w3 (HS.out.below hb5) (HT.out.below hb5) v2).mono ?_); rintro e w4 hp; obtain ⟨q, b1, b2, d1, d2, rfl, hr1, hr2, hb6, hsol⟩ := hp.sol; clear hp; rw [HE.out]; have hb7 := hb5.trans (hb6.mono hb5.size); have k5 := (HK1.out.below hb7).cell; have z5 := (HK1.out.below hb7).lt; have hl1 := hr1.len.le; have hl2 := hr2.len.le; dsimp only [ptsV]))
  obtain ⟨w5, hw5⟩ : ∃ w5, w5 = w4.alloc (.cells #[.slice b1 q.vars.length d1, .slice b2 q.cells.length d2] 29) := ⟨_, rfl⟩
  have hz5 : w4.heap.size + 1 = w5.heap.size := by rw [hw5, World.size_alloc]
  rw [← hw5, hz5]
  have KQ : Hid (Blk w5 w4.heap.size 29 #[.slice b1 q.vars.length d1, .slice b2 q.cells.length d2]) := by rw [hw5]; exact Blk.new _ _ _
  have KA : Below w4.heap.size w4 w5 := by rw [hw5]; exact (Below.refl _ _).alloc (Nat.le_refl _) _
  have q1 := Lib.hid (hr1.below KA)
  have q2 := Lib.hid (hr2.below KA)
  have hb8 := hb7.trans (KA.mono hb7.size)
  have ZF := Lib.hid (HB.out.trans (hb8.mono HB.out.size))
  have f1 := Lib.hid (HS.out.below hb8)
  have f4 := Lib.hid (HT.out.below hb8)
  have f5 := Lib.hid (HK1.out.below hb8)
  have HQ := Lib.hid hsol
  have hlen := small_len HSM.out
  have y0 : w.heap.size < w5.heap.size := by omega
  obtain ⟨i0, hi0, hz0⟩ := info_parts info39
  have HI := Lib.hid hi0
  have HZ := Lib.hid hz0
  clear hw5 hr1 hr2 KA hb8 hb7 hb6 hb5 hb4 hb1 k2 k4 k5 hsol hi0 hz0 hz5
  go_loopg [6] s.cons.length (fun g i wr => ∃ (j : Nat) (v : Value) (es : List (Con × Option Addr × Nat)), j ≤ s.cons.length ∧ g = j ∧ (j = 0 ∧ i = .int .i64 (-1) ∨ ∃ m : Nat, j = m + 1 ∧ i = .int .i64 m) ∧ Hid (MadeT w5 wr s v es) ∧ Hid (es.map (·.1) = (s.cons.drop j).reverse))
  case atStart =>
    refine ⟨s.cons.length, _, [], Nat.le_refl _, rfl, ?_, MadeT.start w5 s, by unfold Hid; simp⟩
    rcases Nat.eq_zero_or_pos s.cons.length with h0 | h0
    · exact .inl ⟨h0, by rw [h0]; rfl⟩
    · exact .inr ⟨s.cons.length - 1, by omega, by congr 1; omega⟩
  case round =>
    obtain ⟨j, v, es, hj, rfl, hi, hM, hL⟩ := hrel
    have j1 : ∀ x, wr.cell? ⟨w.heap.size, x, none⟩ = #[.int .i64 s.vars, .int .i64 s.sites, .int .i64 s.fields, .slice aS s.cons.length cS][x]? := (f5.out.below hM.out.B).cell
    have c3 : wr.cell? ⟨w5.heap.size, 3, none⟩ = some v := hM.out.blk.cell 3
    have y1 : w5.heap.size < wr.heap.size := hM.out.blk.lt
    have y2 : w.heap.size < wr.heap.size := by omega
    have hel : es.length ≤ 100 := by
      have := congrArg List.length hL.out
      rw [List.length_map, List.length_reverse, List.length_drop] at this
      omega
    rcases hi with ⟨rfl, rfl⟩ | ⟨m, rfl, rfl⟩
    · by_cases h0 : s.cons.length = 0
      · obtain ⟨wt, rfl⟩ : ∃ wt : World, wt = wr := ⟨_, rfl⟩
        obtain ⟨es2, rfl⟩ : ∃ es2, es2 = es := ⟨_, rfl⟩
        have hM2 := hM
        have hlen2 : Hid (es2.length ≤ 101) := by unfold Hid; omega
        have hmem : Hid ((∀ c ∈ es2.map (·.1), c ∈ s.cons) ∧ ∀ c ∈ s.cons, c ∈ es2.map (·.1)) := by
          rw [hL.out]; exact ⟨fun c hc => by simpa using hc, fun c hc => by simpa using hc⟩
        clear hM hL c3
        have h0' : ¬ (0 : Int) < (s.cons.length : Int) := by omega
        obtain ⟨A, cA, hvA, hCt⟩ := hM2.out.cons (by have := hlen2.out; omega)
        obtain ⟨L, hLL⟩ : ∃ L, L = es2.map (·.1) := ⟨_, rfl⟩
        have hL1 : Hid (∀ c ∈ L, c ∈ s.cons) := by rw [hLL]; exact hmem.out.1
        have hL2 : Hid (∀ c ∈ s.cons, c ∈ L) := by rw [hLL]; exact hmem.out.2
        have hL3 : Hid (L.length ≤ 32768) := by
          rw [hLL]; show (es2.map (·.1)).length ≤ 32768
          rw [List.length_map]; have := hlen2.out; omega
        have hL4 : Hid (s.cons.length ≤ 32768) := check_len HE.out
        rw [← hLL] at hCt
        have kt := hM2.out.blk
        rw [hvA, ← hLL] at kt
        have hBt := hM2.out.B
        have ft := f4.out.below hBt
        have HET := Lib.hid (check_sw HE.out hL1.out hL3.out)
        have CS2 : Hid (Calls Tryd.prog 14 #[.agg #[.int .i64 s.vars, .int .i64 s.sites, .int .i64 s.fields, .slice A L.length cA]] wt (SolvePost (sw s L) wt)) := solveP_any (sw s L) A cA wt hCt ft hs12.out
        have t0 := kt.cell
        have KP := Lib.hid (KQ.out.below hBt)
        have QT1 := Lib.hid (q1.out.below hBt)
        have QT2 := Lib.hid (q2.out.below hBt)
        have ZT := Lib.hid (ZF.out.trans (hBt.mono ZF.out.size))
        have hlL := hL3.out
        clear hCt ft hM2 hBt hmem hlen2 hLL kt hvA
        go_wp2_with (go_at_call 14; (with_reducible refine CS2.out.mono ?_); rintro e w6 hp; obtain ⟨r, e1, e2, g1, g2, rfl, gr1, gr2, c5, hsol2⟩ := hp.sol; clear hp; rw [HET.out]; have hl5 := gr1.len.le; have hl6 := gr2.len.le; have x2 := (KP.out.below c5).cell; have u2 := (KP.out.below c5).lt; dsimp only [ptsV])
        have KR := Blk.new w6 29 #[.slice e1 r.vars.length g1, .slice e2 r.cells.length g2]
        have KB : Below w6.heap.size w6 (w6.alloc (.cells #[.slice e1 r.vars.length g1, .slice e2 r.cells.length g2] 29)) := (Below.refl _ _).alloc (Nat.le_refl _) _
        have c6 := c5.trans (KB.mono c5.size)
        have p1 := gr1.below KB
        have p2 := gr2.below KB
        have g5 := QT1.out.below c6
        have g6 := QT2.out.below c6
        have g7 := Lib.hid (ZT.out.trans (c6.mono ZT.out.size))
        have g8 := KP.out.below c6
        generalize w6.alloc (.cells #[.slice e1 r.vars.length g1, .slice e2 r.cells.length g2] 29) = wz at *
        have hwi : Hid (withinB r q = true) := sub_within HE.out hL1.out hL3.out HQ.out hsol2
        have hwj : Hid (withinB q r = true) := sw_within HE.out hL1.out hL3.out hL2.out hL4.out HQ.out hsol2
        have CA : Hid (∀ w' : World, Below wz.heap.size wz w' → Calls Tryd.prog 20 #[.agg #[.slice b1 q.vars.length d1, .slice b2 q.cells.length d2], .agg #[.slice e1 r.vars.length g1, .slice e2 r.cells.length g2]] w' (BoolAnd true w')) := fun w' h => (withinA_any q r b1 b2 e1 e2 d1 d2 g1 g2 w' (g5.below h) (g6.below h) (p1.below h) (p2.below h)).mono fun e w2 hh => by rw [hwj.out] at hh; exact hh
        have CB : Hid (∀ w' : World, Below wz.heap.size wz w' → Calls Tryd.prog 20 #[.agg #[.slice e1 r.vars.length g1, .slice e2 r.cells.length g2], .agg #[.slice b1 q.vars.length d1, .slice b2 q.cells.length d2]] w' (BoolAnd true w')) := fun w' h => (withinA_any r q e1 e2 b1 b2 g1 g2 d1 d2 w' (p1.below h) (p2.below h) (g5.below h) (g6.below h)).mono fun e w2 hh => by rw [hwi.out] at hh; exact hh
        have KV : Hid (∀ w' : World, Below wz.heap.size wz w' → (∀ j, w'.cell? ⟨w4.heap.size, j, none⟩ = (#[.slice b1 q.vars.length d1, .slice b2 q.cells.length d2] : Array Value)[j]?) ∧ (∀ j, w'.cell? ⟨w6.heap.size, j, none⟩ = (#[.slice e1 r.vars.length g1, .slice e2 r.cells.length g2] : Array Value)[j]?)) := fun w' h => ⟨(g8.below h).cell, (KR.below h).cell⟩
        have C0 : Hid (Below wz.heap.size wz wz) := Below.refl _ _
        clear gr1 gr2 KB c6 p1 p2 g5 g6 g8 KR hsol2 c5 x2 u2 t0
        obtain ⟨x01, x02⟩ := KV.out _ C0.out
        go_wp2_with (first
          | (go_at_call 20; (with_reducible refine (CA.out _ C0.out).mono ?_); rintro e w7 ⟨rfl, c7⟩; have C7 := Lib.hid (C0.out.trans (c7.mono C0.out.size)); obtain ⟨x61, x62⟩ := KV.out _ C7.out)
          | (go_at_call 20; (with_reducible refine (CB.out _ C7.out).mono ?_); rintro e w8 ⟨rfl, c8⟩; have C8 := Lib.hid (C7.out.trans (c8.mono C7.out.size))))
        go_ret
        exact BoolAnd.mk rfl (g7.out.trans (C8.out.mono g7.out.size))
      · have hpos : 0 < s.cons.length := by omega
        obtain ⟨b, o, a', c', rfl, e0, e1, e2, e3, e4, hi⟩ := f1.out.at_ 0 s.cons[0] (get_at hpos)
        have HI5 := Lib.hid hi
        replace e0 := cell_keep' hM.out.B e0
        replace e1 := cell_keep' hM.out.B e1
        replace e2 := cell_keep' hM.out.B e2
        replace e3 := cell_keep' hM.out.B e3
        replace e4 := cell_keep' hM.out.B e4
        simp only [Nat.zero_mul, Nat.add_zero] at e0 e1 e2 e3 e4
        have H0 : wr.drew.ownsRow w5.heap.size 39 5 v es.length (es.flatMap conCells) := hM.out.own
        have HO := Lib.hid (H0.alloc (.cells #[.int .i64 s.cons[0].kind, .int .i64 s.cons[0].a, .int .i64 s.cons[0].b, .int .i64 s.cons[0].field, .slice a' s.cons[0].set.length c'] 39))
        have HU : Hid (Blk (wr.drew.alloc (.cells #[.int .i64 s.cons[0].kind, .int .i64 s.cons[0].a, .int .i64 s.cons[0].b, .int .i64 s.cons[0].field, .slice a' s.cons[0].set.length c'] 39)) wr.heap.size 39 #[.int .i64 s.cons[0].kind, .int .i64 s.cons[0].a, .int .i64 s.cons[0].b, .int .i64 s.cons[0].field, .slice a' s.cons[0].set.length c']) := Blk.new wr.drew 39 _
        have HTT : Hid (∀ w2, (wr.drew.alloc (.cells #[.int .i64 s.cons[0].kind, .int .i64 s.cons[0].a, .int .i64 s.cons[0].b, .int .i64 s.cons[0].field, .slice a' s.cons[0].set.length c'] 39)).grownBy w2 v.ownBlock → w2.cell? ⟨w5.heap.size, 3, none⟩ = some v ∧ w2.frozen? ⟨w5.heap.size, 3, none⟩ = false) := fun w2 hg => by
          have hb0 : Blk wr.drew w5.heap.size 24 _ := hM.out.blk
          have hb1 := (hb0.below ((Below.refl _ _).alloc (Nat.le_refl _) (.cells #[.int .i64 s.cons[0].kind, .int .i64 s.cons[0].a, .int .i64 s.cons[0].b, .int .i64 s.cons[0].field, .slice a' s.cons[0].set.length c'] 39))).grown hg (own_ne_blk hM.out.own hM.out.blk (by decide))
          exact ⟨hb1.cell 3, hb1.frozen 3⟩
        have HSZ : Hid (w5.heap.size ≤ (wr.drew.alloc (.cells #[.int .i64 s.cons[0].kind, .int .i64 s.cons[0].a, .int .i64 s.cons[0].b, .int .i64 s.cons[0].field, .slice a' s.cons[0].set.length c'] 39)).heap.size) := by
          have h1 : w5.heap.size ≤ wr.drew.heap.size := hM.out.B.size
          unfold Hid; rw [World.size_alloc]; omega
        have hpos' : (0 : Int) < (s.cons.length : Int) := by omega
        clear H0 hi
        go_wp2
        go_region_law (refine step_append5 rfl (.tmp 54) (.tmp 59) i0 _ rfl HI.out HZ.out rfl w5.heap.size v es.length _ rfl HO.out wr.heap.size 1 (s.cons[0], a', c') rfl HU.out (by omega) HSZ.out ?_; intro g cap w2 hown hgrow hat hlg; obtain ⟨e1, e2⟩ := HTT.out _ hgrow)
        all_goals
          have hM2 := Lib.hid (hM.out.step (e := (s.cons[0], a', c')) HI5.out hown hgrow)
          obtain ⟨wt, hwt⟩ : ∃ wt : World, wt = w2.setCell ⟨w5.heap.size, 3, none⟩ (.slice (some ⟨g, 0, none⟩) (es.length + 1) cap) := ⟨_, rfl⟩
          obtain ⟨es2, hes⟩ : ∃ es2, es2 = es ++ [(s.cons[0], a', c')] := ⟨_, rfl⟩
          have hlen2 : Hid (es2.length ≤ 101) := by rw [hes]; unfold Hid; simp; omega
          have hmem : Hid ((∀ c ∈ es2.map (·.1), c ∈ s.cons) ∧ ∀ c ∈ s.cons, c ∈ es2.map (·.1)) := by
            rw [hes, List.map_append, hL.out]
            exact ⟨fun c hc => by
              rcases List.mem_append.1 hc with hc | hc
              · simpa using hc
              · have : c = s.cons[0] := by simpa using hc
                rw [this]; exact List.getElem_mem _, fun c hc => List.mem_append_left _ (by simpa using hc)⟩
          rw [← hwt, ← hes] at hM2
          rw [← hwt]
          clear hwt hes hown hgrow hat hlg e1 e2 HTT HO HU HSZ hM hL c3 j1 y1 y2
          obtain ⟨A, cA, hvA, hCt⟩ := hM2.out.cons (by have := hlen2.out; omega)
          obtain ⟨L, hLL⟩ : ∃ L, L = es2.map (·.1) := ⟨_, rfl⟩
          have hL1 : Hid (∀ c ∈ L, c ∈ s.cons) := by rw [hLL]; exact hmem.out.1
          have hL2 : Hid (∀ c ∈ s.cons, c ∈ L) := by rw [hLL]; exact hmem.out.2
          have hL3 : Hid (L.length ≤ 32768) := by
            rw [hLL]; show (es2.map (·.1)).length ≤ 32768
            rw [List.length_map]; have := hlen2.out; omega
          have hL4 : Hid (s.cons.length ≤ 32768) := check_len HE.out
          rw [← hLL] at hCt
          have kt := hM2.out.blk
          rw [hvA, ← hLL] at kt
          have hBt := hM2.out.B
          have ft := f4.out.below hBt
          have HET := Lib.hid (check_sw HE.out hL1.out hL3.out)
          have CS2 : Hid (Calls Tryd.prog 14 #[.agg #[.int .i64 s.vars, .int .i64 s.sites, .int .i64 s.fields, .slice A L.length cA]] wt (SolvePost (sw s L) wt)) := solveP_any (sw s L) A cA wt hCt ft hs12.out
          have t0 := kt.cell
          have KP := Lib.hid (KQ.out.below hBt)
          have QT1 := Lib.hid (q1.out.below hBt)
          have QT2 := Lib.hid (q2.out.below hBt)
          have ZT := Lib.hid (ZF.out.trans (hBt.mono ZF.out.size))
          have hlL := hL3.out
          clear hCt ft hM2 hBt hmem hlen2 hLL kt hvA
          go_wp2_with (go_at_call 14; (with_reducible refine CS2.out.mono ?_); rintro e w6 hp; obtain ⟨r, e1, e2, g1, g2, rfl, gr1, gr2, c5, hsol2⟩ := hp.sol; clear hp; rw [HET.out]; have hl5 := gr1.len.le; have hl6 := gr2.len.le; have x2 := (KP.out.below c5).cell; have u2 := (KP.out.below c5).lt; dsimp only [ptsV])
          have KR := Blk.new w6 29 #[.slice e1 r.vars.length g1, .slice e2 r.cells.length g2]
          have KB : Below w6.heap.size w6 (w6.alloc (.cells #[.slice e1 r.vars.length g1, .slice e2 r.cells.length g2] 29)) := (Below.refl _ _).alloc (Nat.le_refl _) _
          have c6 := c5.trans (KB.mono c5.size)
          have p1 := gr1.below KB
          have p2 := gr2.below KB
          have g5 := QT1.out.below c6
          have g6 := QT2.out.below c6
          have g7 := Lib.hid (ZT.out.trans (c6.mono ZT.out.size))
          have g8 := KP.out.below c6
          generalize w6.alloc (.cells #[.slice e1 r.vars.length g1, .slice e2 r.cells.length g2] 29) = wz at *
          have hwi : Hid (withinB r q = true) := sub_within HE.out hL1.out hL3.out HQ.out hsol2
          have hwj : Hid (withinB q r = true) := sw_within HE.out hL1.out hL3.out hL2.out hL4.out HQ.out hsol2
          have CA : Hid (∀ w' : World, Below wz.heap.size wz w' → Calls Tryd.prog 20 #[.agg #[.slice b1 q.vars.length d1, .slice b2 q.cells.length d2], .agg #[.slice e1 r.vars.length g1, .slice e2 r.cells.length g2]] w' (BoolAnd true w')) := fun w' h => (withinA_any q r b1 b2 e1 e2 d1 d2 g1 g2 w' (g5.below h) (g6.below h) (p1.below h) (p2.below h)).mono fun e w2 hh => by rw [hwj.out] at hh; exact hh
          have CB : Hid (∀ w' : World, Below wz.heap.size wz w' → Calls Tryd.prog 20 #[.agg #[.slice e1 r.vars.length g1, .slice e2 r.cells.length g2], .agg #[.slice b1 q.vars.length d1, .slice b2 q.cells.length d2]] w' (BoolAnd true w')) := fun w' h => (withinA_any r q e1 e2 b1 b2 g1 g2 d1 d2 w' (p1.below h) (p2.below h) (g5.below h) (g6.below h)).mono fun e w2 hh => by rw [hwi.out] at hh; exact hh
          have KV : Hid (∀ w' : World, Below wz.heap.size wz w' → (∀ j, w'.cell? ⟨w4.heap.size, j, none⟩ = (#[.slice b1 q.vars.length d1, .slice b2 q.cells.length d2] : Array Value)[j]?) ∧ (∀ j, w'.cell? ⟨w6.heap.size, j, none⟩ = (#[.slice e1 r.vars.length g1, .slice e2 r.cells.length g2] : Array Value)[j]?)) := fun w' h => ⟨(g8.below h).cell, (KR.below h).cell⟩
          have C0 : Hid (Below wz.heap.size wz wz) := Below.refl _ _
          clear gr1 gr2 KB c6 p1 p2 g5 g6 g8 KR hsol2 c5 x2 u2 t0
          obtain ⟨x01, x02⟩ := KV.out _ C0.out
          go_wp2_with (first
            | (go_at_call 20; (with_reducible refine (CA.out _ C0.out).mono ?_); rintro e w7 ⟨rfl, c7⟩; have C7 := Lib.hid (C0.out.trans (c7.mono C0.out.size)); obtain ⟨x61, x62⟩ := KV.out _ C7.out)
            | (go_at_call 20; (with_reducible refine (CB.out _ C7.out).mono ?_); rintro e w8 ⟨rfl, c8⟩; have C8 := Lib.hid (C7.out.trans (c8.mono C7.out.size))))
          go_ret
          exact BoolAnd.mk rfl (g7.out.trans (C8.out.mono g7.out.size))
    · have hlt : m < s.cons.length := by omega
      obtain ⟨b, o, a', c', rfl, e0, e1, e2, e3, e4, hi⟩ := f1.out.at_ m s.cons[m] (get_at hlt)
      have HI5 := Lib.hid hi
      replace e0 := cell_keep' hM.out.B e0
      replace e1 := cell_keep' hM.out.B e1
      replace e2 := cell_keep' hM.out.B e2
      replace e3 := cell_keep' hM.out.B e3
      replace e4 := cell_keep' hM.out.B e4
      have H0 : wr.drew.ownsRow w5.heap.size 39 5 v es.length (es.flatMap conCells) := hM.out.own
      have HO := Lib.hid (H0.alloc (.cells #[.int .i64 s.cons[m].kind, .int .i64 s.cons[m].a, .int .i64 s.cons[m].b, .int .i64 s.cons[m].field, .slice a' s.cons[m].set.length c'] 39))
      have HU : Hid (Blk (wr.drew.alloc (.cells #[.int .i64 s.cons[m].kind, .int .i64 s.cons[m].a, .int .i64 s.cons[m].b, .int .i64 s.cons[m].field, .slice a' s.cons[m].set.length c'] 39)) wr.heap.size 39 #[.int .i64 s.cons[m].kind, .int .i64 s.cons[m].a, .int .i64 s.cons[m].b, .int .i64 s.cons[m].field, .slice a' s.cons[m].set.length c']) := Blk.new wr.drew 39 _
      have HTT : Hid (∀ w2, (wr.drew.alloc (.cells #[.int .i64 s.cons[m].kind, .int .i64 s.cons[m].a, .int .i64 s.cons[m].b, .int .i64 s.cons[m].field, .slice a' s.cons[m].set.length c'] 39)).grownBy w2 v.ownBlock → w2.cell? ⟨w5.heap.size, 3, none⟩ = some v ∧ w2.frozen? ⟨w5.heap.size, 3, none⟩ = false) := fun w2 hg => by
        have hb0 : Blk wr.drew w5.heap.size 24 _ := hM.out.blk
        have hb1 := (hb0.below ((Below.refl _ _).alloc (Nat.le_refl _) (.cells #[.int .i64 s.cons[m].kind, .int .i64 s.cons[m].a, .int .i64 s.cons[m].b, .int .i64 s.cons[m].field, .slice a' s.cons[m].set.length c'] 39))).grown hg (own_ne_blk hM.out.own hM.out.blk (by decide))
        exact ⟨hb1.cell 3, hb1.frozen 3⟩
      have HSZ : Hid (w5.heap.size ≤ (wr.drew.alloc (.cells #[.int .i64 s.cons[m].kind, .int .i64 s.cons[m].a, .int .i64 s.cons[m].b, .int .i64 s.cons[m].field, .slice a' s.cons[m].set.length c'] 39)).heap.size) := by
        have h1 : w5.heap.size ≤ wr.drew.heap.size := hM.out.B.size
        unfold Hid; rw [World.size_alloc]; omega
      clear H0 hi
      go_wp2
      go_region_law (refine step_append5 rfl (.tmp 40) (.tmp 46) i0 _ rfl HI.out HZ.out rfl w5.heap.size v es.length _ rfl HO.out wr.heap.size 1 (s.cons[m], a', c') rfl HU.out (by omega) HSZ.out ?_; intro g cap w2 hown hgrow hat hlg; obtain ⟨e1, e2⟩ := HTT.out _ hgrow)
      all_goals
        have M1 := Lib.hid (hM.out.step (e := (s.cons[m], a', c')) HI5.out hown hgrow)
        clear hown hgrow hat hlg e1 e2 HTT HO HU HSZ
        go_wp2
        go_roundg m
        case measure => omega
        case rel =>
          refine ⟨m, _, es ++ [(s.cons[m], a', c')], by omega, rfl, ?_, M1, ?_⟩
          · cases m with
            | zero => exact .inl ⟨rfl, by go_num⟩
            | succ m => exact .inr ⟨m, rfl, by go_num⟩
          · unfold Hid
            rw [List.map_append, hL.out, drop_at hlt, List.reverse_cons]; rfl
end Go.Proofs.YtcfiohphjlohhaaDoor
