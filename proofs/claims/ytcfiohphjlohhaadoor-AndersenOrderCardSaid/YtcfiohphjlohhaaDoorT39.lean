/- dataflowlaw18.AndersenTells -/
import Derived.Test.YtcfiohphjlohhaaDoorT38
import Derived.Test.YtcfiohphjlohhaaDoorM5
import Derived.Deep.RegionHeld3
namespace Go.Proofs.YtcfiohphjlohhaaDoor
open Go.RowKit

theorem deriveP_at (s : Sys) (p q : Pts) (hq : SolOf s q) (aS a1 a2 : Option Addr) (cS c1 c2 : Nat) (w : World) (hS : Cons w aS s.cons) (h1 : Rows2 w a1 p.vars) (h2 : Rows2 w a2 p.cells) (hT : TzMem w) (h12 : s.sites ≤ 12) :
    Calls Tryd.prog 22 #[sysV s aS cS, ptsV p a1 a2 c1 c2] w (BoolAnd (deriveV s p q) w) := by
  refine (deriveP_any s p aS a1 a2 cS c1 c2 w hS h1 h2 hT h12).mono ?_
  rintro e w' ⟨q', hq', hB⟩
  obtain rfl := hq'.unique hq
  exact hB
theorem deriveR_at (s : Sys) (p q : Pts) (hq : SolOf s q) (aS a1 a2 : Option Addr) (cS c1 c2 : Nat) (w : World) (hS : Cons w aS s.cons) (h1 : Rows2 w a1 p.vars) (h2 : Rows2 w a2 p.cells) :
    Calls Tryd.prog 23 #[sysV s aS cS, ptsV p a1 a2 c1 c2] w (BoolAnd (deriveV s p q) w) := by
  refine (deriveR_any s p aS a1 a2 cS c1 c2 w hS h1 h2 ⟨q, hq⟩).mono ?_
  rintro e w' ⟨q', hq', hB⟩
  obtain rfl := hq'.unique hq
  rw [derive_eq hq]
  exact hB

set_option maxRecDepth 100000 in
set_option maxHeartbeats 2000000 in
theorem andersenTells_any (s : Sys) (p r : Pts) (aS a1 a2 r1 r2 : Option Addr) (cS c1 c2 d1 d2 : Nat) (w : World) (hS : Cons w aS s.cons) (h1 : Rows2 w a1 p.vars) (h2 : Rows2 w a2 p.cells) (g1 : Rows2 w r1 r.vars) (g2 : Rows2 w r2 r.cells) (hT : TzMem w) :
    Calls Tryd.prog 4 #[sysV s aS cS, ptsV p a1 a2 c1 c2, ptsV r r1 r2 d1 d2] w (BoolAnd true w) := by
  have hb := below_three w (.cells #[.int .i64 s.vars, .int .i64 s.sites, .int .i64 s.fields, .slice aS s.cons.length cS] 24) (.cells #[.slice a1 p.vars.length c1, .slice a2 p.cells.length c2] 29) (.cells #[.slice r1 r.vars.length d1, .slice r2 r.cells.length d2] 29)
  have K1 : Blk (((w.alloc (.cells #[.int .i64 s.vars, .int .i64 s.sites, .int .i64 s.fields, .slice aS s.cons.length cS] 24)).alloc (.cells #[.slice a1 p.vars.length c1, .slice a2 p.cells.length c2] 29)).alloc (.cells #[.slice r1 r.vars.length d1, .slice r2 r.cells.length d2] 29)) w.heap.size 24 #[.int .i64 s.vars, .int .i64 s.sites, .int .i64 s.fields, .slice aS s.cons.length cS] := ((Blk.new w 24 _).al _).al _
  have K2 : Blk (((w.alloc (.cells #[.int .i64 s.vars, .int .i64 s.sites, .int .i64 s.fields, .slice aS s.cons.length cS] 24)).alloc (.cells #[.slice a1 p.vars.length c1, .slice a2 p.cells.length c2] 29)).alloc (.cells #[.slice r1 r.vars.length d1, .slice r2 r.cells.length d2] 29)) (w.heap.size + 1) 29 #[.slice a1 p.vars.length c1, .slice a2 p.cells.length c2] := by
    have := Blk.new (w.alloc (.cells #[.int .i64 s.vars, .int .i64 s.sites, .int .i64 s.fields, .slice aS s.cons.length cS] 24)) 29 #[.slice a1 p.vars.length c1, .slice a2 p.cells.length c2]
    rw [World.size_alloc] at this
    exact this.al _
  have K3 : Blk (((w.alloc (.cells #[.int .i64 s.vars, .int .i64 s.sites, .int .i64 s.fields, .slice aS s.cons.length cS] 24)).alloc (.cells #[.slice a1 p.vars.length c1, .slice a2 p.cells.length c2] 29)).alloc (.cells #[.slice r1 r.vars.length d1, .slice r2 r.cells.length d2] 29)) (w.heap.size + 1 + 1) 29 #[.slice r1 r.vars.length d1, .slice r2 r.cells.length d2] := by
    have := Blk.new ((w.alloc (.cells #[.int .i64 s.vars, .int .i64 s.sites, .int .i64 s.fields, .slice aS s.cons.length cS] 24)).alloc (.cells #[.slice a1 p.vars.length c1, .slice a2 p.cells.length c2] 29)) 29 #[.slice r1 r.vars.length d1, .slice r2 r.cells.length d2]
    simp only [World.size_alloc] at this
    exact this
  have hS' := hS.below hb
  have h1' := h1.below hb
  have h2' := h2.below hb
  have g1' := g1.below hb
  have g2' := g2.below hb
  have hT' := hT.below hb
  have hm := hS.len.le
  have hm1 := h1.len.le
  have hm2 := h2.len.le
  have hm3 := g1.len.le
  have hm4 := g2.len.le
  dsimp only [sysV, ptsV]
  obtain ⟨q, hq⟩ := sol_exists s
  have HQ := Lib.hid hq
  clear hq
  have HB := Lib.hid hb
  have HS := Lib.hid hS'
  have H1 := Lib.hid h1'
  have H2 := Lib.hid h2'
  have G1 := Lib.hid g1'
  have G2 := Lib.hid g2'
  have HT := Lib.hid hT'
  have HK1 := Lib.hid K1
  have HK2 := Lib.hid K2
  have HK3 := Lib.hid K3
  clear hS h1 h2 g1 g2 hT hb hS' h1' h2' g1' g2' hT' K1 K2 K3
  cases hsm : smallB s
  · have HSM := Lib.hid hsm
    clear hsm
    go_enter Tryd.func4, Tryd.ntmps4
    go_wp2_with (first
      | (go_at_call 12; refine (small_any s _ _ _ HS.out).mono ?_; rintro e w1 ⟨rfl, hb1⟩; rw [HSM.out])
      | (go_at_call 13; refine (awake_any _ (HT.out.below hb1)).mono ?_; rintro e w2 ⟨rfl, hb2⟩))
    go_ret
    have z := HB.out.size
    have e1 := HB.out.trans (hb1.mono z)
    exact BoolAnd.mk rfl (e1.trans (hb2.mono e1.size))
  · have HSM := Lib.hid hsm
    obtain ⟨v1, v2, v3⟩ := small_bd hsm
    clear hsm
    go_enter Tryd.func4, Tryd.ntmps4
    go_wp2_with (first
      | (go_at_call 12; refine (small_any s _ _ _ HS.out).mono ?_; rintro e w1 ⟨rfl, hb1⟩; rw [HSM.out]; have k1 := (HK2.out.below hb1).cell)
      | (go_at_call 16; (with_reducible refine (few_any p a1 a2 c1 c2 w1 (H1.out.below hb1) (H2.out.below hb1)).mono ?_); rintro e w2 ⟨rfl, hb2⟩; have hb3 := hb1.trans (hb2.mono hb1.size); have k2 := (HK3.out.below hb3).cell; cases hf1 : fewB p)
      | (go_at_call 16; refine (few_any r r1 r2 d1 d2 w2 (G1.out.below hb3) (G2.out.below hb3)).mono ?_; rintro e w3 ⟨rfl, hb4⟩; have hb5 := hb3.trans (hb4.mono hb3.size); have x1 := (HK1.out.below hb5).cell; have x2 := (HK2.out.below hb5).cell; have x3 := (HK3.out.below hb5).cell; cases hf2 : fewB r))
    · have z := HB.out.size
      have e1 := HB.out.trans (hb3.mono z)
      go_wp2_with (go_at_call 13; refine (awake_any _ (HT.out.below hb3)).mono ?_; rintro e w4 ⟨rfl, hb6⟩)
      go_ret
      exact BoolAnd.mk rfl (e1.trans (hb6.mono e1.size))
    · have z := HB.out.size
      have e1 := HB.out.trans (hb5.mono z)
      go_wp2_with (go_at_call 13; refine (awake_any _ (HT.out.below hb5)).mono ?_; rintro e w4 ⟨rfl, hb6⟩)
      go_ret
      exact BoolAnd.mk rfl (e1.trans (hb6.mono e1.size))
    have KS : Hid (∀ w', Below (((w.alloc (.cells #[.int .i64 s.vars, .int .i64 s.sites, .int .i64 s.fields, .slice aS s.cons.length cS] 24)).alloc (.cells #[.slice a1 p.vars.length c1, .slice a2 p.cells.length c2] 29)).alloc (.cells #[.slice r1 r.vars.length d1, .slice r2 r.cells.length d2] 29)).heap.size (((w.alloc (.cells #[.int .i64 s.vars, .int .i64 s.sites, .int .i64 s.fields, .slice aS s.cons.length cS] 24)).alloc (.cells #[.slice a1 p.vars.length c1, .slice a2 p.cells.length c2] 29)).alloc (.cells #[.slice r1 r.vars.length d1, .slice r2 r.cells.length d2] 29)) w' → (∀ j, w'.cell? ⟨w.heap.size, j, none⟩ = (#[.int .i64 s.vars, .int .i64 s.sites, .int .i64 s.fields, .slice aS s.cons.length cS] : Array Value)[j]?) ∧ (∀ j, w'.cell? ⟨w.heap.size + 1, j, none⟩ = (#[.slice a1 p.vars.length c1, .slice a2 p.cells.length c2] : Array Value)[j]?) ∧ (∀ j, w'.cell? ⟨w.heap.size + 1 + 1, j, none⟩ = (#[.slice r1 r.vars.length d1, .slice r2 r.cells.length d2] : Array Value)[j]?)) := fun w' h => ⟨(HK1.out.below h).cell, (HK2.out.below h).cell, (HK3.out.below h).cell⟩
    have CA : Hid (∀ w', Below (((w.alloc (.cells #[.int .i64 s.vars, .int .i64 s.sites, .int .i64 s.fields, .slice aS s.cons.length cS] 24)).alloc (.cells #[.slice a1 p.vars.length c1, .slice a2 p.cells.length c2] 29)).alloc (.cells #[.slice r1 r.vars.length d1, .slice r2 r.cells.length d2] 29)).heap.size (((w.alloc (.cells #[.int .i64 s.vars, .int .i64 s.sites, .int .i64 s.fields, .slice aS s.cons.length cS] 24)).alloc (.cells #[.slice a1 p.vars.length c1, .slice a2 p.cells.length c2] 29)).alloc (.cells #[.slice r1 r.vars.length d1, .slice r2 r.cells.length d2] 29)) w' → Calls Tryd.prog 13 #[] w' (BoolAnd true w')) := fun w' h => awake_any w' (HT.out.below h)
    have CP : Hid (∀ w', Below (((w.alloc (.cells #[.int .i64 s.vars, .int .i64 s.sites, .int .i64 s.fields, .slice aS s.cons.length cS] 24)).alloc (.cells #[.slice a1 p.vars.length c1, .slice a2 p.cells.length c2] 29)).alloc (.cells #[.slice r1 r.vars.length d1, .slice r2 r.cells.length d2] 29)).heap.size (((w.alloc (.cells #[.int .i64 s.vars, .int .i64 s.sites, .int .i64 s.fields, .slice aS s.cons.length cS] 24)).alloc (.cells #[.slice a1 p.vars.length c1, .slice a2 p.cells.length c2] 29)).alloc (.cells #[.slice r1 r.vars.length d1, .slice r2 r.cells.length d2] 29)) w' → Calls Tryd.prog 19 #[.agg #[.int .i64 s.vars, .int .i64 s.sites, .int .i64 s.fields, .slice aS s.cons.length cS], .agg #[.slice a1 p.vars.length c1, .slice a2 p.cells.length c2]] w' (BoolAnd (closedB s p) w')) := fun w' h => closedP_any s p aS a1 a2 cS c1 c2 w' (HS.out.below h) (H1.out.below h) (H2.out.below h) (HT.out.below h) v2
    have CR : Hid (∀ w', Below (((w.alloc (.cells #[.int .i64 s.vars, .int .i64 s.sites, .int .i64 s.fields, .slice aS s.cons.length cS] 24)).alloc (.cells #[.slice a1 p.vars.length c1, .slice a2 p.cells.length c2] 29)).alloc (.cells #[.slice r1 r.vars.length d1, .slice r2 r.cells.length d2] 29)).heap.size (((w.alloc (.cells #[.int .i64 s.vars, .int .i64 s.sites, .int .i64 s.fields, .slice aS s.cons.length cS] 24)).alloc (.cells #[.slice a1 p.vars.length c1, .slice a2 p.cells.length c2] 29)).alloc (.cells #[.slice r1 r.vars.length d1, .slice r2 r.cells.length d2] 29)) w' → Calls Tryd.prog 18 #[.agg #[.int .i64 s.vars, .int .i64 s.sites, .int .i64 s.fields, .slice aS s.cons.length cS], .agg #[.slice a1 p.vars.length c1, .slice a2 p.cells.length c2]] w' (BoolAnd (closedB s p) w')) := fun w' h => closedR_any s p aS a1 a2 cS c1 c2 w' (HS.out.below h) (H1.out.below h) (H2.out.below h)
    have WP : Hid (∀ w', Below (((w.alloc (.cells #[.int .i64 s.vars, .int .i64 s.sites, .int .i64 s.fields, .slice aS s.cons.length cS] 24)).alloc (.cells #[.slice a1 p.vars.length c1, .slice a2 p.cells.length c2] 29)).alloc (.cells #[.slice r1 r.vars.length d1, .slice r2 r.cells.length d2] 29)).heap.size (((w.alloc (.cells #[.int .i64 s.vars, .int .i64 s.sites, .int .i64 s.fields, .slice aS s.cons.length cS] 24)).alloc (.cells #[.slice a1 p.vars.length c1, .slice a2 p.cells.length c2] 29)).alloc (.cells #[.slice r1 r.vars.length d1, .slice r2 r.cells.length d2] 29)) w' → Calls Tryd.prog 20 #[.agg #[.slice a1 p.vars.length c1, .slice a2 p.cells.length c2], .agg #[.slice r1 r.vars.length d1, .slice r2 r.cells.length d2]] w' (BoolAnd (withinB p r) w')) := fun w' h => withinA_any p r a1 a2 r1 r2 c1 c2 d1 d2 w' (H1.out.below h) (H2.out.below h) (G1.out.below h) (G2.out.below h)
    have WR : Hid (∀ w', Below (((w.alloc (.cells #[.int .i64 s.vars, .int .i64 s.sites, .int .i64 s.fields, .slice aS s.cons.length cS] 24)).alloc (.cells #[.slice a1 p.vars.length c1, .slice a2 p.cells.length c2] 29)).alloc (.cells #[.slice r1 r.vars.length d1, .slice r2 r.cells.length d2] 29)).heap.size (((w.alloc (.cells #[.int .i64 s.vars, .int .i64 s.sites, .int .i64 s.fields, .slice aS s.cons.length cS] 24)).alloc (.cells #[.slice a1 p.vars.length c1, .slice a2 p.cells.length c2] 29)).alloc (.cells #[.slice r1 r.vars.length d1, .slice r2 r.cells.length d2] 29)) w' → Calls Tryd.prog 21 #[.agg #[.slice a1 p.vars.length c1, .slice a2 p.cells.length c2], .agg #[.slice r1 r.vars.length d1, .slice r2 r.cells.length d2]] w' (BoolAnd (withinB p r) w')) := fun w' h => withinR_any p r a1 a2 r1 r2 c1 c2 d1 d2 w' (H1.out.below h) (H2.out.below h) (G1.out.below h) (G2.out.below h)
    have DP : Hid (∀ w', Below (((w.alloc (.cells #[.int .i64 s.vars, .int .i64 s.sites, .int .i64 s.fields, .slice aS s.cons.length cS] 24)).alloc (.cells #[.slice a1 p.vars.length c1, .slice a2 p.cells.length c2] 29)).alloc (.cells #[.slice r1 r.vars.length d1, .slice r2 r.cells.length d2] 29)).heap.size (((w.alloc (.cells #[.int .i64 s.vars, .int .i64 s.sites, .int .i64 s.fields, .slice aS s.cons.length cS] 24)).alloc (.cells #[.slice a1 p.vars.length c1, .slice a2 p.cells.length c2] 29)).alloc (.cells #[.slice r1 r.vars.length d1, .slice r2 r.cells.length d2] 29)) w' → Calls Tryd.prog 22 #[.agg #[.int .i64 s.vars, .int .i64 s.sites, .int .i64 s.fields, .slice aS s.cons.length cS], .agg #[.slice a1 p.vars.length c1, .slice a2 p.cells.length c2]] w' (BoolAnd (deriveV s p q) w')) := fun w' h => deriveP_at s p q HQ.out aS a1 a2 cS c1 c2 w' (HS.out.below h) (H1.out.below h) (H2.out.below h) (HT.out.below h) v2
    have DR : Hid (∀ w', Below (((w.alloc (.cells #[.int .i64 s.vars, .int .i64 s.sites, .int .i64 s.fields, .slice aS s.cons.length cS] 24)).alloc (.cells #[.slice a1 p.vars.length c1, .slice a2 p.cells.length c2] 29)).alloc (.cells #[.slice r1 r.vars.length d1, .slice r2 r.cells.length d2] 29)).heap.size (((w.alloc (.cells #[.int .i64 s.vars, .int .i64 s.sites, .int .i64 s.fields, .slice aS s.cons.length cS] 24)).alloc (.cells #[.slice a1 p.vars.length c1, .slice a2 p.cells.length c2] 29)).alloc (.cells #[.slice r1 r.vars.length d1, .slice r2 r.cells.length d2] 29)) w' → Calls Tryd.prog 23 #[.agg #[.int .i64 s.vars, .int .i64 s.sites, .int .i64 s.fields, .slice aS s.cons.length cS], .agg #[.slice a1 p.vars.length c1, .slice a2 p.cells.length c2]] w' (BoolAnd (deriveV s p q) w')) := fun w' h => deriveR_at s p q HQ.out aS a1 a2 cS c1 c2 w' (HS.out.below h) (H1.out.below h) (H2.out.below h)
    have C0 := Lib.hid hb5
    clear hb1 hb2 hb3 hb4 hb5
    go_region_held3 (fun w' => (∀ j, w'.cell? ⟨w.heap.size, j, none⟩ = (#[.int .i64 s.vars, .int .i64 s.sites, .int .i64 s.fields, .slice aS s.cons.length cS] : Array Value)[j]?) ∧ (∀ j, w'.cell? ⟨w.heap.size + 1, j, none⟩ = (#[.slice a1 p.vars.length c1, .slice a2 p.cells.length c2] : Array Value)[j]?) ∧ (∀ j, w'.cell? ⟨w.heap.size + 1 + 1, j, none⟩ = (#[.slice r1 r.vars.length d1, .slice r2 r.cells.length d2] : Array Value)[j]?)) (first | exact KS.out _ C0.out.drew | exact KS.out _ C10.out | exact KS.out _ C9.out | exact KS.out _ C8.out | exact KS.out _ C7.out | exact KS.out _ C6.out | exact KS.out _ C5.out | exact KS.out _ C4.out)
      (first
        | (go_at_call 13; refine (CA.out _ C0.out.drew).mono ?_; rintro e w4 ⟨rfl, c4⟩; have C4 := Lib.hid (C0.out.trans ((below_un_drew c4).mono C0.out.size)))
        | (go_at_call 19; refine (CP.out _ C4.out).mono ?_; rintro e w5 ⟨rfl, c5⟩; have C5 := Lib.hid (C4.out.trans (c5.mono C4.out.size)))
        | (go_at_call 18; refine (CR.out _ C5.out).mono ?_; rintro e w6 ⟨rfl, c6⟩; have C6 := Lib.hid (C5.out.trans (c6.mono C5.out.size)))
        | (go_at_call 20; refine (WP.out _ C6.out).mono ?_; rintro e w7 ⟨rfl, c7⟩; have C7 := Lib.hid (C6.out.trans (c7.mono C6.out.size)))
        | (go_at_call 21; refine (WR.out _ C7.out).mono ?_; rintro e w8 ⟨rfl, c8⟩; have C8 := Lib.hid (C7.out.trans (c8.mono C7.out.size)))
        | (go_at_call 22; refine (DP.out _ C8.out).mono ?_; rintro e w9 ⟨rfl, c9⟩; have C9 := Lib.hid (C8.out.trans (c9.mono C8.out.size)))
        | (go_at_call 23; refine (DR.out _ C9.out).mono ?_; rintro e w10 ⟨rfl, c10⟩; have C10 := Lib.hid (C9.out.trans (c10.mono C9.out.size))))
    all_goals go_wp2
    all_goals go_ret
    all_goals exact BoolAnd.mk (by simp) (HB.out.trans (C10.out.mono HB.out.size))
end Go.Proofs.YtcfiohphjlohhaaDoor
