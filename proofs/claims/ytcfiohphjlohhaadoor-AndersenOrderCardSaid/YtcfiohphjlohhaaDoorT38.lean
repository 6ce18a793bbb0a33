/- dataflowlaw18.AndersenSolve -/
import Derived.Test.YtcfiohphjlohhaaDoorT37
namespace Go.Proofs.YtcfiohphjlohhaaDoor
open Go.RowKit

theorem small_bd {s : Sys} (h : smallB s = true) : s.vars ≤ 40 ∧ s.sites ≤ 12 ∧ s.fields ≤ 5 := by
  unfold smallB at h
  simp only [Bool.and_eq_true, decide_eq_true_eq] at h
  exact ⟨h.1.1.2, h.1.2, h.2⟩

set_option maxRecDepth 100000 in
set_option maxHeartbeats 1000000 in
theorem andersenSolve_any (s : Sys) (aS : Option Addr) (cS : Nat) (w : World) (hS : Cons w aS s.cons) (hT : TzMem w) :
    Calls Tryd.prog 3 #[sysV s aS cS] w (BoolAnd true w) := by
  have hb : Below w.heap.size w (w.alloc (.cells #[.int .i64 s.vars, .int .i64 s.sites, .int .i64 s.fields, .slice aS s.cons.length cS] 24)) := (Below.refl _ _).alloc (Nat.le_refl _) _
  have hS' := hS.below hb
  have hT' := hT.below hb
  have hm := hS.len.le
  have HK := Lib.hid (Blk.new w 24 #[.int .i64 s.vars, .int .i64 s.sites, .int .i64 s.fields, .slice aS s.cons.length cS])
  dsimp only [sysV]
  cases hsm : smallB s
  · have HSM := Lib.hid hsm
    clear hsm
    go_enter Tryd.func3, Tryd.ntmps3
    go_wp2_with (first
      | (go_at_call 12; refine (small_any s _ _ _ hS').mono ?_; rintro e w1 ⟨rfl, hb1⟩; rw [HSM.out])
      | (go_at_call 13; refine (awake_any _ (hT'.below hb1)).mono ?_; rintro e w2 ⟨rfl, hb2⟩))
    go_ret
    have e1 := below_box hb1
    exact BoolAnd.mk rfl (e1.trans (hb2.mono e1.size))
  · have HSM := Lib.hid hsm
    obtain ⟨v1, v2, v3⟩ := small_bd hsm
    clear hsm
    by_cases hE : checkE s = 0
    · have HE := Lib.hid hE
      clear hE
      go_enter Tryd.func3, Tryd.ntmps3
      go_wp2_with (first
        | (go_at_call 12; refine (small_any s _ _ _ hS').mono ?_; rintro e w1 ⟨rfl, hb1⟩; rw [HSM.out]; have k1 := (HK.out.below hb1).cell; have z1 := (HK.out.below hb1).lt)
        | (go_at_call 14; refine (solveP_any s _ _ _ (hS'.below hb1) (hT'.below hb1) v2).mono ?_; rintro e w2 hp; obtain ⟨p, b1, b2, d1, d2, rfl, hr1, hr2, hb2, hsol⟩ := hp.sol; clear hp; have hb3 := hb1.trans (hb2.mono hb1.size); have k2 := (HK.out.below hb3).cell; have z2 := (HK.out.below hb3).lt; have KA : Below w2.heap.size w2 (w2.alloc (.cells #[.slice b1 p.vars.length d1, .slice b2 p.cells.length d2] 29)) := (Below.refl _ _).alloc (Nat.le_refl _) _; have hb4 := hb3.trans (KA.mono hb3.size); have hsol := Lib.hid hsol; have hl1 := hr1.len.le; have hl2 := hr2.len.le; have KR := Lib.hid (Blk.new w2 29 #[.slice b1 p.vars.length d1, .slice b2 p.cells.length d2]); rw [HE.out]; dsimp only [ptsV])
        | (go_at_call 15; refine (solveR_any s _ _ _ (hS'.below hb4)).mono ?_; rintro e w3 hp; obtain ⟨q, c1, c2, f1, f2, rfl, gr1, gr2, hb5, hsol2⟩ := hp.sol; clear hp; obtain rfl := hsol.out.unique hsol2; have hb6 := hb4.trans (hb5.mono hb4.size); have k3 := (HK.out.below hb6).cell; have k4 := (KR.out.below hb5).cell; have z3 := (HK.out.below hb6).lt; have z4 := (KR.out.below hb5).lt; have KA2 : Below w3.heap.size w3 (w3.alloc (.cells #[.slice c1 p.vars.length f1, .slice c2 p.cells.length f2] 29)) := (Below.refl _ _).alloc (Nat.le_refl _) _; have hb7 := hb6.trans (KA2.mono hb6.size); have KR2 := Lib.hid (Blk.new w3 29 #[.slice c1 p.vars.length f1, .slice c2 p.cells.length f2]); have qr1 := Lib.hid (((hr1.below KA).below hb5).below KA2); have qr2 := Lib.hid (((hr2.below KA).below hb5).below KA2); have tr1 := Lib.hid (gr1.below KA2); have tr2 := Lib.hid (gr2.below KA2); rw [HE.out]; dsimp only [ptsV])
        | (go_at_call 13; refine (awake_any _ (hT'.below hb7)).mono ?_; rintro e w4 ⟨rfl, hb8⟩; have hb9 := hb7.trans (hb8.mono hb7.size); have k5 := (HK.out.below hb9).cell; have k6 := (((KR.out.below hb5).below KA2).below hb8).cell; have k7 := (KR2.out.below hb8).cell)
        | (go_at_call 16; refine (few_any p b1 b2 d1 d2 w4 (qr1.out.below hb8) (qr2.out.below hb8)).mono ?_; rintro e w5 ⟨rfl, hb10⟩; rw [sol_few v1 v2 v3 hsol.out]; have hb11 := hb9.trans (hb10.mono hb9.size); have hb12 := hb8.trans (hb10.mono hb8.size); have k8 := (HK.out.below hb11).cell; have k9 := (((KR.out.below hb5).below KA2).below hb12).cell; have k10 := (KR2.out.below hb12).cell)
        | (go_at_call 17; refine (same_any p p b1 b2 c1 c2 d1 d2 f1 f2 w5 (qr1.out.below hb12) (qr2.out.below hb12) (tr1.out.below hb12) (tr2.out.below hb12)).mono ?_; rintro e w6 ⟨rfl, hb13⟩; rw [sameB_refl]; have hb14 := hb11.trans (hb13.mono hb11.size); have hb15 := hb12.trans (hb13.mono hb12.size); have k11 := (HK.out.below hb14).cell; have k12 := (((KR.out.below hb5).below KA2).below hb15).cell)
        | (go_at_call 18; refine (closedR_any s p aS b1 b2 cS d1 d2 w6 (hS'.below hb14) (qr1.out.below hb15) (qr2.out.below hb15)).mono ?_; rintro e w7 ⟨rfl, hb16⟩; rw [sol_closed HE.out hsol.out]))
      go_ret
      have e1 := below_box hb14
      exact BoolAnd.mk rfl (e1.trans (hb16.mono e1.size))
    · have hq : (checkE s != 0) = true := by simpa using hE
      clear hE
      go_enter Tryd.func3, Tryd.ntmps3
      go_wp2_with (first
        | (go_at_call 12; refine (small_any s _ _ _ hS').mono ?_; rintro e w1 ⟨rfl, hb1⟩; rw [HSM.out]; have k1 := (HK.out.below hb1).cell; have z1 := (HK.out.below hb1).lt)
        | (go_at_call 14; refine (solveP_any s _ _ _ (hS'.below hb1) (hT'.below hb1) v2).mono ?_; rintro e w2 hp; obtain ⟨p, b1, b2, d1, d2, rfl, hr1, hr2, hb2, hsol⟩ := hp.sol; clear hp; have hb3 := hb1.trans (hb2.mono hb1.size); have k2 := (HK.out.below hb3).cell; have z2 := (HK.out.below hb3).lt; have KA : Below w2.heap.size w2 (w2.alloc (.cells #[.slice b1 p.vars.length d1, .slice b2 p.cells.length d2] 29)) := (Below.refl _ _).alloc (Nat.le_refl _) _; have hb4 := hb3.trans (KA.mono hb3.size); have hsol := Lib.hid hsol; have hl1 := hr1.len.le; have hl2 := hr2.len.le; have KR := Lib.hid (Blk.new w2 29 #[.slice b1 p.vars.length d1, .slice b2 p.cells.length d2]); dsimp only [ptsV])
        | (go_at_call 15; refine (solveR_any s _ _ _ (hS'.below hb4)).mono ?_; rintro e w3 hp; obtain ⟨q, c1, c2, f1, f2, rfl, gr1, gr2, hb5, hsol2⟩ := hp.sol; clear hp; obtain rfl := hsol.out.unique hsol2; have hb6 := hb4.trans (hb5.mono hb4.size); have k3 := (HK.out.below hb6).cell; have k4 := (KR.out.below hb5).cell; have z3 := (HK.out.below hb6).lt; have z4 := (KR.out.below hb5).lt; have KA2 : Below w3.heap.size w3 (w3.alloc (.cells #[.slice c1 p.vars.length f1, .slice c2 p.cells.length f2] 29)) := (Below.refl _ _).alloc (Nat.le_refl _) _; have hb7 := hb6.trans (KA2.mono hb6.size); have KR2 := Lib.hid (Blk.new w3 29 #[.slice c1 p.vars.length f1, .slice c2 p.cells.length f2]); have qr1 := Lib.hid (((hr1.below KA).below hb5).below KA2); have qr2 := Lib.hid (((hr2.below KA).below hb5).below KA2); have tr1 := Lib.hid (gr1.below KA2); have tr2 := Lib.hid (gr2.below KA2); dsimp only [ptsV])
        | (go_at_call 13; refine (awake_any _ (hT'.below hb7)).mono ?_; rintro e w4 ⟨rfl, hb8⟩; have hb9 := hb7.trans (hb8.mono hb7.size); have k5 := (HK.out.below hb9).cell; have k6 := (((KR.out.below hb5).below KA2).below hb8).cell; have k7 := (KR2.out.below hb8).cell)
        | (go_at_call 16; refine (few_any p b1 b2 d1 d2 w4 (qr1.out.below hb8) (qr2.out.below hb8)).mono ?_; rintro e w5 ⟨rfl, hb10⟩; rw [sol_few v1 v2 v3 hsol.out]; have hb11 := hb9.trans (hb10.mono hb9.size); have hb12 := hb8.trans (hb10.mono hb8.size); have k8 := (HK.out.below hb11).cell; have k9 := (((KR.out.below hb5).below KA2).below hb12).cell; have k10 := (KR2.out.below hb12).cell)
        | (go_at_call 17; refine (same_any p p b1 b2 c1 c2 d1 d2 f1 f2 w5 (qr1.out.below hb12) (qr2.out.below hb12) (tr1.out.below hb12) (tr2.out.below hb12)).mono ?_; rintro e w6 ⟨rfl, hb13⟩; rw [sameB_refl]; have hb14 := hb11.trans (hb13.mono hb11.size)))
      go_ret
      exact BoolAnd.mk rfl (below_box hb14)
end Go.Proofs.YtcfiohphjlohhaaDoor
