/- dataflowlaw18.AndersenLeast -/
import Derived.Test.YtcfiohphjlohhaaDoorT39
namespace Go.Proofs.YtcfiohphjlohhaaDoor
open Go.RowKit

theorem derive_self {s : Sys} {q : Pts} (hE : checkE s = 0) : deriveV s q q = true := by
  unfold deriveV
  rw [decide_eq_true hE, (eqLL_iff _ _).2 rfl, (eqLL_iff _ _).2 rfl]; rfl
theorem derive_is {s : Sys} {p q : Pts} (h : deriveV s p q = true) : q = p := by
  unfold deriveV at h
  simp only [Bool.and_eq_true, decide_eq_true_eq, eqLL_iff] at h
  obtain ⟨_, h1, h2⟩ := h
  cases q; cases p; simp_all

set_option maxRecDepth 100000 in
set_option maxHeartbeats 2000000 in
theorem andersenLeast_any (s : Sys) (p : Pts) (aS a1 a2 : Option Addr) (cS c1 c2 : Nat) (w : World) (hS : Cons w aS s.cons) (h1 : Rows2 w a1 p.vars) (h2 : Rows2 w a2 p.cells) (hT : TzMem w) :
    Calls Tryd.prog 5 #[sysV s aS cS, ptsV p a1 a2 c1 c2] w (BoolAnd true w) := by
  have hb : Below w.heap.size w ((w.alloc (.cells #[.int .i64 s.vars, .int .i64 s.sites, .int .i64 s.fields, .slice aS s.cons.length cS] 24)).alloc (.cells #[.slice a1 p.vars.length c1, .slice a2 p.cells.length c2] 29)) := below_two _ _ _
  have K1 : Blk ((w.alloc (.cells #[.int .i64 s.vars, .int .i64 s.sites, .int .i64 s.fields, .slice aS s.cons.length cS] 24)).alloc (.cells #[.slice a1 p.vars.length c1, .slice a2 p.cells.length c2] 29)) w.heap.size 24 #[.int .i64 s.vars, .int .i64 s.sites, .int .i64 s.fields, .slice aS s.cons.length cS] := (Blk.new w 24 _).al _
  have K2 : Blk ((w.alloc (.cells #[.int .i64 s.vars, .int .i64 s.sites, .int .i64 s.fields, .slice aS s.cons.length cS] 24)).alloc (.cells #[.slice a1 p.vars.length c1, .slice a2 p.cells.length c2] 29)) (w.heap.size + 1) 29 #[.slice a1 p.vars.length c1, .slice a2 p.cells.length c2] := by
    have := Blk.new (w.alloc (.cells #[.int .i64 s.vars, .int .i64 s.sites, .int .i64 s.fields, .slice aS s.cons.length cS] 24)) 29 #[.slice a1 p.vars.length c1, .slice a2 p.cells.length c2]
    rw [World.size_alloc] at this
    exact this
  have hm := hS.len.le
  have hm1 := h1.len.le
  have hm2 := h2.len.le
  dsimp only [sysV, ptsV]
  have HB := Lib.hid hb
  have HS := Lib.hid (hS.below hb)
  have H1 := Lib.hid (h1.below hb)
  have H2 := Lib.hid (h2.below hb)
  have HT := Lib.hid (hT.below hb)
  have HK1 := Lib.hid K1
  have HK2 := Lib.hid K2
  clear hS h1 h2 hT hb K1 K2
  cases hsm : smallB s
  · have HSM := Lib.hid hsm
    clear hsm
    go_enter Tryd.func5, Tryd.ntmps5
    go_wp2_with (first
      | (go_at_call 12; refine (small_any s _ _ _ HS.out).mono ?_; rintro e w1 ⟨rfl, hb1⟩; rw [HSM.out])
      | (go_at_call 13; refine (awake_any _ (HT.out.below hb1)).mono ?_; rintro e w2 ⟨rfl, hb2⟩))
    go_ret
    have z := HB.out.size
    have e1 := HB.out.trans (hb1.mono z)
    exact BoolAnd.mk rfl (e1.trans (hb2.mono e1.size))
  have HSM := Lib.hid hsm
  obtain ⟨v1, v2, v3⟩ := small_bd hsm
  clear hsm
  by_cases hE : checkE s = 0
  case neg =>
    have hq : (checkE s != 0) = true := by simpa using hE
    clear hE
    go_enter Tryd.func5, Tryd.ntmps5
    go_wp2_with (first
      | (go_at_call 12; refine (small_any s _ _ _ HS.out).mono ?_; rintro e w1 ⟨rfl, hb1⟩; rw [HSM.out]; have k1 := (HK2.out.below hb1).cell; have k2 := (HK1.out.below hb1).cell)
      | (go_at_call 16; refine (few_any p a1 a2 c1 c2 w1 (H1.out.below hb1) (H2.out.below hb1)).mono ?_; rintro e w2 ⟨rfl, hb2⟩; have hb3 := hb1.trans (hb2.mono hb1.size); have k3 := (HK1.out.below hb3).cell; cases hf1 : fewB p)
      | (go_at_call 13; (with_reducible refine (awake_any w2 (HT.out.below hb3)).mono ?_); rintro e w3 ⟨rfl, hb4⟩; have hb5 := hb3.trans (hb4.mono hb3.size); have k4 := (HK1.out.below hb5).cell)
      | (go_at_call 14; refine (solveP_any s _ _ w3 (HS.out.below hb5) (HT.out.below hb5) v2).mono ?_; rintro e w4 hp; obtain ⟨q, b1, b2, d1, d2, rfl, hr1, hr2, hb6, hsol⟩ := hp.sol; clear hp; dsimp only [ptsV]))
    all_goals go_ret
    all_goals have z := HB.out.size
    · have e1 := HB.out.trans (hb5.mono z)
      exact BoolAnd.mk rfl e1
    · have e1 := HB.out.trans (hb5.mono z)
      exact BoolAnd.mk rfl ((e1.trans (hb6.mono e1.size)).alloc (e1.trans (hb6.mono e1.size)).size _)
  have HE := Lib.hid hE
  clear hE
  go_enter Tryd.func5, Tryd.ntmps5
  go_wp2_with (first
    | (go_at_call 12; refine (small_any s _ _ _ HS.out).mono ?_; rintro e w1 ⟨rfl, hb1⟩; rw [HSM.out]; have k1 := (HK2.out.below hb1).cell; have k2 := (HK1.out.below hb1).cell)
    | (go_at_call 16; refine (few_any p a1 a2 c1 c2 w1 (H1.out.below hb1) (H2.out.below hb1)).mono ?_; rintro e w2 ⟨rfl, hb2⟩; have hb3 := hb1.trans (hb2.mono hb1.size); have k3 := (HK1.out.below hb3).cell; cases hf1 : fewB p)
    | (go_at_call 13; (with_reducible refine (awake_any w2 (HT.out.below hb3)).mono ?_); rintro e w3 ⟨rfl, hb4⟩; have hb5 := hb3.trans (hb4.mono hb3.size); have k4 := (HK1.out.below hb5).cell)
    | (go_at_call 14; refine (solveP_any s _ _ w3 (HS.out.below hb5) (HT.out.below hb5) v2).mono ?_; rintro e w4 hp; obtain ⟨q, b1, b2, d1, d2, rfl, hr1, hr2, hb6, hsol⟩ := hp.sol; clear hp; rw [HE.out]; have hb7 := hb5.trans (hb6.mono hb5.size); have k5 := (HK1.out.below hb7).cell; have z5 := (HK1.out.below hb7).lt; have hl1 := hr1.len.le; have hl2 := hr2.len.le; dsimp only [ptsV]))
  · go_ret
    have z := HB.out.size
    have e1 := HB.out.trans (hb5.mono z)
    exact BoolAnd.mk rfl e1
  have KQ := Blk.new w4 29 #[.slice b1 q.vars.length d1, .slice b2 q.cells.length d2]
  have KA : Below w4.heap.size w4 (w4.alloc (.cells #[.slice b1 q.vars.length d1, .slice b2 q.cells.length d2] 29)) := (Below.refl _ _).alloc (Nat.le_refl _) _
  have q1 := hr1.below KA
  have q2 := hr2.below KA
  have hb8 := hb7.trans (KA.mono hb7.size)
  have zf := HB.out.trans (hb8.mono HB.out.size)
  have f1 := HS.out.below hb8
  have f2 := H1.out.below hb8
  have f3 := H2.out.below hb8
  have f4 := HT.out.below hb8
  have f5 := HK1.out.below hb8
  have f6 := HK2.out.below hb8
  generalize w4.alloc (.cells #[.slice b1 q.vars.length d1, .slice b2 q.cells.length d2] 29) = wq at *
  have ZF := Lib.hid zf
  have HQ := Lib.hid hsol
  have KS : Hid (∀ w' : World, Below wq.heap.size wq w' → (∀ j, w'.cell? ⟨w.heap.size, j, none⟩ = (#[.int .i64 s.vars, .int .i64 s.sites, .int .i64 s.fields, .slice aS s.cons.length cS] : Array Value)[j]?) ∧ (∀ j, w'.cell? ⟨w.heap.size + 1, j, none⟩ = (#[.slice a1 p.vars.length c1, .slice a2 p.cells.length c2] : Array Value)[j]?) ∧ (∀ j, w'.cell? ⟨w4.heap.size, j, none⟩ = (#[.slice b1 q.vars.length d1, .slice b2 q.cells.length d2] : Array Value)[j]?)) := fun w' h => ⟨(f5.below h).cell, (f6.below h).cell, (KQ.below h).cell⟩
  have CA : Hid (∀ w' : World, Below wq.heap.size wq w' → Calls Tryd.prog 19 #[.agg #[.int .i64 s.vars, .int .i64 s.sites, .int .i64 s.fields, .slice aS s.cons.length cS], .agg #[.slice b1 q.vars.length d1, .slice b2 q.cells.length d2]] w' (BoolAnd true w')) := fun w' h => (closedP_any s q aS b1 b2 cS d1 d2 w' (f1.below h) (q1.below h) (q2.below h) (f4.below h) v2).mono fun e w2 hh => by rw [sol_closed HE.out HQ.out] at hh; exact hh
  have CB : Hid (∀ w' : World, Below wq.heap.size wq w' → Calls Tryd.prog 22 #[.agg #[.int .i64 s.vars, .int .i64 s.sites, .int .i64 s.fields, .slice aS s.cons.length cS], .agg #[.slice b1 q.vars.length d1, .slice b2 q.cells.length d2]] w' (BoolAnd true w')) := fun w' h => (deriveP_at s q q HQ.out aS b1 b2 cS d1 d2 w' (f1.below h) (q1.below h) (q2.below h) (f4.below h) v2).mono fun e w2 hh => by rw [derive_self HE.out] at hh; exact hh
  have CC : Hid (∀ w' : World, Below wq.heap.size wq w' → Calls Tryd.prog 19 #[.agg #[.int .i64 s.vars, .int .i64 s.sites, .int .i64 s.fields, .slice aS s.cons.length cS], .agg #[.slice a1 p.vars.length c1, .slice a2 p.cells.length c2]] w' (BoolAnd (closedB s p) w')) := fun w' h => closedP_any s p aS a1 a2 cS c1 c2 w' (f1.below h) (f2.below h) (f3.below h) (f4.below h) v2
  have CD : Hid (∀ w' : World, Below wq.heap.size wq w' → Calls Tryd.prog 20 #[.agg #[.slice b1 q.vars.length d1, .slice b2 q.cells.length d2], .agg #[.slice a1 p.vars.length c1, .slice a2 p.cells.length c2]] w' (BoolAnd (withinB q p) w')) := fun w' h => withinA_any q p b1 b2 a1 a2 d1 d2 c1 c2 w' (q1.below h) (q2.below h) (f2.below h) (f3.below h)
  have CE : Hid (∀ w' : World, Below wq.heap.size wq w' → Calls Tryd.prog 22 #[.agg #[.int .i64 s.vars, .int .i64 s.sites, .int .i64 s.fields, .slice aS s.cons.length cS], .agg #[.slice a1 p.vars.length c1, .slice a2 p.cells.length c2]] w' (BoolAnd (deriveV s p q) w')) := fun w' h => deriveP_at s p q HQ.out aS a1 a2 cS c1 c2 w' (f1.below h) (f2.below h) (f3.below h) (f4.below h) v2
  have CF : Hid (∀ w' : World, Below wq.heap.size wq w' → Calls Tryd.prog 20 #[.agg #[.slice a1 p.vars.length c1, .slice a2 p.cells.length c2], .agg #[.slice b1 q.vars.length d1, .slice b2 q.cells.length d2]] w' (BoolAnd (withinB p q) w')) := fun w' h => withinA_any p q a1 a2 b1 b2 c1 c2 d1 d2 w' (f2.below h) (f3.below h) (q1.below h) (q2.below h)
  have C0 : Hid (Below wq.heap.size wq wq) := Below.refl _ _
  obtain ⟨x01, x02, x03⟩ := KS.out _ C0.out
  clear hr1 hr2 KA q1 q2 hb8 zf f1 f2 f3 f4 f5 f6 KQ hsol hb6 hb7 hb5 hb4 hb3 hb2 hb1
  go_wp2_with (first
    | (go_at_call 19; (with_reducible refine (CA.out _ C0.out).mono ?_); rintro e w5 ⟨rfl, c5⟩; have C5 := Lib.hid (C0.out.trans (c5.mono C0.out.size)); obtain ⟨x51, x52, x53⟩ := KS.out _ C5.out)
    | (go_at_call 22; (with_reducible refine (CB.out _ C5.out).mono ?_); rintro e w6 ⟨rfl, c6⟩; have C6 := Lib.hid (C5.out.trans (c6.mono C5.out.size)); obtain ⟨x61, x62, x63⟩ := KS.out _ C6.out)
    | (go_at_call 19; (with_reducible refine (CC.out _ C6.out).mono ?_); rintro e w7 ⟨rfl, c7⟩; have C7 := Lib.hid (C6.out.trans (c7.mono C6.out.size)); obtain ⟨x71, x72, x73⟩ := KS.out _ C7.out; cases hc : closedB s p)
    | (go_at_call 20; (with_reducible refine (CD.out _ C7.out).mono ?_); rintro e w8 ⟨rfl, c8⟩; have C8 := Lib.hid (C7.out.trans (c8.mono C7.out.size)); obtain ⟨x81, x82, x83⟩ := KS.out _ C8.out; rw [closed_holds hc HQ.out])
    | (go_at_call 22; (with_reducible refine (CE.out _ C8.out).mono ?_); rintro e w9 ⟨rfl, c9⟩; have C9 := Lib.hid (C8.out.trans (c9.mono C8.out.size)); obtain ⟨x91, x92, x93⟩ := KS.out _ C9.out; cases hd : deriveV s p q)
    | (go_at_call 22; (with_reducible refine (CE.out _ C7.out).mono ?_); rintro e w9 ⟨rfl, c9⟩; have C9 := Lib.hid (C7.out.trans (c9.mono C7.out.size)); obtain ⟨x91, x92, x93⟩ := KS.out _ C9.out; cases hd : deriveV s p q)
    | (go_at_call 20; (with_reducible refine (CF.out _ C9.out).mono ?_); rintro e w10 ⟨rfl, c10⟩; have C10 := Lib.hid (C9.out.trans (c10.mono C9.out.size)); rw [show withinB p q = true from by rw [derive_is hd]; exact withinB_refl p]))
  all_goals go_ret
  all_goals first
    | exact BoolAnd.mk rfl (ZF.out.trans (C10.out.mono ZF.out.size))
    | exact BoolAnd.mk rfl (ZF.out.trans (C9.out.mono ZF.out.size))
end Go.Proofs.YtcfiohphjlohhaaDoor
