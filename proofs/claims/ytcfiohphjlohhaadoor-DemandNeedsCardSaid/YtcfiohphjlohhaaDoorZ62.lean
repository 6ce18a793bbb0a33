/- Z62: T62 in one text (merge.py) -/
import Derived.Test.YtcfiohphjlohhaaDoorZ6
/- dataflowlaw24.DemandEqual -/
namespace Go.Proofs.YtcfiohphjlohhaaDoor
open Go.RowKit

theorem needs_has {s : Sys} {v : Int} (h : rightE s v = 0) : v ∈ needsL s v := by
  obtain ⟨_, h0, h1⟩ := rightE_ok h
  unfold needsL pre
  refine List.mem_map.2 ⟨v.toNat, List.mem_filter.2 ⟨List.mem_range.2 (by omega), ?_⟩, Int.toNat_of_nonneg h0⟩
  exact (vis_iff' h0).2 .start
theorem needs_pos {s : Sys} {v : Int} (h : rightE s v = 0) : 1 ≤ (needsL s v).length := by
  have := needs_has h
  cases hl : needsL s v with
  | nil => rw [hl] at this; cases this
  | cons a l => simp

set_option maxRecDepth 100000 in
set_option maxHeartbeats 4000000 in
theorem demandEqual_any (s : Sys) (v b : Int) (aS : Option Addr) (cS : Nat) (w : World) (hS : Cons w aS s.cons) (hT : TzMem w) :
    Calls Tryd.prog 10 #[sysV s aS cS, .int .i64 v, .int .i64 b] w (BoolAnd true w) := by
  have hb : Below w.heap.size w (w.alloc (.cells #[.int .i64 s.vars, .int .i64 s.sites, .int .i64 s.fields, .slice aS s.cons.length cS] 24)) := (Below.refl _ _).alloc (Nat.le_refl _) _
  have hm := hS.len.le
  dsimp only [sysV]
  have HB := Lib.hid hb
  have HS := Lib.hid (hS.below hb)
  have HT := Lib.hid (hT.below hb)
  have HK1 := Lib.hid (Blk.new w 24 #[.int .i64 s.vars, .int .i64 s.sites, .int .i64 s.fields, .slice aS s.cons.length cS])
  clear hS hT hb
  cases hsm : smallB s
  · have HSM := Lib.hid hsm
    clear hsm
    go_enter Tryd.func10, Tryd.ntmps10
    go_wp2_with (first
      | (go_at_call 12; refine (small_any s _ _ _ HS.out).mono ?_; rintro e w1 ⟨rfl, hb1⟩; rw [HSM.out])
      | (go_at_call 24; refine (awakeD_any _ (HT.out.below hb1)).mono ?_; rintro e w2 ⟨rfl, hb2⟩))
    go_ret
    have z := HB.out.size
    have e1 := HB.out.trans (hb1.mono z)
    exact BoolAnd.mk rfl (e1.trans (hb2.mono e1.size))
  have HSM := Lib.hid hsm
  obtain ⟨v1, v2, v3⟩ := small_bd hsm
  have hv2 := Lib.hid v2
  clear hsm
  by_cases hE : checkE s = 0
  case neg =>
    have hq : (checkE s != 0) = true := by simpa using hE
    obtain ⟨nl, hnl⟩ : ∃ nl, needsV s v = nl := ⟨_, rfl⟩
    have HN := Lib.hid hnl
    clear hE hnl
    go_enter Tryd.func10, Tryd.ntmps10
    go_wp2_with (first
      | (go_at_call 12; refine (small_any s _ _ _ HS.out).mono ?_; rintro e w1 ⟨rfl, hb1⟩; rw [HSM.out]; have k1 := (HK1.out.below hb1).cell)
      | (go_at_call 24; (with_reducible refine (awakeD_any w1 (HT.out.below hb1)).mono ?_); rintro e w2 ⟨rfl, hb2⟩; have hb3 := hb1.trans (hb2.mono hb1.size); have k2 := (HK1.out.below hb3).cell)
      | (go_at_call 14; (with_reducible refine (solveP_any s aS cS w2 (HS.out.below hb3) (HT.out.below hb3) hv2.out).mono ?_); rintro e w3 hp; obtain ⟨q, b1, b2, d1, d2, rfl, hr1, hr2, hb4, hsol⟩ := hp.sol; clear hp; have hb5 := hb3.trans (hb4.mono hb3.size); have hl1 := hr1.len.le; have hl2 := hr2.len.le; have k3 := (HK1.out.below hb5).cell; have z3 := (HK1.out.below hb5).lt; have KA : Below w3.heap.size w3 (w3.alloc (.cells #[.slice b1 q.vars.length d1, .slice b2 q.cells.length d2] 29)) := (Below.refl _ _).alloc (Nat.le_refl _) _; have hb6 := hb5.trans (KA.mono hb5.size); dsimp only [ptsV])
      | (go_at_call 27; (with_reducible refine (needsP_any s v aS cS _ (HS.out.below hb6)).mono ?_); rintro e w4 ⟨a4, c4, rfl, i4, hb7⟩; rw [HN.out]; rw [HN.out] at i4; have hm4 := i4.len.le))
    go_ret
    have z := HB.out.size
    have e1 := HB.out.trans (hb6.mono z)
    exact BoolAnd.mk rfl (e1.trans (hb7.mono e1.size))
  have HE := Lib.hid hE
  clear hE
  by_cases hR : rightE s v = 0
  case neg =>
    have hq : (rightE s v != 0) = true := by simpa using hR
    obtain ⟨nl, hnl⟩ : ∃ nl, needsV s v = nl := ⟨_, rfl⟩
    have HN := Lib.hid hnl
    clear hR hnl
    go_enter Tryd.func10, Tryd.ntmps10
    go_wp2_with (first
      | (go_at_call 12; refine (small_any s _ _ _ HS.out).mono ?_; rintro e w1 ⟨rfl, hb1⟩; rw [HSM.out]; have k1 := (HK1.out.below hb1).cell)
      | (go_at_call 24; (with_reducible refine (awakeD_any w1 (HT.out.below hb1)).mono ?_); rintro e w2 ⟨rfl, hb2⟩; have hb3 := hb1.trans (hb2.mono hb1.size); have k2 := (HK1.out.below hb3).cell)
      | (go_at_call 14; (with_reducible refine (solveP_any s aS cS w2 (HS.out.below hb3) (HT.out.below hb3) hv2.out).mono ?_); rintro e w3 hp; obtain ⟨q, b1, b2, d1, d2, rfl, hr1, hr2, hb4, hsol⟩ := hp.sol; clear hp; rw [HE.out]; have hb5 := hb3.trans (hb4.mono hb3.size); have hl1 := hr1.len.le; have hl2 := hr2.len.le; have k3 := (HK1.out.below hb5).cell; have z3 := (HK1.out.below hb5).lt; have KA : Below w3.heap.size w3 (w3.alloc (.cells #[.slice b1 q.vars.length d1, .slice b2 q.cells.length d2] 29)) := (Below.refl _ _).alloc (Nat.le_refl _) _; have hb6 := hb5.trans (KA.mono hb5.size); dsimp only [ptsV])
      | (go_at_call 27; (with_reducible refine (needsP_any s v aS cS _ (HS.out.below hb6)).mono ?_); rintro e w4 ⟨a4, c4, rfl, i4, hb7⟩; rw [HN.out]; rw [HN.out] at i4; have hm4 := i4.len.le))
    go_ret
    have z := HB.out.size
    have e1 := HB.out.trans (hb6.mono z)
    exact BoolAnd.mk rfl (e1.trans (hb7.mono e1.size))
  have HR := Lib.hid hR
  obtain ⟨_, hv0, hv1⟩ := rightE_ok hR
  have hok := check_ok HE.out
  obtain ⟨nl, hnl⟩ : ∃ nl, nl = needsL s v := ⟨_, rfl⟩
  have HNL := Lib.hid hnl
  have HNV : Hid (needsV s v = nl) := by unfold Hid needsV; rw [if_pos hR, hnl]
  have hnp : 1 ≤ nl.length := by rw [hnl]; exact needs_pos hR
  have hnc : nl.length ≤ 40 := by
    have := needs_len s v
    rw [← hnl] at this; omega
  have hsit := hok.sites
  have HQA : Hid (∀ q, queryR s v nl.length q = (row q.vars v, 0)) := fun q => by
    unfold queryR
    rw [if_neg (fun h => h hR), if_neg (by omega), ← hnl, if_neg (by omega)]
  have HQB : Hid (∀ q, queryR s v b q = (if b < 0 ∨ 65536 < b then ([], 4) else if b < nl.length then (pre (fun _ => true) s.sites.toNat, 18) else (row q.vars v, 0))) := fun q => by
    unfold queryR
    rw [if_neg (fun h => h hR), ← hnl]
  clear hR hok hnl
  go_enter Tryd.func10, Tryd.ntmps10
  go_wp2_with (first
    | (go_at_call 12; refine (small_any s _ _ _ HS.out).mono ?_; rintro e w1 ⟨rfl, hb1⟩; rw [HSM.out]; have k1 := (HK1.out.below hb1).cell)
    | (go_at_call 24; (with_reducible refine (awakeD_any w1 (HT.out.below hb1)).mono ?_); rintro e w2 ⟨rfl, hb2⟩; have hb3 := hb1.trans (hb2.mono hb1.size); have k2 := (HK1.out.below hb3).cell)
    | (go_at_call 14; (with_reducible refine (solveP_any s aS cS w2 (HS.out.below hb3) (HT.out.below hb3) hv2.out).mono ?_); rintro e w3 hp; obtain ⟨q, b1, b2, d1, d2, rfl, hr1, hr2, hb4, hsol⟩ := hp.sol; clear hp; rw [HE.out]; have hb5 := hb3.trans (hb4.mono hb3.size); have hl1 := hr1.len.le; have hl2 := hr2.len.le; have k3 := (HK1.out.below hb5).cell; have z3 := (HK1.out.below hb5).lt; have KA : Below w3.heap.size w3 (w3.alloc (.cells #[.slice b1 q.vars.length d1, .slice b2 q.cells.length d2] 29)) := (Below.refl _ _).alloc (Nat.le_refl _) _; have hb6 := hb5.trans (KA.mono hb5.size); have hvl : v < (q.vars.length : Int) := (by have := sol_len HE.out hsol; omega); have HSO := Lib.hid hsol; have HR1 := Lib.hid (hr1.below KA); have KP := Lib.hid (Blk.new w3 29 #[.slice b1 q.vars.length d1, .slice b2 q.cells.length d2]); clear hsol hr1 hr2 KA; dsimp only [ptsV])
    | (go_at_call 27; (with_reducible refine (needsP_any s v aS cS _ (HS.out.below hb6)).mono ?_); rintro e w4 ⟨a4, c4, rfl, i4, hb7⟩; rw [HNV.out, HR.out]; rw [HNV.out] at i4; have hm4 := i4.len.le; have hb8 := hb6.trans (hb7.mono hb6.size); have k4 := (HK1.out.below hb8).cell; have KP4 := Lib.hid (KP.out.below hb7); have p4 := KP4.out.cell; have y4 := KP4.out.lt; have HR4 := Lib.hid (HR1.out.below hb7))
    | (go_at_call 25; (with_reducible refine (queryP_any s v nl.length q HSO.out aS cS w4 (HS.out.below hb8) (HT.out.below hb8) hv2.out).mono ?_); rintro e w5 ⟨a5, c5, rfl, i5, hb9⟩; rw [HQA.out]; rw [HQA.out] at i5; have hb10 := hb8.trans (hb9.mono hb8.size); have k5 := (HK1.out.below hb10).cell; have I5 := Lib.hid i5; have HR5 := Lib.hid (HR4.out.below hb9); have KP5 := Lib.hid (KP4.out.below hb9))
    | (go_at_call 25; (with_reducible refine (queryP_any s v b q HSO.out aS cS w5 (HS.out.below hb10) (HT.out.below hb10) hv2.out).mono ?_); rintro e w6 ⟨a6, c6, rfl, i6, hb11⟩; rw [HQB.out]; rw [HQB.out] at i6; have hb12 := hb10.trans (hb11.mono hb10.size); have k6 := (HK1.out.below hb12).cell; have I6 := Lib.hid i6; have J5 := Lib.hid (I5.out.below hb11); have HR6 := Lib.hid (HR5.out.below hb11); have KP6 := Lib.hid (KP5.out.below hb11); have p6 := KP6.out.cell; obtain ⟨bb, oo, rfl, hbb, hrw⟩ := rows_someI HR6.out hv0 hvl; obtain ⟨ra, rc, hcell, hri⟩ := hrw v hv0 hvl; have HRI := Lib.hid hri; clear hrw hri; by_cases hbr : b < 0 ∨ 65536 < b)
    | (go_at_call 29; (with_reducible refine (sameInts_any (row q.vars v) (row q.vars v) a5 ra c5 rc w6 J5.out HRI.out).mono ?_); rintro e w7 ⟨rfl, hb13⟩; rw [decide_eq_true rfl]; have hb14 := hb12.trans (hb13.mono hb12.size); have k7 := (HK1.out.below hb14).cell; have L5 := Lib.hid (J5.out.below hb13); have L6 := Lib.hid (I6.out.below hb13)))
  · have hgt : 65536 < b := by assumption
    go_ret
    exact BoolAnd.mk (by simp; omega) (HB.out.trans (hb14.mono HB.out.size))
  · go_ret
    exact BoolAnd.mk rfl (HB.out.trans (hb14.mono HB.out.size))
  · have hge : (nl.length : Int) ≤ b := by assumption
    have I7 := L6.out
    rw [if_neg hbr, if_neg (by omega)] at I7
    have I7 := Lib.hid I7
    go_wp2_with (go_at_call 29; (with_reducible refine (sameInts_any (row q.vars v) (row q.vars v) a5 a6 c5 c6 w7 L5.out I7.out).mono ?_); rintro e w8 ⟨rfl, hb15⟩; rw [decide_eq_true rfl]; have hb16 := hb14.trans (hb15.mono hb14.size))
    go_ret
    exact BoolAnd.mk rfl (HB.out.trans (hb16.mono HB.out.size))
  · go_ret
    refine BoolAnd.mk ?_ (HB.out.trans (hb14.mono HB.out.size))
    have h1 := pre_all_len s.sites.toNat
    have h2 : (((pre (fun _ => true) s.sites.toNat).length : Nat) : Int) = s.sites := by omega
    symm
    show (((pre (fun _ => true) s.sites.toNat).length : Int) == s.sites) = true
    rw [h2]; simp
end Go.Proofs.YtcfiohphjlohhaaDoor
