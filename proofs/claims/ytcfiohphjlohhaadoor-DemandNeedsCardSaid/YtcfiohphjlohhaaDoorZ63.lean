/- Z63: T63 in one text (merge.py) -/
import Derived.Test.YtcfiohphjlohhaaDoorZ62
import Derived.Deep.RegionHeld3
/- dataflowlaw24.DemandNeeds -/
namespace Go.Proofs.YtcfiohphjlohhaaDoor
open Go.RowKit

theorem needs_each {s : Sys} {v m : Int} (hR : rightE s v = 0) (hm : m ∈ needsL s v) : Vis s v m ∧ 0 ≤ m ∧ m < s.vars ∧ rightE s m = 0 ∧ partB (needsL s m) (needsL s v) = true := by
  obtain ⟨hE, _, _⟩ := rightE_ok hR
  unfold needsL pre at hm
  obtain ⟨i, hi, rfl⟩ := List.mem_map.1 hm
  obtain ⟨hr, hv⟩ := List.mem_filter.1 hi
  have hr' := List.mem_range.1 hr
  have hV : Vis s v (i : Int) := vis_iff.1 hv
  refine ⟨hV, Int.natCast_nonneg i, (by show (i : Int) < s.vars; omega), ?_, ?_⟩
  · unfold rightE
    rw [if_neg (fun h => h hE), if_neg (by show ¬ ((i : Int) < 0 ∨ s.vars ≤ (i : Int)); omega)]
  · refine partB_of fun x hx => ?_
    unfold needsL pre at hx ⊢
    obtain ⟨j, hj, rfl⟩ := List.mem_map.1 hx
    obtain ⟨hjr, hjv⟩ := List.mem_filter.1 hj
    exact List.mem_map.2 ⟨j, List.mem_filter.2 ⟨hjr, vis_iff.2 (hV.trans (vis_iff.1 hjv))⟩, rfl⟩
theorem below_drew {w w' : World} {B : Nat} (h : Below B w w') : Below B w w'.drew := ⟨h.os, h.tape, h.output, h.size, h.block⟩

set_option maxRecDepth 100000 in
set_option maxHeartbeats 4000000 in
theorem demandNeeds_any (s : Sys) (v : Int) (aS : Option Addr) (cS : Nat) (w : World) (hS : Cons w aS s.cons) (hT : TzMem w) :
    Calls Tryd.prog 11 #[sysV s aS cS, .int .i64 v] w (BoolAnd true w) := by
  have hb : Below w.heap.size w (w.alloc (.cells #[.int .i64 s.vars, .int .i64 s.sites, .int .i64 s.fields, .slice aS s.cons.length cS] 24)) := (Below.refl _ _).alloc (Nat.le_refl _) _
  have hm := hS.len.le
  dsimp only [sysV]
  have HB := Lib.hid hb
  have HS := Lib.hid (hS.below hb)
  have HT := Lib.hid (hT.below hb)
  have HK1 := Lib.hid (Blk.new w 24 #[.int .i64 s.vars, .int .i64 s.sites, .int .i64 s.fields, .slice aS s.cons.length cS])
  clear hS hT hb
  cases hsm : smallB s
  · have HSM := Lib.hid hsm
    clear hsm
    go_enter Tryd.func11, Tryd.ntmps11
    go_wp2_with (first
      | (go_at_call 12; refine (small_any s _ _ _ HS.out).mono ?_; rintro e w1 ⟨rfl, hb1⟩; rw [HSM.out])
      | (go_at_call 24; refine (awakeD_any _ (HT.out.below hb1)).mono ?_; rintro e w2 ⟨rfl, hb2⟩))
    go_ret
    have z := HB.out.size
    have e1 := HB.out.trans (hb1.mono z)
    exact BoolAnd.mk rfl (e1.trans (hb2.mono e1.size))
  have HSM := Lib.hid hsm
  obtain ⟨v1, v2, v3⟩ := small_bd hsm
  have hv2 := Lib.hid v2
  clear hsm
  by_cases hE : checkE s = 0
  case neg =>
    have hq : (checkE s != 0) = true := by simpa using hE
    obtain ⟨nl, hnl⟩ : ∃ nl, needsV s v = nl := ⟨_, rfl⟩
    obtain ⟨t, ht⟩ : ∃ t, sliceV s v = t := ⟨_, rfl⟩
    have HN := Lib.hid hnl
    have HV := Lib.hid ht
    clear hE hnl ht
    go_enter Tryd.func11, Tryd.ntmps11
    go_wp2_with (first
      | (go_at_call 12; refine (small_any s _ _ _ HS.out).mono ?_; rintro e w1 ⟨rfl, hb1⟩; rw [HSM.out]; have k1 := (HK1.out.below hb1).cell)
      | (go_at_call 24; (with_reducible refine (awakeD_any w1 (HT.out.below hb1)).mono ?_); rintro e w2 ⟨rfl, hb2⟩; have hb3 := hb1.trans (hb2.mono hb1.size); have k2 := (HK1.out.below hb3).cell)
      | (go_at_call 14; (with_reducible refine (solveP_any s aS cS w2 (HS.out.below hb3) (HT.out.below hb3) hv2.out).mono ?_); rintro e w3 hp; obtain ⟨q, b1, b2, d1, d2, rfl, hr1, hr2, hb4, hsol⟩ := hp.sol; clear hp; have hb5 := hb3.trans (hb4.mono hb3.size); have hl1 := hr1.len.le; have hl2 := hr2.len.le; have k3 := (HK1.out.below hb5).cell; have z3 := (HK1.out.below hb5).lt; have KA : Below w3.heap.size w3 (w3.alloc (.cells #[.slice b1 q.vars.length d1, .slice b2 q.cells.length d2] 29)) := (Below.refl _ _).alloc (Nat.le_refl _) _; have hb6 := hb5.trans (KA.mono hb5.size); clear KA; dsimp only [ptsV])
      | (go_at_call 30; (with_reducible refine (sliceP_any s v aS cS _ (HS.out.below hb6)).mono ?_); rintro e w4 ⟨a4, c4, rfl, i4, hb7⟩; rw [HV.out]; rw [HV.out] at i4; have hm4 := i4.len.le; have hb8 := hb6.trans (hb7.mono hb6.size); have k4 := (HK1.out.below hb8).cell; have z4 := (HK1.out.below hb8).lt; have KB : Below w4.heap.size w4 (w4.alloc (.cells #[.int .i64 t.vars, .int .i64 t.sites, .int .i64 t.fields, .slice a4 t.cons.length c4] 24)) := (Below.refl _ _).alloc (Nat.le_refl _) _; have hb9 := hb8.trans (KB.mono hb8.size); clear KB; dsimp only [sysV])
      | (go_at_call 27; (with_reducible refine (needsP_any s v aS cS _ (HS.out.below hb9)).mono ?_); rintro e w5 ⟨a5, c5, rfl, i5, hb10⟩; rw [HN.out]; rw [HN.out] at i5; have hm5 := i5.len.le; ))
    go_ret
    have z := HB.out.size
    have e1 := HB.out.trans (hb9.mono z)
    exact BoolAnd.mk (by simp) (e1.trans (hb10.mono e1.size))
  have HE := Lib.hid hE
  clear hE
  by_cases hR : rightE s v = 0
  case neg =>
    have hq : (rightE s v != 0) = true := by simpa using hR
    obtain ⟨nl, hnl⟩ : ∃ nl, needsV s v = nl := ⟨_, rfl⟩
    obtain ⟨t, ht⟩ : ∃ t, sliceV s v = t := ⟨_, rfl⟩
    have HN := Lib.hid hnl
    have HV := Lib.hid ht
    clear hR hnl ht
    go_enter Tryd.func11, Tryd.ntmps11
    go_wp2_with (first
      | (go_at_call 12; refine (small_any s _ _ _ HS.out).mono ?_; rintro e w1 ⟨rfl, hb1⟩; rw [HSM.out]; have k1 := (HK1.out.below hb1).cell)
      | (go_at_call 24; (with_reducible refine (awakeD_any w1 (HT.out.below hb1)).mono ?_); rintro e w2 ⟨rfl, hb2⟩; have hb3 := hb1.trans (hb2.mono hb1.size); have k2 := (HK1.out.below hb3).cell)
      | (go_at_call 14; (with_reducible refine (solveP_any s aS cS w2 (HS.out.below hb3) (HT.out.below hb3) hv2.out).mono ?_); rintro e w3 hp; obtain ⟨q, b1, b2, d1, d2, rfl, hr1, hr2, hb4, hsol⟩ := hp.sol; clear hp; rw [HE.out]; have hb5 := hb3.trans (hb4.mono hb3.size); have hl1 := hr1.len.le; have hl2 := hr2.len.le; have k3 := (HK1.out.below hb5).cell; have z3 := (HK1.out.below hb5).lt; have KA : Below w3.heap.size w3 (w3.alloc (.cells #[.slice b1 q.vars.length d1, .slice b2 q.cells.length d2] 29)) := (Below.refl _ _).alloc (Nat.le_refl _) _; have hb6 := hb5.trans (KA.mono hb5.size); clear KA; dsimp only [ptsV])
      | (go_at_call 30; (with_reducible refine (sliceP_any s v aS cS _ (HS.out.below hb6)).mono ?_); rintro e w4 ⟨a4, c4, rfl, i4, hb7⟩; rw [HV.out]; rw [HV.out] at i4; have hm4 := i4.len.le; have hb8 := hb6.trans (hb7.mono hb6.size); have k4 := (HK1.out.below hb8).cell; have z4 := (HK1.out.below hb8).lt; have KB : Below w4.heap.size w4 (w4.alloc (.cells #[.int .i64 t.vars, .int .i64 t.sites, .int .i64 t.fields, .slice a4 t.cons.length c4] 24)) := (Below.refl _ _).alloc (Nat.le_refl _) _; have hb9 := hb8.trans (KB.mono hb8.size); clear KB; dsimp only [sysV])
      | (go_at_call 27; (with_reducible refine (needsP_any s v aS cS _ (HS.out.below hb9)).mono ?_); rintro e w5 ⟨a5, c5, rfl, i5, hb10⟩; rw [HN.out]; rw [HN.out] at i5; have hm5 := i5.len.le; ))
    go_ret
    have z := HB.out.size
    have e1 := HB.out.trans (hb9.mono z)
    exact BoolAnd.mk (by simp) (e1.trans (hb10.mono e1.size))
  have HR := Lib.hid hR
  obtain ⟨_, hv0, hv1⟩ := rightE_ok hR
  obtain ⟨nl, hnl⟩ : ∃ nl, nl = needsL s v := ⟨_, rfl⟩
  obtain ⟨t, ht⟩ : ∃ t, sliceS s v = t := ⟨_, rfl⟩
  have HNL := Lib.hid hnl
  have HTS := Lib.hid ht
  have HN : Hid (needsV s v = nl) := by unfold Hid needsV; rw [if_pos hR, hnl]
  have HV : Hid (sliceV s v = t) := by unfold Hid sliceV; rw [if_pos hR, ht]
  have HCT : Hid (checkE t = 0) := by unfold Hid; rw [← ht]; exact slice_check HE.out
  have hts : Hid (t.sites ≤ 12) := by unfold Hid; rw [← ht]; exact hv2.out
  have HTV : Hid (t.vars = s.vars) := by unfold Hid; rw [← ht]; rfl
  have HNE : Hid (∀ m, m ∈ nl → Vis s v m ∧ 0 ≤ m ∧ m < s.vars ∧ rightE s m = 0 ∧ partB (needsL s m) nl = true) := by rw [hnl]; exact fun m hm => needs_each hR hm
  have HHAS : Hid (hasB nl v = true) := by rw [hnl]; exact hasB_iff.2 (needs_has hR)
  clear hR hnl ht
  go_enter Tryd.func11, Tryd.ntmps11
  go_wp2_with (first
    | (go_at_call 12; refine (small_any s _ _ _ HS.out).mono ?_; rintro e w1 ⟨rfl, hb1⟩; rw [HSM.out]; have k1 := (HK1.out.below hb1).cell)
    | (go_at_call 24; (with_reducible refine (awakeD_any w1 (HT.out.below hb1)).mono ?_); rintro e w2 ⟨rfl, hb2⟩; have hb3 := hb1.trans (hb2.mono hb1.size); have k2 := (HK1.out.below hb3).cell)
    | (go_at_call 14; (with_reducible refine (solveP_any s aS cS w2 (HS.out.below hb3) (HT.out.below hb3) hv2.out).mono ?_); rintro e w3 hp; obtain ⟨q, b1, b2, d1, d2, rfl, hr1, hr2, hb4, hsol⟩ := hp.sol; clear hp; rw [HE.out]; have hb5 := hb3.trans (hb4.mono hb3.size); have hl1 := hr1.len.le; have hl2 := hr2.len.le; have k3 := (HK1.out.below hb5).cell; have z3 := (HK1.out.below hb5).lt; have KA : Below w3.heap.size w3 (w3.alloc (.cells #[.slice b1 q.vars.length d1, .slice b2 q.cells.length d2] 29)) := (Below.refl _ _).alloc (Nat.le_refl _) _; have hb6 := hb5.trans (KA.mono hb5.size); have HSO := Lib.hid hsol; have HR1 := Lib.hid (hr1.below KA); have HR2 := Lib.hid (hr2.below KA); have KP := Lib.hid (Blk.new w3 29 #[.slice b1 q.vars.length d1, .slice b2 q.cells.length d2]); clear hsol hr1 hr2; clear KA; dsimp only [ptsV])
    | (go_at_call 30; (with_reducible refine (sliceP_any s v aS cS _ (HS.out.below hb6)).mono ?_); rintro e w4 ⟨a4, c4, rfl, i4, hb7⟩; rw [HV.out, HR.out]; rw [HV.out] at i4; have hm4 := i4.len.le; have hb8 := hb6.trans (hb7.mono hb6.size); have k4 := (HK1.out.below hb8).cell; have z4 := (HK1.out.below hb8).lt; have KB : Below w4.heap.size w4 (w4.alloc (.cells #[.int .i64 t.vars, .int .i64 t.sites, .int .i64 t.fields, .slice a4 t.cons.length c4] 24)) := (Below.refl _ _).alloc (Nat.le_refl _) _; have hb9 := hb8.trans (KB.mono hb8.size); have KT := Lib.hid (Blk.new w4 24 #[.int .i64 t.vars, .int .i64 t.sites, .int .i64 t.fields, .slice a4 t.cons.length c4]); have I4 := Lib.hid (i4.below KB); have KP4 := Lib.hid ((KP.out.below hb7).below KB); have HR14 := Lib.hid ((HR1.out.below hb7).below KB); have HR24 := Lib.hid ((HR2.out.below hb7).below KB); clear KB; dsimp only [sysV])
    | (go_at_call 27; (with_reducible refine (needsP_any s v aS cS _ (HS.out.below hb9)).mono ?_); rintro e w5 ⟨a5, c5, rfl, i5, hb10⟩; rw [HN.out, HR.out]; rw [HN.out] at i5; have hm5 := i5.len.le; have KT5 := Lib.hid (KT.out.below hb10); have t5 := KT5.out.cell; have y5 := KT5.out.lt; have I5 := Lib.hid (I4.out.below hb10); have KP5 := Lib.hid (KP4.out.below hb10); have HR15 := Lib.hid (HR14.out.below hb10); have HR25 := Lib.hid (HR24.out.below hb10); have hb11 := hb9.trans (hb10.mono hb9.size); have HN5 := Lib.hid i5; )
    | (go_at_call 14; (with_reducible refine (solveP_any t a4 c4 w5 I5.out (HT.out.below hb11) hts.out).mono ?_); rintro e w6 hp; obtain ⟨q2, b3, b4, d3, d4, rfl, hr3, hr4, hb12, hsol2⟩ := hp.sol; clear hp; rw [HCT.out]; have hl3 := hr3.len.le; have hl4 := hr4.len.le; have hb13 := hb11.trans (hb12.mono hb11.size); have KC : Below w6.heap.size w6 (w6.alloc (.cells #[.slice b3 q2.vars.length d3, .slice b4 q2.cells.length d4] 29)) := (Below.refl _ _).alloc (Nat.le_refl _) _; have hb14 := hb13.trans (KC.mono hb13.size); have KP6 := Lib.hid (KP5.out.below hb12); have p6 := KP6.out.cell; have y6 := KP6.out.lt; have HSO2 := Lib.hid hsol2; have KP7 := Lib.hid (KP6.out.below KC); have KQ7 := Lib.hid (Blk.new w6 29 #[.slice b3 q2.vars.length d3, .slice b4 q2.cells.length d4]); have HR17 := Lib.hid ((HR15.out.below hb12).below KC); have HR27 := Lib.hid ((HR25.out.below hb12).below KC); have HR37 := Lib.hid (hr3.below KC); have HR47 := Lib.hid (hr4.below KC); have HN7 := Lib.hid ((HN5.out.below hb12).below KC); clear hsol2 hr3 hr4 KC; dsimp only [ptsV])
    | (go_at_call 20; (with_reducible refine (withinA_any q2 q b3 b4 b1 b2 d3 d4 d1 d2 _ HR37.out HR47.out HR17.out HR27.out).mono ?_); rintro e w7 ⟨rfl, hb15⟩; rw [show withinB q2 q = true from sub_within HE.out (slice_sub s v) (slice_len v HE.out) HSO.out (by have := HSO2.out; rw [← HTS.out] at this; exact this)]))
  have hb16 := Lib.hid (hb14.trans (hb15.mono hb14.size))
  have HF := Lib.hid (HB.out.trans (hb16.out.mono HB.out.size))
  have KP8 := Lib.hid (KP7.out.below hb15)
  have KQ8 := Lib.hid (KQ7.out.below hb15)
  have HR18 := Lib.hid (HR17.out.below hb15)
  have HR38 := Lib.hid (HR37.out.below hb15)
  have HN8 := Lib.hid (HN7.out.below hb15)
  have HS8 := Lib.hid (HS.out.below hb16.out)
  have HK8 := Lib.hid (HK1.out.below hb16.out)
  have hq1 : Hid ((q.vars.length : Int) = s.vars) := sol_len HE.out HSO.out
  have hq2 : Hid ((q2.vars.length : Int) = s.vars) := by have := sol_len HCT.out HSO2.out; rw [HTV.out] at this; exact this
  have hrow : Hid (∀ m, m ∈ nl → row q2.vars m = row q.vars m) := fun m hm => slice_row HR.out HSO.out (by have := HSO2.out; rw [← HTS.out] at this; exact this) ((HNE.out m hm).1)
  clear hb1 hb2 hb3 hb4 hb5 hb6 hb7 hb8 hb9 hb10 hb11 hb12 hb13 hb14 hb15 k1 k2 k3 k4 t5 p6
  go_loopg [69] nl.length (fun g i wr => ∃ k : Nat, k ≤ nl.length ∧ g = nl.length - k ∧ i = .int .i64 k ∧ Hid (Below w7.heap.size w7 wr))
  case atStart => exact ⟨0, Nat.zero_le _, rfl, rfl, Below.refl _ _⟩
  case round =>
    obtain ⟨k, hk, rfl, rfl, hB⟩ := hrel
    by_cases hlt : k < nl.length
    · obtain ⟨b, o, rfl, hc0⟩ := (HN8.out.below hB.out).at_ k nl[k] (get_at hlt)
      obtain ⟨mm, hmm⟩ : ∃ mm, mm = nl[k] := ⟨_, rfl⟩
      have hmem : mm ∈ nl := by rw [hmm]; exact List.getElem_mem hlt
      rw [← hmm] at hc0
      obtain ⟨hV, m0, m1, hRm, hPm⟩ := HNE.out mm hmem
      have m2 : mm < (q.vars.length : Int) := by have := hq1.out; omega
      have m3 : mm < (q2.vars.length : Int) := by have := hq2.out; omega
      obtain ⟨bb, oo, rfl, lbb, hat⟩ := rows_someI (HR18.out.below hB.out) m0 m2
      obtain ⟨bb2, oo2, rfl, lbb2, hat2⟩ := rows_someI (HR38.out.below hB.out) m0 m3
      obtain ⟨ra, rc, hc1, hi1⟩ := hat mm m0 m2
      obtain ⟨ra2, rc2, hc2, hi2⟩ := hat2 mm m0 m3
      rw [hrow.out mm hmem] at hc2 hi2
      have kp := (KP8.out.below hB.out).cell 0
      have kq := (KQ8.out.below hB.out).cell 0
      have lp := (KP8.out.below hB.out).lt
      have lq := (KQ8.out.below hB.out).lt
      have hlr : (row q.vars mm).length ≤ 4611686018427387904 := hi1.len.le
      have CL : Hid (Calls Tryd.prog 29 #[.slice ra (row q.vars mm).length rc, .slice ra2 (row q.vars mm).length rc2] wr.drew (BoolAnd (decide (row q.vars mm = row q.vars mm)) wr.drew)) := sameInts_any (row q.vars mm) (row q.vars mm) ra ra2 rc rc2 wr.drew hi1.drew hi2.drew
      rw [decide_eq_true rfl] at CL
      clear hat hat2 hi1 hi2
      have hmn : decide (mm < 0) = false := decide_eq_false (by omega)
      have hmq : decide ((q.vars.length : Int) ≤ mm) = false := decide_eq_false (by omega)
      have hmq2 : decide ((q2.vars.length : Int) ≤ mm) = false := decide_eq_false (by omega)
      clear hmm
      have KS : Hid (∀ w', Below wr.heap.size wr w' → w'.cell? ⟨b, o + k, none⟩ = some (.int .i64 mm) ∧ w'.cell? ⟨w3.heap.size, 0, none⟩ = some (.slice (some ⟨bb, oo, none⟩) q.vars.length d1) ∧ w'.cell? ⟨w6.heap.size, 0, none⟩ = some (.slice (some ⟨bb2, oo2, none⟩) q2.vars.length d3) ∧ w'.cell? ⟨bb, oo + mm.toNat, none⟩ = some (.slice ra (row q.vars mm).length rc) ∧ w'.cell? ⟨bb2, oo2 + mm.toNat, none⟩ = some (.slice ra2 (row q.vars mm).length rc2)) := fun w' h => ⟨cell_keep h hc0, cell_keep h kp, cell_keep h kq, cell_keep h hc1, cell_keep h hc2⟩
      go_wp2
      go_region_held3 (fun w' => w'.cell? ⟨b, o + k, none⟩ = some (.int .i64 mm) ∧ w'.cell? ⟨w3.heap.size, 0, none⟩ = some (.slice (some ⟨bb, oo, none⟩) q.vars.length d1) ∧ w'.cell? ⟨w6.heap.size, 0, none⟩ = some (.slice (some ⟨bb2, oo2, none⟩) q2.vars.length d3) ∧ w'.cell? ⟨bb, oo + mm.toNat, none⟩ = some (.slice ra (row q.vars mm).length rc) ∧ w'.cell? ⟨bb2, oo2 + mm.toNat, none⟩ = some (.slice ra2 (row q.vars mm).length rc2))
        (first | exact KS.out _ (below_drew (Below.refl _ _)) | exact KS.out _ hB8.out)
        (first | (go_at_call 29; (with_reducible refine CL.out.mono ?_); rintro e w8 ⟨rfl, hb8⟩; have hB8 : Hid (Below wr.heap.size wr w8) := below_un_drew hb8; clear hb8))
      have N8 := Lib.hid (hB.out.trans (hB8.out.mono hB.out.size))
      have hc8 := cell_keep hB8.out hc0
      have kb := (HK8.out.below N8.out).cell
      obtain ⟨nm, hnm⟩ : ∃ nm, needsV s mm = nm := ⟨_, rfl⟩
      have HPM : Hid (partB nm nl = true) := by unfold Hid; rw [← hnm]; unfold needsV; rw [if_pos hRm]; exact hPm
      have HRM := Lib.hid hRm
      have HNM := Lib.hid hnm
      have HN8' := Lib.hid (HN8.out.below N8.out)
      have CN : Hid (Calls Tryd.prog 27 #[.agg #[.int .i64 s.vars, .int .i64 s.sites, .int .i64 s.fields, .slice aS s.cons.length cS], .int .i64 mm] w8.drew (NeedsPost s mm w8.drew)) := needsP_any s mm aS cS w8.drew ((HS8.out.below N8.out).drew)
      have KS2 : Hid (∀ w', Below w8.heap.size w8 w' → (∀ j, w'.cell? ⟨w.heap.size, j, none⟩ = (#[.int .i64 s.vars, .int .i64 s.sites, .int .i64 s.fields, .slice aS s.cons.length cS] : Array Value)[j]?) ∧ w'.cell? ⟨b, o + k, none⟩ = some (.int .i64 mm)) := fun w' h => ⟨((HK8.out.below N8.out).below h).cell, cell_keep h hc8⟩
      clear hnm hRm hPm hc0 hc1 hc2 kp kq
      go_wp2
      go_region_held3 (fun w' => (∀ j, w'.cell? ⟨w.heap.size, j, none⟩ = (#[.int .i64 s.vars, .int .i64 s.sites, .int .i64 s.fields, .slice aS s.cons.length cS] : Array Value)[j]?) ∧ w'.cell? ⟨b, o + k, none⟩ = some (.int .i64 mm))
        (first | exact KS2.out _ (below_drew (Below.refl _ _)) | exact KS2.out _ hB9.out)
        (first | (go_at_call 27; (with_reducible refine CN.out.mono ?_); rintro e w9 ⟨a9, c9, rfl, i9, hb9⟩; have hB9 : Hid (Below w8.heap.size w8 w9) := below_un_drew hb9; clear hb9; rw [HNM.out, HRM.out]; rw [HNM.out] at i9; have hm9 := i9.len.le; have I9 := Lib.hid i9; clear i9; have HN9 := Lib.hid (HN8'.out.below hB9.out)))
      all_goals go_wp2_with (go_at_call 32; (with_reducible refine (part_any a9 (some ⟨b, o, none⟩) c9 c5 nm nl w9 I9.out HN9.out).mono ?_); rintro e w10 ⟨rfl, rfl⟩; rw [HPM.out])
      all_goals go_roundg (nl.length - (k + 1))
      case measure => omega
      case rel => exact ⟨k + 1, by omega, rfl, by go_num, N8.out.trans (hB9.out.mono N8.out.size)⟩
    · obtain rfl : k = nl.length := by omega
      have hge : ¬ (nl.length : Int) < (nl.length : Int) := by omega
      go_wp2_with (go_at_call 33; refine (has_any a5 c5 nl v wr (HN8.out.below hB.out)).mono ?_; rintro e w8 ⟨rfl, rfl⟩; rw [HHAS.out])
      go_ret
      exact BoolAnd.mk rfl (HF.out.trans (hB.out.mono HF.out.size))
end Go.Proofs.YtcfiohphjlohhaaDoor
