/- Z60: T60 in one text (merge.py) -/
import Derived.Test.YtcfiohphjlohhaaDoorZ6
/- dataflowlaw24.DemandQuery -/
namespace Go.Proofs.YtcfiohphjlohhaaDoor
open Go.RowKit

set_option maxRecDepth 100000 in
set_option maxHeartbeats 2000000 in
theorem demandQuery_any (s : Sys) (v b : Int) (aS : Option Addr) (cS : Nat) (w : World) (hS : Cons w aS s.cons) (hT : TzMem w) :
    Calls Tryd.prog 8 #[sysV s aS cS, .int .i64 v, .int .i64 b] w (BoolAnd true w) := by
  have hb : Below w.heap.size w (w.alloc (.cells #[.int .i64 s.vars, .int .i64 s.sites, .int .i64 s.fields, .slice aS s.cons.length cS] 24)) := (Below.refl _ _).alloc (Nat.le_refl _) _
  have hm := hS.len.le
  dsimp only [sysV]
  have HB := Lib.hid hb
  have HS := Lib.hid (hS.below hb)
  have HT := Lib.hid (hT.below hb)
  have HK1 := Lib.hid (Blk.new w 24 #[.int .i64 s.vars, .int .i64 s.sites, .int .i64 s.fields, .slice aS s.cons.length cS])
  clear hS hT hb
  cases hsm : smallB s
  · have HSM := Lib.hid hsm
    clear hsm
    go_enter Tryd.func8, Tryd.ntmps8
    go_wp2_with (first
      | (go_at_call 12; refine (small_any s _ _ _ HS.out).mono ?_; rintro e w1 ⟨rfl, hb1⟩; rw [HSM.out])
      | (go_at_call 24; refine (awakeD_any _ (HT.out.below hb1)).mono ?_; rintro e w2 ⟨rfl, hb2⟩))
    go_ret
    have z := HB.out.size
    have e1 := HB.out.trans (hb1.mono z)
    exact BoolAnd.mk rfl (e1.trans (hb2.mono e1.size))
  have HSM := Lib.hid hsm
  obtain ⟨v1, v2, v3⟩ := small_bd hsm
  have hv2 := Lib.hid v2
  clear hsm
  obtain ⟨p, hp⟩ := sol_exists s
  have HP := Lib.hid hp
  clear hp
  obtain ⟨⟨l, eq⟩, hq⟩ : ∃ r, queryR s v b p = r := ⟨_, rfl⟩
  have HQ := Lib.hid hq
  obtain ⟨nl, hnl⟩ : ∃ nl, needsV s v = nl := ⟨_, rfl⟩
  have HN := Lib.hid hnl
  obtain ⟨re, hre⟩ : ∃ re, rightE s v = re := ⟨_, rfl⟩
  have HR := Lib.hid hre
  clear hq hnl hre
  go_enter Tryd.func8, Tryd.ntmps8
  go_wp2_with (first
    | (go_at_call 12; refine (small_any s _ _ _ HS.out).mono ?_; rintro e w1 ⟨rfl, hb1⟩; rw [HSM.out]; have k1 := (HK1.out.below hb1).cell; have z1 := (HK1.out.below hb1).lt)
    | (go_at_call 25; (with_reducible refine (queryP_any s v b p HP.out aS cS w1 (HS.out.below hb1) (HT.out.below hb1) hv2.out).mono ?_); rintro e w2 ⟨a2, c2, rfl, i2, hb2⟩; rw [HQ.out]; rw [HQ.out] at i2; have hb3 := hb1.trans (hb2.mono hb1.size); have k2 := (HK1.out.below hb3).cell; have z2 := (HK1.out.below hb3).lt; have hm2 := i2.len.le; have I2 := Lib.hid i2)
    | (go_at_call 26; (with_reducible refine (queryR_any s v b p HP.out aS cS w2 (HS.out.below hb3)).mono ?_); rintro e w3 ⟨a3, c3, rfl, i3, hb4⟩; rw [HQ.out]; rw [HQ.out] at i3; have hb5 := hb3.trans (hb4.mono hb3.size); have k3 := (HK1.out.below hb5).cell; have z3 := (HK1.out.below hb5).lt; have I3 := Lib.hid i3; have J2 := Lib.hid (I2.out.below hb4))
    | (go_at_call 27; (with_reducible refine (needsP_any s v aS cS w3 (HS.out.below hb5)).mono ?_); rintro e w4 ⟨a4, c4, rfl, i4, hb6⟩; rw [HN.out, HR.out]; rw [HN.out] at i4; have hb7 := hb5.trans (hb6.mono hb5.size); have k4 := (HK1.out.below hb7).cell; have z4 := (HK1.out.below hb7).lt; have hm4 := i4.len.le; have I4 := Lib.hid i4; have M2 := Lib.hid (J2.out.below hb6); have M3 := Lib.hid (I3.out.below hb6))
    | (go_at_call 28; (with_reducible refine (needsR_any s v aS cS w4 (HS.out.below hb7)).mono ?_); rintro e w5 ⟨a5, c5, rfl, i5, hb8⟩; rw [HN.out, HR.out]; rw [HN.out] at i5; have hb9 := hb7.trans (hb8.mono hb7.size); have I5 := Lib.hid i5; have N2 := Lib.hid (M2.out.below hb8); have N3 := Lib.hid (M3.out.below hb8); have N4 := Lib.hid (I4.out.below hb8))
    | (go_at_call 24; (with_reducible refine (awakeD_any w5 (HT.out.below hb9)).mono ?_); rintro e w6 ⟨rfl, hb10⟩; have O2 := Lib.hid (N2.out.below hb10); have O3 := Lib.hid (N3.out.below hb10); have O4 := Lib.hid (N4.out.below hb10); have O5 := Lib.hid (I5.out.below hb10); have hb11 := hb9.trans (hb10.mono hb9.size))
    | (go_at_call 29; (with_reducible refine (sameInts_any l l a2 a3 c2 c3 w6 O2.out O3.out).mono ?_); rintro e w7 ⟨rfl, hb12⟩; rw [decide_eq_true rfl]; have P4 := Lib.hid (O4.out.below hb12); have P5 := Lib.hid (O5.out.below hb12); have hb13 := hb11.trans (hb12.mono hb11.size))
    | (go_at_call 29; (with_reducible refine (sameInts_any nl nl a4 a5 c4 c5 w7 P4.out P5.out).mono ?_); rintro e w8 ⟨rfl, hb14⟩; rw [decide_eq_true rfl]; have hb15 := hb13.trans (hb14.mono hb13.size)))
  go_ret
  have z := HB.out.size
  exact BoolAnd.mk rfl (HB.out.trans (hb15.mono z))
end Go.Proofs.YtcfiohphjlohhaaDoor
