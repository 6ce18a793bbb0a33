/- Z61: T61 in one text (merge.py) -/
import Derived.Test.YtcfiohphjlohhaaDoorZ6
import Derived.Deep.RegionHeld3
/- dataflowlaw24.DemandSlice -/
namespace Go.Proofs.YtcfiohphjlohhaaDoor
open Go.RowKit

theorem two_new (w : World) (cs ds : Array Value) (t u : TypeId) :
    Below w.heap.size w ((w.alloc (.cells cs t)).alloc (.cells ds u)).drew ∧ (∀ j, ((w.alloc (.cells cs t)).alloc (.cells ds u)).drew.cell? ⟨w.heap.size, j, none⟩ = cs[j]?) ∧ (∀ j, ((w.alloc (.cells cs t)).alloc (.cells ds u)).drew.cell? ⟨w.heap.size + 1, j, none⟩ = ds[j]?) ∧ w.heap.size < ((w.alloc (.cells cs t)).alloc (.cells ds u)).drew.heap.size ∧ w.heap.size + 1 < ((w.alloc (.cells cs t)).alloc (.cells ds u)).drew.heap.size := by
  have h := below_two w (.cells cs t) (.cells ds u)
  have h2 := box2_keep (w := w) (cs := cs) (ds := ds) (t := t) (u := u) (B := w.heap.size + 2) (w1 := ((w.alloc (.cells cs t)).alloc (.cells ds u))) (Below.refl _ _) (Nat.le_refl _)
  have hs : ((w.alloc (.cells cs t)).alloc (.cells ds u)).drew.heap.size = w.heap.size + 2 := by simp
  exact ⟨⟨h.os, h.tape, h.output, h.size, h.block⟩, h2.1, h2.2, by omega, by omega⟩

set_option maxRecDepth 100000 in
set_option maxHeartbeats 4000000 in
theorem demandSlice_any (s : Sys) (v : Int) (aS : Option Addr) (cS : Nat) (w : World) (hS : Cons w aS s.cons) (hT : TzMem w) :
    Calls Tryd.prog 9 #[sysV s aS cS, .int .i64 v] w (BoolAnd true w) := by
  have hb : Below w.heap.size w (w.alloc (.cells #[.int .i64 s.vars, .int .i64 s.sites, .int .i64 s.fields, .slice aS s.cons.length cS] 24)) := (Below.refl _ _).alloc (Nat.le_refl _) _
  have hm := hS.len.le
  dsimp only [sysV]
  have HB := Lib.hid hb
  have HS := Lib.hid (hS.below hb)
  have HT := Lib.hid (hT.below hb)
  have HK1 := Lib.hid (Blk.new w 24 #[.int .i64 s.vars, .int .i64 s.sites, .int .i64 s.fields, .slice aS s.cons.length cS])
  clear hS hT hb
  cases hsm : smallB s
  · have HSM := Lib.hid hsm
    clear hsm
    go_enter Tryd.func9, Tryd.ntmps9
    go_wp2_with (first
      | (go_at_call 12; refine (small_any s _ _ _ HS.out).mono ?_; rintro e w1 ⟨rfl, hb1⟩; rw [HSM.out])
      | (go_at_call 24; refine (awakeD_any _ (HT.out.below hb1)).mono ?_; rintro e w2 ⟨rfl, hb2⟩))
    go_ret
    have z := HB.out.size
    have e1 := HB.out.trans (hb1.mono z)
    exact BoolAnd.mk rfl (e1.trans (hb2.mono e1.size))
  have HSM := Lib.hid hsm
  clear hsm
  obtain ⟨t, ht⟩ : ∃ t, sliceV s v = t := ⟨_, rfl⟩
  have HV := Lib.hid ht
  obtain ⟨re, hre⟩ : ∃ re, rightE s v = re := ⟨_, rfl⟩
  have HR := Lib.hid hre
  clear ht hre
  go_enter Tryd.func9, Tryd.ntmps9
  go_wp2_with (first
    | (go_at_call 12; refine (small_any s _ _ _ HS.out).mono ?_; rintro e w1 ⟨rfl, hb1⟩; rw [HSM.out]; have k1 := (HK1.out.below hb1).cell; have z1 := (HK1.out.below hb1).lt)
    | (go_at_call 30; (with_reducible refine (sliceP_any s v aS cS w1 (HS.out.below hb1)).mono ?_); rintro e w2 ⟨a2, c2, rfl, i2, hb2⟩; rw [HV.out, HR.out]; rw [HV.out] at i2; have hb3 := hb1.trans (hb2.mono hb1.size); have KA : Below w2.heap.size w2 (w2.alloc (.cells #[.int .i64 t.vars, .int .i64 t.sites, .int .i64 t.fields, .slice a2 t.cons.length c2] 24)) := (Below.refl _ _).alloc (Nat.le_refl _) _; have hb4 := hb3.trans (KA.mono hb3.size); have k2 := (HK1.out.below hb3).cell; have z2 := (HK1.out.below hb3).lt; have hm2 := i2.len.le; have I2 := Lib.hid (i2.below KA); have K2 := Lib.hid (Blk.new w2 24 #[.int .i64 t.vars, .int .i64 t.sites, .int .i64 t.fields, .slice a2 t.cons.length c2]); clear i2 KA; dsimp only [sysV])
    | (go_at_call 31; (with_reducible refine (sliceR_any s v aS cS _ (HS.out.below hb4)).mono ?_); rintro e w3 ⟨a3, c3, rfl, i3, hb5⟩; rw [HV.out, HR.out]; rw [HV.out] at i3; have hb6 := hb4.trans (hb5.mono hb4.size); have KA : Below w3.heap.size w3 (w3.alloc (.cells #[.int .i64 t.vars, .int .i64 t.sites, .int .i64 t.fields, .slice a3 t.cons.length c3] 24)) := (Below.refl _ _).alloc (Nat.le_refl _) _; have hb7 := Lib.hid (hb6.trans (KA.mono hb6.size)); have I3 := Lib.hid (i3.below KA); have J2 := Lib.hid ((I2.out.below hb5).below KA); have K3 := Lib.hid (Blk.new w3 24 #[.int .i64 t.vars, .int .i64 t.sites, .int .i64 t.fields, .slice a3 t.cons.length c3]); have L2 := Lib.hid ((K2.out.below hb5).below KA); have l2 := (K2.out.below hb5).cell; have y2 := (K2.out.below hb5).lt; clear i3 KA; dsimp only [sysV]))
  have HF := Lib.hid (HB.out.trans (hb7.out.mono HB.out.size))
  have T0 := Lib.hid (HT.out.below hb7.out)
  generalize w3.alloc (.cells #[.int .i64 t.vars, .int .i64 t.sites, .int .i64 t.fields, .slice a3 t.cons.length c3] 24) = w4 at *
  clear hb1 hb2 hb3 hb4 hb5 hb6 k1 k2 l2 hb7
  go_loopg [64] t.cons.length (fun g i wr => ∃ k : Nat, k ≤ t.cons.length ∧ g = t.cons.length - k ∧ i = .int .i64 k ∧ Hid (Below w4.heap.size w4 wr))
  case atStart => exact ⟨0, Nat.zero_le _, rfl, rfl, Below.refl _ _⟩
  case round =>
    obtain ⟨k, hk, rfl, rfl, hB⟩ := hrel
    have q2 := (L2.out.below hB.out).cell 3
    have q3 := (K3.out.below hB.out).cell 3
    have y3 := (L2.out.below hB.out).lt
    have y4 := (K3.out.below hB.out).lt
    by_cases hlt : k < t.cons.length
    · obtain ⟨b, o, a', c', rfl, e0, e1, e2, e3, e4, hi⟩ := (J2.out.below hB.out).at_ k t.cons[k] (get_at hlt)
      obtain ⟨b2, o2, a2', c2', rfl, f0, f1, f2, f3, f4, hi2⟩ := (I3.out.below hB.out).at_ k t.cons[k] (get_at hlt)
      have H1 := Lib.hid hi
      have H2 := Lib.hid hi2
      clear hi hi2
      go_wp2
      go_region_held3 (fun w' => w'.cell? ⟨w2.heap.size, 3, none⟩ = some (.slice (some ⟨b, o, none⟩) t.cons.length c2) ∧ w'.cell? ⟨w3.heap.size, 3, none⟩ = some (.slice (some ⟨b2, o2, none⟩) t.cons.length c3) ∧ w'.cell? ⟨b, o + k * 5, none⟩ = some (.int .i64 t.cons[k].kind) ∧ w'.cell? ⟨b, o + k * 5 + 1, none⟩ = some (.int .i64 t.cons[k].a) ∧ w'.cell? ⟨b, o + k * 5 + 2, none⟩ = some (.int .i64 t.cons[k].b) ∧ w'.cell? ⟨b, o + k * 5 + 3, none⟩ = some (.int .i64 t.cons[k].field) ∧ w'.cell? ⟨b, o + k * 5 + 4, none⟩ = some (.slice a' t.cons[k].set.length c') ∧ w'.cell? ⟨b2, o2 + k * 5, none⟩ = some (.int .i64 t.cons[k].kind) ∧ w'.cell? ⟨b2, o2 + k * 5 + 1, none⟩ = some (.int .i64 t.cons[k].a) ∧ w'.cell? ⟨b2, o2 + k * 5 + 2, none⟩ = some (.int .i64 t.cons[k].b) ∧ w'.cell? ⟨b2, o2 + k * 5 + 3, none⟩ = some (.int .i64 t.cons[k].field) ∧ w'.cell? ⟨b2, o2 + k * 5 + 4, none⟩ = some (.slice a2' t.cons[k].set.length c2'))
        (go_keep)
        (fail)
      · rename_i hHeld
        clear hHeld
        obtain ⟨n1, n2, n3, n4, n5⟩ := two_new wr #[.int .i64 t.cons[k].kind, .int .i64 t.cons[k].a, .int .i64 t.cons[k].b, .int .i64 t.cons[k].field, .slice a' t.cons[k].set.length c'] #[.int .i64 t.cons[k].kind, .int .i64 t.cons[k].a, .int .i64 t.cons[k].b, .int .i64 t.cons[k].field, .slice a2' t.cons[k].set.length c2'] 39 39
        have N1 := Lib.hid n1
        have H3 := Lib.hid (H1.out.below n1)
        have H4 := Lib.hid (H2.out.below n1)
        clear n1
        have g10 := n2 0
        have g11 := n2 1
        have g12 := n2 2
        have g13 := n2 3
        have g14 := n2 4
        have g20 := n3 0
        have g21 := n3 1
        have g22 := n3 2
        have g23 := n3 3
        have g24 := n3 4
        clear n2 n3
        generalize ((wr.alloc (.cells #[.int .i64 t.cons[k].kind, .int .i64 t.cons[k].a, .int .i64 t.cons[k].b, .int .i64 t.cons[k].field, .slice a' t.cons[k].set.length c'] 39)).alloc (.cells #[.int .i64 t.cons[k].kind, .int .i64 t.cons[k].a, .int .i64 t.cons[k].b, .int .i64 t.cons[k].field, .slice a2' t.cons[k].set.length c2'] 39)).drew = wn at *
        clear e0 e1 e2 e3 e4 f0 f1 f2 f3 f4 q2 q3
        go_wp2_with (go_at_call 29; (with_reducible refine (sameInts_any t.cons[k].set t.cons[k].set a' a2' c' c2' wn H3.out H4.out).mono ?_); rintro e w5 ⟨rfl, hb8⟩; rw [decide_eq_true rfl])
        go_roundg (t.cons.length - (k + 1))
        case measure => omega
        case rel => exact ⟨k + 1, by omega, rfl, by go_num, hB.out.trans ((N1.out.trans (hb8.mono N1.out.size)).mono hB.out.size)⟩
      · rename_i hHeld
        clear hHeld
        obtain ⟨n1, n2, n3, n4, n5⟩ := two_new wr #[.int .i64 t.cons[k].kind, .int .i64 t.cons[k].a, .int .i64 t.cons[k].b, .int .i64 t.cons[k].field, .slice a2' t.cons[k].set.length c2'] #[.int .i64 t.cons[k].kind, .int .i64 t.cons[k].a, .int .i64 t.cons[k].b, .int .i64 t.cons[k].field, .slice a' t.cons[k].set.length c'] 39 39
        have N1 := Lib.hid n1
        have H3 := Lib.hid (H1.out.below n1)
        have H4 := Lib.hid (H2.out.below n1)
        clear n1
        have g10 := n2 0
        have g11 := n2 1
        have g12 := n2 2
        have g13 := n2 3
        have g14 := n2 4
        have g20 := n3 0
        have g21 := n3 1
        have g22 := n3 2
        have g23 := n3 3
        have g24 := n3 4
        clear n2 n3
        generalize ((wr.alloc (.cells #[.int .i64 t.cons[k].kind, .int .i64 t.cons[k].a, .int .i64 t.cons[k].b, .int .i64 t.cons[k].field, .slice a2' t.cons[k].set.length c2'] 39)).alloc (.cells #[.int .i64 t.cons[k].kind, .int .i64 t.cons[k].a, .int .i64 t.cons[k].b, .int .i64 t.cons[k].field, .slice a' t.cons[k].set.length c'] 39)).drew = wn at *
        clear e0 e1 e2 e3 e4 f0 f1 f2 f3 f4 q2 q3
        go_wp2_with (go_at_call 29; (with_reducible refine (sameInts_any t.cons[k].set t.cons[k].set a' a2' c' c2' wn H3.out H4.out).mono ?_); rintro e w5 ⟨rfl, hb8⟩; rw [decide_eq_true rfl])
        go_roundg (t.cons.length - (k + 1))
        case measure => omega
        case rel => exact ⟨k + 1, by omega, rfl, by go_num, hB.out.trans ((N1.out.trans (hb8.mono N1.out.size)).mono hB.out.size)⟩
    · obtain rfl : k = t.cons.length := by omega
      have hge : ¬ (t.cons.length : Int) < (t.cons.length : Int) := by omega
      go_wp2_with (go_at_call 24; (with_reducible refine (awakeD_any wr (T0.out.below hB.out)).mono ?_); rintro e w5 ⟨rfl, hb8⟩)
      go_ret
      have z := HF.out.trans (hB.out.mono HF.out.size)
      exact BoolAnd.mk rfl (z.trans (hb8.mono z.size))
end Go.Proofs.YtcfiohphjlohhaaDoor
