/- dataflowlaw18.AndersenGrows -/
import Derived.Test.YtcfiohphjlohhaaDoorT40
import Derived.Test.YtcfiohphjlohhaaDoorM6
namespace Go.Proofs.YtcfiohphjlohhaaDoor
open Go.RowKit

/-- the constraints behind the first n -/
theorem Cons.tail {w : World} {a : Option Addr} {cs : List Con} {cp n : Nat} (h : Cons w a cs) (hc : cs.length ≤ cp) : Cons w (if cp = n then a else a.map (·.add (n * 5))) (cs.drop n) := by
  refine ⟨?_, fun i c hi => ?_⟩
  · have := h.len
    unfold LenOk at this ⊢
    rw [List.length_drop]; omega
  · rw [List.getElem?_drop] at hi
    have hlt : n + i < cs.length := (List.getElem?_eq_some_iff.1 hi).1
    obtain ⟨b, o, a', c', rfl, h0, h1, h2, h3, h4, h5⟩ := h.at_ (n + i) c hi
    have e : o + (n + i) * 5 = o + n * 5 + i * 5 := by omega
    rw [e] at h0 h1 h2 h3 h4
    refine ⟨b, o + n * 5, a', c', ?_, h0, h1, h2, h3, h4, h5⟩
    rw [if_neg (by omega), Option.map_some]
    unfold Addr.add
    split
    · rename_i e; rw [e]; rfl
    · rfl

theorem check_len {s : Sys} (h : checkE s = 0) : s.cons.length ≤ 32768 := by
  unfold checkE at h
  split at h
  · omega
  split at h
  · omega
  omega

set_option maxRecDepth 100000 in
set_option maxHeartbeats 2000000 in
theorem andersenGrows_any (s : Sys) (k : Int) (aS : Option Addr) (cS : Nat) (w : World) (hS : Cons w aS s.cons) (hle : s.cons.length ≤ cS) (hT : TzMem w) :
    Calls Tryd.prog 7 #[sysV s aS cS, .int .i64 k] w (BoolAnd true w) := by
  have hb : Below w.heap.size w (w.alloc (.cells #[.int .i64 s.vars, .int .i64 s.sites, .int .i64 s.fields, .slice aS s.cons.length cS] 24)) := (Below.refl _ _).alloc (Nat.le_refl _) _
  have hm := hS.len.le
  dsimp only [sysV]
  have HB := Lib.hid hb
  have HS := Lib.hid (hS.below hb)
  have HT := Lib.hid (hT.below hb)
  have HK1 := Lib.hid (Blk.new w 24 #[.int .i64 s.vars, .int .i64 s.sites, .int .i64 s.fields, .slice aS s.cons.length cS])
  clear hS hT hb
  cases hsm : smallB s
  · have HSM := Lib.hid hsm
    clear hsm
    go_enter Tryd.func7, Tryd.ntmps7
    go_wp2_with (first
      | (go_at_call 12; refine (small_any s _ _ _ HS.out).mono ?_; rintro e w1 ⟨rfl, hb1⟩; rw [HSM.out])
      | (go_at_call 13; refine (awake_any _ (HT.out.below hb1)).mono ?_; rintro e w2 ⟨rfl, hb2⟩))
    go_ret
    have z := HB.out.size
    have e1 := HB.out.trans (hb1.mono z)
    exact BoolAnd.mk rfl (e1.trans (hb2.mono e1.size))
  have HSM := Lib.hid hsm
  obtain ⟨v1, v2, v3⟩ := small_bd hsm
  clear hsm
  by_cases hE : checkE s = 0
  case neg =>
    have hq : (checkE s != 0) = true := by simpa using hE
    clear hE
    go_enter Tryd.func7, Tryd.ntmps7
    go_wp2_with (first
      | (go_at_call 12; refine (small_any s _ _ _ HS.out).mono ?_; rintro e w1 ⟨rfl, hb1⟩; rw [HSM.out]; have k2 := (HK1.out.below hb1).cell)
      | (go_at_call 13; (with_reducible refine (awake_any w1 (HT.out.below hb1)).mono ?_); rintro e w3 ⟨rfl, hb4⟩; have hb5 := hb1.trans (hb4.mono hb1.size); have k4 := (HK1.out.below hb5).cell)
      | (go_at_call 14; refine (solveP_any s _ _ w3 (HS.out.below hb5) (HT.out.below hb5) v2).mono ?_; rintro e w4 hp; obtain ⟨q, b1, b2, d1, d2, rfl, hr1, hr2, hb6, hsol⟩ := hp.sol; clear hp; dsimp only [ptsV]))
    go_ret
    have z := HB.out.size
    have e1 := HB.out.trans (hb5.mono z)
    exact BoolAnd.mk rfl ((e1.trans (hb6.mono e1.size)).alloc (e1.trans (hb6.mono e1.size)).size _)
  have HE := Lib.hid hE
  have hs12 := Lib.hid v2
  clear hE
  go_enter Tryd.func7, Tryd.ntmps7
  go_wp2_with (first
    | (go_at_call 12; refine (small_any s _ _ _ HS.out).mono ?_; rintro e w1 ⟨rfl, hb1⟩; rw [HSM.out]; have k2 := (HK1.out.below hb1).cell)
    | (go_at_call 13; (with_reducible refine (awake_any w1 (HT.out.below hb1)).mono ?_); rintro e w3 ⟨rfl, hb4⟩; have hb5 := hb1.trans (hb4.mono hb1.size); have k4 := (HK1.out.below hb5).cell)
    | (go_at_call 14; (with_reducible refine (solveP_any s aS cS w3 (HS.out.below hb5) (HT.out.below hb5) v2).mono ?_); rintro e w4 hp; obtain ⟨q, b1, b2, d1, d2, rfl, hr1, hr2, hb6, hsol⟩ := hp.sol; clear hp; rw [HE.out]; have hb7 := hb5.trans (hb6.mono hb5.size); have k5 := (HK1.out.below hb7).cell; have z5 := (HK1.out.below hb7).lt; have hl1 := hr1.len.le; have hl2 := hr2.len.le; obtain ⟨mx, hmx⟩ : ∃ mx : Int, (if (0 : Int) > k then 0 else k) = mx := ⟨_, rfl⟩; have hmx0 : 0 ≤ mx := (by rw [← hmx]; split <;> omega); obtain ⟨n, hn, hnle⟩ : ∃ n : Nat, (if (s.cons.length : Int) < mx then (s.cons.length : Int) else mx) = (n : Int) ∧ n ≤ s.cons.length := (by by_cases hlt : (s.cons.length : Int) < mx; exact ⟨s.cons.length, by rw [if_pos hlt], Nat.le_refl _⟩; exact ⟨mx.toNat, by rw [if_neg hlt]; omega, by omega⟩); have hnle' : (n : Int) ≤ (s.cons.length : Int) := (by omega); obtain ⟨A, hA⟩ : ∃ A, (if cS = n then aS else Option.map (fun x => x.add (n * 5)) aS) = A := ⟨_, rfl⟩; dsimp only [ptsV]))
  have KQ := (Blk.new w4 29 #[.slice b1 q.vars.length d1, .slice b2 q.cells.length d2]).al (.cells #[.int .i64 s.vars, .int .i64 s.sites, .int .i64 s.fields, .slice A (s.cons.length - n) (cS - n)] 24)
  have KT : Blk ((w4.alloc (.cells #[.slice b1 q.vars.length d1, .slice b2 q.cells.length d2] 29)).alloc (.cells #[.int .i64 s.vars, .int .i64 s.sites, .int .i64 s.fields, .slice A (s.cons.length - n) (cS - n)] 24)) (w4.heap.size + 1) 24 #[.int .i64 s.vars, .int .i64 s.sites, .int .i64 s.fields, .slice A (s.cons.length - n) (cS - n)] := by
    have := Blk.new (w4.alloc (.cells #[.slice b1 q.vars.length d1, .slice b2 q.cells.length d2] 29)) 24 #[.int .i64 s.vars, .int .i64 s.sites, .int .i64 s.fields, .slice A (s.cons.length - n) (cS - n)]
    rw [World.size_alloc] at this; exact this
  have KA : Below w4.heap.size w4 ((w4.alloc (.cells #[.slice b1 q.vars.length d1, .slice b2 q.cells.length d2] 29)).alloc (.cells #[.int .i64 s.vars, .int .i64 s.sites, .int .i64 s.fields, .slice A (s.cons.length - n) (cS - n)] 24)) := below_two _ _ _
  have q1 := hr1.below KA
  have q2 := hr2.below KA
  have hb8 := hb7.trans (KA.mono hb7.size)
  have zf := HB.out.trans (hb8.mono HB.out.size)
  have f1 := HS.out.below hb8
  have f4 := HT.out.below hb8
  have f5 := HK1.out.below hb8
  have fT : Cons ((w4.alloc (.cells #[.slice b1 q.vars.length d1, .slice b2 q.cells.length d2] 29)).alloc (.cells #[.int .i64 s.vars, .int .i64 s.sites, .int .i64 s.fields, .slice A (s.cons.length - n) (cS - n)] 24)) A (s.cons.drop n) := by
    have ft := f1.tail (n := n) hle
    rw [hA] at ft; exact ft
  have hlen : s.cons.length - n = (s.cons.drop n).length := by rw [List.length_drop]
  have zq : w4.heap.size + 1 + 1 = ((w4.alloc (.cells #[.slice b1 q.vars.length d1, .slice b2 q.cells.length d2] 29)).alloc (.cells #[.int .i64 s.vars, .int .i64 s.sites, .int .i64 s.fields, .slice A (s.cons.length - n) (cS - n)] 24)).heap.size := by simp [World.size_alloc]
  generalize (w4.alloc (.cells #[.slice b1 q.vars.length d1, .slice b2 q.cells.length d2] 29)).alloc (.cells #[.int .i64 s.vars, .int .i64 s.sites, .int .i64 s.fields, .slice A (s.cons.length - n) (cS - n)] 24) = wq at *
  have hsub : Hid (∀ c ∈ s.cons.drop n, c ∈ s.cons) := fun c hc => List.mem_of_mem_drop hc
  have hl3 : Hid ((s.cons.drop n).length ≤ 32768) := by
    have := (check_len HE.out)
    show (s.cons.drop n).length ≤ 32768
    rw [List.length_drop]; omega
  have HET := Lib.hid (check_sw HE.out hsub.out hl3.out)
  have ZF := Lib.hid zf
  have HQ := Lib.hid hsol
  have KS : Hid (∀ w' : World, Below wq.heap.size wq w' → (∀ j, w'.cell? ⟨w.heap.size, j, none⟩ = (#[.int .i64 s.vars, .int .i64 s.sites, .int .i64 s.fields, .slice aS s.cons.length cS] : Array Value)[j]?) ∧ (∀ j, w'.cell? ⟨w4.heap.size, j, none⟩ = (#[.slice b1 q.vars.length d1, .slice b2 q.cells.length d2] : Array Value)[j]?) ∧ (∀ j, w'.cell? ⟨w4.heap.size + 1, j, none⟩ = (#[.int .i64 s.vars, .int .i64 s.sites, .int .i64 s.fields, .slice A (s.cons.length - n) (cS - n)] : Array Value)[j]?)) := fun w' h => ⟨(f5.below h).cell, (KQ.below h).cell, (KT.below h).cell⟩
  have CS2 : Hid (Calls Tryd.prog 14 #[.agg #[.int .i64 s.vars, .int .i64 s.sites, .int .i64 s.fields, .slice A (s.cons.length - n) (cS - n)]] wq (SolvePost (sw s (s.cons.drop n)) wq)) := by
    have := solveP_any (sw s (s.cons.drop n)) A (cS - n) wq fT f4 hs12.out
    dsimp only [sysV, sw] at this
    rw [← hlen] at this
    exact this
  have FA := Lib.hid f1
  have FT := Lib.hid f4
  have FC := Lib.hid fT
  have Q1 := Lib.hid q1
  have Q2 := Lib.hid q2
  have HLEN := Lib.hid hlen
  have ZQ := Lib.hid zq
  clear hr1 hr2 KA q1 q2 hb8 zf f1 f4 f5 fT KQ KT hsol hb7 hb6 hb5 hb4 hb1 k2 k4 k5 hA hn hmx hlen zq
  go_wp2_with (go_at_call 14; (with_reducible refine CS2.out.mono ?_); rintro e w5 hp; obtain ⟨r, e1, e2, g1, g2, rfl, gr1, gr2, c5, hsol2⟩ := hp.sol; clear hp; rw [HET.out]; have hl5 := gr1.len.le; have hl6 := gr2.len.le; have y5 := c5.size; obtain ⟨x1, x2, x3⟩ := KS.out _ c5; have u1 : w.heap.size < w5.heap.size := (by have := ZQ.out; omega); have u2 : w4.heap.size < w5.heap.size := (by have := ZQ.out; omega); have u3 : w4.heap.size + 1 < w5.heap.size := (by have := ZQ.out; omega); dsimp only [ptsV])
  have KR := Blk.new w5 29 #[.slice e1 r.vars.length g1, .slice e2 r.cells.length g2]
  have KB : Below w5.heap.size w5 (w5.alloc (.cells #[.slice e1 r.vars.length g1, .slice e2 r.cells.length g2] 29)) := (Below.refl _ _).alloc (Nat.le_refl _) _
  have c6 := c5.trans (KB.mono c5.size)
  have p1 := gr1.below KB
  have p2 := gr2.below KB
  have f1 := FA.out.below c6
  have f2 := FC.out.below c6
  have f4 := FT.out.below c6
  have f5 := Q1.out.below c6
  have f6 := Q2.out.below c6
  have f7 := ZF.out.trans (c6.mono ZF.out.size)
  have f8 := KS.out _ c6
  generalize w5.alloc (.cells #[.slice e1 r.vars.length g1, .slice e2 r.cells.length g2] 29) = wr at *
  have HR := Lib.hid hsol2
  have hwi : Hid (withinB r q = true) := sub_within HE.out hsub.out hl3.out HQ.out hsol2
  have hcl : Hid (closedB (sw s (s.cons.drop n)) q = true) := closed_sub hsub.out hl3.out (sol_closed HE.out HQ.out)
  have CA : Hid (∀ w' : World, Below wr.heap.size wr w' → Calls Tryd.prog 20 #[.agg #[.slice e1 r.vars.length g1, .slice e2 r.cells.length g2], .agg #[.slice b1 q.vars.length d1, .slice b2 q.cells.length d2]] w' (BoolAnd true w')) := fun w' h => (withinA_any r q e1 e2 b1 b2 g1 g2 d1 d2 w' (p1.below h) (p2.below h) (f5.below h) (f6.below h)).mono fun e w2 hh => by rw [hwi.out] at hh; exact hh
  have CB : Hid (∀ w' : World, Below wr.heap.size wr w' → Calls Tryd.prog 19 #[.agg #[.int .i64 s.vars, .int .i64 s.sites, .int .i64 s.fields, .slice A (s.cons.length - n) (cS - n)], .agg #[.slice b1 q.vars.length d1, .slice b2 q.cells.length d2]] w' (BoolAnd true w')) := fun w' h => by
    have := closedP_any (sw s (s.cons.drop n)) q A b1 b2 (cS - n) d1 d2 w' (f2.below h) (f5.below h) (f6.below h) (f4.below h) hs12.out
    dsimp only [sysV, sw] at this
    rw [← HLEN.out] at this
    exact this.mono fun e w2 hh => by rw [hcl.out] at hh; exact hh
  have CC : Hid (∀ w' : World, Below wr.heap.size wr w' → Calls Tryd.prog 19 #[.agg #[.int .i64 s.vars, .int .i64 s.sites, .int .i64 s.fields, .slice aS s.cons.length cS], .agg #[.slice e1 r.vars.length g1, .slice e2 r.cells.length g2]] w' (BoolAnd (closedB s r) w')) := fun w' h => closedP_any s r aS e1 e2 cS g1 g2 w' (f1.below h) (p1.below h) (p2.below h) (f4.below h) hs12.out
  have CD : Hid (∀ w' : World, Below wr.heap.size wr w' → Calls Tryd.prog 20 #[.agg #[.slice b1 q.vars.length d1, .slice b2 q.cells.length d2], .agg #[.slice e1 r.vars.length g1, .slice e2 r.cells.length g2]] w' (BoolAnd (withinB q r) w')) := fun w' h => withinA_any q r b1 b2 e1 e2 d1 d2 g1 g2 w' (f5.below h) (f6.below h) (p1.below h) (p2.below h)
  have KV : Hid (∀ w' : World, Below wr.heap.size wr w' → (∀ j, w'.cell? ⟨w.heap.size, j, none⟩ = (#[.int .i64 s.vars, .int .i64 s.sites, .int .i64 s.fields, .slice aS s.cons.length cS] : Array Value)[j]?) ∧ (∀ j, w'.cell? ⟨w4.heap.size, j, none⟩ = (#[.slice b1 q.vars.length d1, .slice b2 q.cells.length d2] : Array Value)[j]?) ∧ (∀ j, w'.cell? ⟨w4.heap.size + 1, j, none⟩ = (#[.int .i64 s.vars, .int .i64 s.sites, .int .i64 s.fields, .slice A (s.cons.length - n) (cS - n)] : Array Value)[j]?) ∧ (∀ j, w'.cell? ⟨w5.heap.size, j, none⟩ = (#[.slice e1 r.vars.length g1, .slice e2 r.cells.length g2] : Array Value)[j]?)) := fun w' h => ⟨(KS.out _ (c6.trans (h.mono c6.size))).1, (KS.out _ (c6.trans (h.mono c6.size))).2.1, (KS.out _ (c6.trans (h.mono c6.size))).2.2, (KR.below h).cell⟩
  have C0 : Hid (Below wr.heap.size wr wr) := Below.refl _ _
  have ZF := Lib.hid f7
  clear gr1 gr2 KB c6 p1 p2 f1 f2 f4 f5 f6 f7 f8 KR hsol2 c5 x1 x2 x3 u1 u2 u3
  obtain ⟨x01, x02, x03, x04⟩ := KV.out _ C0.out
  go_wp2_with (first
    | (go_at_call 20; (with_reducible refine (CA.out _ C0.out).mono ?_); rintro e w6 ⟨rfl, c6⟩; have C6 := Lib.hid (C0.out.trans (c6.mono C0.out.size)); obtain ⟨x61, x62, x63, x64⟩ := KV.out _ C6.out)
    | (go_at_call 19; (with_reducible refine (CB.out _ C6.out).mono ?_); rintro e w7 ⟨rfl, c7⟩; have C7 := Lib.hid (C6.out.trans (c7.mono C6.out.size)); obtain ⟨x71, x72, x73, x74⟩ := KV.out _ C7.out)
    | (go_at_call 19; (with_reducible refine (CC.out _ C7.out).mono ?_); rintro e w8 ⟨rfl, c8⟩; have C8 := Lib.hid (C7.out.trans (c8.mono C7.out.size)); obtain ⟨x81, x82, x83, x84⟩ := KV.out _ C8.out; cases hc : closedB s r)
    | (go_at_call 20; (with_reducible refine (CD.out _ C8.out).mono ?_); rintro e w9 ⟨rfl, c9⟩; have C9 := Lib.hid (C8.out.trans (c9.mono C8.out.size)); rw [closed_holds hc HQ.out]))
  all_goals go_ret
  all_goals first
    | exact BoolAnd.mk rfl (ZF.out.trans (C9.out.mono ZF.out.size))
    | exact BoolAnd.mk rfl (ZF.out.trans (C8.out.mono ZF.out.size))
end Go.Proofs.YtcfiohphjlohhaaDoor
