/- andersen.Solve -/
import Derived.Test.YtcfiohphjlohhaaDoorT34
import Derived.Test.YtcfiohphjlohhaaDoorT33
namespace Go.Proofs.YtcfiohphjlohhaaDoor
open Go.RowKit

set_option maxRecDepth 100000 in
theorem solveP_err (s : Sys) (aS : Option Addr) (cS : Nat) (w : World) (hS : Cons w aS s.cons) (hE : ¬ checkE s = 0) :
    Calls Tryd.prog 14 #[sysV s aS cS] w (SolvePost s w) := by
  dsimp only [sysV]
  have hq : (checkE s != 0) = true := by simpa using hE
  have HE := Lib.hid hE
  clear hE
  have hb : Below w.heap.size w ((w.alloc (.cells #[.int .i64 s.vars, .int .i64 s.sites, .int .i64 s.fields, .slice aS s.cons.length cS] 24)).alloc (.cells #[.slice none 0 0, .slice none 0 0] 29)) := below_two _ _ _
  have hS' := hS.below hb
  go_enter Tryd.func14, Tryd.ntmps14
  go_wp2_with (go_at_call 35; refine (check_any s _ _ _ hS').mono ?_; rintro e w1 ⟨rfl, hb1⟩; obtain ⟨k1, k2⟩ := box2_keep hb1 (by simp); obtain ⟨z0, z1⟩ := size_box2 hb1; have kf : ∀ j, w1.frozen? ⟨w.heap.size + 1, j, none⟩ = false := fun j => by rw [hb1.frozen (p := ⟨w.heap.size + 1, j, none⟩) (by simp)]; exact World.frozen?_alloc_at _ _ _ _ (by simp))
  obtain ⟨r0, r1⟩ := two_set (k2 0) (k2 1) (.slice none 0 0) (.slice none 0 0)
  refine bodyPost_ret (v := .tuple #[.agg #[.slice none 0 0, .slice none 0 0], .int .i64 (checkE s)]) (by simp [results, Tryd.results14, go_sem, r0, r1]) rfl
    ⟨⟨[], []⟩, none, none, 0, 0, rfl, ⟨by unfold LenOk; simp, fun i l hi => by simp at hi⟩, ⟨by unfold LenOk; simp, fun i l hi => by simp at hi⟩, ?_, fun _ => rfl, fun e => absurd e HE.out⟩
  exact ((below_box2 hb1).setCell (p := ⟨w.heap.size + 1, 0, none⟩) (by simp) _).setCell (p := ⟨w.heap.size + 1, 1, none⟩) (by simp) _

set_option maxRecDepth 100000 in
set_option maxHeartbeats 1000000 in
theorem solveP_ok (s : Sys) (aS : Option Addr) (cS : Nat) (w : World) (hS : Cons w aS s.cons) (hE : checkE s = 0) (hT : TzMem w) (h12 : s.sites ≤ 12) :
    Calls Tryd.prog 14 #[sysV s aS cS] w (SolvePost s w) := by
  have hok := check_ok hE
  have b0 := hok.vars
  have b1 := hok.sites
  have b2 := hok.fields
  have bp := hok.prod
  have b3 := Int.mul_nonneg b1.1 b2.1
  obtain ⟨n, hn⟩ : ∃ n : Nat, s.sites = n := ⟨s.sites.toNat, by omega⟩
  have hn12 : n ≤ 12 := by omega
  have hcok : ∀ c ∈ s.cons, ConOk s c := fun c hc => con_ok (hok.cons c hc)
  have hq : (checkE s != 0) = false := by simpa using hE
  have HE := Lib.hid hE
  have HOK := Lib.hid hok
  have HN := Lib.hid hn
  have hb : Below w.heap.size w ((w.alloc (.cells #[.int .i64 s.vars, .int .i64 s.sites, .int .i64 s.fields, .slice aS s.cons.length cS] 24)).alloc (.cells #[.slice none 0 0, .slice none 0 0] 29)) := below_two _ _ _
  have hS' := hS.below hb
  have hm := hS.len.le
  clear hE hok hn
  dsimp only [sysV]
  go_enter Tryd.func14, Tryd.ntmps14
  go_wp2_with (first
    | (go_at_call 35; refine (check_any s _ _ _ hS').mono ?_; rintro e w1 ⟨rfl, hb1⟩; obtain ⟨k1, k2⟩ := box2_keep hb1 (by simp); have kb : Blk w1 (w.heap.size + 1) 29 #[.slice none 0 0, .slice none 0 0] := (by have hq := Blk.new (w.alloc (.cells #[.int .i64 s.vars, .int .i64 s.sites, .int .i64 s.fields, .slice aS s.cons.length cS] 24)) 29 #[.slice none 0 0, .slice none 0 0]; rw [World.size_alloc] at hq; exact hq.below hb1); replace kb := Lib.hid kb)
    | (go_at_call 36; refine (newSolver_any s n aS cS w1 HN.out hn12 HOK.out).mono ?_; rintro e w4 ⟨t, rfl, hSol, hb6, hown, hta, htc, htn, htS⟩; have hb7 := hb1.trans (hb6.mono hb1.size); replace hSol := Lib.hid hSol; replace hta := Lib.hid hta; replace htc := Lib.hid htc; replace htn := Lib.hid htn)
    | (go_at_call 37; refine (run_any s t w1 w4 hSol.out HOK.out ⟨HOK.out.vars, HOK.out.fields, by rw [htn.out]; exact hn12⟩ ((hT.below hb).below hb7) (fun e => by have := hown 0 e; have := tz_pos ((hT.below hb).below hb1); omega) (by rw [hta.out]; exact hS'.below hb1) hb6 hown hcok).mono ?_; rintro e w5 ⟨rfl, hO, m, hLe, hSol5⟩; have hb8 := hb6.trans (hO.to_below hb6.size hown); have hb9 := hb1.trans (hb8.mono hb1.size); replace hSol5 := Lib.hid hSol5; replace hLe := Lib.hid hLe)
    | (go_at_call 38; refine (points_any s t m w5 hSol5.out (by rw [htn.out]; exact hn12) ((hT.below hb).below hb9) (by have := hSol5.out.lenV; omega) (by have := hSol5.out.lenC; omega)).mono ?_; rintro e w6 ⟨a1, a2, q1, q2, rfl, hR, hb10⟩; have hb11 := hb9.trans (hb10.mono hb9.size); have kb6 := kb.out.below (hb8.trans (hb10.mono hb8.size)); have x0 := kb6.cell; have f0 := kb6.frozen; replace kb6 := Lib.hid kb6; replace hR := Lib.hid hR; simp only [ptsV, List.length_map, List.length_range]))
  obtain ⟨r0, r1⟩ := two_set (x0 0) (x0 1) (.slice a1 t.RV.length q1) (.slice a2 t.RC.length q2)
  have e1 := hSol5.out.lenV
  have e2 := hSol5.out.lenC
  have e3 : s.vars.toNat = t.RV.length := by omega
  have e4 : (s.sites * s.fields).toNat = t.RC.length := by omega
  have e5 : s.sites.toNat = t.n := by have := HN.out; have := htn.out; omega
  have hP : ptsOf s t.n m = ⟨(List.range t.RV.length).map fun r => pre (m r) t.n, (List.range t.RC.length).map fun c => pre (m (t.RV.length + c)) t.n⟩ := by unfold ptsOf; rw [e3, e4]
  have zz := (below_box2 hb9).size
  have hz1 : w.heap.size + 1 < w1.heap.size := kb.out.lt
  have hz5 := hb8.size
  have hRR := hR.out ((w6.setCell ⟨w.heap.size + 1, 0, none⟩ (.slice a1 t.RV.length q1)).setCell ⟨w.heap.size + 1, 1, none⟩ (.slice a2 t.RC.length q2)) fun k k1 k2 =>
    (Below.heap_setCell _ ⟨w.heap.size + 1, 1, none⟩ _ k (by simp; omega)).trans (Below.heap_setCell _ ⟨w.heap.size + 1, 0, none⟩ _ k (by simp; omega))
  refine bodyPost_ret (v := .tuple #[.agg #[.slice a1 t.RV.length q1, .slice a2 t.RC.length q2], .int .i64 0]) (by simp [results, Tryd.results14, go_sem, r0, r1]) rfl
    ⟨ptsOf s t.n m, a1, a2, q1, q2, by rw [HE.out, hP, ptsV]; simp, by rw [hP]; exact hRR.1, by rw [hP]; exact hRR.2, ?_, fun h => absurd HE.out h, fun _ => ⟨m, by rw [e5]; exact hLe.out, by rw [e5]⟩⟩
  exact ((below_box2 hb11).setCell (p := ⟨w.heap.size + 1, 0, none⟩) (by simp) _).setCell (p := ⟨w.heap.size + 1, 1, none⟩) (by simp) _

theorem solveP_any (s : Sys) (aS : Option Addr) (cS : Nat) (w : World) (hS : Cons w aS s.cons) (hT : TzMem w) (h12 : s.sites ≤ 12) :
    Calls Tryd.prog 14 #[sysV s aS cS] w (SolvePost s w) := by
  by_cases hE : checkE s = 0
  · exact solveP_ok s aS cS w hS hE hT h12
  · exact solveP_err s aS cS w hS hE
end Go.Proofs.YtcfiohphjlohhaaDoor
