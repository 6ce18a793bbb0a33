/- andersen.Closed -/
import Derived.Test.YtcfiohphjlohhaaDoorM3
import Derived.Test.YtcfiohphjlohhaaDoorT28
import Derived.Test.YtcfiohphjlohhaaDoorT5
import Derived.Test.YtcfiohphjlohhaaDoorT8
namespace Go.Proofs.YtcfiohphjlohhaaDoor
open Go.RowKit

theorem tz_pos {w : World} (h : TzMem w) : 0 < w.heap.size := World.block_lt_of_cell? _ _ (h 0 0 rfl)
/-- what is left of Closed when its arguments are valid: solver, load, pass -/
theorem closedB_ok {s : Sys} {p : Pts} (q1 : checkE s = 0) (q2 : validB p.vars s.vars s.sites = true) (q3 : validB p.cells (s.sites * s.fields) s.sites = true) : closedB s p = allHold s p s.cons ∧ (p.vars.length : Int) = s.vars ∧ (p.cells.length : Int) = s.sites * s.fields ∧ RowsIn s.sites p := by
  rw [validB_is, Bool.and_eq_true, decide_eq_true_eq] at q2 q3
  refine ⟨?_, q2.1, q3.1, setsB_in q2.2, setsB_in q3.2⟩
  unfold closedB
  rw [if_neg (fun h => h q1), if_neg (fun h => h q2.1), if_neg (fun h => h q3.1), if_neg (by rw [q2.2]; exact Bool.noConfusion), if_neg (by rw [q3.2]; exact Bool.noConfusion)]
theorem closedB_no {s : Sys} {p : Pts} (h : checkE s ≠ 0 ∨ validB p.vars s.vars s.sites = false ∨ validB p.cells (s.sites * s.fields) s.sites = false) : closedB s p = false := by
  unfold closedB
  by_cases q1 : checkE s ≠ 0
  · rw [if_pos q1]
  rw [if_neg q1]
  by_cases q2 : (p.vars.length : Int) ≠ s.vars
  · rw [if_pos q2]
  rw [if_neg q2]
  by_cases q3 : (p.cells.length : Int) ≠ s.sites * s.fields
  · rw [if_pos q3]
  rw [if_neg q3]
  rw [validB_is, validB_is] at h
  rcases h with h | h | h
  · exact absurd h q1
  · have : setsB s.sites p.vars = false := by
      simp only [ne_eq, Decidable.not_not] at q2
      rw [decide_eq_true q2, Bool.true_and] at h; exact h
    rw [if_pos this]
  · have : setsB s.sites p.cells = false := by
      simp only [ne_eq, Decidable.not_not] at q3
      rw [decide_eq_true q3, Bool.true_and] at h; exact h
    by_cases q4 : setsB s.sites p.vars = false
    · rw [if_pos q4]
    · rw [if_neg q4, if_pos this]

set_option maxRecDepth 100000 in
set_option maxHeartbeats 1000000 in
theorem closedP_any (s : Sys) (p : Pts) (aS a1 a2 : Option Addr) (cS c1 c2 : Nat) (w : World) (hS : Cons w aS s.cons) (h1 : Rows2 w a1 p.vars) (h2 : Rows2 w a2 p.cells) (hT : TzMem w) (h12 : s.sites ≤ 12) :
    Calls Tryd.prog 19 #[sysV s aS cS, ptsV p a1 a2 c1 c2] w (BoolAnd (closedB s p) w) := by
  have hb : Below w.heap.size w ((w.alloc (.cells #[.int .i64 s.vars, .int .i64 s.sites, .int .i64 s.fields, .slice aS s.cons.length cS] 24)).alloc (.cells #[.slice a1 p.vars.length c1, .slice a2 p.cells.length c2] 29)) := below_two _ _ _
  have hS' := hS.below hb
  have h1' := h1.below hb
  have h2' := h2.below hb
  have hm := hS.len.le
  have hm1 := h1.len.le
  have hm2 := h2.len.le
  dsimp only [sysV, ptsV]
  by_cases q1 : checkE s = 0
  case neg =>
    have hR : Hid (closedB s p = false) := closedB_no (.inl q1)
    have hq : (checkE s != 0) = true := by simpa using q1
    clear q1
    go_enter Tryd.func19, Tryd.ntmps19
    go_wp2_with (go_at_call 35; refine (check_any s _ _ _ hS').mono ?_; rintro e w1 ⟨rfl, hb1⟩)
    go_ret
    exact BoolAnd.mk hR.out (below_box2 hb1)
  have hok := check_ok q1
  have b1 := hok.sites
  have b2 := hok.fields
  have hp := prod_bd b1.1 b2.1 b1.2 b2.2
  have hwp : IntKind.i64.wrap (s.sites * s.fields) = s.sites * s.fields := IntWalk.i64_in _ (by omega)
  have hq1 : (checkE s != 0) = false := by simpa using q1
  cases q2 : validB p.vars s.vars s.sites
  case false =>
    have hR : Hid (closedB s p = false) := closedB_no (.inr (.inl q2))
    clear q1
    go_enter Tryd.func19, Tryd.ntmps19
    go_wp2_with (first | (go_at_call 35; refine (check_any s _ _ _ hS').mono ?_; rintro e w1 ⟨rfl, hb1⟩; obtain ⟨k1, k2⟩ := box2_keep hb1 (by simp)) | (go_at_call 44; refine (valid_any _ _ _ _ _ _ (h1'.below hb1)).mono ?_; rintro e w2 ⟨rfl, hb2⟩))
    go_ret
    exact BoolAnd.mk hR.out ((below_box2 hb1).trans (hb2.mono (by have := (below_box2 hb1).size; omega)))
  cases q3 : validB p.cells (s.sites * s.fields) s.sites
  case false =>
    have hR : Hid (closedB s p = false) := closedB_no (.inr (.inr q3))
    clear q1
    go_enter Tryd.func19, Tryd.ntmps19
    go_wp2_with (first
      | (go_at_call 35; refine (check_any s _ _ _ hS').mono ?_; rintro e w1 ⟨rfl, hb1⟩; obtain ⟨k1, k2⟩ := box2_keep hb1 (by simp))
      | (go_at_call 44; (with_reducible refine (valid_any a1 c1 p.vars s.vars s.sites w1 (h1'.below hb1)).mono ?_); rintro e w2 ⟨rfl, hb2⟩; have hb3 := hb1.trans (hb2.mono hb1.size); obtain ⟨k3, k4⟩ := box2_keep hb3 (by simp))
      | (go_at_call 44; refine (valid_any a2 c2 p.cells (s.sites * s.fields) s.sites w2 (h2'.below hb3)).mono ?_; rintro e w3 ⟨rfl, hb4⟩))
    go_ret
    exact BoolAnd.mk hR.out ((below_box2 hb3).trans (hb4.mono (by have := (below_box2 hb3).size; omega)))
  obtain ⟨n, hn⟩ : ∃ n : Nat, s.sites = n := ⟨s.sites.toNat, by omega⟩
  obtain ⟨r1, r2, r3, r4⟩ := closedB_ok q1 q2 q3
  have hcok : ∀ c ∈ s.cons, ConOk s c := fun c hc => con_ok (hok.cons c hc)
  have hn12 : n ≤ 12 := by omega
  have HN := Lib.hid hn
  have HR1 := Lib.hid r1
  have HR2 := Lib.hid r2
  have HR3 := Lib.hid r3
  have HOK := Lib.hid hok
  clear q1 r1 r2 r3 hn h12 hok
  go_enter Tryd.func19, Tryd.ntmps19
  go_wp2_with (first
    | (go_at_call 35; refine (check_any s _ _ _ hS').mono ?_; rintro e w1 ⟨rfl, hb1⟩; obtain ⟨k1, k2⟩ := box2_keep hb1 (by simp))
    | (go_at_call 44; (with_reducible refine (valid_any a1 c1 p.vars s.vars s.sites w1 (h1'.below hb1)).mono ?_); rintro e w2 ⟨rfl, hb2⟩; have hb3 := hb1.trans (hb2.mono hb1.size); obtain ⟨k3, k4⟩ := box2_keep hb3 (by simp))
    | (go_at_call 44; refine (valid_any a2 c2 p.cells (s.sites * s.fields) s.sites w2 (h2'.below hb3)).mono ?_; rintro e w3 ⟨rfl, hb4⟩; have hb5 := hb3.trans (hb4.mono hb3.size); obtain ⟨k5, k6⟩ := box2_keep hb5 (by simp))
    | (go_at_call 36; refine (newSolver_any s n aS cS w3 HN.out hn12 HOK.out).mono ?_; rintro e w4 ⟨t, rfl, hSol, hb6, hown, hta, htc, htn, htS⟩; have hb7 := hb5.trans (hb6.mono hb5.size); obtain ⟨k7, k8⟩ := box2_keep hb7 (by simp); replace hSol := Lib.hid hSol; replace hta := Lib.hid hta; replace htc := Lib.hid htc; replace htn := Lib.hid htn)
    | (go_at_call 45; refine (load_any s p t (fun _ _ => false) w3 w4 a1 a2 c1 c2 hSol.out (by rw [htn.out]; exact hn12) (h1'.below hb5) (h2'.below hb5) hb6 hown (by have := hSol.out.lenV; have := HR2.out; omega) (by have := hSol.out.lenC; have := HR3.out; omega) r4.v r4.c).mono ?_; rintro e w5 ⟨rfl, hO, hSol5⟩; replace hSol5 := Lib.hid hSol5)
    | (go_at_call 46; refine (pass_any s t _ w3 w5 hSol5.out ⟨HOK.out.vars, HOK.out.fields, by rw [htn.out]; exact hn12⟩ (((hT.below hb).below hb5).below (hb6.trans (hO.to_below hb6.size hown))) (fun e => by have := hown 0 e; have := tz_pos ((hT.below hb).below hb5); omega) (by rw [hta.out]; exact hS'.below hb5) (hb6.trans (hO.to_below hb6.size hown)) hown hcok).mono ?_; rintro e w6 ⟨rfl, hO6, _⟩))
  go_ret
  have e1 : t.RV.length = p.vars.length := by have := hSol.out.lenV; have := HR2.out; omega
  refine BoolAnd.mk ?_ ?_
  · rw [HR1.out, e1, htn.out]
    exact (pass_is HOK.out (rep_load r4 HR2.out) r4 HN.out hn12 hcok).symm
  · have z := (below_box2 hb5).size
    exact (below_box2 hb5).trans ((hb6.trans ((hO.trans hO6).to_below hb6.size hown)).mono z)
end Go.Proofs.YtcfiohphjlohhaaDoor
