/- andersen.Derive -/
import Derived.Test.YtcfiohphjlohhaaDoorT35
import Derived.Test.YtcfiohphjlohhaaDoorT17
namespace Go.Proofs.YtcfiohphjlohhaaDoor
open Go.RowKit

/-- p is what Solve returns -/
def SolOf (s : Sys) (p : Pts) : Prop := (checkE s ≠ 0 → p = ⟨[], []⟩) ∧ (checkE s = 0 → ∃ m, IsLeast s s.sites.toNat m ∧ p = ptsOf s s.sites.toNat m)
theorem SolOf.unique {s : Sys} {p q : Pts} (h : SolOf s p) (k : SolOf s q) : p = q := by
  by_cases e : checkE s = 0
  · obtain ⟨m, h1, rfl⟩ := h.2 e
    obtain ⟨m', h2, rfl⟩ := k.2 e
    rw [h1.unique h2]
  · rw [h.1 e, k.1 e]
theorem SolvePost.sol {s : Sys} {w : World} {e : Ending} {w' : World} (h : SolvePost s w e w') : ∃ (p : Pts) (a1 a2 : Option Addr) (c1 c2 : Nat), e = .returned (.tuple #[ptsV p a1 a2 c1 c2, .int .i64 (checkE s)]) ∧ Rows2 w' a1 p.vars ∧ Rows2 w' a2 p.cells ∧ Below w.heap.size w w' ∧ SolOf s p := by
  obtain ⟨p, a1, a2, c1, c2, h1, h2, h3, h4, h5, h6⟩ := h
  exact ⟨p, a1, a2, c1, c2, h1, h2, h3, h4, h5, h6⟩

/-- what Derive says -/
def deriveV (s : Sys) (p q : Pts) : Bool := decide (checkE s = 0) && (eqLL q.vars p.vars && eqLL q.cells p.cells)
def DerivePost (s : Sys) (p : Pts) (w : World) (e : Ending) (w' : World) : Prop := ∃ q, SolOf s q ∧ BoolAnd (deriveV s p q) w e w'

set_option maxRecDepth 100000 in
set_option maxHeartbeats 1000000 in
theorem deriveP_any (s : Sys) (p : Pts) (aS a1 a2 : Option Addr) (cS c1 c2 : Nat) (w : World) (hS : Cons w aS s.cons) (h1 : Rows2 w a1 p.vars) (h2 : Rows2 w a2 p.cells) (hT : TzMem w) (h12 : s.sites ≤ 12) :
    Calls Tryd.prog 22 #[sysV s aS cS, ptsV p a1 a2 c1 c2] w (DerivePost s p w) := by
  have hb : Below w.heap.size w ((w.alloc (.cells #[.int .i64 s.vars, .int .i64 s.sites, .int .i64 s.fields, .slice aS s.cons.length cS] 24)).alloc (.cells #[.slice a1 p.vars.length c1, .slice a2 p.cells.length c2] 29)) := below_two _ _ _
  have hS' := hS.below hb
  have h1' := h1.below hb
  have h2' := h2.below hb
  have hm := hS.len.le
  have hm1 := h1.len.le
  have hm2 := h2.len.le
  have hmf : ∀ (fn : Fn) (first cap : Array Value) (w : World), (Instr.makeFunc fn first cap).run Tryd.prog w = .ok (.func fn first cap) w := fun _ _ _ _ => rfl
  dsimp only [sysV, ptsV]
  by_cases hE : checkE s = 0
  case neg =>
    have hq : (checkE s == 0) = false := by simpa using hE
    have HE := Lib.hid hE
    clear hE
    go_enter Tryd.func22, Tryd.ntmps22
    go_wp2_with (go_at_call 14; refine (solveP_any s _ _ _ hS' (hT.below hb) h12).mono ?_; rintro e w1 hp; obtain ⟨q, b1, b2, d1, d2, rfl, hr1, hr2, hb1, hsol⟩ := hp.sol; obtain ⟨k1, k2⟩ := box2_keep hb1 (by simp); dsimp only [ptsV])
    go_ret
    have z := (below_box2 hb1).size
    refine ⟨q, hsol, BoolAnd.mk ?_ ((below_box2 hb1).alloc z _)⟩
    unfold deriveV; rw [decide_eq_false HE.out]; rfl
  have hq : (checkE s == 0) = true := by simpa using hE
  have HE := Lib.hid hE
  clear hE
  go_enter Tryd.func22, Tryd.ntmps22
  go_wp2_with (first
    | (go_at_call 14; refine (solveP_any s _ _ _ hS' (hT.below hb) h12).mono ?_; rintro e w1 hp; obtain ⟨q, b1, b2, d1, d2, rfl, hr1, hr2, hb1, hsol⟩ := hp.sol; obtain ⟨k1, k2⟩ := box2_keep hb1 (by simp); have hl1 := hr1.len.le; have hl2 := hr2.len.le; obtain ⟨z0, z1⟩ := size_box2 hb1; have KA : Below w1.heap.size w1 (w1.alloc (.cells #[.slice b1 q.vars.length d1, .slice b2 q.cells.length d2] 29)) := (Below.refl _ _).alloc (Nat.le_refl _) _; clear hp; have hsol := Lib.hid hsol; dsimp only [ptsV])
    | (go_at_call 51; (with_reducible refine (equalFunc_any b1 a1 d1 c1 q.vars p.vars _ (hr1.below KA) ((h1'.below hb1).below KA)).mono ?_); rintro e w2 ⟨rfl, n1, rfl⟩; cases hq1 : eqLL q.vars p.vars)
    | (go_at_call 51; refine (equalFunc_any b2 a2 d2 c2 q.cells p.cells _ ((hr2.below KA).drewN _) (((h2'.below hb1).below KA).drewN _)).mono ?_; rintro e w2 ⟨rfl, n2, rfl⟩))
  all_goals
    go_ret
    have z := (below_box2 hb1).size
    refine ⟨q, hsol, BoolAnd.mk ?_ ?_⟩
  · unfold deriveV; rw [decide_eq_true HE.out, hq1]; rfl
  · exact below_drewN ((below_box2 hb1).alloc z _) _
  · unfold deriveV; rw [decide_eq_true HE.out, hq1]; rfl
  · exact below_drewN ((below_box2 hb1).alloc z _) _

/-- what the reference's Derive says -/
def deriveRV (s : Sys) (p q : Pts) : Bool := closedB s p && withinB p q
def DeriveRPost (s : Sys) (p : Pts) (w : World) (e : Ending) (w' : World) : Prop := ∃ q, SolOf s q ∧ BoolAnd (deriveRV s p q) w e w'

set_option maxRecDepth 100000 in
set_option maxHeartbeats 1000000 in
theorem deriveR_any (s : Sys) (p : Pts) (aS a1 a2 : Option Addr) (cS c1 c2 : Nat) (w : World) (hS : Cons w aS s.cons) (h1 : Rows2 w a1 p.vars) (h2 : Rows2 w a2 p.cells) (hq0 : ∃ q, SolOf s q) :
    Calls Tryd.prog 23 #[sysV s aS cS, ptsV p a1 a2 c1 c2] w (DeriveRPost s p w) := by
  have hb : Below w.heap.size w ((w.alloc (.cells #[.int .i64 s.vars, .int .i64 s.sites, .int .i64 s.fields, .slice aS s.cons.length cS] 24)).alloc (.cells #[.slice a1 p.vars.length c1, .slice a2 p.cells.length c2] 29)) := below_two _ _ _
  have hS' := hS.below hb
  have h1' := h1.below hb
  have h2' := h2.below hb
  have hm := hS.len.le
  have hm1 := h1.len.le
  have hm2 := h2.len.le
  dsimp only [sysV, ptsV]
  cases hc : closedB s p
  · have HC := Lib.hid hc
    clear hc
    go_enter Tryd.func23, Tryd.ntmps23
    go_wp2_with (go_at_call 18; refine (closedR_any s p _ _ _ _ _ _ _ hS' h1' h2').mono ?_; rintro e w1 ⟨rfl, hb1⟩; rw [HC.out])
    go_ret
    obtain ⟨q, hq⟩ := hq0
    exact ⟨q, hq, BoolAnd.mk (by unfold deriveRV; rw [HC.out]; rfl) (below_box2 hb1)⟩
  · have HC := Lib.hid hc
    clear hc
    go_enter Tryd.func23, Tryd.ntmps23
    go_wp2_with (first
      | (go_at_call 18; refine (closedR_any s p _ _ _ _ _ _ _ hS' h1' h2').mono ?_; rintro e w1 ⟨rfl, hb1⟩; rw [HC.out]; obtain ⟨k1, k2⟩ := box2_keep hb1 (by simp))
      | (go_at_call 15; refine (solveR_any s _ _ _ (hS'.below hb1)).mono ?_; rintro e w2 hp; obtain ⟨q, b1, b2, d1, d2, rfl, hr1, hr2, hb2, hsol⟩ := hp.sol; have hb3 := hb1.trans (hb2.mono hb1.size); obtain ⟨k3, k4⟩ := box2_keep hb3 (by simp); have hl1 := hr1.len.le; have hl2 := hr2.len.le; obtain ⟨z0, z1⟩ := size_box2 hb3; have KA : Below w2.heap.size w2 (w2.alloc (.cells #[.slice b1 q.vars.length d1, .slice b2 q.cells.length d2] 29)) := (Below.refl _ _).alloc (Nat.le_refl _) _; clear hp; have hsol := Lib.hid hsol; dsimp only [ptsV])
      | (go_at_call 21; refine (withinR_any p q a1 a2 b1 b2 c1 c2 d1 d2 _ ((h1'.below hb3).below KA) ((h2'.below hb3).below KA) (hr1.below KA) (hr2.below KA)).mono ?_; rintro e w3 ⟨rfl, hb4⟩))
    go_ret
    have z := (below_box2 hb3).size
    have b4 := (below_box2 hb3).alloc z (.cells #[.slice b1 q.vars.length d1, .slice b2 q.cells.length d2] 29)
    exact ⟨q, hsol.out, BoolAnd.mk (by unfold deriveRV; rw [HC.out]; rfl) (b4.trans (hb4.mono b4.size))⟩
end Go.Proofs.YtcfiohphjlohhaaDoor
