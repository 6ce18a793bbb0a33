/- dataflowref18.Closed. -/
import Derived.Test.YtcfiohphjlohhaaDoorT9
namespace Go.Proofs.YtcfiohphjlohhaaDoor
open Go.RowKit

/-- what a valid constraint is -/
structure ConOk (s : Sys) (c : Con) : Prop where
  kind : 1 ≤ c.kind ∧ c.kind ≤ 5
  a : 0 ≤ c.a ∧ c.a < (if c.kind = 1 then s.sites else s.vars)
  b : 0 ≤ c.b ∧ c.b < s.vars
  field : accB c.kind = true → 0 ≤ c.field ∧ c.field < s.fields
  set : ∀ x ∈ c.set, 0 ≤ x ∧ x < s.sites
  asc : ascB c.set = true
  noField : accB c.kind = false → c.field = 0
  noSet : c.kind ≠ 5 → c.set = []
theorem amongB_iff (x n : Int) : amongB x n = true ↔ 0 ≤ x ∧ x < n := by simp [amongB]
theorem con_ok {s : Sys} {c : Con} (h : conE s c = 0) : ConOk s c := by
  by_cases h1 : c.kind < 1 ∨ 5 < c.kind
  · rw [conE_kind h1] at h; omega
  cases h2 : (!amongB c.a (if c.kind = 1 then s.sites else s.vars) || !amongB c.b s.vars || (accB c.kind && !amongB c.field s.fields))
  case true => rw [conE_range h1 h2] at h; omega
  rw [conE_else h1 h2] at h
  by_cases h3 : badSite s.sites c.set = true
  · rw [if_pos h3] at h; omega
  rw [if_neg h3] at h
  cases h4 : (!accB c.kind && decide (c.field ≠ 0) || decide (c.kind ≠ 5) && decide (0 < c.set.length))
  case true => rw [if_pos h4] at h; omega
  rw [if_neg (by rw [h4]; exact Bool.false_ne_true)] at h
  by_cases h5 : ascB c.set = false
  · rw [if_pos h5] at h; omega
  simp only [Bool.or_eq_false_iff, Bool.and_eq_false_iff, Bool.not_eq_false', decide_eq_false_iff_not, Bool.not_eq_true'] at h2 h4
  obtain ⟨⟨ha, hb⟩, hf⟩ := h2
  obtain ⟨h4a, h4b⟩ := h4
  refine ⟨by omega, (amongB_iff _ _).1 ha, (amongB_iff _ _).1 hb, fun e => ?_, fun x hx => ?_, by simpa using h5, fun e => ?_, fun e => ?_⟩
  · rw [e] at hf
    exact (amongB_iff _ _).1 (hf.resolve_left Bool.noConfusion)
  · have h3' : badSite s.sites c.set = false := by simpa using h3
    unfold badSite at h3'
    rw [List.any_eq_false] at h3'
    have := h3' x hx
    rw [← amongB_iff]
    simpa using this
  · rw [e] at h4a
    have := h4a.resolve_left Bool.noConfusion
    omega
  · have := h4b.resolve_left (fun h => h e)
    exact List.length_eq_zero_iff.1 (by omega)
structure SysOk (s : Sys) : Prop where
  vars : 0 ≤ s.vars ∧ s.vars ≤ 65536
  sites : 0 ≤ s.sites ∧ s.sites ≤ 1024
  fields : 0 ≤ s.fields ∧ s.fields ≤ 1024
  prod : s.sites * s.fields ≤ 65536
  cons : ∀ c ∈ s.cons, conE s c = 0
theorem consE_ok {s : Sys} : ∀ {l : List Con}, consE s l = 0 → ∀ c ∈ l, conE s c = 0
  | [], _, _, h => by cases h
  | a :: l, h, c, hc => by
    rw [consE_cons] at h
    split at h
    · rename_i h0
      rcases List.mem_cons.1 hc with rfl | hc
      · exact h0
      · exact consE_ok h c hc
    · rename_i h0; exact absurd h h0
theorem check_ok {s : Sys} (h : checkE s = 0) : SysOk s := by
  unfold checkE at h
  split at h
  · omega
  split at h
  · omega
  exact ⟨by omega, by omega, by omega, by omega, consE_ok h⟩

theorem rowChk_in {n : Int} : ∀ {l : List Int} {q : Option Int}, rowChk n q l = true → ∀ x ∈ l, 0 ≤ x ∧ x < n
  | [], _, _, x, hx => by cases hx
  | a :: l, none, h, x, hx => by
    simp only [rowChk, Bool.and_eq_true] at h
    rcases List.mem_cons.1 hx with rfl | hx
    · exact (amongB_iff _ _).1 h.1
    · exact rowChk_in h.2 x hx
  | a :: l, some q, h, x, hx => by
    simp only [rowChk, Bool.and_eq_true] at h
    rcases List.mem_cons.1 hx with rfl | hx
    · exact (amongB_iff _ _).1 h.1.1
    · exact rowChk_in h.2 x hx
theorem setsB_in {n : Int} : ∀ {l : List (List Int)}, setsB n l = true → ∀ r ∈ l, ∀ x ∈ r, 0 ≤ x ∧ x < n
  | [], _, r, hr => by cases hr
  | a :: l, h, r, hr => by
    rw [setsB_cons, Bool.and_eq_true] at h
    rcases List.mem_cons.1 hr with rfl | hr
    · exact rowChk_in h.1
    · exact setsB_in h.2 r hr

theorem holds_any (s : Sys) (p : Pts) (c : Con) (aS a1 a2 a3 : Option Addr) (cS c1 c2 c3 : Nat) (w : World) (h1 : Rows2 w a1 p.vars) (h2 : Rows2 w a2 p.cells) (h3 : Ints w a3 c.set)
    (F : Fits s p) (hc : ConOk s c) :
    Calls Tryd.prog 43 #[sysV s aS cS, ptsV p a1 a2 c1 c2, conV c a3 c3] w (BoolAnd (holdsB s p c) w) := by
  obtain ⟨kind, a, b, f, set⟩ := c
  obtain ⟨hk, ha, hb, hf, _, _, _, _⟩ := hc
  dsimp only at hk ha hb hf h3
  have fv := F.vars
  by_cases e1 : kind = 1
  · subst e1
    exact holds_1 s p a b f set _ _ _ _ _ _ _ _ _ h1 h2 h3 F hb.1 (by omega)
  rw [if_neg e1] at ha
  by_cases e2 : kind = 2
  · subst e2
    exact holds_2 s p a b f set _ _ _ _ _ _ _ _ _ h1 h2 h3 F ha.1 (by omega) hb.1 (by omega)
  by_cases e5 : kind = 5
  · subst e5
    exact holds_5 s p a b f set _ _ _ _ _ _ _ _ _ h1 h2 h3 F ha.1 (by omega) hb.1 (by omega)
  by_cases e3 : kind = 3
  · subst e3
    have := hf rfl
    exact holds_3 s p a b f set _ _ _ _ _ _ _ _ _ h1 h2 h3 F ha.1 (by omega) this.1 this.2 hb.1 (by omega)
  have e4 : kind = 4 := by omega
  subst e4
  have := hf rfl
  exact holds_4 s p a b f set _ _ _ _ _ _ _ _ _ h1 h2 h3 F ha.1 (by omega) this.1 this.2 hb.1 (by omega)

def allHold (s : Sys) (p : Pts) : List Con → Bool
  | [] => true
  | c :: l => holdsB s p c && allHold s p l
theorem allHold_cons (s : Sys) (p : Pts) (c : Con) (l : List Con) : allHold s p (c :: l) = (holdsB s p c && allHold s p l) := rfl
/-- closed: as the reference asks it -/
def closedB (s : Sys) (p : Pts) : Bool :=
  if checkE s ≠ 0 then false else if (p.vars.length : Int) ≠ s.vars then false else if (p.cells.length : Int) ≠ s.sites * s.fields then false
  else if setsB s.sites p.vars = false then false else if setsB s.sites p.cells = false then false else allHold s p s.cons

set_option maxRecDepth 100000 in
set_option maxHeartbeats 1000000 in
theorem closedR_any (s : Sys) (p : Pts) (aS a1 a2 : Option Addr) (cS c1 c2 : Nat) (w : World) (hS : Cons w aS s.cons) (h1 : Rows2 w a1 p.vars) (h2 : Rows2 w a2 p.cells) :
    Calls Tryd.prog 18 #[sysV s aS cS, ptsV p a1 a2 c1 c2] w (BoolAnd (closedB s p) w) := by
  have hb : Below w.heap.size w ((w.alloc (.cells #[.int .i64 s.vars, .int .i64 s.sites, .int .i64 s.fields, .slice aS s.cons.length cS] 24)).alloc (.cells #[.slice a1 p.vars.length c1, .slice a2 p.cells.length c2] 29)) := below_two _ _ _
  have hS' := hS.below hb
  have h1' := h1.below hb
  have h2' := h2.below hb
  have hm := hS.len.le
  dsimp only [sysV, ptsV]
  by_cases q1 : checkE s = 0
  case neg =>
    have hR : Hid (closedB s p = false) := by unfold Hid closedB; rw [if_pos q1]
    have hq : (checkE s != 0) = true := by simpa using q1
    clear q1
    go_enter Tryd.func18, Tryd.ntmps18
    go_wp2_with (go_at_call 39; refine (checkR_any s _ _ _ hS').mono ?_; rintro e w1 ⟨rfl, hb1⟩)
    go_ret
    exact BoolAnd.mk hR.out (below_box2 hb1)
  have hok := check_ok q1
  have hR1 : Hid (closedB s p = if (p.vars.length : Int) ≠ s.vars then false else if (p.cells.length : Int) ≠ s.sites * s.fields then false
    else if setsB s.sites p.vars = false then false else if setsB s.sites p.cells = false then false else allHold s p s.cons) := by unfold Hid closedB; rw [if_neg (by rw [q1]; decide)]
  have b1 := hok.sites
  have b2 := hok.fields
  have hp := prod_bd b1.1 b2.1 b1.2 b2.2
  by_cases q2 : (p.vars.length : Int) = s.vars
  case neg =>
    have hR : Hid (closedB s p = false) := by unfold Hid; rw [hR1.out, if_pos q2]
    have hq : ((p.vars.length : Int) != s.vars) = true := by simpa using q2
    clear q2
    go_enter Tryd.func18, Tryd.ntmps18
    go_wp2_with (go_at_call 39; refine (checkR_any s _ _ _ hS').mono ?_; rintro e w1 ⟨rfl, hb1⟩; obtain ⟨k1, k2⟩ := box2_keep hb1 (by simp))
    go_ret
    exact BoolAnd.mk hR.out (below_box2 hb1)
  by_cases q3 : (p.cells.length : Int) = s.sites * s.fields
  case neg =>
    have hR : Hid (closedB s p = false) := by unfold Hid; rw [hR1.out, if_neg (fun h => h q2), if_pos q3]
    have hq : ((p.vars.length : Int) != s.vars) = false := by simpa using q2
    have hq2 : ((p.cells.length : Int) != s.sites * s.fields) = true := by simpa using q3
    clear q2 q3
    go_enter Tryd.func18, Tryd.ntmps18
    go_wp2_with (go_at_call 39; refine (checkR_any s _ _ _ hS').mono ?_; rintro e w1 ⟨rfl, hb1⟩; obtain ⟨k1, k2⟩ := box2_keep hb1 (by simp))
    go_ret
    exact BoolAnd.mk hR.out (below_box2 hb1)
  have hq2 : ((p.vars.length : Int) != s.vars) = false := by simpa using q2
  have hq3 : ((p.cells.length : Int) != s.sites * s.fields) = false := by simpa using q3
  have hR3 : Hid (closedB s p = if setsB s.sites p.vars = false then false else if setsB s.sites p.cells = false then false else allHold s p s.cons) := by
    unfold Hid; rw [hR1.out, if_neg (fun h => h q2), if_neg (fun h => h q3)]
  cases q4 : setsB s.sites p.vars
  case false =>
    have hR : Hid (closedB s p = false) := by unfold Hid; rw [hR3.out, if_pos q4]
    clear q2 q3
    go_enter Tryd.func18, Tryd.ntmps18
    go_wp2_with (first | (go_at_call 39; refine (checkR_any s _ _ _ hS').mono ?_; rintro e w1 ⟨rfl, hb1⟩; obtain ⟨k1, k2⟩ := box2_keep hb1 (by simp)) | (go_at_call 42; refine (sets_any _ _ _ _ _ (h1'.below hb1)).mono ?_; rintro e w' ⟨rfl, n, rfl⟩))
    go_ret
    exact BoolAnd.mk hR.out (below_drewN (below_box2 hb1) _)
  cases q5 : setsB s.sites p.cells
  case false =>
    have hR : Hid (closedB s p = false) := by unfold Hid; rw [hR3.out, if_neg (by rw [q4]; exact Bool.noConfusion), if_pos q5]
    clear q2 q3
    go_enter Tryd.func18, Tryd.ntmps18
    go_wp2_with (first | (go_at_call 39; refine (checkR_any s _ _ _ hS').mono ?_; rintro e w1 ⟨rfl, hb1⟩; obtain ⟨k1, k2⟩ := box2_keep hb1 (by simp)) | (go_at_call 42; (with_reducible refine (sets_any _ _ _ p.vars _ (h1'.below hb1)).mono ?_); rintro e w' ⟨rfl, n, rfl⟩) | (go_at_call 42; refine (sets_any _ _ _ p.cells _ ((h2'.below hb1).drewN _)).mono ?_; rintro e w' ⟨rfl, n2, rfl⟩))
    go_ret
    exact BoolAnd.mk hR.out (below_drewN (below_box2 hb1) _)
  have hR : Hid (closedB s p = allHold s p s.cons) := by unfold Hid; rw [hR3.out, if_neg (by rw [q4]; exact Bool.noConfusion), if_neg (by rw [q5]; exact Bool.noConfusion)]
  have F : Fits s p := ⟨q2, q3, setsB_in q4, hok.sites, hok.fields⟩
  clear q2 q3 hR1 hR3
  go_enter Tryd.func18, Tryd.ntmps18
  go_wp2_with (first | (go_at_call 39; refine (checkR_any s _ _ _ hS').mono ?_; rintro e w1 ⟨rfl, hb1⟩; obtain ⟨k1, k2⟩ := box2_keep hb1 (by simp)) | (go_at_call 42; (with_reducible refine (sets_any _ _ _ p.vars _ (h1'.below hb1)).mono ?_); rintro e w' ⟨rfl, n, rfl⟩) | (go_at_call 42; refine (sets_any _ _ _ p.cells _ ((h2'.below hb1).drewN _)).mono ?_; rintro e w' ⟨rfl, n2, rfl⟩))
  have H1 := h1'.below hb1
  have H2 := h2'.below hb1
  have HS := hS'.below hb1
  have HB := below_box2 hb1
  have hsz : w.heap.size + 2 ≤ w1.heap.size := by have := hb1.size; simp at this; omega
  clear hb1 h1' h2' hS' hb h1 h2 hS
  go_loopg [5] s.cons.length (fun g i wr => Below w1.heap.size w1 wr ∧ ∃ k : Nat, k ≤ s.cons.length ∧ g = s.cons.length - k ∧ i = .int .i64 k ∧ Hid (allHold s p s.cons = allHold s p (s.cons.drop k)))
  case atStart => exact ⟨below_drewN (Below.refl _ _) _, 0, Nat.zero_le _, rfl, rfl, rfl⟩
  case round =>
    obtain ⟨hbw, k, hk, rfl, rfl, hn⟩ := hrel
    have HR := HB.trans (hbw.mono HB.size)
    have G1 := H1.below hbw
    have G2 := H2.below hbw
    have GS := HS.below hbw
    have j1 : ∀ j, wr.cell? ⟨w.heap.size, j, none⟩ = #[.int .i64 s.vars, .int .i64 s.sites, .int .i64 s.fields, .slice aS s.cons.length cS][j]? := fun j => (hbw.cell (p := ⟨w.heap.size, j, none⟩) (by show w.heap.size < _; omega)).trans (k1 j)
    have j2 : ∀ j, wr.cell? ⟨w.heap.size + 1, j, none⟩ = #[.slice a1 p.vars.length c1, .slice a2 p.cells.length c2][j]? := fun j => (hbw.cell (p := ⟨w.heap.size + 1, j, none⟩) (by show w.heap.size + 1 < _; omega)).trans (k2 j)
    clear k1 k2 H1 H2 HS
    by_cases hlt : k < s.cons.length
    · obtain ⟨b, o, a', c', rfl, e0, e1, e2, e3, e4, hi⟩ := GS.at_ k s.cons[k] (get_at hlt)
      have hco := con_ok (hok.cons _ (List.getElem_mem hlt))
      cases hq : holdsB s p s.cons[k]
      · have hE : Hid (allHold s p s.cons = false) := by unfold Hid; rw [hn.out, drop_at hlt, allHold_cons, hq]; rfl
        go_wp2
        go_still_tail 7, (by kernel_rfl)
        change wpList _ _ _ _ _ wr.drew
        go_wp2_with (go_at_call 43; refine (holds_any s p s.cons[k] _ _ _ _ _ _ _ _ _ G1.drew G2.drew hi.drew F hco).mono ?_; rintro e w2 ⟨rfl, hb2⟩)
        go_ret
        exact BoolAnd.mk (by rw [hR.out, hE.out]) (HR.trans ((below_un_drew hb2).mono HR.size))
      · have hE : Hid (allHold s p s.cons = allHold s p (s.cons.drop (k + 1))) := by unfold Hid; rw [hn.out, drop_at hlt, allHold_cons, hq]; rfl
        go_wp2
        go_still_tail 7, (by kernel_rfl)
        change wpList _ _ _ _ _ wr.drew
        go_wp2_with (go_at_call 43; refine (holds_any s p s.cons[k] _ _ _ _ _ _ _ _ _ G1.drew G2.drew hi.drew F hco).mono ?_; rintro e w2 ⟨rfl, hb2⟩)
        go_roundg (s.cons.length - (k + 1))
        case measure => omega
        case rel => exact ⟨hbw.trans ((below_un_drew hb2).mono hbw.size), k + 1, by omega, rfl, by go_num, hE⟩
    · go_wp2
      go_ret
      exact BoolAnd.mk (by rw [hR.out, hn.out, drop_end hlt]; rfl) HR
end Go.Proofs.YtcfiohphjlohhaaDoor
