/- Plain mathematics: the two Derives say the same; a closed assignment holds the solution. -/
import Derived.Test.YtcfiohphjlohhaaDoorM4
namespace Go.Proofs.YtcfiohphjlohhaaDoor

/-- two ascending lists with the same members are one -/
theorem asc_eq : ∀ {l m : List Int}, l.Pairwise (· < ·) → m.Pairwise (· < ·) → (∀ x, x ∈ l ↔ x ∈ m) → l = m
  | [], [], _, _, _ => rfl
  | [], b :: m, _, _, h => absurd ((h b).2 List.mem_cons_self) (by simp)
  | a :: l, [], _, _, h => absurd ((h a).1 List.mem_cons_self) (by simp)
  | a :: l, b :: m, h1, h2, h => by
    obtain ⟨a1, a2⟩ := List.pairwise_cons.1 h1
    obtain ⟨b1, b2⟩ := List.pairwise_cons.1 h2
    have hab : a = b := by
      rcases List.mem_cons.1 ((h a).1 List.mem_cons_self) with e | e
      · exact e
      · rcases List.mem_cons.1 ((h b).2 List.mem_cons_self) with e' | e'
        · exact e'.symm
        · have := b1 a e; have := a1 b e'; omega
    subst hab
    have : l = m := asc_eq a2 b2 fun x => by
      constructor
      · intro hx
        rcases List.mem_cons.1 ((h x).1 (List.mem_cons_of_mem _ hx)) with e | e
        · have := a1 x hx; omega
        · exact e
      · intro hx
        rcases List.mem_cons.1 ((h x).2 (List.mem_cons_of_mem _ hx)) with e | e
        · have := b1 x hx; omega
        · exact e
    rw [this]
theorem partB_mem {a b : List Int} (h : partB a b = true) : ∀ x ∈ a, x ∈ b := fun x hx => hasB_iff.1 (List.all_eq_true.1 h x hx)
theorem partB_of {a b : List Int} (h : ∀ x ∈ a, x ∈ b) : partB a b = true := List.all_eq_true.2 fun x hx => hasB_iff.2 (h x hx)
theorem insideB_iff : ∀ {l m : List (List Int)}, insideB l m = true ↔ l.length = m.length ∧ ∀ i : Nat, i < l.length → partB (row l i) (row m i) = true
  | [], [] => by simp [insideB]
  | [], _ :: _ => by simp [insideB]
  | _ :: _, [] => by simp [insideB]
  | a :: l, b :: m => by
    rw [insideB_cons, Bool.and_eq_true, insideB_iff (l := l) (m := m)]
    constructor
    · rintro ⟨h1, h2, h3⟩
      refine ⟨by simp [h2], fun i hi => ?_⟩
      cases i with
      | zero => exact h1
      | succ i => exact h3 i (by simpa using hi)
    · rintro ⟨h1, h2⟩
      exact ⟨h2 0 (by simp), by simpa using h1, fun i hi => h2 (i + 1) (by simpa using hi)⟩
/-- a closed assignment holds the solution -/
theorem closed_facts {s : Sys} {p : Pts} (h : closedB s p = true) : checkE s = 0 ∧ (p.vars.length : Int) = s.vars ∧ (p.cells.length : Int) = s.sites * s.fields ∧ setsB s.sites p.vars = true ∧ setsB s.sites p.cells = true ∧ allHold s p s.cons = true := by
  unfold closedB at h
  by_cases q1 : checkE s ≠ 0
  · rw [if_pos q1] at h; cases h
  rw [if_neg q1] at h
  by_cases q2 : (p.vars.length : Int) ≠ s.vars
  · rw [if_pos q2] at h; cases h
  rw [if_neg q2] at h
  by_cases q3 : (p.cells.length : Int) ≠ s.sites * s.fields
  · rw [if_pos q3] at h; cases h
  rw [if_neg q3] at h
  by_cases q4 : setsB s.sites p.vars = false
  · rw [if_pos q4] at h; cases h
  rw [if_neg q4] at h
  by_cases q5 : setsB s.sites p.cells = false
  · rw [if_pos q5] at h; cases h
  rw [if_neg q5] at h
  exact ⟨by simpa using q1, by simpa using q2, by simpa using q3, by simpa using q4, by simpa using q5, h⟩
theorem closed_holds {s : Sys} {p q : Pts} (h : closedB s p = true) (hq : SolOf s q) : withinB q p = true := by
  obtain ⟨hE, hv, hc, s1, s2, hA⟩ := closed_facts h
  obtain ⟨m, hL, rfl⟩ := hq.2 hE
  have ok := check_ok hE
  have b1 := ok.sites
  have b2 := ok.fields
  have b3 := Int.mul_nonneg b1.1 b2.1
  have bv := ok.vars
  have hs : s.sites = (s.sites.toNat : Nat) := by omega
  have hin : RowsIn s.sites p := ⟨setsB_in s1, setsB_in s2⟩
  have hR := rep_load (n := s.sites.toNat) hin hv
  have hSat : Sat s s.sites.toNat (putLL p.vars.length p.cells (putLL 0 p.vars fun _ _ => false)) := (allHold_iff hR hin hs bv.1 s.cons fun c hc => con_ok (ok.cons c hc)).2 hA
  have hle := hL.least _ hSat
  have hP := rep_pts (s := s) (n := s.sites.toNat) bv.1 b3 m
  have hI := in_pts hs m
  obtain ⟨l1, l2⟩ := pts_lens s s.sites.toNat m
  unfold withinB
  rw [Bool.and_eq_true, insideB_iff, insideB_iff]
  refine ⟨⟨by omega, fun i hi => ?_⟩, by omega, fun i hi => ?_⟩
  · refine (part_iff (n := s.sites.toNat) (hP.v i (by omega)) (hR.v i (by omega)) ?_).1 fun x _ hx => hle i x hx
    rw [← hs]; exact row_in hI.v _
  · refine (part_iff (n := s.sites.toNat) (hP.c i (by omega)) (hR.c i (by omega)) ?_).1 fun x _ hx => hle _ x hx
    rw [← hs]; exact row_in hI.c _
theorem row_asc {n : Int} {ll : List (List Int)} (h : setsB n ll = true) (i : Nat) : (row ll i).Pairwise (· < ·) := by
  unfold row
  rw [List.getD_eq_getElem?_getD, Int.toNat_natCast]
  cases e : ll[i]? with
  | none => exact List.Pairwise.nil
  | some l =>
    rw [setsB_bad] at h
    have h2 : ll.any (badRow n) = false := by simpa using h
    have := List.any_eq_false.1 h2 l (List.mem_of_getElem? e)
    unfold badRow at this
    simp only [Bool.not_eq_true, Bool.or_eq_false_iff, Bool.not_eq_eq_eq_not, Bool.not_false] at this
    exact (asc_iff l).1 this.1
theorem rows_eq {n k : Int} {l m : List (List Int)} (h1 : setsB n l = true) (h2 : setsB k m = true) (a : insideB l m = true) (b : insideB m l = true) : l = m := by
  obtain ⟨e, f⟩ := insideB_iff.1 a
  obtain ⟨_, g⟩ := insideB_iff.1 b
  apply List.ext_getElem e
  intro i hi hj
  have r1 : row l i = l[i] := by unfold row; rw [List.getD_eq_getElem?_getD, Int.toNat_natCast, List.getElem?_eq_getElem hi]; rfl
  have r2 : row m i = m[i] := by unfold row; rw [List.getD_eq_getElem?_getD, Int.toNat_natCast, List.getElem?_eq_getElem hj]; rfl
  rw [← r1, ← r2]
  exact asc_eq (row_asc h1 i) (row_asc h2 i) fun x => ⟨partB_mem (f i hi) x, partB_mem (g i hj) x⟩
theorem derive_eq {s : Sys} {p q : Pts} (hq : SolOf s q) : deriveV s p q = deriveRV s p q := by
  rw [Bool.eq_iff_iff]
  unfold deriveV deriveRV
  simp only [Bool.and_eq_true, decide_eq_true_eq, eqLL_iff]
  constructor
  · rintro ⟨hE, e1, e2⟩
    have : q = p := by cases q; cases p; simp_all
    subst this
    exact ⟨sol_closed hE hq, withinB_refl q⟩
  · rintro ⟨hc, hw⟩
    obtain ⟨hE, hv, hcl, s1, s2, hA⟩ := closed_facts hc
    have hw2 := closed_holds hc hq
    obtain ⟨hE', _, _, t1, t2, _⟩ := closed_facts (sol_closed hE hq)
    unfold withinB at hw hw2
    rw [Bool.and_eq_true] at hw hw2
    exact ⟨hE, rows_eq t1 s1 hw2.1 hw.1, rows_eq t2 s2 hw2.2 hw.2⟩
end Go.Proofs.YtcfiohphjlohhaaDoor
