/- Plain mathematics: what a solver returns, and what the laws ask of it. -/
import Derived.Test.YtcfiohphjlohhaaDoorM3
import Derived.Test.YtcfiohphjlohhaaDoorT36
namespace Go.Proofs.YtcfiohphjlohhaaDoor

theorem has_pre {n x : Nat} (f : Nat → Bool) (hx : x < n) : hasB (pre f n) x = f x := by
  rw [Bool.eq_iff_iff, hasB_iff]
  unfold pre
  simp only [List.mem_map, List.mem_filter, List.mem_range]
  constructor
  · rintro ⟨y, ⟨_, hf⟩, e⟩
    have : y = x := Int.ofNat.inj e
    rw [← this]; exact hf
  · intro h; exact ⟨x, ⟨hx, h⟩, rfl⟩
theorem pre_in (f : Nat → Bool) (n : Nat) : ∀ x ∈ pre f n, 0 ≤ x ∧ x < n := by
  intro x hx
  unfold pre at hx
  simp only [List.mem_map, List.mem_filter, List.mem_range] at hx
  obtain ⟨y, ⟨hy, _⟩, rfl⟩ := hx
  constructor
  · exact Int.natCast_nonneg y
  · exact Int.ofNat_lt.2 hy
theorem asc_iff : ∀ l : List Int, ascB l = true ↔ l.Pairwise (· < ·)
  | [] => by simp [ascB]
  | [a] => by simp [ascB]
  | a :: b :: l => by
    rw [ascB_cons2, Bool.and_eq_true, asc_iff (b :: l), decide_eq_true_eq, List.pairwise_cons (a := a)]
    constructor
    · rintro ⟨h1, h2⟩
      refine ⟨fun x hx => ?_, h2⟩
      rcases List.mem_cons.1 hx with rfl | hx
      · exact h1
      · exact Int.lt_trans h1 ((List.pairwise_cons.1 h2).1 x hx)
    · rintro ⟨h1, h2⟩
      exact ⟨h1 b List.mem_cons_self, h2⟩
theorem pre_asc (f : Nat → Bool) (n : Nat) : ascB (pre f n) = true := by
  rw [asc_iff]
  unfold pre
  refine List.Pairwise.map _ (R := fun a b : Nat => a < b) (fun a b h => Int.ofNat_lt.2 h) ?_
  exact List.Pairwise.filter _ List.pairwise_lt_range
theorem good_pre {n : Nat} {k : Int} (hk : k = n) (f : Nat → Bool) : badRow k (pre f n) = false := by
  unfold badRow
  rw [pre_asc]
  simp only [Bool.not_true, Bool.false_or]
  rw [List.any_eq_false]
  intro x hx
  have := (amongB_iff x k).2 (by rw [hk]; exact pre_in f n x hx)
  simp [this]
theorem sets_pre {n : Nat} {k : Int} (hk : k = n) {α : Type} (g : α → Nat → Bool) (l : List α) : setsB k (l.map fun a => pre (g a) n) = true := by
  rw [setsB_bad]
  have : (l.map fun a => pre (g a) n).any (badRow k) = false := by
    rw [List.any_eq_false]
    intro r hr
    obtain ⟨a, _, rfl⟩ := List.mem_map.1 hr
    rw [good_pre hk]; exact Bool.noConfusion
  rw [this]; rfl
theorem row_map {α : Nat → List Int} {N : Nat} {i : Nat} (h : i < N) : row ((List.range N).map α) i = α i := by
  unfold row
  rw [List.getD_eq_getElem?_getD, Int.toNat_natCast, List.getElem?_map, List.getElem?_range h]; rfl
theorem rep_pts {s : Sys} {n : Nat} (hv : 0 ≤ s.vars) (hp : 0 ≤ s.sites * s.fields) (m : Nat → Nat → Bool) : Rep s n (ptsOf s n m) m := by
  refine ⟨fun r hr x hx => ?_, fun c hc x hx => ?_⟩
  · show m r x = hasB (row ((List.range s.vars.toNat).map fun r => pre (m r) n) r) x
    rw [row_map (α := fun r => pre (m r) n) (by omega), has_pre _ hx]
  · show m (s.vars.toNat + c) x = hasB (row ((List.range (s.sites * s.fields).toNat).map fun c => pre (m (s.vars.toNat + c)) n) c) x
    rw [row_map (α := fun c => pre (m (s.vars.toNat + c)) n) (by omega), has_pre _ hx]
theorem in_pts {s : Sys} {n : Nat} (hs : s.sites = n) (m : Nat → Nat → Bool) : RowsIn s.sites (ptsOf s n m) :=
  ⟨setsB_in (sets_pre hs _ _), setsB_in (sets_pre hs _ _)⟩
/-- the solution is closed -/
theorem sol_closed {s : Sys} {p : Pts} (hE : checkE s = 0) (h : SolOf s p) : closedB s p = true := by
  obtain ⟨m, hL, rfl⟩ := h.2 hE
  have ok := check_ok hE
  have b1 := ok.sites
  have b2 := ok.fields
  have b3 := Int.mul_nonneg b1.1 b2.1
  have hs : s.sites = (s.sites.toNat : Nat) := by omega
  obtain ⟨l1, l2⟩ := pts_lens s s.sites.toNat m
  have hv := ok.vars
  unfold closedB
  rw [if_neg (fun h => h hE), if_neg (by rw [l1]; omega), if_neg (by rw [l2]; omega)]
  have e1 : setsB s.sites (ptsOf s s.sites.toNat m).vars = true := sets_pre hs _ _
  have e2 : setsB s.sites (ptsOf s s.sites.toNat m).cells = true := sets_pre hs _ _
  rw [if_neg (by rw [e1]; exact Bool.noConfusion), if_neg (by rw [e2]; exact Bool.noConfusion)]
  exact (allHold_iff (rep_pts hv.1 b3 m) (in_pts hs m) hs hv.1 s.cons fun c hc => con_ok (ok.cons c hc)).1 hL.sat
theorem partB_refl (l : List Int) : partB l l = true := List.all_eq_true.2 fun x hx => hasB_iff.2 hx
theorem insideB_refl : ∀ l : List (List Int), insideB l l = true
  | [] => rfl
  | a :: l => by rw [insideB_cons, partB_refl, insideB_refl l]; rfl
theorem withinB_refl (p : Pts) : withinB p p = true := by unfold withinB; rw [insideB_refl, insideB_refl]; rfl
theorem lensB_refl : ∀ l : List (List Int), lensB l l = true
  | [] => rfl
  | a :: l => by rw [lensB_cons, lensB_refl l, decide_eq_true rfl]; rfl
theorem sameB_refl (p : Pts) : sameB p p = true := by unfold sameB; rw [withinB_refl, lensB_refl, lensB_refl]; rfl
theorem fewRows_pre {n : Nat} (hn : n ≤ 40) {α : Type} (g : α → Nat → Bool) : ∀ l : List α, fewRows (l.map fun a => pre (g a) n) = true
  | [] => rfl
  | a :: l => by
    show (decide ((pre (g a) n).length ≤ 40) && fewRows (l.map fun a => pre (g a) n)) = true
    rw [fewRows_pre hn g l, decide_eq_true (by have := pre_len (g a) n; omega)]; rfl
theorem sol_few {s : Sys} {p : Pts} (h1 : s.vars ≤ 40) (h2 : s.sites ≤ 12) (h3 : s.fields ≤ 5) (h : SolOf s p) : fewB p = true := by
  by_cases hE : checkE s = 0
  · obtain ⟨m, hL, rfl⟩ := h.2 hE
    have ok := check_ok hE
    have b1 := ok.sites
    have b2 := ok.fields
    obtain ⟨l1, l2⟩ := pts_lens s s.sites.toNat m
    have hp : s.sites * s.fields ≤ 12 * 5 := Int.mul_le_mul h2 h3 b2.1 (by omega)
    unfold fewB
    rw [l1, l2, decide_eq_true (by omega), decide_eq_true (by omega)]
    have e1 : fewRows (ptsOf s s.sites.toNat m).vars = true := fewRows_pre (by omega) _ _
    have e2 : fewRows (ptsOf s s.sites.toNat m).cells = true := fewRows_pre (by omega) _ _
    rw [e1, e2]; rfl
  · rw [h.1 hE]; rfl
/-- there is a least solution -/
theorem least_exists {s : Sys} {n : Nat} (ok : SysOk s) (hn : s.sites = n) (hc : ∀ c ∈ s.cons, ConOk s c) : ∃ m, IsLeast s n m := by
  have go : ∀ (k : Nat) (st : St), meas s n st ≤ k → st.2 = true → Sound s n st.1 → ∃ m, IsLeast s n m := by
    intro k
    induction k with
    | zero =>
      intro st h1 h2 _
      have := meas_pass ok hn hc h2
      omega
    | succ k ih =>
      intro st h1 h2 h3
      have hlt := meas_pass ok hn hc h2
      have hs := sound_pass h3 false
      cases e : (passS s n s.cons (st.1, false)).2
      · exact ⟨_, pass_sat ok hn hc e, hs⟩
      · exact ih _ (by omega) e hs
  exact go _ (fun _ _ => false, true) (Nat.le_refl _) rfl (sound_start s n)
theorem sol_exists (s : Sys) : ∃ q, SolOf s q := by
  by_cases hE : checkE s = 0
  · have ok := check_ok hE
    have b1 := ok.sites
    obtain ⟨m, hm⟩ := least_exists (n := s.sites.toNat) ok (by omega) fun c hc => con_ok (ok.cons c hc)
    exact ⟨ptsOf s s.sites.toNat m, fun h => absurd hE h, fun _ => ⟨m, hm, rfl⟩⟩
  · exact ⟨⟨[], []⟩, fun _ => rfl, fun h => absurd h hE⟩
end Go.Proofs.YtcfiohphjlohhaaDoor
