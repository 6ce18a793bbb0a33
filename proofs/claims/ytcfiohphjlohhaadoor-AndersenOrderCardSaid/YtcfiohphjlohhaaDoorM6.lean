/- Plain mathematics of Order and Grows: a part of the constraints. -/
import Derived.Test.YtcfiohphjlohhaaDoorM5
namespace Go.Proofs.YtcfiohphjlohhaaDoor

/-- the system with other constraints -/
abbrev sw (s : Sys) (l : List Con) : Sys := ⟨s.vars, s.sites, s.fields, l⟩
theorem conE_sw (s : Sys) (l : List Con) (c : Con) : conE (sw s l) c = conE s c := rfl
theorem consE_sw (s : Sys) (l : List Con) : ∀ k : List Con, consE (sw s l) k = consE s k
  | [] => rfl
  | c :: k => by rw [consE_cons, consE_cons, consE_sw s l k]; rfl
theorem consE_zero {s : Sys} : ∀ {l : List Con}, (∀ c ∈ l, conE s c = 0) → consE s l = 0
  | [], _ => rfl
  | c :: l, h => by rw [consE_cons, if_pos (h c List.mem_cons_self)]; exact consE_zero fun d hd => h d (List.mem_cons_of_mem _ hd)
theorem check_sw {s : Sys} {l : List Con} (hE : checkE s = 0) (hl : ∀ c ∈ l, c ∈ s.cons) (hn : l.length ≤ 32768) : checkE (sw s l) = 0 := by
  have ok := check_ok hE
  unfold checkE at hE ⊢
  split at hE
  · omega
  rename_i h1
  rw [if_neg h1]
  split at hE
  · omega
  rename_i h2
  rw [if_neg (by show ¬ (65536 < s.vars ∨ 1024 < s.sites ∨ 1024 < s.fields ∨ 65536 < s.sites * s.fields ∨ (32768 : Int) < l.length); omega)]
  show consE (sw s l) l = 0
  rw [consE_sw]
  exact consE_zero fun c hc => ok.cons c (hl c hc)
theorem allHold_iff' (s : Sys) (p : Pts) : ∀ l : List Con, allHold s p l = true ↔ ∀ c ∈ l, allHold s p [c] = true
  | [] => ⟨fun _ c hc => (by cases hc), fun _ => rfl⟩
  | c :: l => by
    rw [allHold_cons, Bool.and_eq_true, allHold_iff' s p l]
    have e : ∀ d, allHold s p [d] = true ↔ holdsB s p d = true := fun d => by rw [allHold_cons]; simp [allHold]
    simp [e]
theorem allHold_sw (s : Sys) (k : List Con) (p : Pts) : ∀ l : List Con, allHold (sw s k) p l = allHold s p l
  | [] => rfl
  | c :: l => by rw [allHold_cons, allHold_cons, allHold_sw s k p l]; rfl
/-- what is closed under all is closed under a part -/
theorem closed_sub {s : Sys} {l : List Con} {p : Pts} (hl : ∀ c ∈ l, c ∈ s.cons) (hn : l.length ≤ 32768) (h : closedB s p = true) : closedB (sw s l) p = true := by
  obtain ⟨hE, h1, h2, h3, h4, h5⟩ := closed_facts h
  unfold closedB
  rw [if_neg (fun h => h (check_sw hE hl hn)), if_neg (fun h => h h1), if_neg (fun h => h h2), if_neg (by show ¬ setsB s.sites p.vars = false; rw [h3]; exact Bool.noConfusion), if_neg (by show ¬ setsB s.sites p.cells = false; rw [h4]; exact Bool.noConfusion)]
  show allHold (sw s l) p l = true
  rw [allHold_sw, allHold_iff']
  exact fun c hc => (allHold_iff' s p s.cons).1 h5 c (hl c hc)
/-- the solution of a part is within that of all -/
theorem sub_within {s : Sys} {l : List Con} {p q : Pts} (hE : checkE s = 0) (hl : ∀ c ∈ l, c ∈ s.cons) (hn : l.length ≤ 32768) (hp : SolOf s p) (hq : SolOf (sw s l) q) : withinB q p = true :=
  closed_holds (closed_sub hl hn (sol_closed hE hp)) hq
theorem sw_within {s : Sys} {l : List Con} {p q : Pts} (hE : checkE s = 0) (hl : ∀ c ∈ l, c ∈ s.cons) (hn : l.length ≤ 32768) (hl' : ∀ c ∈ s.cons, c ∈ l) (hn' : s.cons.length ≤ 32768) (hp : SolOf s p) (hq : SolOf (sw s l) q) : withinB p q = true := by
  have h := closed_sub (s := sw s l) (l := s.cons) hl' hn' (sol_closed (check_sw hE hl hn) hq)
  exact closed_holds (s := s) (by cases s; exact h) hp
end Go.Proofs.YtcfiohphjlohhaaDoor
