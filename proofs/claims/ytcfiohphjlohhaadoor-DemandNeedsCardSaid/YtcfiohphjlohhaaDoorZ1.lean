/- Z1: M5 M6 M7 T43 in one text (merge.py) -/
import Derived.Test.YtcfiohphjlohhaaDoorM4
import Derived.Laws.EntriesVeiled
/- Plain mathematics: the two Derives say the same; a closed assignment holds the solution. -/
namespace Go.Proofs.YtcfiohphjlohhaaDoor

/-- two ascending lists with the same members are one -/
theorem asc_eq : ∀ {l m : List Int}, l.Pairwise (· < ·) → m.Pairwise (· < ·) → (∀ x, x ∈ l ↔ x ∈ m) → l = m
  | [], [], _, _, _ => rfl
  | [], b :: m, _, _, h => absurd ((h b).2 List.mem_cons_self) (by simp)
  | a :: l, [], _, _, h => absurd ((h a).1 List.mem_cons_self) (by simp)
  | a :: l, b :: m, h1, h2, h => by
    obtain ⟨a1, a2⟩ := List.pairwise_cons.1 h1
    obtain ⟨b1, b2⟩ := List.pairwise_cons.1 h2
    have hab : a = b := by
      rcases List.mem_cons.1 ((h a).1 List.mem_cons_self) with e | e
      · exact e
      · rcases List.mem_cons.1 ((h b).2 List.mem_cons_self) with e' | e'
        · exact e'.symm
        · have := b1 a e; have := a1 b e'; omega
    subst hab
    have : l = m := asc_eq a2 b2 fun x => by
      constructor
      · intro hx
        rcases List.mem_cons.1 ((h x).1 (List.mem_cons_of_mem _ hx)) with e | e
        · have := a1 x hx; omega
        · exact e
      · intro hx
        rcases List.mem_cons.1 ((h x).2 (List.mem_cons_of_mem _ hx)) with e | e
        · have := b1 x hx; omega
        · exact e
    rw [this]
theorem partB_mem {a b : List Int} (h : partB a b = true) : ∀ x ∈ a, x ∈ b := fun x hx => hasB_iff.1 (List.all_eq_true.1 h x hx)
theorem partB_of {a b : List Int} (h : ∀ x ∈ a, x ∈ b) : partB a b = true := List.all_eq_true.2 fun x hx => hasB_iff.2 (h x hx)
theorem insideB_iff : ∀ {l m : List (List Int)}, insideB l m = true ↔ l.length = m.length ∧ ∀ i : Nat, i < l.length → partB (row l i) (row m i) = true
  | [], [] => by simp [insideB]
  | [], _ :: _ => by simp [insideB]
  | _ :: _, [] => by simp [insideB]
  | a :: l, b :: m => by
    rw [insideB_cons, Bool.and_eq_true, insideB_iff (l := l) (m := m)]
    constructor
    · rintro ⟨h1, h2, h3⟩
      refine ⟨by simp [h2], fun i hi => ?_⟩
      cases i with
      | zero => exact h1
      | succ i => exact h3 i (by simpa using hi)
    · rintro ⟨h1, h2⟩
      exact ⟨h2 0 (by simp), by simpa using h1, fun i hi => h2 (i + 1) (by simpa using hi)⟩
/-- a closed assignment holds the solution -/
theorem closed_facts {s : Sys} {p : Pts} (h : closedB s p = true) : checkE s = 0 ∧ (p.vars.length : Int) = s.vars ∧ (p.cells.length : Int) = s.sites * s.fields ∧ setsB s.sites p.vars = true ∧ setsB s.sites p.cells = true ∧ allHold s p s.cons = true := by
  unfold closedB at h
  by_cases q1 : checkE s ≠ 0
  · rw [if_pos q1] at h; cases h
  rw [if_neg q1] at h
  by_cases q2 : (p.vars.length : Int) ≠ s.vars
  · rw [if_pos q2] at h; cases h
  rw [if_neg q2] at h
  by_cases q3 : (p.cells.length : Int) ≠ s.sites * s.fields
  · rw [if_pos q3] at h; cases h
  rw [if_neg q3] at h
  by_cases q4 : setsB s.sites p.vars = false
  · rw [if_pos q4] at h; cases h
  rw [if_neg q4] at h
  by_cases q5 : setsB s.sites p.cells = false
  · rw [if_pos q5] at h; cases h
  rw [if_neg q5] at h
  exact ⟨by simpa using q1, by simpa using q2, by simpa using q3, by simpa using q4, by simpa using q5, h⟩
theorem closed_holds {s : Sys} {p q : Pts} (h : closedB s p = true) (hq : SolOf s q) : withinB q p = true := by
  obtain ⟨hE, hv, hc, s1, s2, hA⟩ := closed_facts h
  obtain ⟨m, hL, rfl⟩ := hq.2 hE
  have ok := check_ok hE
  have b1 := ok.sites
  have b2 := ok.fields
  have b3 := Int.mul_nonneg b1.1 b2.1
  have bv := ok.vars
  have hs : s.sites = (s.sites.toNat : Nat) := by omega
  have hin : RowsIn s.sites p := ⟨setsB_in s1, setsB_in s2⟩
  have hR := rep_load (n := s.sites.toNat) hin hv
  have hSat : Sat s s.sites.toNat (putLL p.vars.length p.cells (putLL 0 p.vars fun _ _ => false)) := (allHold_iff hR hin hs bv.1 s.cons fun c hc => con_ok (ok.cons c hc)).2 hA
  have hle := hL.least _ hSat
  have hP := rep_pts (s := s) (n := s.sites.toNat) bv.1 b3 m
  have hI := in_pts hs m
  obtain ⟨l1, l2⟩ := pts_lens s s.sites.toNat m
  unfold withinB
  rw [Bool.and_eq_true, insideB_iff, insideB_iff]
  refine ⟨⟨by omega, fun i hi => ?_⟩, by omega, fun i hi => ?_⟩
  · refine (part_iff (n := s.sites.toNat) (hP.v i (by omega)) (hR.v i (by omega)) ?_).1 fun x _ hx => hle i x hx
    rw [← hs]; exact row_in hI.v _
  · refine (part_iff (n := s.sites.toNat) (hP.c i (by omega)) (hR.c i (by omega)) ?_).1 fun x _ hx => hle _ x hx
    rw [← hs]; exact row_in hI.c _
theorem row_asc {n : Int} {ll : List (List Int)} (h : setsB n ll = true) (i : Nat) : (row ll i).Pairwise (· < ·) := by
  unfold row
  rw [List.getD_eq_getElem?_getD, Int.toNat_natCast]
  cases e : ll[i]? with
  | none => exact List.Pairwise.nil
  | some l =>
    rw [setsB_bad] at h
    have h2 : ll.any (badRow n) = false := by simpa using h
    have := List.any_eq_false.1 h2 l (List.mem_of_getElem? e)
    unfold badRow at this
    simp only [Bool.not_eq_true, Bool.or_eq_false_iff, Bool.not_eq_eq_eq_not, Bool.not_false] at this
    exact (asc_iff l).1 this.1
theorem rows_eq {n k : Int} {l m : List (List Int)} (h1 : setsB n l = true) (h2 : setsB k m = true) (a : insideB l m = true) (b : insideB m l = true) : l = m := by
  obtain ⟨e, f⟩ := insideB_iff.1 a
  obtain ⟨_, g⟩ := insideB_iff.1 b
  apply List.ext_getElem e
  intro i hi hj
  have r1 : row l i = l[i] := by unfold row; rw [List.getD_eq_getElem?_getD, Int.toNat_natCast, List.getElem?_eq_getElem hi]; rfl
  have r2 : row m i = m[i] := by unfold row; rw [List.getD_eq_getElem?_getD, Int.toNat_natCast, List.getElem?_eq_getElem hj]; rfl
  rw [← r1, ← r2]
  exact asc_eq (row_asc h1 i) (row_asc h2 i) fun x => ⟨partB_mem (f i hi) x, partB_mem (g i hj) x⟩
theorem derive_eq {s : Sys} {p q : Pts} (hq : SolOf s q) : deriveV s p q = deriveRV s p q := by
  rw [Bool.eq_iff_iff]
  unfold deriveV deriveRV
  simp only [Bool.and_eq_true, decide_eq_true_eq, eqLL_iff]
  constructor
  · rintro ⟨hE, e1, e2⟩
    have : q = p := by cases q; cases p; simp_all
    subst this
    exact ⟨sol_closed hE hq, withinB_refl q⟩
  · rintro ⟨hc, hw⟩
    obtain ⟨hE, hv, hcl, s1, s2, hA⟩ := closed_facts hc
    have hw2 := closed_holds hc hq
    obtain ⟨hE', _, _, t1, t2, _⟩ := closed_facts (sol_closed hE hq)
    unfold withinB at hw hw2
    rw [Bool.and_eq_true] at hw hw2
    exact ⟨hE, rows_eq t1 s1 hw2.1 hw.1, rows_eq t2 s2 hw2.2 hw.2⟩
end Go.Proofs.YtcfiohphjlohhaaDoor

/- Plain mathematics of Order and Grows: a part of the constraints. -/
namespace Go.Proofs.YtcfiohphjlohhaaDoor

/-- the system with other constraints -/
abbrev sw (s : Sys) (l : List Con) : Sys := ⟨s.vars, s.sites, s.fields, l⟩
theorem conE_sw (s : Sys) (l : List Con) (c : Con) : conE (sw s l) c = conE s c := rfl
theorem consE_sw (s : Sys) (l : List Con) : ∀ k : List Con, consE (sw s l) k = consE s k
  | [] => rfl
  | c :: k => by rw [consE_cons, consE_cons, consE_sw s l k]; rfl
theorem consE_zero {s : Sys} : ∀ {l : List Con}, (∀ c ∈ l, conE s c = 0) → consE s l = 0
  | [], _ => rfl
  | c :: l, h => by rw [consE_cons, if_pos (h c List.mem_cons_self)]; exact consE_zero fun d hd => h d (List.mem_cons_of_mem _ hd)
theorem check_sw {s : Sys} {l : List Con} (hE : checkE s = 0) (hl : ∀ c ∈ l, c ∈ s.cons) (hn : l.length ≤ 32768) : checkE (sw s l) = 0 := by
  have ok := check_ok hE
  unfold checkE at hE ⊢
  split at hE
  · omega
  rename_i h1
  rw [if_neg h1]
  split at hE
  · omega
  rename_i h2
  rw [if_neg (by show ¬ (65536 < s.vars ∨ 1024 < s.sites ∨ 1024 < s.fields ∨ 65536 < s.sites * s.fields ∨ (32768 : Int) < l.length); omega)]
  show consE (sw s l) l = 0
  rw [consE_sw]
  exact consE_zero fun c hc => ok.cons c (hl c hc)
theorem allHold_iff' (s : Sys) (p : Pts) : ∀ l : List Con, allHold s p l = true ↔ ∀ c ∈ l, allHold s p [c] = true
  | [] => ⟨fun _ c hc => (by cases hc), fun _ => rfl⟩
  | c :: l => by
    rw [allHold_cons, Bool.and_eq_true, allHold_iff' s p l]
    have e : ∀ d, allHold s p [d] = true ↔ holdsB s p d = true := fun d => by rw [allHold_cons]; simp [allHold]
    simp [e]
theorem allHold_sw (s : Sys) (k : List Con) (p : Pts) : ∀ l : List Con, allHold (sw s k) p l = allHold s p l
  | [] => rfl
  | c :: l => by rw [allHold_cons, allHold_cons, allHold_sw s k p l]; rfl
/-- what is closed under all is closed under a part -/
theorem closed_sub {s : Sys} {l : List Con} {p : Pts} (hl : ∀ c ∈ l, c ∈ s.cons) (hn : l.length ≤ 32768) (h : closedB s p = true) : closedB (sw s l) p = true := by
  obtain ⟨hE, h1, h2, h3, h4, h5⟩ := closed_facts h
  unfold closedB
  rw [if_neg (fun h => h (check_sw hE hl hn)), if_neg (fun h => h h1), if_neg (fun h => h h2), if_neg (by show ¬ setsB s.sites p.vars = false; rw [h3]; exact Bool.noConfusion), if_neg (by show ¬ setsB s.sites p.cells = false; rw [h4]; exact Bool.noConfusion)]
  show allHold (sw s l) p l = true
  rw [allHold_sw, allHold_iff']
  exact fun c hc => (allHold_iff' s p s.cons).1 h5 c (hl c hc)
/-- the solution of a part is within that of all -/
theorem sub_within {s : Sys} {l : List Con} {p q : Pts} (hE : checkE s = 0) (hl : ∀ c ∈ l, c ∈ s.cons) (hn : l.length ≤ 32768) (hp : SolOf s p) (hq : SolOf (sw s l) q) : withinB q p = true :=
  closed_holds (closed_sub hl hn (sol_closed hE hp)) hq
theorem sw_within {s : Sys} {l : List Con} {p q : Pts} (hE : checkE s = 0) (hl : ∀ c ∈ l, c ∈ s.cons) (hn : l.length ≤ 32768) (hl' : ∀ c ∈ s.cons, c ∈ l) (hn' : s.cons.length ≤ 32768) (hp : SolOf s p) (hq : SolOf (sw s l) q) : withinB p q = true := by
  have h := closed_sub (s := sw s l) (l := s.cons) hl' hn' (sol_closed (check_sw hE hl hn) hq)
  exact closed_holds (s := s) (by cases s; exact h) hp
end Go.Proofs.YtcfiohphjlohhaaDoor

/- Plain mathematics of the demand queries: what a query visits, and why the slice suffices. -/
namespace Go.Proofs.YtcfiohphjlohhaaDoor

/-- the variables that a query at v visits -/
inductive Vis (s : Sys) (v : Int) : Int → Prop
  | start : Vis s v v
  | arg {c : Con} : c ∈ s.cons → c.kind ≠ 1 → c.kind ≠ 4 → Vis s v c.b → Vis s v c.a
  | sa {c k : Con} : c ∈ s.cons → c.kind = 3 → Vis s v c.b → k ∈ s.cons → k.kind = 4 → k.field = c.field → Vis s v k.a
  | sb {c k : Con} : c ∈ s.cons → c.kind = 3 → Vis s v c.b → k ∈ s.cons → k.kind = 4 → k.field = c.field → Vis s v k.b
theorem Vis.trans {s : Sys} {u v w : Int} (h : Vis s u v) (k : Vis s v w) : Vis s u w := by
  induction k with
  | start => exact h
  | arg hc h1 h4 _ ih => exact .arg hc h1 h4 ih
  | sa hc h3 _ hk h4 hf ih => exact .sa hc h3 ih hk h4 hf
  | sb hc h3 _ hk h4 hf ih => exact .sb hc h3 ih hk h4 hf
/-- the fields that a query loads -/
def LoadsF (s : Sys) (v f : Int) : Prop := ∃ c ∈ s.cons, c.kind = 3 ∧ Vis s v c.b ∧ c.field = f
/-- a set of variables with v that is closed under what a query needs -/
structure Shut (s : Sys) (v : Int) (m : Int → Prop) : Prop where
  start : m v
  arg : ∀ c ∈ s.cons, c.kind ≠ 1 → c.kind ≠ 4 → m c.b → m c.a
  st : ∀ c ∈ s.cons, c.kind = 3 → m c.b → ∀ k ∈ s.cons, k.kind = 4 → k.field = c.field → m k.a ∧ m k.b
theorem Shut.all {s : Sys} {v : Int} {m : Int → Prop} (h : Shut s v m) : ∀ i, Vis s v i → m i := by
  intro i hi
  induction hi with
  | start => exact h.start
  | arg hc h1 h4 _ ih => exact h.arg _ hc h1 h4 ih
  | sa hc h3 _ hk h4 hf ih => exact (h.st _ hc h3 ih _ hk h4 hf).1
  | sb hc h3 _ hk h4 hf ih => exact (h.st _ hc h3 ih _ hk h4 hf).2
open Classical in
noncomputable def vis (s : Sys) (v : Int) : Nat → Bool := fun i => decide (Vis s v (i : Int))
theorem vis_iff {s : Sys} {v : Int} {i : Nat} : vis s v i = true ↔ Vis s v (i : Int) := by unfold vis; simp
theorem vis_iff' {s : Sys} {v i : Int} (h : 0 ≤ i) : vis s v i.toNat = true ↔ Vis s v i := by rw [vis_iff, Int.toNat_of_nonneg h]
open Classical in
noncomputable def loadsV (s : Sys) (v : Int) : Int → Bool := fun f => decide (LoadsF s v f)
theorem loadsV_iff {s : Sys} {v f : Int} : loadsV s v f = true ↔ LoadsF s v f := by unfold loadsV; simp
/-- what a slice keeps -/
noncomputable def keepB (s : Sys) (v : Int) (c : Con) : Bool := if c.kind = 4 then loadsV s v c.field else vis s v c.b.toNat
/-- the slice -/
noncomputable def sliceS (s : Sys) (v : Int) : Sys := sw s (s.cons.filter (keepB s v))
/-- what Needs lists -/
noncomputable def needsL (s : Sys) (v : Int) : List Int := pre (vis s v) s.vars.toNat
/-- the error of a system and a variable -/
def rightE (s : Sys) (v : Int) : Int := if checkE s ≠ 0 then checkE s else if v < 0 ∨ s.vars ≤ v then 4 else 0
theorem rightE_ok {s : Sys} {v : Int} (h : rightE s v = 0) : checkE s = 0 ∧ 0 ≤ v ∧ v < s.vars := by
  unfold rightE at h
  by_cases h1 : checkE s = 0
  · rw [if_neg (fun e => e h1)] at h
    by_cases h2 : v < 0 ∨ s.vars ≤ v
    · rw [if_pos h2] at h; cases h
    · exact ⟨h1, by omega, by omega⟩
  · rw [if_pos h1] at h; exact absurd h h1
theorem vis_in {s : Sys} {v : Int} (h : rightE s v = 0) {i : Int} (hi : Vis s v i) : 0 ≤ i ∧ i < s.vars := by
  obtain ⟨hE, h0, h1⟩ := rightE_ok h
  have ok := check_ok hE
  refine (Shut.all (m := fun i => 0 ≤ i ∧ i < s.vars) ⟨⟨h0, h1⟩, fun c hc k1 k4 _ => ?_, fun c _ _ _ k hk k4 _ => ?_⟩) i hi
  · have := (con_ok (ok.cons c hc)).a
    rw [if_neg k1] at this; exact this
  · have co := con_ok (ok.cons k hk)
    have := co.a
    rw [if_neg (by omega)] at this
    exact ⟨this, co.b⟩
theorem slice_sub (s : Sys) (v : Int) : ∀ c ∈ s.cons.filter (keepB s v), c ∈ s.cons := fun _ hc => (List.mem_filter.1 hc).1
theorem slice_len {s : Sys} (v : Int) (hE : checkE s = 0) : (s.cons.filter (keepB s v)).length ≤ 32768 := by
  have h1 := List.length_filter_le (keepB s v) s.cons
  have h2 : s.cons.length ≤ 32768 := by
    unfold checkE at hE
    split at hE
    · omega
    split at hE
    · omega
    omega
  omega
theorem slice_check {s : Sys} {v : Int} (hE : checkE s = 0) : checkE (sliceS s v) = 0 := check_sw hE (slice_sub s v) (slice_len v hE)
theorem cell_field {s : Sys} {f : Int} {y : Nat} (hv : 0 ≤ s.vars) (h0 : 0 ≤ f) (h1 : f < s.fields) : s.vars ≤ (cellIx s f y : Int) ∧ ((cellIx s f y : Int) - s.vars) % s.fields = f := by
  have hp : 0 ≤ (y : Int) * s.fields := Int.mul_nonneg (Int.natCast_nonneg y) (by omega)
  have e : (cellIx s f y : Int) = s.vars + (y : Int) * s.fields + f := by unfold cellIx; rw [Int.toNat_of_nonneg (by omega)]
  refine ⟨by omega, ?_⟩
  have e2 : (cellIx s f y : Int) - s.vars = f + (y : Int) * s.fields := by omega
  rw [e2, Int.add_mul_emod_self_right, Int.emod_eq_of_lt h0 h1]
theorem holds_sw (s : Sys) (l : List Con) (n : Nat) (m : Nat → Nat → Bool) (c : Con) : Holds (sw s l) n m c = Holds s n m c := rfl
/-- the slice's least solution gives what is visited what the whole's gives -/
theorem slice_same {s : Sys} {v : Int} {n : Nat} {m m' : Nat → Nat → Bool} (hR : rightE s v = 0) (hm : IsLeast s n m) (hm' : IsLeast (sliceS s v) n m') {i : Int} (hi : Vis s v i) : m i.toNat = m' i.toNat := by
  obtain ⟨hE, h0, h1⟩ := rightE_ok hR
  have ok := check_ok hE
  have hle : Le m' m := hm'.least m fun c hc => hm.sat c (slice_sub s v c hc)
  classical
  let M : Nat → Nat → Bool := fun r => if (r : Int) < s.vars then (if Vis s v (r : Int) then m' r else m r) else (if LoadsF s v (((r : Int) - s.vars) % s.fields) then m' r else m r)
  have lo : ∀ r x, m' r x = true → M r x = true := fun r x h => by
    have h2 := hle r x h
    show (if (r : Int) < s.vars then (if Vis s v (r : Int) then m' r else m r) else (if LoadsF s v (((r : Int) - s.vars) % s.fields) then m' r else m r)) x = true
    split <;> split <;> assumption
  have hi' : ∀ r x, M r x = true → m r x = true := fun r x h => by
    have h2 : (if (r : Int) < s.vars then (if Vis s v (r : Int) then m' r else m r) else (if LoadsF s v (((r : Int) - s.vars) % s.fields) then m' r else m r)) x = true := h
    split at h2 <;> split at h2 <;> first | exact hle r x h2 | exact h2
  have mv : ∀ b : Int, 0 ≤ b → b < s.vars → Vis s v b → M b.toNat = m' b.toNat := fun b b0 b1 hb => by
    show (if ((b.toNat : Nat) : Int) < s.vars then (if Vis s v ((b.toNat : Nat) : Int) then m' b.toNat else m b.toNat) else _) = _
    rw [Int.toNat_of_nonneg b0, if_pos b1, if_pos hb]
  have mn : ∀ b : Int, 0 ≤ b → b < s.vars → ¬ Vis s v b → M b.toNat = m b.toNat := fun b b0 b1 hb => by
    show (if ((b.toNat : Nat) : Int) < s.vars then (if Vis s v ((b.toNat : Nat) : Int) then m' b.toNat else m b.toNat) else _) = _
    rw [Int.toNat_of_nonneg b0, if_pos b1, if_neg hb]
  have cv : ∀ (f : Int) (y : Nat), 0 ≤ f → f < s.fields → LoadsF s v f → M (cellIx s f y) = m' (cellIx s f y) := fun f y f0 f1 hf => by
    obtain ⟨e1, e2⟩ := cell_field (y := y) ok.vars.1 f0 f1
    show (if ((cellIx s f y : Nat) : Int) < s.vars then _ else (if LoadsF s v ((((cellIx s f y : Nat) : Int) - s.vars) % s.fields) then m' (cellIx s f y) else m (cellIx s f y))) = _
    rw [if_neg (by omega), e2, if_pos hf]
  have cn : ∀ (f : Int) (y : Nat), 0 ≤ f → f < s.fields → ¬ LoadsF s v f → M (cellIx s f y) = m (cellIx s f y) := fun f y f0 f1 hf => by
    obtain ⟨e1, e2⟩ := cell_field (y := y) ok.vars.1 f0 f1
    show (if ((cellIx s f y : Nat) : Int) < s.vars then _ else (if LoadsF s v ((((cellIx s f y : Nat) : Int) - s.vars) % s.fields) then m' (cellIx s f y) else m (cellIx s f y))) = _
    rw [if_neg (by omega), e2, if_neg hf]
  have hsat : Sat s n M := by
    intro c hc
    have co := con_ok (ok.cons c hc)
    have hmc := hm.sat c hc
    have kept : keepB s v c = true → Holds s n m' c := fun hk => by
      have := hm'.sat c (List.mem_filter.2 ⟨hc, hk⟩)
      exact this
    unfold Holds at hmc kept ⊢
    by_cases k1 : c.kind = 1
    · rw [if_pos k1] at hmc ⊢
      by_cases hb : Vis s v c.b
      · rw [mv c.b co.b.1 co.b.2 hb]
        have := kept (by unfold keepB; rw [if_neg (by omega)]; exact (vis_iff' co.b.1).2 hb)
        rw [if_pos k1] at this; exact this
      · rw [mn c.b co.b.1 co.b.2 hb]; exact hmc
    rw [if_neg k1] at hmc ⊢
    have ca := co.a
    rw [if_neg k1] at ca
    by_cases k4 : c.kind = 4
    · have hf := co.field (by simp [accB, k4])
      rw [if_neg (by omega), if_neg (by omega), if_neg (by omega)] at hmc ⊢
      by_cases hl : LoadsF s v c.field
      · have hk := kept (by unfold keepB; rw [if_pos k4]; exact loadsV_iff.2 hl)
        rw [if_neg k1, if_neg (by omega), if_neg (by omega), if_neg (by omega)] at hk
        obtain ⟨l, hlc, l3, lb, lf⟩ := hl
        have va : Vis s v c.a := .sa hlc l3 lb hc k4 lf.symm
        have vb : Vis s v c.b := .sb hlc l3 lb hc k4 lf.symm
        intro y hy h1 x hx h2
        rw [mv c.b co.b.1 co.b.2 vb] at h1
        rw [mv c.a ca.1 ca.2 va] at h2
        rw [cv c.field y hf.1 hf.2 ⟨l, hlc, l3, lb, lf⟩]
        exact hk y hy h1 x hx h2
      · intro y hy h1 x hx h2
        rw [cn c.field y hf.1 hf.2 hl]
        exact hmc y hy (hi' _ _ h1) x hx (hi' _ _ h2)
    by_cases hb : Vis s v c.b
    · have va : Vis s v c.a := .arg hc k1 k4 hb
      have hk := kept (by unfold keepB; rw [if_neg k4]; exact (vis_iff' co.b.1).2 hb)
      rw [if_neg k1] at hk
      rw [mv c.b co.b.1 co.b.2 hb, mv c.a ca.1 ca.2 va]
      by_cases k2 : c.kind = 2
      · rw [if_pos k2] at hk ⊢; exact hk
      rw [if_neg k2] at hk ⊢
      by_cases k5 : c.kind = 5
      · rw [if_pos k5] at hk ⊢; exact hk
      rw [if_neg k5] at hk ⊢
      by_cases k3 : c.kind = 3
      · rw [if_pos k3] at hk ⊢
        have hf := co.field (by simp [accB, k3])
        intro y hy h1 x hx h2
        rw [cv c.field y hf.1 hf.2 ⟨c, hc, k3, hb, rfl⟩] at h2
        exact hk y hy h1 x hx h2
      · have := co.kind; omega
    · rw [mn c.b co.b.1 co.b.2 hb]
      by_cases k2 : c.kind = 2
      · rw [if_pos k2] at hmc ⊢; exact fun x hx h => hmc x hx (hi' _ _ h)
      rw [if_neg k2] at hmc ⊢
      by_cases k5 : c.kind = 5
      · rw [if_pos k5] at hmc ⊢; exact fun x hx h => hmc x hx (hi' _ _ h)
      rw [if_neg k5] at hmc ⊢
      by_cases k3 : c.kind = 3
      · rw [if_pos k3] at hmc ⊢; exact fun y hy h1 x hx h2 => hmc y hy (hi' _ _ h1) x hx (hi' _ _ h2)
      · have := co.kind; omega
  have hmM := hm.least M hsat
  obtain ⟨i0, i1⟩ := vis_in hR hi
  have e := mv i i0 i1 hi
  funext x
  rw [Bool.eq_iff_iff]
  constructor
  · intro h
    have := hmM i.toNat x h
    rw [e] at this; exact this
  · exact hle i.toNat x
end Go.Proofs.YtcfiohphjlohhaaDoor

namespace Go.Proofs.YtcfiohphjlohhaaDoor
open Go.RowKit
theorem ints_nil (w : World) (n : Nat) : Ints w none [] := ⟨by unfold LenOk; simp, fun i x hi => by simp at hi⟩
theorem Blk.al {w : World} {g : Nat} {t : TypeId} {cs : Array Value} (h : Blk w g t cs) (o : Obj) : Blk (w.alloc o) g t cs := h.below ((Below.refl _ _).alloc (Nat.le_refl _) _)
theorem small_bd {s : Sys} (h : smallB s = true) : s.vars ≤ 40 ∧ s.sites ≤ 12 ∧ s.fields ≤ 5 := by
  unfold smallB at h
  simp only [Bool.and_eq_true, decide_eq_true_eq] at h
  exact ⟨h.1.1.2, h.1.2, h.2⟩
theorem check_len {s : Sys} (h : checkE s = 0) : s.cons.length ≤ 32768 := by
  unfold checkE at h
  split at h
  · omega
  split at h
  · omega
  omega
theorem cell_keep' {w w' : World} (h : Below w.heap.size w w') {p : Addr} {v : Value} (hc : w.cell? p = some v) : w'.cell? p = some v := cell_keep h hc
end Go.Proofs.YtcfiohphjlohhaaDoor

/- A list of constraints that grows by append: what the law AndersenOrder builds. -/
namespace Go.Proofs.YtcfiohphjlohhaaDoor
open Go.RowKit

/-- a constraint's cells -/
abbrev conCells (e : Con × Option Addr × Nat) : List Value := [.int .i64 e.1.kind, .int .i64 e.1.a, .int .i64 e.1.b, .int .i64 e.1.field, .slice e.2.1 e.1.set.length e.2.2]
theorem flat_get : ∀ (es : List (Con × Option Addr × Nat)) (i j : Nat) (e : Con × Option Addr × Nat), es[i]? = some e → j < 5 → (es.flatMap conCells)[i * 5 + j]? = (conCells e)[j]?
  | [], i, j, e, he, _ => by simp at he
  | a :: es, 0, j, e, he, hj => by
    obtain rfl : a = e := by simpa using he
    rw [List.flatMap_cons, Nat.zero_mul, Nat.zero_add, List.getElem?_append_left (by simpa using hj)]
  | a :: es, i + 1, j, e, he, hj => by
    rw [List.flatMap_cons, List.getElem?_append_right (by simp; omega)]
    have e1 : (i + 1) * 5 + j - (conCells a).length = i * 5 + j := by simp; omega
    rw [e1]
    exact flat_get es i j e (by simpa using he) hj
theorem add_blk (g n : Nat) : (⟨g, 0, none⟩ : Addr).add n = ⟨g, n, none⟩ := by unfold Addr.add; split <;> simp_all

theorem info39 : (Tryd.prog.info? 39).map (fun i => (i.zero, i.size, i.bytes)) = some (some (.agg #[.int .i64 0, .int .i64 0, .int .i64 0, .int .i64 0, .slice none 0 0]), 5, 56) := by kernel_rfl
/-- append of one constraint, as a step of a region that draws -/
theorem step_append5 {w : World} {ops : Array Oper} {o : Oper} {a : Act} {K : Act → World → Prop} {Q : Exit → Act → World → Prop} {E : Prop} (hgd : o.guard = none) (s x : Operand) (i : TypeInfo) (z : Value)
    (ho : o.op = .call { callee := .builtin .append, args := #[s, x], argTypes := #[22, 22] }) (hi : Tryd.prog.info? 39 = some i) (hz : i.zero = some z ∧ i.size = 5 ∧ i.bytes = 56) (hzs : z.cells.size = 5)
    (base : Nat) (v : Value) (n : Nat) (xs : List Value) (hs : a.eval s = v) (hown : w.ownsRow base 39 5 v n xs) (N c : Nat) (e : Con × Option Addr × Nat) (hx : a.eval x = .slice (some ⟨N, 0, none⟩) 1 c) (hu : Blk w N 39 #[.int .i64 e.1.kind, .int .i64 e.1.a, .int .i64 e.1.b, .int .i64 e.1.field, .slice e.2.1 e.1.set.length e.2.2])
    (hn : n ≤ 200000) (hbase : base ≤ w.heap.size)
    (h : ∀ g cap w', w'.ownsRow base 39 5 (.slice (some ⟨g, 0, none⟩) (n + 1) cap) (n + 1) (xs ++ conCells e) → w.grownBy w' v.ownBlock → (v.ownBlock = some g ∨ g = w.heap.size) → g < w'.heap.size → K (a.put o.dst (.slice (some ⟨g, 0, none⟩) (n + 1) cap)) w') :
    if Region.wanted o (yielded ops a.tmps) = true then Oper.wp Tryd.prog o a w K Q else E :=
  step_append_lies w hgd s x 22 ho base 39 i z 5 56 Tryd.underlying22 hi hz.1 hz.2.1 hz.2.2 hzs (by decide) v n xs hs hown ⟨N, 0, none⟩ 1 c (conCells e) hx rfl
    (fun j u' hj => by
      rw [add_blk, hu.cell j]
      rw [← hj]; simp)
    (fun u' hu' => by
      simp only [conCells, List.mem_cons, List.not_mem_nil, or_false] at hu'
      rcases hu' with rfl | rfl | rfl | rfl | rfl <;> rfl) Nat.one_pos (by unfold maxLen; omega) (by omega) hbase _ rfl h

/-- the new system while its list is made -/
structure MadeT (w5 w : World) (s : Sys) (v : Value) (es : List (Con × Option Addr × Nat)) : Prop where
  B : Below w5.heap.size w5 w
  blk : Blk w w5.heap.size 24 #[.int .i64 s.vars, .int .i64 s.sites, .int .i64 s.fields, v]
  own : w.ownsRow w5.heap.size 39 5 v es.length (es.flatMap conCells)
  ints : ∀ e ∈ es, Ints w5 e.2.1 e.1.set
theorem MadeT.start (w5 : World) (s : Sys) : MadeT w5 (w5.alloc (.cells #[.int .i64 s.vars, .int .i64 s.sites, .int .i64 s.fields, .slice none 0 0] 24)) s (.slice none 0 0) [] :=
  ⟨(Below.refl _ _).alloc (Nat.le_refl _) _, Blk.new _ _ _, World.ownsRow_nil _ _ _ _, fun e he => by cases he⟩
theorem MadeT.step {w5 w w2 : World} {s : Sys} {v : Value} {es : List (Con × Option Addr × Nat)} {e : Con × Option Addr × Nat} {g cap : Nat} (h : MadeT w5 w s v es) (hi : Ints w5 e.2.1 e.1.set)
    (hown : w2.ownsRow w5.heap.size 39 5 (.slice (some ⟨g, 0, none⟩) (es.length + 1) cap) (es.length + 1) (es.flatMap conCells ++ conCells e))
    (hgrow : (w.drew.alloc (.cells #[.int .i64 e.1.kind, .int .i64 e.1.a, .int .i64 e.1.b, .int .i64 e.1.field, .slice e.2.1 e.1.set.length e.2.2] 39)).grownBy w2 v.ownBlock) :
    MadeT w5 (w2.setCell ⟨w5.heap.size, 3, none⟩ (.slice (some ⟨g, 0, none⟩) (es.length + 1) cap)) s (.slice (some ⟨g, 0, none⟩) (es.length + 1) cap) (es ++ [e]) := by
  have hb2 : Below w.drew.heap.size w.drew (w.drew.alloc (.cells #[.int .i64 e.1.kind, .int .i64 e.1.a, .int .i64 e.1.b, .int .i64 e.1.field, .slice e.2.1 e.1.set.length e.2.2] 39)) := (Below.refl _ _).alloc (Nat.le_refl _) _
  have nT := own_ne_blk h.own h.blk (by decide)
  have bT : Blk w2 w5.heap.size 24 _ := (Blk.below (w := w.drew) h.blk hb2).grown hgrow nT
  have hTg : some (⟨w5.heap.size, 3, none⟩ : Addr).block ≠ (Value.slice (some ⟨g, 0, none⟩) (es.length + 1) cap).ownBlock := own_ne_blk hown bT (by decide)
  have hsz := h.B.size
  refine ⟨?_, bT.set_ 3 _, ?_, fun x hx => ?_⟩
  · have e1 : Below w5.heap.size w (w.drew.alloc (.cells #[.int .i64 e.1.kind, .int .i64 e.1.a, .int .i64 e.1.b, .int .i64 e.1.field, .slice e.2.1 e.1.set.length e.2.2] 39)) := below_un_drew (hb2.mono hsz)
    exact h.B.trans ((e1.grown hgrow (by have := e1.size; omega) fun j hj => (World.ownsRow.lt h.own j hj).1).setCell (p := ⟨w5.heap.size, 3, none⟩) (Nat.le_refl _) _)
  · rw [List.length_append, List.flatMap_append]
    simp only [List.flatMap_cons, List.flatMap_nil, List.append_nil, List.length_cons, List.length_nil, Nat.zero_add]
    exact own_far hown hTg _
  · rcases List.mem_append.1 hx with hx | hx
    · exact h.ints x hx
    · rw [List.mem_singleton.1 hx]; exact hi
/-- the list made, as constraints in memory -/
theorem MadeT.cons {w5 w : World} {s : Sys} {v : Value} {es : List (Con × Option Addr × Nat)} (h : MadeT w5 w s v es) (hl : es.length ≤ 1000000) : ∃ a c, v = .slice a (es.map (·.1)).length c ∧ Cons w a (es.map (·.1)) := by
  rcases h.own.2 with ⟨rfl, h0⟩ | ⟨g, cap, cur, rfl, _, hh, _⟩
  · have : es = [] := List.length_eq_zero_iff.1 h0
    subst this
    exact ⟨none, 0, rfl, ⟨by unfold LenOk; simp, fun i x hi => by simp at hi⟩⟩
  · refine ⟨some ⟨g, 0, none⟩, cap, by rw [List.length_map], ⟨by unfold LenOk; rw [List.length_map]; omega, fun i c hi => ?_⟩⟩
    rw [List.getElem?_map] at hi
    cases he : es[i]? with
    | none => rw [he] at hi; cases hi
    | some e =>
      rw [he] at hi
      obtain rfl : e.1 = c := by simpa using hi
      have hc : ∀ j u, (conCells e)[j]? = some u → j < 5 → w.cell? ⟨g, 0 + i * 5 + j, none⟩ = some u := fun j u hu hj => by
        have := World.ownsRow.cells h.own (g := g) rfl (i * 5 + j) u (by rw [flat_get es i j e he hj, hu])
        rw [add_blk] at this
        rw [Nat.zero_add]; exact this
      exact ⟨g, 0, e.2.1, e.2.2, rfl, hc 0 _ rfl (by decide), hc 1 _ rfl (by decide), hc 2 _ rfl (by decide), hc 3 _ rfl (by decide), hc 4 _ rfl (by decide), (h.ints e (List.mem_of_getElem? he)).below h.B⟩
end Go.Proofs.YtcfiohphjlohhaaDoor
