/- Rows of rows that the call makes, list by list. -/
import Derived.Test.YtcfiohphjlohhaaDoorT15
namespace Go.Proofs.YtcfiohphjlohhaaDoor
open Go.RowKit

/-- the value is a slice of the call's own whose elements are slices of the call's own: the rows ll -/
def OwnRows (B : Nat) (w : World) (v : Value) (ll : List (List Int)) : Prop :=
  ∃ vs : List Value, w.ownsRow B 37 1 v ll.length vs ∧ ∀ (j : Nat) (l : List Int), ll[j]? = some l → ∃ u, vs[j]? = some u ∧ OwnInts B w u l

theorem OwnRows.nil (B : Nat) (w : World) : OwnRows B w (.slice none 0 0) [] := ⟨[], World.ownsRow_nil _ _ _ _, fun j l h => by simp at h⟩
theorem OwnInts.below {B : Nat} {w w' : World} {v : Value} {l : List Int} (h : OwnInts B w v l) (hb : Below w.heap.size w w') : OwnInts B w' v l := own_below h hb
theorem OwnInts.base {B B' : Nat} {w : World} {v : Value} {l : List Int} (h : OwnInts B w v l) (hB : B' ≤ B) : OwnInts B' w v l := own_base h hB
theorem OwnRows.below {B : Nat} {w w' : World} {v : Value} {ll : List (List Int)} (h : OwnRows B w v ll) (hb : Below w.heap.size w w') : OwnRows B w' v ll := by
  obtain ⟨vs, h1, h2⟩ := h
  exact ⟨vs, own_below h1 hb, fun j l hj => by obtain ⟨u, hu, ho⟩ := h2 j l hj; exact ⟨u, hu, ho.below hb⟩⟩
/-- a store into a block of another type -/
theorem OwnRows.far {B : Nat} {w : World} {v : Value} {ll : List (List Int)} (h : OwnRows B w v ll) {g : Nat} {t : TypeId} {cs : Array Value} (hg : Blk w g t cs) (h1 : 37 ≠ t) (h2 : 3 ≠ t) (i : Nat) (x : Value) : OwnRows B (w.setCell ⟨g, i, none⟩ x) v ll := by
  obtain ⟨vs, ho, hr⟩ := h
  exact ⟨vs, own_far ho (own_ne_blk ho hg h1) x, fun j l hj => by obtain ⟨u, hu, hi⟩ := hr j l hj; exact ⟨u, hu, own_far hi (own_ne_blk hi hg h2) x⟩⟩
/-- an append to another slice -/
theorem OwnRows.grown {B : Nat} {w w' : World} {v : Value} {ll : List (List Int)} (h : OwnRows B w v ll) {row : Option Nat} (hg : w.grownBy w' row) (hne : ∀ g, v.ownBlock = some g → row ≠ some g)
    (hty : ∀ g, row = some g → ∃ cap cur, w.heap[g]? = some (.cells cur 37 (0, 0)) ∧ cap = cur.size) : OwnRows B w' v ll := by
  obtain ⟨vs, ho, hr⟩ := h
  refine ⟨vs, own_of ho fun g he => hg.block g (World.ownsRow.lt ho g he).2 fun e => hne g he e.symm, fun j l hj => ?_⟩
  obtain ⟨u, hu, hi⟩ := hr j l hj
  refine ⟨u, hu, own_of hi fun g he => hg.block g (World.ownsRow.lt hi g he).2 fun e => ?_⟩
  obtain ⟨_, cur, hc, _⟩ := hty g e.symm
  exact own_ne_blk (g := g) (t := 37) (cs := cur) hi hc (by decide) he.symm
theorem own_type {w : World} {B : Nat} {size n : Nat} {v : Value} {xs : List Value} (h : w.ownsRow B 37 size v n xs) : ∀ g, v.ownBlock = some g → ∃ cap cur, w.heap[g]? = some (.cells cur 37 (0, 0)) ∧ cap = cur.size := by
  intro g hg
  rcases h.2 with ⟨rfl, _⟩ | ⟨g', cap, cur, rfl, _, hh, _⟩
  · cases hg
  · have : g' = g := by simpa [Value.ownBlock] using hg
    subst this
    exact ⟨_, cur, hh, rfl⟩
/-- one row more -/
theorem OwnRows.snoc {B : Nat} {w w' : World} {v v' u : Value} {ll : List (List Int)} {l : List Int} {vs : List Value} (ho : w.ownsRow B 37 1 v ll.length vs) (hr : ∀ (j : Nat) (l : List Int), ll[j]? = some l → ∃ u, vs[j]? = some u ∧ OwnInts B w u l)
    (hu : OwnInts B w u l) (hg : w.grownBy w' v.ownBlock) (hown : w'.ownsRow B 37 1 v' (ll.length + 1) (vs ++ [u])) : OwnRows B w' v' (ll ++ [l]) := by
  have keep : ∀ u l, OwnInts B w u l → OwnInts B w' u l := fun u l hi => own_of hi fun g he => hg.block g (World.ownsRow.lt hi g he).2 fun e => by
    obtain ⟨_, cur, hc, _⟩ := own_type ho g e.symm
    exact own_ne_blk (g := g) (t := 37) (cs := cur) hi hc (by decide) he.symm
  have hlen : vs.length = ll.length := by have := ho.1; omega
  refine ⟨vs ++ [u], by rw [List.length_append]; exact hown, fun j l' hj => ?_⟩
  by_cases h1 : j < ll.length
  · rw [List.getElem?_append_left h1] at hj
    obtain ⟨u', hu', hi⟩ := hr j l' hj
    exact ⟨u', by rw [List.getElem?_append_left (by omega)]; exact hu', keep _ _ hi⟩
  · rw [List.getElem?_append_right (by omega)] at hj
    have h2 : j = ll.length := by
      have := (List.getElem?_eq_some_iff.1 hj).1
      simp at this
      omega
    subst h2
    simp at hj
    subst hj
    exact ⟨u, by rw [List.getElem?_append_right (by omega), hlen]; simp, keep _ _ hu⟩
theorem ints_of_own {B : Nat} {w : World} {v : Value} {l : List Int} (h : OwnInts B w v l) (hl : l.length ≤ 1000000) : ∃ a c, v = .slice a l.length c ∧ Ints w a l := by
  rcases h.2 with ⟨rfl, h0⟩ | ⟨g, cap, cur, rfl, _, hh, _⟩
  · have : l = [] := List.length_eq_zero_iff.1 h0
    subst this
    exact ⟨none, 0, rfl, by unfold LenOk; simp, fun i x hi => by simp at hi⟩
  · refine ⟨some ⟨g, 0, none⟩, cap, rfl, by unfold LenOk; omega, fun i x hi => ⟨g, 0, rfl, ?_⟩⟩
    have := World.ownsRow.cells h (g := g) rfl i (.int .i64 x) (by rw [List.getElem?_map, hi]; rfl)
    unfold Addr.add at this
    split at this
    · rename_i e0; subst e0; exact this
    · exact this
theorem rows_of_own {B : Nat} {w : World} {v : Value} {ll : List (List Int)} (h : OwnRows B w v ll) (hl : ll.length ≤ 1000000) (hi : ∀ l ∈ ll, l.length ≤ 1000000) : ∃ a c, v = .slice a ll.length c ∧ Rows2 w a ll := by
  obtain ⟨vs, ho, hr⟩ := h
  rcases ho.2 with ⟨rfl, h0⟩ | ⟨g, cap, cur, rfl, _, hh, _⟩
  · have : ll = [] := List.length_eq_zero_iff.1 h0
    subst this
    exact ⟨none, 0, rfl, by unfold LenOk; simp, fun i x hi => by simp at hi⟩
  · refine ⟨some ⟨g, 0, none⟩, cap, rfl, by unfold LenOk; omega, fun i l hj => ?_⟩
    obtain ⟨u, hu, hO⟩ := hr i l hj
    obtain ⟨a', c', rfl, hI⟩ := ints_of_own hO (hi l (List.mem_of_getElem? hj))
    refine ⟨g, 0, a', c', rfl, ?_, hI⟩
    have := World.ownsRow.cells ho (g := g) rfl i _ hu
    unfold Addr.add at this
    split at this
    · rename_i e0; subst e0; exact this
    · exact this

theorem rows_of_own' {B : Nat} {w : World} {a : Option Addr} {n c : Nat} {ll : List (List Int)} (h : OwnRows B w (.slice a n c) ll) (hl : ll.length ≤ 1000000) (hi : ∀ l ∈ ll, l.length ≤ 1000000) : Rows2 w a ll := by
  obtain ⟨a', c', e, hr⟩ := rows_of_own h hl hi
  injection e with e1
  rw [e1]; exact hr
/-- the assignment of a state -/
def ptsOf (s : Sys) (n : Nat) (m : Nat → Nat → Bool) : Pts :=
  ⟨(List.range s.vars.toNat).map fun r => pre (m r) n, (List.range (s.sites * s.fields).toNat).map fun c => pre (m (s.vars.toNat + c)) n⟩

theorem pts_lens (s : Sys) (n : Nat) (m : Nat → Nat → Bool) : (ptsOf s n m).vars.length = s.vars.toNat ∧ (ptsOf s n m).cells.length = (s.sites * s.fields).toNat := by
  unfold ptsOf; simp

/-- what a solver returns: the error of Check, and, without one, the least solution -/
def SolvePost (s : Sys) (w : World) (e : Ending) (w' : World) : Prop :=
  ∃ (p : Pts) (a1 a2 : Option Addr) (c1 c2 : Nat), e = .returned (.tuple #[ptsV p a1 a2 c1 c2, .int .i64 (checkE s)]) ∧ Rows2 w' a1 p.vars ∧ Rows2 w' a2 p.cells ∧ Below w.heap.size w w' ∧
    (checkE s ≠ 0 → p = ⟨[], []⟩) ∧ (checkE s = 0 → ∃ m, IsLeast s s.sites.toNat m ∧ p = ptsOf s s.sites.toNat m)

theorem two_set {w : World} {g : Nat} {x0 x1 : Value} (h0 : w.cell? ⟨g, 0, none⟩ = some x0) (h1 : w.cell? ⟨g, 1, none⟩ = some x1) (v0 v1 : Value) :
    ((w.setCell ⟨g, 0, none⟩ v0).setCell ⟨g, 1, none⟩ v1).cell? ⟨g, 0, none⟩ = some v0 ∧ ((w.setCell ⟨g, 0, none⟩ v0).setCell ⟨g, 1, none⟩ v1).cell? ⟨g, 1, none⟩ = some v1 := by
  constructor
  · rw [World.cell?_setCell_other _ _ _ _ (by simp)]
    exact World.cell?_setCell_same _ _ _ h0
  · exact World.cell?_setCell_same (u := x1) _ _ _ (by rw [World.cell?_setCell_other _ _ _ _ (by simp)]; exact h1)

set_option maxRecDepth 100000 in
theorem solveR_err (s : Sys) (aS : Option Addr) (cS : Nat) (w : World) (hS : Cons w aS s.cons) (hE : ¬ checkE s = 0) :
    Calls Tryd.prog 15 #[sysV s aS cS] w (SolvePost s w) := by
  dsimp only [sysV]
  have hq : (checkE s != 0) = true := by simpa using hE
  have HE := Lib.hid hE
  clear hE
  have hb : Below w.heap.size w ((w.alloc (.cells #[.int .i64 s.vars, .int .i64 s.sites, .int .i64 s.fields, .slice aS s.cons.length cS] 24)).alloc (.cells #[.slice none 0 0, .slice none 0 0] 29)) := below_two _ _ _
  have hS' := hS.below hb
  go_enter Tryd.func15, Tryd.ntmps15
  go_wp2_with (go_at_call 39; refine (checkR_any s _ _ _ hS').mono ?_; rintro e w1 ⟨rfl, hb1⟩; obtain ⟨k1, k2⟩ := box2_keep hb1 (by simp); obtain ⟨z0, z1⟩ := size_box2 hb1; have kf : ∀ j, w1.frozen? ⟨w.heap.size + 1, j, none⟩ = false := fun j => by rw [hb1.frozen (p := ⟨w.heap.size + 1, j, none⟩) (by simp)]; exact World.frozen?_alloc_at _ _ _ _ (by simp))
  obtain ⟨r0, r1⟩ := two_set (k2 0) (k2 1) (.slice none 0 0) (.slice none 0 0)
  refine bodyPost_ret (v := .tuple #[.agg #[.slice none 0 0, .slice none 0 0], .int .i64 (checkE s)]) (by simp [results, Tryd.results15, go_sem, r0, r1]) rfl
    ⟨⟨[], []⟩, none, none, 0, 0, rfl, ⟨by unfold LenOk; simp, fun i l hi => by simp at hi⟩, ⟨by unfold LenOk; simp, fun i l hi => by simp at hi⟩, ?_, fun _ => rfl, fun e => absurd e HE.out⟩
  exact ((below_box2 hb1).setCell (by simp) _).setCell (by simp) _
end Go.Proofs.YtcfiohphjlohhaaDoor
