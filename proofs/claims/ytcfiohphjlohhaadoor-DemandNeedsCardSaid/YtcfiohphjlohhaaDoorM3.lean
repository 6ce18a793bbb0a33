/- Plain mathematics: an assignment in lists and the same as a function. -/
import Derived.Test.YtcfiohphjlohhaaDoorM2
import Derived.Test.YtcfiohphjlohhaaDoorT32
import Derived.Test.YtcfiohphjlohhaaDoorT16
import Derived.Test.YtcfiohphjlohhaaDoorT10
namespace Go.Proofs.YtcfiohphjlohhaaDoor

theorem hasB_iff {l : List Int} {x : Int} : hasB l x = true ↔ x ∈ l := by
  unfold hasB
  rw [List.any_eq_true]
  constructor
  · rintro ⟨y, hy, e⟩; rw [← (beq_iff_eq.1 e)]; exact hy
  · intro h; exact ⟨x, h, by simp⟩
theorem put_fst (m : Nat → Nat → Bool) (b x i y : Nat) : (putS (m, false) b x).1 i y = (m i y || (decide (i = b) && decide (y = x))) := by
  unfold putS
  by_cases h : m b x = true
  · rw [if_pos h]
    by_cases e : i = b ∧ y = x
    · obtain ⟨rfl, rfl⟩ := e
      show m i y = _
      rw [h]; rfl
    · show m i y = _
      have : (decide (i = b) && decide (y = x)) = false := by
        rw [Bool.and_eq_false_iff]
        rcases Classical.not_and_iff_not_or_not.1 e with e | e <;> simp [e]
      rw [this, Bool.or_false]
  · rw [if_neg h]
    show upd m b x i y = _
    unfold upd
    by_cases e : i = b ∧ y = x
    · rw [if_pos e]; simp [e.1, e.2]
    · rw [if_neg e]
      have : (decide (i = b) && decide (y = x)) = false := by
        rw [Bool.and_eq_false_iff]
        rcases Classical.not_and_iff_not_or_not.1 e with e | e <;> simp [e]
      rw [this, Bool.or_false]
theorem putL_is (b : Nat) : ∀ (l : List Int) (m : Nat → Nat → Bool), (∀ x ∈ l, 0 ≤ x) → ∀ i y : Nat, putL b l m i y = (m i y || (decide (i = b) && hasB l y))
  | [], m, _, i, y => by show m i y = _; rw [hasB_nil, Bool.and_false, Bool.or_false]
  | x :: l, m, h, i, y => by
    rw [putL_cons, putL_is b l _ (fun z hz => h z (List.mem_cons_of_mem _ hz)), put_fst, hasB_cons]
    have hx := h x List.mem_cons_self
    have e : (x == (y : Int)) = decide (y = x.toNat) := by
      by_cases h1 : y = x.toNat
      · rw [decide_eq_true h1]; simp; omega
      · rw [decide_eq_false h1]; simp; omega
    rw [e]
    cases m i y <;> cases decide (i = b) <;> cases decide (y = x.toNat) <;> rfl
theorem putLL_is : ∀ (ll : List (List Int)) (b : Nat) (m : Nat → Nat → Bool), (∀ l ∈ ll, ∀ x ∈ l, 0 ≤ x) → ∀ i y : Nat, putLL b ll m i y = (m i y || (decide (b ≤ i) && hasB (ll.getD (i - b) []) y))
  | [], b, m, _, i, y => by show m i y = _; simp [hasB_nil]
  | l :: ll, b, m, h, i, y => by
    rw [putLL_cons, putLL_is ll (b + 1) _ (fun z hz => h z (List.mem_cons_of_mem _ hz)), putL_is b l m (h l List.mem_cons_self)]
    by_cases e : i = b
    · subst e
      have h2 : decide (i + 1 ≤ i) = false := by simp
      rw [h2]; simp
    · by_cases e2 : b ≤ i
      · have h3 : (l :: ll).getD (i - b) [] = ll.getD (i - (b + 1)) [] := by
          rw [show i - b = (i - (b + 1)) + 1 by omega]; rfl
        rw [h3]
        simp [e, e2, show b + 1 ≤ i by omega]
      · simp [e, e2, show ¬ b + 1 ≤ i by omega]

/-- the lists p and the function m say the same -/
structure Rep (s : Sys) (n : Nat) (p : Pts) (m : Nat → Nat → Bool) : Prop where
  v : ∀ r : Nat, (r : Int) < s.vars → ∀ x : Nat, x < n → m r x = hasB (row p.vars r) x
  c : ∀ c : Nat, (c : Int) < s.sites * s.fields → ∀ x : Nat, x < n → m (s.vars.toNat + c) x = hasB (row p.cells c) x
/-- every row in the sites -/
structure RowsIn (n : Int) (p : Pts) : Prop where
  v : ∀ l ∈ p.vars, ∀ x ∈ l, 0 ≤ x ∧ x < n
  c : ∀ l ∈ p.cells, ∀ x ∈ l, 0 ≤ x ∧ x < n
theorem row_in {n : Int} {ll : List (List Int)} (h : ∀ l ∈ ll, ∀ x ∈ l, 0 ≤ x ∧ x < n) (i : Int) : ∀ x ∈ row ll i, 0 ≤ x ∧ x < n := by
  unfold row
  rw [List.getD_eq_getElem?_getD]
  cases e : ll[i.toNat]? with
  | none => intro x hx; cases hx
  | some l => exact h l (List.mem_of_getElem? e)

theorem rep_load {s : Sys} {n : Nat} {p : Pts} (hin : RowsIn s.sites p) (hv : (p.vars.length : Int) = s.vars) : Rep s n p (putLL p.vars.length p.cells (putLL 0 p.vars fun _ _ => false)) := by
  have i1 : ∀ l ∈ p.vars, ∀ x ∈ l, 0 ≤ x := fun l hl x hx => (hin.v l hl x hx).1
  have i2 : ∀ l ∈ p.cells, ∀ x ∈ l, 0 ≤ x := fun l hl x hx => (hin.c l hl x hx).1
  refine ⟨fun r hr x _ => ?_, fun c _ x _ => ?_⟩
  · rw [putLL_is _ _ _ i2, putLL_is _ _ _ i1]
    have : ¬ p.vars.length ≤ r := by omega
    simp [this, row]
  · rw [putLL_is _ _ _ i2, putLL_is _ _ _ i1]
    have e : s.vars.toNat = p.vars.length := by omega
    have e2 : p.vars.getD (p.vars.length + c) [] = [] := by rw [List.getD_eq_getElem?_getD, List.getElem?_eq_none (by omega)]; rfl
    rw [e, Nat.sub_zero, e2]
    simp [row, hasB_nil]

theorem part_iff {n : Nat} {fa fb : Nat → Bool} {la lb : List Int} (ha : ∀ x, x < n → fa x = hasB la x) (hb : ∀ x, x < n → fb x = hasB lb x) (hi : ∀ x ∈ la, 0 ≤ x ∧ x < n) : (∀ x, x < n → fa x = true → fb x = true) ↔ partB la lb = true := by
  unfold partB
  rw [List.all_eq_true]
  constructor
  · intro h x hx
    obtain ⟨h0, h1⟩ := hi x hx
    have := h x.toNat (by omega)
    rw [ha _ (by omega), hb _ (by omega), Int.toNat_of_nonneg h0] at this
    exact this (hasB_iff.2 hx)
  · intro h x hx hf
    rw [ha x hx] at hf
    rw [hb x hx]
    exact h x (hasB_iff.1 hf)
theorem filt_iff {n : Nat} {fa fb : Nat → Bool} {la lb : List Int} (ha : ∀ x, x < n → fa x = hasB la x) (hb : ∀ x, x < n → fb x = hasB lb x) : ∀ (l : List Int), (∀ x ∈ l, 0 ≤ x ∧ x < n) → ((∀ x ∈ l, fa x.toNat = true → fb x.toNat = true) ↔ filt la lb l = true)
  | [], _ => ⟨fun _ => rfl, fun _ x hx => by cases hx⟩
  | x :: l, hi => by
    obtain ⟨h0, h1⟩ := hi x List.mem_cons_self
    have ih := filt_iff ha hb l (fun y hy => hi y (List.mem_cons_of_mem _ hy))
    have e1 := ha x.toNat (by omega)
    have e2 := hb x.toNat (by omega)
    rw [Int.toNat_of_nonneg h0] at e1 e2
    rw [filt_cons, Bool.and_eq_true, ← ih, ← e1, ← e2]
    constructor
    · intro h
      refine ⟨?_, fun y hy => h y (List.mem_cons_of_mem _ hy)⟩
      have := h x List.mem_cons_self
      cases h3 : fa x.toNat
      · rfl
      · rw [this h3]; rfl
    · rintro ⟨h2, h3⟩ y hy
      rcases List.mem_cons.1 hy with rfl | hy
      · intro h4; rw [h4] at h2; simpa using h2
      · exact h3 y hy
theorem cellIx_eq {s : Sys} (h0 : 0 ≤ s.vars) {f : Int} {x : Nat} (h1 : 0 ≤ (x : Int) * s.fields + f) : cellIx s f x = s.vars.toNat + ((x : Int) * s.fields + f).toNat := by unfold cellIx; omega
theorem loads_iff {s : Sys} {n : Nat} {p : Pts} {m : Nat → Nat → Bool} (R : Rep s n p m) (hin : RowsIn s.sites p) (hs : s.sites = n) (hv : 0 ≤ s.vars) {b f : Int} (b0 : 0 ≤ b) (b1 : b < s.vars) (f0 : 0 ≤ f) (f1 : f < s.fields) : ∀ (l : List Int), (∀ x ∈ l, 0 ≤ x ∧ x < s.sites) →
    ((∀ y : Nat, (y : Int) ∈ l → ∀ x, x < n → m (cellIx s f y) x = true → m b.toNat x = true) ↔ loadsB p.cells s.fields f (row p.vars b) l = true)
  | [], _ => ⟨fun _ => rfl, fun _ x hx => by cases hx⟩
  | z :: l, hi => by
    obtain ⟨h0, h1⟩ := hi z List.mem_cons_self
    have ih := loads_iff R hin hs hv b0 b1 f0 f1 l (fun y hy => hi y (List.mem_cons_of_mem _ hy))
    obtain ⟨g0, g1⟩ := cell_lt h0 h1 f0 f1
    have hb : ∀ x : Nat, x < n → m b.toNat x = hasB (row p.vars b) x := fun x hx => by have := R.v b.toNat (by omega) x hx; rwa [Int.toNat_of_nonneg b0] at this
    have hc : ∀ x : Nat, x < n → m (cellIx s f z.toNat) x = hasB (row p.cells (z * s.fields + f)) x := fun x hx => by
      have := R.c (z * s.fields + f).toNat (by omega) x hx
      rw [Int.toNat_of_nonneg g0] at this
      rw [cellIx_eq hv (by rw [Int.toNat_of_nonneg h0]; exact g0), Int.toNat_of_nonneg h0]; exact this
    have hp := part_iff hc hb (by rw [← hs]; exact row_in hin.c _)
    rw [loadsB_cons, Bool.and_eq_true, ← ih, ← hp]
    constructor
    · intro h
      exact ⟨h z.toNat (by rw [Int.toNat_of_nonneg h0]; exact List.mem_cons_self), fun y hy => h y (List.mem_cons_of_mem _ hy)⟩
    · rintro ⟨h2, h3⟩ y hy
      rcases List.mem_cons.1 hy with e | hy
      · rw [show y = z.toNat by omega]; exact h2
      · exact h3 y hy
theorem stores_iff {s : Sys} {n : Nat} {p : Pts} {m : Nat → Nat → Bool} (R : Rep s n p m) (hin : RowsIn s.sites p) (hs : s.sites = n) (hv : 0 ≤ s.vars) {a f : Int} (a0 : 0 ≤ a) (a1 : a < s.vars) (f0 : 0 ≤ f) (f1 : f < s.fields) : ∀ (l : List Int), (∀ x ∈ l, 0 ≤ x ∧ x < s.sites) →
    ((∀ y : Nat, (y : Int) ∈ l → ∀ x, x < n → m a.toNat x = true → m (cellIx s f y) x = true) ↔ storesB p.cells s.fields f (row p.vars a) l = true)
  | [], _ => ⟨fun _ => rfl, fun _ x hx => by cases hx⟩
  | z :: l, hi => by
    obtain ⟨h0, h1⟩ := hi z List.mem_cons_self
    have ih := stores_iff R hin hs hv a0 a1 f0 f1 l (fun y hy => hi y (List.mem_cons_of_mem _ hy))
    obtain ⟨g0, g1⟩ := cell_lt h0 h1 f0 f1
    have ha : ∀ x : Nat, x < n → m a.toNat x = hasB (row p.vars a) x := fun x hx => by have := R.v a.toNat (by omega) x hx; rwa [Int.toNat_of_nonneg a0] at this
    have hc : ∀ x : Nat, x < n → m (cellIx s f z.toNat) x = hasB (row p.cells (z * s.fields + f)) x := fun x hx => by
      have := R.c (z * s.fields + f).toNat (by omega) x hx
      rw [Int.toNat_of_nonneg g0] at this
      rw [cellIx_eq hv (by rw [Int.toNat_of_nonneg h0]; exact g0), Int.toNat_of_nonneg h0]; exact this
    have hp := part_iff ha hc (by rw [← hs]; exact row_in hin.v _)
    rw [storesB_cons, Bool.and_eq_true, ← ih, ← hp]
    constructor
    · intro h
      exact ⟨h z.toNat (by rw [Int.toNat_of_nonneg h0]; exact List.mem_cons_self), fun y hy => h y (List.mem_cons_of_mem _ hy)⟩
    · rintro ⟨h2, h3⟩ y hy
      rcases List.mem_cons.1 hy with e | hy
      · rw [show y = z.toNat by omega]; exact h2
      · exact h3 y hy

theorem holds_iff {s : Sys} {n : Nat} {p : Pts} {m : Nat → Nat → Bool} (R : Rep s n p m) (hin : RowsIn s.sites p) (hs : s.sites = n) (hv : 0 ≤ s.vars) {c : Con} (hc : ConOk s c) : Holds s n m c ↔ holdsB s p c = true := by
  obtain ⟨hk, ha, hb, hf, hset, _, _, _⟩ := hc
  have rv : ∀ i : Int, 0 ≤ i → i < s.vars → ∀ x : Nat, x < n → m i.toNat x = hasB (row p.vars i) x := fun i h0 h1 x hx => by
    have := R.v i.toNat (by omega) x hx; rwa [Int.toNat_of_nonneg h0] at this
  unfold Holds holdsB
  by_cases e1 : c.kind = 1
  · rw [if_pos e1] at ha
    rw [if_pos e1, if_pos e1, rv c.b hb.1 hb.2 _ (by omega), Int.toNat_of_nonneg ha.1]
  rw [if_neg e1] at ha
  rw [if_neg e1, if_neg e1]
  by_cases e2 : c.kind = 2
  · rw [if_pos e2, if_pos e2]
    exact part_iff (rv _ ha.1 ha.2) (rv _ hb.1 hb.2) (by rw [← hs]; exact row_in hin.v _)
  rw [if_neg e2, if_neg e2]
  by_cases e5 : c.kind = 5
  · rw [if_pos e5, if_pos e5]
    exact filt_iff (rv _ ha.1 ha.2) (rv _ hb.1 hb.2) _ (by rw [← hs]; exact hset)
  rw [if_neg e5, if_neg e5]
  by_cases e3 : c.kind = 3
  · rw [if_pos e3, if_pos e3]
    obtain ⟨f0, f1⟩ := hf (by rw [e3]; rfl)
    rw [← loads_iff R hin hs hv hb.1 hb.2 f0 f1 _ (row_in hin.v _)]
    constructor
    · intro h y hy
      obtain ⟨y0, y1⟩ := row_in hin.v _ _ hy
      exact h y (by omega) (by rw [rv _ ha.1 ha.2 _ (by omega)]; exact hasB_iff.2 hy)
    · intro h y hy hm
      rw [rv _ ha.1 ha.2 _ hy] at hm
      exact h y (hasB_iff.1 hm)
  rw [if_neg e3, if_neg e3]
  obtain ⟨f0, f1⟩ := hf (by have : c.kind = 4 := by omega
                            rw [this]; rfl)
  rw [← stores_iff R hin hs hv ha.1 ha.2 f0 f1 _ (row_in hin.v _)]
  constructor
  · intro h y hy
    obtain ⟨y0, y1⟩ := row_in hin.v _ _ hy
    exact h y (by omega) (by rw [rv _ hb.1 hb.2 _ (by omega)]; exact hasB_iff.2 hy)
  · intro h y hy hm
    rw [rv _ hb.1 hb.2 _ hy] at hm
    exact h y (hasB_iff.1 hm)
theorem allHold_iff {s : Sys} {n : Nat} {p : Pts} {m : Nat → Nat → Bool} (R : Rep s n p m) (hin : RowsIn s.sites p) (hs : s.sites = n) (hv : 0 ≤ s.vars) : ∀ (l : List Con), (∀ c ∈ l, ConOk s c) → ((∀ c ∈ l, Holds s n m c) ↔ allHold s p l = true)
  | [], _ => ⟨fun _ => rfl, fun _ c hc => by cases hc⟩
  | c :: l, h => by
    rw [allHold_cons, Bool.and_eq_true, ← holds_iff R hin hs hv (h c List.mem_cons_self), ← allHold_iff R hin hs hv l fun d hd => h d (List.mem_cons_of_mem _ hd)]
    simp
/-- the pass over what was loaded asks whether all hold -/
theorem pass_is {s : Sys} {n : Nat} {p : Pts} {m : Nat → Nat → Bool} (ok : SysOk s) (R : Rep s n p m) (hin : RowsIn s.sites p) (hs : s.sites = n) (h12 : n ≤ 12) (hc : ∀ c ∈ s.cons, ConOk s c) : (!(passP s n s.cons (m, false)).2) = allHold s p s.cons := by
  have h1 := allHold_iff R hin hs ok.vars.1 s.cons hc
  cases e : (passP s n s.cons (m, false)).2
  · have := passP_false ok hs h12 s.cons (m, false) hc e
    rw [h1.1 this]; rfl
  · cases e2 : allHold s p s.cons
    · rfl
    · have := passP_id h12 s.cons (m, false) (h1.2 e2)
      rw [this] at e; cases e

/-! ### rows that are ascending lists of sites -/
theorem chk_some (n : Int) : ∀ (l : List Int) (q : Int), rowChk n (some q) l = (ascB (q :: l) && !l.any fun x => !amongB x n)
  | [], q => rfl
  | a :: l, q => by
    show (amongB a n && decide (q < a) && rowChk n (some a) l) = _
    rw [chk_some n l a, ascB_cons2, List.any_cons]
    cases amongB a n <;> cases decide (q < a) <;> cases ascB (a :: l) <;> simp
theorem chk_none (n : Int) (l : List Int) : rowChk n none l = !badRow n l := by
  unfold badRow
  match l with
  | [] => rfl
  | a :: l =>
    show (amongB a n && rowChk n (some a) l) = _
    rw [chk_some n l a, List.any_cons]
    cases amongB a n <;> cases ascB (a :: l) <;> simp
theorem setsB_bad (n : Int) : ∀ l : List (List Int), setsB n l = !l.any (badRow n)
  | [] => rfl
  | a :: l => by rw [setsB_cons, chk_none, setsB_bad n l, List.any_cons, Bool.not_or]
theorem validB_is (l : List (List Int)) (n k : Int) : validB l n k = (decide ((l.length : Int) = n) && setsB k l) := by unfold validB; rw [setsB_bad]
end Go.Proofs.YtcfiohphjlohhaaDoor
