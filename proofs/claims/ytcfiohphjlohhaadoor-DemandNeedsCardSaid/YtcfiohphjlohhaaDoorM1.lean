/- Plain mathematics: what the reference's rounds come to: the least solution. No memory and no Go in it. -/
import Derived.Test.YtcfiohphjlohhaaDoorT13
namespace Go.Proofs.YtcfiohphjlohhaaDoor

/-! ### counting what is not there -/
def sumTo : Nat → (Nat → Nat) → Nat
  | 0, _ => 0
  | k + 1, f => sumTo k f + f k
theorem sumTo_le {f g : Nat → Nat} : ∀ {k : Nat}, (∀ i, i < k → f i ≤ g i) → sumTo k f ≤ sumTo k g
  | 0, _ => Nat.le_refl _
  | k + 1, h => Nat.add_le_add (sumTo_le fun i hi => h i (by omega)) (h k (by omega))
theorem sumTo_lt {f g : Nat → Nat} : ∀ {k : Nat}, (∀ i, i < k → f i ≤ g i) → ∀ j, j < k → f j < g j → sumTo k f < sumTo k g
  | 0, _, j, hj, _ => absurd hj (Nat.not_lt_zero _)
  | k + 1, h, j, hj, hlt => by
    by_cases e : j = k
    · subst e
      exact Nat.add_lt_add_of_le_of_lt (sumTo_le fun i hi => h i (by omega)) hlt
    · exact Nat.add_lt_add_of_lt_of_le (sumTo_lt (fun i hi => h i (by omega)) j (by omega) hlt) (h k (by omega))
def unset (rows n : Nat) (m : Nat → Nat → Bool) : Nat := sumTo rows fun r => sumTo n fun x => if m r x = true then 0 else 1
theorem unset_le {rows n : Nat} {m m' : Nat → Nat → Bool} (h : ∀ r x, m r x = true → m' r x = true) : unset rows n m' ≤ unset rows n m :=
  sumTo_le fun r _ => sumTo_le fun x _ => by
    by_cases e : m r x = true
    · rw [if_pos e, if_pos (h r x e)]; exact Nat.le_refl _
    · rw [if_neg e]; split <;> omega
theorem unset_lt {rows n : Nat} {m m' : Nat → Nat → Bool} (h : ∀ r x, m r x = true → m' r x = true) {r x : Nat} (hr : r < rows) (hx : x < n) (h0 : m r x = false) (h1 : m' r x = true) : unset rows n m' < unset rows n m := by
  have hle : ∀ r x, (if m' r x = true then 0 else 1) ≤ (if m r x = true then 0 else 1) := fun r x => by
    by_cases e : m r x = true
    · rw [if_pos e, if_pos (h r x e)]; exact Nat.le_refl _
    · rw [if_neg e]; split <;> omega
  refine sumTo_lt (fun r _ => sumTo_le fun x _ => hle r x) r hr (sumTo_lt (fun x _ => hle r x) x hx ?_)
  rw [if_pos h1, if_neg (by rw [h0]; exact Bool.false_ne_true)]
  exact Nat.zero_lt_one

/-! ### states that grow -/
structure Grows (rows n : Nat) (st st' : St) : Prop where
  mono : ∀ r x, st.1 r x = true → st'.1 r x = true
  same : st'.2 = false → st'.1 = st.1 ∧ st.2 = false
  less : st'.2 = true → st.2 = true ∨ unset rows n st'.1 < unset rows n st.1
theorem Grows.refl (rows n : Nat) (st : St) : Grows rows n st st := ⟨fun _ _ h => h, fun h => ⟨rfl, h⟩, fun h => .inl h⟩
theorem Grows.trans {rows n : Nat} {a b c : St} (h : Grows rows n a b) (k : Grows rows n b c) : Grows rows n a c := by
  refine ⟨fun r x e => k.mono r x (h.mono r x e), fun e => ?_, fun e => ?_⟩
  · obtain ⟨e1, e2⟩ := k.same e
    obtain ⟨e3, e4⟩ := h.same e2
    exact ⟨e1.trans e3, e4⟩
  · rcases k.less e with e1 | e1
    · rcases h.less e1 with e2 | e2
      · exact .inl e2
      · exact .inr (Nat.lt_of_le_of_lt (unset_le k.mono) e2)
    · exact .inr (Nat.lt_of_lt_of_le e1 (unset_le h.mono))
theorem upd_mono (m : Nat → Nat → Bool) (k y : Nat) : ∀ r x, m r x = true → upd m k y r x = true := fun r x h => by unfold upd; split <;> first | rfl | exact h
theorem Grows.put {rows n : Nat} (st : St) {k x : Nat} (hk : k < rows) (hx : x < n) : Grows rows n st (putS st k x) := by
  unfold putS
  by_cases h : st.1 k x = true
  · rw [if_pos h]; exact Grows.refl _ _ _
  · rw [if_neg h]
    refine ⟨upd_mono _ _ _, (fun e => by cases e), fun _ => .inr (unset_lt (upd_mono _ _ _) hk hx (by simpa using h) (by simp [upd]))⟩
/-- nothing was put: it was there -/
theorem put_false {st : St} {k x : Nat} (h : (putS st k x).2 = false) : st.1 k x = true ∧ putS st k x = st := by
  unfold putS at h ⊢
  by_cases e : st.1 k x = true
  · exact ⟨e, if_pos e⟩
  · rw [if_neg e] at h; cases h
def Le (m M : Nat → Nat → Bool) : Prop := ∀ r x, m r x = true → M r x = true
theorem put_le {st : St} {k x : Nat} {M : Nat → Nat → Bool} (h : Le st.1 M) (hM : M k x = true) : Le (putS st k x).1 M := by
  unfold putS
  split
  · exact h
  · intro r y e
    simp only [upd] at e
    split at e
    · rename_i hh; rw [hh.1, hh.2]; exact hM
    · exact h r y e

/-! ### flow -/
theorem flow_grows {rows n a b : Nat} (hb : b < rows) : ∀ (d x : Nat) (st : St), x + d ≤ n → Grows rows n st (flowS n a b d x st)
  | 0, _, st, _ => Grows.refl _ _ st
  | d + 1, x, st, h => by
    rw [flowS_succ]
    refine Grows.trans ?_ (flow_grows hb d (x + 1) _ (by omega))
    split
    · exact Grows.put st hb (by omega)
    · exact Grows.refl _ _ _
theorem flow_le {n a b : Nat} {M : Nat → Nat → Bool} : ∀ (d x : Nat) (st : St), Le st.1 M → (∀ y, x ≤ y → y < x + d → M a y = true → M b y = true) → Le (flowS n a b d x st).1 M
  | 0, _, st, h, _ => h
  | d + 1, x, st, h, hM => by
    rw [flowS_succ]
    refine flow_le d (x + 1) _ ?_ (fun y h1 h2 => hM y (by omega) (by omega))
    split
    · rename_i hx
      exact put_le h (hM x (by omega) (by omega) (h a x hx))
    · exact h
theorem flow_false {rows n a b : Nat} (hb : b < rows) : ∀ (d x : Nat) (st : St), x + d ≤ n → (flowS n a b d x st).2 = false → ∀ y, x ≤ y → y < x + d → st.1 a y = true → st.1 b y = true
  | 0, _, st, _, _ => fun y h1 h2 => by omega
  | d + 1, x, st, h, hf => by
    intro y h1 h2 hy
    rw [flowS_succ] at hf
    have hg := (flow_grows (a := a) hb d (x + 1) (if st.1 a x = true then putS st b x else st) (by omega)).same hf
    have ih := flow_false hb d (x + 1) _ (by omega) hf
    by_cases hx : st.1 a x = true
    · rw [if_pos hx] at hg ih
      obtain ⟨e1, e2⟩ := put_false hg.2
      rw [e2] at ih
      by_cases e : y = x
      · subst e; exact e1
      · exact ih y (by omega) (by omega) hy
    · rw [if_neg hx] at ih
      by_cases e : y = x
      · subst e; exact absurd hy hx
      · exact ih y (by omega) (by omega) hy

/-! ### filter -/
theorem filt_grows {rows n a b : Nat} (hb : b < rows) : ∀ (l : List Int) (st : St), (∀ x ∈ l, 0 ≤ x ∧ x < (n : Int)) → Grows rows n st (filtS a b l st)
  | [], st, _ => Grows.refl _ _ st
  | x :: l, st, h => by
    rw [filtS_cons]
    refine Grows.trans ?_ (filt_grows hb l _ fun y hy => h y (List.mem_cons_of_mem _ hy))
    have := h x (List.mem_cons_self ..)
    split
    · exact Grows.put st hb (by omega)
    · exact Grows.refl _ _ _
theorem filt_le {a b : Nat} {M : Nat → Nat → Bool} : ∀ (l : List Int) (st : St), Le st.1 M → (∀ x ∈ l, M a x.toNat = true → M b x.toNat = true) → Le (filtS a b l st).1 M
  | [], st, h, _ => h
  | x :: l, st, h, hM => by
    rw [filtS_cons]
    refine filt_le l _ ?_ fun y hy => hM y (List.mem_cons_of_mem _ hy)
    split
    · rename_i hx
      exact put_le h (hM x (List.mem_cons_self ..) (h a _ hx))
    · exact h
theorem filt_false {rows n a b : Nat} (hb : b < rows) : ∀ (l : List Int) (st : St), (∀ x ∈ l, 0 ≤ x ∧ x < (n : Int)) → (filtS a b l st).2 = false → ∀ x ∈ l, st.1 a x.toNat = true → st.1 b x.toNat = true
  | [], st, _, _ => fun x hx => by cases hx
  | x :: l, st, h, hf => by
    intro y hy hya
    rw [filtS_cons] at hf
    have hl : ∀ z ∈ l, 0 ≤ z ∧ z < (n : Int) := fun z hz => h z (List.mem_cons_of_mem _ hz)
    have hg := (filt_grows (a := a) hb l (if st.1 a x.toNat = true then putS st b x.toNat else st) hl).same hf
    have ih := filt_false hb l _ hl hf
    by_cases hx : st.1 a x.toNat = true
    · rw [if_pos hx] at hg ih
      obtain ⟨e1, e2⟩ := put_false hg.2
      rw [e2] at ih
      rcases List.mem_cons.1 hy with rfl | hy
      · exact e1
      · exact ih y hy hya
    · rw [if_neg hx] at ih
      rcases List.mem_cons.1 hy with rfl | hy
      · exact absurd hya hx
      · exact ih y hy hya

/-! ### load and store -/
theorem load_grows {rows n : Nat} {s : Sys} {a b : Nat} {f : Int} (hb : b < rows) : ∀ (d x : Nat) (st : St), Grows rows n st (loadS s n a b f d x st)
  | 0, _, st => Grows.refl _ _ st
  | d + 1, x, st => by
    rw [loadS_succ]
    refine Grows.trans ?_ (load_grows hb d (x + 1) _)
    split
    · exact flow_grows hb n 0 st (by omega)
    · exact Grows.refl _ _ _
theorem load_le {n : Nat} {s : Sys} {a b : Nat} {f : Int} {M : Nat → Nat → Bool} : ∀ (d x : Nat) (st : St), Le st.1 M → (∀ y, x ≤ y → y < x + d → M a y = true → ∀ z, z < n → M (cellIx s f y) z = true → M b z = true) → Le (loadS s n a b f d x st).1 M
  | 0, _, st, h, _ => h
  | d + 1, x, st, h, hM => by
    rw [loadS_succ]
    refine load_le d (x + 1) _ ?_ (fun y h1 h2 => hM y (by omega) (by omega))
    split
    · rename_i hx
      exact flow_le n 0 st h fun z _ h2 => hM x (by omega) (by omega) (h a x hx) z (by omega)
    · exact h
theorem load_false {rows n : Nat} {s : Sys} {a b : Nat} {f : Int} (hb : b < rows) : ∀ (d x : Nat) (st : St), (loadS s n a b f d x st).2 = false → ∀ y, x ≤ y → y < x + d → st.1 a y = true → ∀ z, z < n → st.1 (cellIx s f y) z = true → st.1 b z = true
  | 0, _, st, _ => fun y h1 h2 => by omega
  | d + 1, x, st, hf => by
    intro y h1 h2 hy z hz hc
    rw [loadS_succ] at hf
    have hg := (load_grows (rows := rows) (n := n) (s := s) (a := a) (f := f) hb d (x + 1) _).same hf
    have ih := load_false (rows := rows) hb d (x + 1) _ hf
    by_cases hx : st.1 a x = true
    · rw [if_pos hx] at hg ih
      have hs := ((flow_grows (a := cellIx s f x) hb n 0 st (by omega)).same hg.2)
      rw [hs.1] at ih
      by_cases e : y = x
      · subst e
        exact flow_false hb n 0 st (by omega) hg.2 z (by omega) (by omega) hc
      · exact ih y (by omega) (by omega) hy z hz hc
    · rw [if_neg hx] at ih
      by_cases e : y = x
      · subst e; exact absurd hy hx
      · exact ih y (by omega) (by omega) hy z hz hc
theorem store_grows {rows n : Nat} {s : Sys} {a b : Nat} {f : Int} (hc : ∀ x, x < n → cellIx s f x < rows) : ∀ (d x : Nat) (st : St), x + d ≤ n → Grows rows n st (storeS s n a b f d x st)
  | 0, _, st, _ => Grows.refl _ _ st
  | d + 1, x, st, h => by
    rw [storeS_succ]
    refine Grows.trans ?_ (store_grows hc d (x + 1) _ (by omega))
    split
    · exact flow_grows (hc x (by omega)) n 0 st (by omega)
    · exact Grows.refl _ _ _
theorem store_le {n : Nat} {s : Sys} {a b : Nat} {f : Int} {M : Nat → Nat → Bool} : ∀ (d x : Nat) (st : St), Le st.1 M → (∀ y, x ≤ y → y < x + d → M b y = true → ∀ z, z < n → M a z = true → M (cellIx s f y) z = true) → Le (storeS s n a b f d x st).1 M
  | 0, _, st, h, _ => h
  | d + 1, x, st, h, hM => by
    rw [storeS_succ]
    refine store_le d (x + 1) _ ?_ (fun y h1 h2 => hM y (by omega) (by omega))
    split
    · rename_i hx
      exact flow_le n 0 st h fun z _ h2 => hM x (by omega) (by omega) (h b x hx) z (by omega)
    · exact h
theorem store_false {rows n : Nat} {s : Sys} {a b : Nat} {f : Int} (hcx : ∀ x, x < n → cellIx s f x < rows) : ∀ (d x : Nat) (st : St), x + d ≤ n → (storeS s n a b f d x st).2 = false → ∀ y, x ≤ y → y < x + d → st.1 b y = true → ∀ z, z < n → st.1 a z = true → st.1 (cellIx s f y) z = true
  | 0, _, st, _, _ => fun y h1 h2 => by omega
  | d + 1, x, st, h, hf => by
    intro y h1 h2 hy z hz hc
    rw [storeS_succ] at hf
    have hg := (store_grows (a := a) (b := b) hcx d (x + 1) _ (by omega)).same hf
    have ih := store_false (rows := rows) hcx d (x + 1) _ (by omega) hf
    by_cases hx : st.1 b x = true
    · rw [if_pos hx] at hg ih
      have hs := ((flow_grows (a := a) (hcx x (by omega)) n 0 st (by omega)).same hg.2)
      rw [hs.1] at ih
      by_cases e : y = x
      · subst e
        exact flow_false (hcx y (by omega)) n 0 st (by omega) hg.2 z (by omega) (by omega) hc
      · exact ih y (by omega) (by omega) hy z hz hc
    · rw [if_neg hx] at ih
      by_cases e : y = x
      · subst e; exact absurd hy hx
      · exact ih y (by omega) (by omega) hy z hz hc

/-! ### constraints -/
/-- m satisfies c -/
def Holds (s : Sys) (n : Nat) (m : Nat → Nat → Bool) (c : Con) : Prop :=
  if c.kind = 1 then m c.b.toNat c.a.toNat = true
  else if c.kind = 2 then ∀ x, x < n → m c.a.toNat x = true → m c.b.toNat x = true
  else if c.kind = 5 then ∀ x ∈ c.set, m c.a.toNat x.toNat = true → m c.b.toNat x.toNat = true
  else if c.kind = 3 then ∀ y, y < n → m c.a.toNat y = true → ∀ x, x < n → m (cellIx s c.field y) x = true → m c.b.toNat x = true
  else ∀ y, y < n → m c.b.toNat y = true → ∀ x, x < n → m c.a.toNat x = true → m (cellIx s c.field y) x = true
def Sat (s : Sys) (n : Nat) (m : Nat → Nat → Bool) : Prop := ∀ c ∈ s.cons, Holds s n m c
/-- the least one that satisfies all -/
structure IsLeast (s : Sys) (n : Nat) (m : Nat → Nat → Bool) : Prop where
  sat : Sat s n m
  least : ∀ M, Sat s n M → Le m M
theorem IsLeast.unique {s : Sys} {n : Nat} {m m' : Nat → Nat → Bool} (h : IsLeast s n m) (h' : IsLeast s n m') : m = m' := by
  funext r x
  have e1 := h.least m' h'.sat r x
  have e2 := h'.least m h.sat r x
  cases e : m r x <;> cases e' : m' r x <;> simp_all

/-- the number of rows -/
def rowsOf (s : Sys) : Nat := (s.vars + s.sites * s.fields).toNat
theorem cellIx_lt {s : Sys} {n : Nat} (ok : SysOk s) (hn : s.sites = n) {f : Int} (f0 : 0 ≤ f) (f1 : f < s.fields) {x : Nat} (hx : x < n) : cellIx s f x < rowsOf s := by
  have hv := ok.vars
  obtain ⟨e0, e1⟩ := cell_lt (x := (x : Int)) (f := s.fields) (g := f) (n := s.sites) (by omega) (by omega) f0 f1
  unfold cellIx rowsOf
  omega
theorem row_lt {s : Sys} (ok : SysOk s) {b : Int} (b0 : 0 ≤ b) (b1 : b < s.vars) : b.toNat < rowsOf s := by
  have hv := ok.vars
  have := Int.mul_nonneg ok.sites.1 ok.fields.1
  unfold rowsOf; omega

section
variable {s : Sys} {n : Nat} {c : Con}
theorem apply_grows (ok : SysOk s) (hn : s.sites = n) (hc : ConOk s c) (st : St) : Grows (rowsOf s) n st (applyS s n c st) := by
  obtain ⟨hk, ha, hb, hf, hset, _, _, _⟩ := hc
  have hbr := row_lt ok hb.1 hb.2
  unfold applyS
  by_cases e1 : c.kind = 1
  · rw [if_pos e1]; rw [if_pos e1] at ha
    exact Grows.put st hbr (by omega)
  rw [if_neg e1]
  by_cases e2 : c.kind = 2
  · rw [if_pos e2]; exact flow_grows hbr n 0 st (by omega)
  rw [if_neg e2]
  by_cases e5 : c.kind = 5
  · rw [if_pos e5]; exact filt_grows hbr _ st (by rw [← hn]; exact hset)
  rw [if_neg e5]
  by_cases e3 : c.kind = 3
  · rw [if_pos e3]; exact load_grows hbr n 0 st
  rw [if_neg e3]
  have hacc : accB c.kind = true := by have : c.kind = 4 := by omega
                                       rw [this]; rfl
  exact store_grows (fun x hx => cellIx_lt ok hn (hf hacc).1 (hf hacc).2 hx) n 0 st (by omega)
theorem apply_le {M : Nat → Nat → Bool} (h : Holds s n M c) (st : St) (hl : Le st.1 M) : Le (applyS s n c st).1 M := by
  unfold applyS
  unfold Holds at h
  by_cases e1 : c.kind = 1
  · rw [if_pos e1]; rw [if_pos e1] at h
    exact put_le hl h
  rw [if_neg e1]; rw [if_neg e1] at h
  by_cases e2 : c.kind = 2
  · rw [if_pos e2]; rw [if_pos e2] at h
    exact flow_le n 0 st hl fun y _ h2 => h y (by omega)
  rw [if_neg e2]; rw [if_neg e2] at h
  by_cases e5 : c.kind = 5
  · rw [if_pos e5]; rw [if_pos e5] at h
    exact filt_le _ st hl h
  rw [if_neg e5]; rw [if_neg e5] at h
  by_cases e3 : c.kind = 3
  · rw [if_pos e3]; rw [if_pos e3] at h
    exact load_le n 0 st hl fun y _ h2 => h y (by omega)
  rw [if_neg e3]; rw [if_neg e3] at h
  exact store_le n 0 st hl fun y _ h2 => h y (by omega)
theorem apply_false (ok : SysOk s) (hn : s.sites = n) (hc : ConOk s c) (st : St) (hf : (applyS s n c st).2 = false) : Holds s n st.1 c := by
  obtain ⟨hk, ha, hb, hfd, hset, _, _, _⟩ := hc
  have hbr := row_lt ok hb.1 hb.2
  unfold applyS at hf
  unfold Holds
  by_cases e1 : c.kind = 1
  · rw [if_pos e1]; rw [if_pos e1] at hf
    exact (put_false hf).1
  rw [if_neg e1]; rw [if_neg e1] at hf
  by_cases e2 : c.kind = 2
  · rw [if_pos e2]; rw [if_pos e2] at hf
    exact fun x hx => flow_false hbr n 0 st (by omega) hf x (by omega) (by omega)
  rw [if_neg e2]; rw [if_neg e2] at hf
  by_cases e5 : c.kind = 5
  · rw [if_pos e5]; rw [if_pos e5] at hf
    exact filt_false hbr _ st (by rw [← hn]; exact hset) hf
  rw [if_neg e5]; rw [if_neg e5] at hf
  by_cases e3 : c.kind = 3
  · rw [if_pos e3]; rw [if_pos e3] at hf
    exact fun y hy => load_false hbr n 0 st hf y (by omega) (by omega)
  rw [if_neg e3]; rw [if_neg e3] at hf
  have hacc : accB c.kind = true := by have : c.kind = 4 := by omega
                                       rw [this]; rfl
  exact fun y hy => store_false (fun x hx => cellIx_lt ok hn (hfd hacc).1 (hfd hacc).2 hx) n 0 st (by omega) hf y (by omega) (by omega)
end

/-! ### rounds -/
def passS (s : Sys) (n : Nat) : List Con → St → St
  | [], st => st
  | c :: l, st => passS s n l (applyS s n c st)
theorem passS_cons (s : Sys) (n : Nat) (c : Con) (l : List Con) (st : St) : passS s n (c :: l) st = passS s n l (applyS s n c st) := rfl
theorem pass_grows {s : Sys} {n : Nat} (ok : SysOk s) (hn : s.sites = n) : ∀ (l : List Con) (st : St), (∀ c ∈ l, ConOk s c) → Grows (rowsOf s) n st (passS s n l st)
  | [], st, _ => Grows.refl _ _ st
  | c :: l, st, h => (apply_grows ok hn (h c (List.mem_cons_self ..)) st).trans (pass_grows ok hn l _ fun d hd => h d (List.mem_cons_of_mem _ hd))
theorem pass_le {s : Sys} {n : Nat} {M : Nat → Nat → Bool} : ∀ (l : List Con) (st : St), (∀ c ∈ l, Holds s n M c) → Le st.1 M → Le (passS s n l st).1 M
  | [], _, _, h => h
  | c :: l, st, hM, h => pass_le l _ (fun d hd => hM d (List.mem_cons_of_mem _ hd)) (apply_le (hM c (List.mem_cons_self ..)) st h)
theorem pass_false {s : Sys} {n : Nat} (ok : SysOk s) (hn : s.sites = n) : ∀ (l : List Con) (st : St), (∀ c ∈ l, ConOk s c) → (passS s n l st).2 = false → ∀ c ∈ l, Holds s n st.1 c
  | [], _, _, _ => fun c hc => by cases hc
  | c :: l, st, h, hf => by
    intro d hd
    rw [passS_cons] at hf
    have h1 := (pass_grows ok hn l (applyS s n c st) fun d hd => h d (List.mem_cons_of_mem _ hd)).same hf
    have h2 := (apply_grows ok hn (h c (List.mem_cons_self ..)) st).same h1.2
    rcases List.mem_cons.1 hd with rfl | hd
    · exact apply_false ok hn (h d (List.mem_cons_self ..)) st h1.2
    · have := pass_false ok hn l _ (fun d hd => h d (List.mem_cons_of_mem _ hd)) hf d hd
      rw [h2.1] at this
      exact this

/-- how many rounds may still come -/
def meas (s : Sys) (n : Nat) (st : St) : Nat := unset (rowsOf s) n st.1 + (if st.2 = true then 1 else 0)
theorem meas_pass {s : Sys} {n : Nat} (ok : SysOk s) (hn : s.sites = n) (hc : ∀ c ∈ s.cons, ConOk s c) {st : St} (h : st.2 = true) : meas s n (passS s n s.cons (st.1, false)) < meas s n st := by
  have g := pass_grows ok hn s.cons (st.1, false) hc
  unfold meas
  rw [if_pos h]
  cases e : (passS s n s.cons (st.1, false)).2
  · rw [if_neg Bool.false_ne_true]
    have : unset (rowsOf s) n (passS s n s.cons (st.1, false)).1 ≤ unset (rowsOf s) n st.1 := unset_le (rows := rowsOf s) (n := n) g.mono
    omega
  · rw [if_pos rfl]
    rcases g.less e with e1 | e1
    · cases e1
    · have : unset (rowsOf s) n (passS s n s.cons (st.1, false)).1 < unset (rowsOf s) n st.1 := e1
      omega
/-- what every round keeps: no more than must be -/
def Sound (s : Sys) (n : Nat) (m : Nat → Nat → Bool) : Prop := ∀ M, Sat s n M → Le m M
theorem sound_start (s : Sys) (n : Nat) : Sound s n fun _ _ => false := fun _ _ _ _ h => by cases h
theorem sound_pass {s : Sys} {n : Nat} {st : St} (h : Sound s n st.1) (b : Bool) : Sound s n (passS s n s.cons (st.1, b)).1 := fun M hM => pass_le s.cons (st.1, b) hM (h M hM)
theorem pass_sat {s : Sys} {n : Nat} (ok : SysOk s) (hn : s.sites = n) (hc : ∀ c ∈ s.cons, ConOk s c) {m : Nat → Nat → Bool} {b : Bool} (hf : (passS s n s.cons (m, b)).2 = false) : Sat s n (passS s n s.cons (m, b)).1 := by
  rw [((pass_grows ok hn s.cons (m, b) hc).same hf).1]
  exact pass_false ok hn s.cons (m, b) hc hf
end Go.Proofs.YtcfiohphjlohhaaDoor
