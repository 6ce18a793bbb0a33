/- Plain mathematics: the program's rounds. No memory and no Go in it. -/
import Derived.Test.YtcfiohphjlohhaaDoorT25
import Derived.Test.YtcfiohphjlohhaaDoorM1
namespace Go.Proofs.YtcfiohphjlohhaaDoor

theorem joinNew_iff (n : Nat) (fa fb : Nat → Bool) : joinNew n fa fb = true ↔ ∃ y, y < n ∧ fb y = true ∧ fa y = false := by
  unfold joinNew
  constructor
  · intro h
    apply Classical.byContradiction
    intro hn
    have : mask n (fun y => fa y || fb y) = mask n fa := mask_congr fun y hy => by
      cases hb : fb y
      · simp
      · cases ha : fa y
        · exact absurd ⟨y, hy, hb, ha⟩ hn
        · rfl
    simp [this] at h
  · rintro ⟨y, hy, hb, ha⟩
    have : ¬ mask n (fun y => fa y || fb y) = mask n fa := fun e => by
      have := mask_inj e y hy
      rw [hb, ha] at this; cases this
    simp [this]
theorem joinNew_false {n : Nat} {fa fb : Nat → Bool} (h : joinNew n fa fb = false) : ∀ y, y < n → fb y = true → fa y = true := fun y hy hb => by
  cases ha : fa y
  · have := (joinNew_iff n fa fb).2 ⟨y, hy, hb, ha⟩
    rw [h] at this; cases this
  · rfl
theorem joinM_mono (n : Nat) (m : Nat → Nat → Bool) (b a : Nat) : ∀ r x, m r x = true → joinM n m b a r x = true := fun r x h => by
  unfold joinM
  split
  · rename_i e; subst e; rw [h]; rfl
  · exact h
theorem join_grows {rows n b a : Nat} (hb : b < rows) (st : St) : Grows rows n st (joinS n st b a) := by
  unfold joinS
  cases hq : joinNew n (st.1 b) (st.1 a)
  · exact Grows.refl _ _ _
  · rw [if_pos rfl]
    obtain ⟨y, hy, h1, h2⟩ := (joinNew_iff _ _ _).1 hq
    exact ⟨joinM_mono _ _ _ _, (fun e => by cases e), fun _ => .inr (unset_lt (joinM_mono _ _ _ _) hb hy h2 (by simp [joinM, hy, h1]))⟩
theorem join_le {n b a : Nat} {st : St} {M : Nat → Nat → Bool} (h : Le st.1 M) (hM : ∀ x, x < n → M a x = true → M b x = true) : Le (joinS n st b a).1 M := by
  unfold joinS
  split
  · intro r x e
    simp only [joinM] at e
    split at e
    · rename_i er; subst er
      simp only [Bool.or_eq_true, Bool.and_eq_true, decide_eq_true_eq] at e
      rcases e with e | e
      · exact h _ _ e
      · exact hM x e.1 (h _ _ e.2)
    · exact h r x e
  · exact h
theorem join_false {n b a : Nat} {st : St} (h : (joinS n st b a).2 = false) : (∀ x, x < n → st.1 a x = true → st.1 b x = true) ∧ joinS n st b a = st := by
  unfold joinS at h ⊢
  cases hq : joinNew n (st.1 b) (st.1 a)
  · exact ⟨joinNew_false hq, rfl⟩
  · rw [hq, if_pos rfl] at h; cases h
theorem join_id {n b a : Nat} {st : St} (h : ∀ x, x < n → st.1 a x = true → st.1 b x = true) : joinS n st b a = st := by
  unfold joinS
  cases hq : joinNew n (st.1 b) (st.1 a)
  · rfl
  · obtain ⟨y, hy, h1, h2⟩ := (joinNew_iff _ _ _).1 hq
    rw [h y hy h1] at h2; cases h2

section
variable {rows n : Nat} {to_ from_ : Nat → Nat}
theorem joins_grows : ∀ (l : List Nat) (st : St), (∀ x ∈ l, to_ x < rows) → Grows rows n st (l.foldl (fun st x => joinS n st (to_ x) (from_ x)) st)
  | [], st, _ => Grows.refl _ _ _
  | x :: l, st, h => (join_grows (h x List.mem_cons_self) st).trans (joins_grows l _ fun y hy => h y (List.mem_cons_of_mem _ hy))
theorem joins_le {M : Nat → Nat → Bool} : ∀ (l : List Nat) (st : St), Le st.1 M → (∀ x ∈ l, ∀ z, z < n → M (from_ x) z = true → M (to_ x) z = true) → Le (l.foldl (fun st x => joinS n st (to_ x) (from_ x)) st).1 M
  | [], _, h, _ => h
  | x :: l, st, h, hM => joins_le l _ (join_le h (hM x List.mem_cons_self)) fun y hy => hM y (List.mem_cons_of_mem _ hy)
theorem joins_false : ∀ (l : List Nat) (st : St), (∀ x ∈ l, to_ x < rows) → (l.foldl (fun st x => joinS n st (to_ x) (from_ x)) st).2 = false → ∀ x ∈ l, ∀ z, z < n → st.1 (from_ x) z = true → st.1 (to_ x) z = true
  | [], _, _, _ => fun x hx => by cases hx
  | x :: l, st, hr, hf => by
    have hl : ∀ y ∈ l, to_ y < rows := fun y hy => hr y (List.mem_cons_of_mem _ hy)
    have h1 := (joins_grows (n := n) (from_ := from_) l (joinS n st (to_ x) (from_ x)) hl).same hf
    obtain ⟨e1, e2⟩ := join_false h1.2
    have ih := joins_false l (joinS n st (to_ x) (from_ x)) hl hf
    rw [e2] at ih
    intro y hy
    rcases List.mem_cons.1 hy with rfl | hy
    · exact e1
    · exact ih y hy
theorem joins_id : ∀ (l : List Nat) (st : St), (∀ x ∈ l, ∀ z, z < n → st.1 (from_ x) z = true → st.1 (to_ x) z = true) → l.foldl (fun st x => joinS n st (to_ x) (from_ x)) st = st
  | [], _, _ => rfl
  | x :: l, st, h => by
    rw [List.foldl_cons, join_id (h x List.mem_cons_self)]
    exact joins_id l st fun y hy => h y (List.mem_cons_of_mem _ hy)
end

/-- what a constraint adds: as the program goes -/
def applyP (s : Sys) (n : Nat) (c : Con) (st : St) : St :=
  if c.kind = 1 then putS st c.b.toNat c.a.toNat
  else if c.kind = 2 then joinS n st c.b.toNat c.a.toNat
  else if c.kind = 5 then filtS c.a.toNat c.b.toNat c.set st
  else if c.kind = 3 then loadP s n c.a.toNat c.b.toNat c.field st
  else storeP s n c.a.toNat c.b.toNat c.field st
section
variable {s : Sys} {n : Nat} {c : Con}
theorem ap_grows (ok : SysOk s) (hn : s.sites = n) (h12 : n ≤ 12) (hc : ConOk s c) (st : St) : Grows (rowsOf s) n st (applyP s n c st) := by
  obtain ⟨hk, ha, hb, hf, hset, _, _, _⟩ := hc
  have hbr := row_lt ok hb.1 hb.2
  unfold applyP
  by_cases e1 : c.kind = 1
  · rw [if_pos e1]; rw [if_pos e1] at ha
    exact Grows.put st hbr (by omega)
  rw [if_neg e1]
  by_cases e2 : c.kind = 2
  · rw [if_pos e2]; exact join_grows hbr st
  rw [if_neg e2]
  by_cases e5 : c.kind = 5
  · rw [if_pos e5]; exact filt_grows hbr _ st (by rw [← hn]; exact hset)
  rw [if_neg e5]
  by_cases e3 : c.kind = 3
  · rw [if_pos e3]; exact joins_grows _ st fun _ _ => hbr
  rw [if_neg e3]
  have hacc : accB c.kind = true := by have : c.kind = 4 := by omega
                                       rw [this]; rfl
  exact joins_grows _ st fun x hx => cellIx_lt ok hn (hf hacc).1 (hf hacc).2 ((mem_bits h12).1 hx).1
theorem ap_le (h12 : n ≤ 12) {M : Nat → Nat → Bool} (h : Holds s n M c) (st : St) (hl : Le st.1 M) : Le (applyP s n c st).1 M := by
  unfold applyP
  unfold Holds at h
  by_cases e1 : c.kind = 1
  · rw [if_pos e1]; rw [if_pos e1] at h
    exact put_le hl h
  rw [if_neg e1]; rw [if_neg e1] at h
  by_cases e2 : c.kind = 2
  · rw [if_pos e2]; rw [if_pos e2] at h
    exact join_le hl h
  rw [if_neg e2]; rw [if_neg e2] at h
  by_cases e5 : c.kind = 5
  · rw [if_pos e5]; rw [if_pos e5] at h
    exact filt_le _ st hl h
  rw [if_neg e5]; rw [if_neg e5] at h
  by_cases e3 : c.kind = 3
  · rw [if_pos e3]; rw [if_pos e3] at h
    exact joins_le _ st hl fun y hy => h y ((mem_bits h12).1 hy).1 (hl _ _ ((mem_bits h12).1 hy).2)
  rw [if_neg e3]; rw [if_neg e3] at h
  exact joins_le _ st hl fun y hy => h y ((mem_bits h12).1 hy).1 (hl _ _ ((mem_bits h12).1 hy).2)
theorem ap_false (ok : SysOk s) (hn : s.sites = n) (h12 : n ≤ 12) (hc : ConOk s c) (st : St) (hf : (applyP s n c st).2 = false) : Holds s n st.1 c := by
  obtain ⟨hk, ha, hb, hfd, hset, _, _, _⟩ := hc
  have hbr := row_lt ok hb.1 hb.2
  unfold applyP at hf
  unfold Holds
  by_cases e1 : c.kind = 1
  · rw [if_pos e1]; rw [if_pos e1] at hf
    exact (put_false hf).1
  rw [if_neg e1]; rw [if_neg e1] at hf
  by_cases e2 : c.kind = 2
  · rw [if_pos e2]; rw [if_pos e2] at hf
    exact (join_false hf).1
  rw [if_neg e2]; rw [if_neg e2] at hf
  by_cases e5 : c.kind = 5
  · rw [if_pos e5]; rw [if_pos e5] at hf
    exact filt_false hbr _ st (by rw [← hn]; exact hset) hf
  rw [if_neg e5]; rw [if_neg e5] at hf
  by_cases e3 : c.kind = 3
  · rw [if_pos e3]; rw [if_pos e3] at hf
    exact fun y hy h1 => joins_false (rows := rowsOf s) _ st (fun _ _ => hbr) hf y ((mem_bits h12).2 ⟨hy, h1⟩)
  rw [if_neg e3]; rw [if_neg e3] at hf
  have hacc : accB c.kind = true := by have : c.kind = 4 := by omega
                                       rw [this]; rfl
  exact fun y hy h1 => joins_false (rows := rowsOf s) _ st (fun x hx => cellIx_lt ok hn (hfd hacc).1 (hfd hacc).2 ((mem_bits h12).1 hx).1) hf y ((mem_bits h12).2 ⟨hy, h1⟩)
theorem filt_id {a b : Nat} : ∀ (l : List Int) (st : St), (∀ x ∈ l, st.1 a x.toNat = true → st.1 b x.toNat = true) → filtS a b l st = st
  | [], _, _ => rfl
  | x :: l, st, h => by
    rw [filtS_cons]
    have : (if st.1 a x.toNat = true then putS st b x.toNat else st) = st := by
      split
      · rename_i e; unfold putS; rw [if_pos (h x List.mem_cons_self e)]
      · rfl
    rw [this]
    exact filt_id l st fun y hy => h y (List.mem_cons_of_mem _ hy)
theorem ap_id (h12 : n ≤ 12) (st : St) (h : Holds s n st.1 c) : applyP s n c st = st := by
  unfold applyP
  unfold Holds at h
  by_cases e1 : c.kind = 1
  · rw [if_pos e1]; rw [if_pos e1] at h
    unfold putS; rw [if_pos h]
  rw [if_neg e1]; rw [if_neg e1] at h
  by_cases e2 : c.kind = 2
  · rw [if_pos e2]; rw [if_pos e2] at h
    exact join_id h
  rw [if_neg e2]; rw [if_neg e2] at h
  by_cases e5 : c.kind = 5
  · rw [if_pos e5]; rw [if_pos e5] at h
    exact filt_id _ st h
  rw [if_neg e5]; rw [if_neg e5] at h
  by_cases e3 : c.kind = 3
  · rw [if_pos e3]; rw [if_pos e3] at h
    exact joins_id _ st fun y hy => h y ((mem_bits h12).1 hy).1 ((mem_bits h12).1 hy).2
  rw [if_neg e3]; rw [if_neg e3] at h
  exact joins_id _ st fun y hy => h y ((mem_bits h12).1 hy).1 ((mem_bits h12).1 hy).2
end

/-- the state after a step, the flag kept apart -/
def stepP (s : Sys) (n : Nat) (c : Con) (st : St) : St := ((applyP s n c (st.1, false)).1, (applyP s n c (st.1, false)).2 || st.2)
def passP (s : Sys) (n : Nat) : List Con → St → St
  | [], st => st
  | c :: l, st => passP s n l (stepP s n c st)
theorem passP_cons (s : Sys) (n : Nat) (c : Con) (l : List Con) (st : St) : passP s n (c :: l) st = passP s n l (stepP s n c st) := rfl
theorem Grows.flag {rows n : Nat} {m : Nat → Nat → Bool} {fl : Bool} {st' : St} (h : Grows rows n (m, false) st') : Grows rows n (m, fl) (st'.1, st'.2 || fl) := by
  refine ⟨h.mono, fun e => ?_, fun e => ?_⟩
  · simp only [Bool.or_eq_false_iff] at e
    exact ⟨(h.same e.1).1, e.2⟩
  · simp only [Bool.or_eq_true] at e
    rcases e with e | e
    · rcases h.less e with h1 | h1
      · cases h1
      · exact .inr h1
    · exact .inl e
section
variable {s : Sys} {n : Nat}
theorem step_grows (ok : SysOk s) (hn : s.sites = n) (h12 : n ≤ 12) {c : Con} (hc : ConOk s c) (st : St) : Grows (rowsOf s) n st (stepP s n c st) := (ap_grows ok hn h12 hc (st.1, false)).flag (fl := st.2)
theorem passP_grows (ok : SysOk s) (hn : s.sites = n) (h12 : n ≤ 12) : ∀ (l : List Con) (st : St), (∀ c ∈ l, ConOk s c) → Grows (rowsOf s) n st (passP s n l st)
  | [], st, _ => Grows.refl _ _ st
  | c :: l, st, h => (step_grows ok hn h12 (h c List.mem_cons_self) st).trans (passP_grows ok hn h12 l _ fun d hd => h d (List.mem_cons_of_mem _ hd))
theorem passP_le (h12 : n ≤ 12) {M : Nat → Nat → Bool} : ∀ (l : List Con) (st : St), (∀ c ∈ l, Holds s n M c) → Le st.1 M → Le (passP s n l st).1 M
  | [], _, _, h => h
  | c :: l, st, hM, h => passP_le h12 l _ (fun d hd => hM d (List.mem_cons_of_mem _ hd)) (ap_le h12 (hM c List.mem_cons_self) (st.1, false) h)
theorem passP_false (ok : SysOk s) (hn : s.sites = n) (h12 : n ≤ 12) : ∀ (l : List Con) (st : St), (∀ c ∈ l, ConOk s c) → (passP s n l st).2 = false → ∀ c ∈ l, Holds s n st.1 c
  | [], _, _, _ => fun c hc => by cases hc
  | c :: l, st, h, hf => by
    intro d hd
    rw [passP_cons] at hf
    have h1 := (passP_grows ok hn h12 l (stepP s n c st) fun d hd => h d (List.mem_cons_of_mem _ hd)).same hf
    have h2 := (step_grows ok hn h12 (h c List.mem_cons_self) st).same h1.2
    rcases List.mem_cons.1 hd with rfl | hd
    · have h3 : (applyP s n d (st.1, false)).2 = false := by
        have := h1.2
        simp only [stepP, Bool.or_eq_false_iff] at this
        exact this.1
      exact ap_false ok hn h12 (h d List.mem_cons_self) (st.1, false) h3
    · have := passP_false ok hn h12 l _ (fun d hd => h d (List.mem_cons_of_mem _ hd)) hf d hd
      rw [h2.1] at this
      exact this
theorem passP_id (h12 : n ≤ 12) : ∀ (l : List Con) (st : St), (∀ c ∈ l, Holds s n st.1 c) → passP s n l st = st
  | [], _, _ => rfl
  | c :: l, st, h => by
    have e : stepP s n c st = st := by
      unfold stepP
      rw [ap_id h12 (st.1, false) (h c List.mem_cons_self)]; rfl
    rw [passP_cons, e]
    exact passP_id h12 l st fun d hd => h d (List.mem_cons_of_mem _ hd)
theorem measP_pass (ok : SysOk s) (hn : s.sites = n) (h12 : n ≤ 12) (hc : ∀ c ∈ s.cons, ConOk s c) {st : St} (h : st.2 = true) : meas s n (passP s n s.cons (st.1, false)) < meas s n st := by
  have g := passP_grows ok hn h12 s.cons (st.1, false) hc
  unfold meas
  rw [if_pos h]
  cases e : (passP s n s.cons (st.1, false)).2
  · rw [if_neg Bool.false_ne_true]
    have : unset (rowsOf s) n (passP s n s.cons (st.1, false)).1 ≤ unset (rowsOf s) n st.1 := unset_le (rows := rowsOf s) (n := n) g.mono
    omega
  · rw [if_pos rfl]
    rcases g.less e with e1 | e1
    · cases e1
    · have : unset (rowsOf s) n (passP s n s.cons (st.1, false)).1 < unset (rowsOf s) n st.1 := e1
      omega
theorem soundP_pass (h12 : n ≤ 12) {st : St} (h : Sound s n st.1) (b : Bool) : Sound s n (passP s n s.cons (st.1, b)).1 := fun M hM => passP_le h12 s.cons (st.1, b) hM (h M hM)
theorem passP_sat (ok : SysOk s) (hn : s.sites = n) (h12 : n ≤ 12) (hc : ∀ c ∈ s.cons, ConOk s c) {m : Nat → Nat → Bool} {b : Bool} (hf : (passP s n s.cons (m, b)).2 = false) : Sat s n (passP s n s.cons (m, b)).1 := by
  rw [((passP_grows ok hn h12 s.cons (m, b) hc).same hf).1]
  exact passP_false ok hn h12 s.cons (m, b) hc hf
end
end Go.Proofs.YtcfiohphjlohhaaDoor
