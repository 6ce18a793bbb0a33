/- The program's solver in memory; addr, copies, filters. -/
import Derived.Test.YtcfiohphjlohhaaDoorT21
import Derived.StillTailTactics
namespace Go.Proofs.YtcfiohphjlohhaaDoor
open Go.RowKit

/-- the fixed places of a solver -/
structure SolAt where
  S : Nat
  gv : Nat
  gc : Nat
  aS : Option Addr
  cS : Nat
  n : Nat
  RV : List Nat
  RC : List Nat
def SolAt.own (t : SolAt) (k : Nat) : Prop := k ∈ t.RV ++ t.RC
/-- the solver, in memory -/
structure Sol (w : World) (s : Sys) (t : SolAt) (m : Nat → Nat → Bool) : Prop where
  sites : s.sites = t.n
  lenV : (t.RV.length : Int) = s.vars
  lenC : (t.RC.length : Int) = s.sites * s.fields
  blk : Blk w t.S 77 #[.int .i64 s.vars, .int .i64 s.sites, .int .i64 s.fields, .slice t.aS s.cons.length t.cS, .int .i64 (wd t.n), .slice (some ⟨t.gv, 0, none⟩) t.RV.length t.RV.length, .slice (some ⟨t.gc, 0, none⟩) t.RC.length t.RC.length]
  hasV : ∀ k r, t.RV[k]? = some r → w.cell? ⟨t.gv, k, none⟩ = some (.slice (some ⟨r, 0, none⟩) (wd t.n) (wd t.n))
  hasC : ∀ k r, t.RC[k]? = some r → w.cell? ⟨t.gc, k, none⟩ = some (.slice (some ⟨r, 0, none⟩) (wd t.n) (wd t.n))
  rows : ∀ k r, (t.RV ++ t.RC)[k]? = some r → Blk w r 99 (setCells t.n (m k))
  nd : (t.RV ++ t.RC).Nodup
  nS : ¬ t.own t.S
  nv : ¬ t.own t.gv
  nc : ¬ t.own t.gc

section
variable {w w' : World} {s : Sys} {t : SolAt} {m : Nat → Nat → Bool}
theorem Sol.below (h : Sol w s t m) (hb : Below w.heap.size w w') : Sol w' s t m :=
  ⟨h.sites, h.lenV, h.lenC, h.blk.below hb, fun k r hk => cell_keep hb (h.hasV k r hk), fun k r hk => cell_keep hb (h.hasC k r hk), fun k r hk => (h.rows k r hk).below hb, h.nd, h.nS, h.nv, h.nc⟩
theorem Sol.alloc (h : Sol w s t m) (o : Obj) : Sol (w.alloc o) s t m := h.below ((Below.refl _ _).alloc (Nat.le_refl _) _)
theorem Sol.drew (h : Sol w s t m) : Sol w.drew s t m := ⟨h.sites, h.lenV, h.lenC, h.blk, h.hasV, h.hasC, h.rows, h.nd, h.nS, h.nv, h.nc⟩
theorem Sol.drewN (h : Sol w s t m) (n : Nat) : Sol (w.drewN n) s t m := ⟨h.sites, h.lenV, h.lenC, h.blk, h.hasV, h.hasC, h.rows, h.nd, h.nS, h.nv, h.nc⟩
/-- one row is written -/
theorem Sol.write (h : Sol w s t m) {k r : Nat} (hr : (t.RV ++ t.RC)[k]? = some r) (ho : Only (· = r) w w') {g : Nat → Bool} (hg : Blk w' r 99 (setCells t.n g)) : Sol w' s t (fun i => if i = k then g else m i) := by
  have hmem : t.own r := List.mem_of_getElem? hr
  refine ⟨h.sites, h.lenV, h.lenC, h.blk.only ho (fun e => h.nS (e ▸ hmem)), fun k' r' hk => ho.keep (h.hasV k' r' hk) (fun e => h.nv (by have e : t.gv = r := e; rw [e]; exact hmem)), fun k' r' hk => ho.keep (h.hasC k' r' hk) (fun e => h.nc (by have e : t.gc = r := e; rw [e]; exact hmem)), fun k' r' hk => ?_, h.nd, h.nS, h.nv, h.nc⟩
  by_cases e : k' = k
  · subst e
    obtain rfl : r = r' := Option.some.inj (hr.symm.trans hk)
    rw [if_pos rfl]; exact hg
  · rw [if_neg e]
    refine (h.rows k' r' hk).only ho fun e' => e ?_
    obtain ⟨b1, e1⟩ := List.getElem?_eq_some_iff.1 hk
    obtain ⟨b2, e2⟩ := List.getElem?_eq_some_iff.1 hr
    exact (List.getElem_inj (h₀ := b1) (h₁ := b2) h.nd).1 (by rw [e1, e2, e'])
theorem Sol.congr (h : Sol w s t m) {m' : Nat → Nat → Bool} (hm : ∀ r x, x < t.n → m r x = m' r x) : Sol w s t m' :=
  ⟨h.sites, h.lenV, h.lenC, h.blk, h.hasV, h.hasC, fun k r hk => by rw [← setCells_congr (f := m k) (fun x hx => hm k x hx)]; exact h.rows k r hk, h.nd, h.nS, h.nv, h.nc⟩
theorem Sol.not_own (h : Sol w s t m) : ¬ t.own w.heap.size := fun e => by
  obtain ⟨i, hi, he⟩ := List.getElem_of_mem e
  have := (h.rows i _ (List.getElem?_eq_getElem hi)).lt
  omega
/-- the row of a variable -/
theorem Sol.varRow (h : Sol w s t m) {b : Int} (b0 : 0 ≤ b) (b1 : b < s.vars) : ∃ r, b < t.RV.length ∧ t.own r ∧ w.cell? ⟨t.gv, b.toNat, none⟩ = some (.slice (some ⟨r, 0, none⟩) (wd t.n) (wd t.n)) ∧ (t.RV ++ t.RC)[b.toNat]? = some r ∧ Blk w r 99 (setCells t.n (m b.toNat)) := by
  have hl := h.lenV
  have hlt : b.toNat < t.RV.length := by omega
  have hk := get_at hlt
  have hk2 : (t.RV ++ t.RC)[b.toNat]? = some t.RV[b.toNat] := by rw [List.getElem?_append_left hlt]; exact hk
  exact ⟨_, by omega, List.mem_of_getElem? hk2, h.hasV _ _ hk, hk2, h.rows _ _ hk2⟩
/-- the row of a cell -/
theorem Sol.cellRow (h : Sol w s t m) (hv : 0 ≤ s.vars) {x : Nat} {f : Int} (hx : x < t.n) (f0 : 0 ≤ f) (f1 : f < s.fields) : ∃ r, ((x : Int) * s.fields + f < t.RC.length ∧ 0 ≤ (x : Int) * s.fields + f) ∧ t.own r ∧ w.cell? ⟨t.gc, ((x : Int) * s.fields + f).toNat, none⟩ = some (.slice (some ⟨r, 0, none⟩) (wd t.n) (wd t.n)) ∧ (t.RV ++ t.RC)[cellIx s f x]? = some r ∧ Blk w r 99 (setCells t.n (m (cellIx s f x))) := by
  have hl := h.lenC
  have hlv := h.lenV
  have hs := h.sites
  obtain ⟨e0, e1⟩ := cell_lt (x := (x : Int)) (f := s.fields) (g := f) (n := s.sites) (by omega) (by omega) f0 f1
  have hlt : ((x : Int) * s.fields + f).toNat < t.RC.length := by omega
  have hk := get_at hlt
  have hix : cellIx s f x = t.RV.length + ((x : Int) * s.fields + f).toNat := by unfold cellIx; omega
  have hk2 : (t.RV ++ t.RC)[cellIx s f x]? = some t.RC[((x : Int) * s.fields + f).toNat] := by rw [hix, List.getElem?_append_right (by omega), Nat.add_sub_cancel_left]; exact hk
  exact ⟨_, ⟨by omega, e0⟩, List.mem_of_getElem? hk2, h.hasC _ _ hk, hk2, h.rows _ _ hk2⟩
end

/-- join of a row to another, on states -/
def joinM (n : Nat) (m : Nat → Nat → Bool) (b a : Nat) : Nat → Nat → Bool := fun i y => if i = b then (m b y || (decide (y < n) && m a y)) else m i y
def joinS (n : Nat) (st : St) (b a : Nat) : St := if joinNew n (st.1 b) (st.1 a) = true then (joinM n st.1 b a, true) else st

/-- what one of the solver's steps leaves -/
def StepPost (w : World) (s : Sys) (t : SolAt) (st : St) (e : Ending) (w' : World) : Prop := e = .returned (.bool st.2) ∧ Only t.own w w' ∧ Sol w' s t st.1

theorem step_put {w w' : World} {s : Sys} {t : SolAt} {m : Nat → Nat → Bool} (h : Sol w s t m) {k r x : Nat} (hr : (t.RV ++ t.RC)[k]? = some r) (ho : Only (· = r) w w') (hg : Blk w' r 99 (setCells t.n (fun y => if y = x then true else m k y))) :
    Only t.own w w' ∧ Sol w' s t (putS (m, false) k x).1 ∧ (putS (m, false) k x).2 = !m k x := by
  refine ⟨ho.mono fun j _ e => by rw [e]; exact List.mem_of_getElem? hr, ?_, ?_⟩
  · refine (h.write hr ho hg).congr fun r x' _ => ?_
    unfold putS
    by_cases hq : m k x = true
    · rw [if_pos hq]
      by_cases e : r = k
      · subst e
        rw [if_pos rfl]
        by_cases e2 : x' = x
        · subst e2; simp [hq]
        · simp [e2]
      · rw [if_neg e]
    · rw [if_neg hq]
      by_cases e : r = k
      · subst e; simp [upd]
      · simp [upd, e]
  · unfold putS
    cases hq : m k x <;> simp [hq]
theorem step_join {w w' : World} {s : Sys} {t : SolAt} {m : Nat → Nat → Bool} (h : Sol w s t m) {b a r : Nat} (hr : (t.RV ++ t.RC)[b]? = some r) (ho : Only (· = r) w w') (hg : Blk w' r 99 (setCells t.n (fun y => m b y || m a y))) (fl : Bool) :
    Only t.own w w' ∧ Sol w' s t (joinS t.n (m, fl) b a).1 := by
  refine ⟨ho.mono fun j _ e => by rw [e]; exact List.mem_of_getElem? hr, ?_⟩
  refine (h.write hr ho hg).congr fun i x hx => ?_
  unfold joinS
  by_cases hq : joinNew t.n (m b) (m a) = true
  · rw [if_pos hq]
    unfold joinM
    by_cases e : i = b
    · subst e; simp [hx]
    · simp [e]
  · rw [if_neg hq]
    by_cases e : i = b
    · subst e
      rw [if_pos rfl]
      unfold joinNew at hq
      have hq2 : mask t.n (fun y => m i y || m a y) = mask t.n (m i) := by simpa using hq
      exact mask_inj hq2 x hx
    · rw [if_neg e]
theorem joinS_flag (n : Nat) (m : Nat → Nat → Bool) (b a : Nat) : (joinS n (m, false) b a).2 = joinNew n (m b) (m a) := by
  unfold joinS
  cases h : joinNew n (m b) (m a) <;> simp [h]

set_option maxRecDepth 100000 in
theorem addr_any (s : Sys) (t : SolAt) (m : Nat → Nat → Bool) (kd a b f : Int) (set : List Int) (a' : Option Addr) (c' : Nat) (w : World) (h : Sol w s t m) (hn : t.n ≤ 12) (a0 : 0 ≤ a) (a1 : a < s.sites) (b0 : 0 ≤ b) (b1 : b < s.vars) :
    Calls Tryd.prog 73 #[.pointer (some ⟨t.S, 0, none⟩), conV ⟨kd, a, b, f, set⟩ a' c'] w (StepPost w s t (putS (m, false) b.toNat a.toNat)) := by
  dsimp only [conV]
  have hs := h.sites
  have a2 : a < t.n := by omega
  have h1 := h.alloc (.cells #[.int .i64 kd, .int .i64 a, .int .i64 b, .int .i64 f, .slice a' set.length c'] 39)
  obtain ⟨r, b2, hro, c2, hr, hB⟩ := h1.varRow b0 b1
  have c1 : (w.alloc (.cells #[.int .i64 kd, .int .i64 a, .int .i64 b, .int .i64 f, .slice a' set.length c'] 39)).cell? ⟨t.S, 5, none⟩ = some (.slice (some ⟨t.gv, 0, none⟩) t.RV.length t.RV.length) := h1.blk.cell 5
  have HO := Lib.hid ((Only.refl t.own w).alloc (.cells #[.int .i64 kd, .int .i64 a, .int .i64 b, .int .i64 f, .slice a' set.length c'] 39))
  have H1 := Lib.hid h1
  have HB := Lib.hid hB
  have HR := Lib.hid hr
  have hbx := World.cell?_alloc_new w #[.int .i64 kd, .int .i64 a, .int .i64 b, .int .i64 f, .slice a' set.length c'] 39
  go_enter Tryd.func73, Tryd.ntmps73
  go_wp2
  clear h h1 hr hB hs
  generalize w.alloc (.cells #[.int .i64 kd, .int .i64 a, .int .i64 b, .int .i64 f, .slice a' set.length c'] 39) = wa at *
  go_still_tail 10, (by kernel_rfl)
  change wpList _ _ _ _ _ wa.drew
  go_wp2_with (go_at_call 72; refine (setput_any r t.n (m b.toNat) a wa.drew HB.out hn a0 a2).mono ?_; rintro e w1 ⟨rfl, hO, hBk⟩)
  go_ret
  obtain ⟨o1, o2, o3⟩ := step_put H1.out HR.out hO.un_drew hBk
  exact ⟨ret_bool o3.symm, HO.out.trans o1, o2⟩

set_option maxRecDepth 100000 in
theorem copies_any (s : Sys) (t : SolAt) (m : Nat → Nat → Bool) (kd a b f : Int) (set : List Int) (a' : Option Addr) (c' : Nat) (w : World) (h : Sol w s t m) (hn : t.n ≤ 12) (a0 : 0 ≤ a) (a1 : a < s.vars) (b0 : 0 ≤ b) (b1 : b < s.vars) :
    Calls Tryd.prog 74 #[.pointer (some ⟨t.S, 0, none⟩), conV ⟨kd, a, b, f, set⟩ a' c'] w (StepPost w s t (joinS t.n (m, false) b.toNat a.toNat)) := by
  dsimp only [conV]
  have h1 := h.alloc (.cells #[.int .i64 kd, .int .i64 a, .int .i64 b, .int .i64 f, .slice a' set.length c'] 39)
  obtain ⟨r, b2, hro, c2, hr, hB⟩ := h1.varRow b0 b1
  obtain ⟨ra, a2, hra, c3, hr2, hA⟩ := h1.varRow a0 a1
  have c1 : (w.alloc (.cells #[.int .i64 kd, .int .i64 a, .int .i64 b, .int .i64 f, .slice a' set.length c'] 39)).cell? ⟨t.S, 5, none⟩ = some (.slice (some ⟨t.gv, 0, none⟩) t.RV.length t.RV.length) := h1.blk.cell 5
  have HO := Lib.hid ((Only.refl t.own w).alloc (.cells #[.int .i64 kd, .int .i64 a, .int .i64 b, .int .i64 f, .slice a' set.length c'] 39))
  have H1 := Lib.hid h1
  have HA := Lib.hid hA
  have HB := Lib.hid hB
  have HR := Lib.hid hr
  have hbx := World.cell?_alloc_new w #[.int .i64 kd, .int .i64 a, .int .i64 b, .int .i64 f, .slice a' set.length c'] 39
  go_enter Tryd.func74, Tryd.ntmps74
  go_wp2
  clear h h1 hr hB hA hr2
  generalize w.alloc (.cells #[.int .i64 kd, .int .i64 a, .int .i64 b, .int .i64 f, .slice a' set.length c'] 39) = wa at *
  go_still_tail 16, (by kernel_rfl)
  change wpList _ _ _ _ _ wa.drew
  go_wp2_with (go_at_call 85; refine (join_any r ra t.n (m b.toNat) (m a.toNat) wa.drew HB.out HA.out hn).mono ?_; rintro e w1 ⟨rfl, hO, hBk⟩)
  go_ret
  obtain ⟨o1, o2⟩ := step_join H1.out HR.out hO.un_drew hBk false
  exact ⟨ret_bool (joinS_flag _ _ _ _).symm, HO.out.trans o1, o2⟩

/-- the flag does not matter to what is put -/
theorem putS_flag (m : Nat → Nat → Bool) (fl : Bool) (k x : Nat) : putS (m, fl) k x = ((putS (m, false) k x).1, fl || (putS (m, false) k x).2) := by
  unfold putS
  cases h : m k x <;> simp [h]
theorem mask_shift {n x : Nat} (f : Nat → Bool) (hx : x < n) : mask n f / 2 ^ x % 2 = if f x = true then 1 else 0 := by
  have h1 := mask_bit f n x
  rw [Nat.testBit_eq_decide_div_mod_eq] at h1
  simp only [hx, decide_true, Bool.true_and] at h1
  cases hf : f x
  · rw [hf] at h1
    have := of_decide_eq_false h1
    simp; omega
  · rw [hf] at h1
    simpa using of_decide_eq_true h1

theorem mask_test {n x : Nat} (f : Nat → Bool) (hn : n ≤ 12) (hx : x < n) : (bits .and .u64 (((mask n f : Nat) : Int) / 2 ^ x) 1 == 1) = f x := by
  have h := mask_shift f hx
  have hM := mask_lt12 f hn
  have hd : mask n f / 2 ^ x ≤ mask n f := Nat.div_le_self _ _
  have e : (((mask n f : Nat) : Int) / 2 ^ x) = ((mask n f / 2 ^ x : Nat) : Int) := by simp
  rw [e, show (1 : Int) = ((1 : Nat) : Int) from rfl, u64_and_nat _ _ (by omega) (by omega), Nat.and_one_is_mod, h]
  cases f x <;> rfl

set_option maxRecDepth 100000 in
set_option maxHeartbeats 1000000 in
theorem filters_any (s : Sys) (t : SolAt) (m : Nat → Nat → Bool) (kd a b f : Int) (set : List Int) (a' : Option Addr) (c' : Nat) (w0 w : World) (h : Sol w s t m) (hn : t.n ≤ 12) (hs : Ints w0 a' set) (hb0 : Below w0.heap.size w0 w)
    (hown : ∀ k, t.own k → w0.heap.size ≤ k) (hset : ∀ x ∈ set, 0 ≤ x ∧ x < s.sites) (a0 : 0 ≤ a) (a1 : a < s.vars) (b0 : 0 ≤ b) (b1 : b < s.vars) :
    Calls Tryd.prog 77 #[.pointer (some ⟨t.S, 0, none⟩), conV ⟨kd, a, b, f, set⟩ a' c'] w (StepPost w s t (filtS a.toNat b.toNat set (m, false))) := by
  dsimp only [conV]
  have h1 := h.alloc (.cells #[.int .i64 kd, .int .i64 a, .int .i64 b, .int .i64 f, .slice a' set.length c'] 39)
  have HO := Lib.hid ((Only.refl t.own w).alloc (.cells #[.int .i64 kd, .int .i64 a, .int .i64 b, .int .i64 f, .slice a' set.length c'] 39))
  have H1 := Lib.hid h1
  have hm := hs.len.le
  have hsn := h.sites
  have hnown := h.not_own
  have hw0 := hb0.size
  have HSN := Lib.hid hsn
  clear h h1 hsn
  go_enter Tryd.func77, Tryd.ntmps77
  go_wp2
  go_loopg [5, 11] set.length (fun g v i wr => ∃ (k : Nat) (st' : St), k ≤ set.length ∧ g = set.length - k ∧ i = .int .i64 k ∧ v = .bool st'.2 ∧ Hid (Only t.own (w.alloc (.cells #[.int .i64 kd, .int .i64 a, .int .i64 b, .int .i64 f, .slice a' set.length c'] 39)) wr) ∧ Hid (Sol wr s t st'.1) ∧ Hid (filtS a.toNat b.toNat set (m, false) = filtS a.toNat b.toNat (set.drop k) st'))
  case atStart => exact ⟨0, (m, false), Nat.zero_le _, rfl, rfl, rfl, Only.refl _ _, H1, rfl⟩
  case round =>
    obtain ⟨k, st', hk, rfl, rfl, rfl, hO, hT, hE⟩ := hrel
    have hbx : ∀ j, wr.cell? ⟨w.heap.size, j, none⟩ = #[.int .i64 kd, .int .i64 a, .int .i64 b, .int .i64 f, .slice a' set.length c'][j]? := fun j => (hO.out.cell (p := ⟨w.heap.size, j, none⟩) (by simp) hnown).trans (World.cell?_alloc_new _ _ _ _)
    have hsw : Ints wr a' set := hs.below (hb0.trans ((HO.out.trans hO.out).to_below hw0 hown))
    by_cases hlt : k < set.length
    · obtain ⟨bb, o, rfl, hc⟩ := hsw.at_ k set[k] (get_at hlt)
      obtain ⟨x0, x1⟩ := hset _ (List.getElem_mem hlt)
      obtain ⟨y, hy⟩ : ∃ y : Nat, set[k] = y := ⟨set[k].toNat, by omega⟩
      have x2 : y < t.n := by have := HSN.out; omega
      have hn0 : 0 < t.n := by omega
      obtain ⟨ra, a2, hra, c3, hra2, hA⟩ := hT.out.varRow a0 a1
      obtain ⟨r, b2, hro, c2, hr, hB⟩ := hT.out.varRow b0 b1
      have c1 : wr.cell? ⟨t.S, 5, none⟩ = some (.slice (some ⟨t.gv, 0, none⟩) t.RV.length t.RV.length) := hT.out.blk.cell 5
      have c4 : wr.cell? ⟨ra, 0, none⟩ = some (.int .u64 (mask t.n (st'.1 a.toNat))) := by rw [setCells_pos _ hn0] at hA; exact hA.cell 0
      have d1 : (y : Int) / 64 = 0 := by omega
      have d2 : (y : Int) % 64 = y := by omega
      have d3 : IntKind.i64.wrap 0 = 0 := rfl
      have x3 : (y : Int) < 64 := by omega
      have d4 : (y : Int).tmod 64 = y := by rw [Int.tmod_eq_emod_of_nonneg (by omega)]; omega
      rw [hy] at hc
      rw [wd_pos hn0] at c3
      have HY := Lib.hid hy
      have HC := Lib.hid c2
      have HR := Lib.hid hr
      have HB := Lib.hid hB
      have hq := mask_test (n := t.n) (x := y) (st'.1 a.toNat) hn x2
      clear hA hB hr hra2
      cases hbit : st'.1 a.toNat y
      · rw [hbit] at hq
        go_wp2
        go_quiet (fail)
        all_goals go_wp2
        all_goals go_roundg (set.length - (k + 1))
        case measure => omega
        case rel =>
          refine ⟨k + 1, st', hlt, rfl, by go_num, rfl, hO.out.drewN _, hT.out.drewN _, hE.out.trans ?_⟩
          rw [List.drop_eq_getElem_cons hlt, filtS_cons, HY.out, Int.toNat_natCast, hbit, if_neg (by decide)]
      · rw [hbit] at hq
        have c5 := HC.out
        go_wp2
        have hO' := hO.out
        have hT' := hT.out
        clear hO hT
        go_still_tail 27, (by kernel_rfl)
        change wpList _ _ _ _ _ wr.drew
        go_wp2_with (go_at_call 72; refine (setput_any r t.n (st'.1 b.toNat) y wr.drew HB.out hn (by omega) (by omega)).mono ?_; rintro e w1 ⟨rfl, hO1, hBk⟩)
        all_goals
          obtain ⟨o1, o2, o3⟩ := step_put hT' HR.out hO1.un_drew hBk
          rw [Int.toNat_natCast] at o2 o3
        all_goals go_roundg (set.length - (k + 1))
        all_goals first
          | (refine ⟨k + 1, putS st' b.toNat y, hlt, rfl, by go_num, ?_, hO'.trans o1, ?_, hE.out.trans ?_⟩
             · rename_i hb
               rw [show putS st' b.toNat y = _ from putS_flag st'.1 st'.2 _ _, o3, hb]; simp
             · rw [show putS st' b.toNat y = _ from putS_flag st'.1 st'.2 _ _]; exact o2
             · rw [List.drop_eq_getElem_cons hlt, filtS_cons, HY.out, Int.toNat_natCast, hbit, if_pos rfl])
          | omega
    · go_wp2
      have : k = set.length := by omega
      subst this
      rw [List.drop_length] at hE
      go_ret
      refine ⟨?_, ?_, ?_⟩
      · rw [hE.out]; exact ret_bool rfl
      · exact HO.out.trans hO.out
      · rw [hE.out]; exact hT.out
end Go.Proofs.YtcfiohphjlohhaaDoor
