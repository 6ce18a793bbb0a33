/- The program's solver: loads and stores. -/
import Derived.Test.YtcfiohphjlohhaaDoorT23
namespace Go.Proofs.YtcfiohphjlohhaaDoor
open Go.RowKit

/-- a bound on a system that fits -/
structure SolBd (s : Sys) (n : Nat) : Prop where
  vars : 0 ≤ s.vars ∧ s.vars ≤ 65536
  fields : 0 ≤ s.fields ∧ s.fields ≤ 1024
  n : n ≤ 12

/-- a block that is none of the solver's -/
structure SolAt.off (t : SolAt) (k : Nat) : Prop where
  own : ¬ t.own k
  S : k ≠ t.S
  gv : 0 < t.RV.length → k ≠ t.gv
  gc : 0 < t.RC.length → k ≠ t.gc
theorem Sol.off_new {w : World} {s : Sys} {t : SolAt} {m : Nat → Nat → Bool} (h : Sol w s t m) {k : Nat} (hk : w.heap.size ≤ k) : t.off k := by
  refine ⟨fun e => ?_, fun e => ?_, fun hl e => ?_, fun hl e => ?_⟩
  · obtain ⟨i, hi, he⟩ := List.getElem_of_mem e
    have := (h.rows i _ (List.getElem?_eq_getElem hi)).lt
    omega
  · have := h.blk.lt; omega
  · have := World.block_lt_of_cell? _ _ (h.hasV 0 _ (List.getElem?_eq_getElem hl))
    have : t.gv < w.heap.size := this
    omega
  · have := World.block_lt_of_cell? _ _ (h.hasC 0 _ (List.getElem?_eq_getElem hl))
    have : t.gc < w.heap.size := this
    omega
theorem Sol.far {w w' : World} {s : Sys} {t : SolAt} {m : Nat → Nat → Bool} (h : Sol w s t m) {P : Nat → Prop} (ho : Only P w w') (hP : ∀ k, P k → t.off k) : Sol w' s t m := by
  refine ⟨h.sites, h.lenV, h.lenC, h.blk.only ho fun e => (hP _ e).S rfl, fun k r hk => ho.keep (h.hasV k r hk) fun e => (hP _ e).gv ?_ rfl, fun k r hk => ho.keep (h.hasC k r hk) fun e => (hP _ e).gc ?_ rfl, fun k r hk => (h.rows k r hk).only ho fun e => (hP _ e).own (List.mem_of_getElem? hk), h.nd, h.nS, h.nv, h.nc⟩
  · have := (List.getElem?_eq_some_iff.1 hk).1; omega
  · have := (List.getElem?_eq_some_iff.1 hk).1; omega

/-- what holds while the closure of loads or stores is called -/
structure LI (wa : World) (s : Sys) (t : SolAt) (ch : Nat) (st : St) (w' : World) : Prop where
  only : Only (fun k => t.own k ∨ k = ch) wa w'
  sol : Sol w' s t st.1
  flag : Blk w' ch 4 #[.bool st.2]
  off : t.off ch

theorem LI.join {wa w' w1 w2 : World} {s : Sys} {t : SolAt} {ch : Nat} {st : St} (h : LI wa s t ch st w') {b a r : Nat} (hr : (t.RV ++ t.RC)[b]? = some r) (ho : Only (· = r) w' w1) (hg : Blk w1 r 99 (setCells t.n (fun y => st.1 b y || st.1 a y)))
    (h2 : w2 = if joinNew t.n (st.1 b) (st.1 a) = true then w1.setCell ⟨ch, 0, none⟩ (.bool true) else w1) : LI wa s t ch (joinS t.n st b a) w2 := by
  obtain ⟨m, fl⟩ := st
  have hmem : t.own r := List.mem_of_getElem? hr
  have hne : r ≠ ch := fun e => h.off.own (e ▸ hmem)
  obtain ⟨o1, o2⟩ := step_join h.sol hr ho hg fl
  have hf1 : Blk w1 ch 4 #[.bool fl] := h.flag.only ho (fun e => hne e.symm)
  have o1' : Only (fun k => t.own k ∨ k = ch) wa w1 := h.only.trans (o1.mono fun _ _ hk => .inl hk)
  by_cases hq : joinNew t.n (m b) (m a) = true
  · rw [if_pos hq] at h2
    subst h2
    have e2 : (joinS t.n (m, fl) b a).2 = true := by unfold joinS; rw [if_pos hq]
    refine ⟨o1'.setCell (.inl (.inr rfl)) _, o2.far (P := (· = ch)) ((Only.refl (· = ch) w1).setCell (p := ⟨ch, 0, none⟩) (.inl rfl) _) (fun k e => by rw [show k = ch from e]; exact h.off), ?_, h.off⟩
    rw [e2]; exact hf1.set_ 0 _
  · rw [if_neg hq] at h2
    subst h2
    have e2 : (joinS t.n (m, fl) b a).2 = fl := by unfold joinS; rw [if_neg hq]
    exact ⟨o1', o2, by rw [e2]; exact hf1, h.off⟩

set_option maxRecDepth 100000 in
theorem loads1_any (s : Sys) (t : SolAt) (kd a b f : Int) (sv : Value) (wa w : World) (st : St) (x pb cb ch : Nat) (hb : SolBd s t.n) (h : LI wa s t ch st w) (hx : x < t.n) (b0 : 0 ≤ b) (b1 : b < s.vars) (f0 : 0 ≤ f) (f1 : f < s.fields)
    (hp : wa.cell? ⟨pb, 0, none⟩ = some (.pointer (some ⟨t.S, 0, none⟩))) (hc : ∀ j, wa.cell? ⟨cb, j, none⟩ = #[.int .i64 kd, .int .i64 a, .int .i64 b, .int .i64 f, sv][j]?) (np : ¬ t.own pb) (nc : ¬ t.own cb) (npc : pb ≠ ch) (ncc : cb ≠ ch) :
    Calls Tryd.prog 86 #[.int .i64 x, .pointer (some ⟨pb, 0, none⟩), .pointer (some ⟨cb, 0, none⟩), .pointer (some ⟨ch, 0, none⟩)] w fun e w' => e = .returned (.tuple #[]) ∧ LI wa s t ch (joinS t.n st b.toNat (cellIx s f x)) w' := by
  have hbx : ∀ j, w.cell? ⟨cb, j, none⟩ = #[.int .i64 kd, .int .i64 a, .int .i64 b, .int .i64 f, sv][j]? := fun j => by
    by_cases hj : cb < wa.heap.size
    · rw [h.only.cell (p := ⟨cb, j, none⟩) hj (fun e => e.elim nc ncc), hc]
    · have := World.block_lt_of_cell? (a := ⟨cb, 0, none⟩) _ (hc 0); exact absurd this hj
  have hpp : w.cell? ⟨pb, 0, none⟩ = some (.pointer (some ⟨t.S, 0, none⟩)) := h.only.keep hp (fun e => e.elim np npc)
  obtain ⟨r, b2, hro, c2, hr, hB⟩ := h.sol.varRow b0 b1
  obtain ⟨ra, a2, hra, c3, hr2, hA⟩ := h.sol.cellRow hb.vars.1 hx f0 f1
  have hcx : (x : Int) ≤ 1024 := by have := hb.n; omega
  have hpr := prod_bd (a := (x : Int)) (Int.natCast_nonneg x) hb.fields.1 hcx hb.fields.2
  have w1 : IntKind.i64.wrap ((x : Int) * s.fields) = (x : Int) * s.fields := IntWalk.i64_in _ (by omega)
  have f2 := hb.fields
  have w2 : IntKind.i64.wrap ((x : Int) * s.fields + f) = (x : Int) * s.fields + f := IntWalk.i64_in _ (by omega)
  have c1 : w.cell? ⟨t.S, 5, none⟩ = some (.slice (some ⟨t.gv, 0, none⟩) t.RV.length t.RV.length) := h.sol.blk.cell 5
  have c4 : w.cell? ⟨t.S, 6, none⟩ = some (.slice (some ⟨t.gc, 0, none⟩) t.RC.length t.RC.length) := h.sol.blk.cell 6
  have c5 : w.cell? ⟨t.S, 2, none⟩ = some (.int .i64 s.fields) := h.sol.blk.cell 2
  have fz : ∀ w1 : World, Only (· = r) w w1 → w1.frozen? ⟨ch, 0, none⟩ = false ∧ w1.cell? ⟨ch, 0, none⟩ = some (.bool st.2) := fun _ ho =>
    have hk := (h.flag.only ho fun e => h.off.own (by rw [e]; exact hro))
    ⟨hk.frozen 0, hk.cell 0⟩
  have HA := Lib.hid hA
  have HB := Lib.hid hB
  have HR := Lib.hid hr
  have H := Lib.hid h
  have FZ := Lib.hid fz
  have HN := hb.n
  clear h hr hB hA hr2 hb hpr fz f2 hcx
  go_enter Tryd.func86, Tryd.ntmps86
  go_wp2
  go_still_tail 24, (by kernel_rfl)
  change wpList _ _ _ _ _ w.drew
  go_wp2_with (go_at_call 85; refine (join_any r ra t.n (st.1 b.toNat) (st.1 (cellIx s f x)) w.drew HB.out HA.out HN).mono ?_; rintro e w1 ⟨rfl, hO, hBk⟩; obtain ⟨hfz, hcz⟩ := FZ.out _ hO.un_drew)
  all_goals (try go_end0)
  all_goals refine ⟨rfl, H.out.join HR.out hO.un_drew hBk ?_⟩
  all_goals first
    | (rw [if_pos (by assumption)])
    | (rw [if_neg (by simp only [Bool.not_eq_true]; assumption)])
set_option maxRecDepth 100000 in
theorem stores1_any (s : Sys) (t : SolAt) (kd a b f : Int) (sv : Value) (wa w : World) (st : St) (x pb cb ch : Nat) (hb : SolBd s t.n) (h : LI wa s t ch st w) (hx : x < t.n) (a0 : 0 ≤ a) (a1 : a < s.vars) (f0 : 0 ≤ f) (f1 : f < s.fields)
    (hp : wa.cell? ⟨pb, 0, none⟩ = some (.pointer (some ⟨t.S, 0, none⟩))) (hc : ∀ j, wa.cell? ⟨cb, j, none⟩ = #[.int .i64 kd, .int .i64 a, .int .i64 b, .int .i64 f, sv][j]?) (np : ¬ t.own pb) (nc : ¬ t.own cb) (npc : pb ≠ ch) (ncc : cb ≠ ch) :
    Calls Tryd.prog 87 #[.int .i64 x, .pointer (some ⟨pb, 0, none⟩), .pointer (some ⟨cb, 0, none⟩), .pointer (some ⟨ch, 0, none⟩)] w fun e w' => e = .returned (.tuple #[]) ∧ LI wa s t ch (joinS t.n st (cellIx s f x) a.toNat) w' := by
  have hbx : ∀ j, w.cell? ⟨cb, j, none⟩ = #[.int .i64 kd, .int .i64 a, .int .i64 b, .int .i64 f, sv][j]? := fun j => by
    by_cases hj : cb < wa.heap.size
    · rw [h.only.cell (p := ⟨cb, j, none⟩) hj (fun e => e.elim nc ncc), hc]
    · have := World.block_lt_of_cell? (a := ⟨cb, 0, none⟩) _ (hc 0); exact absurd this hj
  have hpp : w.cell? ⟨pb, 0, none⟩ = some (.pointer (some ⟨t.S, 0, none⟩)) := h.only.keep hp (fun e => e.elim np npc)
  obtain ⟨ra, b2, hra, c2, hr2, hA⟩ := h.sol.varRow a0 a1
  obtain ⟨r, a2, hro, c3, hr, hB⟩ := h.sol.cellRow hb.vars.1 hx f0 f1
  have hcx : (x : Int) ≤ 1024 := by have := hb.n; omega
  have hpr := prod_bd (a := (x : Int)) (Int.natCast_nonneg x) hb.fields.1 hcx hb.fields.2
  have w1 : IntKind.i64.wrap ((x : Int) * s.fields) = (x : Int) * s.fields := IntWalk.i64_in _ (by omega)
  have f2 := hb.fields
  have w2 : IntKind.i64.wrap ((x : Int) * s.fields + f) = (x : Int) * s.fields + f := IntWalk.i64_in _ (by omega)
  have c1 : w.cell? ⟨t.S, 5, none⟩ = some (.slice (some ⟨t.gv, 0, none⟩) t.RV.length t.RV.length) := h.sol.blk.cell 5
  have c4 : w.cell? ⟨t.S, 6, none⟩ = some (.slice (some ⟨t.gc, 0, none⟩) t.RC.length t.RC.length) := h.sol.blk.cell 6
  have c5 : w.cell? ⟨t.S, 2, none⟩ = some (.int .i64 s.fields) := h.sol.blk.cell 2
  have fz : ∀ w1 : World, Only (· = r) w w1 → w1.frozen? ⟨ch, 0, none⟩ = false ∧ w1.cell? ⟨ch, 0, none⟩ = some (.bool st.2) := fun _ ho =>
    have hk := (h.flag.only ho fun e => h.off.own (by rw [e]; exact hro))
    ⟨hk.frozen 0, hk.cell 0⟩
  have HA := Lib.hid hA
  have HB := Lib.hid hB
  have HR := Lib.hid hr
  have H := Lib.hid h
  have FZ := Lib.hid fz
  have HN := hb.n
  clear h hr hB hA hr2 hb hpr fz f2 hcx
  go_enter Tryd.func87, Tryd.ntmps87
  go_wp2
  go_still_tail 24, (by kernel_rfl)
  change wpList _ _ _ _ _ w.drew
  go_wp2_with (go_at_call 85; refine (join_any r ra t.n (st.1 (cellIx s f x)) (st.1 a.toNat) w.drew HB.out HA.out HN).mono ?_; rintro e w1 ⟨rfl, hO, hBk⟩; obtain ⟨hfz, hcz⟩ := FZ.out _ hO.un_drew)
  all_goals (try go_end0)
  all_goals refine ⟨rfl, H.out.join HR.out hO.un_drew hBk ?_⟩
  all_goals first
    | (rw [if_pos (by assumption)])
    | (rw [if_neg (by simp only [Bool.not_eq_true]; assumption)])
end Go.Proofs.YtcfiohphjlohhaaDoor
