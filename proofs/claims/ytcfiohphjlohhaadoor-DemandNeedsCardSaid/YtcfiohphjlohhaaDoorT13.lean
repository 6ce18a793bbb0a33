/- The reference's table: apply. -/
import Derived.Test.YtcfiohphjlohhaaDoorT12
import Derived.Deep.RegionWith
namespace Go.Proofs.YtcfiohphjlohhaaDoor
open Go.RowKit

def filtS (a b : Nat) : List Int → St → St
  | [], st => st
  | x :: l, st => filtS a b l (if st.1 a x.toNat = true then putS st b x.toNat else st)
theorem filtS_cons (a b : Nat) (x : Int) (l : List Int) (st : St) : filtS a b (x :: l) st = filtS a b l (if st.1 a x.toNat = true then putS st b x.toNat else st) := rfl
/-- the row of the cell of a site -/
def cellIx (s : Sys) (f : Int) (x : Nat) : Nat := (s.vars + (x : Int) * s.fields + f).toNat
def loadS (s : Sys) (n a b : Nat) (f : Int) : Nat → Nat → St → St
  | 0, _, st => st
  | d + 1, x, st => loadS s n a b f d (x + 1) (if st.1 a x = true then flowS n (cellIx s f x) b n 0 st else st)
def storeS (s : Sys) (n a b : Nat) (f : Int) : Nat → Nat → St → St
  | 0, _, st => st
  | d + 1, x, st => storeS s n a b f d (x + 1) (if st.1 b x = true then flowS n a (cellIx s f x) n 0 st else st)
theorem loadS_succ (s : Sys) (n a b : Nat) (f : Int) (d x : Nat) (st : St) : loadS s n a b f (d + 1) x st = loadS s n a b f d (x + 1) (if st.1 a x = true then flowS n (cellIx s f x) b n 0 st else st) := rfl
theorem storeS_succ (s : Sys) (n a b : Nat) (f : Int) (d x : Nat) (st : St) : storeS s n a b f (d + 1) x st = storeS s n a b f d (x + 1) (if st.1 b x = true then flowS n a (cellIx s f x) n 0 st else st) := rfl
/-- what a constraint adds: as the reference goes -/
def applyS (s : Sys) (n : Nat) (c : Con) (st : St) : St :=
  if c.kind = 1 then putS st c.b.toNat c.a.toNat
  else if c.kind = 2 then flowS n c.a.toNat c.b.toNat n 0 st
  else if c.kind = 5 then filtS c.a.toNat c.b.toNat c.set st
  else if c.kind = 3 then loadS s n c.a.toNat c.b.toNat c.field n 0 st
  else storeS s n c.a.toNat c.b.toNat c.field n 0 st

theorem Tab.not_own {w : World} {s : Sys} {t : TabAt} {st : St} (h : Tab w s t st) : ¬ t.own w.heap.size := by
  rintro (e | e)
  · have := h.blk.lt; omega
  · obtain ⟨i, hi, he⟩ := List.getElem_of_mem e
    have := (h.rows i _ (List.getElem?_eq_getElem hi)).lt
    omega

/-- the sizes that are needed -/
structure TabOk (s : Sys) (t : TabAt) : Prop where
  vars : 0 ≤ s.vars ∧ s.vars ≤ 65536
  sites : s.sites ≤ 1024
  fields : 0 ≤ s.fields ∧ s.fields ≤ 1024
  len : (t.R.length : Int) = s.vars + s.sites * s.fields

set_option maxRecDepth 100000 in
set_option maxHeartbeats 2000000 in
theorem apply_1 (s : Sys) (t : TabAt) (st : St) (a b f : Int) (set : List Int) (a' : Option Addr) (c' : Nat) (w0 w : World) (h : Tab w s t st) (ok : TabOk s t) (hs : Ints w0 a' set) (hb0 : Below w0.heap.size w0 w)
    (hown : ∀ k, t.own k → w0.heap.size ≤ k) (hset : ∀ x ∈ set, 0 ≤ x ∧ x < s.sites) (a0 : 0 ≤ a) (a1 : a < s.sites) (b0 : 0 ≤ b) (b1 : b < s.vars) :
    Calls Tryd.prog 40 #[.pointer (some ⟨t.T, 0, none⟩), conV ⟨1, a, b, f, set⟩ a' c'] w (TabPost w s t (applyS s t.n ⟨1, a, b, f, set⟩ st)) := by
  dsimp only [conV]
  have hT1 := h.alloc (.cells #[.int .i64 1, .int .i64 a, .int .i64 b, .int .i64 f, .slice a' set.length c'] 39)
  have hlen := ok.len
  have hns := h.sites
  have ov := ok.vars
  have of := ok.fields
  have osi := ok.sites
  have hp := prod_bd (a := s.sites) (b := s.fields) (by omega) of.1 osi of.2
  have HO : Only t.own w (w.alloc (.cells #[.int .i64 1, .int .i64 a, .int .i64 b, .int .i64 f, .slice a' set.length c'] 39)) := (Only.refl _ _).alloc _
  have b2 : b < t.R.length := by omega
  have a2 : a < t.n := by omega
  clear h hs hp hlen
  go_enter Tryd.func40, Tryd.ntmps40
  go_wp2_with (go_at_call 62; refine (put_any s t st b a _ hT1 b0 b2 a0 a2).mono ?_; rintro e w1 ⟨rfl, hO1, hT2⟩)
  go_end0
  exact ⟨rfl, HO.trans hO1, hT2⟩

set_option maxRecDepth 100000 in
set_option maxHeartbeats 2000000 in
theorem apply_2 (s : Sys) (t : TabAt) (st : St) (a b f : Int) (set : List Int) (a' : Option Addr) (c' : Nat) (w0 w : World) (h : Tab w s t st) (ok : TabOk s t) (hs : Ints w0 a' set) (hb0 : Below w0.heap.size w0 w)
    (hown : ∀ k, t.own k → w0.heap.size ≤ k) (hset : ∀ x ∈ set, 0 ≤ x ∧ x < s.sites) (a0 : 0 ≤ a) (a1 : a < s.vars) (b0 : 0 ≤ b) (b1 : b < s.vars) :
    Calls Tryd.prog 40 #[.pointer (some ⟨t.T, 0, none⟩), conV ⟨2, a, b, f, set⟩ a' c'] w (TabPost w s t (applyS s t.n ⟨2, a, b, f, set⟩ st)) := by
  dsimp only [conV]
  have hT1 := h.alloc (.cells #[.int .i64 2, .int .i64 a, .int .i64 b, .int .i64 f, .slice a' set.length c'] 39)
  have hlen := ok.len
  have hns := h.sites
  have ov := ok.vars
  have of := ok.fields
  have osi := ok.sites
  have hp := prod_bd (a := s.sites) (b := s.fields) (by omega) of.1 osi of.2
  have HO : Only t.own w (w.alloc (.cells #[.int .i64 2, .int .i64 a, .int .i64 b, .int .i64 f, .slice a' set.length c'] 39)) := (Only.refl _ _).alloc _
  have b2 : b < t.R.length := by omega
  have a2 : a < t.R.length := by omega
  have hn : t.n ≤ 1024 := by omega
  clear h hs hp hlen
  go_enter Tryd.func40, Tryd.ntmps40
  go_wp2_with (go_at_call 63; refine (flow_any s t st a b _ hT1 hn a0 a2 b0 b2).mono ?_; rintro e w1 ⟨rfl, hO1, hT2⟩)
  go_end0
  exact ⟨rfl, HO.trans hO1, hT2⟩

set_option maxRecDepth 100000 in
set_option maxHeartbeats 2000000 in
theorem apply_5 (s : Sys) (t : TabAt) (st : St) (a b f : Int) (set : List Int) (a' : Option Addr) (c' : Nat) (w0 w : World) (h : Tab w s t st) (ok : TabOk s t) (hs : Ints w0 a' set) (hb0 : Below w0.heap.size w0 w)
    (hown : ∀ k, t.own k → w0.heap.size ≤ k) (hset : ∀ x ∈ set, 0 ≤ x ∧ x < s.sites) (a0 : 0 ≤ a) (a1 : a < s.vars) (b0 : 0 ≤ b) (b1 : b < s.vars) :
    Calls Tryd.prog 40 #[.pointer (some ⟨t.T, 0, none⟩), conV ⟨5, a, b, f, set⟩ a' c'] w (TabPost w s t (applyS s t.n ⟨5, a, b, f, set⟩ st)) := by
  dsimp only [conV]
  have hT1 := h.alloc (.cells #[.int .i64 5, .int .i64 a, .int .i64 b, .int .i64 f, .slice a' set.length c'] 39)
  have hlen := ok.len
  have hns := h.sites
  have ov := ok.vars
  have of := ok.fields
  have osi := ok.sites
  have hp := prod_bd (a := s.sites) (b := s.fields) (by omega) of.1 osi of.2
  have HO : Only t.own w (w.alloc (.cells #[.int .i64 5, .int .i64 a, .int .i64 b, .int .i64 f, .slice a' set.length c'] 39)) := (Only.refl _ _).alloc _
  have b2 : b < t.R.length := by omega
  have a2 : a < t.R.length := by omega
  have hnown := h.not_own
  have hm := hs.len.le
  have hw0 := hb0.size
  have hR : Hid (applyS s t.n ⟨5, a, b, f, set⟩ st = filtS a.toNat b.toNat set st) := rfl
  clear h hp hlen
  go_enter Tryd.func40, Tryd.ntmps40
  go_wp2
  go_loopg [4] set.length (fun g i wr => ∃ (k : Nat) (st' : St), k ≤ set.length ∧ g = set.length - k ∧ i = .int .i64 k ∧ Hid (Only t.own (w.alloc (.cells #[.int .i64 5, .int .i64 a, .int .i64 b, .int .i64 f, .slice a' set.length c'] 39)) wr) ∧ Hid (Tab wr s t st') ∧ Hid (filtS a.toNat b.toNat set st = filtS a.toNat b.toNat (set.drop k) st'))
  case atStart => exact ⟨0, st, Nat.zero_le _, rfl, rfl, Only.refl _ _, hT1, rfl⟩
  case round =>
    obtain ⟨k, st', hk, rfl, rfl, hO, hT, hE⟩ := hrel
    have hbx : ∀ j, wr.cell? ⟨w.heap.size, j, none⟩ = #[.int .i64 5, .int .i64 a, .int .i64 b, .int .i64 f, .slice a' set.length c'][j]? := fun j => (hO.out.cell (p := ⟨w.heap.size, j, none⟩) (by simp) hnown).trans (World.cell?_alloc_new _ _ _ _)
    have hsw : Ints wr a' set := hs.below (hb0.trans ((HO.trans hO.out).to_below hw0 hown))
    by_cases hlt : k < set.length
    · obtain ⟨bb, o, rfl, hc⟩ := hsw.at_ k set[k] (get_at hlt)
      obtain ⟨x0, x1⟩ := hset _ (List.getElem_mem hlt)
      have x2 : set[k] < t.n := by omega
      obtain ⟨r, hr⟩ := getT a0 a2
      have HR := Lib.hid hr
      have c1 : wr.cell? ⟨t.T, 4, none⟩ = some (.slice (some ⟨t.g, 0, none⟩) t.R.length t.cap) := hT.out.has_cell hr
      have c2 := hT.out.has _ _ hr
      have c3 : wr.cell? ⟨r, set[k].toNat, none⟩ = some (.bool (st'.1 a.toNat set[k].toNat)) := ((hT.out.rows _ _ hr).cell _).trans (rowCells_at _ (by omega))
      clear hr
      cases hq : st'.1 a.toNat set[k].toNat
      · rw [hq] at c3
        have hE2 : Hid (filtS a.toNat b.toNat set st = filtS a.toNat b.toNat (set.drop (k + 1)) st') := by
          unfold Hid; rw [hE.out, drop_at hlt, filtS_cons, if_neg (by rw [hq]; exact Bool.false_ne_true)]
        clear hq hE
        go_wp2
        go_quiet (fail)
        go_wp2
        go_roundg (set.length - (k + 1))
        case measure => omega
        case rel => exact ⟨k + 1, st', by omega, rfl, by go_num, hO.out.drewN _, hT.out.drewN _, hE2⟩
      · rw [hq] at c3
        have hE2 : Hid (filtS a.toNat b.toNat set st = filtS a.toNat b.toNat (set.drop (k + 1)) (putS st' b.toNat set[k].toNat)) := by
          unfold Hid; rw [hE.out, drop_at hlt, filtS_cons, if_pos hq]
        clear hq hE
        go_wp2
        go_quiet (fail)
        go_wp2
        have hO2 := hO.out.drewN nq
        have hT2 := hT.out.drewN nq
        have hbx2 : ∀ j, (wr.drewN nq).cell? ⟨w.heap.size, j, none⟩ = #[.int .i64 5, .int .i64 a, .int .i64 b, .int .i64 f, .slice (some ⟨bb, o, none⟩) set.length c'][j]? := hbx
        have hc2 : (wr.drewN nq).cell? ⟨bb, o + k, none⟩ = some (.int .i64 set[k]) := hc
        clear hbx hc c1 c2 c3 hsw hO hT
        generalize wr.drewN nq = wq at *
        go_still_tail 8, (by kernel_rfl)
        change wpList _ _ _ _ _ wq.drew
        go_wp2_with (go_at_call 62; refine (put_any s t st' b set[k] _ hT2.drew b0 b2 x0 x2).mono ?_; rintro e w1 ⟨rfl, hO1, hT3⟩)
        go_roundg (set.length - (k + 1))
        case measure => omega
        case rel => exact ⟨k + 1, _, by omega, rfl, by go_num, hO2.drew.trans hO1, hT3, hE2⟩
    · have hE2 : filtS a.toNat b.toNat set st = st' := by rw [hE.out, drop_end hlt]; rfl
      clear hE
      go_wp2
      go_end0
      exact ⟨rfl, HO.trans hO.out, by rw [hR.out, hE2]; exact hT.out⟩

set_option maxRecDepth 100000 in
set_option maxHeartbeats 2000000 in
theorem apply_3 (s : Sys) (t : TabAt) (st : St) (a b f : Int) (set : List Int) (a' : Option Addr) (c' : Nat) (w0 w : World) (h : Tab w s t st) (ok : TabOk s t) (hs : Ints w0 a' set) (hb0 : Below w0.heap.size w0 w)
    (hown : ∀ k, t.own k → w0.heap.size ≤ k) (hset : ∀ x ∈ set, 0 ≤ x ∧ x < s.sites) (a0 : 0 ≤ a) (a1 : a < s.vars) (f0 : 0 ≤ f) (f1 : f < s.fields) (b0 : 0 ≤ b) (b1 : b < s.vars) :
    Calls Tryd.prog 40 #[.pointer (some ⟨t.T, 0, none⟩), conV ⟨3, a, b, f, set⟩ a' c'] w (TabPost w s t (applyS s t.n ⟨3, a, b, f, set⟩ st)) := by
  dsimp only [conV]
  have hT1 := h.alloc (.cells #[.int .i64 3, .int .i64 a, .int .i64 b, .int .i64 f, .slice a' set.length c'] 39)
  have hlen := ok.len
  have hns := h.sites
  have ov := ok.vars
  have of := ok.fields
  have osi := ok.sites
  have hp := prod_bd (a := s.sites) (b := s.fields) (by omega) of.1 osi of.2
  have HO : Only t.own w (w.alloc (.cells #[.int .i64 3, .int .i64 a, .int .i64 b, .int .i64 f, .slice a' set.length c'] 39)) := (Only.refl _ _).alloc _
  have b2 : b < t.R.length := by omega
  have a2 : a < t.R.length := by omega
  have hn : t.n ≤ 1024 := by omega
  have hnown := h.not_own
  have hR : Hid (applyS s t.n ⟨3, a, b, f, set⟩ st = loadS s t.n a.toNat b.toNat f t.n 0 st) := rfl
  have HP := Lib.hid hp
  have HL := Lib.hid hlen
  have hf2 : 0 ≤ f ∧ f ≤ 1024 := by omega
  clear h hp hlen
  go_enter Tryd.func40, Tryd.ntmps40
  go_wp2
  go_loopg [5] t.n (fun g i wr => ∃ (x : Nat) (st' : St), x ≤ t.n ∧ g = t.n - x ∧ i = .int .i64 x ∧ Hid (Only t.own (w.alloc (.cells #[.int .i64 3, .int .i64 a, .int .i64 b, .int .i64 f, .slice a' set.length c'] 39)) wr) ∧ Hid (Tab wr s t st') ∧ Hid (loadS s t.n a.toNat b.toNat f t.n 0 st = loadS s t.n a.toNat b.toNat f (t.n - x) x st'))
  case atStart => exact ⟨0, st, Nat.zero_le _, rfl, rfl, Only.refl _ _, hT1, rfl⟩
  case round =>
    obtain ⟨x, st', hx, rfl, rfl, hO, hT, hE⟩ := hrel
    have hbx : ∀ j, wr.cell? ⟨w.heap.size, j, none⟩ = #[.int .i64 3, .int .i64 a, .int .i64 b, .int .i64 f, .slice a' set.length c'][j]? := fun j => (hO.out.cell (p := ⟨w.heap.size, j, none⟩) (by simp) hnown).trans (World.cell?_alloc_new _ _ _ _)
    have c0 : wr.cell? ⟨t.T, 1, none⟩ = some (.int .i64 t.n) := by rw [← hns]; exact hT.out.blk.cell 1
    by_cases hlt : x < t.n
    · obtain ⟨r, hr⟩ := getT a0 a2
      have c1 : wr.cell? ⟨t.T, 4, none⟩ = some (.slice (some ⟨t.g, 0, none⟩) t.R.length t.cap) := hT.out.has_cell hr
      have c2 := hT.out.has _ _ hr
      have c3 : wr.cell? ⟨r, x, none⟩ = some (.bool (st'.1 a.toNat x)) := ((hT.out.rows _ _ hr).cell _).trans (rowCells_at _ hlt)
      clear hr
      cases hq : st'.1 a.toNat x
      · rw [hq] at c3
        have hE2 : Hid (loadS s t.n a.toNat b.toNat f t.n 0 st = loadS s t.n a.toNat b.toNat f (t.n - (x + 1)) (x + 1) st') := by
          unfold Hid; rw [hE.out, show t.n - x = t.n - (x + 1) + 1 by omega, loadS_succ, if_neg (by rw [hq]; exact Bool.false_ne_true)]
        clear hq hE
        go_wp2
        go_quiet (fail)
        go_wp2
        go_roundg (t.n - (x + 1))
        case measure => omega
        case rel => exact ⟨x + 1, st', by omega, rfl, by go_num, hO.out.drewN _, hT.out.drewN _, hE2⟩
      · rw [hq] at c3
        have hE2 : Hid (loadS s t.n a.toNat b.toNat f t.n 0 st = loadS s t.n a.toNat b.toNat f (t.n - (x + 1)) (x + 1) (flowS t.n (cellIx s f x) b.toNat t.n 0 st')) := by
          unfold Hid; rw [hE.out, show t.n - x = t.n - (x + 1) + 1 by omega, loadS_succ, if_pos hq]
        clear hq hE
        obtain ⟨e0, e1⟩ := cell_lt (x := (x : Int)) (f := s.fields) (g := f) (n := s.sites) (by omega) (by omega) f0 f1
        have ci0 : 0 ≤ s.vars + (x : Int) * s.fields + f := by omega
        have ci1 : s.vars + (x : Int) * s.fields + f < t.R.length := by rw [HL.out]; omega
        have hx2 : 0 ≤ (x : Int) ∧ (x : Int) ≤ 1024 := by omega
        clear e0 e1
        go_wp2
        go_quiet (fail)
        go_wp2
        go_region_with (first | (go_at_call 64; refine (cell_any s t st' x f _ (hT.out.drewN _) ov hx2 hf2 of).mono ?_; rintro e w' ⟨rfl, n3, rfl⟩) | (go_at_call 63; refine (flow_any s t st' _ b _ (hT.out.drewN _) hn ci0 ci1 b0 b2).mono ?_; rintro e w1 ⟨rfl, hO1, hT2⟩))
        all_goals
          go_wp2
          go_roundg (t.n - (x + 1))
          case measure => omega
          case rel => exact ⟨x + 1, _, by omega, rfl, by go_num, (hO.out.drewN _).trans hO1, hT2, hE2⟩
    · have hE2 : loadS s t.n a.toNat b.toNat f t.n 0 st = st' := by rw [hE.out, show t.n - x = 0 by omega]; rfl
      clear hE
      go_wp2
      go_end0
      exact ⟨rfl, HO.trans hO.out, by rw [hR.out, hE2]; exact hT.out⟩

set_option maxRecDepth 100000 in
set_option maxHeartbeats 2000000 in
theorem apply_4 (s : Sys) (t : TabAt) (st : St) (a b f : Int) (set : List Int) (a' : Option Addr) (c' : Nat) (w0 w : World) (h : Tab w s t st) (ok : TabOk s t) (hs : Ints w0 a' set) (hb0 : Below w0.heap.size w0 w)
    (hown : ∀ k, t.own k → w0.heap.size ≤ k) (hset : ∀ x ∈ set, 0 ≤ x ∧ x < s.sites) (a0 : 0 ≤ a) (a1 : a < s.vars) (f0 : 0 ≤ f) (f1 : f < s.fields) (b0 : 0 ≤ b) (b1 : b < s.vars) :
    Calls Tryd.prog 40 #[.pointer (some ⟨t.T, 0, none⟩), conV ⟨4, a, b, f, set⟩ a' c'] w (TabPost w s t (applyS s t.n ⟨4, a, b, f, set⟩ st)) := by
  dsimp only [conV]
  have hT1 := h.alloc (.cells #[.int .i64 4, .int .i64 a, .int .i64 b, .int .i64 f, .slice a' set.length c'] 39)
  have hlen := ok.len
  have hns := h.sites
  have ov := ok.vars
  have of := ok.fields
  have osi := ok.sites
  have hp := prod_bd (a := s.sites) (b := s.fields) (by omega) of.1 osi of.2
  have HO : Only t.own w (w.alloc (.cells #[.int .i64 4, .int .i64 a, .int .i64 b, .int .i64 f, .slice a' set.length c'] 39)) := (Only.refl _ _).alloc _
  have b2 : b < t.R.length := by omega
  have a2 : a < t.R.length := by omega
  have hn : t.n ≤ 1024 := by omega
  have hnown := h.not_own
  have hR : Hid (applyS s t.n ⟨4, a, b, f, set⟩ st = storeS s t.n a.toNat b.toNat f t.n 0 st) := rfl
  have HP := Lib.hid hp
  have HL := Lib.hid hlen
  have hf2 : 0 ≤ f ∧ f ≤ 1024 := by omega
  clear h hp hlen
  go_enter Tryd.func40, Tryd.ntmps40
  go_wp2
  go_loopg [6] t.n (fun g i wr => ∃ (x : Nat) (st' : St), x ≤ t.n ∧ g = t.n - x ∧ i = .int .i64 x ∧ Hid (Only t.own (w.alloc (.cells #[.int .i64 4, .int .i64 a, .int .i64 b, .int .i64 f, .slice a' set.length c'] 39)) wr) ∧ Hid (Tab wr s t st') ∧ Hid (storeS s t.n a.toNat b.toNat f t.n 0 st = storeS s t.n a.toNat b.toNat f (t.n - x) x st'))
  case atStart => exact ⟨0, st, Nat.zero_le _, rfl, rfl, Only.refl _ _, hT1, rfl⟩
  case round =>
    obtain ⟨x, st', hx, rfl, rfl, hO, hT, hE⟩ := hrel
    have hbx : ∀ j, wr.cell? ⟨w.heap.size, j, none⟩ = #[.int .i64 4, .int .i64 a, .int .i64 b, .int .i64 f, .slice a' set.length c'][j]? := fun j => (hO.out.cell (p := ⟨w.heap.size, j, none⟩) (by simp) hnown).trans (World.cell?_alloc_new _ _ _ _)
    have c0 : wr.cell? ⟨t.T, 1, none⟩ = some (.int .i64 t.n) := by rw [← hns]; exact hT.out.blk.cell 1
    by_cases hlt : x < t.n
    · obtain ⟨r, hr⟩ := getT b0 b2
      have c1 : wr.cell? ⟨t.T, 4, none⟩ = some (.slice (some ⟨t.g, 0, none⟩) t.R.length t.cap) := hT.out.has_cell hr
      have c2 := hT.out.has _ _ hr
      have c3 : wr.cell? ⟨r, x, none⟩ = some (.bool (st'.1 b.toNat x)) := ((hT.out.rows _ _ hr).cell _).trans (rowCells_at _ hlt)
      clear hr
      cases hq : st'.1 b.toNat x
      · rw [hq] at c3
        have hE2 : Hid (storeS s t.n a.toNat b.toNat f t.n 0 st = storeS s t.n a.toNat b.toNat f (t.n - (x + 1)) (x + 1) st') := by
          unfold Hid; rw [hE.out, show t.n - x = t.n - (x + 1) + 1 by omega, storeS_succ, if_neg (by rw [hq]; exact Bool.false_ne_true)]
        clear hq hE
        go_wp2
        go_quiet (fail)
        go_wp2
        go_roundg (t.n - (x + 1))
        case measure => omega
        case rel => exact ⟨x + 1, st', by omega, rfl, by go_num, hO.out.drewN _, hT.out.drewN _, hE2⟩
      · rw [hq] at c3
        have hE2 : Hid (storeS s t.n a.toNat b.toNat f t.n 0 st = storeS s t.n a.toNat b.toNat f (t.n - (x + 1)) (x + 1) (flowS t.n a.toNat (cellIx s f x) t.n 0 st')) := by
          unfold Hid; rw [hE.out, show t.n - x = t.n - (x + 1) + 1 by omega, storeS_succ, if_pos hq]
        clear hq hE
        obtain ⟨e0, e1⟩ := cell_lt (x := (x : Int)) (f := s.fields) (g := f) (n := s.sites) (by omega) (by omega) f0 f1
        have ci0 : 0 ≤ s.vars + (x : Int) * s.fields + f := by omega
        have ci1 : s.vars + (x : Int) * s.fields + f < t.R.length := by rw [HL.out]; omega
        have hx2 : 0 ≤ (x : Int) ∧ (x : Int) ≤ 1024 := by omega
        clear e0 e1
        go_wp2
        go_quiet (fail)
        go_wp2
        go_region_with (first | (go_at_call 64; refine (cell_any s t st' x f _ (hT.out.drewN _) ov hx2 hf2 of).mono ?_; rintro e w' ⟨rfl, n3, rfl⟩) | (go_at_call 63; refine (flow_any s t st' a _ _ (hT.out.drewN _) hn a0 a2 ci0 ci1).mono ?_; rintro e w1 ⟨rfl, hO1, hT2⟩))
        all_goals
          go_wp2
          go_roundg (t.n - (x + 1))
          case measure => omega
          case rel => exact ⟨x + 1, _, by omega, rfl, by go_num, (hO.out.drewN _).trans hO1, hT2, hE2⟩
    · have hE2 : storeS s t.n a.toNat b.toNat f t.n 0 st = st' := by rw [hE.out, show t.n - x = 0 by omega]; rfl
      clear hE
      go_wp2
      go_end0
      exact ⟨rfl, HO.trans hO.out, by rw [hR.out, hE2]; exact hT.out⟩

theorem apply_any (s : Sys) (t : TabAt) (st : St) (c : Con) (a' : Option Addr) (c' : Nat) (w0 w : World) (h : Tab w s t st) (ok : TabOk s t) (hs : Ints w0 a' c.set) (hb0 : Below w0.heap.size w0 w)
    (hown : ∀ k, t.own k → w0.heap.size ≤ k) (hc : ConOk s c) :
    Calls Tryd.prog 40 #[.pointer (some ⟨t.T, 0, none⟩), conV c a' c'] w (TabPost w s t (applyS s t.n c st)) := by
  obtain ⟨kind, a, b, f, set⟩ := c
  obtain ⟨hk, ha, hb, hf, hset, _, _, _⟩ := hc
  dsimp only at hk ha hb hf hs hset
  by_cases e1 : kind = 1
  · subst e1
    exact apply_1 s t st a b f set _ _ w0 w h ok hs hb0 hown hset ha.1 ha.2 hb.1 hb.2
  rw [if_neg e1] at ha
  by_cases e2 : kind = 2
  · subst e2
    exact apply_2 s t st a b f set _ _ w0 w h ok hs hb0 hown hset ha.1 ha.2 hb.1 hb.2
  by_cases e5 : kind = 5
  · subst e5
    exact apply_5 s t st a b f set _ _ w0 w h ok hs hb0 hown hset ha.1 ha.2 hb.1 hb.2
  by_cases e3 : kind = 3
  · subst e3
    exact apply_3 s t st a b f set _ _ w0 w h ok hs hb0 hown hset ha.1 ha.2 (hf rfl).1 (hf rfl).2 hb.1 hb.2
  have e4 : kind = 4 := by omega
  subst e4
  exact apply_4 s t st a b f set _ _ w0 w h ok hs hb0 hown hset ha.1 ha.2 (hf rfl).1 (hf rfl).2 hb.1 hb.2
end Go.Proofs.YtcfiohphjlohhaaDoor
