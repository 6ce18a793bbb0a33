/- dataflowref18.holds: is a constraint satisfied by an assignment? -/
import Derived.Test.YtcfiohphjlohhaaDoorT8
namespace Go.Proofs.YtcfiohphjlohhaaDoor
open Go.RowKit

/-- row number i -/
def row (l : List (List Int)) (i : Int) : List Int := l.getD i.toNat []
theorem row_at {l : List (List Int)} {i : Int} (h : i.toNat < l.length) : l[i.toNat]? = some (row l i) := by
  unfold row; rw [List.getD_eq_getElem?_getD, get_at h]; rfl
theorem rows_someI {w : World} {a : Option Addr} {xs : List (List Int)} (h : Rows2 w a xs) {i : Int} (h0 : 0 ≤ i) (h1 : i < xs.length) : ∃ b o, a = some ⟨b, o, none⟩ ∧ b < w.heap.size ∧ ∀ j : Int, 0 ≤ j → j < xs.length → ∃ a' c', w.cell? ⟨b, o + j.toNat, none⟩ = some (.slice a' (row xs j).length c') ∧ Ints w a' (row xs j) := by
  obtain ⟨b, o, e, hc⟩ := h.some (i := i.toNat) (by omega)
  refine ⟨b, o, e, ?_, fun j hj0 hj1 => hc j.toNat _ (row_at (by omega))⟩
  obtain ⟨a', c', hc', _⟩ := hc i.toNat _ (row_at (by omega))
  exact World.block_lt_of_cell? _ _ hc'

theorem has_is {xs : List Int} {x : Int} {r : Bool} (hr : hasB xs x = r) (a : Option Addr) (cap : Nat) (w : World) (h : Ints w a xs) :
    Calls Tryd.prog 33 #[.slice a xs.length cap, .int .i64 x] w fun e w' => e = .returned (.bool r) ∧ w = w' := by
  have := has_any a cap xs x w h
  rwa [hr] at this
theorem part_is {xs ys : List Int} {r : Bool} (hr : partB xs ys = r) (a a2 : Option Addr) (cap cap2 : Nat) (w : World) (h : Ints w a xs) (h2 : Ints w a2 ys) :
    Calls Tryd.prog 32 #[.slice a xs.length cap, .slice a2 ys.length cap2] w fun e w' => e = .returned (.bool r) ∧ w = w' := by
  have := part_any a a2 cap cap2 xs ys w h h2
  rwa [hr] at this

def filt (a b : List Int) : List Int → Bool
  | [] => true
  | x :: l => (!(hasB a x) || hasB b x) && filt a b l
theorem filt_cons (a b : List Int) (x : Int) (l : List Int) : filt a b (x :: l) = ((!(hasB a x) || hasB b x) && filt a b l) := rfl
def loadsB (cells : List (List Int)) (f g : Int) (b : List Int) : List Int → Bool
  | [] => true
  | x :: l => partB (row cells (x * f + g)) b && loadsB cells f g b l
theorem loadsB_cons (cells : List (List Int)) (f g : Int) (b : List Int) (x : Int) (l : List Int) : loadsB cells f g b (x :: l) = (partB (row cells (x * f + g)) b && loadsB cells f g b l) := rfl
def storesB (cells : List (List Int)) (f g : Int) (a : List Int) : List Int → Bool
  | [] => true
  | x :: l => partB a (row cells (x * f + g)) && storesB cells f g a l
theorem storesB_cons (cells : List (List Int)) (f g : Int) (b : List Int) (x : Int) (l : List Int) : storesB cells f g b (x :: l) = (partB b (row cells (x * f + g)) && storesB cells f g b l) := rfl
/-- is a constraint satisfied? -/
def holdsB (s : Sys) (p : Pts) (c : Con) : Bool :=
  if c.kind = 1 then hasB (row p.vars c.b) c.a
  else if c.kind = 2 then partB (row p.vars c.a) (row p.vars c.b)
  else if c.kind = 5 then filt (row p.vars c.a) (row p.vars c.b) c.set
  else if c.kind = 3 then loadsB p.cells s.fields c.field (row p.vars c.b) (row p.vars c.a)
  else storesB p.cells s.fields c.field (row p.vars c.a) (row p.vars c.b)

/-- the sizes that fit; every row in the sites -/
structure Fits (s : Sys) (p : Pts) : Prop where
  vars : (p.vars.length : Int) = s.vars
  cells : (p.cells.length : Int) = s.sites * s.fields
  inV : ∀ l ∈ p.vars, ∀ x ∈ l, 0 ≤ x ∧ x < s.sites
  sites : 0 ≤ s.sites ∧ s.sites ≤ 1024
  fields : 0 ≤ s.fields ∧ s.fields ≤ 1024

theorem cell_lt {x f g n : Int} (h0 : 0 ≤ x) (h1 : x < n) (g0 : 0 ≤ g) (g1 : g < f) : 0 ≤ x * f + g ∧ x * f + g < n * f := by
  have e1 : 0 ≤ x * f := Int.mul_nonneg h0 (by omega)
  have e2 : (x + 1) * f ≤ n * f := Int.mul_le_mul_of_nonneg_right (by omega) (by omega)
  have e3 : (x + 1) * f = x * f + f := by rw [Int.add_mul, Int.one_mul]
  omega

def BoolAnd (v : Bool) (w : World) (e : Ending) (w' : World) : Prop := e = .returned (.bool v) ∧ Below w.heap.size w w'
theorem BoolAnd.mk {v v' : Bool} {w w' : World} (h : v = v') (hb : Below w.heap.size w w') : BoolAnd v w (.returned (.bool v')) w' := ⟨by rw [h], hb⟩

set_option maxRecDepth 100000 in
set_option maxHeartbeats 1000000 in
theorem holds_1 (s : Sys) (p : Pts) (a b f : Int) (set : List Int) (aS a1 a2 a3 : Option Addr) (cS c1 c2 c3 : Nat) (w : World) (h1 : Rows2 w a1 p.vars) (h2 : Rows2 w a2 p.cells) (h3 : Ints w a3 set)
    (F : Fits s p) (hb0 : 0 ≤ b) (hb1 : b < p.vars.length) :
    Calls Tryd.prog 43 #[sysV s aS cS, ptsV p a1 a2 c1 c2, conV ⟨1, a, b, f, set⟩ a3 c3] w (BoolAnd (holdsB s p ⟨1, a, b, f, set⟩) w) := by
  have HB : ∀ o o2 o3, Below w.heap.size w (((w.alloc o).alloc o2).alloc o3) := fun o o2 o3 => below_three w o o2 o3
  dsimp only [sysV, ptsV, conV]
  obtain ⟨bv, ov, rfl, lv, hat⟩ := rows_someI h1 hb0 hb1
  obtain ⟨aB, cB, eB, iB⟩ := hat b hb0 hb1
  have lv1 : bv < w.heap.size + 1 := by omega
  have lv2 : bv < w.heap.size + 1 + 1 := by omega
  clear hat
  have hR : Hid (holdsB s p ⟨1, a, b, f, set⟩ = hasB (row p.vars b) a) := rfl
  have iB' := iB.below (HB (.cells #[.int .i64 s.vars, .int .i64 s.sites, .int .i64 s.fields, .slice aS s.cons.length cS] 24) (.cells #[.slice (some ⟨bv, ov, none⟩) p.vars.length c1, .slice a2 p.cells.length c2] 29) (.cells #[.int .i64 1, .int .i64 a, .int .i64 b, .int .i64 f, .slice a3 set.length c3] 39))
  go_enter Tryd.func43, Tryd.ntmps43
  go_wp2
  go_quiet ((go_at_call 33; exact quiet_left (has_any _ _ _ _ _ (iB'.drewN _))))
  go_wp2
  go_ret
  exact BoolAnd.mk hR.out (below_drewN (HB _ _ _) _)

set_option maxRecDepth 100000 in
set_option maxHeartbeats 1000000 in
theorem holds_2 (s : Sys) (p : Pts) (a b f : Int) (set : List Int) (aS a1 a2 a3 : Option Addr) (cS c1 c2 c3 : Nat) (w : World) (h1 : Rows2 w a1 p.vars) (h2 : Rows2 w a2 p.cells) (h3 : Ints w a3 set)
    (F : Fits s p) (ha0 : 0 ≤ a) (ha1 : a < p.vars.length) (hb0 : 0 ≤ b) (hb1 : b < p.vars.length) :
    Calls Tryd.prog 43 #[sysV s aS cS, ptsV p a1 a2 c1 c2, conV ⟨2, a, b, f, set⟩ a3 c3] w (BoolAnd (holdsB s p ⟨2, a, b, f, set⟩) w) := by
  have HB : ∀ o o2 o3, Below w.heap.size w (((w.alloc o).alloc o2).alloc o3) := fun o o2 o3 => below_three w o o2 o3
  dsimp only [sysV, ptsV, conV]
  obtain ⟨bv, ov, rfl, lv, hat⟩ := rows_someI h1 hb0 hb1
  obtain ⟨aB, cB, eB, iB⟩ := hat b hb0 hb1
  have lv1 : bv < w.heap.size + 1 := by omega
  have lv2 : bv < w.heap.size + 1 + 1 := by omega
  obtain ⟨aA, cA, eA, iA⟩ := hat a ha0 ha1
  clear hat
  have hR : Hid (holdsB s p ⟨2, a, b, f, set⟩ = partB (row p.vars a) (row p.vars b)) := rfl
  have iB' := iB.below (HB (.cells #[.int .i64 s.vars, .int .i64 s.sites, .int .i64 s.fields, .slice aS s.cons.length cS] 24) (.cells #[.slice (some ⟨bv, ov, none⟩) p.vars.length c1, .slice a2 p.cells.length c2] 29) (.cells #[.int .i64 2, .int .i64 a, .int .i64 b, .int .i64 f, .slice a3 set.length c3] 39))
  have iA' := iA.below (HB (.cells #[.int .i64 s.vars, .int .i64 s.sites, .int .i64 s.fields, .slice aS s.cons.length cS] 24) (.cells #[.slice (some ⟨bv, ov, none⟩) p.vars.length c1, .slice a2 p.cells.length c2] 29) (.cells #[.int .i64 2, .int .i64 a, .int .i64 b, .int .i64 f, .slice a3 set.length c3] 39))
  go_enter Tryd.func43, Tryd.ntmps43
  go_wp2
  go_quiet ((go_at_call 32; exact quiet_left (part_any _ _ _ _ _ _ _ (iA'.drewN _) (iB'.drewN _))))
  go_wp2
  go_ret
  exact BoolAnd.mk hR.out (below_drewN (HB _ _ _) _)

set_option maxRecDepth 100000 in
set_option maxHeartbeats 1000000 in
theorem holds_5 (s : Sys) (p : Pts) (a b f : Int) (set : List Int) (aS a1 a2 a3 : Option Addr) (cS c1 c2 c3 : Nat) (w : World) (h1 : Rows2 w a1 p.vars) (h2 : Rows2 w a2 p.cells) (h3 : Ints w a3 set)
    (F : Fits s p) (ha0 : 0 ≤ a) (ha1 : a < p.vars.length) (hb0 : 0 ≤ b) (hb1 : b < p.vars.length) :
    Calls Tryd.prog 43 #[sysV s aS cS, ptsV p a1 a2 c1 c2, conV ⟨5, a, b, f, set⟩ a3 c3] w (BoolAnd (holdsB s p ⟨5, a, b, f, set⟩) w) := by
  have HB : ∀ o o2 o3, Below w.heap.size w (((w.alloc o).alloc o2).alloc o3) := fun o o2 o3 => below_three w o o2 o3
  dsimp only [sysV, ptsV, conV]
  obtain ⟨bv, ov, rfl, lv, hat⟩ := rows_someI h1 hb0 hb1
  obtain ⟨aB, cB, eB, iB⟩ := hat b hb0 hb1
  have lv1 : bv < w.heap.size + 1 := by omega
  have lv2 : bv < w.heap.size + 1 + 1 := by omega
  obtain ⟨aA, cA, eA, iA⟩ := hat a ha0 ha1
  clear hat
  have hm := h3.len.le
  have hR : Hid (holdsB s p ⟨5, a, b, f, set⟩ = filt (row p.vars a) (row p.vars b) set) := rfl
  have iB' := iB.below (HB (.cells #[.int .i64 s.vars, .int .i64 s.sites, .int .i64 s.fields, .slice aS s.cons.length cS] 24) (.cells #[.slice (some ⟨bv, ov, none⟩) p.vars.length c1, .slice a2 p.cells.length c2] 29) (.cells #[.int .i64 5, .int .i64 a, .int .i64 b, .int .i64 f, .slice a3 set.length c3] 39))
  have iA' := iA.below (HB (.cells #[.int .i64 s.vars, .int .i64 s.sites, .int .i64 s.fields, .slice aS s.cons.length cS] 24) (.cells #[.slice (some ⟨bv, ov, none⟩) p.vars.length c1, .slice a2 p.cells.length c2] 29) (.cells #[.int .i64 5, .int .i64 a, .int .i64 b, .int .i64 f, .slice a3 set.length c3] 39))
  go_enter Tryd.func43, Tryd.ntmps43
  go_wp2
  go_loopg [7] set.length (fun g i wr => ∃ n, wr = (((w.alloc (.cells #[.int .i64 s.vars, .int .i64 s.sites, .int .i64 s.fields, .slice aS s.cons.length cS] 24)).alloc (.cells #[.slice (some ⟨bv, ov, none⟩) p.vars.length c1, .slice a2 p.cells.length c2] 29)).alloc (.cells #[.int .i64 5, .int .i64 a, .int .i64 b, .int .i64 f, .slice a3 set.length c3] 39)).drewN n ∧ ∃ k : Nat, k ≤ set.length ∧ g = set.length - k ∧ i = .int .i64 k ∧ Hid (filt (row p.vars a) (row p.vars b) set = filt (row p.vars a) (row p.vars b) (set.drop k)))
  case atStart => exact ⟨0, rfl, 0, Nat.zero_le _, rfl, rfl, rfl⟩
  case round =>
    obtain ⟨n, rfl, k, hk, rfl, rfl, hn⟩ := hrel
    by_cases hlt : k < set.length
    · obtain ⟨b', o, rfl, hc⟩ := h3.at_ k set[k] (get_at hlt)
      have hb : b' < w.heap.size := World.block_lt_of_cell? _ _ hc
      have hbb : b' < w.heap.size + 1 := by omega
      have hbc : b' < w.heap.size + 1 + 1 := by omega
      cases hqa : hasB (row p.vars a) set[k]
      · have hE : Hid (filt (row p.vars a) (row p.vars b) set = filt (row p.vars a) (row p.vars b) (set.drop (k + 1))) := by unfold Hid; rw [hn.out, drop_at hlt, filt_cons, hqa]; rfl
        go_wp2
        go_quiet ((go_at_call 33; exact quiet_add_left (has_is hqa _ _ _ (iA'.drewN _))))
        go_wp2
        go_roundg (set.length - (k + 1))
        case measure => omega
        case rel => exact ⟨_, rfl, k + 1, by omega, rfl, by go_num, hE⟩
      · cases hqb : hasB (row p.vars b) set[k]
        · have hE : Hid (filt (row p.vars a) (row p.vars b) set = false) := by unfold Hid; rw [hn.out, drop_at hlt, filt_cons, hqa, hqb]; rfl
          go_wp2
          go_quiet ((go_at_call 33; (first | (with_reducible exact quiet_add_left (has_is hqa _ _ _ (iA'.drewN _))) | (exact quiet_add_left (has_is hqb _ _ _ (iB'.drewN _))))))
          go_wp2
          go_ret
          exact BoolAnd.mk (by rw [hR.out, hE.out]) (below_drewN (below_drewN (HB _ _ _) _) _)
        · have hE : Hid (filt (row p.vars a) (row p.vars b) set = filt (row p.vars a) (row p.vars b) (set.drop (k + 1))) := by unfold Hid; rw [hn.out, drop_at hlt, filt_cons, hqa, hqb]; rfl
          go_wp2
          go_quiet ((go_at_call 33; (first | (with_reducible exact quiet_add_left (has_is hqa _ _ _ (iA'.drewN _))) | (exact quiet_add_left (has_is hqb _ _ _ (iB'.drewN _))))))
          go_wp2
          go_roundg (set.length - (k + 1))
          case measure => omega
          case rel => exact ⟨_, rfl, k + 1, by omega, rfl, by go_num, hE⟩
    · go_wp2
      go_ret
      exact BoolAnd.mk (by rw [hR.out, hn.out, drop_end hlt]; rfl) (below_drewN (HB _ _ _) _)

set_option maxRecDepth 100000 in
set_option maxHeartbeats 1000000 in
theorem holds_3 (s : Sys) (p : Pts) (a b f : Int) (set : List Int) (aS a1 a2 a3 : Option Addr) (cS c1 c2 c3 : Nat) (w : World) (h1 : Rows2 w a1 p.vars) (h2 : Rows2 w a2 p.cells) (h3 : Ints w a3 set)
    (F : Fits s p) (ha0 : 0 ≤ a) (ha1 : a < p.vars.length) (hf0 : 0 ≤ f) (hf1 : f < s.fields) (hb0 : 0 ≤ b) (hb1 : b < p.vars.length) :
    Calls Tryd.prog 43 #[sysV s aS cS, ptsV p a1 a2 c1 c2, conV ⟨3, a, b, f, set⟩ a3 c3] w (BoolAnd (holdsB s p ⟨3, a, b, f, set⟩) w) := by
  have HB : ∀ o o2 o3, Below w.heap.size w (((w.alloc o).alloc o2).alloc o3) := fun o o2 o3 => below_three w o o2 o3
  dsimp only [sysV, ptsV, conV]
  obtain ⟨bv, ov, rfl, lv, hat⟩ := rows_someI h1 hb0 hb1
  obtain ⟨aB, cB, eB, iB⟩ := hat b hb0 hb1
  have lv1 : bv < w.heap.size + 1 := by omega
  have lv2 : bv < w.heap.size + 1 + 1 := by omega
  obtain ⟨aA, cA, eA, iA⟩ := hat a ha0 ha1
  clear hat
  have hm := iA.len.le
  have hR : Hid (holdsB s p ⟨3, a, b, f, set⟩ = loadsB p.cells s.fields f (row p.vars b) (row p.vars a)) := rfl
  have iB' := iB.below (HB (.cells #[.int .i64 s.vars, .int .i64 s.sites, .int .i64 s.fields, .slice aS s.cons.length cS] 24) (.cells #[.slice (some ⟨bv, ov, none⟩) p.vars.length c1, .slice a2 p.cells.length c2] 29) (.cells #[.int .i64 3, .int .i64 a, .int .i64 b, .int .i64 f, .slice a3 set.length c3] 39))
  have iA' := iA.below (HB (.cells #[.int .i64 s.vars, .int .i64 s.sites, .int .i64 s.fields, .slice aS s.cons.length cS] 24) (.cells #[.slice (some ⟨bv, ov, none⟩) p.vars.length c1, .slice a2 p.cells.length c2] 29) (.cells #[.int .i64 3, .int .i64 a, .int .i64 b, .int .i64 f, .slice a3 set.length c3] 39))
  have fs := F.sites
  have ff := F.fields
  have hbd : ∀ x ∈ (row p.vars a), 0 ≤ x ∧ x < s.sites := fun x hx => F.inV _ (List.mem_of_getElem? (row_at (i := a) (by omega))) x hx
  have HBD := Lib.hid hbd
  clear hbd
  go_enter Tryd.func43, Tryd.ntmps43
  go_wp2
  go_loopg [9] (row p.vars a).length (fun g i wr => ∃ n, wr = (((w.alloc (.cells #[.int .i64 s.vars, .int .i64 s.sites, .int .i64 s.fields, .slice aS s.cons.length cS] 24)).alloc (.cells #[.slice (some ⟨bv, ov, none⟩) p.vars.length c1, .slice a2 p.cells.length c2] 29)).alloc (.cells #[.int .i64 3, .int .i64 a, .int .i64 b, .int .i64 f, .slice a3 set.length c3] 39)).drewN n ∧ ∃ k : Nat, k ≤ (row p.vars a).length ∧ g = (row p.vars a).length - k ∧ i = .int .i64 k ∧ Hid (loadsB p.cells s.fields f (row p.vars b) (row p.vars a) = loadsB p.cells s.fields f (row p.vars b) ((row p.vars a).drop k)))
  case atStart => exact ⟨0, rfl, 0, Nat.zero_le _, rfl, rfl, rfl⟩
  case round =>
    obtain ⟨n, rfl, k, hk, rfl, rfl, hn⟩ := hrel
    by_cases hlt : k < (row p.vars a).length
    · obtain ⟨b', o, rfl, hc⟩ := iA.at_ k (row p.vars a)[k] (get_at hlt)
      have hb : b' < w.heap.size := World.block_lt_of_cell? _ _ hc
      have hbb : b' < w.heap.size + 1 := by omega
      have hbc : b' < w.heap.size + 1 + 1 := by omega
      obtain ⟨hx0, hx1⟩ := HBD.out _ (List.getElem_mem hlt)
      obtain ⟨hi0, hi1⟩ := cell_lt hx0 hx1 hf0 hf1
      have hp := prod_bd (a := (row p.vars a)[k]) (b := s.fields) (by omega) (by omega) (by omega) (by omega)
      have hi2 : (row p.vars a)[k] * s.fields + f < p.cells.length := by rw [F.cells]; exact hi1
      clear hi1
      obtain ⟨bc, oc, rfl, lc, hat2⟩ := rows_someI h2 hi0 hi2
      obtain ⟨aC, cC, eC, iC0⟩ := hat2 _ hi0 hi2
      clear hat2
      have iC := iC0.below (HB (.cells #[.int .i64 s.vars, .int .i64 s.sites, .int .i64 s.fields, .slice aS s.cons.length cS] 24) (.cells #[.slice (some ⟨bv, ov, none⟩) p.vars.length c1, .slice (some ⟨bc, oc, none⟩) p.cells.length c2] 29) (.cells #[.int .i64 3, .int .i64 a, .int .i64 b, .int .i64 f, .slice a3 set.length c3] 39))
      have lc1 : bc < w.heap.size + 1 := by omega
      have lc2 : bc < w.heap.size + 1 + 1 := by omega
      cases hq : partB (row p.cells ((row p.vars a)[k] * s.fields + f)) (row p.vars b)
      · have hE : Hid (loadsB p.cells s.fields f (row p.vars b) (row p.vars a) = false) := by unfold Hid; rw [hn.out, drop_at hlt, loadsB_cons, hq]; rfl
        go_wp2
        go_quiet ((go_at_call 32; exact quiet_add_left (part_is hq _ _ _ _ _ (iC.drewN _) (iB'.drewN _))))
        go_wp2
        go_ret
        exact BoolAnd.mk (by rw [hR.out, hE.out]) (below_drewN (below_drewN (HB _ _ _) _) _)
      · have hE : Hid (loadsB p.cells s.fields f (row p.vars b) (row p.vars a) = loadsB p.cells s.fields f (row p.vars b) ((row p.vars a).drop (k + 1))) := by unfold Hid; rw [hn.out, drop_at hlt, loadsB_cons, hq]; rfl
        go_wp2
        go_quiet ((go_at_call 32; exact quiet_add_left (part_is hq _ _ _ _ _ (iC.drewN _) (iB'.drewN _))))
        go_wp2
        go_roundg ((row p.vars a).length - (k + 1))
        case measure => omega
        case rel => exact ⟨_, rfl, k + 1, by omega, rfl, by go_num, hE⟩
    · go_wp2
      go_ret
      exact BoolAnd.mk (by rw [hR.out, hn.out, drop_end hlt]; rfl) (below_drewN (HB _ _ _) _)

set_option maxRecDepth 100000 in
set_option maxHeartbeats 1000000 in
theorem holds_4 (s : Sys) (p : Pts) (a b f : Int) (set : List Int) (aS a1 a2 a3 : Option Addr) (cS c1 c2 c3 : Nat) (w : World) (h1 : Rows2 w a1 p.vars) (h2 : Rows2 w a2 p.cells) (h3 : Ints w a3 set)
    (F : Fits s p) (ha0 : 0 ≤ a) (ha1 : a < p.vars.length) (hf0 : 0 ≤ f) (hf1 : f < s.fields) (hb0 : 0 ≤ b) (hb1 : b < p.vars.length) :
    Calls Tryd.prog 43 #[sysV s aS cS, ptsV p a1 a2 c1 c2, conV ⟨4, a, b, f, set⟩ a3 c3] w (BoolAnd (holdsB s p ⟨4, a, b, f, set⟩) w) := by
  have HB : ∀ o o2 o3, Below w.heap.size w (((w.alloc o).alloc o2).alloc o3) := fun o o2 o3 => below_three w o o2 o3
  dsimp only [sysV, ptsV, conV]
  obtain ⟨bv, ov, rfl, lv, hat⟩ := rows_someI h1 hb0 hb1
  obtain ⟨aB, cB, eB, iB⟩ := hat b hb0 hb1
  have lv1 : bv < w.heap.size + 1 := by omega
  have lv2 : bv < w.heap.size + 1 + 1 := by omega
  obtain ⟨aA, cA, eA, iA⟩ := hat a ha0 ha1
  clear hat
  have hm := iB.len.le
  have hR : Hid (holdsB s p ⟨4, a, b, f, set⟩ = storesB p.cells s.fields f (row p.vars a) (row p.vars b)) := rfl
  have iB' := iB.below (HB (.cells #[.int .i64 s.vars, .int .i64 s.sites, .int .i64 s.fields, .slice aS s.cons.length cS] 24) (.cells #[.slice (some ⟨bv, ov, none⟩) p.vars.length c1, .slice a2 p.cells.length c2] 29) (.cells #[.int .i64 4, .int .i64 a, .int .i64 b, .int .i64 f, .slice a3 set.length c3] 39))
  have iA' := iA.below (HB (.cells #[.int .i64 s.vars, .int .i64 s.sites, .int .i64 s.fields, .slice aS s.cons.length cS] 24) (.cells #[.slice (some ⟨bv, ov, none⟩) p.vars.length c1, .slice a2 p.cells.length c2] 29) (.cells #[.int .i64 4, .int .i64 a, .int .i64 b, .int .i64 f, .slice a3 set.length c3] 39))
  have fs := F.sites
  have ff := F.fields
  have hbd : ∀ x ∈ (row p.vars b), 0 ≤ x ∧ x < s.sites := fun x hx => F.inV _ (List.mem_of_getElem? (row_at (i := b) (by omega))) x hx
  have HBD := Lib.hid hbd
  clear hbd
  go_enter Tryd.func43, Tryd.ntmps43
  go_wp2
  go_loopg [11] (row p.vars b).length (fun g i wr => ∃ n, wr = (((w.alloc (.cells #[.int .i64 s.vars, .int .i64 s.sites, .int .i64 s.fields, .slice aS s.cons.length cS] 24)).alloc (.cells #[.slice (some ⟨bv, ov, none⟩) p.vars.length c1, .slice a2 p.cells.length c2] 29)).alloc (.cells #[.int .i64 4, .int .i64 a, .int .i64 b, .int .i64 f, .slice a3 set.length c3] 39)).drewN n ∧ ∃ k : Nat, k ≤ (row p.vars b).length ∧ g = (row p.vars b).length - k ∧ i = .int .i64 k ∧ Hid (storesB p.cells s.fields f (row p.vars a) (row p.vars b) = storesB p.cells s.fields f (row p.vars a) ((row p.vars b).drop k)))
  case atStart => exact ⟨0, rfl, 0, Nat.zero_le _, rfl, rfl, rfl⟩
  case round =>
    obtain ⟨n, rfl, k, hk, rfl, rfl, hn⟩ := hrel
    by_cases hlt : k < (row p.vars b).length
    · obtain ⟨b', o, rfl, hc⟩ := iB.at_ k (row p.vars b)[k] (get_at hlt)
      have hb : b' < w.heap.size := World.block_lt_of_cell? _ _ hc
      have hbb : b' < w.heap.size + 1 := by omega
      have hbc : b' < w.heap.size + 1 + 1 := by omega
      obtain ⟨hx0, hx1⟩ := HBD.out _ (List.getElem_mem hlt)
      obtain ⟨hi0, hi1⟩ := cell_lt hx0 hx1 hf0 hf1
      have hp := prod_bd (a := (row p.vars b)[k]) (b := s.fields) (by omega) (by omega) (by omega) (by omega)
      have hi2 : (row p.vars b)[k] * s.fields + f < p.cells.length := by rw [F.cells]; exact hi1
      clear hi1
      obtain ⟨bc, oc, rfl, lc, hat2⟩ := rows_someI h2 hi0 hi2
      obtain ⟨aC, cC, eC, iC0⟩ := hat2 _ hi0 hi2
      clear hat2
      have iC := iC0.below (HB (.cells #[.int .i64 s.vars, .int .i64 s.sites, .int .i64 s.fields, .slice aS s.cons.length cS] 24) (.cells #[.slice (some ⟨bv, ov, none⟩) p.vars.length c1, .slice (some ⟨bc, oc, none⟩) p.cells.length c2] 29) (.cells #[.int .i64 4, .int .i64 a, .int .i64 b, .int .i64 f, .slice a3 set.length c3] 39))
      have lc1 : bc < w.heap.size + 1 := by omega
      have lc2 : bc < w.heap.size + 1 + 1 := by omega
      cases hq : partB (row p.vars a) (row p.cells ((row p.vars b)[k] * s.fields + f))
      · have hE : Hid (storesB p.cells s.fields f (row p.vars a) (row p.vars b) = false) := by unfold Hid; rw [hn.out, drop_at hlt, storesB_cons, hq]; rfl
        go_wp2
        go_quiet ((go_at_call 32; exact quiet_add_left (part_is hq _ _ _ _ _ (iA'.drewN _) (iC.drewN _))))
        go_wp2
        go_ret
        exact BoolAnd.mk (by rw [hR.out, hE.out]) (below_drewN (below_drewN (HB _ _ _) _) _)
      · have hE : Hid (storesB p.cells s.fields f (row p.vars a) (row p.vars b) = storesB p.cells s.fields f (row p.vars a) ((row p.vars b).drop (k + 1))) := by unfold Hid; rw [hn.out, drop_at hlt, storesB_cons, hq]; rfl
        go_wp2
        go_quiet ((go_at_call 32; exact quiet_add_left (part_is hq _ _ _ _ _ (iA'.drewN _) (iC.drewN _))))
        go_wp2
        go_roundg ((row p.vars b).length - (k + 1))
        case measure => omega
        case rel => exact ⟨_, rfl, k + 1, by omega, rfl, by go_num, hE⟩
    · go_wp2
      go_ret
      exact BoolAnd.mk (by rw [hR.out, hn.out, drop_end hlt]; rfl) (below_drewN (HB _ _ _) _)
end Go.Proofs.YtcfiohphjlohhaaDoor
