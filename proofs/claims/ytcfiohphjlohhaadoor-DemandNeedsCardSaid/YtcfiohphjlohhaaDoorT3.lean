/- trial -/
import Derived.Test.YtcfiohphjlohhaaDoorT2
namespace Go.Proofs.YtcfiohphjlohhaaDoor
open Go.RowKit

/-- where x stands in l, from place k on; -1 if nowhere -/
def indexB (x : Int) : List Int → Nat → Int
  | [], _ => -1
  | a :: l, k => if x = a then k else indexB x l (k + 1)
theorem indexB_has (x : Int) : ∀ (l : List Int) (k : Nat), decide (0 ≤ indexB x l k) = hasB l x
  | [], _ => rfl
  | a :: l, k => by
    rw [hasB_cons]
    unfold indexB
    by_cases h : x = a
    · simp [h]
    · rw [if_neg h, indexB_has x l]
      have : (a == x) = false := by simp; exact fun e => h e.symm
      rw [this]; rfl

theorem index_any (a : Option Addr) (cap : Nat) (xs : List Int) (x : Int) (w : World) (h : Ints w a xs) :
    Calls Tryd.prog 88 #[.slice a xs.length cap, .int .i64 x] w fun e w' => e = .returned (.int .i64 (indexB x xs 0)) ∧ w = w' := by
  have hm := h.len.le
  go_enter Tryd.func88, Tryd.ntmps88
  go_wp2
  go_loopg [8] xs.length (fun g i wr => w = wr ∧ ∃ k : Nat, k ≤ xs.length ∧ g = xs.length - k ∧ i = .int .i64 k ∧ Hid (indexB x xs 0 = indexB x (xs.drop k) k))
  case atStart => exact ⟨rfl, 0, Nat.zero_le _, rfl, rfl, rfl⟩
  case round =>
    obtain ⟨rfl, k, hk, rfl, rfl, hn⟩ := hrel
    by_cases hlt : k < xs.length
    · obtain ⟨b, o, rfl, hc⟩ := h.at_ k xs[k] (get_at hlt)
      go_wp2
      · have hq : (x == xs[k]) = true := by assumption
        go_ret
        exact ⟨ret_int (by rw [hn.out, drop_at hlt, indexB, if_pos (by simpa using hq)]), rfl⟩
      · have hq : (x == xs[k]) = false := by assumption
        go_roundg (xs.length - (k + 1))
        case measure => omega
        case rel => exact ⟨rfl, k + 1, by omega, rfl, by go_num, by unfold Hid; rw [hn.out, drop_at hlt, indexB, if_neg (by simpa using hq)]⟩
    · go_wp2
      go_ret
      exact ⟨ret_int (by rw [hn.out, drop_end hlt]; rfl), rfl⟩

theorem contains_any (a : Option Addr) (cap : Nat) (xs : List Int) (x : Int) (w : World) (h : Ints w a xs) :
    Calls Tryd.prog 78 #[.slice a xs.length cap, .int .i64 x] w fun e w' => e = .returned (.bool (hasB xs x)) ∧ w = w' := by
  go_enter Tryd.func78, Tryd.ntmps78
  go_wp2_with (go_at_call 88; refine (index_any _ _ _ _ _ h).mono ?_; rintro e w' ⟨rfl, rfl⟩)
  go_ret
  exact ⟨ret_bool (indexB_has x xs 0), rfl⟩

theorem inside_any (a1 a2 : Option Addr) (c1 c2 : Nat) (l m : List (List Int)) (w : World) (h1 : Rows2 w a1 l) (h2 : Rows2 w a2 m) :
    Calls Tryd.prog 47 #[.slice a1 l.length c1, .slice a2 m.length c2] w fun e w' => e = .returned (.bool (insideB l m)) ∧ w = w' := by
  have hm := h1.len.le
  by_cases he : l.length = m.length
  · have HE := Lib.hid he
    have hcs : ((l.length : Int) != m.length) = false := by simp [he]
    have hlm : m.length ≤ l.length ∧ l.length ≤ m.length := by omega
    clear he
    go_enter Tryd.func47, Tryd.ntmps47
    go_wp2
    go_loopg [16] l.length (fun g i wr => w = wr ∧ ∃ k : Nat, k ≤ l.length ∧ g = l.length - k ∧ i = .int .i64 k ∧ Hid (insideB l m = insideB (l.drop k) (m.drop k)))
    case atStart => exact ⟨rfl, 0, Nat.zero_le _, rfl, rfl, rfl⟩
    case round =>
      obtain ⟨rfl, k, hk, rfl, rfl, hn⟩ := hrel
      by_cases hlt : k < l.length
      · have hlt2 : k < m.length := by omega
        obtain ⟨b, o, a', c', rfl, hc, hi⟩ := h1.at_ k l[k] (get_at hlt)
        obtain ⟨b2, o2, a2', c2', rfl, hc2, hi2⟩ := h2.at_ k m[k] (get_at hlt2)
        have hmi := hi.len.le
        have hlt3 : (k : Int) < m.length := by omega
        go_wp2
        go_loopg [23] l[k].length (fun g i wr => w = wr ∧ ∃ j : Nat, j ≤ l[k].length ∧ g = l[k].length - j ∧ i = .int .i64 j ∧ Hid (partB l[k] m[k] = partB (l[k].drop j) m[k]))
        case atStart => exact ⟨rfl, 0, Nat.zero_le _, rfl, rfl, rfl⟩
        case round =>
          obtain ⟨rfl, j, hj, rfl, rfl, hp⟩ := hrel
          by_cases hjt : j < l[k].length
          · obtain ⟨b3, o3, rfl, hc3⟩ := hi.at_ j l[k][j] (get_at hjt)
            go_wp2_with (go_at_call 78; refine (contains_any _ _ _ _ _ hi2).mono ?_; rintro e w' ⟨rfl, rfl⟩)
            · have hq : hasB m[k] l[k][j] = false := not_t (by assumption)
              go_ret
              exact ⟨ret_bool (by rw [hn.out, drop_at hlt, drop_at hlt2, insideB_cons, hp.out, drop_at hjt, partB_cons, hq]; rfl), rfl⟩
            · have hq : hasB m[k] l[k][j] = true := not_f (by assumption)
              go_roundg (l[k].length - (j + 1))
              case measure => omega
              case rel => exact ⟨rfl, j + 1, by omega, rfl, by go_num, by unfold Hid; rw [hp.out, drop_at hjt, partB_cons, hq]; rfl⟩
          · go_wp2
            go_roundg (l.length - (k + 1))
            case measure => omega
            case rel => exact ⟨rfl, k + 1, by omega, rfl, by go_num, by unfold Hid; rw [hn.out, drop_at hlt, drop_at hlt2, insideB_cons, hp.out, drop_end hjt]; rfl⟩
      · go_wp2
        go_ret
        exact ⟨ret_bool (by rw [hn.out, drop_end hlt, drop_end (by omega)]; rfl), rfl⟩
  · have hcs : ((l.length : Int) != m.length) = true := by simp; omega
    have hR := Lib.hid (insideB_len he)
    clear he
    go_enter Tryd.func47, Tryd.ntmps47
    go_wp2
    go_ret
    exact ⟨ret_bool hR.out.symm, rfl⟩

theorem withinA_any (p q : Pts) (a1 a2 b1 b2 : Option Addr) (c1 c2 d1 d2 : Nat) (w : World) (h1 : Rows2 w a1 p.vars) (h2 : Rows2 w a2 p.cells) (g1 : Rows2 w b1 q.vars) (g2 : Rows2 w b2 q.cells) :
    Calls Tryd.prog 20 #[ptsV p a1 a2 c1 c2, ptsV q b1 b2 d1 d2] w fun e w' => e = .returned (.bool (withinB p q)) ∧ Below w.heap.size w w' := by
  unfold ptsV
  have hb : Below w.heap.size w ((w.alloc (.cells #[.slice a1 p.vars.length c1, .slice a2 p.cells.length c2] 29)).alloc (.cells #[.slice b1 q.vars.length d1, .slice b2 q.cells.length d2] 29)) :=
    ((Below.refl _ _).alloc (Nat.le_refl _) _).alloc (by simp) _
  cases hS : insideB p.vars q.vars
  · have hR : Hid (withinB p q = false) := by unfold Hid withinB; rw [hS]; rfl
    go_enter Tryd.func20, Tryd.ntmps20
    go_wp2_with (go_at_call 47; refine (inside_any _ _ _ _ _ _ _ (h1.below hb) (g1.below hb)).mono ?_; rintro e w' ⟨rfl, rfl⟩)
    go_ret
    exact ⟨ret_bool hR.out.symm, hb⟩
  · have hR : Hid (withinB p q = insideB p.cells q.cells) := by unfold Hid withinB; rw [hS]; rfl
    go_enter Tryd.func20, Tryd.ntmps20
    go_wp2_with (first | (go_at_call 47; (with_reducible refine (inside_any _ _ _ _ p.vars q.vars _ (h1.below hb) (g1.below hb)).mono ?_); rintro e w' ⟨rfl, rfl⟩) | (go_at_call 47; refine (inside_any _ _ _ _ p.cells q.cells _ (h2.below hb) (g2.below hb)).mono ?_; rintro e w' ⟨rfl, rfl⟩))
    go_ret
    exact ⟨ret_bool hR.out.symm, hb⟩

theorem withinR_any (p q : Pts) (a1 a2 b1 b2 : Option Addr) (c1 c2 d1 d2 : Nat) (w : World) (h1 : Rows2 w a1 p.vars) (h2 : Rows2 w a2 p.cells) (g1 : Rows2 w b1 q.vars) (g2 : Rows2 w b2 q.cells) :
    Calls Tryd.prog 21 #[ptsV p a1 a2 c1 c2, ptsV q b1 b2 d1 d2] w fun e w' => e = .returned (.bool (withinB p q)) ∧ Below w.heap.size w w' := by
  unfold ptsV
  have hb : Below w.heap.size w ((w.alloc (.cells #[.slice a1 p.vars.length c1, .slice a2 p.cells.length c2] 29)).alloc (.cells #[.slice b1 q.vars.length d1, .slice b2 q.cells.length d2] 29)) := below_two _ _ _
  cases hS : insideB p.vars q.vars
  · have hR : Hid (withinB p q = false) := by unfold Hid withinB; rw [hS]; rfl
    go_enter Tryd.func21, Tryd.ntmps21
    go_wp2_with (go_at_call 48; refine (lists_any _ _ _ _ _ _ _ (h1.below hb) (g1.below hb)).mono ?_; rintro e w' ⟨rfl, n, rfl⟩)
    go_ret
    exact ⟨ret_bool hR.out.symm, below_drewN hb _⟩
  · have hR : Hid (withinB p q = insideB p.cells q.cells) := by unfold Hid withinB; rw [hS]; rfl
    go_enter Tryd.func21, Tryd.ntmps21
    go_wp2_with (first | (go_at_call 48; (with_reducible refine (lists_any _ _ _ _ p.vars q.vars _ (h1.below hb) (g1.below hb)).mono ?_); rintro e w' ⟨rfl, n, rfl⟩) | (go_at_call 48; refine (lists_any _ _ _ _ p.cells q.cells _ ((h2.below hb).drewN n) ((g2.below hb).drewN n)).mono ?_; rintro e w' ⟨rfl, n2, rfl⟩))
    go_ret
    exact ⟨ret_bool hR.out.symm, below_drewN hb _⟩

theorem same_any (p q : Pts) (a1 a2 b1 b2 : Option Addr) (c1 c2 d1 d2 : Nat) (w : World) (h1 : Rows2 w a1 p.vars) (h2 : Rows2 w a2 p.cells) (g1 : Rows2 w b1 q.vars) (g2 : Rows2 w b2 q.cells) :
    Calls Tryd.prog 17 #[ptsV p a1 a2 c1 c2, ptsV q b1 b2 d1 d2] w fun e w' => e = .returned (.bool (sameB p q)) ∧ Below w.heap.size w w' := by
  unfold ptsV
  have hb : Below w.heap.size w ((w.alloc (.cells #[.slice a1 p.vars.length c1, .slice a2 p.cells.length c2] 29)).alloc (.cells #[.slice b1 q.vars.length d1, .slice b2 q.cells.length d2] 29)) := below_two _ _ _
  have h1' := h1.below hb
  have h2' := h2.below hb
  have g1' := g1.below hb
  have g2' := g2.below hb
  have hm1 := h1.len.le
  have hm2 := h2.len.le
  cases hS : withinB p q
  · have hR : Hid (sameB p q = false) := by unfold Hid sameB; rw [hS]; rfl
    go_enter Tryd.func17, Tryd.ntmps17
    go_wp2_with (go_at_call 21; refine (withinR_any p q _ _ _ _ _ _ _ _ _ h1' h2' g1' g2').mono ?_; rintro e w1 ⟨rfl, hb1⟩)
    go_ret
    exact ⟨ret_bool hR.out.symm, below_box2 hb1⟩
  cases hT : withinB q p
  · have hR : Hid (sameB p q = false) := by unfold Hid sameB; rw [hS, hT]; rfl
    go_enter Tryd.func17, Tryd.ntmps17
    go_wp2_with (first | (go_at_call 21; (with_reducible refine (withinR_any p q _ _ _ _ _ _ _ _ _ h1' h2' g1' g2').mono ?_); rintro e w1 ⟨rfl, hb1⟩; obtain ⟨k1, k2⟩ := box2_keep hb1 (by simp)) | (go_at_call 21; refine (withinR_any q p _ _ _ _ _ _ _ _ _ (g1'.below hb1) (g2'.below hb1) (h1'.below hb1) (h2'.below hb1)).mono ?_; rintro e w2 ⟨rfl, hb2⟩))
    go_ret
    exact ⟨ret_bool hR.out.symm, below_box2 (hb1.trans (hb2.mono hb1.size))⟩
  · have hR : Hid (sameB p q = (lensB p.vars q.vars && lensB p.cells q.cells)) := by unfold Hid sameB; rw [hS, hT]; rfl
    obtain ⟨l1, l2⟩ := withinB_len hS
    have hl1 : p.vars.length ≤ q.vars.length ∧ q.vars.length ≤ p.vars.length := by omega
    have hl2 : p.cells.length ≤ q.cells.length ∧ q.cells.length ≤ p.cells.length := by omega
    clear l1 l2
    go_enter Tryd.func17, Tryd.ntmps17
    go_wp2_with (first | (go_at_call 21; (with_reducible refine (withinR_any p q _ _ _ _ _ _ _ _ _ h1' h2' g1' g2').mono ?_); rintro e w1 ⟨rfl, hb1⟩; obtain ⟨k1, k2⟩ := box2_keep hb1 (by simp)) | (go_at_call 21; refine (withinR_any q p _ _ _ _ _ _ _ _ _ (g1'.below hb1) (g2'.below hb1) (h1'.below hb1) (h2'.below hb1)).mono ?_; rintro e w2 ⟨rfl, hb2⟩))
    have hb3 := hb1.trans (hb2.mono hb1.size)
    have H1 := h1'.below hb3
    have H2 := h2'.below hb3
    have G1 := g1'.below hb3
    have G2 := g2'.below hb3
    obtain ⟨k1, k2⟩ := box2_keep hb3 (by simp)
    have HB := below_box2 hb3
    clear hb1 hb2 hb3 h1' h2' g1' g2' hb h1 h2 g1 g2
    go_loopg [5] p.vars.length (fun g i wr => ∃ n, wr = w2.drewN n ∧ ∃ k : Nat, k ≤ p.vars.length ∧ g = p.vars.length - k ∧ i = .int .i64 k ∧ Hid (lensB p.vars q.vars = lensB (p.vars.drop k) (q.vars.drop k)))
    case atStart => exact ⟨0, rfl, 0, Nat.zero_le _, rfl, rfl, rfl⟩
    case round =>
      obtain ⟨n, rfl, k, hk, rfl, rfl, hn⟩ := hrel
      by_cases hlt : k < p.vars.length
      · have hlt2 : k < q.vars.length := by omega
        obtain ⟨b, o, a', c', rfl, hc, hi⟩ := H1.at_ k p.vars[k] (get_at hlt)
        obtain ⟨b2, o2, a2', c2', rfl, hc2, hi2⟩ := G1.at_ k q.vars[k] (get_at hlt2)
        go_wp2
        go_quiet (fail)
        go_wp2
        · have hq : ¬ p.vars[k].length = q.vars[k].length := ne_t (by assumption)
          go_ret
          exact ⟨ret_bool (by rw [hR.out, hn.out, drop_at hlt, drop_at hlt2, lensB_cons, decide_eq_false hq]; rfl), below_drewN (below_drewN HB _) _⟩
        · have hq : p.vars[k].length = q.vars[k].length := ne_f (by assumption)
          go_roundg (p.vars.length - (k + 1))
          case measure => omega
          case rel => exact ⟨_, rfl, k + 1, by omega, rfl, by go_num, by unfold Hid; rw [hn.out, drop_at hlt, drop_at hlt2, lensB_cons, decide_eq_true hq]; rfl⟩
      · have hV : Hid (lensB p.vars q.vars = true) := by unfold Hid; rw [hn.out, drop_end hlt]; rfl
        clear hn
        go_wp2
        go_loopg [6] p.cells.length (fun g i wr => ∃ n, wr = w2.drewN n ∧ ∃ k : Nat, k ≤ p.cells.length ∧ g = p.cells.length - k ∧ i = .int .i64 k ∧ Hid (lensB p.cells q.cells = lensB (p.cells.drop k) (q.cells.drop k)))
        case atStart => exact ⟨n, rfl, 0, Nat.zero_le _, rfl, rfl, rfl⟩
        case round =>
          obtain ⟨n, rfl, k, hk, rfl, rfl, hn⟩ := hrel
          by_cases hlt : k < p.cells.length
          · have hlt2 : k < q.cells.length := by omega
            obtain ⟨b, o, a', c', rfl, hc, hi⟩ := H2.at_ k p.cells[k] (get_at hlt)
            obtain ⟨b2, o2, a2', c2', rfl, hc2, hi2⟩ := G2.at_ k q.cells[k] (get_at hlt2)
            go_wp2
            go_quiet (fail)
            go_wp2
            · have hq : ¬ p.cells[k].length = q.cells[k].length := ne_t (by assumption)
              go_ret
              exact ⟨ret_bool (by rw [hR.out, hV.out, hn.out, drop_at hlt, drop_at hlt2, lensB_cons, decide_eq_false hq]; rfl), below_drewN (below_drewN HB _) _⟩
            · have hq : p.cells[k].length = q.cells[k].length := ne_f (by assumption)
              go_roundg (p.cells.length - (k + 1))
              case measure => omega
              case rel => exact ⟨_, rfl, k + 1, by omega, rfl, by go_num, by unfold Hid; rw [hn.out, drop_at hlt, drop_at hlt2, lensB_cons, decide_eq_true hq]; rfl⟩
          · go_wp2
            go_ret
            exact ⟨ret_bool (by rw [hR.out, hV.out, hn.out, drop_end hlt]; rfl), below_drewN HB _⟩
end Go.Proofs.YtcfiohphjlohhaaDoor
