/- trial -/
import Derived.Test.YtcfiohphjlohhaaDoorT1
namespace Go.Proofs.YtcfiohphjlohhaaDoor
open Go.RowKit

theorem ascending_any (a : Option Addr) (cap : Nat) (xs : List Int) (w : World) (h : Ints w a xs) :
    Calls Tryd.prog 68 #[.slice a xs.length cap] w fun e w' => e = .returned (.bool (ascB xs)) ∧ ∃ n, w' = w.drewN n := by
  have hm := h.len.le
  go_enter Tryd.func68, Tryd.ntmps68
  go_wp2
  go_loopg [3] (xs.length + 1) (fun g i wr => ∃ n, wr = w.drewN n ∧ ∃ k : Nat, k ≤ xs.length ∧ g = xs.length + 1 - k ∧ i = .int .i64 (k + 1) ∧ Hid (ascB xs = ascB (xs.drop k)))
  case atStart => exact ⟨0, rfl, 0, by omega, by omega, rfl, rfl⟩
  case round =>
    obtain ⟨n, rfl, k, hk, rfl, rfl, hn⟩ := hrel
    by_cases hlt : k + 1 < xs.length
    · obtain ⟨b, o, rfl, hc⟩ := h.some hlt
      have c1 := hc (k + 1) xs[k + 1] (get_at hlt)
      have c2 := hc k xs[k] (get_at (by omega))
      clear hc
      go_wp2
      go_quiet (fail)
      go_wp2
      · have hq : xs[k + 1] ≤ xs[k] := by assumption
        go_ret
        exact ⟨ret_bool (by rw [hn.out, drop_at (Nat.lt_of_succ_lt hlt), drop_at hlt, ascB_cons2, decide_eq_false (by omega)]; rfl), _, World.drewN_drewN _ _ _⟩
      · have hq : xs[k] < xs[k + 1] := by assumption
        go_roundg (xs.length + 1 - (k + 1))
        case measure => omega
        case rel => exact ⟨_, rfl, k + 1, by omega, rfl, by go_num, by unfold Hid; rw [hn.out, drop_at (Nat.lt_of_succ_lt hlt), drop_at hlt, ascB_cons2, decide_eq_true hq]; rfl⟩
    · go_wp2
      go_ret
      exact ⟨ret_bool (by rw [hn.out, ascB_short (by rw [List.length_drop]; omega)]), _, rfl⟩

theorem shortCons_cons (c : Con) (l : List Con) : shortCons (c :: l) = (decide (c.set.length ≤ 40) && shortCons l) := rfl

theorem short_any (s : Sys) (a : Option Addr) (cap : Nat) (w : World) (h : Cons w a s.cons) :
    Calls Tryd.prog 34 #[sysV s a cap] w fun e w' => e = .returned (.bool (shortB s)) ∧ Below w.heap.size w w' := by
  have hm := h.len.le
  obtain ⟨vars, sites, fields, cons⟩ := s
  dsimp only at h hm
  unfold sysV
  by_cases h100 : cons.length ≤ 100
  · have hs : Hid (shortB ⟨vars, sites, fields, cons⟩ = shortCons cons) := by unfold Hid shortB; simp [h100]
    go_enter Tryd.func34, Tryd.ntmps34
    go_wp2
    go_loopg [3] cons.length (fun g i wr => w.alloc (.cells #[.int .i64 vars, .int .i64 sites, .int .i64 fields, .slice a cons.length cap] 24) = wr ∧ ∃ k : Nat, k ≤ cons.length ∧ g = cons.length - k ∧ i = .int .i64 k ∧ Hid (shortCons cons = shortCons (cons.drop k)))
    case atStart => exact ⟨rfl, 0, Nat.zero_le _, rfl, rfl, rfl⟩
    case round =>
      obtain ⟨rfl, k, hk, rfl, rfl, hn⟩ := hrel
      by_cases hlt : k < cons.length
      · obtain ⟨b, o, a', c', rfl, -, -, -, -, hc, hi⟩ := h.at_ k cons[k] (get_at hlt)
        have hb : b < w.heap.size := World.block_lt_of_cell? _ _ hc
        go_wp2
        · have hq : (40 : Int) < cons[k].set.length := by assumption
          go_ret
          exact ⟨ret_bool (by rw [hs.out, hn.out, drop_at hlt, shortCons_cons, decide_eq_false (by omega)]; rfl), (Below.refl _ _).alloc (Nat.le_refl _) _⟩
        · have hq : (cons[k].set.length : Int) ≤ 40 := by omega
          go_roundg (cons.length - (k + 1))
          case measure => omega
          case rel => exact ⟨rfl, k + 1, by omega, rfl, by go_num, by unfold Hid; rw [hn.out, drop_at hlt, shortCons_cons, decide_eq_true (by omega)]; rfl⟩
      · go_wp2
        go_ret
        exact ⟨ret_bool (by rw [hs.out, hn.out, drop_end hlt]; rfl), (Below.refl _ _).alloc (Nat.le_refl _) _⟩
  · go_enter Tryd.func34, Tryd.ntmps34
    go_wp2
    go_ret
    exact ⟨ret_bool (by unfold shortB; simp [h100]), (Below.refl _ _).alloc (Nat.le_refl _) _⟩

theorem small_any (s : Sys) (a : Option Addr) (cap : Nat) (w : World) (h : Cons w a s.cons) :
    Calls Tryd.prog 12 #[sysV s a cap] w fun e w' => e = .returned (.bool (smallB s)) ∧ Below w.heap.size w w' := by
  unfold sysV
  have h1 := h.alloc (.cells #[.int .i64 s.vars, .int .i64 s.sites, .int .i64 s.fields, .slice a s.cons.length cap] 24)
  cases hS : shortB s
  · have hR : Hid (smallB s = false) := by unfold Hid smallB; rw [hS]; rfl
    go_enter Tryd.func12, Tryd.ntmps12
    go_wp2_with (go_at_call 34; refine (short_any s _ _ _ h1).mono ?_; rintro e w1 ⟨rfl, hb⟩)
    go_ret
    exact ⟨ret_bool hR.out.symm, below_box hb⟩
  · go_enter Tryd.func12, Tryd.ntmps12
    go_wp2_with (go_at_call 34; refine (short_any s _ _ _ h1).mono ?_; rintro e w1 ⟨rfl, hb⟩; have hc := box_keep hb)
    all_goals go_ret
    all_goals refine ⟨ret_bool ?_, below_box hb⟩
    · have e1 : s.vars ≤ 40 := by assumption
      have e2 : s.sites ≤ 12 := by assumption
      simp [smallB, hS, e1, e2]
    · have e1 : 12 < s.sites := by assumption
      have e2 : ¬ s.sites ≤ 12 := by omega
      simp [smallB, e2]
    · have e1 : 40 < s.vars := by assumption
      have e2 : ¬ s.vars ≤ 40 := by omega
      simp [smallB, e2]

theorem fewRows_cons (c : List Int) (l : List (List Int)) : fewRows (c :: l) = (decide (c.length ≤ 40) && fewRows l) := rfl

theorem few_any (p : Pts) (a1 a2 : Option Addr) (c1 c2 : Nat) (w : World) (h1 : Rows2 w a1 p.vars) (h2 : Rows2 w a2 p.cells) :
    Calls Tryd.prog 16 #[ptsV p a1 a2 c1 c2] w fun e w' => e = .returned (.bool (fewB p)) ∧ Below w.heap.size w w' := by
  unfold ptsV
  have hm1 := h1.len.le
  have hm2 := h2.len.le
  by_cases hc : p.vars.length ≤ 50 ∧ p.cells.length ≤ 70
  · have hR : Hid (fewB p = (fewRows p.vars && fewRows p.cells)) := by unfold Hid fewB; rw [decide_eq_true hc.1, decide_eq_true hc.2]; rfl
    have e1 := hc.1
    have e2 := hc.2
    clear hc
    go_enter Tryd.func16, Tryd.ntmps16
    go_wp2
    go_loopg [3] p.vars.length (fun g i wr => w.alloc (.cells #[.slice a1 p.vars.length c1, .slice a2 p.cells.length c2] 29) = wr ∧ ∃ k : Nat, k ≤ p.vars.length ∧ g = p.vars.length - k ∧ i = .int .i64 k ∧ Hid (fewRows p.vars = fewRows (p.vars.drop k)))
    case atStart => exact ⟨rfl, 0, Nat.zero_le _, rfl, rfl, rfl⟩
    case round =>
      obtain ⟨rfl, k, hk, rfl, rfl, hn⟩ := hrel
      by_cases hlt : k < p.vars.length
      · obtain ⟨b, o, a', c', rfl, hc, hi⟩ := h1.at_ k p.vars[k] (get_at hlt)
        have hb : b < w.heap.size := World.block_lt_of_cell? _ _ hc
        go_wp2
        · have hq : (40 : Int) < p.vars[k].length := by assumption
          go_ret
          exact ⟨ret_bool (by rw [hR.out, hn.out, drop_at hlt, fewRows_cons, decide_eq_false (by omega)]; rfl), (Below.refl _ _).alloc (Nat.le_refl _) _⟩
        · have hq : (p.vars[k].length : Int) ≤ 40 := by omega
          go_roundg (p.vars.length - (k + 1))
          case measure => omega
          case rel => exact ⟨rfl, k + 1, by omega, rfl, by go_num, by unfold Hid; rw [hn.out, drop_at hlt, fewRows_cons, decide_eq_true (by omega)]; rfl⟩
      · have hV : Hid (fewRows p.vars = true) := by unfold Hid; rw [hn.out, drop_end hlt]; rfl
        clear hn
        go_wp2
        go_loopg [4] p.cells.length (fun g i wr => w.alloc (.cells #[.slice a1 p.vars.length c1, .slice a2 p.cells.length c2] 29) = wr ∧ ∃ k : Nat, k ≤ p.cells.length ∧ g = p.cells.length - k ∧ i = .int .i64 k ∧ Hid (fewRows p.cells = fewRows (p.cells.drop k)))
        case atStart => exact ⟨rfl, 0, Nat.zero_le _, rfl, rfl, rfl⟩
        case round =>
          obtain ⟨rfl, j, hj, rfl, rfl, hn⟩ := hrel
          by_cases hlt2 : j < p.cells.length
          · obtain ⟨b, o, a', c', rfl, hc, hi⟩ := h2.at_ j p.cells[j] (get_at hlt2)
            have hb : b < w.heap.size := World.block_lt_of_cell? _ _ hc
            go_wp2
            · have hq : (40 : Int) < p.cells[j].length := by assumption
              go_ret
              exact ⟨ret_bool (by rw [hR.out, hV.out, hn.out, drop_at hlt2, fewRows_cons, decide_eq_false (by omega)]; rfl), (Below.refl _ _).alloc (Nat.le_refl _) _⟩
            · have hq : (p.cells[j].length : Int) ≤ 40 := by omega
              go_roundg (p.cells.length - (j + 1))
              case measure => omega
              case rel => exact ⟨rfl, j + 1, by omega, rfl, by go_num, by unfold Hid; rw [hn.out, drop_at hlt2, fewRows_cons, decide_eq_true (by omega)]; rfl⟩
          · go_wp2
            go_ret
            exact ⟨ret_bool (by rw [hR.out, hV.out, hn.out, drop_end hlt2]; rfl), (Below.refl _ _).alloc (Nat.le_refl _) _⟩
  · have hR : Hid (fewB p = false) := by
      unfold Hid fewB
      by_cases e1 : p.vars.length ≤ 50
      · rw [decide_eq_false (p := p.cells.length ≤ 70) (fun e2 => hc ⟨e1, e2⟩)]; simp
      · rw [decide_eq_false e1]; rfl
    by_cases e1 : (50 : Int) < p.vars.length
    · clear hc
      go_enter Tryd.func16, Tryd.ntmps16
      go_wp2
      go_ret
      exact ⟨ret_bool hR.out.symm, (Below.refl _ _).alloc (Nat.le_refl _) _⟩
    · have e2 : (70 : Int) < p.cells.length := by omega
      clear hc
      go_enter Tryd.func16, Tryd.ntmps16
      go_wp2
      go_ret
      exact ⟨ret_bool hR.out.symm, (Below.refl _ _).alloc (Nat.le_refl _) _⟩

theorem Rows2.some {w : World} {a : Option Addr} {xs : List (List Int)} (h : Rows2 w a xs) {i : Nat} (hi : i < xs.length) : ∃ b o, a = some ⟨b, o, none⟩ ∧ ∀ j l, xs[j]? = some l → ∃ a' c', w.cell? ⟨b, o + j, none⟩ = some (.slice a' l.length c') ∧ Ints w a' l := by
  obtain ⟨b, o, _, _, e, _⟩ := h.at_ i _ (List.getElem?_eq_getElem hi)
  refine ⟨b, o, e, fun j x hj => ?_⟩
  obtain ⟨b', o', a', c', e', hc, hl⟩ := h.at_ j x hj
  rw [e] at e'
  simp only [Option.some.injEq, Addr.mk.injEq, and_true] at e'
  obtain ⟨rfl, rfl⟩ := e'
  exact ⟨a', c', hc, hl⟩

theorem lists_any (a1 a2 : Option Addr) (c1 c2 : Nat) (l m : List (List Int)) (w : World) (h1 : Rows2 w a1 l) (h2 : Rows2 w a2 m) :
    Calls Tryd.prog 48 #[.slice a1 l.length c1, .slice a2 m.length c2] w fun e w' => e = .returned (.bool (insideB l m)) ∧ ∃ n, w' = w.drewN n := by
  have hm := h1.len.le
  by_cases he : l.length = m.length
  · have HE := Lib.hid he
    have hcs : ((l.length : Int) != m.length) = false := by simp [he]
    have hlm : m.length ≤ l.length ∧ l.length ≤ m.length := by omega
    clear he
    go_enter Tryd.func48, Tryd.ntmps48
    go_wp2
    go_loopg [5] l.length (fun g i wr => ∃ n, wr = w.drewN n ∧ ∃ k : Nat, k ≤ l.length ∧ g = l.length - k ∧ i = .int .i64 k ∧ Hid (insideB l m = insideB (l.drop k) (m.drop k)))
    case atStart => exact ⟨0, rfl, 0, Nat.zero_le _, rfl, rfl, rfl⟩
    case round =>
      obtain ⟨n, rfl, k, hk, rfl, rfl, hn⟩ := hrel
      by_cases hlt : k < l.length
      · have hlt2 : k < m.length := by omega
        obtain ⟨b, o, a', c', rfl, hc, hi⟩ := h1.at_ k l[k] (get_at hlt)
        obtain ⟨b2, o2, a2', c2', rfl, hc2, hi2⟩ := h2.at_ k m[k] (get_at hlt2)
        go_wp2
        go_quiet ((go_at_call 32; exact quiet_add_left (part_any _ _ _ _ _ _ _ (hi.drewN _) (hi2.drewN _))))
        go_wp2
        · have hq : partB l[k] m[k] = false := not_t (by assumption)
          go_ret
          exact ⟨ret_bool (by rw [hn.out, drop_at hlt, drop_at hlt2, insideB_cons, hq]; rfl), _, World.drewN_drewN _ _ _⟩
        · have hq : partB l[k] m[k] = true := not_f (by assumption)
          go_roundg (l.length - (k + 1))
          case measure => omega
          case rel => exact ⟨_, rfl, k + 1, by omega, rfl, by go_num, by unfold Hid; rw [hn.out, drop_at hlt, drop_at hlt2, insideB_cons, hq]; rfl⟩
      · go_wp2
        go_ret
        exact ⟨ret_bool (by rw [hn.out, drop_end hlt, drop_end (by omega)]; rfl), _, rfl⟩
  · have hcs : ((l.length : Int) != m.length) = true := by simp; omega
    have hR := Lib.hid (insideB_len he)
    clear he
    go_enter Tryd.func48, Tryd.ntmps48
    go_wp2
    go_ret
    exact ⟨ret_bool hR.out.symm, 0, rfl⟩
end Go.Proofs.YtcfiohphjlohhaaDoor
