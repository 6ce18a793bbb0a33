/- trial -/
import Derived.Test.YtcfiohphjlohhaaDoorBase
namespace Go.Proofs.YtcfiohphjlohhaaDoor
open Go.RowKit

theorem among_any (x n : Int) (w : World) : Calls Tryd.prog 65 #[.int .i64 x, .int .i64 n] w fun e w' => e = .returned (.bool (amongB x n)) ∧ w = w' := by
  by_cases h1 : 0 ≤ x
  · go_enter Tryd.func65, Tryd.ntmps65
    go_wp2
    go_ret
    exact ⟨ret_bool (amongB_pos h1).symm, rfl⟩
  · have h2 : decide (0 ≤ x) = false := by simpa using h1
    go_enter Tryd.func65, Tryd.ntmps65
    go_wp2
    go_ret
    exact ⟨ret_bool (amongB_neg (by simpa using h2)).symm, rfl⟩

theorem within_any (x n : Int) (w : World) : Calls Tryd.prog 71 #[.int .i64 x, .int .i64 n] w fun e w' => e = .returned (.bool (amongB x n)) ∧ w = w' := by
  by_cases h1 : 0 ≤ x
  · go_enter Tryd.func71, Tryd.ntmps71
    go_wp2
    go_ret
    exact ⟨ret_bool (amongB_pos h1).symm, rfl⟩
  · have h2 : decide (0 ≤ x) = false := by simpa using h1
    go_enter Tryd.func71, Tryd.ntmps71
    go_wp2
    go_ret
    exact ⟨ret_bool (amongB_neg (by simpa using h2)).symm, rfl⟩

theorem among_no {x n : Int} (h : amongB x n = false) (w : World) : Calls Tryd.prog 65 #[.int .i64 x, .int .i64 n] w fun e w' => e = .returned (.bool false) ∧ w = w' := by
  have := among_any x n w
  rwa [h] at this
theorem among_yes {x n : Int} (h : amongB x n = true) (w : World) : Calls Tryd.prog 65 #[.int .i64 x, .int .i64 n] w fun e w' => e = .returned (.bool true) ∧ w = w' := by
  have := among_any x n w
  rwa [h] at this

theorem has_any (a : Option Addr) (cap : Nat) (xs : List Int) (x : Int) (w : World) (h : Ints w a xs) :
    Calls Tryd.prog 33 #[.slice a xs.length cap, .int .i64 x] w fun e w' => e = .returned (.bool (hasB xs x)) ∧ w = w' := by
  have hm := h.len.le
  go_enter Tryd.func33, Tryd.ntmps33
  go_wp2
  go_loopg [5] xs.length (fun g i wr => w = wr ∧ ∃ k : Nat, k ≤ xs.length ∧ g = xs.length - k ∧ i = .int .i64 k ∧ Hid (hasB xs x = hasB (xs.drop k) x))
  case atStart => exact ⟨rfl, 0, Nat.zero_le _, rfl, rfl, rfl⟩
  case round =>
    obtain ⟨rfl, k, hk, rfl, rfl, hn⟩ := hrel
    by_cases hlt : k < xs.length
    · obtain ⟨b, o, rfl, hc⟩ := h.at_ k xs[k] (get_at hlt)
      go_wp2
      · have hq : (xs[k] == x) = true := by assumption
        go_ret
        exact ⟨ret_bool (by rw [hn.out, drop_at hlt, hasB_cons, hq]; rfl), rfl⟩
      · have hq : (xs[k] == x) = false := by assumption
        go_roundg (xs.length - (k + 1))
        case measure => omega
        case rel => exact ⟨rfl, k + 1, by omega, rfl, by go_num, by unfold Hid; rw [hn.out, drop_at hlt, hasB_cons, hq]; rfl⟩
    · go_wp2
      go_ret
      exact ⟨ret_bool (by rw [hn.out, drop_end hlt]; rfl), rfl⟩

theorem part_any (a a2 : Option Addr) (cap cap2 : Nat) (xs ys : List Int) (w : World) (h : Ints w a xs) (h2 : Ints w a2 ys) :
    Calls Tryd.prog 32 #[.slice a xs.length cap, .slice a2 ys.length cap2] w fun e w' => e = .returned (.bool (partB xs ys)) ∧ w = w' := by
  have hm := h.len.le
  go_enter Tryd.func32, Tryd.ntmps32
  go_wp2
  go_loopg [5] xs.length (fun g i wr => w = wr ∧ ∃ k : Nat, k ≤ xs.length ∧ g = xs.length - k ∧ i = .int .i64 k ∧ Hid (partB xs ys = partB (xs.drop k) ys))
  case atStart => exact ⟨rfl, 0, Nat.zero_le _, rfl, rfl, rfl⟩
  case round =>
    obtain ⟨rfl, k, hk, rfl, rfl, hn⟩ := hrel
    by_cases hlt : k < xs.length
    · obtain ⟨b, o, rfl, hc⟩ := h.at_ k xs[k] (get_at hlt)
      go_wp2_with (go_at_call 33; refine (has_any _ _ _ _ _ h2).mono ?_; rintro e w' ⟨rfl, rfl⟩)
      · have hq : hasB ys xs[k] = false := not_t (by assumption)
        go_ret
        exact ⟨ret_bool (by rw [hn.out, drop_at hlt, partB_cons, hq]; rfl), rfl⟩
      · have hq : hasB ys xs[k] = true := not_f (by assumption)
        go_roundg (xs.length - (k + 1))
        case measure => omega
        case rel => exact ⟨rfl, k + 1, by omega, rfl, by go_num, by unfold Hid; rw [hn.out, drop_at hlt, partB_cons, hq]; rfl⟩
    · go_wp2
      go_ret
      exact ⟨ret_bool (by rw [hn.out, drop_end hlt]; rfl), rfl⟩
end Go.Proofs.YtcfiohphjlohhaaDoor
