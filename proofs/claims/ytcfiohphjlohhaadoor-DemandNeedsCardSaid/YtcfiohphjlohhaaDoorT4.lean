/- trial -/
import Derived.Test.YtcfiohphjlohhaaDoorT3
namespace Go.Proofs.YtcfiohphjlohhaaDoor
open Go.RowKit

/-- an ascending list of sites: as the reference walks it -/
def rowChk (sites : Int) : Option Int → List Int → Bool
  | _, [] => true
  | none, a :: l => amongB a sites && rowChk sites (some a) l
  | some q, a :: l => amongB a sites && decide (q < a) && rowChk sites (some a) l
def setsB (sites : Int) : List (List Int) → Bool
  | [] => true
  | l :: m => rowChk sites none l && setsB sites m
theorem setsB_cons (sites : Int) (l : List Int) (m : List (List Int)) : setsB sites (l :: m) = (rowChk sites none l && setsB sites m) := rfl
def prevOf (l : List Int) (k : Nat) : Option Int := if k = 0 then none else l[k - 1]?
theorem rowChk_zero {sites : Int} {l : List Int} (h : 0 < l.length) : rowChk sites (prevOf l 0) (l.drop 0) = (amongB l[0] sites && rowChk sites (prevOf l 1) (l.drop 1)) := by
  match l, h with
  | a :: l, _ => rfl
theorem rowChk_succ {sites : Int} {l : List Int} {k : Nat} (h : k + 1 < l.length) :
    rowChk sites (prevOf l (k + 1)) (l.drop (k + 1)) = (amongB l[k + 1] sites && decide (l[k] < l[k + 1]) && rowChk sites (prevOf l (k + 2)) (l.drop (k + 2))) := by
  have e1 : prevOf l (k + 1) = some l[k] := by unfold prevOf; rw [if_neg (by omega)]; exact get_at (by omega)
  have e2 : prevOf l (k + 2) = some l[k + 1] := by unfold prevOf; rw [if_neg (by omega)]; exact get_at h
  rw [e1, e2, drop_at h]; rfl

set_option maxHeartbeats 1600000 in
theorem sets_any (a1 : Option Addr) (c1 : Nat) (sites : Int) (l : List (List Int)) (w : World) (h1 : Rows2 w a1 l) :
    Calls Tryd.prog 42 #[.slice a1 l.length c1, .int .i64 sites] w fun e w' => e = .returned (.bool (setsB sites l)) ∧ ∃ n, w' = w.drewN n := by
  have hm := h1.len.le
  go_enter Tryd.func42, Tryd.ntmps42
  go_wp2
  go_loopg [5] l.length (fun g i wr => ∃ n, wr = w.drewN n ∧ ∃ k : Nat, k ≤ l.length ∧ g = l.length - k ∧ i = .int .i64 k ∧ Hid (setsB sites l = setsB sites (l.drop k)))
  case atStart => exact ⟨0, rfl, 0, Nat.zero_le _, rfl, rfl, rfl⟩
  case round =>
    obtain ⟨n, rfl, k, hk, rfl, rfl, hn⟩ := hrel
    by_cases hlt : k < l.length
    · obtain ⟨b, o, a', c', rfl, hc, hi⟩ := h1.at_ k l[k] (get_at hlt)
      have hmi := hi.len.le
      go_wp2
      go_loopg [6] l[k].length (fun g i wr => ∃ n, wr = w.drewN n ∧ ∃ j : Nat, j ≤ l[k].length ∧ g = l[k].length - j ∧ i = .int .i64 j ∧ Hid (rowChk sites none l[k] = rowChk sites (prevOf l[k] j) (l[k].drop j)))
      case atStart => exact ⟨n, rfl, 0, Nat.zero_le _, rfl, rfl, rfl⟩
      case round =>
        obtain ⟨n2, rfl, j, hj, rfl, rfl, hp⟩ := hrel
        by_cases hjt : j < l[k].length
        · obtain ⟨b3, o3, rfl, hcc⟩ := hi.some hjt
          cases hA : amongB l[k][j] sites
          · have hc1 := hcc j l[k][j] (get_at hjt)
            clear hcc
            have hF : Hid (setsB sites l = false) := by
              unfold Hid
              rw [hn.out, drop_at hlt, setsB_cons, hp.out]
              cases j with
              | zero => rw [rowChk_zero hjt, hA]; rfl
              | succ j => rw [rowChk_succ hjt, hA]; rfl
            go_wp2
            go_quiet ((go_at_call 65; exact quiet_add_left (among_no hA _)))
            go_wp2
            go_ret
            exact ⟨ret_bool hF.out.symm, _, World.drewN_drewN _ _ _⟩
          · cases j with
            | zero =>
              have hc1 : w.cell? ⟨b3, o3, none⟩ = some (.int .i64 l[k][0]) := hcc 0 l[k][0] (get_at hjt)
              clear hcc
              go_wp2
              go_quiet ((go_at_call 65; exact quiet_add_left (among_yes hA _)))
              go_wp2
              go_roundg (l[k].length - (0 + 1))
              case measure => omega
              case rel => exact ⟨_, rfl, 1, by omega, rfl, rfl, by unfold Hid; rw [hp.out, rowChk_zero hjt, hA]; rfl⟩
            | succ j =>
              have hc1 := hcc (j + 1) l[k][j + 1] (get_at hjt)
              have hc2 := hcc j l[k][j] (get_at (by omega))
              clear hcc
              by_cases hL : l[k][j] < l[k][j + 1]
              · go_wp2
                go_quiet ((go_at_call 65; exact quiet_add_left (among_yes hA _)))
                go_wp2
                go_roundg (l[k].length - (j + 1 + 1))
                case measure => omega
                case rel => exact ⟨_, rfl, j + 2, by omega, rfl, by go_num, by unfold Hid; rw [hp.out, rowChk_succ hjt, hA, decide_eq_true hL]; rfl⟩
              · have hF : Hid (setsB sites l = false) := by
                  unfold Hid
                  rw [hn.out, drop_at hlt, setsB_cons, hp.out, rowChk_succ hjt, hA, decide_eq_false hL]; rfl
                go_wp2
                go_quiet ((go_at_call 65; exact quiet_add_left (among_yes hA _)))
                go_wp2
                go_ret
                exact ⟨ret_bool hF.out.symm, _, World.drewN_drewN _ _ _⟩
        · go_wp2
          go_roundg (l.length - (k + 1))
          case measure => omega
          case rel => exact ⟨_, rfl, k + 1, by omega, rfl, by go_num, by unfold Hid; rw [hn.out, drop_at hlt, setsB_cons, hp.out, drop_end hjt]; rfl⟩
    · go_wp2
      go_ret
      exact ⟨ret_bool (by rw [hn.out, drop_end hlt]; rfl), _, rfl⟩
end Go.Proofs.YtcfiohphjlohhaaDoor
