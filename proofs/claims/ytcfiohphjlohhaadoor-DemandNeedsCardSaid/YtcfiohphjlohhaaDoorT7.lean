/- dataflowref18.con: the error of a constraint. -/
import Derived.Test.YtcfiohphjlohhaaDoorT6
namespace Go.Proofs.YtcfiohphjlohhaaDoor
open Go.RowKit

theorem con_1 (vars sites fields a b f : Int) (set : List Int) (aS a' : Option Addr) (cS c' : Nat) (cons : List Con) (w : World) (hs : Ints w a' set) :
    Calls Tryd.prog 61 #[sysV ⟨vars, sites, fields, cons⟩ aS cS, conV ⟨1, a, b, f, set⟩ a' c'] w (IntAnd (conE ⟨vars, sites, fields, cons⟩ ⟨1, a, b, f, set⟩) w) := by
  have hb2 : ∀ o o2, Below w.heap.size w ((w.alloc o).alloc o2) := fun o o2 => below_two w o o2
  have hm := hs.len.le
  dsimp only [sysV, conV]
  cases hA : amongB a sites
  · have hR : Hid (conE ⟨vars, sites, fields, cons⟩ ⟨1, a, b, f, set⟩ = 4) := conE_range (by dsimp only; decide) (by simp [accB, hA])
    go_enter Tryd.func61, Tryd.ntmps61
    go_wp2_with (go_at_call 65; first | ((with_reducible refine (among_no hA _).mono ?_); rintro e w' ⟨rfl, rfl⟩))
    go_ret
    exact IntAnd.mk hR.out (hb2 _ _)
  cases hB : amongB b vars
  · have hR : Hid (conE ⟨vars, sites, fields, cons⟩ ⟨1, a, b, f, set⟩ = 4) := conE_range (by dsimp only; decide) (by simp [accB, hA, hB])
    go_enter Tryd.func61, Tryd.ntmps61
    go_wp2_with (go_at_call 65; first | ((with_reducible refine (among_no hB _).mono ?_); rintro e w' ⟨rfl, rfl⟩) | ((with_reducible refine (among_yes hA _).mono ?_); rintro e w1 ⟨rfl, rfl⟩))
    go_ret
    exact IntAnd.mk hR.out (hb2 _ _)
  have hR : Hid (conE ⟨vars, sites, fields, cons⟩ ⟨1, a, b, f, set⟩ = if badSite sites set = true then 4
    else if (decide (f ≠ 0) || decide (0 < set.length)) = true then 1
    else if ascB set = false then 13 else 0) := by
    unfold Hid; rw [conE_else (by dsimp only; decide) (by simp [accB, hA, hB])]; simp [accB]
  go_enter Tryd.func61, Tryd.ntmps61
  go_wp2_with (go_at_call 65; first | ((with_reducible refine (among_yes hA _).mono ?_); rintro e w' ⟨rfl, rfl⟩) | ((with_reducible refine (among_yes hB _).mono ?_); rintro e w1 ⟨rfl, rfl⟩))
  go_loopg [7] set.length (fun g i wr => ∃ n, wr = ((w.alloc (.cells #[.int .i64 vars, .int .i64 sites, .int .i64 fields, .slice aS cons.length cS] 24)).alloc (.cells #[.int .i64 1, .int .i64 a, .int .i64 b, .int .i64 f, .slice a' set.length c'] 39)).drewN n ∧ ∃ k : Nat, k ≤ set.length ∧ g = set.length - k ∧ i = .int .i64 k ∧ Hid (badSite sites set = badSite sites (set.drop k)))
  case atStart => exact ⟨0, rfl, 0, Nat.zero_le _, rfl, rfl, rfl⟩
  case round =>
    obtain ⟨n, rfl, k, hk, rfl, rfl, hn⟩ := hrel
    by_cases hlt : k < set.length
    · obtain ⟨b', o, rfl, hc⟩ := hs.at_ k set[k] (get_at hlt)
      have hb : b' < w.heap.size := World.block_lt_of_cell? _ _ hc
      have hb1 : b' < w.heap.size + 1 := by omega
      cases hq : amongB set[k] sites
      · have hE : Hid (badSite sites set = true) := by unfold Hid; rw [hn.out, drop_at hlt, badSite_cons, hq]; rfl
        go_wp2
        go_quiet ((go_at_call 65; exact quiet_add_left (among_no hq _)))
        go_wp2
        go_ret
        exact IntAnd.mk (by rw [hR.out, if_pos hE.out]) (below_drewN (below_drewN (hb2 _ _) _) _)
      · have hE : Hid (badSite sites set = badSite sites (set.drop (k + 1))) := by unfold Hid; rw [hn.out, drop_at hlt, badSite_cons, hq]; rfl
        go_wp2
        go_quiet ((go_at_call 65; exact quiet_add_left (among_yes hq _)))
        go_wp2
        go_roundg (set.length - (k + 1))
        case measure => omega
        case rel => exact ⟨_, rfl, k + 1, by omega, rfl, by go_num, hE⟩
    · have hE : Hid (badSite sites set = false) := by unfold Hid; rw [hn.out, drop_end hlt]; rfl
      clear hn
      by_cases hf : f = 0
      · obtain rfl := hf
        by_cases hl : 0 < set.length
        · have hl2 : (0 : Int) < set.length := by omega
          go_wp2
          go_ret
          exact IntAnd.mk (by rw [hR.out, if_neg (by rw [hE.out]; exact Bool.false_ne_true), if_pos (by simp [hl])]) (below_drewN (hb2 _ _) _)
        · have hl2 : ¬ (0 : Int) < set.length := by omega
          go_wp2
          go_loopg [8] (set.length + 1) (fun g i wr => ∃ n, wr = ((w.alloc (.cells #[.int .i64 vars, .int .i64 sites, .int .i64 fields, .slice aS cons.length cS] 24)).alloc (.cells #[.int .i64 1, .int .i64 a, .int .i64 b, .int .i64 0, .slice a' set.length c'] 39)).drewN n ∧ ∃ k : Nat, k ≤ set.length ∧ g = set.length + 1 - k ∧ i = .int .i64 (k + 1) ∧ Hid (ascB set = ascB (set.drop k)))
          case atStart => exact ⟨n, rfl, 0, by omega, by omega, rfl, rfl⟩
          case round =>
            obtain ⟨n2, rfl, k, hk, rfl, rfl, hn⟩ := hrel
            by_cases hlt : k + 1 < set.length
            · exfalso; omega
            · go_wp2
              have hG : ascB set = true := by rw [hn.out, ascB_short (by rw [List.length_drop]; omega)]
              go_ret
              exact IntAnd.mk (by rw [hR.out, if_neg (by rw [hE.out]; exact Bool.false_ne_true), if_neg (by simp [hl]), if_neg (by rw [hG]; exact Bool.noConfusion)]) (below_drewN (hb2 _ _) _)
      · have hf2 : (f != 0) = true := by simpa using hf
        go_wp2
        go_ret
        exact IntAnd.mk (by rw [hR.out, if_neg (by rw [hE.out]; exact Bool.false_ne_true), if_pos (by simp [hf])]) (below_drewN (hb2 _ _) _)

theorem con_2 (vars sites fields a b f : Int) (set : List Int) (aS a' : Option Addr) (cS c' : Nat) (cons : List Con) (w : World) (hs : Ints w a' set) :
    Calls Tryd.prog 61 #[sysV ⟨vars, sites, fields, cons⟩ aS cS, conV ⟨2, a, b, f, set⟩ a' c'] w (IntAnd (conE ⟨vars, sites, fields, cons⟩ ⟨2, a, b, f, set⟩) w) := by
  have hb2 : ∀ o o2, Below w.heap.size w ((w.alloc o).alloc o2) := fun o o2 => below_two w o o2
  have hm := hs.len.le
  dsimp only [sysV, conV]
  cases hA : amongB a vars
  · have hR : Hid (conE ⟨vars, sites, fields, cons⟩ ⟨2, a, b, f, set⟩ = 4) := conE_range (by dsimp only; decide) (by simp [accB, hA])
    go_enter Tryd.func61, Tryd.ntmps61
    go_wp2_with (go_at_call 65; first | ((with_reducible refine (among_no hA _).mono ?_); rintro e w' ⟨rfl, rfl⟩))
    go_ret
    exact IntAnd.mk hR.out (hb2 _ _)
  cases hB : amongB b vars
  · have hR : Hid (conE ⟨vars, sites, fields, cons⟩ ⟨2, a, b, f, set⟩ = 4) := conE_range (by dsimp only; decide) (by simp [accB, hA, hB])
    go_enter Tryd.func61, Tryd.ntmps61
    go_wp2_with (go_at_call 65; first | ((with_reducible refine (among_no hB _).mono ?_); rintro e w' ⟨rfl, rfl⟩) | ((with_reducible refine (among_yes hA _).mono ?_); rintro e w1 ⟨rfl, rfl⟩))
    go_ret
    exact IntAnd.mk hR.out (hb2 _ _)
  have hR : Hid (conE ⟨vars, sites, fields, cons⟩ ⟨2, a, b, f, set⟩ = if badSite sites set = true then 4
    else if (decide (f ≠ 0) || decide (0 < set.length)) = true then 1
    else if ascB set = false then 13 else 0) := by
    unfold Hid; rw [conE_else (by dsimp only; decide) (by simp [accB, hA, hB])]; simp [accB]
  go_enter Tryd.func61, Tryd.ntmps61
  go_wp2_with (go_at_call 65; first | ((with_reducible refine (among_yes hA _).mono ?_); rintro e w' ⟨rfl, rfl⟩) | ((with_reducible refine (among_yes hB _).mono ?_); rintro e w1 ⟨rfl, rfl⟩))
  go_loopg [7] set.length (fun g i wr => ∃ n, wr = ((w.alloc (.cells #[.int .i64 vars, .int .i64 sites, .int .i64 fields, .slice aS cons.length cS] 24)).alloc (.cells #[.int .i64 2, .int .i64 a, .int .i64 b, .int .i64 f, .slice a' set.length c'] 39)).drewN n ∧ ∃ k : Nat, k ≤ set.length ∧ g = set.length - k ∧ i = .int .i64 k ∧ Hid (badSite sites set = badSite sites (set.drop k)))
  case atStart => exact ⟨0, rfl, 0, Nat.zero_le _, rfl, rfl, rfl⟩
  case round =>
    obtain ⟨n, rfl, k, hk, rfl, rfl, hn⟩ := hrel
    by_cases hlt : k < set.length
    · obtain ⟨b', o, rfl, hc⟩ := hs.at_ k set[k] (get_at hlt)
      have hb : b' < w.heap.size := World.block_lt_of_cell? _ _ hc
      have hb1 : b' < w.heap.size + 1 := by omega
      cases hq : amongB set[k] sites
      · have hE : Hid (badSite sites set = true) := by unfold Hid; rw [hn.out, drop_at hlt, badSite_cons, hq]; rfl
        go_wp2
        go_quiet ((go_at_call 65; exact quiet_add_left (among_no hq _)))
        go_wp2
        go_ret
        exact IntAnd.mk (by rw [hR.out, if_pos hE.out]) (below_drewN (below_drewN (hb2 _ _) _) _)
      · have hE : Hid (badSite sites set = badSite sites (set.drop (k + 1))) := by unfold Hid; rw [hn.out, drop_at hlt, badSite_cons, hq]; rfl
        go_wp2
        go_quiet ((go_at_call 65; exact quiet_add_left (among_yes hq _)))
        go_wp2
        go_roundg (set.length - (k + 1))
        case measure => omega
        case rel => exact ⟨_, rfl, k + 1, by omega, rfl, by go_num, hE⟩
    · have hE : Hid (badSite sites set = false) := by unfold Hid; rw [hn.out, drop_end hlt]; rfl
      clear hn
      by_cases hf : f = 0
      · obtain rfl := hf
        by_cases hl : 0 < set.length
        · have hl2 : (0 : Int) < set.length := by omega
          go_wp2
          go_ret
          exact IntAnd.mk (by rw [hR.out, if_neg (by rw [hE.out]; exact Bool.false_ne_true), if_pos (by simp [hl])]) (below_drewN (hb2 _ _) _)
        · have hl2 : ¬ (0 : Int) < set.length := by omega
          go_wp2
          go_loopg [8] (set.length + 1) (fun g i wr => ∃ n, wr = ((w.alloc (.cells #[.int .i64 vars, .int .i64 sites, .int .i64 fields, .slice aS cons.length cS] 24)).alloc (.cells #[.int .i64 2, .int .i64 a, .int .i64 b, .int .i64 0, .slice a' set.length c'] 39)).drewN n ∧ ∃ k : Nat, k ≤ set.length ∧ g = set.length + 1 - k ∧ i = .int .i64 (k + 1) ∧ Hid (ascB set = ascB (set.drop k)))
          case atStart => exact ⟨n, rfl, 0, by omega, by omega, rfl, rfl⟩
          case round =>
            obtain ⟨n2, rfl, k, hk, rfl, rfl, hn⟩ := hrel
            by_cases hlt : k + 1 < set.length
            · exfalso; omega
            · go_wp2
              have hG : ascB set = true := by rw [hn.out, ascB_short (by rw [List.length_drop]; omega)]
              go_ret
              exact IntAnd.mk (by rw [hR.out, if_neg (by rw [hE.out]; exact Bool.false_ne_true), if_neg (by simp [hl]), if_neg (by rw [hG]; exact Bool.noConfusion)]) (below_drewN (hb2 _ _) _)
      · have hf2 : (f != 0) = true := by simpa using hf
        go_wp2
        go_ret
        exact IntAnd.mk (by rw [hR.out, if_neg (by rw [hE.out]; exact Bool.false_ne_true), if_pos (by simp [hf])]) (below_drewN (hb2 _ _) _)

theorem con_3 (vars sites fields a b f : Int) (set : List Int) (aS a' : Option Addr) (cS c' : Nat) (cons : List Con) (w : World) (hs : Ints w a' set) :
    Calls Tryd.prog 61 #[sysV ⟨vars, sites, fields, cons⟩ aS cS, conV ⟨3, a, b, f, set⟩ a' c'] w (IntAnd (conE ⟨vars, sites, fields, cons⟩ ⟨3, a, b, f, set⟩) w) := by
  have hb2 : ∀ o o2, Below w.heap.size w ((w.alloc o).alloc o2) := fun o o2 => below_two w o o2
  have hm := hs.len.le
  dsimp only [sysV, conV]
  cases hA : amongB a vars
  · have hR : Hid (conE ⟨vars, sites, fields, cons⟩ ⟨3, a, b, f, set⟩ = 4) := conE_range (by dsimp only; decide) (by simp [accB, hA])
    go_enter Tryd.func61, Tryd.ntmps61
    go_wp2_with (go_at_call 65; first | ((with_reducible refine (among_no hA _).mono ?_); rintro e w' ⟨rfl, rfl⟩))
    go_ret
    exact IntAnd.mk hR.out (hb2 _ _)
  cases hB : amongB b vars
  · have hR : Hid (conE ⟨vars, sites, fields, cons⟩ ⟨3, a, b, f, set⟩ = 4) := conE_range (by dsimp only; decide) (by simp [accB, hA, hB])
    go_enter Tryd.func61, Tryd.ntmps61
    go_wp2_with (go_at_call 65; first | ((with_reducible refine (among_no hB _).mono ?_); rintro e w' ⟨rfl, rfl⟩) | ((with_reducible refine (among_yes hA _).mono ?_); rintro e w1 ⟨rfl, rfl⟩))
    go_ret
    exact IntAnd.mk hR.out (hb2 _ _)
  cases hF : amongB f fields
  · have hR : Hid (conE ⟨vars, sites, fields, cons⟩ ⟨3, a, b, f, set⟩ = 4) := conE_range (by dsimp only; decide) (by simp [accB, hA, hB, hF])
    go_enter Tryd.func61, Tryd.ntmps61
    go_wp2_with (go_at_call 65; first | ((with_reducible refine (among_no hF _).mono ?_); rintro e w' ⟨rfl, rfl⟩) | ((with_reducible refine (among_yes hA _).mono ?_); rintro e w1 ⟨rfl, rfl⟩) | ((with_reducible refine (among_yes hB _).mono ?_); rintro e w1 ⟨rfl, rfl⟩))
    go_ret
    exact IntAnd.mk hR.out (hb2 _ _)
  have hR : Hid (conE ⟨vars, sites, fields, cons⟩ ⟨3, a, b, f, set⟩ = if badSite sites set = true then 4
    else if (false || decide (0 < set.length)) = true then 1
    else if ascB set = false then 13 else 0) := by
    unfold Hid; rw [conE_else (by dsimp only; decide) (by simp [accB, hA, hB, hF])]; simp [accB]
  go_enter Tryd.func61, Tryd.ntmps61
  go_wp2_with (go_at_call 65; first | ((with_reducible refine (among_yes hA _).mono ?_); rintro e w' ⟨rfl, rfl⟩) | ((with_reducible refine (among_yes hB _).mono ?_); rintro e w1 ⟨rfl, rfl⟩) | ((with_reducible refine (among_yes hF _).mono ?_); rintro e w2 ⟨rfl, rfl⟩))
  go_loopg [7] set.length (fun g i wr => ∃ n, wr = ((w.alloc (.cells #[.int .i64 vars, .int .i64 sites, .int .i64 fields, .slice aS cons.length cS] 24)).alloc (.cells #[.int .i64 3, .int .i64 a, .int .i64 b, .int .i64 f, .slice a' set.length c'] 39)).drewN n ∧ ∃ k : Nat, k ≤ set.length ∧ g = set.length - k ∧ i = .int .i64 k ∧ Hid (badSite sites set = badSite sites (set.drop k)))
  case atStart => exact ⟨0, rfl, 0, Nat.zero_le _, rfl, rfl, rfl⟩
  case round =>
    obtain ⟨n, rfl, k, hk, rfl, rfl, hn⟩ := hrel
    by_cases hlt : k < set.length
    · obtain ⟨b', o, rfl, hc⟩ := hs.at_ k set[k] (get_at hlt)
      have hb : b' < w.heap.size := World.block_lt_of_cell? _ _ hc
      have hb1 : b' < w.heap.size + 1 := by omega
      cases hq : amongB set[k] sites
      · have hE : Hid (badSite sites set = true) := by unfold Hid; rw [hn.out, drop_at hlt, badSite_cons, hq]; rfl
        go_wp2
        go_quiet ((go_at_call 65; exact quiet_add_left (among_no hq _)))
        go_wp2
        go_ret
        exact IntAnd.mk (by rw [hR.out, if_pos hE.out]) (below_drewN (below_drewN (hb2 _ _) _) _)
      · have hE : Hid (badSite sites set = badSite sites (set.drop (k + 1))) := by unfold Hid; rw [hn.out, drop_at hlt, badSite_cons, hq]; rfl
        go_wp2
        go_quiet ((go_at_call 65; exact quiet_add_left (among_yes hq _)))
        go_wp2
        go_roundg (set.length - (k + 1))
        case measure => omega
        case rel => exact ⟨_, rfl, k + 1, by omega, rfl, by go_num, hE⟩
    · have hE : Hid (badSite sites set = false) := by unfold Hid; rw [hn.out, drop_end hlt]; rfl
      clear hn
      by_cases hl : 0 < set.length
      · have hl2 : (0 : Int) < set.length := by omega
        go_wp2
        go_ret
        exact IntAnd.mk (by rw [hR.out, if_neg (by rw [hE.out]; exact Bool.false_ne_true), if_pos (by simp [hl])]) (below_drewN (hb2 _ _) _)
      · have hl2 : ¬ (0 : Int) < set.length := by omega
        go_wp2
        go_loopg [8] (set.length + 1) (fun g i wr => ∃ n, wr = ((w.alloc (.cells #[.int .i64 vars, .int .i64 sites, .int .i64 fields, .slice aS cons.length cS] 24)).alloc (.cells #[.int .i64 3, .int .i64 a, .int .i64 b, .int .i64 f, .slice a' set.length c'] 39)).drewN n ∧ ∃ k : Nat, k ≤ set.length ∧ g = set.length + 1 - k ∧ i = .int .i64 (k + 1) ∧ Hid (ascB set = ascB (set.drop k)))
        case atStart => exact ⟨n, rfl, 0, by omega, by omega, rfl, rfl⟩
        case round =>
          obtain ⟨n2, rfl, k, hk, rfl, rfl, hn⟩ := hrel
          by_cases hlt : k + 1 < set.length
          · exfalso; omega
          · go_wp2
            have hG : ascB set = true := by rw [hn.out, ascB_short (by rw [List.length_drop]; omega)]
            go_ret
            exact IntAnd.mk (by rw [hR.out, if_neg (by rw [hE.out]; exact Bool.false_ne_true), if_neg (by simp [hl]), if_neg (by rw [hG]; exact Bool.noConfusion)]) (below_drewN (hb2 _ _) _)

theorem con_4 (vars sites fields a b f : Int) (set : List Int) (aS a' : Option Addr) (cS c' : Nat) (cons : List Con) (w : World) (hs : Ints w a' set) :
    Calls Tryd.prog 61 #[sysV ⟨vars, sites, fields, cons⟩ aS cS, conV ⟨4, a, b, f, set⟩ a' c'] w (IntAnd (conE ⟨vars, sites, fields, cons⟩ ⟨4, a, b, f, set⟩) w) := by
  have hb2 : ∀ o o2, Below w.heap.size w ((w.alloc o).alloc o2) := fun o o2 => below_two w o o2
  have hm := hs.len.le
  dsimp only [sysV, conV]
  cases hA : amongB a vars
  · have hR : Hid (conE ⟨vars, sites, fields, cons⟩ ⟨4, a, b, f, set⟩ = 4) := conE_range (by dsimp only; decide) (by simp [accB, hA])
    go_enter Tryd.func61, Tryd.ntmps61
    go_wp2_with (go_at_call 65; first | ((with_reducible refine (among_no hA _).mono ?_); rintro e w' ⟨rfl, rfl⟩))
    go_ret
    exact IntAnd.mk hR.out (hb2 _ _)
  cases hB : amongB b vars
  · have hR : Hid (conE ⟨vars, sites, fields, cons⟩ ⟨4, a, b, f, set⟩ = 4) := conE_range (by dsimp only; decide) (by simp [accB, hA, hB])
    go_enter Tryd.func61, Tryd.ntmps61
    go_wp2_with (go_at_call 65; first | ((with_reducible refine (among_no hB _).mono ?_); rintro e w' ⟨rfl, rfl⟩) | ((with_reducible refine (among_yes hA _).mono ?_); rintro e w1 ⟨rfl, rfl⟩))
    go_ret
    exact IntAnd.mk hR.out (hb2 _ _)
  cases hF : amongB f fields
  · have hR : Hid (conE ⟨vars, sites, fields, cons⟩ ⟨4, a, b, f, set⟩ = 4) := conE_range (by dsimp only; decide) (by simp [accB, hA, hB, hF])
    go_enter Tryd.func61, Tryd.ntmps61
    go_wp2_with (go_at_call 65; first | ((with_reducible refine (among_no hF _).mono ?_); rintro e w' ⟨rfl, rfl⟩) | ((with_reducible refine (among_yes hA _).mono ?_); rintro e w1 ⟨rfl, rfl⟩) | ((with_reducible refine (among_yes hB _).mono ?_); rintro e w1 ⟨rfl, rfl⟩))
    go_ret
    exact IntAnd.mk hR.out (hb2 _ _)
  have hR : Hid (conE ⟨vars, sites, fields, cons⟩ ⟨4, a, b, f, set⟩ = if badSite sites set = true then 4
    else if (false || decide (0 < set.length)) = true then 1
    else if ascB set = false then 13 else 0) := by
    unfold Hid; rw [conE_else (by dsimp only; decide) (by simp [accB, hA, hB, hF])]; simp [accB]
  go_enter Tryd.func61, Tryd.ntmps61
  go_wp2_with (go_at_call 65; first | ((with_reducible refine (among_yes hA _).mono ?_); rintro e w' ⟨rfl, rfl⟩) | ((with_reducible refine (among_yes hB _).mono ?_); rintro e w1 ⟨rfl, rfl⟩) | ((with_reducible refine (among_yes hF _).mono ?_); rintro e w2 ⟨rfl, rfl⟩))
  go_loopg [7] set.length (fun g i wr => ∃ n, wr = ((w.alloc (.cells #[.int .i64 vars, .int .i64 sites, .int .i64 fields, .slice aS cons.length cS] 24)).alloc (.cells #[.int .i64 4, .int .i64 a, .int .i64 b, .int .i64 f, .slice a' set.length c'] 39)).drewN n ∧ ∃ k : Nat, k ≤ set.length ∧ g = set.length - k ∧ i = .int .i64 k ∧ Hid (badSite sites set = badSite sites (set.drop k)))
  case atStart => exact ⟨0, rfl, 0, Nat.zero_le _, rfl, rfl, rfl⟩
  case round =>
    obtain ⟨n, rfl, k, hk, rfl, rfl, hn⟩ := hrel
    by_cases hlt : k < set.length
    · obtain ⟨b', o, rfl, hc⟩ := hs.at_ k set[k] (get_at hlt)
      have hb : b' < w.heap.size := World.block_lt_of_cell? _ _ hc
      have hb1 : b' < w.heap.size + 1 := by omega
      cases hq : amongB set[k] sites
      · have hE : Hid (badSite sites set = true) := by unfold Hid; rw [hn.out, drop_at hlt, badSite_cons, hq]; rfl
        go_wp2
        go_quiet ((go_at_call 65; exact quiet_add_left (among_no hq _)))
        go_wp2
        go_ret
        exact IntAnd.mk (by rw [hR.out, if_pos hE.out]) (below_drewN (below_drewN (hb2 _ _) _) _)
      · have hE : Hid (badSite sites set = badSite sites (set.drop (k + 1))) := by unfold Hid; rw [hn.out, drop_at hlt, badSite_cons, hq]; rfl
        go_wp2
        go_quiet ((go_at_call 65; exact quiet_add_left (among_yes hq _)))
        go_wp2
        go_roundg (set.length - (k + 1))
        case measure => omega
        case rel => exact ⟨_, rfl, k + 1, by omega, rfl, by go_num, hE⟩
    · have hE : Hid (badSite sites set = false) := by unfold Hid; rw [hn.out, drop_end hlt]; rfl
      clear hn
      by_cases hl : 0 < set.length
      · have hl2 : (0 : Int) < set.length := by omega
        go_wp2
        go_ret
        exact IntAnd.mk (by rw [hR.out, if_neg (by rw [hE.out]; exact Bool.false_ne_true), if_pos (by simp [hl])]) (below_drewN (hb2 _ _) _)
      · have hl2 : ¬ (0 : Int) < set.length := by omega
        go_wp2
        go_loopg [8] (set.length + 1) (fun g i wr => ∃ n, wr = ((w.alloc (.cells #[.int .i64 vars, .int .i64 sites, .int .i64 fields, .slice aS cons.length cS] 24)).alloc (.cells #[.int .i64 4, .int .i64 a, .int .i64 b, .int .i64 f, .slice a' set.length c'] 39)).drewN n ∧ ∃ k : Nat, k ≤ set.length ∧ g = set.length + 1 - k ∧ i = .int .i64 (k + 1) ∧ Hid (ascB set = ascB (set.drop k)))
        case atStart => exact ⟨n, rfl, 0, by omega, by omega, rfl, rfl⟩
        case round =>
          obtain ⟨n2, rfl, k, hk, rfl, rfl, hn⟩ := hrel
          by_cases hlt : k + 1 < set.length
          · exfalso; omega
          · go_wp2
            have hG : ascB set = true := by rw [hn.out, ascB_short (by rw [List.length_drop]; omega)]
            go_ret
            exact IntAnd.mk (by rw [hR.out, if_neg (by rw [hE.out]; exact Bool.false_ne_true), if_neg (by simp [hl]), if_neg (by rw [hG]; exact Bool.noConfusion)]) (below_drewN (hb2 _ _) _)

theorem con_5 (vars sites fields a b f : Int) (set : List Int) (aS a' : Option Addr) (cS c' : Nat) (cons : List Con) (w : World) (hs : Ints w a' set) :
    Calls Tryd.prog 61 #[sysV ⟨vars, sites, fields, cons⟩ aS cS, conV ⟨5, a, b, f, set⟩ a' c'] w (IntAnd (conE ⟨vars, sites, fields, cons⟩ ⟨5, a, b, f, set⟩) w) := by
  have hb2 : ∀ o o2, Below w.heap.size w ((w.alloc o).alloc o2) := fun o o2 => below_two w o o2
  have hm := hs.len.le
  dsimp only [sysV, conV]
  cases hA : amongB a vars
  · have hR : Hid (conE ⟨vars, sites, fields, cons⟩ ⟨5, a, b, f, set⟩ = 4) := conE_range (by dsimp only; decide) (by simp [accB, hA])
    go_enter Tryd.func61, Tryd.ntmps61
    go_wp2_with (go_at_call 65; first | ((with_reducible refine (among_no hA _).mono ?_); rintro e w' ⟨rfl, rfl⟩))
    go_ret
    exact IntAnd.mk hR.out (hb2 _ _)
  cases hB : amongB b vars
  · have hR : Hid (conE ⟨vars, sites, fields, cons⟩ ⟨5, a, b, f, set⟩ = 4) := conE_range (by dsimp only; decide) (by simp [accB, hA, hB])
    go_enter Tryd.func61, Tryd.ntmps61
    go_wp2_with (go_at_call 65; first | ((with_reducible refine (among_no hB _).mono ?_); rintro e w' ⟨rfl, rfl⟩) | ((with_reducible refine (among_yes hA _).mono ?_); rintro e w1 ⟨rfl, rfl⟩))
    go_ret
    exact IntAnd.mk hR.out (hb2 _ _)
  have hR : Hid (conE ⟨vars, sites, fields, cons⟩ ⟨5, a, b, f, set⟩ = if badSite sites set = true then 4
    else if (decide (f ≠ 0) || false) = true then 1
    else if ascB set = false then 13 else 0) := by
    unfold Hid; rw [conE_else (by dsimp only; decide) (by simp [accB, hA, hB])]; simp [accB]
  go_enter Tryd.func61, Tryd.ntmps61
  go_wp2_with (go_at_call 65; first | ((with_reducible refine (among_yes hA _).mono ?_); rintro e w' ⟨rfl, rfl⟩) | ((with_reducible refine (among_yes hB _).mono ?_); rintro e w1 ⟨rfl, rfl⟩))
  go_loopg [7] set.length (fun g i wr => ∃ n, wr = ((w.alloc (.cells #[.int .i64 vars, .int .i64 sites, .int .i64 fields, .slice aS cons.length cS] 24)).alloc (.cells #[.int .i64 5, .int .i64 a, .int .i64 b, .int .i64 f, .slice a' set.length c'] 39)).drewN n ∧ ∃ k : Nat, k ≤ set.length ∧ g = set.length - k ∧ i = .int .i64 k ∧ Hid (badSite sites set = badSite sites (set.drop k)))
  case atStart => exact ⟨0, rfl, 0, Nat.zero_le _, rfl, rfl, rfl⟩
  case round =>
    obtain ⟨n, rfl, k, hk, rfl, rfl, hn⟩ := hrel
    by_cases hlt : k < set.length
    · obtain ⟨b', o, rfl, hc⟩ := hs.at_ k set[k] (get_at hlt)
      have hb : b' < w.heap.size := World.block_lt_of_cell? _ _ hc
      have hb1 : b' < w.heap.size + 1 := by omega
      cases hq : amongB set[k] sites
      · have hE : Hid (badSite sites set = true) := by unfold Hid; rw [hn.out, drop_at hlt, badSite_cons, hq]; rfl
        go_wp2
        go_quiet ((go_at_call 65; exact quiet_add_left (among_no hq _)))
        go_wp2
        go_ret
        exact IntAnd.mk (by rw [hR.out, if_pos hE.out]) (below_drewN (below_drewN (hb2 _ _) _) _)
      · have hE : Hid (badSite sites set = badSite sites (set.drop (k + 1))) := by unfold Hid; rw [hn.out, drop_at hlt, badSite_cons, hq]; rfl
        go_wp2
        go_quiet ((go_at_call 65; exact quiet_add_left (among_yes hq _)))
        go_wp2
        go_roundg (set.length - (k + 1))
        case measure => omega
        case rel => exact ⟨_, rfl, k + 1, by omega, rfl, by go_num, hE⟩
    · have hE : Hid (badSite sites set = false) := by unfold Hid; rw [hn.out, drop_end hlt]; rfl
      clear hn
      by_cases hf : f = 0
      · obtain rfl := hf
        go_wp2
        go_loopg [8] (set.length + 1) (fun g i wr => ∃ n, wr = ((w.alloc (.cells #[.int .i64 vars, .int .i64 sites, .int .i64 fields, .slice aS cons.length cS] 24)).alloc (.cells #[.int .i64 5, .int .i64 a, .int .i64 b, .int .i64 0, .slice a' set.length c'] 39)).drewN n ∧ ∃ k : Nat, k ≤ set.length ∧ g = set.length + 1 - k ∧ i = .int .i64 (k + 1) ∧ Hid (ascB set = ascB (set.drop k)))
        case atStart => exact ⟨n, rfl, 0, by omega, by omega, rfl, rfl⟩
        case round =>
          obtain ⟨n2, rfl, k, hk, rfl, rfl, hn⟩ := hrel
          by_cases hlt : k + 1 < set.length
          · obtain ⟨b', o, rfl, hc⟩ := hs.some hlt
            have c1 := hc (k + 1) set[k + 1] (get_at hlt)
            have c2 := hc k set[k] (get_at (by omega))
            have hb : b' < w.heap.size := World.block_lt_of_cell? _ _ c1
            have hb1 : b' < w.heap.size + 1 := by omega
            clear hc
            go_wp2
            go_quiet (fail)
            go_wp2
            · have hq : set[k + 1] ≤ set[k] := by assumption
              have hG : ascB set = false := by rw [hn.out, drop_at (Nat.lt_of_succ_lt hlt), drop_at hlt, ascB_cons2, decide_eq_false (by omega)]; rfl
              go_ret
              exact IntAnd.mk (by rw [hR.out, if_neg (by rw [hE.out]; exact Bool.false_ne_true), if_neg (by simp), if_pos hG]) (below_drewN (below_drewN (hb2 _ _) _) _)
            · have hq : set[k] < set[k + 1] := by assumption
              go_roundg (set.length + 1 - (k + 1))
              case measure => omega
              case rel => exact ⟨_, rfl, k + 1, by omega, rfl, by go_num, by unfold Hid; rw [hn.out, drop_at (Nat.lt_of_succ_lt hlt), drop_at hlt, ascB_cons2, decide_eq_true hq]; rfl⟩
          · go_wp2
            have hG : ascB set = true := by rw [hn.out, ascB_short (by rw [List.length_drop]; omega)]
            go_ret
            exact IntAnd.mk (by rw [hR.out, if_neg (by rw [hE.out]; exact Bool.false_ne_true), if_neg (by simp), if_neg (by rw [hG]; exact Bool.noConfusion)]) (below_drewN (hb2 _ _) _)
      · have hf2 : (f != 0) = true := by simpa using hf
        go_wp2
        go_ret
        exact IntAnd.mk (by rw [hR.out, if_neg (by rw [hE.out]; exact Bool.false_ne_true), if_pos (by simp [hf])]) (below_drewN (hb2 _ _) _)

theorem con_any (s : Sys) (c : Con) (aS a' : Option Addr) (cS c' : Nat) (w : World) (hs : Ints w a' c.set) :
    Calls Tryd.prog 61 #[sysV s aS cS, conV c a' c'] w (IntAnd (conE s c) w) := by
  obtain ⟨vars, sites, fields, cons⟩ := s
  obtain ⟨kind, a, b, f, set⟩ := c
  by_cases h1 : kind = 1
  · subst h1; exact con_1 _ _ _ _ _ _ _ _ _ _ _ _ _ hs
  by_cases h2 : kind = 2
  · subst h2; exact con_2 _ _ _ _ _ _ _ _ _ _ _ _ _ hs
  by_cases h3 : kind = 3
  · subst h3; exact con_3 _ _ _ _ _ _ _ _ _ _ _ _ _ hs
  by_cases h4 : kind = 4
  · subst h4; exact con_4 _ _ _ _ _ _ _ _ _ _ _ _ _ hs
  by_cases h5 : kind = 5
  · subst h5; exact con_5 _ _ _ _ _ _ _ _ _ _ _ _ _ hs
  dsimp only [sysV, conV]
  have hb2 : ∀ o o2, Below w.heap.size w ((w.alloc o).alloc o2) := fun o o2 => below_two w o o2
  have hR := Lib.hid (conE_kind (s := ⟨vars, sites, fields, cons⟩) (c := ⟨kind, a, b, f, set⟩) (by dsimp only; omega))
  by_cases hk : kind < 1
  · clear h1 h2 h3 h4 h5
    go_enter Tryd.func61, Tryd.ntmps61
    go_wp2
    go_ret
    exact IntAnd.mk hR.out (hb2 _ _)
  · have hk5 : 5 < kind := by omega
    clear h1 h2 h3 h4 h5
    go_enter Tryd.func61, Tryd.ntmps61
    go_wp2
    go_ret
    exact IntAnd.mk hR.out (hb2 _ _)
end Go.Proofs.YtcfiohphjlohhaaDoor
