/- Check of a system: the program's and the reference's. -/
import Derived.Test.YtcfiohphjlohhaaDoorT7
import Derived.StillTailTactics
namespace Go.Proofs.YtcfiohphjlohhaaDoor
open Go.RowKit

theorem checkE_neg {s : Sys} (h : s.vars < 0 ∨ s.sites < 0 ∨ s.fields < 0) : checkE s = 4 := by unfold checkE; rw [if_pos h]
theorem checkE_long {s : Sys} (h : ¬ (s.vars < 0 ∨ s.sites < 0 ∨ s.fields < 0)) (h2 : 65536 < s.vars ∨ 1024 < s.sites ∨ 1024 < s.fields ∨ 65536 < s.sites * s.fields ∨ (32768 : Int) < s.cons.length) : checkE s = 3 := by unfold checkE; rw [if_neg h, if_pos h2]
theorem checkE_cons {s : Sys} (h : ¬ (s.vars < 0 ∨ s.sites < 0 ∨ s.fields < 0)) (h2 : ¬ (65536 < s.vars ∨ 1024 < s.sites ∨ 1024 < s.fields ∨ 65536 < s.sites * s.fields ∨ (32768 : Int) < s.cons.length)) : checkE s = consE s s.cons := by unfold checkE; rw [if_neg h, if_neg h2]

set_option maxRecDepth 100000 in
theorem check_any (s : Sys) (a : Option Addr) (cap : Nat) (w : World) (h : Cons w a s.cons) :
    Calls Tryd.prog 35 #[sysV s a cap] w (IntAnd (checkE s) w) := by
  have hm := h.len.le
  dsimp only [sysV]
  by_cases h1 : s.vars < 0
  · have hR : Hid (checkE s = 4) := checkE_neg (.inl h1)
    go_enter Tryd.func35, Tryd.ntmps35
    go_wp2
    go_ret
    exact IntAnd.mk hR.out ((Below.refl _ _).alloc (Nat.le_refl _) _)
  by_cases h2 : s.sites < 0
  · have hR : Hid (checkE s = 4) := checkE_neg (.inr (.inl h2))
    go_enter Tryd.func35, Tryd.ntmps35
    go_wp2
    go_ret
    exact IntAnd.mk hR.out ((Below.refl _ _).alloc (Nat.le_refl _) _)
  by_cases h3 : s.fields < 0
  · have hR : Hid (checkE s = 4) := checkE_neg (.inr (.inr h3))
    go_enter Tryd.func35, Tryd.ntmps35
    go_wp2
    go_ret
    exact IntAnd.mk hR.out ((Below.refl _ _).alloc (Nat.le_refl _) _)
  have hneg : Hid (¬ (s.vars < 0 ∨ s.sites < 0 ∨ s.fields < 0)) := by unfold Hid; omega
  by_cases h4 : 65536 < s.vars
  · have hR : Hid (checkE s = 3) := checkE_long hneg.out (.inl h4)
    go_enter Tryd.func35, Tryd.ntmps35
    go_wp2
    go_ret
    exact IntAnd.mk hR.out ((Below.refl _ _).alloc (Nat.le_refl _) _)
  by_cases h5 : 1024 < s.sites
  · have hR : Hid (checkE s = 3) := checkE_long hneg.out (.inr (.inl h5))
    go_enter Tryd.func35, Tryd.ntmps35
    go_wp2
    go_ret
    exact IntAnd.mk hR.out ((Below.refl _ _).alloc (Nat.le_refl _) _)
  by_cases h6 : 1024 < s.fields
  · have hR : Hid (checkE s = 3) := checkE_long hneg.out (.inr (.inr (.inl h6)))
    go_enter Tryd.func35, Tryd.ntmps35
    go_wp2
    go_ret
    exact IntAnd.mk hR.out ((Below.refl _ _).alloc (Nat.le_refl _) _)
  have hp := prod_bd (a := s.sites) (b := s.fields) (by omega) (by omega) (by omega) (by omega)
  by_cases h7 : 65536 < s.sites * s.fields
  · have hR : Hid (checkE s = 3) := checkE_long hneg.out (.inr (.inr (.inr (.inl h7))))
    go_enter Tryd.func35, Tryd.ntmps35
    go_wp2
    go_ret
    exact IntAnd.mk hR.out ((Below.refl _ _).alloc (Nat.le_refl _) _)
  by_cases h8 : (32768 : Int) < s.cons.length
  · have hR : Hid (checkE s = 3) := checkE_long hneg.out (.inr (.inr (.inr (.inr h8))))
    go_enter Tryd.func35, Tryd.ntmps35
    go_wp2
    go_ret
    exact IntAnd.mk hR.out ((Below.refl _ _).alloc (Nat.le_refl _) _)
  have hR : Hid (checkE s = consE s s.cons) := checkE_cons hneg.out (by omega)
  go_enter Tryd.func35, Tryd.ntmps35
  go_wp2
  go_loopg [51] s.cons.length (fun g i wr => Below (w.heap.size + 1) (w.alloc (.cells #[.int .i64 s.vars, .int .i64 s.sites, .int .i64 s.fields, .slice a s.cons.length cap] 24)) wr ∧ ∃ k : Nat, k ≤ s.cons.length ∧ g = s.cons.length - k ∧ i = .int .i64 k ∧ Hid (consE s s.cons = consE s (s.cons.drop k)))
  case atStart => exact ⟨Below.refl _ _, 0, Nat.zero_le _, rfl, rfl, rfl⟩
  case round =>
    obtain ⟨hb, k, hk, rfl, rfl, hn⟩ := hrel
    have hbx := box_keep (hb.mono (by simp))
    have HB : Below w.heap.size w wr := below_box (hb.mono (by simp))
    have H := h.below HB
    have hsz := hb.size
    rw [World.size_alloc] at hsz
    have hsz2 : w.heap.size < wr.heap.size := by omega
    by_cases hlt : k < s.cons.length
    · obtain ⟨b, o, a', c', rfl, e0, e1, e2, e3, e4, hi⟩ := H.at_ k s.cons[k] (get_at hlt)
      cases hq : decide (conE s s.cons[k] = 0)
      · have hq1 : ¬ conE s s.cons[k] = 0 := of_decide_eq_false hq
        have hE : Hid (consE s s.cons = conE s s.cons[k]) := by unfold Hid; rw [hn.out, drop_at hlt, consE_cons, if_neg hq1]
        have hq2 : (conE s s.cons[k] != 0) = true := by simpa using hq1
        clear hq hq1
        go_wp2_with (go_at_call 58; refine (checkCon_any s s.cons[k] _ _ _ _ _ (hi.alloc _)).mono ?_; rintro e w1 ⟨rfl, hb1⟩)
        go_ret
        exact IntAnd.mk (by rw [hR.out, hE.out]) (HB.trans ((below_box hb1).mono HB.size))
      · have hq1 : conE s s.cons[k] = 0 := of_decide_eq_true hq
        have hE : Hid (consE s s.cons = consE s (s.cons.drop (k + 1))) := by unfold Hid; rw [hn.out, drop_at hlt, consE_cons, if_pos hq1]
        clear hq
        go_wp2_with (go_at_call 58; refine (checkCon_any s s.cons[k] _ _ _ _ _ (hi.alloc _)).mono ?_; rintro e w1 ⟨rfl, hb1⟩)
        go_roundg (s.cons.length - (k + 1))
        case measure => omega
        case rel => exact ⟨hb.trans ((below_box hb1).mono hsz), k + 1, by omega, rfl, by go_num, hE⟩
    · go_wp2
      go_ret
      exact IntAnd.mk (by rw [hR.out, hn.out, drop_end hlt]; rfl) HB

set_option maxRecDepth 100000 in
theorem checkR_any (s : Sys) (a : Option Addr) (cap : Nat) (w : World) (h : Cons w a s.cons) :
    Calls Tryd.prog 39 #[sysV s a cap] w (IntAnd (checkE s) w) := by
  have hm := h.len.le
  dsimp only [sysV]
  by_cases h1 : s.vars < 0
  · have hR : Hid (checkE s = 4) := checkE_neg (.inl h1)
    go_enter Tryd.func39, Tryd.ntmps39
    go_wp2
    go_ret
    exact IntAnd.mk hR.out ((Below.refl _ _).alloc (Nat.le_refl _) _)
  by_cases h2 : s.sites < 0
  · have hR : Hid (checkE s = 4) := checkE_neg (.inr (.inl h2))
    go_enter Tryd.func39, Tryd.ntmps39
    go_wp2
    go_ret
    exact IntAnd.mk hR.out ((Below.refl _ _).alloc (Nat.le_refl _) _)
  by_cases h3 : s.fields < 0
  · have hR : Hid (checkE s = 4) := checkE_neg (.inr (.inr h3))
    go_enter Tryd.func39, Tryd.ntmps39
    go_wp2
    go_ret
    exact IntAnd.mk hR.out ((Below.refl _ _).alloc (Nat.le_refl _) _)
  have hneg : Hid (¬ (s.vars < 0 ∨ s.sites < 0 ∨ s.fields < 0)) := by unfold Hid; omega
  by_cases h4 : 65536 < s.vars
  · have hR : Hid (checkE s = 3) := checkE_long hneg.out (.inl h4)
    go_enter Tryd.func39, Tryd.ntmps39
    go_wp2
    go_ret
    exact IntAnd.mk hR.out ((Below.refl _ _).alloc (Nat.le_refl _) _)
  by_cases h5 : 1024 < s.sites
  · have hR : Hid (checkE s = 3) := checkE_long hneg.out (.inr (.inl h5))
    go_enter Tryd.func39, Tryd.ntmps39
    go_wp2
    go_ret
    exact IntAnd.mk hR.out ((Below.refl _ _).alloc (Nat.le_refl _) _)
  by_cases h6 : 1024 < s.fields
  · have hR : Hid (checkE s = 3) := checkE_long hneg.out (.inr (.inr (.inl h6)))
    go_enter Tryd.func39, Tryd.ntmps39
    go_wp2
    go_ret
    exact IntAnd.mk hR.out ((Below.refl _ _).alloc (Nat.le_refl _) _)
  have hp := prod_bd (a := s.sites) (b := s.fields) (by omega) (by omega) (by omega) (by omega)
  by_cases h7 : 65536 < s.sites * s.fields
  · have hR : Hid (checkE s = 3) := checkE_long hneg.out (.inr (.inr (.inr (.inl h7))))
    go_enter Tryd.func39, Tryd.ntmps39
    go_wp2
    go_ret
    exact IntAnd.mk hR.out ((Below.refl _ _).alloc (Nat.le_refl _) _)
  by_cases h8 : (32768 : Int) < s.cons.length
  · have hR : Hid (checkE s = 3) := checkE_long hneg.out (.inr (.inr (.inr (.inr h8))))
    go_enter Tryd.func39, Tryd.ntmps39
    go_wp2
    go_ret
    exact IntAnd.mk hR.out ((Below.refl _ _).alloc (Nat.le_refl _) _)
  have hR : Hid (checkE s = consE s s.cons) := checkE_cons hneg.out (by omega)
  go_enter Tryd.func39, Tryd.ntmps39
  go_wp2
  go_loopg [3] s.cons.length (fun g i wr => Below (w.heap.size + 1) (w.alloc (.cells #[.int .i64 s.vars, .int .i64 s.sites, .int .i64 s.fields, .slice a s.cons.length cap] 24)) wr ∧ ∃ k : Nat, k ≤ s.cons.length ∧ g = s.cons.length - k ∧ i = .int .i64 k ∧ Hid (consE s s.cons = consE s (s.cons.drop k)))
  case atStart => exact ⟨Below.refl _ _, 0, Nat.zero_le _, rfl, rfl, rfl⟩
  case round =>
    obtain ⟨hb, k, hk, rfl, rfl, hn⟩ := hrel
    have hbx := box_keep (hb.mono (by simp))
    have HB : Below w.heap.size w wr := below_box (hb.mono (by simp))
    have H := h.below HB
    have hsz := hb.size
    rw [World.size_alloc] at hsz
    have hsz2 : w.heap.size < wr.heap.size := by omega
    by_cases hlt : k < s.cons.length
    · obtain ⟨b, o, a', c', rfl, e0, e1, e2, e3, e4, hi⟩ := H.at_ k s.cons[k] (get_at hlt)
      cases hq : decide (conE s s.cons[k] = 0)
      · have hq1 : ¬ conE s s.cons[k] = 0 := of_decide_eq_false hq
        have hE : Hid (consE s s.cons = conE s s.cons[k]) := by unfold Hid; rw [hn.out, drop_at hlt, consE_cons, if_neg hq1]
        have hq2 : (conE s s.cons[k] != 0) = true := by simpa using hq1
        clear hq hq1
        go_wp2
        go_still_tail 6, (by kernel_rfl)
        change wpList _ _ _ _ _ wr.drew
        go_wp2_with (go_at_call 61; refine (con_any s s.cons[k] _ _ _ _ _ hi.drew).mono ?_; rintro e w1 ⟨rfl, hb1⟩)
        go_ret
        exact IntAnd.mk (by rw [hR.out, hE.out]) (HB.trans ((below_un_drew hb1).mono HB.size))
      · have hq1 : conE s s.cons[k] = 0 := of_decide_eq_true hq
        have hE : Hid (consE s s.cons = consE s (s.cons.drop (k + 1))) := by unfold Hid; rw [hn.out, drop_at hlt, consE_cons, if_pos hq1]
        clear hq
        go_wp2
        go_still_tail 6, (by kernel_rfl)
        change wpList _ _ _ _ _ wr.drew
        go_wp2_with (go_at_call 61; refine (con_any s s.cons[k] _ _ _ _ _ hi.drew).mono ?_; rintro e w1 ⟨rfl, hb1⟩)
        go_roundg (s.cons.length - (k + 1))
        case measure => omega
        case rel => exact ⟨hb.trans ((below_un_drew hb1).mono hsz), k + 1, by omega, rfl, by go_num, hE⟩
    · go_wp2
      go_ret
      exact IntAnd.mk (by rw [hR.out, hn.out, drop_end hlt]; rfl) HB
end Go.Proofs.YtcfiohphjlohhaaDoor
