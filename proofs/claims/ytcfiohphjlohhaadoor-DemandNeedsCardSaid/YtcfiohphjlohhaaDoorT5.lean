/- trial -/
import Derived.Test.YtcfiohphjlohhaaDoorT4
namespace Go.Proofs.YtcfiohphjlohhaaDoor
open Go.RowKit

/-- the place of the first element of which f holds; -1 if of none -/
def idxP {α : Type} (f : α → Bool) : List α → Nat → Int
  | [], _ => -1
  | a :: l, k => if f a then k else idxP f l (k + 1)
theorem idxP_any {α : Type} (f : α → Bool) : ∀ (l : List α) (k : Nat), decide (0 ≤ idxP f l k) = l.any f
  | [], _ => rfl
  | a :: l, k => by
    rw [List.any_cons]
    unfold idxP
    by_cases h : f a
    · simp [h]
    · rw [if_neg h, idxP_any f l]
      simp [h]

theorem valid11_any (x sites : Int) (p : Addr) (w : World) (hc : w.cell? p = some (.int .i64 sites)) :
    Calls Tryd.prog 70 #[.int .i64 x, .pointer (some p)] w fun e w' => e = .returned (.bool (!amongB x sites)) ∧ w = w' := by
  go_enter Tryd.func70, Tryd.ntmps70
  go_wp2_with (go_at_call 71; refine (within_any _ _ _).mono ?_; rintro e w' ⟨rfl, rfl⟩)
  go_ret
  exact ⟨rfl, rfl⟩

theorem indexFunc1_any (a : Option Addr) (cap : Nat) (xs : List Int) (sites : Int) (p : Addr) (w : World) (h : Ints w a xs) (hp : w.cell? p = some (.int .i64 sites)) :
    Calls Tryd.prog 84 #[.slice a xs.length cap, .func (.func 70) #[] #[.pointer (some p)]] w fun e w' => e = .returned (.int .i64 (idxP (fun x => !amongB x sites) xs 0)) ∧ w = w' := by
  have hm := h.len.le
  go_enter Tryd.func84, Tryd.ntmps84
  go_wp2
  go_loopg [8] xs.length (fun g i wr => w = wr ∧ ∃ k : Nat, k ≤ xs.length ∧ g = xs.length - k ∧ i = .int .i64 k ∧ Hid (idxP (fun x => !amongB x sites) xs 0 = idxP (fun x => !amongB x sites) (xs.drop k) k))
  case atStart => exact ⟨rfl, 0, Nat.zero_le _, rfl, rfl, rfl⟩
  case round =>
    obtain ⟨rfl, k, hk, rfl, rfl, hn⟩ := hrel
    by_cases hlt : k < xs.length
    · obtain ⟨b, o, rfl, hc⟩ := h.at_ k xs[k] (get_at hlt)
      go_wp2_with (go_at_call 70; refine (valid11_any _ _ _ _ hp).mono ?_; rintro e w' ⟨rfl, rfl⟩)
      · have hq : amongB xs[k] sites = false := not_t (by assumption)
        go_ret
        exact ⟨ret_int (by rw [hn.out, drop_at hlt, idxP, if_pos (by simp [hq])]), rfl⟩
      · have hq : amongB xs[k] sites = true := not_f (by assumption)
        go_roundg (xs.length - (k + 1))
        case measure => omega
        case rel => exact ⟨rfl, k + 1, by omega, rfl, by go_num, by unfold Hid; rw [hn.out, drop_at hlt, idxP, if_neg (by simp [hq])]⟩
    · go_wp2
      go_ret
      exact ⟨ret_int (by rw [hn.out, drop_end hlt]; rfl), rfl⟩

theorem containsFunc1_any (a : Option Addr) (cap : Nat) (xs : List Int) (sites : Int) (p : Addr) (w : World) (h : Ints w a xs) (hp : w.cell? p = some (.int .i64 sites)) :
    Calls Tryd.prog 69 #[.slice a xs.length cap, .func (.func 70) #[] #[.pointer (some p)]] w fun e w' => e = .returned (.bool (xs.any fun x => !amongB x sites)) ∧ w = w' := by
  go_enter Tryd.func69, Tryd.ntmps69
  go_wp2_with (go_at_call 84; refine (indexFunc1_any _ _ _ _ _ _ h hp).mono ?_; rintro e w' ⟨rfl, rfl⟩)
  go_ret
  exact ⟨ret_bool (idxP_any _ xs 0), rfl⟩

/-- a row that is no ascending list of sites: as the program asks it -/
def badRow (sites : Int) (l : List Int) : Bool := !ascB l || l.any fun x => !amongB x sites

theorem valid1_any (a : Option Addr) (cap : Nat) (xs : List Int) (sites : Int) (p : Addr) (w : World) (h : Ints w a xs) (hp : w.cell? p = some (.int .i64 sites)) :
    Calls Tryd.prog 67 #[.slice a xs.length cap, .pointer (some p)] w fun e w' => e = .returned (.bool (badRow sites xs)) ∧ ∃ n, w' = w.drewN n := by
  cases hA : ascB xs
  · have hR : Hid (badRow sites xs = true) := by unfold Hid badRow; rw [hA]; rfl
    go_enter Tryd.func67, Tryd.ntmps67
    go_wp2_with (go_at_call 68; refine (ascending_any _ _ _ _ h).mono ?_; rintro e w' ⟨rfl, n, rfl⟩)
    go_ret
    exact ⟨ret_bool hR.out.symm, _, rfl⟩
  · have hR : Hid (badRow sites xs = xs.any fun x => !amongB x sites) := by unfold Hid badRow; rw [hA]; rfl
    have hmf : ∀ (fn : Fn) (first cap : Array Value) (w : World), (Instr.makeFunc fn first cap).run Tryd.prog w = .ok (.func fn first cap) w := fun _ _ _ _ => rfl
    go_enter Tryd.func67, Tryd.ntmps67
    go_wp2_with (first | (go_at_call 68; refine (ascending_any _ _ _ _ h).mono ?_; rintro e w' ⟨rfl, n, rfl⟩) | (go_at_call 69; refine (containsFunc1_any _ _ _ _ _ _ (h.drewN _) hp).mono ?_; rintro e w' ⟨rfl, rfl⟩))
    go_ret
    exact ⟨ret_bool hR.out.symm, _, rfl⟩

theorem indexFunc2_any (a : Option Addr) (cap : Nat) (xs : List (List Int)) (sites : Int) (p : Addr) (w : World) (h : Rows2 w a xs) (hp : w.cell? p = some (.int .i64 sites)) :
    Calls Tryd.prog 83 #[.slice a xs.length cap, .func (.func 67) #[] #[.pointer (some p)]] w fun e w' => e = .returned (.int .i64 (idxP (badRow sites) xs 0)) ∧ ∃ n, w' = w.drewN n := by
  have hm := h.len.le
  go_enter Tryd.func83, Tryd.ntmps83
  go_wp2
  go_loopg [8] xs.length (fun g i wr => ∃ n, wr = w.drewN n ∧ ∃ k : Nat, k ≤ xs.length ∧ g = xs.length - k ∧ i = .int .i64 k ∧ Hid (idxP (badRow sites) xs 0 = idxP (badRow sites) (xs.drop k) k))
  case atStart => exact ⟨0, rfl, 0, Nat.zero_le _, rfl, rfl, rfl⟩
  case round =>
    obtain ⟨n, rfl, k, hk, rfl, rfl, hn⟩ := hrel
    by_cases hlt : k < xs.length
    · obtain ⟨b, o, a', c', rfl, hc, hi⟩ := h.at_ k xs[k] (get_at hlt)
      go_wp2_with (go_at_call 67; refine (valid1_any _ _ _ _ _ _ (hi.drewN _) hp).mono ?_; rintro e w' ⟨rfl, m, rfl⟩)
      · have hq : badRow sites xs[k] = true := by assumption
        go_ret
        exact ⟨ret_int (by rw [hn.out, drop_at hlt, idxP, if_pos hq]), _, rfl⟩
      · have hq : badRow sites xs[k] = false := by assumption
        go_roundg (xs.length - (k + 1))
        case measure => omega
        case rel => exact ⟨_, rfl, k + 1, by omega, rfl, by go_num, by unfold Hid; rw [hn.out, drop_at hlt, idxP, if_neg (by rw [hq]; exact Bool.false_ne_true)]⟩
    · go_wp2
      go_ret
      exact ⟨ret_int (by rw [hn.out, drop_end hlt]; rfl), _, rfl⟩

theorem containsFunc2_any (a : Option Addr) (cap : Nat) (xs : List (List Int)) (sites : Int) (p : Addr) (w : World) (h : Rows2 w a xs) (hp : w.cell? p = some (.int .i64 sites)) :
    Calls Tryd.prog 66 #[.slice a xs.length cap, .func (.func 67) #[] #[.pointer (some p)]] w fun e w' => e = .returned (.bool (xs.any (badRow sites))) ∧ ∃ n, w' = w.drewN n := by
  go_enter Tryd.func66, Tryd.ntmps66
  go_wp2_with (go_at_call 83; refine (indexFunc2_any _ _ _ _ _ _ h hp).mono ?_; rintro e w' ⟨rfl, n, rfl⟩)
  go_ret
  exact ⟨ret_bool (idxP_any _ xs 0), _, rfl⟩

def validB (l : List (List Int)) (n sites : Int) : Bool := decide ((l.length : Int) = n) && !l.any (badRow sites)

theorem valid_any (a : Option Addr) (cap : Nat) (xs : List (List Int)) (m sites : Int) (w : World) (h : Rows2 w a xs) :
    Calls Tryd.prog 44 #[.slice a xs.length cap, .int .i64 m, .int .i64 sites] w fun e w' => e = .returned (.bool (validB xs m sites)) ∧ Below w.heap.size w w' := by
  have hmf : ∀ (fn : Fn) (first cap : Array Value) (w : World), (Instr.makeFunc fn first cap).run Tryd.prog w = .ok (.func fn first cap) w := fun _ _ _ _ => rfl
  by_cases hA : (xs.length : Int) = m
  · have hR : Hid (validB xs m sites = !xs.any (badRow sites)) := by unfold Hid validB; rw [decide_eq_true hA]; rfl
    have hq : ((xs.length : Int) == m) = true := by simpa using hA
    clear hA
    go_enter Tryd.func44, Tryd.ntmps44
    go_wp2_with (go_at_call 66; refine (containsFunc2_any _ _ _ sites _ _ (h.alloc _) (by simp)).mono ?_; rintro e w' ⟨rfl, n, rfl⟩)
    go_ret
    exact ⟨ret_bool hR.out.symm, below_drewN ((Below.refl _ _).alloc (Nat.le_refl _) _) _⟩
  · have hR : Hid (validB xs m sites = false) := by unfold Hid validB; rw [decide_eq_false hA]; rfl
    have hq : ((xs.length : Int) == m) = false := by simpa using hA
    clear hA
    go_enter Tryd.func44, Tryd.ntmps44
    go_wp2
    go_ret
    exact ⟨ret_bool hR.out.symm, (Below.refl _ _).alloc (Nat.le_refl _) _⟩

/-! ### slices.Equal, slices.EqualFunc -/
def eqL (a b : List Int) : Bool := decide (a = b)
def eqLL : List (List Int) → List (List Int) → Bool
  | [], [] => true
  | a :: l, b :: m => eqL a b && eqLL l m
  | _, _ => false
theorem eqLL_cons (a b : List Int) (l m : List (List Int)) : eqLL (a :: l) (b :: m) = (eqL a b && eqLL l m) := rfl
theorem eqLL_iff : ∀ (l m : List (List Int)), eqLL l m = true ↔ l = m
  | [], [] => by simp [eqLL]
  | [], _ :: _ => by simp [eqLL]
  | _ :: _, [] => by simp [eqLL]
  | a :: l, b :: m => by rw [eqLL_cons]; simp [eqL, eqLL_iff l m]
theorem eqL_len {a b : List Int} (h : a.length ≠ b.length) : eqL a b = false := by
  unfold eqL; simp; intro e; exact h (by rw [e])
theorem eqLL_len {a b : List (List Int)} (h : a.length ≠ b.length) : eqLL a b = false := by
  cases e : eqLL a b
  · rfl
  · rw [eqLL_iff] at e; exact absurd (by rw [e]) h
theorem eqL_cons (a b : Int) (l m : List Int) : eqL (a :: l) (b :: m) = (decide (a = b) && eqL l m) := by unfold eqL; simp

theorem equal_any (a1 a2 : Option Addr) (c1 c2 : Nat) (l m : List Int) (w : World) (h1 : Ints w a1 l) (h2 : Ints w a2 m) :
    Calls Tryd.prog 50 #[.slice a1 l.length c1, .slice a2 m.length c2] w fun e w' => e = .returned (.bool (eqL l m)) ∧ ∃ n, w' = w.drewN n := by
  have hm := h1.len.le
  by_cases he : l.length = m.length
  · have hcs : ((l.length : Int) != m.length) = false := by simp [he]
    have hlm : m.length ≤ l.length ∧ l.length ≤ m.length := by omega
    clear he
    go_enter Tryd.func50, Tryd.ntmps50
    go_wp2
    go_loopg [13] l.length (fun g i wr => ∃ n, wr = w.drewN n ∧ ∃ k : Nat, k ≤ l.length ∧ g = l.length - k ∧ i = .int .i64 k ∧ Hid (eqL l m = eqL (l.drop k) (m.drop k)))
    case atStart => exact ⟨0, rfl, 0, Nat.zero_le _, rfl, rfl, rfl⟩
    case round =>
      obtain ⟨n, rfl, k, hk, rfl, rfl, hn⟩ := hrel
      by_cases hlt : k < l.length
      · have hlt2 : k < m.length := by omega
        have hlt3 : (k : Int) < m.length := by omega
        obtain ⟨b, o, rfl, hc⟩ := h1.at_ k l[k] (get_at hlt)
        obtain ⟨b2, o2, rfl, hc2⟩ := h2.at_ k m[k] (get_at hlt2)
        go_wp2
        go_quiet (fail)
        go_wp2
        · have hq : ¬ l[k] = m[k] := by have h : (l[k] != m[k]) = true := by assumption
                                        simpa using h
          go_ret
          exact ⟨ret_bool (by rw [hn.out, drop_at hlt, drop_at hlt2, eqL_cons, decide_eq_false hq]; rfl), _, World.drewN_drewN _ _ _⟩
        · have hq : l[k] = m[k] := by have h : (l[k] != m[k]) = false := by assumption
                                      simpa using h
          go_roundg (l.length - (k + 1))
          case measure => omega
          case rel => exact ⟨_, rfl, k + 1, by omega, rfl, by go_num, by unfold Hid; rw [hn.out, drop_at hlt, drop_at hlt2, eqL_cons, decide_eq_true hq]; rfl⟩
      · go_wp2
        go_ret
        exact ⟨ret_bool (by rw [hn.out, drop_end hlt, drop_end (by omega)]; rfl), _, rfl⟩
  · have hcs : ((l.length : Int) != m.length) = true := by simp; omega
    have hR := Lib.hid (eqL_len he)
    clear he
    go_enter Tryd.func50, Tryd.ntmps50
    go_wp2
    go_ret
    exact ⟨ret_bool hR.out.symm, 0, rfl⟩

theorem derive1_any (a1 a2 : Option Addr) (c1 c2 : Nat) (l m : List Int) (w : World) (h1 : Ints w a1 l) (h2 : Ints w a2 m) :
    Calls Tryd.prog 49 #[.slice a1 l.length c1, .slice a2 m.length c2] w fun e w' => e = .returned (.bool (eqL l m)) ∧ ∃ n, w' = w.drewN n := by
  go_enter Tryd.func49, Tryd.ntmps49
  go_wp2_with (go_at_call 50; refine (equal_any _ _ _ _ _ _ _ h1 h2).mono ?_; rintro e w' ⟨rfl, n, rfl⟩)
  go_ret
  exact ⟨rfl, _, rfl⟩

theorem equalFunc_any (a1 a2 : Option Addr) (c1 c2 : Nat) (l m : List (List Int)) (w : World) (h1 : Rows2 w a1 l) (h2 : Rows2 w a2 m) :
    Calls Tryd.prog 51 #[.slice a1 l.length c1, .slice a2 m.length c2, .func (.func 49) #[] #[]] w fun e w' => e = .returned (.bool (eqLL l m)) ∧ ∃ n, w' = w.drewN n := by
  have hm := h1.len.le
  by_cases he : l.length = m.length
  · have hcs : ((l.length : Int) != m.length) = false := by simp [he]
    have hlm : m.length ≤ l.length ∧ l.length ≤ m.length := by omega
    clear he
    go_enter Tryd.func51, Tryd.ntmps51
    go_wp2
    go_loopg [17] l.length (fun g i wr => ∃ n, wr = w.drewN n ∧ ∃ k : Nat, k ≤ l.length ∧ g = l.length - k ∧ i = .int .i64 k ∧ Hid (eqLL l m = eqLL (l.drop k) (m.drop k)))
    case atStart => exact ⟨0, rfl, 0, Nat.zero_le _, rfl, rfl, rfl⟩
    case round =>
      obtain ⟨n, rfl, k, hk, rfl, rfl, hn⟩ := hrel
      by_cases hlt : k < l.length
      · have hlt2 : k < m.length := by omega
        have hlt3 : (k : Int) < m.length := by omega
        obtain ⟨b, o, a', c', rfl, hc, hi⟩ := h1.at_ k l[k] (get_at hlt)
        obtain ⟨b2, o2, a2', c2', rfl, hc2, hi2⟩ := h2.at_ k m[k] (get_at hlt2)
        go_wp2_with (go_at_call 49; refine (derive1_any _ _ _ _ _ _ _ (hi.drewN _) (hi2.drewN _)).mono ?_; rintro e w' ⟨rfl, n2, rfl⟩)
        · have hq : eqL l[k] m[k] = false := not_t (by assumption)
          go_ret
          exact ⟨ret_bool (by rw [hn.out, drop_at hlt, drop_at hlt2, eqLL_cons, hq]; rfl), _, rfl⟩
        · have hq : eqL l[k] m[k] = true := not_f (by assumption)
          go_roundg (l.length - (k + 1))
          case measure => omega
          case rel => exact ⟨_, rfl, k + 1, by omega, rfl, by go_num, by unfold Hid; rw [hn.out, drop_at hlt, drop_at hlt2, eqLL_cons, hq]; rfl⟩
      · go_wp2
        go_ret
        exact ⟨ret_bool (by rw [hn.out, drop_end hlt, drop_end (by omega)]; rfl), _, rfl⟩
  · have hcs : ((l.length : Int) != m.length) = true := by simp; omega
    have hR := Lib.hid (eqLL_len he)
    clear he
    go_enter Tryd.func51, Tryd.ntmps51
    go_wp2
    go_ret
    exact ⟨ret_bool hR.out.symm, 0, rfl⟩
end Go.Proofs.YtcfiohphjlohhaaDoor
