/- The program's sets of sites: put, join. -/
import Derived.Test.YtcfiohphjlohhaaDoorM1
import Derived.Laws.BitsAllLaws
import Derived.Laws.ShiftsVarLaws
namespace Go.Proofs.YtcfiohphjlohhaaDoor
open Go.RowKit

/-- the word of a set of sites below n -/
def mask : Nat → (Nat → Bool) → Nat
  | 0, _ => 0
  | k + 1, f => mask k f + (if f k = true then 2 ^ k else 0)
theorem mask_lt (f : Nat → Bool) : ∀ n, mask n f < 2 ^ n
  | 0 => by simp [mask]
  | k + 1 => by
    have := mask_lt f k
    unfold mask
    rw [Nat.pow_succ]
    split <;> omega
theorem mask_lt12 {n : Nat} (f : Nat → Bool) (h : n ≤ 12) : mask n f < 4096 := Nat.lt_of_lt_of_le (mask_lt f n) (Nat.pow_le_pow_right (by omega) h)
theorem mask_bit (f : Nat → Bool) : ∀ n i, (mask n f).testBit i = (decide (i < n) && f i)
  | 0, i => by simp [mask]
  | k + 1, i => by
    have h := mask_lt f k
    have ih := mask_bit f k i
    unfold mask
    by_cases hf : f k = true
    · rw [if_pos hf]
      by_cases e : i = k
      · subst e
        rw [Nat.add_comm, Nat.testBit_two_pow_add_eq, Nat.testBit_lt_two_pow h, hf]
        simp
      · by_cases hlt : i < k
        · rw [Nat.add_comm, Nat.testBit_two_pow_add_gt hlt, ih]
          simp [hlt, Nat.lt_succ_of_lt hlt]
        · have h2 : mask k f + 2 ^ k < 2 ^ i := by
            have : 2 ^ (k + 1) ≤ 2 ^ i := Nat.pow_le_pow_right (by omega) (by omega)
            rw [Nat.pow_succ] at this
            omega
          rw [Nat.testBit_lt_two_pow h2]
          simp; intro h3; omega
    · rw [if_neg hf, Nat.add_zero, ih]
      by_cases e : i = k
      · subst e; simp at hf; simp [hf]
      · have : decide (i < k + 1) = decide (i < k) := by
          by_cases hlt : i < k
          · simp [hlt, Nat.lt_succ_of_lt hlt]
          · simp [hlt]; omega
        rw [this]
theorem mask_congr {n : Nat} {f g : Nat → Bool} (h : ∀ x, x < n → f x = g x) : mask n f = mask n g := by
  apply Nat.eq_of_testBit_eq
  intro i
  rw [mask_bit, mask_bit]
  by_cases hi : i < n
  · rw [h i hi]
  · simp [hi]
theorem mask_inj {n : Nat} {f g : Nat → Bool} (h : mask n f = mask n g) : ∀ x, x < n → f x = g x := fun x hx => by
  have h1 := mask_bit f n x
  rw [h, mask_bit] at h1
  simpa [hx] using h1.symm
theorem mask_or (n : Nat) (f g : Nat → Bool) : mask n f ||| mask n g = mask n fun x => f x || g x := by
  apply Nat.eq_of_testBit_eq
  intro i
  rw [Nat.testBit_or, mask_bit, mask_bit, mask_bit]
  cases decide (i < n) <;> simp
theorem mask_put {n x : Nat} (f : Nat → Bool) (h : x < n) : mask n f ||| 2 ^ x = mask n fun y => if y = x then true else f y := by
  apply Nat.eq_of_testBit_eq
  intro i
  rw [Nat.testBit_or, mask_bit, mask_bit, Nat.testBit_two_pow]
  by_cases e : i = x
  · subst e; simp [h]
  · simp [e, Ne.symm e]

theorem bne_nat (a b : Nat) : ((a : Int) != (b : Int)) = !decide (a = b) := by
  by_cases h : a = b
  · subst h; simp
  · rw [decide_eq_false h]
    simp; omega
theorem wrap_pow {y : Nat} (h : y ≤ 12) : IntKind.u64.wrap (2 ^ y) = ((2 ^ y : Nat) : Int) := by
  have h2 : 2 ^ y ≤ 2 ^ 12 := Nat.pow_le_pow_right (by omega) h
  have h3 : (2 : Int) ^ y = ((2 ^ y : Nat) : Int) := by norm_cast
  rw [IntKind.wrap_u64, h3]
  generalize 2 ^ y = p at *
  omega
/-- the number of words of a set -/
def wd (n : Nat) : Nat := if n = 0 then 0 else 1
/-- the words of a set -/
def setCells (n : Nat) (f : Nat → Bool) : Array Value := if n = 0 then #[] else #[.int .u64 (mask n f)]
theorem wd_pos {n : Nat} (h : 0 < n) : wd n = 1 := if_neg (by omega)
theorem setCells_pos {n : Nat} (f : Nat → Bool) (h : 0 < n) : setCells n f = #[.int .u64 (mask n f)] := if_neg (by omega)
theorem setCells_congr {n : Nat} {f g : Nat → Bool} (h : ∀ x, x < n → f x = g x) : setCells n f = setCells n g := by unfold setCells; rw [mask_congr h]

/-- what a write to one set leaves -/
def SetPost (w : World) (r n : Nat) (g : Nat → Bool) (b : Bool) (e : Ending) (w' : World) : Prop := e = .returned (.bool b) ∧ Only (· = r) w w' ∧ Blk w' r 99 (setCells n g)

set_option maxRecDepth 100000 in
theorem setput_any (r n : Nat) (f : Nat → Bool) (x : Int) (w : World) (hb : Blk w r 99 (setCells n f)) (hn : n ≤ 12) (x0 : 0 ≤ x) (x1 : x < n) :
    Calls Tryd.prog 72 #[.slice (some ⟨r, 0, none⟩) (wd n) (wd n), .int .i64 x] w (SetPost w r n (fun y => if y = x.toNat then true else f y) (!f x.toNat)) := by
  have hn0 : 0 < n := by omega
  obtain ⟨y, rfl⟩ : ∃ y : Nat, x = y := ⟨x.toNat, by omega⟩
  rw [wd_pos hn0]
  rw [setCells_pos _ hn0] at hb
  have hM := mask_lt12 f hn
  have hy : y < n := by omega
  have h2y : 2 ^ y < 4096 + 1 := Nat.lt_succ_of_le (Nat.pow_le_pow_right (n := 2) (by omega) (show y ≤ 12 by omega))
  have hor : bits .or .u64 ((mask n f : Nat) : Int) (IntKind.u64.wrap (2 ^ y)) = ((mask n (fun z => if z = y then true else f z) : Nat) : Int) := by
    rw [wrap_pow (by omega), u64_or_nat _ _ (by omega) (by omega), mask_put f hy]
  have hne : ((((mask n (fun z => if z = y then true else f z) : Nat) : Int) != ((mask n f : Nat) : Int))) = !f y := by
    rw [bne_nat]
    cases hf : f y
    · rw [decide_eq_false]
      intro e
      have := mask_inj e y hy
      rw [if_pos rfl, hf] at this; cases this
    · rw [decide_eq_true]
      exact mask_congr fun z _ => by
        by_cases e : z = y
        · rw [if_pos e, e, hf]
        · rw [if_neg e]
  have c0 : w.cell? ⟨r, 0, none⟩ = some (.int .u64 (mask n f)) := hb.cell 0
  have f0 : w.frozen? ⟨r, 0, none⟩ = false := hb.frozen 0
  have hx2 : (y : Int) < 12 := by omega
  have d1 : (y : Int) / 64 = 0 := by omega
  have d2 : (y : Int) % 64 = y := by omega
  have HB := Lib.hid hb
  have HNE := Lib.hid hne
  have HOR := Lib.hid hor
  have HN := Lib.hid (And.intro hn0 hy)
  clear hb hne hor hM h2y hn0 hy x1 hn
  go_enter Tryd.func72, Tryd.ntmps72
  go_wp2
  go_region
  all_goals go_wp2
  all_goals go_ret
  all_goals
    refine ⟨ret_bool ?_, ?_, ?_⟩
    · rw [HOR.out]; exact HNE.out
    · exact ((Only.refl (· = r) w).setCell (p := ⟨r, 0, none⟩) (.inl rfl) _).drew
    · rw [HOR.out, setCells_pos _ HN.out.1]
      have := HB.out.set_ 0 (.int .u64 ((mask n (fun z => if z = y then true else f z) : Nat) : Int))
      exact this

/-- does b bring a new site to a? -/
def joinNew (n : Nat) (fa fb : Nat → Bool) : Bool := !decide (mask n (fun y => fa y || fb y) = mask n fa)

set_option maxRecDepth 100000 in
theorem join_zero (ra rb : Nat) (fa fb : Nat → Bool) (w : World) (ha : Blk w ra 99 (setCells 0 fa)) :
    Calls Tryd.prog 85 #[.slice (some ⟨ra, 0, none⟩) 0 0, .slice (some ⟨rb, 0, none⟩) 0 0] w (SetPost w ra 0 (fun y => fa y || fb y) (joinNew 0 fa fb)) := by
  go_enter Tryd.func85, Tryd.ntmps85
  go_wp2
  refine wp_loop_rounds 1 ?_
  rw [rounds_succ]
  go_wp2
  go_ret
  exact ⟨ret_bool rfl, Only.refl _ _, ha⟩

set_option maxRecDepth 100000 in
theorem join_pos (ra rb n : Nat) (fa fb : Nat → Bool) (w : World) (ha : Blk w ra 99 #[.int .u64 (mask n fa)]) (hb : Blk w rb 99 #[.int .u64 (mask n fb)]) (hn : n ≤ 12) (hn0 : 0 < n) :
    Calls Tryd.prog 85 #[.slice (some ⟨ra, 0, none⟩) 1 1, .slice (some ⟨rb, 0, none⟩) 1 1] w (SetPost w ra n (fun y => fa y || fb y) (joinNew n fa fb)) := by
  have hA := mask_lt12 fa hn
  have hB := mask_lt12 fb hn
  have hor : bits .or .u64 ((mask n fa : Nat) : Int) ((mask n fb : Nat) : Int) = ((mask n (fun y => fa y || fb y) : Nat) : Int) := by
    rw [u64_or_nat _ _ (by omega) (by omega), mask_or]
  have hne := bne_nat (mask n (fun y => fa y || fb y)) (mask n fa)
  have c0 : w.cell? ⟨ra, 0, none⟩ = some (.int .u64 (mask n fa)) := ha.cell 0
  have f0 : w.frozen? ⟨ra, 0, none⟩ = false := ha.frozen 0
  have c1 : w.cell? ⟨rb, 0, none⟩ = some (.int .u64 (mask n fb)) := hb.cell 0
  have HA := Lib.hid ha
  have HC := Lib.hid (setCells_pos (fun y => fa y || fb y) hn0)
  have HC0 := Lib.hid (setCells_pos fa hn0)
  have HN := Lib.hid hn0
  clear ha hb hA hB hn hn0
  go_enter Tryd.func85, Tryd.ntmps85
  go_wp2
  go_loopg [5, 10] 2 (fun g v i wr => (g = 2 ∧ i = .int .i64 0 ∧ v = .bool false ∧ w = wr) ∨ (g = 1 ∧ i = .int .i64 1 ∧ v = .bool (joinNew n fa fb) ∧ Hid (Only (· = ra) w wr) ∧ Hid (Blk wr ra 99 (setCells n fun y => fa y || fb y))))
  case atStart => exact .inl ⟨rfl, rfl, rfl, rfl⟩
  case round =>
    rcases hrel with ⟨rfl, rfl, rfl, rfl⟩ | ⟨rfl, rfl, rfl, hO, hBk⟩
    · cases hj : joinNew n fa fb
      · have hj2 : (((mask n (fun y => fa y || fb y) : Nat) : Int) != ((mask n fa : Nat) : Int)) = false := by rw [hne]; exact hj
        have hm : Hid (mask n (fun y => fa y || fb y) = mask n fa) := by
          unfold Hid joinNew at *
          simpa using hj
        clear hne
        go_wp2
        go_quiet (fail)
        go_wp2
        go_roundg 1
        case measure => omega
        case rel => exact .inr ⟨rfl, rfl, by rw [hj], (Only.refl _ _).drewN _, by unfold Hid; rw [HC.out, hm.out]; exact HA.out⟩
      · have hj2 : (((mask n (fun y => fa y || fb y) : Nat) : Int) != ((mask n fa : Nat) : Int)) = true := by rw [hne]; exact hj
        clear hne
        go_wp2
        go_quiet (fail)
        go_wp2
        go_roundg 1
        case measure => omega
        case rel => exact .inr ⟨rfl, rfl, by rw [hj], ((Only.refl (· = ra) w).drewN nq).setCell (p := ⟨ra, 0, none⟩) (.inl rfl) _, by
          unfold Hid; rw [HC.out]; exact Blk.set_ (w := w.drewN nq) HA.out 0 _⟩
    · clear c0 c1 f0 hne hor
      go_wp2
      go_ret
      exact ⟨ret_bool rfl, hO, hBk⟩

theorem join_any (ra rb n : Nat) (fa fb : Nat → Bool) (w : World) (ha : Blk w ra 99 (setCells n fa)) (hb : Blk w rb 99 (setCells n fb)) (hn : n ≤ 12) :
    Calls Tryd.prog 85 #[.slice (some ⟨ra, 0, none⟩) (wd n) (wd n), .slice (some ⟨rb, 0, none⟩) (wd n) (wd n)] w (SetPost w ra n (fun y => fa y || fb y) (joinNew n fa fb)) := by
  by_cases h : n = 0
  · subst h; exact join_zero ra rb fa fb w ha
  · have h0 : 0 < n := by omega
    rw [wd_pos h0]
    rw [setCells_pos _ h0] at ha hb
    exact join_pos ra rb n fa fb w ha hb hn h0
end Go.Proofs.YtcfiohphjlohhaaDoor
