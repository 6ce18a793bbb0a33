/- set.each: the elements of a set, one by one. -/
import Derived.Test.YtcfiohphjlohhaaDoorT22
namespace Go.Proofs.YtcfiohphjlohhaaDoor
open Go.RowKit

def bitsOf (x : Nat) : List Nat := (List.range 12).filter fun k => x.testBit k
theorem bits_chk : (List.range 4096).all (fun x => x == 0 || (bitsOf x == ctz x :: bitsOf (x &&& (x - 1)) && decide ((x &&& (x - 1)) < x))) = true := by decide +kernel
theorem bits_step {x : Nat} (hx : x < 4096) (h0 : 0 < x) : bitsOf x = ctz x :: bitsOf (x &&& (x - 1)) ∧ (x &&& (x - 1)) < x := by
  have h := List.all_eq_true.1 bits_chk x (List.mem_range.2 hx)
  have hne : (x == 0) = false := by simp; omega
  simp only [hne, Bool.false_or, Bool.and_eq_true, beq_iff_eq, decide_eq_true_eq] at h
  exact h
theorem bits_zero : bitsOf 0 = [] := by decide
theorem mem_bits {n x : Nat} {f : Nat → Bool} (hn : n ≤ 12) : x ∈ bitsOf (mask n f) ↔ x < n ∧ f x = true := by
  unfold bitsOf
  rw [List.mem_filter, List.mem_range, mask_bit]
  simp only [Bool.and_eq_true, decide_eq_true_eq]
  constructor
  · rintro ⟨_, h⟩; exact h
  · rintro ⟨h1, h2⟩; exact ⟨by omega, h1, h2⟩
theorem sub_one_word {x : Nat} (hx : x < 4096) (h0 : 0 < x) : bits .and .u64 (x : Int) ((x : Int) - 1) = ((x &&& (x - 1) : Nat) : Int) := by
  rw [show ((x : Int) - 1) = ((x - 1 : Nat) : Int) by omega, u64_and_nat _ _ (by omega) (by omega)]

set_option maxRecDepth 100000 in
theorem each_any3 {σ : Type} (F : FuncId) (p1 p2 p3 : Value) (step : σ → Nat → σ) (I : σ → World → Prop) (n r : Nat) (f : Nat → Bool) (st : σ) (w : World) (hB : Blk w r 99 (setCells n f)) (hn : n ≤ 12) (hI : I st w)
    (hcf : ∀ args w, Sem.run Tryd.prog (callFunc F args) w = .ok (.enter F args) w) (hT : ∀ st w, I st w → TzMem w) (hF : ∀ st w (x : Nat), x < n → f x = true → I st w → Calls Tryd.prog F #[.int .i64 x, p1, p2, p3] w fun e w' => e = .returned (.tuple #[]) ∧ I (step st x) w') :
    Calls Tryd.prog 81 #[.slice (some ⟨r, 0, none⟩) (wd n) (wd n), .func (.func F) #[] #[p1, p2, p3]] w fun e w' => e = .returned (.tuple #[]) ∧ I ((bitsOf (mask n f)).foldl step st) w' := by
  by_cases hn0 : 0 < n
  · rw [wd_pos hn0]
    rw [setCells_pos _ hn0] at hB
    have c0 : w.cell? ⟨r, 0, none⟩ = some (.int .u64 (mask n f)) := hB.cell 0
    have HM := Lib.hid (mask_lt12 f hn)
    have HI := Lib.hid hI
    clear hI
    go_enter Tryd.func81, Tryd.ntmps81
    go_wp2
    go_loopg [8] 1 (fun g i wr => (g = 1 ∧ i = .int .i64 0 ∧ wr = w) ∨ (g = 0 ∧ i = .int .i64 1 ∧ Hid (I ((bitsOf (mask n f)).foldl step st) wr)))
    case atStart => exact .inl ⟨rfl, rfl, rfl⟩
    case round =>
      rcases hrel with ⟨rfl, rfl, rfl⟩ | ⟨rfl, rfl, hE⟩
      · go_wp2
        go_loopg [5] (mask n f) (fun g i wq => ∃ (x : Nat) (s' : σ), g = x ∧ x < 4096 ∧ i = .int .u64 x ∧ Hid (I s' wq) ∧ Hid ((bitsOf (mask n f)).foldl step st = (bitsOf x).foldl step s') ∧ Hid (∀ y, y ∈ bitsOf x → y < n ∧ f y = true))
        case atStart => exact ⟨mask n f, st, rfl, HM.out, rfl, HI, rfl, fun y hy => (mem_bits hn).1 hy⟩
        case round =>
          obtain ⟨x, s', hg, hx, rfl, hI, hE, hA⟩ := hrel
          by_cases h0 : x = 0
          · subst h0
            rw [bits_zero] at hE
            go_wp2
            go_roundg 0
            case measure => omega
            case rel => exact .inr ⟨rfl, rfl, by unfold Hid; rw [hE.out]; exact hI.out⟩
          · have h1 : 0 < x := by omega
            obtain ⟨b1, b2⟩ := bits_step hx h1
            have hne : ((x : Int) != 0) = true := by simp; omega
            have hmem := hA.out (ctz x) (by rw [b1]; exact List.mem_cons_self)
            have hw := sub_one_word hx h1
            have hc := (tz_spec hx h1).2.2.2.2.2
            have hc2 : ((ctz x : Nat) : Int) < 12 := by omega
            go_wp2_with (first | (go_at_call 89; refine (tz_any x _ hx h1 (hT _ _ hI.out)).mono ?_; rintro e w' ⟨rfl, rfl⟩) | (refine (hF s' _ (ctz x) hmem.1 hmem.2 hI.out).mono ?_; rintro e w' ⟨rfl, hI2⟩))
            go_roundg (x &&& (x - 1))
            case measure => omega
            case rel => exact ⟨_, _, rfl, by omega, rfl, hI2, hE.out.trans (by rw [b1, List.foldl_cons]), fun y hy => hA.out y (by rw [b1]; exact List.mem_cons_of_mem _ hy)⟩
      · go_wp2
        go_end0
        exact ⟨rfl, hE.out⟩
  · obtain rfl : n = 0 := by omega
    have HI := Lib.hid hI
    clear hI
    rw [show wd 0 = 0 from rfl]
    go_enter Tryd.func81, Tryd.ntmps81
    go_wp2
    go_loopg [8] 1 (fun g i wr => i = .int .i64 0 ∧ wr = w)
    case atStart => exact ⟨rfl, rfl⟩
    case round =>
      obtain ⟨rfl, rfl⟩ := hrel
      go_wp2
      go_end0
      exact ⟨rfl, by rw [show mask 0 f = 0 from rfl, bits_zero]; exact HI.out⟩
theorem cf86 : ∀ args w, Sem.run Tryd.prog (callFunc 86 args) w = .ok (.enter 86 args) w := fun _ _ => rfl
theorem cf87 : ∀ args w, Sem.run Tryd.prog (callFunc 87 args) w = .ok (.enter 87 args) w := fun _ _ => rfl
theorem cf82 : ∀ args w, Sem.run Tryd.prog (callFunc 82 args) w = .ok (.enter 82 args) w := fun _ _ => rfl
end Go.Proofs.YtcfiohphjlohhaaDoor
