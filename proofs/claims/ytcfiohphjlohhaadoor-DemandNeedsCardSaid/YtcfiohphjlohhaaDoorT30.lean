/- set.each once more: the elements as a list. -/
import Derived.Test.YtcfiohphjlohhaaDoorT23
import Derived.Test.YtcfiohphjlohhaaDoorT14
namespace Go.Proofs.YtcfiohphjlohhaaDoor
open Go.RowKit

theorem bits_len (x : Nat) : (bitsOf x).length ≤ 12 := by
  unfold bitsOf; have := List.length_filter_le (fun k => x.testBit k) (List.range 12); simpa using this
theorem bits_pre {n : Nat} (f : Nat → Bool) (h : n ≤ 12) : (bitsOf (mask n f)).map Int.ofNat = pre f n := by
  unfold bitsOf pre
  obtain ⟨d, hd⟩ : ∃ d, 12 = n + d := ⟨12 - n, by omega⟩
  rw [hd, List.range_add, List.filter_append]
  have h1 : (List.range n).filter (fun k => (mask n f).testBit k) = (List.range n).filter f := List.filter_congr fun x hx => by
    rw [mask_bit]; have := List.mem_range.1 hx; simp [this]
  have h2 : ((List.range d).map (n + ·)).filter (fun k => (mask n f).testBit k) = [] := List.filter_eq_nil_iff.2 fun x hx => by
    rw [mask_bit]
    obtain ⟨y, _, rfl⟩ := List.mem_map.1 hx
    have : ¬ n + y < n := by omega
    simp [this]
  rw [h1, h2, List.append_nil]

set_option maxRecDepth 100000 in
theorem each_any2 (F : FuncId) (p1 p2 : Value) (I : List Nat → World → Prop) (n r : Nat) (f : Nat → Bool) (w : World) (hB : Blk w r 99 (setCells n f)) (hn : n ≤ 12) (hI : I [] w)
    (hcf : ∀ args w, Sem.run Tryd.prog (callFunc F args) w = .ok (.enter F args) w) (hT : ∀ p w, I p w → TzMem w) (hF : ∀ p x q w, bitsOf (mask n f) = p ++ x :: q → I p w → Calls Tryd.prog F #[.int .i64 (x : Nat), p1, p2] w fun e w' => e = .returned (.tuple #[]) ∧ I (p ++ [x]) w') :
    Calls Tryd.prog 81 #[.slice (some ⟨r, 0, none⟩) (wd n) (wd n), .func (.func F) #[] #[p1, p2]] w fun e w' => e = .returned (.tuple #[]) ∧ I (bitsOf (mask n f)) w' := by
  by_cases hn0 : 0 < n
  · rw [wd_pos hn0]
    rw [setCells_pos _ hn0] at hB
    have c0 : w.cell? ⟨r, 0, none⟩ = some (.int .u64 (mask n f)) := hB.cell 0
    have HM := Lib.hid (mask_lt12 f hn)
    have HI := Lib.hid hI
    clear hI
    go_enter Tryd.func81, Tryd.ntmps81
    go_wp2
    go_loopg [8] 1 (fun g i wr => (g = 1 ∧ i = .int .i64 0 ∧ wr = w) ∨ (g = 0 ∧ i = .int .i64 1 ∧ Hid (I (bitsOf (mask n f)) wr)))
    case atStart => exact .inl ⟨rfl, rfl, rfl⟩
    case round =>
      rcases hrel with ⟨rfl, rfl, rfl⟩ | ⟨rfl, rfl, hE⟩
      · go_wp2
        go_loopg [5] (mask n f) (fun g i wq => ∃ (x : Nat) (p : List Nat), g = x ∧ x < 4096 ∧ i = .int .u64 x ∧ Hid (I p wq) ∧ Hid (bitsOf (mask n f) = p ++ bitsOf x))
        case atStart => exact ⟨mask n f, [], rfl, HM.out, rfl, HI, rfl⟩
        case round =>
          obtain ⟨x, p, hg, hx, rfl, hI, hE⟩ := hrel
          by_cases h0 : x = 0
          · subst h0
            rw [bits_zero, List.append_nil] at hE
            go_wp2
            go_roundg 0
            case measure => omega
            case rel => exact .inr ⟨rfl, rfl, by unfold Hid; rw [hE.out]; exact hI.out⟩
          · have h1 : 0 < x := by omega
            obtain ⟨b1, b2⟩ := bits_step hx h1
            have hne : ((x : Int) != 0) = true := by simp; omega
            have hw := sub_one_word hx h1
            have hc := (tz_spec hx h1).2.2.2.2.2
            have hc2 : ((ctz x : Nat) : Int) < 12 := by omega
            have hE2 : Hid (bitsOf (mask n f) = p ++ ctz x :: bitsOf (x &&& (x - 1))) := by unfold Hid; rw [hE.out, b1]
            go_wp2_with (first | (go_at_call 89; refine (tz_any x _ hx h1 (hT _ _ hI.out)).mono ?_; rintro e w' ⟨rfl, rfl⟩) | (refine (hF p (ctz x) _ _ hE2.out hI.out).mono ?_; rintro e w' ⟨rfl, hI2⟩))
            go_roundg (x &&& (x - 1))
            case measure => omega
            case rel => exact ⟨_, _, rfl, by omega, rfl, hI2, hE2.out.trans (by simp)⟩
      · go_wp2
        go_end0
        exact ⟨rfl, hE.out⟩
  · obtain rfl : n = 0 := by omega
    have HI := Lib.hid hI
    clear hI
    rw [show wd 0 = 0 from rfl]
    go_enter Tryd.func81, Tryd.ntmps81
    go_wp2
    go_loopg [8] 1 (fun g i wr => i = .int .i64 0 ∧ wr = w)
    case atStart => exact ⟨rfl, rfl⟩
    case round =>
      obtain ⟨rfl, rfl⟩ := hrel
      go_wp2
      go_end0
      exact ⟨rfl, by rw [show mask 0 f = 0 from rfl, bits_zero]; exact HI.out⟩
end Go.Proofs.YtcfiohphjlohhaaDoor
