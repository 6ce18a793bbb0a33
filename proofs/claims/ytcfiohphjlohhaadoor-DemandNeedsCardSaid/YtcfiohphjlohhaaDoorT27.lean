/- The program's solver is made: sets. -/
import Derived.Test.YtcfiohphjlohhaaDoorT26
import Derived.Test.YtcfiohphjlohhaaDoorT15
namespace Go.Proofs.YtcfiohphjlohhaaDoor
open Go.RowKit

theorem info88 : (Tryd.prog.info? 88).map (fun i => (i.zero, i.size, i.bytes)) = some (some (.slice none 0 0), 1, 24) := by kernel_rfl
theorem info99 : (Tryd.prog.info? 99).map (fun i => (i.zero, i.size, i.bytes)) = some (some (.int .u64 0), 1, 8) := by kernel_rfl

/-- N slices of c elements, of which k are laid -/
def rowsArr (B c N k : Nat) : Array Value := ((List.range N).map fun i => if i < k then Value.slice (some ⟨B + i, 0, none⟩) c c else Value.slice none 0 0).toArray
theorem rowsArr_at {B c N k i : Nat} (h : i < N) : (rowsArr B c N k)[i]? = some (if i < k then Value.slice (some ⟨B + i, 0, none⟩) c c else Value.slice none 0 0) := by
  unfold rowsArr; simp [h]
theorem rowsArr_none {B c N k i : Nat} (h : ¬ i < N) : (rowsArr B c N k)[i]? = none := by
  unfold rowsArr; simp; omega
theorem rowsArr_size (B c N k : Nat) : (rowsArr B c N k).size = N := by unfold rowsArr; simp
theorem rowsArr_set {B c N k : Nat} (h : k < N) : (rowsArr B c N k).setIfInBounds k (.slice (some ⟨B + k, 0, none⟩) c c) = rowsArr B c N (k + 1) := by
  apply Array.ext_getElem?
  intro i
  rw [Array.getElem?_setIfInBounds]
  by_cases hi : i < N
  · rw [rowsArr_at hi, rowsArr_at hi, rowsArr_size]
    by_cases e : k = i
    · subst e; simp [h]
    · rw [if_neg e]
      by_cases h2 : i < k
      · rw [if_pos h2, if_pos (by omega)]
      · rw [if_neg h2, if_neg (by omega)]
  · rw [rowsArr_none hi, rowsArr_none hi, if_neg (by omega)]
theorem made_rows (B c N : Nat) : madeCells #[.slice none 0 0] N = rowsArr B c N 0 := by
  apply Array.ext_getElem?
  intro i
  unfold madeCells rowsArr
  by_cases h : i < N
  · simp [h, Nat.mod_one]
  · simp [h]
theorem mask_none (n : Nat) : mask n (fun _ => false) = 0 := by
  induction n with
  | zero => rfl
  | succ n ih => simp [mask, ih]
theorem made_words (n : Nat) : madeCells #[.int .u64 0] (wd n) = setCells n fun _ => false := by
  unfold wd setCells
  rw [mask_none]
  by_cases h : n = 0
  · rw [if_pos h, if_pos h]; simp [madeCells]
  · rw [if_neg h, if_neg h]; unfold madeCells; rw [show Array.range 1 = #[0] from by decide +kernel]; simp
theorem wd_le (n : Nat) : wd n ≤ 1 := by unfold wd; split <;> omega
theorem make_rows (B c : Nat) {N : Nat} (h : N ≤ 200000) (w : World) :
    (Instr.makeSlice 75 (.int .i64 N) (.int .i64 N)).run Tryd.prog w = .ok (.slice (some ⟨w.heap.size, 0, none⟩) N N) (w.alloc (.cells (rowsArr B c N 0) 88)) := by
  rw [← made_rows]
  exact run_make_row' (P := Tryd.prog) 75 88 (.slice none 0 0) 24 Tryd.underlying75 info88 rfl .i64 .i64 N (by omega) (by omega) w
theorem make_words (n : Nat) (w : World) :
    (Instr.makeSlice 88 (.int .i64 (wd n)) (.int .i64 (wd n))).run Tryd.prog w = .ok (.slice (some ⟨w.heap.size, 0, none⟩) (wd n) (wd n)) (w.alloc (.cells (setCells n fun _ => false) 99)) := by
  rw [← made_words]
  have := wd_le n
  exact run_make_row' (P := Tryd.prog) 88 99 (.int .u64 0) 8 Tryd.underlying88 info99 rfl .i64 .i64 (wd n) (by omega) (by omega) w

/-- the rows that 'sets' lays -/
structure Sets (B n N k : Nat) (w w' : World) : Prop where
  below : Below B w w'
  size : w'.heap.size = B + 1 + k
  arr : Blk w' B 88 (rowsArr (B + 1) (wd n) N k)
  rows : ∀ i, i < k → Blk w' (B + 1 + i) 99 (setCells n fun _ => false)
theorem Sets.start (n N : Nat) (w : World) : Sets w.heap.size n N 0 w (w.alloc (.cells (rowsArr (w.heap.size + 1) (wd n) N 0) 88)) :=
  ⟨(Below.refl _ _).alloc (Nat.le_refl _) _, by simp, Blk.new _ _ _, fun i hi => by omega⟩
theorem Sets.step {B n N k : Nat} {w w' : World} (h : Sets B n N k w w') (hk : k < N) (hB : B ≤ w.heap.size) :
    Sets B n N (k + 1) w ((w'.alloc (.cells (setCells n fun _ => false) 99)).setCell ⟨B, k, none⟩ (.slice (some ⟨B + 1 + k, 0, none⟩) (wd n) (wd n))) := by
  have hB' : B ≤ w'.heap.size := by rw [h.size]; omega
  refine ⟨(h.below.alloc hB' _).setCell (p := ⟨B, k, none⟩) (Nat.le_refl _) _, ?_, ?_, fun i hi => ?_⟩
  · simp [World.setCell, h.size]; omega
  · have := (h.arr.below ((Below.refl _ _).alloc (Nat.le_refl _) (.cells (setCells n fun _ => false) 99))).set_ k (.slice (some ⟨B + 1 + k, 0, none⟩) (wd n) (wd n))
    rw [rowsArr_set hk] at this
    exact this
  · refine Blk.far ?_ (p := ⟨B, k, none⟩) (by simp; omega) _
    by_cases e : i = k
    · subst e
      have := Blk.new w' 99 (setCells n fun _ => false)
      rw [h.size] at this
      exact this
    · exact (h.rows i (by omega)).below ((Below.refl _ _).alloc (Nat.le_refl _) _)

set_option maxRecDepth 100000 in
theorem sets2_any (S n N : Nat) (w : World) (hN : N ≤ 200000) (hc : w.cell? ⟨S, 4, none⟩ = some (.int .i64 (wd n))) :
    Calls Tryd.prog 59 #[.pointer (some ⟨S, 0, none⟩), .int .i64 N] w fun e w' => e = .returned (.slice (some ⟨w.heap.size, 0, none⟩) N N) ∧ Sets w.heap.size n N N w w' := by
  have hm1 := make_rows (w.heap.size + 1) (wd n) hN
  have hm2 := make_words n
  have HS := Lib.hid (Sets.start n N w)
  go_enter Tryd.func59, Tryd.ntmps59
  go_wp2
  go_loopg [6, 11] N (fun g v i wr => ∃ k : Nat, k ≤ N ∧ g = N - k ∧ i = .int .i64 k ∧ Hid (Sets w.heap.size n N k w wr))
  case atStart => exact ⟨0, Nat.zero_le _, rfl, rfl, HS⟩
  case round =>
    obtain ⟨k, hk, rfl, rfl, hT⟩ := hrel
    have hsz := hT.out.size
    by_cases hlt : k < N
    · have c4 : wr.cell? ⟨S, 4, none⟩ = some (.int .i64 (wd n)) := cell_keep hT.out.below hc
      have hbk := hT.out.arr.below ((Below.refl _ _).alloc (Nat.le_refl _) (.cells (setCells n fun _ => false) 99))
      have hz : (wr.alloc (.cells (setCells n fun _ => false) 99)).frozen? ⟨w.heap.size, k, none⟩ = false := hbk.frozen k
      have hcc : (wr.alloc (.cells (setCells n fun _ => false) 99)).cell? ⟨w.heap.size, k, none⟩ = some (if k < k then Value.slice (some ⟨w.heap.size + 1 + k, 0, none⟩) (wd n) (wd n) else Value.slice none 0 0) := (hbk.cell k).trans (rowsArr_at hlt)
      rw [if_neg (Nat.lt_irrefl k)] at hcc
      clear hbk
      go_wp2
      go_roundg (N - (k + 1))
      case measure => omega
      case rel => exact ⟨k + 1, hlt, rfl, by go_num, hT.out.step hlt (Nat.le_refl _)⟩
    · go_wp2
      obtain rfl : k = N := by omega
      go_ret
      exact ⟨rfl, hT.out⟩
end Go.Proofs.YtcfiohphjlohhaaDoor
