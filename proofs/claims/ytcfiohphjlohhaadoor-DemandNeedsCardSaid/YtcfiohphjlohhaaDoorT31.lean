/- The program's solver: lists. -/
import Derived.Test.YtcfiohphjlohhaaDoorT29
import Derived.Test.YtcfiohphjlohhaaDoorT30
namespace Go.Proofs.YtcfiohphjlohhaaDoor
open Go.RowKit

theorem make_lists {N : Nat} (h : N ≤ 200000) (w : World) :
    (Instr.makeSlice 27 (.int .i64 N) (.int .i64 N)).run Tryd.prog w = .ok (.slice (some ⟨w.heap.size, 0, none⟩) N N) (w.alloc (.cells (rowsArr 0 0 N 0) 37)) := by
  rw [← made_rows]
  exact run_make_row' (P := Tryd.prog) 27 37 (.slice none 0 0) 24 Tryd.underlying27 info37 rfl .i64 .i64 N (by omega) (by omega) w
theorem TzMem.pos {w : World} (h : TzMem w) : 0 < w.heap.size := World.block_lt_of_cell? _ _ (h 0 0 rfl)

/-- the lists while the rows are gathered: k are done -/
structure LsAll (B N n k : Nat) (m : Nat → Nat → Bool) (w w' : World) : Prop where
  below : Below B w w'
  hd : Blk w' (B + 1) 27 #[.slice (some ⟨B, 0, none⟩) N N]
  arr : ∃ arr : Array Value, arr.size = N ∧ Blk w' B 37 arr ∧ (∀ i, k ≤ i → i < N → arr[i]? = some (.slice none 0 0)) ∧ (∀ i, i < k → ∃ v, arr[i]? = some v ∧ OwnInts B w' v (pre (m i) n))
theorem LsAll.start (N n : Nat) (m : Nat → Nat → Bool) (w : World) : LsAll w.heap.size N n 0 m w ((w.alloc (.cells (rowsArr 0 0 N 0) 37)).alloc (.cells #[.slice (some ⟨w.heap.size, 0, none⟩) N N] 27)) := by
  refine ⟨below_two _ _ _, ?_, rowsArr 0 0 N 0, rowsArr_size _ _ _ _, ?_, fun i _ hi => ?_, fun i hi => by omega⟩
  · have := Blk.new (w.alloc (.cells (rowsArr 0 0 N 0) 37)) 27 #[.slice (some ⟨w.heap.size, 0, none⟩) N N]
    simpa using this
  · exact (Blk.new w 37 (rowsArr 0 0 N 0)).below ((Below.refl _ _).alloc (Nat.le_refl _) _)
  · rw [rowsArr_at hi, if_neg (by omega)]
theorem LsAll.step {B N n k : Nat} {m : Nat → Nat → Bool} {w wr w1 : World} (hB : B ≤ w.heap.size) (h1 : Below B w wr) (h2 : Blk wr (B + 1) 27 #[.slice (some ⟨B, 0, none⟩) N N]) {arr : Array Value} (hs : arr.size = N) (hb : Blk wr B 37 arr)
    (hn : ∀ i, k ≤ i → i < N → arr[i]? = some (.slice none 0 0)) (hd : ∀ i, i < k → ∃ v, arr[i]? = some v ∧ OwnInts B wr v (pre (m i) n)) (hk : k < N) {o : Obj} (hl : LsI (wr.alloc o) B k arr (pre (m k) n) w1) : LsAll B N n (k + 1) m w w1 := by
  obtain ⟨hO, v, hbk, hv⟩ := hl
  have hBr : B < wr.heap.size := hb.lt
  have hO' : Only (· = B) wr w1 := (Only.of_below ((Below.refl wr.heap.size wr).alloc (Nat.le_refl _) o) _).trans hO
  refine ⟨h1.trans (hO'.to_below (Nat.le_of_lt hBr) fun j e => by rw [show j = B from e]; exact Nat.le_refl _), h2.only hO' (by simp), arr.setIfInBounds k v, by simp [hs], hbk, fun i h3 h4 => ?_, fun i hi => ?_⟩
  · rw [Array.getElem?_setIfInBounds_ne (by omega)]; exact hn i (by omega) h4
  · by_cases e : i = k
    · subst e
      exact ⟨v, Array.getElem?_setIfInBounds_self_of_lt (by omega), own_base hv (by simp; omega)⟩
    · obtain ⟨u, hu, ho⟩ := hd i (by omega)
      refine ⟨u, by rw [Array.getElem?_setIfInBounds_ne (by omega)]; exact hu, own_of ho fun g hg => hO'.block g (World.ownsRow.lt ho g hg).2 fun e' => ?_⟩
      exact own_ne_blk ho hb (by decide) (by rw [hg, show g = B from e'])

/-- what 'lists' returns -/
def ListsPost (w : World) (ll : List (List Int)) (e : Ending) (w' : World) : Prop := ∃ a c, e = .returned (.slice a ll.length c) ∧ (∀ w2 : World, (∀ k, w.heap.size ≤ k → k < w'.heap.size → w2.heap[k]? = w'.heap[k]?) → Rows2 w2 a ll) ∧ Below w.heap.size w w'

theorem LsAll.done {N n : Nat} {m : Nat → Nat → Bool} {w w' : World} (hN : N ≤ 200000) (hn : n ≤ 12) (h : LsAll w.heap.size N n N m w w') {w2 : World} (hw : ∀ k, w.heap.size ≤ k → k < w'.heap.size → w2.heap[k]? = w'.heap[k]?) : Rows2 w2 (some ⟨w.heap.size, 0, none⟩) ((List.range N).map fun i => pre (m i) n) := by
  obtain ⟨hb, _, arr, hs, hbk, _, hd⟩ := h
  have hbk2 : Blk w2 w.heap.size 37 arr := (hw _ (Nat.le_refl _) hbk.lt).trans hbk
  refine ⟨by unfold LenOk; simp; omega, fun i l hi => ?_⟩
  rw [List.getElem?_map] at hi
  by_cases hlt : i < N
  · rw [List.getElem?_range hlt] at hi
    simp only [Option.map_some, Option.some.injEq] at hi
    subst hi
    obtain ⟨v, hv, ho⟩ := hd i hlt
    obtain ⟨a, c, rfl, hI⟩ := ints_of_own (own_of (w' := w2) ho fun g hg => hw g (World.ownsRow.lt ho g hg).1 (World.ownsRow.lt ho g hg).2) (by have := pre_len (m i) n; omega)
    refine ⟨_, 0, a, c, rfl, ?_, hI⟩
    rw [Nat.zero_add, hbk2.cell]; exact hv
  · rw [List.getElem?_eq_none (by simp; omega)] at hi; cases hi

set_option maxRecDepth 100000 in
theorem listsP_any (gv N n : Nat) (m : Nat → Nat → Bool) (w : World) (hN : N ≤ 200000) (hn : n ≤ 12) (hT : TzMem w)
    (hr : ∀ i, i < N → ∃ r, w.cell? ⟨gv, i, none⟩ = some (.slice (some ⟨r, 0, none⟩) (wd n) (wd n)) ∧ Blk w r 99 (setCells n (m i))) :
    Calls Tryd.prog 60 #[.slice (some ⟨gv, 0, none⟩) N N] w (ListsPost w ((List.range N).map fun i => pre (m i) n)) := by
  have hm1 := make_lists hN
  have hmf : ∀ (fn : Fn) (first cap : Array Value) (w : World), (Instr.makeFunc fn first cap).run Tryd.prog w = .ok (.func fn first cap) w := fun _ _ _ _ => rfl
  have HS := Lib.hid (LsAll.start N n m w)
  have hpos := hT.pos
  have HR := Lib.hid hr
  clear hr
  go_enter Tryd.func60, Tryd.ntmps60
  go_wp2
  go_loopg [11] N (fun g i wr => ∃ k : Nat, k ≤ N ∧ g = N - k ∧ i = .int .i64 k ∧ Hid (LsAll w.heap.size N n k m w wr))
  case atStart => exact ⟨0, Nat.zero_le _, rfl, rfl, HS⟩
  case round =>
    obtain ⟨k, hk, rfl, rfl, hL⟩ := hrel
    obtain ⟨h1, h2, arr, hs, hb, hnl, hd⟩ := hL.out
    have hlt2 : w.heap.size + 1 < wr.heap.size := h2.lt
    have hhd : wr.cell? ⟨w.heap.size + 1, 0, none⟩ = some (.slice (some ⟨w.heap.size, 0, none⟩) N N) := h2.cell 0
    by_cases hlt : k < N
    · obtain ⟨r, c0, hrb⟩ := HR.out k hlt
      have c1 := cell_keep h1 c0
      have hgv : gv < wr.heap.size := World.block_lt_of_cell? _ _ c1
      have KB : Below wr.heap.size wr (wr.alloc (.cells #[.int .i64 k] 3)) := (Below.refl _ _).alloc (Nat.le_refl _) _
      have hl0 : LsI (wr.alloc (.cells #[.int .i64 k] 3)) w.heap.size k arr [] (wr.alloc (.cells #[.int .i64 k] 3)) := ⟨Only.refl _ _, .slice none 0 0, by
          have : arr.setIfInBounds k (.slice none 0 0) = arr := by
            apply Array.ext_getElem?
            intro i
            rw [Array.getElem?_setIfInBounds]
            by_cases e : k = i
            · subst e; rw [if_pos rfl, if_pos (by omega), hnl k (Nat.le_refl _) hlt]
            · rw [if_neg e]
          rw [this]; exact hb.below KB, World.ownsRow_nil _ _ _ _⟩
      have hE := each_any2 82 (.pointer (some ⟨w.heap.size + 1, 0, none⟩)) (.pointer (some ⟨wr.heap.size, 0, none⟩)) (fun p w' => LsI (wr.alloc (.cells #[.int .i64 k] 3)) w.heap.size k arr (p.map Int.ofNat) w') n r (m k) (wr.alloc (.cells #[.int .i64 k] 3))
        ((hrb.below h1).below KB) hn hl0 cf82 (fun p w' hI => ((hT.below h1).below KB).only hI.only (by omega))
        (fun p x q w' hp hI => (lists1_any (wr.alloc (.cells #[.int .i64 k] 3)) w' w.heap.size k N (w.heap.size + 1) wr.heap.size arr (p.map Int.ofNat) x hI (by
            have := bits_len (mask n (m k)); rw [hp] at this; simp at this; simp; omega) hlt hN hs (cell_keep KB hhd) (World.cell?_alloc_new _ _ _ _) (by omega) (by omega)).mono fun e w'' hw => ⟨hw.1, by rw [List.map_append]; exact hw.2⟩)
      have HE := Lib.hid hE
      have HBP := Lib.hid (bits_pre (m k) hn)
      have HX := Lib.hid (And.intro h1 (And.intro h2 (And.intro hs (And.intro hb (And.intro hnl hd)))))
      clear hE hl0 KB hb hnl hd h1 h2 hrb
      go_wp2_with (go_at_call 81; refine HE.out.mono ?_; rintro e w1 ⟨rfl, hI⟩; replace hI := Lib.hid hI)
      go_roundg (N - (k + 1))
      case measure => omega
      case rel =>
        obtain ⟨x1, x2, x3, x4, x5, x6⟩ := HX.out
        have hI' := hI.out
        rw [HBP.out] at hI'
        exact ⟨k + 1, hlt, rfl, by go_num, LsAll.step (Nat.le_refl _) x1 x2 x3 x4 x5 x6 hlt hI'⟩
    · go_wp2
      obtain rfl : k = N := by omega
      go_ret
      exact ⟨_, k, by simp, fun w2 hw => hL.out.done hN hn hw, hL.out.below⟩
end Go.Proofs.YtcfiohphjlohhaaDoor
