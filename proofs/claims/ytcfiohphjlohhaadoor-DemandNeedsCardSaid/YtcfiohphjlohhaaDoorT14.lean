/- The reference's table: list. -/
import Derived.Test.YtcfiohphjlohhaaDoorT13
namespace Go.Proofs.YtcfiohphjlohhaaDoor
open Go.RowKit

theorem info3 : (Tryd.prog.info? 3).map (fun i => (i.zero, i.size, i.bytes)) = some (some (.int .i64 0), 1, 8) := by kernel_rfl
theorem info37 : (Tryd.prog.info? 37).map (fun i => (i.zero, i.size, i.bytes)) = some (some (.slice none 0 0), 1, 24) := by kernel_rfl
theorem info57 : (Tryd.prog.info? 57).map (fun i => (i.zero, i.size, i.bytes)) = some (some (.slice none 0 0), 1, 24) := by kernel_rfl
theorem info4 : (Tryd.prog.info? 4).map (fun i => (i.zero, i.size, i.bytes)) = some (some (.bool false), 1, 1) := by kernel_rfl

/-- the value is a slice of the call's own that holds the whole numbers l -/
def OwnInts (B : Nat) (w : World) (v : Value) (l : List Int) : Prop := w.ownsRow B 3 1 v l.length (l.map (Value.int .i64))
/-- what stands in a row, up to x -/
def pre (f : Nat → Bool) (x : Nat) : List Int := ((List.range x).filter f).map Int.ofNat
theorem pre_succ (f : Nat → Bool) (x : Nat) : pre f (x + 1) = pre f x ++ (if f x = true then [(x : Int)] else []) := by
  unfold pre
  rw [List.range_succ, List.filter_append, List.map_append]
  by_cases h : f x <;> simp [h]
theorem pre_len (f : Nat → Bool) (x : Nat) : (pre f x).length ≤ x := by
  unfold pre; rw [List.length_map]; have := List.length_filter_le f (List.range x); simpa using this

def ListPost (B : Nat) (w : World) (l : List Int) (e : Ending) (w' : World) : Prop := ∃ v, e = .returned v ∧ OwnInts B w' v l ∧ Below w.heap.size w w'

set_option maxRecDepth 100000 in
set_option maxHeartbeats 1000000 in
theorem list_any (s : Sys) (t : TabAt) (st : St) (k : Int) (w : World) (h : Tab w s t st) (hn : t.n ≤ 1024) (k0 : 0 ≤ k) (k1 : k < t.R.length) :
    Calls Tryd.prog 41 #[.pointer (some ⟨t.T, 0, none⟩), .int .i64 k] w (ListPost w.heap.size w (pre (st.1 k.toNat) t.n)) := by
  obtain ⟨r, hr⟩ := getT k0 k1
  have HR := Lib.hid hr
  have H := Lib.hid h
  have hs := h.sites
  obtain ⟨i0, hi, hz0, hz1, hz2⟩ := info_parts info3
  have HI := Lib.hid hi
  have HZ := Lib.hid (And.intro hz0 (And.intro hz1 hz2))
  clear h hr hi hz0 hz1 hz2
  go_enter Tryd.func41, Tryd.ntmps41
  go_wp2
  go_loopg [5, 6] t.n (fun g v i wr => ∃ (x : Nat), x ≤ t.n ∧ g = t.n - x ∧ i = .int .i64 x ∧ Hid (Below w.heap.size w wr) ∧ Hid (OwnInts w.heap.size wr v (pre (st.1 k.toNat) x)))
  case atStart => exact ⟨0, Nat.zero_le _, rfl, rfl, Below.refl _ _, (World.ownsRow_nil w w.heap.size 3 1 : OwnInts w.heap.size w (.slice none 0 0) [])⟩
  case round =>
    obtain ⟨x, hx, rfl, rfl, hB, hO⟩ := hrel
    have hT : Hid (Tab wr s t st) := H.out.below hB.out
    have c0 : wr.cell? ⟨t.T, 1, none⟩ = some (.int .i64 t.n) := by rw [← hs]; exact hT.out.blk.cell 1
    have hsz := hB.out.size
    by_cases hlt : x < t.n
    · have c1 : wr.cell? ⟨t.T, 4, none⟩ = some (.slice (some ⟨t.g, 0, none⟩) t.R.length t.cap) := hT.out.has_cell HR.out
      have c2 := hT.out.has _ _ HR.out
      have c3 : wr.cell? ⟨r, x, none⟩ = some (.bool (st.1 k.toNat x)) := ((hT.out.rows _ _ HR.out).cell _).trans (rowCells_at _ hlt)
      cases hq : st.1 k.toNat x
      · rw [hq] at c3
        have hP := Lib.hid (pre_succ (st.1 k.toNat) x)
        have hP2 : Hid (pre (st.1 k.toNat) (x + 1) = pre (st.1 k.toNat) x) := by unfold Hid; rw [hP.out, if_neg (by rw [hq]; exact Bool.false_ne_true), List.append_nil]
        clear hq
        go_wp2
        go_roundg (t.n - (x + 1))
        case measure => omega
        case rel => exact ⟨x + 1, by omega, rfl, by go_num, hB, by rw [hP2.out]; exact hO⟩
      · rw [hq] at c3
        have hP := Lib.hid (pre_succ (st.1 k.toNat) x)
        have hP2 : Hid (pre (st.1 k.toNat) (x + 1) = pre (st.1 k.toNat) x ++ [(x : Int)]) := by unfold Hid; rw [hP.out, if_pos hq]
        have hpl := Lib.hid (pre_len (st.1 k.toNat) x)
        have hpl2 := pre_len (st.1 k.toNat) x
        clear hq
        go_wp2_with (at_builtin; refine wpList_append_lies _ rfl (.tmp 26) (.tmp 28) 37 rfl w.heap.size 3 i0 (.int .i64 0) 1 8 Tryd.underlying37 HI.out HZ.out.1 HZ.out.2.1 HZ.out.2.2 rfl (by decide) _ _ _ rfl (hO.out.alloc _) ⟨wr.heap.size, 0, none⟩ 1 1 [.int .i64 x] rfl rfl ?c1 ?c2 ?c3 ?c4 ?c5 ?c6 _ rfl ?c7)
        case c1 => exact fun j u hu => World.news_of_block (heap_alloc_new wr _) j u hu
        case c2 => exact fun u hu => by rw [List.mem_singleton.1 hu]; rfl
        case c3 => exact Nat.one_pos
        case c4 => unfold maxLen; omega
        case c5 => omega
        case c6 => rw [World.size_alloc]; omega
        case c7 =>
          intro g cap w1 hown hgrow _ _
          have hB1 : Hid (Below w.heap.size w w1) := (hB.out.alloc hsz _).grown hgrow (by rw [World.size_alloc]; omega) fun j hj => (World.ownsRow.lt hO.out j hj).1
          have hO1 : Hid (OwnInts w.heap.size w1 (.slice (some ⟨g, 0, none⟩) ((pre (st.1 k.toNat) x).length + 1) cap) (pre (st.1 k.toNat) (x + 1))) := by
            unfold Hid OwnInts; rw [hP2.out, List.length_append, List.map_append]; exact hown
          clear hown hgrow
          go_wp2
          go_roundg (t.n - (x + 1))
          case measure => omega
          case rel => exact ⟨x + 1, by omega, rfl, by go_num, hB1, hO1⟩
    · go_wp2
      go_ret
      have : x = t.n := by omega
      subst this
      exact ⟨_, rfl, hO.out, hB.out⟩
end Go.Proofs.YtcfiohphjlohhaaDoor
