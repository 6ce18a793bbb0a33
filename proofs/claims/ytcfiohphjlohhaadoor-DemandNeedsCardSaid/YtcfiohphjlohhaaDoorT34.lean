/- The program's solver: points. -/
import Derived.Test.YtcfiohphjlohhaaDoorT31
namespace Go.Proofs.YtcfiohphjlohhaaDoor
open Go.RowKit

theorem Sol.listsV {w : World} {s : Sys} {t : SolAt} {m : Nat → Nat → Bool} (h : Sol w s t m) : ∀ i, i < t.RV.length → ∃ r, w.cell? ⟨t.gv, i, none⟩ = some (.slice (some ⟨r, 0, none⟩) (wd t.n) (wd t.n)) ∧ Blk w r 99 (setCells t.n (m i)) := fun i hi =>
  have hk := get_at hi
  ⟨_, h.hasV _ _ hk, h.rows _ _ (by rw [List.getElem?_append_left hi]; exact hk)⟩
theorem Sol.listsC {w : World} {s : Sys} {t : SolAt} {m : Nat → Nat → Bool} (h : Sol w s t m) : ∀ i, i < t.RC.length → ∃ r, w.cell? ⟨t.gc, i, none⟩ = some (.slice (some ⟨r, 0, none⟩) (wd t.n) (wd t.n)) ∧ Blk w r 99 (setCells t.n (m (t.RV.length + i))) := fun i hi =>
  have hk := get_at hi
  ⟨_, h.hasC _ _ hk, h.rows _ _ (by rw [List.getElem?_append_right (by omega), Nat.add_sub_cancel_left]; exact hk)⟩

/-- what points returns -/
def PointsPost (p : Pts) (w : World) (e : Ending) (w' : World) : Prop :=
  ∃ (a1 a2 : Option Addr) (c1 c2 : Nat), e = .returned (ptsV p a1 a2 c1 c2) ∧ (∀ w2 : World, (∀ k, w.heap.size ≤ k → k < w'.heap.size → w2.heap[k]? = w'.heap[k]?) → Rows2 w2 a1 p.vars ∧ Rows2 w2 a2 p.cells) ∧ Below w.heap.size w w'

set_option maxRecDepth 100000 in
set_option maxHeartbeats 1000000 in
theorem points_any (s : Sys) (t : SolAt) (m : Nat → Nat → Bool) (w : World) (h : Sol w s t m) (hn : t.n ≤ 12) (hT : TzMem w) (hV : t.RV.length ≤ 200000) (hC : t.RC.length ≤ 200000) :
    Calls Tryd.prog 38 #[.pointer (some ⟨t.S, 0, none⟩)] w (PointsPost ⟨(List.range t.RV.length).map fun r => pre (m r) t.n, (List.range t.RC.length).map fun c => pre (m (t.RV.length + c)) t.n⟩ w) := by
  have h1 := h.alloc (.cells #[.slice none 0 0, .slice none 0 0] 29)
  have KB : Below w.heap.size w (w.alloc (.cells #[.slice none 0 0, .slice none 0 0] 29)) := (Below.refl _ _).alloc (Nat.le_refl _) _
  have KR := Blk.new w 29 #[.slice none 0 0, .slice none 0 0]
  have HT := Lib.hid (hT.below KB)
  have z1 := KR.lt
  have zS := h.blk.lt
  have zne : w.heap.size ≠ t.S := by omega
  have c5 : (w.alloc (.cells #[.slice none 0 0, .slice none 0 0] 29)).cell? ⟨t.S, 5, none⟩ = some (.slice (some ⟨t.gv, 0, none⟩) t.RV.length t.RV.length) := h1.blk.cell 5
  have c6 : (w.alloc (.cells #[.slice none 0 0, .slice none 0 0] 29)).cell? ⟨t.S, 6, none⟩ = some (.slice (some ⟨t.gc, 0, none⟩) t.RC.length t.RC.length) := h1.blk.cell 6
  have H1 := Lib.hid h1
  clear h h1 hT
  go_enter Tryd.func38, Tryd.ntmps38
  go_wp2
  generalize (w.alloc (.cells #[.slice none 0 0, .slice none 0 0] 29)) = wa at *
  have HKB := Lib.hid KB
  have HKR := Lib.hid KR
  clear KB KR
  have CV : Hid (Calls Tryd.prog 60 #[.slice (some ⟨t.gv, 0, none⟩) t.RV.length t.RV.length] wa.drew (ListsPost wa ((List.range t.RV.length).map fun r => pre (m r) t.n))) :=
    (listsP_any t.gv t.RV.length t.n m wa.drew hV hn HT.out H1.out.listsV).mono fun e w' ⟨a, c, he, hr, hb⟩ => ⟨a, c, he, hr, below_un_drew hb⟩
  have CC : Hid (∀ w1, Below wa.heap.size wa w1 → Calls Tryd.prog 60 #[.slice (some ⟨t.gc, 0, none⟩) t.RC.length t.RC.length] w1 (ListsPost w1 ((List.range t.RC.length).map fun c => pre (m (t.RV.length + c)) t.n))) :=
    fun w1 hB1 => listsP_any t.gc t.RC.length t.n (fun c => m (t.RV.length + c)) w1 hC hn (HT.out.below hB1) (H1.out.below hB1).listsC
  have KS : Hid (∀ w1, Below wa.heap.size wa w1 → w1.cell? ⟨t.S, 5, none⟩ = some (.slice (some ⟨t.gv, 0, none⟩) t.RV.length t.RV.length) ∧ w1.cell? ⟨t.S, 6, none⟩ = some (.slice (some ⟨t.gc, 0, none⟩) t.RC.length t.RC.length)) := fun w1 hB1 => ⟨cell_keep hB1 c5, cell_keep hB1 c6⟩
  go_region_held3 (fun w' => w'.cell? ⟨t.S, 5, none⟩ = some (.slice (some ⟨t.gv, 0, none⟩) t.RV.length t.RV.length) ∧ w'.cell? ⟨t.S, 6, none⟩ = some (.slice (some ⟨t.gc, 0, none⟩) t.RC.length t.RC.length))
    (first | exact ⟨c5, c6⟩ | exact KS.out _ hB1.out | exact KS.out _ hB3.out | go_keep)
    (first
      | (go_at_call 60; (with_reducible refine CV.out.mono ?_); rintro e w1 ⟨a1, q1, rfl, hR1, hB1⟩; have hB1 := Lib.hid hB1; have HR1 := Lib.hid hR1; simp only [List.length_map, List.length_range])
      | (go_at_call 60; refine (CC.out _ hB1.out).mono ?_; rintro e w2 ⟨a2, q2, rfl, hR2, hB2⟩; have HB2 := Lib.hid hB2; have HR2 := Lib.hid hR2; have hB3 : Hid (Below wa.heap.size wa w2) := hB1.out.trans (HB2.out.mono hB1.out.size); have r0 := (HKR.out.below hB3.out).cell; have r1 := (HKR.out.below hB3.out).frozen; simp only [List.length_map, List.length_range]))
  go_wp2
  obtain ⟨s0, s1⟩ := two_set (r0 0) (r0 1) (.slice a1 t.RV.length q1) (.slice a2 t.RC.length q2)
  refine bodyPost_ret (v := .agg #[.slice a1 t.RV.length q1, .slice a2 t.RC.length q2]) (by simp [results, Tryd.results38, go_sem, s0, s1]) rfl
    ⟨a1, a2, q1, q2, by simp, fun wz hz => ⟨HR1.out _ fun k k1 k2 => ?_, HR2.out _ fun k k1 k2 => ?_⟩, ?_⟩
  · have hk : w.heap.size ≠ k := by omega
    have z2 := HB2.out.size
    refine (hz k (by omega) (by simp [World.setCell]; omega)).trans ?_
    refine (Below.heap_setCell _ ⟨w.heap.size, 1, none⟩ _ k hk.symm).trans ((Below.heap_setCell _ ⟨w.heap.size, 0, none⟩ _ k hk.symm).trans (HB2.out.block k k2))
  · have := hB1.out.size
    have hk : w.heap.size ≠ k := by omega
    refine (hz k (by omega) (by simp [World.setCell]; omega)).trans ?_
    exact (Below.heap_setCell _ ⟨w.heap.size, 1, none⟩ _ k hk.symm).trans (Below.heap_setCell _ ⟨w.heap.size, 0, none⟩ _ k hk.symm)
  · exact ((HKB.out.trans (hB3.out.mono HKB.out.size)).setCell (p := ⟨w.heap.size, 0, none⟩) (Nat.le_refl _) _).setCell (p := ⟨w.heap.size, 1, none⟩) (Nat.le_refl _) _
end Go.Proofs.YtcfiohphjlohhaaDoor
