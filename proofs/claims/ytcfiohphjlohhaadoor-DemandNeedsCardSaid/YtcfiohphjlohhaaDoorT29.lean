/- The program's solver: lists, one element. -/
import Derived.Test.YtcfiohphjlohhaaDoorT28
import Derived.Test.YtcfiohphjlohhaaDoorT16
import Derived.Deep.RegionHeld3
namespace Go.Proofs.YtcfiohphjlohhaaDoor
open Go.RowKit

theorem Only.grown {S : Nat → Prop} {w w1 w2 : World} {row : Option Nat} (h : Only S w w1) (hg : w1.grownBy w2 row) (hr : ∀ j, row = some j → w.heap.size ≤ j) : Only S w w2 := by
  have hb : Below w.heap.size w w2 → True := fun _ => trivial
  refine ⟨hg.os.trans h.os, hg.tape.trans h.tape, hg.output.trans h.output, Nat.le_trans h.size hg.size, fun k hk hs => ?_⟩
  rw [hg.block k (Nat.lt_of_lt_of_le hk h.size) (fun e => by have := hr k e.symm; omega)]
  exact h.block k hk hs

/-- the lists while row i is filled -/
structure LsI (wb : World) (g i : Nat) (cells : Array Value) (l : List Int) (w' : World) : Prop where
  only : Only (· = g) wb w'
  row : ∃ v, Blk w' g 37 (cells.setIfInBounds i v) ∧ OwnInts wb.heap.size w' v l

theorem LsI.step {wb wr w2 : World} {g i : Nat} {cells : Array Value} {l : List Int} {v : Value} {x : Int} {o : Obj} (ho : Only (· = g) wb wr) (hbk : Blk wr g 37 (cells.setIfInBounds i v)) (hv : OwnInts wb.heap.size wr v l)
    {n c : Nat} (hgrow : (wr.alloc o).grownBy w2 v.ownBlock) (hown : w2.ownsRow wb.heap.size 3 1 (.slice (some ⟨n, 0, none⟩) (l.length + 1) c) (l.length + 1) (l.map (Value.int .i64) ++ [.int .i64 x])) :
    LsI wb g i cells (l ++ [x]) (w2.setCell ⟨g, i, none⟩ (.slice (some ⟨n, 0, none⟩) (l.length + 1) c)) := by
  have b1 : Blk (wr.alloc o) g 37 _ := hbk.below ((Below.refl _ _).alloc (Nat.le_refl _) _)
  have b2 : Blk w2 g 37 _ := b1.grown hgrow (own_ne_blk hv hbk (by decide))
  refine ⟨(Only.grown (ho.alloc o) hgrow fun j hj => (World.ownsRow.lt hv j hj).1).setCell (p := ⟨g, i, none⟩) (.inl rfl) _, .slice (some ⟨n, 0, none⟩) (l.length + 1) c, ?_, ?_⟩
  · have := b2.set_ i (.slice (some ⟨n, 0, none⟩) (l.length + 1) c)
    rw [Array.setIfInBounds_setIfInBounds] at this
    exact this
  · have h1 : OwnInts wb.heap.size w2 (.slice (some ⟨n, 0, none⟩) (l.length + 1) c) (l ++ [x]) := by
      unfold OwnInts; rw [List.length_append, List.map_append]; exact hown
    exact own_far h1 (own_ne_blk h1 b2 (by decide)) _

set_option maxRecDepth 100000 in
set_option maxHeartbeats 2000000 in
theorem lists1_any (wb w : World) (g i N pb ib : Nat) (cells : Array Value) (l : List Int) (x : Int) (h : LsI wb g i cells l w) (hl : l.length ≤ 1000) (hi : i < N) (hN : N ≤ 200000) (hsz : cells.size = N)
    (hp : wb.cell? ⟨pb, 0, none⟩ = some (.slice (some ⟨g, 0, none⟩) N N)) (hib : wb.cell? ⟨ib, 0, none⟩ = some (.int .i64 i)) (npg : pb ≠ g) (nig : ib ≠ g) :
    Calls Tryd.prog 82 #[.int .i64 x, .pointer (some ⟨pb, 0, none⟩), .pointer (some ⟨ib, 0, none⟩)] w fun e w' => e = .returned (.tuple #[]) ∧ LsI wb g i cells (l ++ [x]) w' := by
  obtain ⟨hO, v, hbk, hv⟩ := h
  have q1 : w.cell? ⟨pb, 0, none⟩ = some (.slice (some ⟨g, 0, none⟩) N N) := hO.keep hp npg
  have q2 : w.cell? ⟨ib, 0, none⟩ = some (.int .i64 i) := hO.keep hib nig
  have q3 : w.cell? ⟨g, i, none⟩ = some v := by rw [hbk.cell, Array.getElem?_setIfInBounds_self_of_lt (by omega)]
  have z1 : pb < w.heap.size := World.block_lt_of_cell? _ _ q1
  have z2 : ib < w.heap.size := World.block_lt_of_cell? _ _ q2
  have z3 := hbk.lt
  obtain ⟨i0, hi3, hz3⟩ := info_parts info3
  have HI := Lib.hid hi3
  have HZ := Lib.hid hz3
  have HV : Hid (OwnInts wb.heap.size w.drew v l) := own_of hv fun _ _ => rfl
  have HB : Hid (Blk w.drew g 37 (cells.setIfInBounds i v)) := hbk
  have HO : Hid (Only (· = g) wb w.drew) := hO.drew
  have HOW : Hid (((w.drew).alloc (.cells #[.int .i64 x] 3)).ownsRow wb.heap.size 3 1 v l.length (l.map (Value.int .i64))) := own_below (w := w.drew) (own_of hv fun _ _ => rfl) ((Below.refl _ _).alloc (Nat.le_refl _) _)
  have HSZ : Hid (wb.heap.size ≤ ((w.drew).alloc (.cells #[.int .i64 x] 3)).heap.size) := by
    have := hO.size
    unfold Hid; rw [World.size_alloc]; exact Nat.le_succ_of_le this
  have HW : Hid (∀ w2, ((w.drew).alloc (.cells #[.int .i64 x] 3)).grownBy w2 v.ownBlock → w2.frozen? ⟨g, i, none⟩ = false ∧ w2.cell? ⟨g, i, none⟩ = some v ∧ w2.cell? ⟨pb, 0, none⟩ = some (.slice (some ⟨g, 0, none⟩) N N) ∧ w2.cell? ⟨ib, 0, none⟩ = some (.int .i64 i)) := fun w2 hg => by
    have k1 : ∀ (q : Nat) (u : Value), q < wb.heap.size → w.cell? ⟨q, 0, none⟩ = some u → w2.cell? ⟨q, 0, none⟩ = some u := fun q u hq hu => by
      have hlt : q < w.heap.size := World.block_lt_of_cell? _ _ hu
      have e1 : ((w.drew).alloc (.cells #[.int .i64 x] 3)).heap[q]? = w.heap[q]? := (Below.heap_alloc w.drew _ q hlt)
      have e2 := hg.block q (by rw [World.size_alloc]; exact Nat.lt_succ_of_lt hlt) (fun e => by have := (World.ownsRow.lt hv q e.symm).1; omega)
      exact (World.cell?_of_block (w := w) (e2.trans e1)).trans hu
    have b1 : Blk ((w.drew).alloc (.cells #[.int .i64 x] 3)) g 37 _ := Blk.below (w := w.drew) hbk ((Below.refl _ _).alloc (Nat.le_refl _) _)
    have b2 : Blk w2 g 37 _ := b1.grown hg (own_ne_blk hv hbk (by decide))
    exact ⟨b2.frozen i, by rw [b2.cell, Array.getElem?_setIfInBounds_self_of_lt (by omega)], k1 pb _ (World.block_lt_of_cell? _ _ hp) q1, k1 ib _ (World.block_lt_of_cell? _ _ hib) q2⟩
  clear hi3 hz3 hv hbk hO hp hib
  go_enter Tryd.func82, Tryd.ntmps82
  go_wp2
  have HS1 : Hid ((w.drew.alloc (.cells #[.int .i64 x] 3)).cell? ⟨pb, 0, none⟩ = some (.slice (some ⟨g, 0, none⟩) N N) ∧ (w.drew.alloc (.cells #[.int .i64 x] 3)).cell? ⟨ib, 0, none⟩ = some (.int .i64 i)) := ⟨(World.cell?_alloc_lt _ _ _ z1).trans q1, (World.cell?_alloc_lt _ _ _ z2).trans q2⟩
  refine wp_region_held_drew (S := fun w' => w'.cell? ⟨pb, 0, none⟩ = some (.slice (some ⟨g, 0, none⟩) N N) ∧ w'.cell? ⟨ib, 0, none⟩ = some (.int .i64 i)) (by kernel_rfl) ⟨q1, q2⟩ (fun hHeld => ?_)
  refine wpAnyH_take (i := 0) (v := ?_) rfl (by kernel_rfl) (by kernel_rfl) (by kernel_rfl) (fun _ _ _ h => h) (Or.inl ⟨by rfl, ?_⟩) (by assumption) ?_
  rotate_left
  · intro w' hSw
    try dsimp only at hSw
    go_simp
    try with_reducible rfl
  try simp only [Act.put, List.setIfInBounds_toArray, List.set_cons_zero, List.set_cons_succ]
  refine wpAnyH_take (i := 1) (v := ?_) rfl (by kernel_rfl) (by kernel_rfl) (by kernel_rfl) (fun _ _ _ h => h) (Or.inl ⟨by rfl, ?_⟩) (by assumption) ?_
  rotate_left
  · intro w' hSw
    try dsimp only at hSw
    go_simp
    try with_reducible rfl
  try simp only [Act.put, List.setIfInBounds_toArray, List.set_cons_zero, List.set_cons_succ]
  refine wpAnyH_take (i := 2) (v := ?_) rfl (by kernel_rfl) (by kernel_rfl) (by kernel_rfl) (fun _ _ _ h => h) (Or.inl ⟨by rfl, ?_⟩) (by assumption) ?_
  rotate_left
  · intro w' hSw
    try dsimp only at hSw
    go_simp
    try with_reducible rfl
  try simp only [Act.put, List.setIfInBounds_toArray, List.set_cons_zero, List.set_cons_succ]
  refine wpAnyH_take (i := 3) (v := ?_) rfl (by kernel_rfl) (by kernel_rfl) (by kernel_rfl) (fun _ _ _ h => h) (Or.inl ⟨by rfl, ?_⟩) (by assumption) ?_
  rotate_left
  · intro w' hSw
    try dsimp only at hSw
    go_simp
    try with_reducible rfl
  try simp only [Act.put, List.setIfInBounds_toArray, List.set_cons_zero, List.set_cons_succ]
  refine wpAnyH_take (i := 4) (v := ?_) rfl (by kernel_rfl) (by kernel_rfl) (by kernel_rfl) (fun _ _ _ h => h) (Or.inl ⟨by rfl, ?_⟩) (by assumption) ?_
  rotate_left
  · intro w' hSw
    try dsimp only at hSw
    go_simp
    try with_reducible rfl
  try simp only [Act.put, List.setIfInBounds_toArray, List.set_cons_zero, List.set_cons_succ]
  refine wpAnyH_take (i := 6) (v := ?_) rfl (by kernel_rfl) (by kernel_rfl) (by kernel_rfl) (fun _ _ _ h => h) (Or.inl ⟨by rfl, ?_⟩) (by assumption) ?_
  rotate_left
  · intro w' hSw
    try dsimp only at hSw
    go_simp
    try with_reducible rfl
  try simp only [Act.put, List.setIfInBounds_toArray, List.set_cons_zero, List.set_cons_succ]
  refine wpAnyH_ready (rs := [5, 7]) (by kernel_rfl) (by simp) ?_
  refine AllReadyH.cons rfl (fun K hK => ?_) (AllReadyH.cons rfl (fun K hK => ?_) AllReadyH.nil)
  · have hbr := True.intro
    go_simp
    refine hK.out _ _ hHeld (fun hHeld => ?_)
    clear hK K
    try simp only [Act.put, List.setIfInBounds_toArray, List.set_cons_zero, List.set_cons_succ]
    refine wpAnyH_ready (rs := [7]) (by kernel_rfl) (by simp) ?_
    refine AllReadyH.cons rfl (fun K hK => ?_) AllReadyH.nil
    go_simp
    refine hK.out _ _ HS1.out (fun hHeld => ?_)
    clear hK K
    try simp only [Act.put, List.setIfInBounds_toArray, List.set_cons_zero, List.set_cons_succ]
    refine wpAnyH_ready (rs := [8]) (by kernel_rfl) (by simp) ?_
    refine AllReadyH.cons rfl (fun K hK => ?_) AllReadyH.nil
    refine step_append1 (by rfl) (.tmp 9) (.tmp 11) 37 3 i0 8 (.int .i64 0) (by rfl) Tryd.underlying37 HI.out HZ.out rfl wb.heap.size v l.length _ (by rfl) HOW.out w.heap.size 1 (.int .i64 x) (by rfl) (World.cell?_alloc_new _ _ _ _) rfl (by omega) (by decide) HSZ.out ?_
    intro n cap w2 hown hgrow hat hlg
    obtain ⟨e1, e2, e3, e4⟩ := HW.out _ hgrow
    refine hK.out _ _ ⟨e3, e4⟩ (fun hHeld => ?_)
    clear hK K
    try simp only [Act.put, List.setIfInBounds_toArray, List.set_cons_zero, List.set_cons_succ]
    refine wpAnyH_ready (rs := [9]) (by kernel_rfl) (by simp) ?_
    refine AllReadyH.cons rfl (fun K hK => ?_) AllReadyH.nil
    go_simp
    refine hK.out _ _ ⟨e3, e4⟩ (fun hHeld => ?_)
    clear hK K
    try simp only [Act.put, List.setIfInBounds_toArray, List.set_cons_zero, List.set_cons_succ]
    refine wpAnyH_ready (rs := [10]) (by kernel_rfl) (by simp) ?_
    refine AllReadyH.cons rfl (fun K hK => ?_) AllReadyH.nil
    go_simp
    refine hK.out _ _ ⟨(World.cell?_setCell_other _ _ _ _ (by intro e; injection e with e0; exact npg e0.symm)).trans e3, (World.cell?_setCell_other _ _ _ _ (by intro e; injection e with e0; exact nig e0.symm)).trans e4⟩ (fun hHeld => ?_)
    clear hK K
    refine wpAnyH_done (by kernel_rfl) ?_ _
    go_wp2
    (try go_end0)
    have hg2 : (w.drew.alloc (.cells #[.int .i64 x] 3)).grownBy w2 v.ownBlock := hgrow
    exact ⟨rfl, LsI.step (wr := w.drew) HO.out HB.out HV.out hg2 hown⟩
  · have hbr := True.intro
    go_simp
    refine hK.out _ _ HS1.out (fun hHeld => ?_)
    clear hK K
    try simp only [Act.put, List.setIfInBounds_toArray, List.set_cons_zero, List.set_cons_succ]
    refine wpAnyH_ready (rs := [5]) (by kernel_rfl) (by simp) ?_
    refine AllReadyH.cons rfl (fun K hK => ?_) AllReadyH.nil
    go_simp
    refine hK.out _ _ hHeld (fun hHeld => ?_)
    clear hK K
    try simp only [Act.put, List.setIfInBounds_toArray, List.set_cons_zero, List.set_cons_succ]
    refine wpAnyH_ready (rs := [8]) (by kernel_rfl) (by simp) ?_
    refine AllReadyH.cons rfl (fun K hK => ?_) AllReadyH.nil
    refine step_append1 (by rfl) (.tmp 9) (.tmp 11) 37 3 i0 8 (.int .i64 0) (by rfl) Tryd.underlying37 HI.out HZ.out rfl wb.heap.size v l.length _ (by rfl) HOW.out w.heap.size 1 (.int .i64 x) (by rfl) (World.cell?_alloc_new _ _ _ _) rfl (by omega) (by decide) HSZ.out ?_
    intro n cap w2 hown hgrow hat hlg
    obtain ⟨e1, e2, e3, e4⟩ := HW.out _ hgrow
    refine hK.out _ _ ⟨e3, e4⟩ (fun hHeld => ?_)
    clear hK K
    try simp only [Act.put, List.setIfInBounds_toArray, List.set_cons_zero, List.set_cons_succ]
    refine wpAnyH_ready (rs := [9]) (by kernel_rfl) (by simp) ?_
    refine AllReadyH.cons rfl (fun K hK => ?_) AllReadyH.nil
    go_simp
    refine hK.out _ _ ⟨e3, e4⟩ (fun hHeld => ?_)
    clear hK K
    try simp only [Act.put, List.setIfInBounds_toArray, List.set_cons_zero, List.set_cons_succ]
    refine wpAnyH_ready (rs := [10]) (by kernel_rfl) (by simp) ?_
    refine AllReadyH.cons rfl (fun K hK => ?_) AllReadyH.nil
    go_simp
    refine hK.out _ _ ⟨(World.cell?_setCell_other _ _ _ _ (by intro e; injection e with e0; exact npg e0.symm)).trans e3, (World.cell?_setCell_other _ _ _ _ (by intro e; injection e with e0; exact nig e0.symm)).trans e4⟩ (fun hHeld => ?_)
    clear hK K
    refine wpAnyH_done (by kernel_rfl) ?_ _
    go_wp2
    (try go_end0)
    have hg2 : (w.drew.alloc (.cells #[.int .i64 x] 3)).grownBy w2 v.ownBlock := hgrow
    exact ⟨rfl, LsI.step (wr := w.drew) HO.out HB.out HV.out hg2 hown⟩
end Go.Proofs.YtcfiohphjlohhaaDoor
