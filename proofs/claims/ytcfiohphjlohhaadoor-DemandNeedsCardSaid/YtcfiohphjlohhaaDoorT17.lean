/- dataflowref18.Solve, of a valid system. -/
import Derived.Test.YtcfiohphjlohhaaDoorT16
namespace Go.Proofs.YtcfiohphjlohhaaDoor
open Go.RowKit

/-- the assignment while its lists are gathered: k rows are done -/
structure Gath (w : World) (B P : Nat) (s : Sys) (n : Nat) (m : Nat → Nat → Bool) (k : Nat) (pv pc : Value) : Prop where
  BP : B ≤ P
  blk : Blk w P 29 #[pv, pc]
  vs : OwnRows B w pv ((List.range (min k s.vars.toNat)).map fun r => pre (m r) n)
  cs : OwnRows B w pc ((List.range (k - s.vars.toNat)).map fun c => pre (m (s.vars.toNat + c)) n)
  ne : ∀ g, pv.ownBlock = some g → pc.ownBlock ≠ some g

theorem Gath.start (w : World) (s : Sys) (n : Nat) (m : Nat → Nat → Bool) : Gath (w.alloc (.cells #[.slice none 0 0, .slice none 0 0] 29)) w.heap.size w.heap.size s n m 0 (.slice none 0 0) (.slice none 0 0) :=
  ⟨Nat.le_refl _, Blk.new _ _ _, by rw [Nat.zero_min]; exact OwnRows.nil _ _, by rw [Nat.zero_sub]; exact OwnRows.nil _ _, fun g h => by cases h⟩

theorem Gath.stepV {w w1 w2 : World} {B P : Nat} {s : Sys} {n : Nat} {m : Nat → Nat → Bool} {k : Nat} {pv pc : Value} (h : Gath w B P s n m k pv pc) (hk : k < s.vars.toNat) {u : Value} {vs : List Value}
    (ho : w1.ownsRow B 37 1 pv k vs) (hr : ∀ (j : Nat) (l : List Int), ((List.range k).map fun r => pre (m r) n)[j]? = some l → ∃ u, vs[j]? = some u ∧ OwnInts B w1 u l)
    (hb : Below w.heap.size w w1) (hu : OwnInts B w1 u (pre (m k) n)) {g cap : Nat} (hgrow : w1.grownBy w2 pv.ownBlock) (hown : w2.ownsRow B 37 1 (.slice (some ⟨g, 0, none⟩) (k + 1) cap) (k + 1) (vs ++ [u]))
    (hat : pv.ownBlock = some g ∨ w1.heap.size ≤ g) :
    Gath (w2.setCell ⟨P, 0, none⟩ (.slice (some ⟨g, 0, none⟩) (k + 1) cap)) B P s n m (k + 1) (.slice (some ⟨g, 0, none⟩) (k + 1) cap) pc ∧ Below B w (w2.setCell ⟨P, 0, none⟩ (.slice (some ⟨g, 0, none⟩) (k + 1) cap)) := by
  have hBw : B ≤ w.heap.size := Nat.le_of_lt (Nat.lt_of_le_of_lt h.BP h.blk.lt)
  have b1 : Blk w1 P 29 _ := h.blk.below hb
  have b2 : Blk w2 P 29 _ := b1.grown hgrow (own_ne_blk ho b1 (by decide))
  have hlen : ((List.range k).map fun r => pre (m r) n).length = k := by simp
  have hsn : OwnRows B w2 (.slice (some ⟨g, 0, none⟩) (k + 1) cap) (((List.range k).map fun r => pre (m r) n) ++ [pre (m k) n]) :=
    OwnRows.snoc (by rw [hlen]; exact ho) hr hu hgrow (by rw [hlen]; exact hown)
  have e1 : min (k + 1) s.vars.toNat = k + 1 := by omega
  have e2 : k + 1 - s.vars.toNat = k - s.vars.toNat := by omega
  have hc1 := h.cs.below hb
  have hc2 : OwnRows B w2 pc _ := hc1.grown hgrow (fun g' h1 h2 => h.ne g' h2 h1) (own_type ho)
  refine ⟨⟨h.BP, b2.set_ 0 _, ?_, ?_, fun g' h1 h2 => ?_⟩, ?_⟩
  · rw [e1, List.range_succ, List.map_append]
    exact hsn.far b2 (by decide) (by decide) 0 _
  · rw [e2]
    exact hc2.far b2 (by decide) (by decide) 0 _
  · obtain rfl : g = g' := by simpa [Value.ownBlock] using h1
    rcases hat with hat | hat
    · exact h.ne g hat h2
    · obtain ⟨vs', hov, _⟩ := hc1
      have := (World.ownsRow.lt hov g h2).2
      omega
  · exact ((hb.mono hBw).grown hgrow (by have := hb.size; omega) fun j hj => (World.ownsRow.lt ho j hj).1).setCell (p := ⟨P, 0, none⟩) h.BP _

theorem Gath.stepC {w w1 w2 : World} {B P : Nat} {s : Sys} {n : Nat} {m : Nat → Nat → Bool} {k : Nat} {pv pc : Value} (h : Gath w B P s n m k pv pc) (hk : s.vars.toNat ≤ k) {u : Value} {vs : List Value}
    (ho : w1.ownsRow B 37 1 pc (k - s.vars.toNat) vs) (hr : ∀ (j : Nat) (l : List Int), ((List.range (k - s.vars.toNat)).map fun c => pre (m (s.vars.toNat + c)) n)[j]? = some l → ∃ u, vs[j]? = some u ∧ OwnInts B w1 u l)
    (hb : Below w.heap.size w w1) (hu : OwnInts B w1 u (pre (m k) n)) {g cap : Nat} (hgrow : w1.grownBy w2 pc.ownBlock) (hown : w2.ownsRow B 37 1 (.slice (some ⟨g, 0, none⟩) (k - s.vars.toNat + 1) cap) (k - s.vars.toNat + 1) (vs ++ [u]))
    (hat : pc.ownBlock = some g ∨ w1.heap.size ≤ g) :
    Gath (w2.setCell ⟨P, 1, none⟩ (.slice (some ⟨g, 0, none⟩) (k - s.vars.toNat + 1) cap)) B P s n m (k + 1) pv (.slice (some ⟨g, 0, none⟩) (k - s.vars.toNat + 1) cap) ∧ Below B w (w2.setCell ⟨P, 1, none⟩ (.slice (some ⟨g, 0, none⟩) (k - s.vars.toNat + 1) cap)) := by
  have hBw : B ≤ w.heap.size := Nat.le_of_lt (Nat.lt_of_le_of_lt h.BP h.blk.lt)
  have b1 : Blk w1 P 29 _ := h.blk.below hb
  have b2 : Blk w2 P 29 _ := b1.grown hgrow (own_ne_blk ho b1 (by decide))
  have hlen : ((List.range (k - s.vars.toNat)).map fun c => pre (m (s.vars.toNat + c)) n).length = k - s.vars.toNat := by simp
  have hsn : OwnRows B w2 (.slice (some ⟨g, 0, none⟩) (k - s.vars.toNat + 1) cap) (((List.range (k - s.vars.toNat)).map fun c => pre (m (s.vars.toNat + c)) n) ++ [pre (m k) n]) :=
    OwnRows.snoc (by rw [hlen]; exact ho) hr hu hgrow (by rw [hlen]; exact hown)
  have e1 : min (k + 1) s.vars.toNat = min k s.vars.toNat := by omega
  have e2 : k + 1 - s.vars.toNat = k - s.vars.toNat + 1 := by omega
  have e3 : s.vars.toNat + (k - s.vars.toNat) = k := by omega
  have hc1 := h.vs.below hb
  have hc2 : OwnRows B w2 pv _ := hc1.grown hgrow (fun g' h1 h2 => h.ne g' h1 h2) (own_type ho)
  refine ⟨⟨h.BP, b2.set_ 1 _, ?_, ?_, fun g' h1 h2 => ?_⟩, ?_⟩
  · rw [e1]
    exact hc2.far b2 (by decide) (by decide) 1 _
  · rw [e2, List.range_succ, List.map_append, List.map_singleton, e3]
    exact hsn.far b2 (by decide) (by decide) 1 _
  · obtain rfl : g = g' := by simpa [Value.ownBlock] using h2
    rcases hat with hat | hat
    · exact h.ne g h1 hat
    · obtain ⟨vs', hov, _⟩ := hc1
      have := (World.ownsRow.lt hov g h1).2
      omega
  · exact ((hb.mono hBw).grown hgrow (by have := hb.size; omega) fun j hj => (World.ownsRow.lt ho j hj).1).setCell (p := ⟨P, 1, none⟩) h.BP _

theorem Tab.flag {w : World} {s : Sys} {t : TabAt} {st : St} (h : Tab w s t st) (b : Bool) : Tab (w.setCell ⟨t.T, 5, none⟩ (.bool b)) s t (st.1, b) := by
  refine ⟨h.sites, h.blk.set_ 5 _, h.form, fun k r hk => ?_, fun k r hk => ?_, h.nd, h.neT, h.neg, h.Tg⟩
  · rw [World.cell?_setCell_other _ _ _ _ (by intro e; injection e with e1; exact h.Tg e1)]
    exact h.has k r hk
  · exact (h.rows k r hk).far (p := ⟨t.T, 5, none⟩) (fun e => h.neT (by have e : r = t.T := e; rw [← e]; exact List.mem_of_getElem? hk)) _
theorem own_one {w : World} {B : Nat} {e : TypeId} {size n : Nat} {v : Value} {xs : List Value} (h : w.ownsRow B e size v n xs) : v.oneCell' = true := by
  rcases h.2 with ⟨rfl, _⟩ | ⟨g, cap, cur, rfl, _⟩ <;> rfl
theorem Gath.cells {w w2 w3 : World} {B P : Nat} {s : Sys} {n : Nat} {m : Nat → Nat → Bool} {k : Nat} {pv pc : Value} (h : Gath w B P s n m k pv pc) (hb : Below w.heap.size w w2) {o : Obj} {row : Option Nat} (hg : (w2.alloc o).grownBy w3 row)
    (hr : ∀ g, row = some g → ∃ cap cur, (w2.alloc o).heap[g]? = some (.cells cur 37 (0, 0)) ∧ cap = cur.size) :
    (w3.cell? ⟨P, 0, none⟩ = some pv ∧ w3.frozen? ⟨P, 0, none⟩ = false) ∧ (w3.cell? ⟨P, 1, none⟩ = some pc ∧ w3.frozen? ⟨P, 1, none⟩ = false) := by
  have b1 : Blk (w2.alloc o) P 29 _ := (h.blk.below hb).below ((Below.refl _ _).alloc (Nat.le_refl _) _)
  have b2 := b1.grown hg (fun e => by
    obtain ⟨_, cur, hc, _⟩ := hr P e.symm
    unfold Blk at b1
    rw [b1] at hc
    injection hc with hc
    injection hc with _ ht
    cases ht)
  exact ⟨⟨b2.cell 0, b2.frozen 0⟩, ⟨b2.cell 1, b2.frozen 1⟩⟩
theorem apply_at {T : Nat} (s : Sys) (t : TabAt) (hT : t.T = T) (st : St) (c : Con) (a' : Option Addr) (c' : Nat) (w0 w : World) (h : Tab w s t st) (ok : TabOk s t) (hs : Ints w0 a' c.set) (hb0 : Below w0.heap.size w0 w)
    (hown : ∀ k, t.own k → w0.heap.size ≤ k) (hc : ConOk s c) :
    Calls Tryd.prog 40 #[.pointer (some ⟨T, 0, none⟩), conV c a' c'] w (TabPost w s t (applyS s t.n c st)) := by
  subst hT; exact apply_any s t st c a' c' w0 w h ok hs hb0 hown hc
def ListPost2 (B : Nat) (w : World) (l : List Int) (e : Ending) (w' : World) : Prop := ∃ a c, e = .returned (.slice a l.length c) ∧ OwnInts B w' (.slice a l.length c) l ∧ Below w.heap.size w w'
theorem ListPost.two {B : Nat} {w : World} {l : List Int} (e : Ending) (w' : World) (h : ListPost B w l e w') : ListPost2 B w l e w' := by
  obtain ⟨v, rfl, hO, hb⟩ := h
  rcases hO.2 with ⟨rfl, h0⟩ | ⟨g, cap, cur, rfl, r⟩
  · exact ⟨none, 0, by rw [h0], by rw [h0]; exact hO, hb⟩
  · exact ⟨_, cap, rfl, hO, hb⟩
theorem list_at {T : Nat} (s : Sys) (t : TabAt) (hT : t.T = T) (st : St) (k : Int) (w : World) (h : Tab w s t st) (hn : t.n ≤ 1024) (k0 : 0 ≤ k) (k1 : k < t.R.length) :
    Calls Tryd.prog 41 #[.pointer (some ⟨T, 0, none⟩), .int .i64 k] w (ListPost2 w.heap.size w (pre (st.1 k.toNat) t.n)) := by
  subst hT; exact (list_any s t st k w h hn k0 k1).mono ListPost.two

set_option maxRecDepth 100000 in
set_option maxHeartbeats 4000000 in
theorem solveR_ok (s : Sys) (aS : Option Addr) (cS : Nat) (w : World) (hS : Cons w aS s.cons) (hE : checkE s = 0) :
    Calls Tryd.prog 15 #[sysV s aS cS] w (SolvePost s w) := by
  have hok := check_ok hE
  have b0 := hok.vars
  have b1 := hok.sites
  have b2 := hok.fields
  have hp := prod_bd b1.1 b2.1 b1.2 b2.2
  obtain ⟨n, hnn⟩ : ∃ n, n = s.sites.toNat := ⟨_, rfl⟩
  have hn : s.sites = n := by omega
  have HNN := Lib.hid hnn
  have hn10 : n ≤ 1024 := by omega
  have hmk := make_bools hn (by omega)
  have HN := Lib.hid hn
  obtain ⟨i0, hi, hz⟩ := info_parts info57
  have HI := Lib.hid hi
  have HZ := Lib.hid hz
  obtain ⟨i37, hi37, hz37⟩ := info_parts info37
  have HI37 := Lib.hid hi37
  have HZ37 := Lib.hid hz37
  clear hn hi hz hnn hi37 hz37
  dsimp only [sysV]
  have hb : Below w.heap.size w ((w.alloc (.cells #[.int .i64 s.vars, .int .i64 s.sites, .int .i64 s.fields, .slice aS s.cons.length cS] 24)).alloc (.cells #[.slice none 0 0, .slice none 0 0] 29)) := below_two _ _ _
  have hS' := hS.below hb
  have hm := hS.len.le
  go_enter Tryd.func15, Tryd.ntmps15
  go_wp2_with (go_at_call 39; refine (checkR_any s _ _ _ hS').mono ?_; rintro e w1 ⟨rfl, hb1⟩; obtain ⟨k1, k2⟩ := box2_keep hb1 (by simp); obtain ⟨z0, z1⟩ := size_box2 hb1; have kb : Blk w1 (w.heap.size + 1) 29 #[.slice none 0 0, .slice none 0 0] := by have hq := Blk.new (w.alloc (.cells #[.int .i64 s.vars, .int .i64 s.sites, .int .i64 s.fields, .slice aS s.cons.length cS] 24)) 29 #[.slice none 0 0, .slice none 0 0]; rw [World.size_alloc] at hq; exact hq.below hb1)
  have HS1 := Lib.hid (hS'.below hb1)
  have HB1 := Lib.hid (below_box2 hb1)
  have hR : ((rowsOf s : Nat) : Int) = s.vars + s.sites * s.fields := by unfold rowsOf; omega
  have HR := Lib.hid hR
  have hR2 : rowsOf s ≤ 131072 := by have := hok.prod; omega
  have hVr : s.vars.toNat ≤ rowsOf s := by omega
  have KB := Lib.hid kb
  clear hb1 hS' hS hb k2 kb
  go_loopg [7] (rowsOf s) (fun g i wr => ∃ (k : Nat) (R : List Nat) (hv : Value), k ≤ rowsOf s ∧ g = rowsOf s - k ∧ i = .int .i64 k ∧ Hid (Below w1.heap.size w1 wr) ∧ Hid (Made wr w1.heap.size s w1.heap.size aS cS n k hv R))
  case atStart => exact ⟨0, [], _, Nat.zero_le _, rfl, rfl, (Below.refl _ _).alloc (Nat.le_refl _) _, Made.start _ _ _ _ _⟩
  case round =>
    obtain ⟨k, R, hv, hk, rfl, rfl, hB, hM⟩ := hrel
    have j1 : ∀ j, wr.cell? ⟨w.heap.size, j, none⟩ = #[.int .i64 s.vars, .int .i64 s.sites, .int .i64 s.fields, .slice aS s.cons.length cS][j]? := fun j => (hB.out.cell (p := ⟨w.heap.size, j, none⟩) z0).trans (k1 j)
    have hsz := hB.out.size
    have y0 : w.heap.size < wr.heap.size := by omega
    have y1 : w1.heap.size < wr.heap.size := hM.out.blk.lt
    have c1 : wr.cell? ⟨w1.heap.size, 4, none⟩ = some hv := hM.out.blk.cell 4
    by_cases hlt : k < rowsOf s
    · have hlt2 : (k : Int) < s.vars + s.sites * s.fields := by omega
      have H0 : wr.drew.ownsRow w1.heap.size 57 1 hv k (R.map fun r => .slice (some ⟨r, 0, none⟩) n n) := hM.out.own
      have HO := Lib.hid (((H0.alloc (.cells (rowCells n fun _ => false) 4)).alloc (.cells #[.slice (some ⟨wr.heap.size, 0, none⟩) n n] 57)))
      have HT : Hid (∀ w2, (((wr.drew.alloc (.cells (rowCells n fun _ => false) 4)).alloc (.cells #[.slice (some ⟨wr.heap.size, 0, none⟩) n n] 57))).grownBy w2 hv.ownBlock → w2.cell? ⟨w1.heap.size, 4, none⟩ = some hv ∧ w2.frozen? ⟨w1.heap.size, 4, none⟩ = false) := fun w2 hg => by
        have hb0 : Blk wr.drew w1.heap.size 56 _ := hM.out.blk
        have hb1 := (hb0.below (below_two wr.drew (.cells (rowCells n fun _ => false) 4) (.cells #[.slice (some ⟨wr.heap.size, 0, none⟩) n n] 57))).grown hg (own_ne_blk hM.out.own hM.out.blk (by decide))
        exact ⟨hb1.cell 4, hb1.frozen 4⟩
      clear hR H0 hp
      go_wp2
      go_region_law (refine step_append1 rfl (.tmp 37) (.tmp 41) 54 57 i0 24 (.slice none 0 0) rfl Tryd.underlying54 HI.out HZ.out rfl w1.heap.size hv k _ rfl HO.out (wr.heap.size + 1) 1 _ rfl (World.cell?_alloc_at _ _ _ _ (by simp)) rfl (by omega) (by decide) (by simp; omega) ?_; intro g cap w2 hown hgrow hat hlg; obtain ⟨e1, e2⟩ := HT.out _ hgrow)
      all_goals
        obtain ⟨m1, m2⟩ := hM.out.step (Nat.le_of_lt y1) hown hgrow
        have M1 := Lib.hid m1
        have M2 := Lib.hid (hB.out.trans m2)
        clear m1 m2 hown hgrow e1 e2 HT HO
        go_wp2
        go_roundg (rowsOf s - (k + 1))
        case measure => omega
        case rel => exact ⟨k + 1, _, _, by omega, rfl, by go_num, M2, M1⟩
    · have hge : ¬ (k : Int) < s.vars + s.sites * s.fields := by omega
      obtain rfl : k = rowsOf s := by omega
      obtain ⟨wA, rfl⟩ : ∃ wA : World, wA = wr := ⟨_, rfl⟩
      obtain ⟨t, tT, tn, tR, town, hT⟩ := hM.out.tab HN.out
      have TT := Lib.hid tT
      subst tn
      have TR := Lib.hid tR
      have TO := Lib.hid town
      have HT := Lib.hid hT
      have ok : Hid (TabOk s t) := ⟨b0, b1.2, b2, by rw [tR]; exact hR⟩
      have BW := hB
      clear tT tR town hT hM hB c1 hR hp hmk j1 hsz y0 y1
      go_wp2
      go_loopg [] (meas s t.n (fun _ _ => false, true)) (fun g wo => ∃ st : St, g = meas s t.n st ∧ Hid (Only t.own wA wo) ∧ Hid (Tab wo s t st) ∧ Hid (Sound s t.n st.1) ∧ Hid (st.2 = false → Sat s t.n st.1))
      case atStart => exact ⟨_, rfl, Only.refl _ _, HT, sound_start s t.n, fun h => by cases h⟩
      case round =>
        obtain ⟨st, rfl, hO, hT, hSo, hSa⟩ := hrel
        have BO : Hid (Below w1.heap.size w1 wr) := BW.out.trans (hO.out.to_below BW.out.size TO.out)
        have f5 : wr.frozen? ⟨w1.heap.size, 5, none⟩ = false := by rw [← TT.out]; exact hT.out.blk.frozen 5
        have c5 : wr.cell? ⟨w1.heap.size, 5, none⟩ = some (.bool st.2) := by rw [← TT.out]; exact hT.out.blk.cell 5
        have hsz := BO.out.size
        have y0 : w.heap.size < wr.heap.size := by omega
        have y1 : w1.heap.size < wr.heap.size := by rw [← TT.out]; exact hT.out.blk.lt
        have j1 : ∀ j, wr.cell? ⟨w.heap.size, j, none⟩ = #[.int .i64 s.vars, .int .i64 s.sites, .int .i64 s.fields, .slice aS s.cons.length cS][j]? := fun j => (BO.out.cell (p := ⟨w.heap.size, j, none⟩) z0).trans (k1 j)
        have hne : ¬ w1.heap.size = w.heap.size := by omega
        cases hf : st.2
        · rw [hf] at c5
          have HL : Hid (IsLeast s t.n st.1) := ⟨hSa.out hf, hSo.out⟩
          clear hf
          have hszO := BO.out.size
          obtain ⟨wB, rfl⟩ : ∃ wB : World, wB = wr := ⟨_, rfl⟩
          have KBB := Lib.hid (KB.out.below (BO.out.mono (Nat.le_refl _)))
          go_wp2
          clear f5 c5
          go_loopg [10] (rowsOf s) (fun g i wr => ∃ (k : Nat) (pv pc : Value), k ≤ rowsOf s ∧ g = rowsOf s - k ∧ i = .int .i64 k ∧ Hid (Below wB.heap.size wB wr) ∧ Hid (Gath wr wB.heap.size wB.heap.size s t.n st.1 k pv pc))
          case atStart => exact ⟨0, _, _, Nat.zero_le _, rfl, rfl, (Below.refl _ _).alloc (Nat.le_refl _) _, Gath.start _ _ _ _⟩
          case round =>
            obtain ⟨k, pv, pc, hk2, rfl, rfl, hBB, hG⟩ := hrel
            have i1 : ∀ j, wr.cell? ⟨w.heap.size, j, none⟩ = #[.int .i64 s.vars, .int .i64 s.sites, .int .i64 s.fields, .slice aS s.cons.length cS][j]? := fun j => (hBB.out.cell (p := ⟨w.heap.size, j, none⟩) y0).trans (j1 j)
            have d0 : wr.cell? ⟨wB.heap.size, 0, none⟩ = some pv := hG.out.blk.cell 0
            have d1 : wr.cell? ⟨wB.heap.size, 1, none⟩ = some pc := hG.out.blk.cell 1
            have hTw : Hid (Tab wr s t st) := hT.out.below hBB.out
            have hszP : wB.heap.size ≤ wr.heap.size := hBB.out.size
            clear j1
            by_cases hlt4 : k < rowsOf s
            · have hlt5 : (k : Int) < s.vars + s.sites * s.fields := by have := HR.out; omega
              by_cases hV : (k : Int) < s.vars
              · have hmin : Hid (min k s.vars.toNat = k) := by unfold Hid; omega
                have hvr := hG.out.vs
                rw [hmin.out] at hvr
                obtain ⟨vs, hov, hor⟩ := hvr
                have hkl : ((List.range k).map fun r => pre (st.1 r) t.n).length = k := by simp
                rw [hkl] at hov
                have HOR := Lib.hid hor
                have HOV := Lib.hid hov
                clear hov hor hkl
                go_wp2
                go_region_law (first | (refine step_append1 rfl (.tmp 76) (.tmp 80) 27 37 i37 24 (.slice none 0 0) rfl Tryd.underlying27 HI37.out HZ37.out rfl wB.heap.size pv k vs rfl (HOW.out.alloc _) w2.heap.size 1 (.slice ua (pre (st.1 k) t.n).length uc) rfl (World.cell?_alloc_new _ _ _ _) HU1.out (by omega) (by decide) HPW.out ?_; intro g cap w3 hown hgrow hat hlg; obtain ⟨⟨e1, e2⟩, ⟨e3, e4⟩⟩ := hG.out.cells HB2.out hgrow (own_type (HOW.out.alloc _))) | (go_simp; go_at_call 41; refine (list_at s t TT.out st k _ hTw.out.drew hn10 (by omega) (by rw [TR.out]; omega)).mono ?_; rintro e w2 ⟨ua, uc, rfl, hU, hB2⟩; have HB2 : Hid (Below wr.heap.size wr w2) := below_un_drew hB2; have e0 : w2.cell? ⟨wB.heap.size, 0, none⟩ = some pv := cell_keep HB2.out d0; have HU : Hid (OwnInts wB.heap.size w2 (.slice ua (pre (st.1 k) t.n).length uc) (pre (st.1 k) t.n)) := hU.base hszP; have hz2 : wB.heap.size < w2.heap.size := Nat.lt_of_lt_of_le hG.out.blk.lt HB2.out.size; have HU1 := Lib.hid (own_one hU); have HOW := Lib.hid (own_below HOV.out HB2.out); have HPW : Hid (wB.heap.size ≤ (w2.alloc (.cells #[.slice ua (pre (st.1 k) t.n).length uc] 37)).heap.size) := by unfold Hid; rw [World.size_alloc]; exact Nat.le_succ_of_le (Nat.le_trans hszP HB2.out.size)))
                all_goals
                  obtain ⟨m1, m2⟩ := hG.out.stepV (by omega) (HOW.out.alloc _) (fun j l hj => by obtain ⟨u, hu, hi⟩ := HOR.out j l hj; exact ⟨u, hu, (hi.below HB2.out).below ((Below.refl _ _).alloc (Nat.le_refl _) _)⟩) (HB2.out.alloc HB2.out.size _) (HU.out.below ((Below.refl _ _).alloc (Nat.le_refl _) _)) hgrow hown (hat.imp_right fun e => Nat.le_of_eq e.symm)
                  have M1 := Lib.hid m1
                  have M2 := Lib.hid (hBB.out.trans m2)
                  clear m1 m2 hgrow hown hat hlg e0 e1 e2 e3 e4 hU hB2
                  go_wp2
                  go_roundg (rowsOf s - (k + 1))
                  case measure => omega
                  case rel => exact ⟨k + 1, _, _, by omega, rfl, by go_num, M2, M1⟩
              · have hkv : s.vars.toNat ≤ k := by omega
                have hvr := hG.out.cs
                obtain ⟨vs, hov, hor⟩ := hvr
                have hkl : ((List.range (k - s.vars.toNat)).map fun c => pre (st.1 (s.vars.toNat + c)) t.n).length = k - s.vars.toNat := by simp
                rw [hkl] at hov
                have HOR := Lib.hid hor
                have HOV := Lib.hid hov
                clear hov hor hkl
                go_wp2
                go_region_law (first | (refine step_append1 rfl (.tmp 84) (.tmp 88) 27 37 i37 24 (.slice none 0 0) rfl Tryd.underlying27 HI37.out HZ37.out rfl wB.heap.size pc (k - s.vars.toNat) vs rfl (HOW.out.alloc _) w2.heap.size 1 (.slice ua (pre (st.1 k) t.n).length uc) rfl (World.cell?_alloc_new _ _ _ _) HU1.out (by omega) (by decide) HPW.out ?_; intro g cap w3 hown hgrow hat hlg; obtain ⟨⟨e1, e2⟩, ⟨e3, e4⟩⟩ := hG.out.cells HB2.out hgrow (own_type (HOW.out.alloc _))) | (go_simp; go_at_call 41; refine (list_at s t TT.out st k _ hTw.out.drew hn10 (by omega) (by rw [TR.out]; omega)).mono ?_; rintro e w2 ⟨ua, uc, rfl, hU, hB2⟩; have HB2 : Hid (Below wr.heap.size wr w2) := below_un_drew hB2; have e0 : w2.cell? ⟨wB.heap.size, 1, none⟩ = some pc := cell_keep HB2.out d1; have HU : Hid (OwnInts wB.heap.size w2 (.slice ua (pre (st.1 k) t.n).length uc) (pre (st.1 k) t.n)) := hU.base hszP; have hz2 : wB.heap.size < w2.heap.size := Nat.lt_of_lt_of_le hG.out.blk.lt HB2.out.size; have HU1 := Lib.hid (own_one hU); have HOW := Lib.hid (own_below HOV.out HB2.out); have HPW : Hid (wB.heap.size ≤ (w2.alloc (.cells #[.slice ua (pre (st.1 k) t.n).length uc] 37)).heap.size) := by unfold Hid; rw [World.size_alloc]; exact Nat.le_succ_of_le (Nat.le_trans hszP HB2.out.size)))
                all_goals
                  obtain ⟨m1, m2⟩ := hG.out.stepC (by omega) (HOW.out.alloc _) (fun j l hj => by obtain ⟨u, hu, hi⟩ := HOR.out j l hj; exact ⟨u, hu, (hi.below HB2.out).below ((Below.refl _ _).alloc (Nat.le_refl _) _)⟩) (HB2.out.alloc HB2.out.size _) (HU.out.below ((Below.refl _ _).alloc (Nat.le_refl _) _)) hgrow hown (hat.imp_right fun e => Nat.le_of_eq e.symm)
                  have M1 := Lib.hid m1
                  have M2 := Lib.hid (hBB.out.trans m2)
                  clear m1 m2 hgrow hown hat hlg e0 e1 e2 e3 e4 hU hB2
                  go_wp2
                  go_roundg (rowsOf s - (k + 1))
                  case measure => omega
                  case rel => exact ⟨k + 1, _, _, by omega, rfl, by go_num, M2, M1⟩
            · obtain rfl : k = rowsOf s := by omega
              have hge4 : ¬ ((rowsOf s : Nat) : Int) < s.vars + s.sites * s.fields := by have := HR.out; omega
              have kb : Blk wr (w.heap.size + 1) 29 #[.slice none 0 0, .slice none 0 0] := KBB.out.below hBB.out
              have x0 : wr.cell? ⟨w.heap.size + 1, 0, none⟩ = some (.slice none 0 0) := kb.cell 0
              have x1 : wr.cell? ⟨w.heap.size + 1, 1, none⟩ = some (.slice none 0 0) := kb.cell 1
              have f0 : wr.frozen? ⟨w.heap.size + 1, 0, none⟩ = false := kb.frozen 0
              have f1 : wr.frozen? ⟨w.heap.size + 1, 1, none⟩ = false := kb.frozen 1
              have KB2 := Lib.hid kb
              have hpl : ∀ f, (pre f t.n).length ≤ 1000000 := fun f => by have := pre_len f t.n; omega
              have hvl : min (rowsOf s) s.vars.toNat = s.vars.toNat := by omega
              have hcl : rowsOf s - s.vars.toNat = (s.sites * s.fields).toNat := by have := HR.out; omega
              have hgv := hG.out.vs
              have hgc := hG.out.cs
              rw [hvl] at hgv
              rw [hcl] at hgc
              obtain ⟨va, vc, rfl, hrv⟩ := rows_of_own hgv (by rw [List.length_map, List.length_range]; omega) (fun l hl => by obtain ⟨r, _, rfl⟩ := List.mem_map.1 hl; exact hpl _)
              obtain ⟨ca, cc, rfl, hrc⟩ := rows_of_own hgc (by rw [List.length_map, List.length_range]; omega) (fun l hl => by obtain ⟨r, _, rfl⟩ := List.mem_map.1 hl; exact hpl _)
              have HGV := Lib.hid hgv
              have HGC := Lib.hid hgc
              have HPL := Lib.hid hpl
              have HX := Lib.hid (And.intro x0 x1)
              have HBF := Lib.hid (HB1.out.trans (((BO.out.mono (Nat.le_refl _)).trans (hBB.out.mono hsz)).mono (Nat.le_of_lt z0)))
              clear kb hvl hcl hgv hgc hpl hrv hrc
              go_wp2
              obtain ⟨r0, r1⟩ := two_set HX.out.1 HX.out.2 (.slice va s.vars.toNat vc) (.slice ca (s.sites * s.fields).toNat cc)
              obtain ⟨l1, l2⟩ := pts_lens s t.n st.1
              have b1 := KB2.out.set_ 0 (.slice va s.vars.toNat vc)
              refine bodyPost_ret (v := .tuple #[.agg #[.slice va s.vars.toNat vc, .slice ca (s.sites * s.fields).toNat cc], .int .i64 0]) (by simp [results, Tryd.results15, go_sem, r0, r1]) rfl
                ⟨ptsOf s t.n st.1, va, ca, vc, cc, by rw [hE, ptsV, l1, l2], ?_, ?_, (HBF.out.setCell (by show w.heap.size ≤ w.heap.size + 1; omega) _).setCell (by show w.heap.size ≤ w.heap.size + 1; omega) _, fun h => absurd hE h, fun _ => ⟨st.1, by rw [← HNN.out]; exact HL.out, by rw [← HNN.out]⟩⟩
              · refine rows_of_own' (B := wB.heap.size) (n := s.vars.toNat) (c := vc) ?_ (by rw [l1]; omega) fun l hl => by obtain ⟨r, _, rfl⟩ := List.mem_map.1 hl; exact HPL.out _
                have := (HGV.out.far KB2.out (by decide) (by decide) 0 (.slice va s.vars.toNat vc)).far b1 (by decide) (by decide) 1 (.slice ca (s.sites * s.fields).toNat cc)
                simp only [List.length_map, List.length_range] at this
                exact this
              · refine rows_of_own' (B := wB.heap.size) (n := (s.sites * s.fields).toNat) (c := cc) ?_ (by rw [l2]; omega) fun l hl => by obtain ⟨r, _, rfl⟩ := List.mem_map.1 hl; exact HPL.out _
                have := (HGC.out.far KB2.out (by decide) (by decide) 0 (.slice va s.vars.toNat vc)).far b1 (by decide) (by decide) 1 (.slice ca (s.sites * s.fields).toNat cc)
                simp only [List.length_map, List.length_range] at this
                exact this
        · rw [hf] at c5
          have HM := Lib.hid (meas_pass hok HN.out (fun c hc => con_ok (hok.cons c hc)) hf)
          have HT0 : Hid (Tab (wr.setCell ⟨w1.heap.size, 5, none⟩ (.bool false)) s t (st.1, false)) := by unfold Hid; rw [← TT.out]; exact hT.out.flag false
          have HO0 : Hid (Only t.own wA (wr.setCell ⟨w1.heap.size, 5, none⟩ (.bool false))) := by unfold Hid; rw [← TT.out]; exact hO.out.setCell (.inl (.inl rfl)) _
          obtain ⟨wB, rfl⟩ : ∃ wB : World, wB = wr := ⟨_, rfl⟩
          clear hf hO hT
          go_wp2
          go_loopg [8] s.cons.length (fun g i wi => ∃ (k : Nat) (st' : St), k ≤ s.cons.length ∧ g = s.cons.length - k ∧ i = .int .i64 k ∧ Hid (Only t.own wA wi) ∧ Hid (Tab wi s t st') ∧ Hid (passS s t.n s.cons (st.1, false) = passS s t.n (s.cons.drop k) st'))
          case atStart => exact ⟨0, _, Nat.zero_le _, rfl, rfl, HO0, HT0, rfl⟩
          case round =>
            obtain ⟨k, st', hk2, rfl, rfl, hO, hT, hP⟩ := hrel
            have BI : Hid (Below w1.heap.size w1 wr) := BW.out.trans (hO.out.to_below BW.out.size TO.out)
            have i1 : ∀ j, wr.cell? ⟨w.heap.size, j, none⟩ = #[.int .i64 s.vars, .int .i64 s.sites, .int .i64 s.fields, .slice aS s.cons.length cS][j]? := fun j => (BI.out.cell (p := ⟨w.heap.size, j, none⟩) z0).trans (k1 j)
            clear j1 f5 c5 y0 y1 HT0 HO0 hsz
            by_cases hlt3 : k < s.cons.length
            · obtain ⟨b, o, a', c', rfl, e0, e1, e2, e3, e4, hi0⟩ := HS1.out.at_ k s.cons[k] (get_at hlt3)
              have E0 := cell_keep (BI.out.mono (Nat.le_refl _)) e0
              have E1 := cell_keep (BI.out.mono (Nat.le_refl _)) e1
              have E2 := cell_keep (BI.out.mono (Nat.le_refl _)) e2
              have E3 := cell_keep (BI.out.mono (Nat.le_refl _)) e3
              have E4 := cell_keep (BI.out.mono (Nat.le_refl _)) e4
              have hco := Lib.hid (con_ok (hok.cons _ (List.getElem_mem hlt3)))
              have hP2 : Hid (passS s t.n s.cons (st.1, false) = passS s t.n (s.cons.drop (k + 1)) (applyS s t.n s.cons[k] st')) := by unfold Hid; rw [hP.out, drop_at hlt3]; rfl
              clear e0 e1 e2 e3 e4 hP
              go_wp2_with (go_at_call 40; refine (apply_at s t TT.out st' s.cons[k] a' c' w1 wr hT.out ok.out hi0 BI.out TO.out hco.out).mono ?_; rintro e w2 ⟨rfl, hO2, hT2⟩)
              go_roundg (s.cons.length - (k + 1))
              case measure => omega
              case rel => exact ⟨k + 1, _, by omega, rfl, by go_num, hO.out.trans hO2, hT2, hP2⟩
            · have hP2 : Hid (st' = passS s t.n s.cons (st.1, false)) := by unfold Hid; rw [hP.out, drop_end hlt3]; rfl
              clear hP
              go_wp2
              go_roundg (meas s t.n st')
              case measure => rw [hP2.out]; exact HM.out
              case rel => exact ⟨st', rfl, hO, hT, by rw [hP2.out]; exact sound_pass hSo.out false, fun e => by rw [hP2.out] at e ⊢; exact pass_sat hok HN.out (fun c hc => con_ok (hok.cons c hc)) e⟩

theorem solveR_any (s : Sys) (aS : Option Addr) (cS : Nat) (w : World) (hS : Cons w aS s.cons) : Calls Tryd.prog 15 #[sysV s aS cS] w (SolvePost s w) := by
  by_cases h : checkE s = 0
  · exact solveR_ok s aS cS w hS h
  · exact solveR_err s aS cS w hS h
end Go.Proofs.YtcfiohphjlohhaaDoor
