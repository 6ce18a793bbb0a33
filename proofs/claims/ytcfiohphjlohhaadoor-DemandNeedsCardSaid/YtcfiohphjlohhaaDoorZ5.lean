/- Z5: D10 in one text (merge.py) -/
import Derived.Test.YtcfiohphjlohhaaDoorZ4
import Derived.Deep.RegionHeld3
/- demand.visit -/
namespace Go.Proofs.YtcfiohphjlohhaaDoor
open Go.RowKit

theorem info22 : (Tryd.prog.info? 22).map (fun i => (i.zero, i.size, i.bytes)) = some (some (.slice none 0 0), 1, 24) := by kernel_rfl
def tosCells (n : Nat) : Array Value := ((List.range n).map fun _ => Value.slice none 0 0).toArray
theorem tosCells_at {n b : Nat} (h : b < n) : (tosCells n)[b]? = some (.slice none 0 0) := by unfold tosCells; simp [h]
theorem tosCells_size (n : Nat) : (tosCells n).size = n := by simp [tosCells]
theorem run_tos {n : Nat} {k : Int} (hn : k = n) (h : n ≤ 65536) (w : World) :
    (Instr.makeSlice 92 (.int .i64 k) (.int .i64 k)).run Tryd.prog w = .ok (.slice (some ⟨w.heap.size, 0, none⟩) n n) (w.alloc (.cells (tosCells n) 22)) := by
  have e : madeCells #[.slice none 0 0] n = tosCells n := by
    apply Array.ext_getElem?
    intro i
    unfold madeCells tosCells
    by_cases h : i < n
    · simp [h, Nat.mod_one]
    · simp [h]
  rw [hn, ← e]
  exact run_make_row' (P := Tryd.prog) 92 22 (.slice none 0 0) 24 Tryd.underlying92 info22 rfl .i64 .i64 n (by omega) (by omega) w
theorem zero22 (w : World) : (zeroValue 22).run Tryd.prog w = .ok (.slice none 0 0) w := by kernel_rfl
theorem zero4 (w : World) : (zeroValue 4).run Tryd.prog w = .ok (.bool false) w := by kernel_rfl
def twoB (a b : Nat) : Nat → Prop := fun k => k = a ∨ k = b
theorem cnt_le (n : Nat) (f : Nat → Bool) : cnt n f ≤ n := by
  unfold cnt
  induction n with
  | zero => exact Nat.le_refl _
  | succ n ih =>
    unfold sumTo
    show _ + (if f n = true then 0 else 1) ≤ n + 1
    split <;> omega
theorem own_cap {B : Nat} {w : World} {g cap n : Nat} {l : List Int} (h : OwnInts B w (.slice (some ⟨g, 0, none⟩) n cap) l) : l.length ≤ cap := by
  rcases h.2 with ⟨e, _⟩ | ⟨g', cap', cur, e, _, _, h1, _⟩
  · cases e
  · injection e with _ e2 e3
    subst e3
    exact h1
/-- what visit returns -/
def VisitPost (s : Sys) (v : Int) (w : World) (e : Ending) (w' : World) : Prop :=
  ∃ (r lm : Nat) (lf : Int → Option Value), e = .returned (.tuple #[.slice (some ⟨r, 0, none⟩) s.vars.toNat s.vars.toNat, .map (some lm)]) ∧ Blk w' r 4 (rowCells s.vars.toNat (vis s v)) ∧ IMap w' lm lf ∧ (∀ f, (lf f).getD (.bool false) = .bool (loadsV s v f)) ∧ Below w.heap.size w w'

set_option maxRecDepth 100000 in
set_option maxHeartbeats 16000000 in
theorem visit_any (s : Sys) (v : Int) (aS : Option Addr) (cS : Nat) (w : World) (hS : Cons w aS s.cons) (hR : rightE s v = 0) :
    Calls Tryd.prog 55 #[sysV s aS cS, .int .i64 v] w (VisitPost s v w) := by
  obtain ⟨hE, hv0, hv1⟩ := rightE_ok hR
  have hok := check_ok hE
  obtain ⟨n, hn⟩ : ∃ n : Nat, s.vars = n := ⟨s.vars.toNat, by omega⟩
  have hn6 : n ≤ 65536 := by have := hok.vars; omega
  have hmk := run_bools hn hn6
  have hmt := run_tos hn hn6
  have hmm := @run_makeMap Tryd.prog
  have hm := hS.len.le
  have hm2 := check_len hE
  have HOK := Lib.hid hok
  have HE := Lib.hid hE
  have HRI := Lib.hid hR
  have hvn : v < (n : Int) := by omega
  have HN := Lib.hid hn
  have HS := Lib.hid hS
  obtain ⟨i0, hi0, hz0⟩ := info_parts info39
  have HI := Lib.hid hi0
  have HZ := Lib.hid hz0
  clear hS hok hE hR hn hi0 hz0
  dsimp only [sysV]
  go_enter Tryd.func55, Tryd.ntmps55
  go_wp2
  obtain ⟨w5, hw5⟩ : ∃ w5, w5 = (((w.alloc (.cells #[.int .i64 s.vars, .int .i64 s.sites, .int .i64 s.fields, .slice aS s.cons.length cS] 24)).alloc (.cells #[.slice none 0 0] 57)).alloc (.cells (tosCells n) 22)).alloc (.map #[] 0) := ⟨_, rfl⟩
  have hs3 : (((w.alloc (.cells #[.int .i64 s.vars, .int .i64 s.sites, .int .i64 s.fields, .slice aS s.cons.length cS] 24)).alloc (.cells #[.slice none 0 0] 57)).alloc (.cells (tosCells n) 22)).heap.size = w.heap.size + 1 + 1 + 1 := by simp only [World.size_alloc]
  have hs5 : w5.heap.size = w.heap.size + 1 + 1 + 1 + 1 := by rw [hw5]; simp only [World.size_alloc]
  have K0 : Hid (Blk w5 w.heap.size 24 #[.int .i64 s.vars, .int .i64 s.sites, .int .i64 s.fields, .slice aS s.cons.length cS]) := by rw [hw5]; exact (((Blk.new w 24 _).al _).al _).below ((Below.refl _ _).alloc (Nat.le_refl _) _)
  have K1 : Hid (Blk w5 (w.heap.size + 1) 57 #[.slice none 0 0]) := by
    rw [hw5]
    have := ((Blk.new (w.alloc (.cells #[.int .i64 s.vars, .int .i64 s.sites, .int .i64 s.fields, .slice aS s.cons.length cS] 24)) 57 #[.slice none 0 0]).al (.cells (tosCells n) 22)).below ((Below.refl _ _).alloc (Nat.le_refl _) (.map #[] 0))
    rw [World.size_alloc] at this; exact this
  have K2 : Hid (Blk w5 (w.heap.size + 1 + 1) 22 (tosCells n)) := by
    rw [hw5]
    have := (Blk.new ((w.alloc (.cells #[.int .i64 s.vars, .int .i64 s.sites, .int .i64 s.fields, .slice aS s.cons.length cS] 24)).alloc (.cells #[.slice none 0 0] 57)) 22 (tosCells n)).below ((Below.refl _ _).alloc (Nat.le_refl _) (.map #[] 0))
    simp only [World.size_alloc] at this; exact this
  have K3 : Hid (IMap w5 (w.heap.size + 1 + 1 + 1) (fun _ => none)) := by
    rw [hw5]
    have := IMap.made (((w.alloc (.cells #[.int .i64 s.vars, .int .i64 s.sites, .int .i64 s.fields, .slice aS s.cons.length cS] 24)).alloc (.cells #[.slice none 0 0] 57)).alloc (.cells (tosCells n) 22))
    rw [hs3] at this; exact this
  have HB5 : Hid (Below w.heap.size w w5) := by
    rw [hw5]
    exact (below_three w _ _ _).alloc (by rw [hs3]; omega) _
  have T0 : Hid (Tabs w5 w5 s n (w.heap.size + 1 + 1) (w.heap.size + 1 + 1 + 1) 0 (fun _ => (.slice none 0 0, [])) (fun _ => none) (tosCells n)) :=
    ⟨FamR.start _ _, K2.out, tosCells_size n, fun b hb => tosCells_at hb, K3.out, fun k => rfl, fun i => by simp⟩
  have S5 := Lib.hid (HS.out.below HB5.out)
  have HS5 := Lib.hid hs5
  rw [← hw5]
  clear hw5 hs3 hmt
  go_loopg [24] s.cons.length (fun g i wr => ∃ (j : Nat) (F : FamF) (m : Int → Option Value) (arr : Array Value), j ≤ s.cons.length ∧ g = s.cons.length - j ∧ i = .int .i64 j ∧ Hid (Only (twoB (w.heap.size + 1 + 1) (w.heap.size + 1 + 1 + 1)) w5 wr) ∧ Hid (Tabs w5 wr s n (w.heap.size + 1 + 1) (w.heap.size + 1 + 1 + 1) j F m arr))
  case atStart => exact ⟨0, _, _, _, Nat.zero_le _, rfl, rfl, Only.refl _ _, T0⟩
  case round =>
    obtain ⟨j, F, m, arr, hj, rfl, rfl, hO, hT⟩ := hrel
    have n0 : ¬ twoB (w.heap.size + 1 + 1) (w.heap.size + 1 + 1 + 1) w.heap.size := by unfold twoB; omega
    have hBw : Hid (Below w.heap.size w wr) := HB5.out.trans (hO.out.to_below HB5.out.size fun k hk => by rcases hk with hk | hk <;> omega)
    have hszr := hO.out.size
    by_cases hlt : j < s.cons.length
    · have hco := con_ok (HOK.out.cons _ (List.getElem_mem hlt))
      obtain ⟨b, o, a', c', rfl, e0, e1, e2, e3, e4, hi⟩ := HS.out.at_ j s.cons[j] (get_at hlt)
      have HI5 := Lib.hid (hi.below HB5.out)
      replace e0 := cell_keep' hBw.out e0
      replace e1 := cell_keep' hBw.out e1
      replace e2 := cell_keep' hBw.out e2
      replace e3 := cell_keep' hBw.out e3
      replace e4 := cell_keep' hBw.out e4
      have hb0 := hco.b.1
      have hbn : s.cons[j].b < (n : Int) := by have := HN.out; have := hco.b.2; omega
      clear hi hco
      by_cases hk4 : s.cons[j].kind = 4
      · have hk4' : (s.cons[j].kind == 4) = true := by simpa using hk4
        obtain ⟨vM, hvM⟩ : ∃ vM, vM = (F (.inr s.cons[j].field)).1 := ⟨_, rfl⟩
        obtain ⟨eM, heM⟩ : ∃ eM, eM = (F (.inr s.cons[j].field)).2 := ⟨_, rfl⟩
        have H0 : wr.ownsRow w5.heap.size 39 5 vM eM.length (eM.flatMap conCells) := by rw [hvM, heM]; exact hT.out.rows.own _
        have hlv : Hid (∀ g, vM.ownBlock = some g → g < wr.heap.size) := fun g hg => (World.ownsRow.lt H0 g hg).2
        have HO : Hid ((((wr.alloc (.cells #[.int .i64 s.cons[j].kind, .int .i64 s.cons[j].a, .int .i64 s.cons[j].b, .int .i64 s.cons[j].field, .slice a' s.cons[j].set.length c'] 39)).alloc (.cells #[.int .i64 s.cons[j].kind, .int .i64 s.cons[j].a, .int .i64 s.cons[j].b, .int .i64 s.cons[j].field, .slice a' s.cons[j].set.length c'] 39)).drew).ownsRow w5.heap.size 39 5 vM eM.length (eM.flatMap conCells)) := (H0.alloc _).alloc _
        have hel : eM.length ≤ 200000 := by rw [heM]; have := hT.out.len (.inr s.cons[j].field); omega
        have HU : Hid (Blk (((wr.alloc (.cells #[.int .i64 s.cons[j].kind, .int .i64 s.cons[j].a, .int .i64 s.cons[j].b, .int .i64 s.cons[j].field, .slice a' s.cons[j].set.length c'] 39)).alloc (.cells #[.int .i64 s.cons[j].kind, .int .i64 s.cons[j].a, .int .i64 s.cons[j].b, .int .i64 s.cons[j].field, .slice a' s.cons[j].set.length c'] 39)).drew) (wr.heap.size + 1) 39 #[.int .i64 s.cons[j].kind, .int .i64 s.cons[j].a, .int .i64 s.cons[j].b, .int .i64 s.cons[j].field, .slice a' s.cons[j].set.length c']) := by
          have := Blk.new (wr.alloc (.cells #[.int .i64 s.cons[j].kind, .int .i64 s.cons[j].a, .int .i64 s.cons[j].b, .int .i64 s.cons[j].field, .slice a' s.cons[j].set.length c'] 39)) 39 #[.int .i64 s.cons[j].kind, .int .i64 s.cons[j].a, .int .i64 s.cons[j].b, .int .i64 s.cons[j].field, .slice a' s.cons[j].set.length c']
          rw [World.size_alloc] at this; exact this
        have hbx : Below wr.heap.size wr (((wr.alloc (.cells #[.int .i64 s.cons[j].kind, .int .i64 s.cons[j].a, .int .i64 s.cons[j].b, .int .i64 s.cons[j].field, .slice a' s.cons[j].set.length c'] 39)).alloc (.cells #[.int .i64 s.cons[j].kind, .int .i64 s.cons[j].a, .int .i64 s.cons[j].b, .int .i64 s.cons[j].field, .slice a' s.cons[j].set.length c'] 39)).drew) := (below_two wr (.cells #[.int .i64 s.cons[j].kind, .int .i64 s.cons[j].a, .int .i64 s.cons[j].b, .int .i64 s.cons[j].field, .slice a' s.cons[j].set.length c'] 39) (.cells #[.int .i64 s.cons[j].kind, .int .i64 s.cons[j].a, .int .i64 s.cons[j].b, .int .i64 s.cons[j].field, .slice a' s.cons[j].set.length c'] 39)).drew
        have HBX := Lib.hid hbx
        have HSZ : Hid (w5.heap.size ≤ (((wr.alloc (.cells #[.int .i64 s.cons[j].kind, .int .i64 s.cons[j].a, .int .i64 s.cons[j].b, .int .i64 s.cons[j].field, .slice a' s.cons[j].set.length c'] 39)).alloc (.cells #[.int .i64 s.cons[j].kind, .int .i64 s.cons[j].a, .int .i64 s.cons[j].b, .int .i64 s.cons[j].field, .slice a' s.cons[j].set.length c'] 39)).drew).heap.size) := by
          have h1 := hO.out.size
          have h2 := hbx.size
          unfold Hid; omega
        have KC : Blk (((wr.alloc (.cells #[.int .i64 s.cons[j].kind, .int .i64 s.cons[j].a, .int .i64 s.cons[j].b, .int .i64 s.cons[j].field, .slice a' s.cons[j].set.length c'] 39)).alloc (.cells #[.int .i64 s.cons[j].kind, .int .i64 s.cons[j].a, .int .i64 s.cons[j].b, .int .i64 s.cons[j].field, .slice a' s.cons[j].set.length c'] 39)).drew) wr.heap.size 39 #[.int .i64 s.cons[j].kind, .int .i64 s.cons[j].a, .int .i64 s.cons[j].b, .int .i64 s.cons[j].field, .slice a' s.cons[j].set.length c'] := (Blk.new wr 39 #[.int .i64 s.cons[j].kind, .int .i64 s.cons[j].a, .int .i64 s.cons[j].b, .int .i64 s.cons[j].field, .slice a' s.cons[j].set.length c']).al _
        have HKC : Hid (∀ w3, (((wr.alloc (.cells #[.int .i64 s.cons[j].kind, .int .i64 s.cons[j].a, .int .i64 s.cons[j].b, .int .i64 s.cons[j].field, .slice a' s.cons[j].set.length c'] 39)).alloc (.cells #[.int .i64 s.cons[j].kind, .int .i64 s.cons[j].a, .int .i64 s.cons[j].b, .int .i64 s.cons[j].field, .slice a' s.cons[j].set.length c'] 39)).drew).grownBy w3 vM.ownBlock → ∀ x, w3.cell? ⟨wr.heap.size, x, none⟩ = #[.int .i64 s.cons[j].kind, .int .i64 s.cons[j].a, .int .i64 s.cons[j].b, .int .i64 s.cons[j].field, .slice a' s.cons[j].set.length c'][x]?) := fun w3 hg => (KC.grown hg (fun e => by have := hlv.out _ e.symm; omega)).cell
        have HIM : Hid (IMap (((wr.alloc (.cells #[.int .i64 s.cons[j].kind, .int .i64 s.cons[j].a, .int .i64 s.cons[j].b, .int .i64 s.cons[j].field, .slice a' s.cons[j].set.length c'] 39)).alloc (.cells #[.int .i64 s.cons[j].kind, .int .i64 s.cons[j].a, .int .i64 s.cons[j].b, .int .i64 s.cons[j].field, .slice a' s.cons[j].set.length c'] 39)).drew) (w.heap.size + 1 + 1 + 1) m) := hT.out.map.below HBX.out
        have L1 : (Instr.lookup 93 (.map (some (w.heap.size + 1 + 1 + 1))) (.int .i64 s.cons[j].field) false).run Tryd.prog (wr.alloc (.cells #[.int .i64 s.cons[j].kind, .int .i64 s.cons[j].a, .int .i64 s.cons[j].b, .int .i64 s.cons[j].field, .slice a' s.cons[j].set.length c'] 39)).drew = .ok vM (wr.alloc (.cells #[.int .i64 s.cons[j].kind, .int .i64 s.cons[j].a, .int .i64 s.cons[j].b, .int .i64 s.cons[j].field, .slice a' s.cons[j].set.length c'] 39)).drew := by
          have h1 := (hT.out.map.below (w' := (wr.alloc (.cells #[.int .i64 s.cons[j].kind, .int .i64 s.cons[j].a, .int .i64 s.cons[j].b, .int .i64 s.cons[j].field, .slice a' s.cons[j].set.length c'] 39)).drew) ((Below.refl wr.heap.size wr).alloc (Nat.le_refl _) (.cells #[.int .i64 s.cons[j].kind, .int .i64 s.cons[j].a, .int .i64 s.cons[j].b, .int .i64 s.cons[j].field, .slice a' s.cons[j].set.length c'] 39)).drew).look Tryd.underlying93 zero22 s.cons[j].field
          rw [hT.out.mapAt, ← hvM] at h1; exact h1
        have L2 : (Instr.lookup 93 (.map (some (w.heap.size + 1 + 1 + 1))) (.int .i64 s.cons[j].field) false).run Tryd.prog (((wr.alloc (.cells #[.int .i64 s.cons[j].kind, .int .i64 s.cons[j].a, .int .i64 s.cons[j].b, .int .i64 s.cons[j].field, .slice a' s.cons[j].set.length c'] 39)).alloc (.cells #[.int .i64 s.cons[j].kind, .int .i64 s.cons[j].a, .int .i64 s.cons[j].b, .int .i64 s.cons[j].field, .slice a' s.cons[j].set.length c'] 39)).drew) = .ok vM (((wr.alloc (.cells #[.int .i64 s.cons[j].kind, .int .i64 s.cons[j].a, .int .i64 s.cons[j].b, .int .i64 s.cons[j].field, .slice a' s.cons[j].set.length c'] 39)).alloc (.cells #[.int .i64 s.cons[j].kind, .int .i64 s.cons[j].a, .int .i64 s.cons[j].b, .int .i64 s.cons[j].field, .slice a' s.cons[j].set.length c'] 39)).drew) := by
          have h1 := HIM.out.look Tryd.underlying93 zero22 s.cons[j].field
          rw [hT.out.mapAt, ← hvM] at h1; exact h1
        have HST : Hid (∀ w3 v', (((wr.alloc (.cells #[.int .i64 s.cons[j].kind, .int .i64 s.cons[j].a, .int .i64 s.cons[j].b, .int .i64 s.cons[j].field, .slice a' s.cons[j].set.length c'] 39)).alloc (.cells #[.int .i64 s.cons[j].kind, .int .i64 s.cons[j].a, .int .i64 s.cons[j].b, .int .i64 s.cons[j].field, .slice a' s.cons[j].set.length c'] 39)).drew).grownBy w3 vM.ownBlock → ∃ w4, (Instr.mapUpdate 93 (.map (some (w.heap.size + 1 + 1 + 1))) (.int .i64 s.cons[j].field) v').run Tryd.prog w3 = .ok () w4 ∧ IMap w4 (w.heap.size + 1 + 1 + 1) (fun x => if x = s.cons[j].field then some v' else m x) ∧ Only (isB (w.heap.size + 1 + 1 + 1)) w3 w4) := fun w3 v' hg =>
          (HIM.out.grown hg (own_ne_map HO.out HIM.out)).store Tryd.underlying93 s.cons[j].field v'
        have HK4 := Lib.hid hk4
        have HVM := Lib.hid hvM
        have HEM := Lib.hid heM
        clear hk4 H0 hbx KC hvM heM
        go_wp2
        go_region_law (refine step_append5 rfl (.tmp 37) (.tmp 39) i0 _ rfl HI.out HZ.out rfl w5.heap.size vM eM.length _ rfl HO.out (wr.heap.size + 1) 1 (s.cons[j], a', c') rfl HU.out hel HSZ.out ?_; intro g cap w3 hown hgrow hat hlg; have k3 := HKC.out _ hgrow; obtain ⟨w4, hrun, him, hom⟩ := HST.out w3 (.slice (some ⟨g, 0, none⟩) (eM.length + 1) cap) hgrow)
        all_goals
          have hszw : (((wr.alloc (.cells #[.int .i64 s.cons[j].kind, .int .i64 s.cons[j].a, .int .i64 s.cons[j].b, .int .i64 s.cons[j].field, .slice a' s.cons[j].set.length c'] 39)).alloc (.cells #[.int .i64 s.cons[j].kind, .int .i64 s.cons[j].a, .int .i64 s.cons[j].b, .int .i64 s.cons[j].field, .slice a' s.cons[j].set.length c'] 39)).drew).heap.size = wr.heap.size + 1 + 1 := by show ((wr.alloc _).alloc _).heap.size = _; simp only [World.size_alloc]
          have hat2 : ∀ g', (Value.slice (some ⟨g, 0, none⟩) (eM.length + 1) cap).ownBlock = some g' → (F (.inr s.cons[j].field)).1.ownBlock = some g' ∨ (((wr.alloc (.cells #[.int .i64 s.cons[j].kind, .int .i64 s.cons[j].a, .int .i64 s.cons[j].b, .int .i64 s.cons[j].field, .slice a' s.cons[j].set.length c'] 39)).alloc (.cells #[.int .i64 s.cons[j].kind, .int .i64 s.cons[j].a, .int .i64 s.cons[j].b, .int .i64 s.cons[j].field, .slice a' s.cons[j].set.length c'] 39)).drew).heap.size ≤ g' := fun g' hg' => by
            have hgg : g = g' := by simpa [Value.ownBlock] using hg'
            subst hgg
            rw [← HVM.out, hszw]
            rcases hat with hat | hat
            · exact .inl hat
            · right; first | omega | (rw [hszw] at hat; omega)
          have M1 := Lib.hid (hT.out.stepM hlt HK4.out HBX.out HI5.out (by rw [← HEM.out]; exact hown) (by rw [← HVM.out]; exact hgrow) hat2 him hom)
          have O1 : Hid (Only (twoB (w.heap.size + 1 + 1) (w.heap.size + 1 + 1 + 1)) w5 w4) := ((hO.out.trans (Only.of_below HBX.out _)).grown hgrow fun g' hg' => (World.ownsRow.lt HO.out g' hg').1).trans (hom.mono fun k _ hk => .inr hk)
          clear hown hgrow hat hlg him hom hrun k3 L1 L2 hat2 HKC HST HIM HO HU
          go_wp2
          go_roundg (s.cons.length - (j + 1))
          case measure => omega
          case rel => exact ⟨j + 1, _, _, _, by omega, rfl, by go_num, O1, M1⟩
      · have hk4' : (s.cons[j].kind == 4) = false := by simpa using hk4
        obtain ⟨vM, hvM⟩ : ∃ vM, vM = (F (.inl s.cons[j].b.toNat)).1 := ⟨_, rfl⟩
        obtain ⟨eM, heM⟩ : ∃ eM, eM = (F (.inl s.cons[j].b.toNat)).2 := ⟨_, rfl⟩
        have H0 : wr.ownsRow w5.heap.size 39 5 vM eM.length (eM.flatMap conCells) := by rw [hvM, heM]; exact hT.out.rows.own _
        have hlv : Hid (∀ g, vM.ownBlock = some g → g < wr.heap.size) := fun g hg => (World.ownsRow.lt H0 g hg).2
        have HO : Hid ((((wr.alloc (.cells #[.int .i64 s.cons[j].kind, .int .i64 s.cons[j].a, .int .i64 s.cons[j].b, .int .i64 s.cons[j].field, .slice a' s.cons[j].set.length c'] 39)).alloc (.cells #[.int .i64 s.cons[j].kind, .int .i64 s.cons[j].a, .int .i64 s.cons[j].b, .int .i64 s.cons[j].field, .slice a' s.cons[j].set.length c'] 39)).drew).ownsRow w5.heap.size 39 5 vM eM.length (eM.flatMap conCells)) := (H0.alloc _).alloc _
        have hel : eM.length ≤ 200000 := by rw [heM]; have := hT.out.len (.inl s.cons[j].b.toNat); omega
        have HU : Hid (Blk (((wr.alloc (.cells #[.int .i64 s.cons[j].kind, .int .i64 s.cons[j].a, .int .i64 s.cons[j].b, .int .i64 s.cons[j].field, .slice a' s.cons[j].set.length c'] 39)).alloc (.cells #[.int .i64 s.cons[j].kind, .int .i64 s.cons[j].a, .int .i64 s.cons[j].b, .int .i64 s.cons[j].field, .slice a' s.cons[j].set.length c'] 39)).drew) (wr.heap.size + 1) 39 #[.int .i64 s.cons[j].kind, .int .i64 s.cons[j].a, .int .i64 s.cons[j].b, .int .i64 s.cons[j].field, .slice a' s.cons[j].set.length c']) := by
          have := Blk.new (wr.alloc (.cells #[.int .i64 s.cons[j].kind, .int .i64 s.cons[j].a, .int .i64 s.cons[j].b, .int .i64 s.cons[j].field, .slice a' s.cons[j].set.length c'] 39)) 39 #[.int .i64 s.cons[j].kind, .int .i64 s.cons[j].a, .int .i64 s.cons[j].b, .int .i64 s.cons[j].field, .slice a' s.cons[j].set.length c']
          rw [World.size_alloc] at this; exact this
        have hbx : Below wr.heap.size wr (((wr.alloc (.cells #[.int .i64 s.cons[j].kind, .int .i64 s.cons[j].a, .int .i64 s.cons[j].b, .int .i64 s.cons[j].field, .slice a' s.cons[j].set.length c'] 39)).alloc (.cells #[.int .i64 s.cons[j].kind, .int .i64 s.cons[j].a, .int .i64 s.cons[j].b, .int .i64 s.cons[j].field, .slice a' s.cons[j].set.length c'] 39)).drew) := (below_two wr (.cells #[.int .i64 s.cons[j].kind, .int .i64 s.cons[j].a, .int .i64 s.cons[j].b, .int .i64 s.cons[j].field, .slice a' s.cons[j].set.length c'] 39) (.cells #[.int .i64 s.cons[j].kind, .int .i64 s.cons[j].a, .int .i64 s.cons[j].b, .int .i64 s.cons[j].field, .slice a' s.cons[j].set.length c'] 39)).drew
        have HBX := Lib.hid hbx
        have HSZ : Hid (w5.heap.size ≤ (((wr.alloc (.cells #[.int .i64 s.cons[j].kind, .int .i64 s.cons[j].a, .int .i64 s.cons[j].b, .int .i64 s.cons[j].field, .slice a' s.cons[j].set.length c'] 39)).alloc (.cells #[.int .i64 s.cons[j].kind, .int .i64 s.cons[j].a, .int .i64 s.cons[j].b, .int .i64 s.cons[j].field, .slice a' s.cons[j].set.length c'] 39)).drew).heap.size) := by
          have h1 := hO.out.size
          have h2 := hbx.size
          unfold Hid; omega
        have KC : Blk (((wr.alloc (.cells #[.int .i64 s.cons[j].kind, .int .i64 s.cons[j].a, .int .i64 s.cons[j].b, .int .i64 s.cons[j].field, .slice a' s.cons[j].set.length c'] 39)).alloc (.cells #[.int .i64 s.cons[j].kind, .int .i64 s.cons[j].a, .int .i64 s.cons[j].b, .int .i64 s.cons[j].field, .slice a' s.cons[j].set.length c'] 39)).drew) wr.heap.size 39 #[.int .i64 s.cons[j].kind, .int .i64 s.cons[j].a, .int .i64 s.cons[j].b, .int .i64 s.cons[j].field, .slice a' s.cons[j].set.length c'] := (Blk.new wr 39 #[.int .i64 s.cons[j].kind, .int .i64 s.cons[j].a, .int .i64 s.cons[j].b, .int .i64 s.cons[j].field, .slice a' s.cons[j].set.length c']).al _
        have HKC : Hid (∀ w3, (((wr.alloc (.cells #[.int .i64 s.cons[j].kind, .int .i64 s.cons[j].a, .int .i64 s.cons[j].b, .int .i64 s.cons[j].field, .slice a' s.cons[j].set.length c'] 39)).alloc (.cells #[.int .i64 s.cons[j].kind, .int .i64 s.cons[j].a, .int .i64 s.cons[j].b, .int .i64 s.cons[j].field, .slice a' s.cons[j].set.length c'] 39)).drew).grownBy w3 vM.ownBlock → ∀ x, w3.cell? ⟨wr.heap.size, x, none⟩ = #[.int .i64 s.cons[j].kind, .int .i64 s.cons[j].a, .int .i64 s.cons[j].b, .int .i64 s.cons[j].field, .slice a' s.cons[j].set.length c'][x]?) := fun w3 hg => (KC.grown hg (fun e => by have := hlv.out _ e.symm; omega)).cell
        have cT : wr.cell? ⟨(w.heap.size + 1 + 1), s.cons[j].b.toNat, none⟩ = some vM := by rw [hT.out.to_.cell, hT.out.toAt _ (by omega), ← hvM]
        have cT2 : (((wr.alloc (.cells #[.int .i64 s.cons[j].kind, .int .i64 s.cons[j].a, .int .i64 s.cons[j].b, .int .i64 s.cons[j].field, .slice a' s.cons[j].set.length c'] 39)).alloc (.cells #[.int .i64 s.cons[j].kind, .int .i64 s.cons[j].a, .int .i64 s.cons[j].b, .int .i64 s.cons[j].field, .slice a' s.cons[j].set.length c'] 39)).drew).cell? ⟨(w.heap.size + 1 + 1), s.cons[j].b.toNat, none⟩ = some vM := by rw [(hT.out.to_.below HBX.out).cell, hT.out.toAt _ (by omega), ← hvM]
        have HTT : Hid (∀ w3, (((wr.alloc (.cells #[.int .i64 s.cons[j].kind, .int .i64 s.cons[j].a, .int .i64 s.cons[j].b, .int .i64 s.cons[j].field, .slice a' s.cons[j].set.length c'] 39)).alloc (.cells #[.int .i64 s.cons[j].kind, .int .i64 s.cons[j].a, .int .i64 s.cons[j].b, .int .i64 s.cons[j].field, .slice a' s.cons[j].set.length c'] 39)).drew).grownBy w3 vM.ownBlock → w3.cell? ⟨(w.heap.size + 1 + 1), s.cons[j].b.toNat, none⟩ = some vM ∧ w3.frozen? ⟨(w.heap.size + 1 + 1), s.cons[j].b.toNat, none⟩ = false) := fun w3 hg => by
          have h1 := (hT.out.to_.below HBX.out).grown hg (by rw [hvM]; exact hT.out.rows.ne_blk hT.out.to_ (by decide))
          exact ⟨by rw [h1.cell, hT.out.toAt _ (by omega), ← hvM], h1.frozen _⟩
        have HK4 := Lib.hid hk4
        have HVM := Lib.hid hvM
        have HEM := Lib.hid heM
        clear hk4 H0 hbx KC hvM heM
        go_wp2
        have k0 : ∀ x, (wr.alloc (.cells #[.int .i64 s.cons[j].kind, .int .i64 s.cons[j].a, .int .i64 s.cons[j].b, .int .i64 s.cons[j].field, .slice a' s.cons[j].set.length c'] 39)).cell? ⟨wr.heap.size, x, none⟩ = #[.int .i64 s.cons[j].kind, .int .i64 s.cons[j].a, .int .i64 s.cons[j].b, .int .i64 s.cons[j].field, .slice a' s.cons[j].set.length c'][x]? := (Blk.new wr 39 #[.int .i64 s.cons[j].kind, .int .i64 s.cons[j].a, .int .i64 s.cons[j].b, .int .i64 s.cons[j].field, .slice a' s.cons[j].set.length c']).cell
        have yTO : (w.heap.size + 1 + 1) < wr.heap.size := hT.out.to_.lt
        have HS1 : Hid (∀ x, (((wr.alloc (.cells #[.int .i64 s.cons[j].kind, .int .i64 s.cons[j].a, .int .i64 s.cons[j].b, .int .i64 s.cons[j].field, .slice a' s.cons[j].set.length c'] 39)).alloc (.cells #[.int .i64 s.cons[j].kind, .int .i64 s.cons[j].a, .int .i64 s.cons[j].b, .int .i64 s.cons[j].field, .slice a' s.cons[j].set.length c'] 39)).drew).cell? ⟨wr.heap.size, x, none⟩ = #[.int .i64 s.cons[j].kind, .int .i64 s.cons[j].a, .int .i64 s.cons[j].b, .int .i64 s.cons[j].field, .slice a' s.cons[j].set.length c'][x]?) := ((Blk.new wr 39 #[.int .i64 s.cons[j].kind, .int .i64 s.cons[j].a, .int .i64 s.cons[j].b, .int .i64 s.cons[j].field, .slice a' s.cons[j].set.length c']).al (.cells #[.int .i64 s.cons[j].kind, .int .i64 s.cons[j].a, .int .i64 s.cons[j].b, .int .i64 s.cons[j].field, .slice a' s.cons[j].set.length c'] 39)).cell
        refine wp_region_held_drew (S := fun w' => ∀ x, w'.cell? ⟨wr.heap.size, x, none⟩ = #[.int .i64 s.cons[j].kind, .int .i64 s.cons[j].a, .int .i64 s.cons[j].b, .int .i64 s.cons[j].field, .slice a' s.cons[j].set.length c'][x]?) (by kernel_rfl) k0 (fun hHeld => ?_)
        refine wpAnyH_take (i := 0) (v := ?_) rfl (by kernel_rfl) (by kernel_rfl) (by kernel_rfl) (fun _ _ _ h => h) (Or.inl ⟨by rfl, ?_⟩) (by assumption) ?_
        rotate_left
        · intro w' hSw
          try dsimp only at hSw
          go_simp
          try with_reducible rfl
        try simp only [Act.put, List.setIfInBounds_toArray]
        refine wpAnyH_take (i := 1) (v := ?_) rfl (by kernel_rfl) (by kernel_rfl) (by kernel_rfl) (fun _ _ _ h => h) (Or.inl ⟨by rfl, ?_⟩) (by assumption) ?_
        rotate_left
        · intro w' hSw
          try dsimp only at hSw
          go_simp
          try with_reducible rfl
        try simp only [Act.put]
        refine wpAnyH_take (i := 2) (v := ?_) rfl (by kernel_rfl) (by kernel_rfl) (by kernel_rfl) (fun _ _ _ h => h) (Or.inl ⟨by rfl, ?_⟩) (by assumption) ?_
        rotate_left
        · intro w' hSw
          try dsimp only at hSw
          go_simp
          try with_reducible rfl
        try simp only [Act.put]
        refine wpAnyH_take (i := 3) (v := ?_) rfl (by kernel_rfl) (by kernel_rfl) (by kernel_rfl) (fun _ _ _ h => h) (Or.inl ⟨by rfl, ?_⟩) (by assumption) ?_
        rotate_left
        · intro w' hSw
          try dsimp only at hSw
          go_simp
          try with_reducible rfl
        try simp only [Act.put]
        refine wpAnyH_take (i := 4) (v := ?_) rfl (by kernel_rfl) (by kernel_rfl) (by kernel_rfl) (fun _ _ _ h => h) (Or.inl ⟨by rfl, ?_⟩) (by assumption) ?_
        rotate_left
        · intro w' hSw
          try dsimp only at hSw
          go_simp
          try with_reducible rfl
        try simp only [Act.put]
        refine wpAnyH_take (i := 5) (v := ?_) rfl (by kernel_rfl) (by kernel_rfl) (by kernel_rfl) (fun _ _ _ h => h) (Or.inl ⟨by rfl, ?_⟩) (by assumption) ?_
        rotate_left
        · intro w' hSw
          try dsimp only at hSw
          go_simp
          try with_reducible rfl
        try simp only [Act.put]
        refine wpAnyH_take (i := 6) (v := ?_) rfl (by kernel_rfl) (by kernel_rfl) (by kernel_rfl) (fun _ _ _ h => h) (Or.inl ⟨by rfl, ?_⟩) (by assumption) ?_
        rotate_left
        · intro w' hSw
          try dsimp only at hSw
          go_simp
          try with_reducible rfl
        try simp only [Act.put]
        refine wpAnyH_take (i := 8) (v := ?_) rfl (by kernel_rfl) (by kernel_rfl) (by kernel_rfl) (fun _ _ _ h => h) (Or.inl ⟨by rfl, ?_⟩) (by assumption) ?_
        rotate_left
        · intro w' hSw
          try dsimp only at hSw
          go_simp
          try with_reducible rfl
        try simp only [Act.put]
        refine wpAnyH_ready (rs := [7, 9]) (by kernel_rfl) (by simp) ?_
        refine AllReadyH.cons rfl (fun K hK => ?_) (AllReadyH.cons rfl (fun K hK => ?_) AllReadyH.nil)
        · have hbr := True.intro
          go_simp
          refine hK.out _ _ hHeld (fun hHeld => ?_)
          clear hK K
          try simp only [Act.put, List.setIfInBounds_toArray, List.set_cons_zero, List.set_cons_succ]
          refine wpAnyH_ready (rs := [9]) (by kernel_rfl) (by simp) ?_
          refine AllReadyH.cons rfl (fun K hK => ?_) AllReadyH.nil
          go_simp
          refine hK.out _ _ HS1.out (fun hHeld => ?_)
          clear hK K
          try simp only [Act.put, List.setIfInBounds_toArray, List.set_cons_zero, List.set_cons_succ]
          refine wpAnyH_ready (rs := [10]) (by kernel_rfl) (by simp) ?_
          refine AllReadyH.cons rfl (fun K hK => ?_) AllReadyH.nil
          refine step_append5 (by rfl) (.tmp 48) (.tmp 50) i0 _ (by rfl) HI.out HZ.out (by rfl) w5.heap.size vM eM.length _ (by rfl) HO.out (wr.heap.size + 1) 1 (s.cons[j], a', c') (by rfl) HU.out hel HSZ.out ?_
          intro g cap w3 hown hgrow hat hlg
          have k3 := HKC.out _ hgrow
          obtain ⟨q1, q2⟩ := HTT.out _ hgrow
          refine hK.out _ _ k3 (fun hHeld => ?_)
          clear hK K
          try simp only [Act.put, List.setIfInBounds_toArray]
          refine wpAnyH_ready (rs := [11]) (by kernel_rfl) (by simp) ?_
          refine AllReadyH.cons rfl (fun K hK => ?_) AllReadyH.nil
          go_simp
          refine hK.out _ _ k3 (fun hHeld => ?_)
          clear hK K
          try simp only [Act.put, List.setIfInBounds_toArray, List.set_cons_zero, List.set_cons_succ]
          refine wpAnyH_ready (rs := [12]) (by kernel_rfl) (by simp) ?_
          refine AllReadyH.cons rfl (fun K hK => ?_) AllReadyH.nil
          go_simp
          refine hK.out _ _ (fun x => (World.cell?_setCell_other _ _ _ _ (by intro e; injection e with e0; omega)).trans (k3 x)) (fun hHeld => ?_)
          clear hK K
          refine wpAnyH_done (by kernel_rfl) ?_ _
          have hszw : (((wr.alloc (.cells #[.int .i64 s.cons[j].kind, .int .i64 s.cons[j].a, .int .i64 s.cons[j].b, .int .i64 s.cons[j].field, .slice a' s.cons[j].set.length c'] 39)).alloc (.cells #[.int .i64 s.cons[j].kind, .int .i64 s.cons[j].a, .int .i64 s.cons[j].b, .int .i64 s.cons[j].field, .slice a' s.cons[j].set.length c'] 39)).drew).heap.size = wr.heap.size + 1 + 1 := by show ((wr.alloc _).alloc _).heap.size = _; simp only [World.size_alloc]
          have hat2 : ∀ g', (Value.slice (some ⟨g, 0, none⟩) (eM.length + 1) cap).ownBlock = some g' → (F (.inl s.cons[j].b.toNat)).1.ownBlock = some g' ∨ (((wr.alloc (.cells #[.int .i64 s.cons[j].kind, .int .i64 s.cons[j].a, .int .i64 s.cons[j].b, .int .i64 s.cons[j].field, .slice a' s.cons[j].set.length c'] 39)).alloc (.cells #[.int .i64 s.cons[j].kind, .int .i64 s.cons[j].a, .int .i64 s.cons[j].b, .int .i64 s.cons[j].field, .slice a' s.cons[j].set.length c'] 39)).drew).heap.size ≤ g' := fun g' hg' => by
            have hgg : g = g' := by simpa [Value.ownBlock] using hg'
            subst hgg
            rw [← HVM.out, hszw]
            rcases hat with hat | hat
            · exact .inl hat
            · right; first | omega | (rw [hszw] at hat; omega)
          have M1 := Lib.hid (hT.out.stepT hlt HK4.out hb0 hbn HBX.out HI5.out (by rw [← HEM.out]; exact hown) (by rw [← HVM.out]; exact hgrow) hat2)
          have O1 : Hid (Only (twoB (w.heap.size + 1 + 1) (w.heap.size + 1 + 1 + 1)) w5 (w3.setCell ⟨(w.heap.size + 1 + 1), s.cons[j].b.toNat, none⟩ (.slice (some ⟨g, 0, none⟩) (eM.length + 1) cap))) := ((hO.out.trans (Only.of_below HBX.out _)).grown hgrow fun g' hg' => (World.ownsRow.lt HO.out g' hg').1).setCell (.inl (.inl rfl)) _
          rw [← HEM.out] at M1
          clear hown hgrow hat hlg k3 q1 q2 hat2 HKC HTT HO HU cT
          go_wp2
          go_roundg (s.cons.length - (j + 1))
          case measure => omega
          case rel => exact ⟨j + 1, _, _, _, by omega, rfl, by go_num, O1, M1⟩
        · have hbr := True.intro
          go_simp
          refine hK.out _ _ HS1.out (fun hHeld => ?_)
          clear hK K
          try simp only [Act.put, List.setIfInBounds_toArray, List.set_cons_zero, List.set_cons_succ]
          refine wpAnyH_ready (rs := [7]) (by kernel_rfl) (by simp) ?_
          refine AllReadyH.cons rfl (fun K hK => ?_) AllReadyH.nil
          go_simp
          refine hK.out _ _ hHeld (fun hHeld => ?_)
          clear hK K
          try simp only [Act.put, List.setIfInBounds_toArray, List.set_cons_zero, List.set_cons_succ]
          refine wpAnyH_ready (rs := [10]) (by kernel_rfl) (by simp) ?_
          refine AllReadyH.cons rfl (fun K hK => ?_) AllReadyH.nil
          refine step_append5 (by rfl) (.tmp 48) (.tmp 50) i0 _ (by rfl) HI.out HZ.out (by rfl) w5.heap.size vM eM.length _ (by rfl) HO.out (wr.heap.size + 1) 1 (s.cons[j], a', c') (by rfl) HU.out hel HSZ.out ?_
          intro g cap w3 hown hgrow hat hlg
          have k3 := HKC.out _ hgrow
          obtain ⟨q1, q2⟩ := HTT.out _ hgrow
          refine hK.out _ _ k3 (fun hHeld => ?_)
          clear hK K
          try simp only [Act.put, List.setIfInBounds_toArray]
          refine wpAnyH_ready (rs := [11]) (by kernel_rfl) (by simp) ?_
          refine AllReadyH.cons rfl (fun K hK => ?_) AllReadyH.nil
          go_simp
          refine hK.out _ _ k3 (fun hHeld => ?_)
          clear hK K
          try simp only [Act.put, List.setIfInBounds_toArray, List.set_cons_zero, List.set_cons_succ]
          refine wpAnyH_ready (rs := [12]) (by kernel_rfl) (by simp) ?_
          refine AllReadyH.cons rfl (fun K hK => ?_) AllReadyH.nil
          go_simp
          refine hK.out _ _ (fun x => (World.cell?_setCell_other _ _ _ _ (by intro e; injection e with e0; omega)).trans (k3 x)) (fun hHeld => ?_)
          clear hK K
          refine wpAnyH_done (by kernel_rfl) ?_ _
          have hszw : (((wr.alloc (.cells #[.int .i64 s.cons[j].kind, .int .i64 s.cons[j].a, .int .i64 s.cons[j].b, .int .i64 s.cons[j].field, .slice a' s.cons[j].set.length c'] 39)).alloc (.cells #[.int .i64 s.cons[j].kind, .int .i64 s.cons[j].a, .int .i64 s.cons[j].b, .int .i64 s.cons[j].field, .slice a' s.cons[j].set.length c'] 39)).drew).heap.size = wr.heap.size + 1 + 1 := by show ((wr.alloc _).alloc _).heap.size = _; simp only [World.size_alloc]
          have hat2 : ∀ g', (Value.slice (some ⟨g, 0, none⟩) (eM.length + 1) cap).ownBlock = some g' → (F (.inl s.cons[j].b.toNat)).1.ownBlock = some g' ∨ (((wr.alloc (.cells #[.int .i64 s.cons[j].kind, .int .i64 s.cons[j].a, .int .i64 s.cons[j].b, .int .i64 s.cons[j].field, .slice a' s.cons[j].set.length c'] 39)).alloc (.cells #[.int .i64 s.cons[j].kind, .int .i64 s.cons[j].a, .int .i64 s.cons[j].b, .int .i64 s.cons[j].field, .slice a' s.cons[j].set.length c'] 39)).drew).heap.size ≤ g' := fun g' hg' => by
            have hgg : g = g' := by simpa [Value.ownBlock] using hg'
            subst hgg
            rw [← HVM.out, hszw]
            rcases hat with hat | hat
            · exact .inl hat
            · right; first | omega | (rw [hszw] at hat; omega)
          have M1 := Lib.hid (hT.out.stepT hlt HK4.out hb0 hbn HBX.out HI5.out (by rw [← HEM.out]; exact hown) (by rw [← HVM.out]; exact hgrow) hat2)
          have O1 : Hid (Only (twoB (w.heap.size + 1 + 1) (w.heap.size + 1 + 1 + 1)) w5 (w3.setCell ⟨(w.heap.size + 1 + 1), s.cons[j].b.toNat, none⟩ (.slice (some ⟨g, 0, none⟩) (eM.length + 1) cap))) := ((hO.out.trans (Only.of_below HBX.out _)).grown hgrow fun g' hg' => (World.ownsRow.lt HO.out g' hg').1).setCell (.inl (.inl rfl)) _
          rw [← HEM.out] at M1
          clear hown hgrow hat hlg k3 q1 q2 hat2 HKC HTT HO HU cT
          go_wp2
          go_roundg (s.cons.length - (j + 1))
          case measure => omega
          case rel => exact ⟨j + 1, _, _, _, by omega, rfl, by go_num, O1, M1⟩
    · obtain rfl : j = s.cons.length := by omega
      have hge : ¬ (s.cons.length : Int) < (s.cons.length : Int) := by omega
      have j0 : ∀ x, wr.cell? ⟨w.heap.size, x, none⟩ = #[.int .i64 s.vars, .int .i64 s.sites, .int .i64 s.fields, .slice aS s.cons.length cS][x]? := (K0.out.only hO.out n0).cell
      have K1r := Lib.hid (K1.out.only hO.out (by unfold twoB; omega))
      have j1 := K1r.out.cell 0
      have j2 := K1r.out.frozen 0
      have j3 := K1r.out.lt
      obtain ⟨w6, rfl⟩ : ∃ w6 : World, w6 = wr := ⟨_, rfl⟩
      have K1s := Lib.hid (K1r.out.below (below_two w6 (.cells (rowCells n fun _ => false) 4) (.map #[] 0)))
      have j4 := K1s.out.cell 0
      have j5 := K1s.out.frozen 0
      have z6 : w.heap.size + 1 < w6.heap.size := j3
      obtain ⟨wx, hwx⟩ : ∃ wx, wx = ((w6.alloc (.cells (rowCells n fun _ => false) 4)).alloc (.map #[] 0)).setCell ⟨w.heap.size + 1, 0, none⟩ (.slice (some ⟨w6.heap.size, 0, none⟩) n n) := ⟨_, rfl⟩
      have hzx : wx.heap.size = w6.heap.size + 1 + 1 := by rw [hwx]; simp [World.setCell]
      have X1 : Blk wx (w.heap.size + 1) 57 #[.slice (some ⟨w6.heap.size, 0, none⟩) n n] := by rw [hwx]; exact K1s.out.set_ 0 _
      have X2 : Blk wx w6.heap.size 4 (rowCells n fun _ => false) := by
        rw [hwx]
        exact (((Blk.new w6 4 _).below ((Below.refl _ _).alloc (Nat.le_refl _) (.map #[] 0))).far (p := ⟨w.heap.size + 1, 0, none⟩) (by show w6.heap.size ≠ w.heap.size + 1; omega) _)
      have X3 : IMap wx (w6.heap.size + 1) (fun _ => none) := by
        rw [hwx]
        have h1 := IMap.made (w6.alloc (.cells (rowCells n fun _ => false) 4))
        rw [World.size_alloc] at h1
        exact h1.only ((Only.refl (isB (w.heap.size + 1)) _).setCell (p := ⟨w.heap.size + 1, 0, none⟩) (.inl rfl) _) (by show ¬ w6.heap.size + 1 = w.heap.size + 1; omega)
      have X4 : Only (isB (w.heap.size + 1)) w6 wx := by
        rw [hwx]
        exact (((Only.refl (isB (w.heap.size + 1)) w6).alloc _).alloc _).setCell (p := ⟨w.heap.size + 1, 0, none⟩) (.inl rfl) _
      obtain ⟨w7, hw7⟩ : ∃ w7, w7 = (wx.alloc (.cells #[.slice none 0 0] 37)).alloc (.cells #[.int .i64 v] 3) := ⟨_, rfl⟩
      have hz7 : (wx.alloc (.cells #[.slice none 0 0] 37)).heap.size = w6.heap.size + 1 + 1 + 1 := by rw [World.size_alloc, hzx]
      have bx7 : Below wx.heap.size wx w7 := by rw [hw7]; exact below_two _ _ _
      have Y1 : Blk w7 (w6.heap.size + 1 + 1) 37 #[.slice none 0 0] := by
        rw [hw7]
        have h1 := (Blk.new wx 37 #[.slice none 0 0]).al (.cells #[.int .i64 v] 3)
        rw [hzx] at h1; exact h1
      have Y2 : Blk w7 (w6.heap.size + 1 + 1 + 1) 3 #[.int .i64 v] := by
        rw [hw7]
        have h1 := Blk.new (wx.alloc (.cells #[.slice none 0 0] 37)) 3 #[.int .i64 v]
        rw [hz7] at h1; exact h1
      have NM7 : NMem w7 n w6.heap.size (w.heap.size + 1) (w6.heap.size + 1 + 1) w6.heap.size (fun _ => false, []) (.slice none 0 0) :=
        ⟨X1.below bx7, X2.below bx7, Y1, World.ownsRow_nil _ _ _ _⟩
      have LM7 := Lib.hid (X3.below bx7)
      have O7 : Hid (Only (isB (w.heap.size + 1)) w6 w7) := X4.trans (Only.of_below bx7 _)
      have NM7 := Lib.hid NM7
      have hB7 : w6.heap.size ≤ w7.heap.size := O7.out.size
      have C7 : Hid (Calls Tryd.prog 80 #[.slice (some ⟨w6.heap.size + 1 + 1 + 1, 0, none⟩) 1 1, .pointer (some ⟨w.heap.size + 1, 0, none⟩), .pointer (some ⟨w6.heap.size + 1 + 1, 0, none⟩)] (((((w6.alloc (.cells (rowCells n fun _ => false) 4)).alloc (.map #[] 0)).setCell ⟨w.heap.size + 1, 0, none⟩ (.slice (some ⟨w6.heap.size, 0, none⟩) n n)).alloc (.cells #[.slice none 0 0] 37)).alloc (.cells #[.int .i64 v] 3)) (NeedP w7 n w6.heap.size (w.heap.size + 1) (w6.heap.size + 1 + 1) w6.heap.size [v] (fun _ => false, []) (.slice none 0 0))) := by
        rw [← hwx, ← hw7]
        exact need_any n w6.heap.size (w.heap.size + 1) (w6.heap.size + 1 + 1) (w6.heap.size + 1 + 1 + 1) w6.heap.size 1 [v] (fun _ => false, []) (.slice none 0 0) w7 NM7.out Y2 (by simp [Value.ownBlock]) (fun x hx => by rw [List.mem_singleton.1 hx]; exact ⟨hv0, hvn⟩) (by simp) hB7
      have HT6 := hT
      clear hwx hzx X1 X2 X3 X4 hw7 hz7 bx7 Y1 Y2 hT
      go_wp2_with (go_at_call 80; (with_reducible refine C7.out.mono ?_); rintro e w8 ⟨a8, v8, rfl, hs8, hm8, ho8, hg8⟩)
      have hc0 : Hid (2 * cnt n (fun _ => false) ≤ 131072) := by
        unfold Hid cnt
        have := cnt_le n (fun _ => false)
        unfold cnt at this; omega
      have Q8 : Hid (QInv s v a8 (fun _ => false) none [] (fun x => (fun _ => false) x = true)) := by
        obtain ⟨add, e1, e2, e3⟩ := hs8.work
        refine ⟨hs8.all v (List.mem_singleton_self _), fun i hi => ?_, fun x hx => ?_, (fun x hx => by cases hx), (fun x hx => by cases hx), fun i hi => ?_, fun c hc => by cases hc⟩
        · rcases e3 i hi with h1 | h1
          · cases h1
          · rw [List.mem_singleton.1 (e2 _ h1).1]; exact .start
        · rw [e1] at hx
          have hx : x ∈ add := by simpa using hx
          exact ⟨by rw [List.mem_singleton.1 (e2 _ hx).1]; exact .start, (e2 _ hx).2⟩
        · rcases e3 i hi with h1 | h1
          · cases h1
          · exact .inl (by rw [e1]; exact List.mem_append_right _ h1)
      have V8 : Hid (VSt6 w6 w8 n (w.heap.size + 1) a8 v8 (fun _ => none)) := VSt6.need ⟨O7.out, NM7.out, LM7.out⟩ hm8 ho8
      have L8 : Hid (2 * cnt n a8.1 + a8.2.length ≤ 131072) := by
        have h1 := hs8.less
        have h2 := hc0.out
        have h3 : (([] : List Int)).length = 0 := rfl
        unfold Hid
        have h4 : 2 * cnt n a8.1 + a8.2.length ≤ 2 * cnt n (fun _ => false) + ([] : List Int).length := h1
        rw [h3] at h4; omega
      clear hs8 hm8 ho8 hg8
      go_loopg [] (2 * cnt n a8.1 + a8.2.length) (fun g wr => ∃ (a : NSt) (vv : Value) (lfm : Int → Option Value) (lf : Int → Bool), g = 2 * cnt n a.1 + a.2.length ∧ Hid (VSt6 w6 wr n (w.heap.size + 1) a vv lfm) ∧ Hid (∀ x, (lfm x).getD (.bool false) = .bool (lf x)) ∧ Hid (QInv s v a lf none [] (fun x => lf x = true)) ∧ Hid (2 * cnt n a.1 + a.2.length ≤ 131072))
      case atStart => exact ⟨a8, v8, _, _, rfl, V8, fun x => rfl, Q8, L8⟩
      case round =>
        obtain ⟨⟨f, ws⟩, vv, lfm, lf, rfl, hV, hLf, hQ, hLen⟩ := hrel
        have hws : ws.length ≤ 131072 := by
          have : 2 * cnt n f + ws.length ≤ 131072 := hLen.out
          omega
        have c1 : wr.cell? ⟨w6.heap.size + 1 + 1, 0, none⟩ = some vv := hV.out.mem.g.cell 0
        have c1f : wr.frozen? ⟨w6.heap.size + 1 + 1, 0, none⟩ = false := hV.out.mem.g.frozen 0
        have y1 : w6.heap.size + 1 + 1 < wr.heap.size := hV.out.mem.g.lt
        by_cases hz : ws.length = 0
        · obtain rfl : ws = [] := List.length_eq_zero_iff.1 hz
          obtain ⟨q1, q2⟩ := hQ.out.end_ HE.out hv0
          obtain ⟨A, cv, rfl, _⟩ := ints_of_own hV.out.mem.o (by simp)
          have Q1 := Lib.hid q1
          have Q2 := Lib.hid q2
          have HMs := Lib.hid hV.out.mem.s
          have c2 := HMs.out.cell 0
          have c3 := HMs.out.frozen 0
          have y2 := HMs.out.lt
          clear q1 q2
          go_wp2
          have r0 : (wr.setCell ⟨w.heap.size + 1, 0, none⟩ (.slice (some ⟨w6.heap.size, 0, none⟩) n n)).cell? ⟨w.heap.size + 1, 0, none⟩ = some (.slice (some ⟨w6.heap.size, 0, none⟩) n n) := (HMs.out.set_ 0 _).cell 0
          have hnn : s.vars.toNat = n := by have := HN.out; omega
          have ho : Only (isB (w.heap.size + 1)) wr (wr.setCell ⟨w.heap.size + 1, 0, none⟩ (.slice (some ⟨w6.heap.size, 0, none⟩) n n)) := (Only.refl (isB (w.heap.size + 1)) _).setCell (p := ⟨w.heap.size + 1, 0, none⟩) (.inl rfl) _
          refine bodyPost_ret (v := .tuple #[.slice (some ⟨w6.heap.size, 0, none⟩) n n, .map (some (w6.heap.size + 1))]) (by simp [results, Tryd.results55, go_sem, r0]) rfl
            ⟨w6.heap.size, w6.heap.size + 1, lfm, by rw [hnn], ?_, ?_, ?_, ?_⟩
          · rw [hnn, ← Q1.out]
            exact hV.out.mem.r.only ho (blk_ne hV.out.mem.r HMs.out (by decide))
          · exact hV.out.map.only ho (fun e => map_ne_blk HMs.out hV.out.map (by have e : w6.heap.size + 1 = w.heap.size + 1 := e; omega))
          · intro x; rw [← Q2.out]; exact hLf.out x
          · have h1 : Below w.heap.size w6 wr := hV.out.only.to_below (by have := hBw.out.size; omega) (fun k hk => by have hk : k = w.heap.size + 1 := hk; omega)
            exact (hBw.out.trans h1).setCell (p := ⟨w.heap.size + 1, 0, none⟩) (by show w.heap.size ≤ w.heap.size + 1; omega) _
        · obtain ⟨ws0, b, rfl⟩ := last_of hz
          obtain ⟨g, cap, rfl, hgB, hgl⟩ := hV.out.mem.o.form (by simp)
          have hOw := Lib.hid hV.out.mem.o
          have hwl : (ws0 ++ [b]).length = ws0.length + 1 := by simp
          have hcap : ws0.length + 1 ≤ cap := by have := own_cap hOw.out; rw [hwl] at this; exact this
          have hbv := hQ.out.wsub b (by simp)
          obtain ⟨hb0, hb1⟩ := vis_in HRI.out hbv.1
          have HBV := Lib.hid hbv.1
          have hbn : b < (n : Int) := by have := HN.out; omega
          have cg : wr.cell? ⟨g, ws0.length, none⟩ = some (.int .i64 b) := by
            have := World.ownsRow.cells hOw.out (g := g) rfl ws0.length (.int .i64 b) (by simp)
            rw [add_blk] at this; exact this
          obtain ⟨w9, hw9⟩ : ∃ w9, w9 = wr.setCell ⟨w6.heap.size + 1 + 1, 0, none⟩ (.slice (some ⟨g, 0, none⟩) ws0.length cap) := ⟨_, rfl⟩
          have hM9 : NMem w9 n w6.heap.size (w.heap.size + 1) (w6.heap.size + 1 + 1) w6.heap.size (f, ws0) (.slice (some ⟨g, 0, none⟩) ws0.length cap) := by
            rw [hw9]
            have m := hV.out.mem
            exact ⟨m.s.far (p := ⟨w6.heap.size + 1 + 1, 0, none⟩) (blk_ne m.s m.g (by decide)) _, m.r.far (p := ⟨w6.heap.size + 1 + 1, 0, none⟩) (blk_ne m.r m.g (by decide)) _, m.g.set_ 0 _, own_far (own_pop m.o) (own_ne_blk m.o m.g (by decide)) _⟩
          have hV9 : Hid (VSt6 w6 w9 n (w.heap.size + 1) (f, ws0) (.slice (some ⟨g, 0, none⟩) ws0.length cap) lfm) := by
            refine ⟨?_, hM9, ?_⟩
            · rw [hw9]; exact hV.out.only.setCell (.inr (by show w6.heap.size ≤ w6.heap.size + 1 + 1; omega)) _
            · rw [hw9]
              exact hV.out.map.only ((Only.refl (isB (w6.heap.size + 1 + 1)) wr).setCell (p := ⟨w6.heap.size + 1 + 1, 0, none⟩) (.inl rfl) _) (by show ¬ w6.heap.size + 1 = w6.heap.size + 1 + 1; omega)
          have hQ9 := Lib.hid hQ.out.pop
          have hLen9 : Hid (2 * cnt n f + ws0.length + 1 ≤ 131072) := by
            have : 2 * cnt n f + (ws0 ++ [b]).length ≤ 131072 := hLen.out
            rw [hwl] at this
            unfold Hid; omega
          have hws0 : ws0.length ≤ 131072 := by omega
          obtain ⟨vT, hvT⟩ : ∃ vT, vT = (F (.inl b.toNat)).1 := ⟨_, rfl⟩
          have cT : wr.cell? ⟨(w.heap.size + 1 + 1), b.toNat, none⟩ = some vT := by
            rw [((HT6.out.to_.only hV.out.only (by show ¬ (w.heap.size + 1 + 1) = (w.heap.size + 1); omega))).cell, HT6.out.toAt _ (by omega), hvT]
          have yT : (w.heap.size + 1 + 1) < wr.heap.size := (HT6.out.to_.only hV.out.only (by show ¬ (w.heap.size + 1 + 1) = (w.heap.size + 1); omega)).lt
          obtain ⟨es, hes⟩ : ∃ es, es = (F (.inl b.toNat)).2 := ⟨_, rfl⟩
          obtain ⟨AT, cT2, hvf, hrow⟩ := row_form (w := w6) (B := w5.heap.size) (v := vT) (es := es) (by rw [hvT, hes]; exact HT6.out.rows.own _)
          have hgsT : Hid (∀ g', vT.ownBlock = some g' → g' ≠ (w.heap.size + 1)) := fun g' hg' e => by
            subst e
            exact (HT6.out.rows.ne_blk (i := .inl b.toNat) K1r.out (by decide)) (by rw [← hvT]; exact hg'.symm)
          rw [hvf] at hgsT cT
          have hesl : es.length ≤ 32768 := by rw [hes]; have := HT6.out.len (.inl b.toNat); omega
          have hcont : Hid (es.map (·.1) = s.cons.filter (atI (.inl b.toNat))) := by rw [hes]; have := HT6.out.cont (.inl b.toNat); rw [List.take_length] at this; exact this
          have HROW := Lib.hid hrow
          have HW9 := Lib.hid hw9
          clear hvT hvf hes hrow hM9 hw9 hbv hQ hV hOw
          rw [hwl] at c1
          go_wp2
          rw [← HW9.out]
          clear c1 c1f y1 cg cT yT
          go_loopg [82] es.length (fun g i wr => ∃ (q : Nat) (a : NSt) (vv : Value) (lfm : Int → Option Value) (lf : Int → Bool), q ≤ es.length ∧ g = es.length - q ∧ i = .int .i64 q ∧ Hid (VSt6 w6 wr n (w.heap.size + 1) a vv lfm) ∧ Hid (∀ x, (lfm x).getD (.bool false) = .bool (lf x)) ∧ Hid (QInv s v a lf (some b) ((es.map (·.1)).take q) (fun x => lf x = true)) ∧ Hid (2 * cnt n a.1 + a.2.length ≤ 2 * cnt n f + ws0.length))
          case atStart => exact ⟨0, (f, ws0), _, lfm, lf, Nat.zero_le _, rfl, rfl, hV9, hLf, hQ9, Nat.le_refl _⟩
          case round =>
            obtain ⟨q, a, vv, lfm, lf, hq, rfl, rfl, hV, hLf, hQ, hLe⟩ := hrel
            by_cases hlq : q < es.length
            · obtain ⟨e, he⟩ : ∃ e, es[q]? = some e := ⟨es[q], List.getElem?_eq_getElem hlq⟩
              obtain ⟨gT, hAT, hcl⟩ := HROW.out q e he
              subst hAT
              have hgT : ¬ isB (w.heap.size + 1) gT := fun e => hgsT.out gT (by simp [Value.ownBlock]) e
              have e0 : wr.cell? ⟨gT, q * 5, none⟩ = some (.int .i64 e.1.kind) := hV.out.only.keep (hcl 0 _ rfl (by decide)) hgT
              have e1 : wr.cell? ⟨gT, q * 5 + 1, none⟩ = some (.int .i64 e.1.a) := hV.out.only.keep (hcl 1 _ rfl (by decide)) hgT
              have e2 : wr.cell? ⟨gT, q * 5 + 2, none⟩ = some (.int .i64 e.1.b) := hV.out.only.keep (hcl 2 _ rfl (by decide)) hgT
              have e3 : wr.cell? ⟨gT, q * 5 + 3, none⟩ = some (.int .i64 e.1.field) := hV.out.only.keep (hcl 3 _ rfl (by decide)) hgT
              have e4 : wr.cell? ⟨gT, q * 5 + 4, none⟩ = some (.slice e.2.1 e.1.set.length e.2.2) := hV.out.only.keep (hcl 4 _ rfl (by decide)) hgT
              have hmem : e.1 ∈ s.cons.filter (atI (.inl b.toNat)) := by
                rw [← hcont.out]; exact List.mem_map.2 ⟨e, List.mem_of_getElem? he, rfl⟩
              obtain ⟨hmc, hat⟩ := List.mem_filter.1 hmem
              have hat2 : e.1.kind ≠ 4 ∧ e.1.b = ((b.toNat : Nat) : Int) := by simpa [atI] using hat
              have heb : e.1.b = b := by rw [hat2.2, Int.toNat_of_nonneg hb0]
              have hco := con_ok (HOK.out.cons e.1 hmc)
              have HMC := Lib.hid hmc
              have hk := hco.kind
              have hk4 := hat2.1
              have hk4' : (e.1.kind == 4) = false := by simpa using hk4
              have HTK : Hid ((es.map (·.1)).take (q + 1) = (es.map (·.1)).take q ++ [e.1]) := by
                unfold Hid; rw [List.take_add_one, List.getElem?_map, he]; rfl
              by_cases hk1 : e.1.kind = 1
              · have q2 : (e.1.kind == 2) = false := by rw [hk1]; rfl
                have q5 : (e.1.kind == 5) = false := by rw [hk1]; rfl
                have q3 : (e.1.kind == 3) = false := by rw [hk1]; rfl
                have hQ2 : Hid (QInv s v a lf (some b) ((es.map (·.1)).take (q + 1)) (fun x => lf x = true)) := by
                  rw [HTK.out]; exact hQ.out.add fun h => absurd hk1 h
                have hV2 := Lib.hid (hV.out.below ((Below.refl _ wr).alloc (Nat.le_refl _) (.cells #[.int .i64 e.1.kind, .int .i64 e.1.a, .int .i64 e.1.b, .int .i64 e.1.field, .slice e.2.1 e.1.set.length e.2.2] 39)))
                clear hk1 hco hmem hmc hat hat2 heb hcl he
                go_wp2
                go_roundg (es.length - (q + 1))
                case measure => omega
                case rel => exact ⟨q + 1, a, vv, lfm, lf, by omega, rfl, by go_num, hV2, hLf, hQ2, hLe⟩
              have hca := hco.a
              rw [if_neg hk1] at hca
              have hca1 : e.1.a < (n : Int) := by have := HN.out; omega
              have hva : Hid (Vis s v e.1.a) := .arg hmc hk1 hk4 (by rw [heb]; exact HBV.out)
              -- the world at the call
              obtain ⟨wq, hwq⟩ : ∃ wq, wq = (wr.alloc (.cells #[.int .i64 e.1.kind, .int .i64 e.1.a, .int .i64 e.1.b, .int .i64 e.1.field, .slice e.2.1 e.1.set.length e.2.2] 39)).alloc (.cells #[.int .i64 e.1.a] 3) := ⟨_, rfl⟩
              have bq : Below wr.heap.size wr wq := by rw [hwq]; exact below_two _ _ _
              have hVq := Lib.hid (hV.out.below bq)
              have KC : Hid (Blk wq wr.heap.size 39 #[.int .i64 e.1.kind, .int .i64 e.1.a, .int .i64 e.1.b, .int .i64 e.1.field, .slice e.2.1 e.1.set.length e.2.2]) := by rw [hwq]; exact (Blk.new wr 39 #[.int .i64 e.1.kind, .int .i64 e.1.a, .int .i64 e.1.b, .int .i64 e.1.field, .slice e.2.1 e.1.set.length e.2.2]).al _
              have KL : Blk wq (wr.heap.size + 1) 3 #[.int .i64 e.1.a] := by
                rw [hwq]
                have := Blk.new (wr.alloc (.cells #[.int .i64 e.1.kind, .int .i64 e.1.a, .int .i64 e.1.b, .int .i64 e.1.field, .slice e.2.1 e.1.set.length e.2.2] 39)) 3 #[.int .i64 e.1.a]
                rw [World.size_alloc] at this; exact this
              have hls : a.2.length ≤ 131072 := by have h1 := hLe.out; have h2 := hLen9.out; omega
              have CN : Hid (Calls Tryd.prog 80 #[.slice (some ⟨wr.heap.size + 1, 0, none⟩) 1 1, .pointer (some ⟨(w.heap.size + 1), 0, none⟩), .pointer (some ⟨w6.heap.size + 1 + 1, 0, none⟩)] ((wr.alloc (.cells #[.int .i64 e.1.kind, .int .i64 e.1.a, .int .i64 e.1.b, .int .i64 e.1.field, .slice e.2.1 e.1.set.length e.2.2] 39)).alloc (.cells #[.int .i64 e.1.a] 3)) (NeedP wq n w6.heap.size (w.heap.size + 1) (w6.heap.size + 1 + 1) w6.heap.size [e.1.a] a vv)) := by
                rw [← hwq]
                exact hVq.out.call (l := [e.1.a]) KL (fun g hg => by have := (World.ownsRow.lt hV.out.mem.o g hg).2; omega) (fun x hx => by rw [List.mem_singleton.1 hx]; exact ⟨hca.1, hca1⟩) (by show a.2.length + 1 ≤ 200000; omega)
              have HNQ : Hid (∀ a', NStep n [e.1.a] a a' → QInv s v a' lf (some b) ((es.map (·.1)).take q) (fun x => lf x = true) ∧ a'.1 e.1.a.toNat = true ∧ 2 * cnt n a'.1 + a'.2.length ≤ 2 * cnt n f + ws0.length) := fun a' hs =>
                ⟨hQ.out.need hs (fun x hx => by rw [List.mem_singleton.1 hx]; exact hva.out) (fun x hx => by rw [List.mem_singleton.1 hx]; exact hca.1), hs.all _ (List.mem_singleton_self _), Nat.le_trans hs.less hLe.out⟩
              by_cases hk3 : e.1.kind = 3
              · have q2 : (e.1.kind == 2) = false := by rw [hk3]; rfl
                have q5 : (e.1.kind == 5) = false := by rw [hk3]; rfl
                have q3 : (e.1.kind == 3) = true := by rw [hk3]; rfl
                have HLF : Hid (LoadsF s v e.1.field) := ⟨e.1, hmc, hk3, by rw [heb]; exact HBV.out, rfl⟩
                have HWR := Lib.hid (show wr.heap.size < wq.heap.size from KC.out.lt)
                cases hlf : lf e.1.field
                · obtain ⟨vS, hvS⟩ : ∃ vS, vS = (F (.inr e.1.field)).1 := ⟨_, rfl⟩
                  obtain ⟨es2, hes2⟩ : ∃ es2, es2 = (F (.inr e.1.field)).2 := ⟨_, rfl⟩
                  obtain ⟨AS, cS2, hvf2, hrow2⟩ := row_form (w := w6) (B := w5.heap.size) (v := vS) (es := es2) (by rw [hvS, hes2]; exact HT6.out.rows.own _)
                  have hgsS : Hid (∀ g', vS.ownBlock = some g' → g' ≠ (w.heap.size + 1)) := fun g' hg' e2 => by
                    subst e2
                    exact (HT6.out.rows.ne_blk (i := .inr e.1.field) K1r.out (by decide)) (by rw [← hvS]; exact hg'.symm)
                  rw [hvf2] at hgsS
                  have hesl2 : es2.length ≤ 32768 := by rw [hes2]; have := HT6.out.len (.inr e.1.field); omega
                  have hcont2 : Hid (es2.map (·.1) = s.cons.filter (atI (.inr e.1.field))) := by rw [hes2]; have := HT6.out.cont (.inr e.1.field); rw [List.take_length] at this; exact this
                  have HROW2 := Lib.hid hrow2
                  have L70 : Hid (∀ w', IMap w' (w6.heap.size + 1) lfm → (Instr.lookup 70 (.map (some (w6.heap.size + 1))) (.int .i64 e.1.field) false).run Tryd.prog w' = .ok (.bool false) w') := fun w' hm => by
                    have := hm.look Tryd.underlying70 zero4 e.1.field
                    rw [hLf.out, hlf] at this; exact this
                  have ST : Hid (∀ w', IMap w' (w6.heap.size + 1) lfm → ∃ w4, (Instr.mapUpdate 70 (.map (some (w6.heap.size + 1))) (.int .i64 e.1.field) (.bool true)).run Tryd.prog w' = .ok () w4 ∧ IMap w4 (w6.heap.size + 1) (fun x => if x = e.1.field then some (.bool true) else lfm x) ∧ Only (isB (w6.heap.size + 1)) w' w4) := fun w' hm => hm.store Tryd.underlying70 e.1.field (.bool true)
                  have L93 : Hid (∀ w4, Only (isB (w.heap.size + 1)) w6 w4 → (Instr.lookup 93 (.map (some (w.heap.size + 1 + 1 + 1))) (.int .i64 e.1.field) false).run Tryd.prog w4 = .ok (.slice AS es2.length cS2) w4) := fun w4 ho => by
                    have := (HT6.out.map.only ho (by show ¬ (w.heap.size + 1 + 1 + 1) = (w.heap.size + 1); omega)).look Tryd.underlying93 zero22 e.1.field
                    rw [HT6.out.mapAt, ← hvS, hvf2] at this; exact this
                  have hLf2 : Hid (∀ x, ((fun x => if x = e.1.field then some (.bool true) else lfm x) x).getD (.bool false) = .bool ((fun x => if x = e.1.field then true else lf x) x)) := fun x => by
                    show (if x = e.1.field then some (.bool true) else lfm x).getD (.bool false) = .bool (if x = e.1.field then true else lf x)
                    by_cases hx : x = e.1.field
                    · rw [if_pos hx, if_pos hx]; rfl
                    · rw [if_neg hx, if_neg hx]; exact hLf.out x
                  have HK3 := Lib.hid hk3
                  have HEB : Hid (Vis s v e.1.b) := by unfold Hid; rw [heb]; exact HBV.out
                  clear hlf hk1 hk3 hco hmem hmc hat hat2 heb hcl he bq KL hwq hvS hes2 hvf2 hrow2
                  go_wp2_with (go_at_call 80; (with_reducible refine CN.out.mono ?_); rintro ee w' ⟨a', v', rfl, hs, hm, ho, _⟩; have hV' := Lib.hid (hVq.out.need hm ho); have kc := Lib.hid (hVq.out.keep ho KC.out (by decide) (by decide) (by decide)); have k1 := kc.out.cell; have k2 := kc.out.lt; have l70 := L70.out w' hV'.out.map; obtain ⟨w4, hrun, him, hom⟩ := ST.out w' hV'.out.map; have hV4 := Lib.hid (hV'.out.store him hom); have l93 := L93.out w4 hV4.out.only; have kc4 := Lib.hid (kc.out.only hom (map_ne_blk kc.out hV'.out.map)); have k3 := kc4.out.cell; have k4 := kc4.out.lt; have hN := Lib.hid (HNQ.out a' hs); clear hs hm ho him hom)
                  have hQ4 := Lib.hid (hN.out.1.load HLF.out)
                  clear k1 k2 k3 k4 l70 l93 hrun
                  go_loopg [116] es2.length (fun g i wy => ∃ (p : Nat) (a2 : NSt) (v2 : Value), p ≤ es2.length ∧ g = es2.length - p ∧ i = .int .i64 p ∧ Hid (VSt6 w6 wy n (w.heap.size + 1) a2 v2 (fun x => if x = e.1.field then some (.bool true) else lfm x)) ∧ Hid (QInv s v a2 (fun x => if x = e.1.field then true else lf x) (some b) ((es.map (·.1)).take q) (fun x => lf x = true)) ∧ Hid (a2.1 e.1.a.toNat = true) ∧ Hid (∀ k ∈ (es2.map (·.1)).take p, a2.1 k.a.toNat = true ∧ a2.1 k.b.toNat = true) ∧ Hid (2 * cnt n a2.1 + a2.2.length ≤ 2 * cnt n f + ws0.length))
                  case atStart => exact ⟨0, a', v', Nat.zero_le _, rfl, rfl, hV4, hQ4, hN.out.2.1, (fun k hk => by simp at hk), hN.out.2.2⟩
                  case round =>
                    obtain ⟨p, a2, v2, hp2, rfl, rfl, hVy, hQy, hAy, hCy, hLy⟩ := hrel
                    by_cases hlp : p < es2.length
                    · obtain ⟨x, hx⟩ : ∃ x, es2[p]? = some x := ⟨es2[p], List.getElem?_eq_getElem hlp⟩
                      obtain ⟨gS, hAS, hcl2⟩ := HROW2.out p x hx
                      subst hAS
                      have hgS : ¬ isB (w.heap.size + 1) gS := fun e2 => hgsS.out gS (by simp [Value.ownBlock]) e2
                      have x0 : wr.cell? ⟨gS, p * 5, none⟩ = some (.int .i64 x.1.kind) := hVy.out.only.keep (hcl2 0 _ rfl (by decide)) hgS
                      have x1 : wr.cell? ⟨gS, p * 5 + 1, none⟩ = some (.int .i64 x.1.a) := hVy.out.only.keep (hcl2 1 _ rfl (by decide)) hgS
                      have x2 : wr.cell? ⟨gS, p * 5 + 2, none⟩ = some (.int .i64 x.1.b) := hVy.out.only.keep (hcl2 2 _ rfl (by decide)) hgS
                      have x3 : wr.cell? ⟨gS, p * 5 + 3, none⟩ = some (.int .i64 x.1.field) := hVy.out.only.keep (hcl2 3 _ rfl (by decide)) hgS
                      have x4 : wr.cell? ⟨gS, p * 5 + 4, none⟩ = some (.slice x.2.1 x.1.set.length x.2.2) := hVy.out.only.keep (hcl2 4 _ rfl (by decide)) hgS
                      have hxm : x.1 ∈ s.cons.filter (atI (.inr e.1.field)) := by
                        rw [← hcont2.out]; exact List.mem_map.2 ⟨x, List.mem_of_getElem? hx, rfl⟩
                      obtain ⟨hxc, hxat⟩ := List.mem_filter.1 hxm
                      have hx2 : x.1.kind = 4 ∧ x.1.field = e.1.field := by simpa [atI] using hxat
                      have hxo := con_ok (HOK.out.cons x.1 hxc)
                      have hxa := hxo.a
                      rw [if_neg (by omega)] at hxa
                      have hxb := hxo.b
                      have hxan : x.1.a < (n : Int) := by have := HN.out; omega
                      have hxbn : x.1.b < (n : Int) := by have := HN.out; omega
                      have hvxa : Hid (Vis s v x.1.a) := .sa HMC.out HK3.out HEB.out hxc hx2.1 hx2.2
                      have hvxb : Hid (Vis s v x.1.b) := .sb HMC.out HK3.out HEB.out hxc hx2.1 hx2.2
                      have HTK2 : Hid ((es2.map (·.1)).take (p + 1) = (es2.map (·.1)).take p ++ [x.1]) := by
                        unfold Hid; rw [List.take_add_one, List.getElem?_map, hx]; rfl
                      obtain ⟨wq2, hwq2⟩ : ∃ wq2, wq2 = (wr.alloc (.cells #[.int .i64 x.1.kind, .int .i64 x.1.a, .int .i64 x.1.b, .int .i64 x.1.field, .slice x.2.1 x.1.set.length x.2.2] 39)).alloc (.cells #[.int .i64 x.1.a, .int .i64 x.1.b] 3) := ⟨_, rfl⟩
                      have bq2 : Below wr.heap.size wr wq2 := by rw [hwq2]; exact below_two _ _ _
                      have hVq2 := Lib.hid (hVy.out.below bq2)
                      have KL2 : Blk wq2 (wr.heap.size + 1) 3 #[.int .i64 x.1.a, .int .i64 x.1.b] := by
                        rw [hwq2]
                        have := Blk.new (wr.alloc (.cells #[.int .i64 x.1.kind, .int .i64 x.1.a, .int .i64 x.1.b, .int .i64 x.1.field, .slice x.2.1 x.1.set.length x.2.2] 39)) 3 #[.int .i64 x.1.a, .int .i64 x.1.b]
                        rw [World.size_alloc] at this; exact this
                      have hls2 : a2.2.length ≤ 131072 := by have h1 := hLy.out; have h2 := hLen9.out; omega
                      have CN2 : Hid (Calls Tryd.prog 80 #[.slice (some ⟨wr.heap.size + 1, 0, none⟩) 2 2, .pointer (some ⟨(w.heap.size + 1), 0, none⟩), .pointer (some ⟨w6.heap.size + 1 + 1, 0, none⟩)] ((wr.alloc (.cells #[.int .i64 x.1.kind, .int .i64 x.1.a, .int .i64 x.1.b, .int .i64 x.1.field, .slice x.2.1 x.1.set.length x.2.2] 39)).alloc (.cells #[.int .i64 x.1.a, .int .i64 x.1.b] 3)) (NeedP wq2 n w6.heap.size (w.heap.size + 1) (w6.heap.size + 1 + 1) w6.heap.size [x.1.a, x.1.b] a2 v2)) := by
                        rw [← hwq2]
                        exact hVq2.out.call (l := [x.1.a, x.1.b]) KL2 (fun g hg => by have := (World.ownsRow.lt hVy.out.mem.o g hg).2; omega) (fun y hy => by
                          simp only [List.mem_cons, List.not_mem_nil, or_false] at hy
                          rcases hy with rfl | rfl
                          · exact ⟨hxa.1, hxan⟩
                          · exact ⟨hxb.1, hxbn⟩) (by show a2.2.length + 2 ≤ 200000; omega)
                      have HNQ2 : Hid (∀ a3, NStep n [x.1.a, x.1.b] a2 a3 → QInv s v a3 (fun x => if x = e.1.field then true else lf x) (some b) ((es.map (·.1)).take q) (fun x => lf x = true) ∧ a3.1 e.1.a.toNat = true ∧ (∀ k ∈ (es2.map (·.1)).take (p + 1), a3.1 k.a.toNat = true ∧ a3.1 k.b.toNat = true) ∧ 2 * cnt n a3.1 + a3.2.length ≤ 2 * cnt n f + ws0.length) := fun a3 hs => by
                        refine ⟨hQy.out.need hs (fun y hy => ?_) (fun y hy => ?_), hs.mono _ hAy.out, fun k hk => ?_, Nat.le_trans hs.less hLy.out⟩
                        · simp only [List.mem_cons, List.not_mem_nil, or_false] at hy
                          rcases hy with rfl | rfl
                          · exact hvxa.out
                          · exact hvxb.out
                        · simp only [List.mem_cons, List.not_mem_nil, or_false] at hy
                          rcases hy with rfl | rfl
                          · exact hxa.1
                          · exact hxb.1
                        · rw [HTK2.out] at hk
                          rcases List.mem_append.1 hk with hk | hk
                          · exact ⟨hs.mono _ (hCy.out k hk).1, hs.mono _ (hCy.out k hk).2⟩
                          · rw [List.mem_singleton.1 hk]
                            exact ⟨hs.all _ (by simp), hs.all _ (by simp)⟩
                      clear hxm hxc hxat hx2 hxo hxa hxb hx hcl2 bq2 KL2 hwq2
                      go_wp2_with (go_at_call 80; (with_reducible refine CN2.out.mono ?_); rintro ee w8' ⟨a3, v3, rfl, hs, hm, ho, _⟩; have hV8 := Lib.hid (hVq2.out.need hm ho); have hN2 := Lib.hid (HNQ2.out a3 hs); clear hs hm ho)
                      have hQ8 := Lib.hid hN2.out.1
                      have hA8 : Hid (a3.1 e.1.a.toNat = true) := hN2.out.2.1
                      have hC8 : Hid (∀ k ∈ (es2.map (·.1)).take (p + 1), a3.1 k.a.toNat = true ∧ a3.1 k.b.toNat = true) := hN2.out.2.2.1
                      have hL8 : Hid (2 * cnt n a3.1 + a3.2.length ≤ 2 * cnt n f + ws0.length) := hN2.out.2.2.2
                      go_roundg (es2.length - (p + 1))
                      case measure => omega
                      case rel => exact ⟨p + 1, a3, v3, by omega, rfl, by go_num, hV8, hQ8, hA8, hC8, hL8⟩
                    · obtain rfl : p = es2.length := by omega
                      have hge2 : ¬ (es2.length : Int) < (es2.length : Int) := by omega
                      have hQ9' : Hid (QInv s v a2 (fun x => if x = e.1.field then true else lf x) (some b) ((es.map (·.1)).take (q + 1)) (fun x => (fun x => if x = e.1.field then true else lf x) x = true)) := by
                        rw [HTK.out]
                        refine (hQy.out.close fun x hx => ?_).add fun _ => ⟨hAy.out, fun _ => if_pos rfl⟩
                        by_cases hxf : x = e.1.field
                        · right
                          intro k hk k4 kf
                          refine hCy.out k ?_
                          have hl : (es2.map (·.1)).length = es2.length := by simp
                          rw [← hl, List.take_length, hcont2.out]
                          refine List.mem_filter.2 ⟨hk, ?_⟩
                          simp only [atI, Bool.and_eq_true, decide_eq_true_eq]
                          exact ⟨k4, by rw [kf, hxf]⟩
                        · left
                          have : (if x = e.1.field then true else lf x) = true := hx
                          rw [if_neg hxf] at this; exact this
                      go_wp2
                      go_roundg (es.length - (q + 1))
                      case measure => omega
                      case rel => exact ⟨q + 1, a2, v2, _, _, by omega, rfl, by go_num, hVy, hLf2, hQ9', hLy⟩
                · have L70 : Hid (∀ w', IMap w' (w6.heap.size + 1) lfm → (Instr.lookup 70 (.map (some (w6.heap.size + 1))) (.int .i64 e.1.field) false).run Tryd.prog w' = .ok (.bool true) w') := fun w' hm => by
                    have := hm.look Tryd.underlying70 zero4 e.1.field
                    rw [hLf.out, hlf] at this; exact this
                  have HF := Lib.hid hlf
                  clear hlf hk1 hk3 hco hmem hmc hat hat2 heb hcl he bq KL hwq
                  go_wp2_with (go_at_call 80; (with_reducible refine CN.out.mono ?_); rintro ee w' ⟨a', v', rfl, hs, hm, ho, _⟩; have hV' := Lib.hid (hVq.out.need hm ho); have kc := Lib.hid (hVq.out.keep ho KC.out (by decide) (by decide) (by decide)); have k1 := kc.out.cell; have k2 := kc.out.lt; have l70 := L70.out w' hV'.out.map; have hN := Lib.hid (HNQ.out a' hs); clear hs hm ho)
                  have hQ2 : Hid (QInv s v a' lf (some b) ((es.map (·.1)).take (q + 1)) (fun x => lf x = true)) := by
                    rw [HTK.out]; exact hN.out.1.add fun _ => ⟨hN.out.2.1, fun _ => HF.out⟩
                  have hLe2 : Hid (2 * cnt n a'.1 + a'.2.length ≤ 2 * cnt n f + ws0.length) := hN.out.2.2
                  clear k1 k2 l70
                  go_roundg (es.length - (q + 1))
                  case measure => omega
                  case rel => exact ⟨q + 1, a', v', lfm, lf, by omega, rfl, by go_num, hV', hLf, hQ2, hLe2⟩
              · have hQ3 : Hid (∀ a', QInv s v a' lf (some b) ((es.map (·.1)).take q) (fun x => lf x = true) → a'.1 e.1.a.toNat = true → QInv s v a' lf (some b) ((es.map (·.1)).take (q + 1)) (fun x => lf x = true)) := fun a' h1 h2 => by
                  rw [HTK.out]; exact h1.add fun _ => ⟨h2, fun h => absurd h hk3⟩
                by_cases hk2 : e.1.kind = 2
                · have q2 : (e.1.kind == 2) = true := by rw [hk2]; rfl
                  clear hk1 hk3 hk2 hco hmem hmc hat hat2 heb hcl he bq KL hwq
                  go_wp2_with (go_at_call 80; (with_reducible refine CN.out.mono ?_); rintro ee w' ⟨a', v', rfl, hs, hm, ho, _⟩; have hV' := Lib.hid (hVq.out.need hm ho); have hN := Lib.hid (HNQ.out a' hs); clear hs hm ho)
                  have hQ2 := Lib.hid (hQ3.out a' hN.out.1 hN.out.2.1)
                  have hLe2 : Hid (2 * cnt n a'.1 + a'.2.length ≤ 2 * cnt n f + ws0.length) := hN.out.2.2
                  go_roundg (es.length - (q + 1))
                  case measure => omega
                  case rel => exact ⟨q + 1, a', v', lfm, lf, by omega, rfl, by go_num, hV', hLf, hQ2, hLe2⟩
                · have hk5 : e.1.kind = 5 := by omega
                  have q2 : (e.1.kind == 2) = false := by rw [hk5]; rfl
                  have q5 : (e.1.kind == 5) = true := by rw [hk5]; rfl
                  clear hk1 hk3 hk2 hk5 hco hmem hmc hat hat2 heb hcl he bq KL hwq
                  go_wp2_with (go_at_call 80; (with_reducible refine CN.out.mono ?_); rintro ee w' ⟨a', v', rfl, hs, hm, ho, _⟩; have hV' := Lib.hid (hVq.out.need hm ho); have hN := Lib.hid (HNQ.out a' hs); clear hs hm ho)
                  have hQ2 := Lib.hid (hQ3.out a' hN.out.1 hN.out.2.1)
                  have hLe2 : Hid (2 * cnt n a'.1 + a'.2.length ≤ 2 * cnt n f + ws0.length) := hN.out.2.2
                  go_roundg (es.length - (q + 1))
                  case measure => omega
                  case rel => exact ⟨q + 1, a', v', lfm, lf, by omega, rfl, by go_num, hV', hLf, hQ2, hLe2⟩
            · obtain rfl : q = es.length := by omega
              have hge : ¬ (es.length : Int) < (es.length : Int) := by omega
              have hQ2 : Hid (QInv s v a lf none [] (fun x => lf x = true)) := hQ.out.finish fun c hc k4 hcb => by
                have hl : (es.map (·.1)).length = es.length := by simp
                rw [← hl, List.take_length, hcont.out]
                refine List.mem_filter.2 ⟨hc, ?_⟩
                simp only [atI, Bool.and_eq_true, decide_eq_true_eq]
                exact ⟨k4, by rw [hcb, Int.toNat_of_nonneg hb0]⟩
              have hLe2 : Hid (2 * cnt n a.1 + a.2.length ≤ 131072) := by have h1 := hLe.out; have h2 := hLen9.out; unfold Hid; omega
              go_wp2
              go_roundg (2 * cnt n a.1 + a.2.length)
              case measure =>
                have h1 := hLe.out
                show 2 * cnt n a.1 + a.2.length < 2 * cnt n f + (ws0.length + 1)
                omega
              case rel => exact ⟨a, vv, lfm, lf, rfl, hV, hLf, hQ2, hLe2⟩
end Go.Proofs.YtcfiohphjlohhaaDoor
