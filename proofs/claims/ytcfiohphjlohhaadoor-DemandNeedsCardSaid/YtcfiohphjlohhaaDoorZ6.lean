/- Z6: D12 D13 D14 D15 D16 D17 in one text (merge.py) -/
import Derived.Test.YtcfiohphjlohhaaDoorZ5
import Derived.Maps.AppendAt
import Derived.Laws.Cover3
/- demand.Needs -/
namespace Go.Proofs.YtcfiohphjlohhaaDoor
open Go.RowKit

set_option maxRecDepth 100000 in
set_option maxHeartbeats 1000000 in
theorem needsP_any (s : Sys) (v : Int) (aS : Option Addr) (cS : Nat) (w : World) (hS : Cons w aS s.cons) :
    Calls Tryd.prog 27 #[sysV s aS cS, .int .i64 v] w (NeedsPost s v w) := by
  have hb : Below w.heap.size w (w.alloc (.cells #[.int .i64 s.vars, .int .i64 s.sites, .int .i64 s.fields, .slice aS s.cons.length cS] 24)) := (Below.refl _ _).alloc (Nat.le_refl _) _
  have HS := Lib.hid (hS.below hb)
  have HB := Lib.hid hb
  have hm := hS.len.le
  have HK := Lib.hid (Blk.new w 24 #[.int .i64 s.vars, .int .i64 s.sites, .int .i64 s.fields, .slice aS s.cons.length cS])
  clear hS hb
  dsimp only [sysV]
  by_cases hR : rightE s v = 0
  case neg =>
    have hq : (rightE s v != 0) = true := by simpa using hR
    have HV : Hid (needsV s v = []) := by unfold Hid needsV; rw [if_neg hR]
    clear hR
    go_enter Tryd.func27, Tryd.ntmps27
    go_wp2_with (go_at_call 53; (with_reducible refine (checkD_any s v aS cS _ HS.out).mono ?_); rintro e w1 ⟨rfl, hb1⟩)
    refine bodyPost_ret (v := .tuple #[.slice none 0 0, .int .i64 (rightE s v)]) (by simp [results, Tryd.results27, go_sem]) rfl ⟨none, 0, by rw [HV.out]; rfl, by rw [HV.out]; exact ints_nil _ 0, HB.out.trans (hb1.mono HB.out.size)⟩
  have HR := Lib.hid hR
  obtain ⟨hE, hv0, hv1⟩ := rightE_ok hR
  have hok := check_ok hE
  obtain ⟨n, hn⟩ : ∃ n : Nat, s.vars.toNat = n := ⟨_, rfl⟩
  have hn6 : n ≤ 65536 := by have := hok.vars; omega
  have HN := Lib.hid hn
  have HV : Hid (needsV s v = pre (vis s v) n) := by unfold Hid needsV; rw [if_pos hR]; unfold needsL; rw [hn]
  obtain ⟨i0, hi, hz0⟩ := info_parts info3
  have HI := Lib.hid hi
  have HZ := Lib.hid hz0
  clear hR hE hok hn hi hz0
  go_enter Tryd.func27, Tryd.ntmps27
  go_wp2_with (first
    | (go_at_call 53; (with_reducible refine (checkD_any s v aS cS _ HS.out).mono ?_); rintro e w1 ⟨rfl, hb1⟩; rw [HR.out]; have k1 := (HK.out.below hb1).cell; have z1 := (HK.out.below hb1).lt)
    | (go_at_call 55; (with_reducible refine (visit_any s v aS cS w1 (HS.out.below hb1) HR.out).mono ?_); rintro e w2 ⟨r, lm, lf, rfl, hr, _, _, hb2⟩; rw [HN.out]; rw [HN.out] at hr; have hb3 := Lib.hid (hb1.trans (hb2.mono hb1.size)); have hr := Lib.hid hr; have hb2 := Lib.hid hb2))
  clear k1
  have HF := Lib.hid (HB.out.trans (hb3.out.mono HB.out.size))
  have hz2 := hr.out.lt
  go_loopg [9, 26] n (fun g lv i wr => ∃ (x : Nat), x ≤ n ∧ g = n - x ∧ i = .int .i64 x ∧ Hid (Below w2.heap.size w2 wr) ∧ Hid (OwnInts w2.heap.size wr lv (pre (vis s v) x)))
  case atStart => exact ⟨0, Nat.zero_le _, rfl, rfl, Below.refl _ _, (World.ownsRow_nil w2 w2.heap.size 3 1 : OwnInts w2.heap.size w2 (.slice none 0 0) [])⟩
  case round =>
    obtain ⟨x, hx, rfl, rfl, hB, hO⟩ := hrel
    have hsz := hB.out.size
    have y1 : r < wr.heap.size := by omega
    by_cases hlt : x < n
    · have c3 : wr.cell? ⟨r, x, none⟩ = some (.bool (vis s v x)) := by rw [(hr.out.below hB.out).cell, rowCells_at _ hlt]
      cases hq : vis s v x
      · rw [hq] at c3
        have hP2 : Hid (pre (vis s v) (x + 1) = pre (vis s v) x) := by unfold Hid; rw [pre_succ, if_neg (by rw [hq]; exact Bool.false_ne_true), List.append_nil]
        clear hq
        go_wp2
        go_roundg (n - (x + 1))
        case measure => omega
        case rel => exact ⟨x + 1, by omega, rfl, by go_num, hB, by rw [hP2.out]; exact hO⟩
      · rw [hq] at c3
        have hP2 : Hid (pre (vis s v) (x + 1) = pre (vis s v) x ++ [(x : Int)]) := by unfold Hid; rw [pre_succ, if_pos hq]
        have hpl2 := pre_len (vis s v) x
        clear hq
        go_wp2_with (at_builtin; refine wpList_append_lies _ rfl (.tmp 32) (.tmp 34) 37 rfl w2.heap.size 3 i0 (.int .i64 0) 1 8 Tryd.underlying37 HI.out HZ.out.1 HZ.out.2.1 HZ.out.2.2 rfl (by decide) _ _ _ rfl (hO.out.alloc _) ⟨wr.heap.size, 0, none⟩ 1 1 [.int .i64 x] rfl rfl ?c1 ?c2 ?c3 ?c4 ?c5 ?c6 _ rfl ?c7)
        case c1 => exact fun j u hu => World.news_of_block (heap_alloc_new wr _) j u hu
        case c2 => exact fun u hu => by rw [List.mem_singleton.1 hu]; rfl
        case c3 => exact Nat.one_pos
        case c4 => unfold maxLen; omega
        case c5 => omega
        case c6 => rw [World.size_alloc]; omega
        case c7 =>
          intro g cap w3 hown hgrow _ _
          have hB1 : Hid (Below w2.heap.size w2 w3) := (hB.out.alloc hsz _).grown hgrow (by rw [World.size_alloc]; omega) fun j hj => (World.ownsRow.lt hO.out j hj).1
          have hO1 : Hid (OwnInts w2.heap.size w3 (.slice (some ⟨g, 0, none⟩) ((pre (vis s v) x).length + 1) cap) (pre (vis s v) (x + 1))) := by
            unfold Hid OwnInts; rw [hP2.out, List.length_append, List.map_append]; exact hown
          clear hown hgrow
          go_wp2
          go_roundg (n - (x + 1))
          case measure => omega
          case rel => exact ⟨x + 1, by omega, rfl, by go_num, hB1, hO1⟩
    · obtain rfl : x = n := by omega
      have hge : ¬ (x : Int) < (x : Int) := by omega
      go_wp2
      obtain ⟨a, c, rfl, hi⟩ := ints_of_own hO.out (by have := pre_len (vis s v) x; omega)
      refine bodyPost_ret (v := .tuple #[.slice a (pre (vis s v) x).length c, .int .i64 0]) (by simp [results, Tryd.results27, go_sem]) rfl ⟨a, c, by rw [HV.out, HR.out], by rw [HV.out]; exact hi, HF.out.trans (hB.out.mono HF.out.size)⟩
end Go.Proofs.YtcfiohphjlohhaaDoor

/- slices.Clone of whole numbers; a list of constraints with sets of its own. -/
namespace Go.Proofs.YtcfiohphjlohhaaDoor
open Go.RowKit

theorem asc_len : ∀ (l : List Int) (k n : Int), l.Pairwise (· < ·) → (∀ x ∈ l, k ≤ x ∧ x < n) → k ≤ n → (l.length : Int) ≤ n - k
  | [], k, n, _, _, h => by simp; omega
  | a :: l, k, n, hp, hr, _ => by
    obtain ⟨h1, h2⟩ := List.pairwise_cons.1 hp
    have ha := hr a List.mem_cons_self
    have := asc_len l (a + 1) n h2 (fun x hx => ⟨by have := h1 x hx; omega, (hr x (List.mem_cons_of_mem _ hx)).2⟩) (by omega)
    simp only [List.length_cons]
    omega
theorem set_len {s : Sys} {c : Con} (ok : SysOk s) (h : ConOk s c) : c.set.length ≤ 1024 := by
  have := asc_len c.set 0 s.sites ((asc_iff _).1 h.asc) h.set ok.sites.1
  have := ok.sites
  omega
theorem eql_nil (w : World) (a : Option Addr) (n c : Nat) : (binOp .eql 37 (.slice a n c) (.slice none 0 0)).run Tryd.prog w = .ok (.bool a.isNone) w := by
  simp only [binOp]
  simp [run_equal_slice_nil w 37 3 a n c Tryd.underlying37]
def ClonePost (w : World) (l : List Int) (e : Ending) (w' : World) : Prop := ∃ v', e = .returned v' ∧ OwnInts w.heap.size w' v' l ∧ Below w.heap.size w w'

set_option maxRecDepth 100000 in
theorem clone_any (l : List Int) (a : Option Addr) (c : Nat) (w : World) (h : Ints w a l) (hl : l.length ≤ 100000) :
    Calls Tryd.prog 54 #[.slice a l.length c] w (ClonePost w l) := by
  have hm := h.len.le
  cases a with
  | none =>
    have hl0 : l = [] := by
      cases l with
      | nil => rfl
      | cons x l =>
        obtain ⟨b, o, e, _⟩ := h.at_ 0 x rfl
        cases e
    subst hl0
    have q37 := fun w => eql_nil w none 0 c
    go_enter Tryd.func54, Tryd.ntmps54
    go_wp2
    go_ret
    exact ⟨_, rfl, World.ownsRow_nil _ _ _ _, Below.refl _ _⟩
  | some ad =>
    obtain ⟨i0, hi, hz0⟩ := info_parts info3
    have HI := Lib.hid hi
    have HZ := Lib.hid hz0
    have hcs : ∀ j u, (l.map (Value.int .i64))[j]? = some u → w.cell? (ad.add j) = some u := fun j u hu => by
      rw [List.getElem?_map] at hu
      cases hj : l[j]? with
      | none => rw [hj] at hu; cases hu
      | some x =>
        rw [hj] at hu
        obtain ⟨b, o, e, hc⟩ := h.at_ j x hj
        injection e with e
        subst e
        have e2 : (⟨b, o, none⟩ : Addr).add j = ⟨b, o + j, none⟩ := by unfold Addr.add; split <;> simp_all
        rw [e2, hc]; simpa using hu
    have hb : Below w.heap.size w (w.alloc (.cells #[] 3)) := (Below.refl _ _).alloc (Nat.le_refl _) _
    have HB := Lib.hid hb
    have HC : Hid (∀ j u, (l.map (Value.int .i64))[j]? = some u → (w.alloc (.cells #[] 3)).cell? (ad.add j) = some u) := fun j u hu => cell_keep hb (hcs j u hu)
    have HO : Hid ((w.alloc (.cells #[] 3)).ownsRow w.heap.size 3 1 (.slice (some ⟨w.heap.size, 0, none⟩) 0 0) 0 []) :=
      ⟨rfl, .inr ⟨w.heap.size, 0, #[], rfl, Nat.le_refl _, heap_alloc_new w _, Nat.le_refl _, by unfold maxLen; omega, rfl, rfl⟩⟩
    have q37 := fun w => eql_nil w (some ad) l.length c
    clear h hcs hb hi hz0
    go_enter Tryd.func54, Tryd.ntmps54
    go_wp2_with (at_builtin; refine wpList_append_own_at _ rfl (.tmp 5) (.tmp 6) 37 rfl w.heap.size 3 i0 (.int .i64 0) 1 8 Tryd.underlying37 HI.out HZ.out.1 HZ.out.2.1 HZ.out.2.2 rfl (by decide) _ 0 [] rfl HO.out ad l.length c (l.map (Value.int .i64)) rfl ?KA HC.out ?KB ?KD ?KE ?KF ?KG)
    case KA => simp
    case KB => exact fun u hu => (by obtain ⟨x, _, rfl⟩ := List.mem_map.1 hu; rfl)
    case KD => unfold maxLen; omega
    case KE => omega
    case KF => rw [World.size_alloc]; omega
    case KG =>
      intro v' w1 hown hgrow _ _
      have hB1 : Hid (Below w.heap.size w w1) := HB.out.grown hgrow (by rw [World.size_alloc]; omega) fun j hj => (World.ownsRow.lt HO.out j hj).1
      have hO1 : Hid (OwnInts w.heap.size w1 v' l) := hown
      clear hown hgrow
      go_wp2
      go_ret
      exact ⟨v', rfl, hO1.out, hB1.out⟩
/-- the new system while its list is made, the sets its own -/
structure MadeT2 (w5 w : World) (s : Sys) (v : Value) (es : List (Con × Option Addr × Nat)) : Prop where
  B : Below w5.heap.size w5 w
  blk : Blk w w5.heap.size 24 #[.int .i64 s.vars, .int .i64 s.sites, .int .i64 s.fields, v]
  own : w.ownsRow w5.heap.size 39 5 v es.length (es.flatMap conCells)
  sets : ∀ e ∈ es, OwnInts w5.heap.size w (.slice e.2.1 e.1.set.length e.2.2) e.1.set
theorem MadeT2.start (w5 : World) (s : Sys) : MadeT2 w5 (w5.alloc (.cells #[.int .i64 s.vars, .int .i64 s.sites, .int .i64 s.fields, .slice none 0 0] 24)) s (.slice none 0 0) [] :=
  ⟨(Below.refl _ _).alloc (Nat.le_refl _) _, Blk.new _ _ _, World.ownsRow_nil _ _ _ _, fun e he => by cases he⟩
theorem MadeT2.below {w5 w w' : World} {s : Sys} {v : Value} {es : List (Con × Option Addr × Nat)} (h : MadeT2 w5 w s v es) (hb : Below w.heap.size w w') : MadeT2 w5 w' s v es :=
  ⟨h.B.trans (hb.mono h.B.size), h.blk.below hb, own_below h.own hb, fun e he => own_below (h.sets e he) hb⟩
theorem MadeT2.setBlk {w5 w : World} {s : Sys} {v : Value} {es : List (Con × Option Addr × Nat)} (h : MadeT2 w5 w s v es) {k : Nat} {cs : Array Value} (hk : Blk w k 39 cs) (hv : some k ≠ v.ownBlock) (h0 : w5.heap.size ≤ k) (i : Nat) (u : Value) : MadeT2 w5 (w.setCell ⟨k, i, none⟩ u) s v es :=
  ⟨h.B.setCell (p := ⟨k, i, none⟩) h0 _, h.blk.far (p := ⟨k, i, none⟩) (fun e => blk_ne hk h.blk (by decide) e.symm) _, own_far h.own hv _, fun e he => own_far (h.sets e he) (own_ne_blk (h.sets e he) hk (by decide)) _⟩
theorem MadeT2.step {w5 w w2 : World} {s : Sys} {v : Value} {es : List (Con × Option Addr × Nat)} {e : Con × Option Addr × Nat} {g cap : Nat} (h : MadeT2 w5 w s v es) (hi : OwnInts w5.heap.size w (.slice e.2.1 e.1.set.length e.2.2) e.1.set)
    (hown : w2.ownsRow w5.heap.size 39 5 (.slice (some ⟨g, 0, none⟩) (es.length + 1) cap) (es.length + 1) (es.flatMap conCells ++ conCells e))
    (hgrow : (w.alloc (.cells #[.int .i64 e.1.kind, .int .i64 e.1.a, .int .i64 e.1.b, .int .i64 e.1.field, .slice e.2.1 e.1.set.length e.2.2] 39)).grownBy w2 v.ownBlock) :
    MadeT2 w5 (w2.setCell ⟨w5.heap.size, 3, none⟩ (.slice (some ⟨g, 0, none⟩) (es.length + 1) cap)) s (.slice (some ⟨g, 0, none⟩) (es.length + 1) cap) (es ++ [e]) := by
  have hb2 : Below w.heap.size w (w.alloc (.cells #[.int .i64 e.1.kind, .int .i64 e.1.a, .int .i64 e.1.b, .int .i64 e.1.field, .slice e.2.1 e.1.set.length e.2.2] 39)) := (Below.refl _ _).alloc (Nat.le_refl _) _
  have nT := own_ne_blk h.own h.blk (by decide)
  have bT : Blk w2 w5.heap.size 24 _ := (h.blk.below hb2).grown hgrow nT
  have hTg : some (⟨w5.heap.size, 3, none⟩ : Addr).block ≠ (Value.slice (some ⟨g, 0, none⟩) (es.length + 1) cap).ownBlock := own_ne_blk hown bT (by decide)
  have hsz := h.B.size
  have hset : ∀ x : Con × Option Addr × Nat, OwnInts w5.heap.size w (.slice x.2.1 x.1.set.length x.2.2) x.1.set → OwnInts w5.heap.size (w2.setCell ⟨w5.heap.size, 3, none⟩ (.slice (some ⟨g, 0, none⟩) (es.length + 1) cap)) (.slice x.2.1 x.1.set.length x.2.2) x.1.set := fun x hx => by
    have h1 := own_below hx hb2
    have h2 : OwnInts w5.heap.size w2 (.slice x.2.1 x.1.set.length x.2.2) x.1.set := own_of h1 fun j hj => hgrow.block j (World.ownsRow.lt h1 j hj).2 fun e2 => own_own_ne h1 (own_below h.own hb2) (by decide) hj e2.symm
    exact own_far h2 (own_ne_blk h2 bT (by decide)) _
  refine ⟨?_, bT.set_ 3 _, ?_, fun x hx => ?_⟩
  · have e1 := hb2.mono hsz
    exact h.B.trans ((e1.grown hgrow (by have := e1.size; omega) fun j hj => (World.ownsRow.lt h.own j hj).1).setCell (p := ⟨w5.heap.size, 3, none⟩) (Nat.le_refl _) _)
  · rw [List.length_append, List.flatMap_append]
    simp only [List.flatMap_cons, List.flatMap_nil, List.append_nil, List.length_cons, List.length_nil, Nat.zero_add]
    exact own_far hown hTg _
  · rcases List.mem_append.1 hx with hx | hx
    · exact hset x (h.sets x hx)
    · rw [List.mem_singleton.1 hx]; exact hset e hi
end Go.Proofs.YtcfiohphjlohhaaDoor

/- demand.Slice -/
namespace Go.Proofs.YtcfiohphjlohhaaDoor
open Go.RowKit

set_option maxRecDepth 100000 in
set_option maxHeartbeats 4000000 in
theorem sliceP_any (s : Sys) (v : Int) (aS : Option Addr) (cS : Nat) (w : World) (hS : Cons w aS s.cons) :
    Calls Tryd.prog 30 #[sysV s aS cS, .int .i64 v] w (SlicePost s v w) := by
  have hb : Below w.heap.size w ((w.alloc (.cells #[.int .i64 s.vars, .int .i64 s.sites, .int .i64 s.fields, .slice aS s.cons.length cS] 24)).alloc (.cells #[.int .i64 0, .int .i64 0, .int .i64 0, .slice none 0 0] 24)) := below_two _ _ _
  have HS := Lib.hid (hS.below hb)
  have HB := Lib.hid hb
  have hm := hS.len.le
  have HK : Hid (Blk ((w.alloc (.cells #[.int .i64 s.vars, .int .i64 s.sites, .int .i64 s.fields, .slice aS s.cons.length cS] 24)).alloc (.cells #[.int .i64 0, .int .i64 0, .int .i64 0, .slice none 0 0] 24)) w.heap.size 24 #[.int .i64 s.vars, .int .i64 s.sites, .int .i64 s.fields, .slice aS s.cons.length cS]) := (Blk.new w 24 _).al _
  have HK2 : Hid (Blk ((w.alloc (.cells #[.int .i64 s.vars, .int .i64 s.sites, .int .i64 s.fields, .slice aS s.cons.length cS] 24)).alloc (.cells #[.int .i64 0, .int .i64 0, .int .i64 0, .slice none 0 0] 24)) (w.heap.size + 1) 24 #[.int .i64 0, .int .i64 0, .int .i64 0, .slice none 0 0]) := by
    have := Blk.new (w.alloc (.cells #[.int .i64 s.vars, .int .i64 s.sites, .int .i64 s.fields, .slice aS s.cons.length cS] 24)) 24 #[.int .i64 0, .int .i64 0, .int .i64 0, .slice none 0 0]
    rw [World.size_alloc] at this; exact this
  have HS0 := Lib.hid hS
  clear hS hb
  dsimp only [sysV]
  by_cases hR : rightE s v = 0
  case neg =>
    have hq : (rightE s v != 0) = true := by simpa using hR
    have HV : Hid (sliceV s v = ⟨0, 0, 0, []⟩) := by unfold Hid sliceV; rw [if_neg hR]
    clear hR
    go_enter Tryd.func30, Tryd.ntmps30
    go_wp2_with (go_at_call 53; (with_reducible refine (checkD_any s v aS cS _ HS.out).mono ?_); rintro e w1 ⟨rfl, hb1⟩; have kk := HK2.out.below hb1; have k2 := kk.cell; have k3 := kk.frozen; have k4 := kk.lt; have kk := Lib.hid kk)
    have b4 := four_set kk.out (.int .i64 0) (.int .i64 0) (.int .i64 0) (.slice none 0 0)
    have r0 := b4.cell 0
    have r1 := b4.cell 1
    have r2 := b4.cell 2
    have r3 := b4.cell 3
    simp only [List.getElem?_toArray, List.getElem?_cons_zero, List.getElem?_cons_succ] at r0 r1 r2 r3
    refine bodyPost_ret (v := .tuple #[.agg #[.int .i64 0, .int .i64 0, .int .i64 0, .slice none 0 0], .int .i64 (rightE s v)]) (by simp [results, Tryd.results30, go_sem, r0, r1, r2, r3]) rfl
      ⟨none, 0, by rw [HV.out]; rfl, by rw [HV.out]; exact ⟨by unfold LenOk; simp, fun i x hi => by simp at hi⟩, four_below (HB.out.trans (hb1.mono HB.out.size)) (Nat.le_succ _) _ _ _ _⟩
  have HR := Lib.hid hR
  obtain ⟨hE, hv0, hv1⟩ := rightE_ok hR
  have hok := check_ok hE
  have HE := Lib.hid hE
  have HOK := Lib.hid hok
  have hm2 := check_len hE
  obtain ⟨n, hn⟩ : ∃ n : Nat, s.vars.toNat = n := ⟨_, rfl⟩
  have hn6 : n ≤ 65536 := by have := hok.vars; omega
  have hvn : s.vars = (n : Int) := by omega
  have HVN := Lib.hid hvn
  have HN := Lib.hid hn
  have HV : Hid (sliceV s v = sw s (s.cons.filter (keepB s v))) := by unfold Hid sliceV; rw [if_pos hR]; rfl
  obtain ⟨i0, hi, hz0⟩ := info_parts info39
  have HI := Lib.hid hi
  have HZ := Lib.hid hz0
  clear hR hE hok hn hi hz0 hvn
  go_enter Tryd.func30, Tryd.ntmps30
  go_wp2_with (first
    | (go_at_call 53; (with_reducible refine (checkD_any s v aS cS _ HS.out).mono ?_); rintro e w1 ⟨rfl, hb1⟩; rw [HR.out]; have k1 := (HK.out.below hb1).cell; have z1 := (HK.out.below hb1).lt)
    | (go_at_call 55; (with_reducible refine (visit_any s v aS cS w1 (HS.out.below hb1) HR.out).mono ?_); rintro e w2 ⟨r, lm, lf, rfl, hr, hlm, hlf, hb2⟩; rw [HN.out]; rw [HN.out] at hr; have hb3 := Lib.hid (hb1.trans (hb2.mono hb1.size)); have hr := Lib.hid hr; have hlm := Lib.hid hlm; have hlf := Lib.hid hlf; have hb2 := Lib.hid hb2; have k5 := (HK.out.below hb3.out).cell; have z5 := (HK.out.below hb3.out).lt))
  clear k1 k5
  have HF := Lib.hid (HB.out.trans (hb3.out.mono HB.out.size))
  have KS := Lib.hid (HK.out.below hb3.out)
  have KR4 := Lib.hid (HK2.out.below hb3.out)
  have SC := Lib.hid (HS0.out.below HF.out)
  have hz2 := hr.out.lt
  go_loopg [35] s.cons.length (fun g i wr => ∃ (j : Nat) (vv : Value) (es : List (Con × Option Addr × Nat)), j ≤ s.cons.length ∧ g = s.cons.length - j ∧ i = .int .i64 j ∧ Hid (MadeT2 w2 wr s vv es) ∧ Hid (es.map (·.1) = (s.cons.take j).filter (keepB s v)))
  case atStart => exact ⟨0, _, [], Nat.zero_le _, rfl, rfl, MadeT2.start w2 s, (by unfold Hid; simp)⟩
  case round =>
    obtain ⟨j, vv, es, hj, rfl, rfl, hM, hL⟩ := hrel
    have hW : Hid (Below w.heap.size w wr) := HF.out.trans (hM.out.B.mono HF.out.size)
    have hsz2 := hM.out.B.size
    have y1 : w2.heap.size < wr.heap.size := hM.out.blk.lt
    have y3 : r < wr.heap.size := by omega
    have hel : es.length ≤ 32768 := by
      have h1 := congrArg List.length hL.out
      have h2 := List.length_filter_le (keepB s v) (s.cons.take j)
      rw [List.length_map] at h1
      rw [List.length_take] at h2
      omega
    by_cases hlt : j < s.cons.length
    · have hco := con_ok (HOK.out.cons _ (List.getElem_mem hlt))
      obtain ⟨b, o, a', c', rfl, e0, e1, e2, e3, e4, hi⟩ := HS0.out.at_ j s.cons[j] (get_at hlt)
      have HI0 := Lib.hid (hi.below hW.out)
      have hsl := set_len HOK.out hco
      replace e0 := cell_keep' hW.out e0
      replace e1 := cell_keep' hW.out e1
      replace e2 := cell_keep' hW.out e2
      replace e3 := cell_keep' hW.out e3
      replace e4 := cell_keep' hW.out e4
      have hb0 := hco.b.1
      have hbn : s.cons[j].b < (n : Int) := by have := HVN.out; have := hco.b.2; omega
      have bw : Below wr.heap.size wr (wr.alloc (.cells #[.int .i64 s.cons[j].kind, .int .i64 s.cons[j].a, .int .i64 s.cons[j].b, .int .i64 s.cons[j].field, .slice a' s.cons[j].set.length c'] 39)) := (Below.refl _ _).alloc (Nat.le_refl _) _
      have KC : Hid (Blk (wr.alloc (.cells #[.int .i64 s.cons[j].kind, .int .i64 s.cons[j].a, .int .i64 s.cons[j].b, .int .i64 s.cons[j].field, .slice a' s.cons[j].set.length c'] 39)) wr.heap.size 39 #[.int .i64 s.cons[j].kind, .int .i64 s.cons[j].a, .int .i64 s.cons[j].b, .int .i64 s.cons[j].field, .slice a' s.cons[j].set.length c']) := Blk.new _ _ _
      have hMc := Lib.hid (hM.out.below bw)
      have f1 : (wr.alloc (.cells #[.int .i64 s.cons[j].kind, .int .i64 s.cons[j].a, .int .i64 s.cons[j].b, .int .i64 s.cons[j].field, .slice a' s.cons[j].set.length c'] 39)).cell? ⟨r, s.cons[j].b.toNat, none⟩ = some (.bool (vis s v s.cons[j].b.toNat)) := by
        rw [(hr.out.below hMc.out.B).cell, rowCells_at _ (by omega)]
      have L70 : (Instr.lookup 70 (.map (some lm)) (.int .i64 s.cons[j].field) false).run Tryd.prog (wr.alloc (.cells #[.int .i64 s.cons[j].kind, .int .i64 s.cons[j].a, .int .i64 s.cons[j].b, .int .i64 s.cons[j].field, .slice a' s.cons[j].set.length c'] 39)) = .ok (.bool (loadsV s v s.cons[j].field)) (wr.alloc (.cells #[.int .i64 s.cons[j].kind, .int .i64 s.cons[j].a, .int .i64 s.cons[j].b, .int .i64 s.cons[j].field, .slice a' s.cons[j].set.length c'] 39)) := by
        have := (hlm.out.below hMc.out.B).look Tryd.underlying70 zero4 s.cons[j].field
        rw [hlf.out] at this; exact this
      obtain ⟨kp, hkp⟩ : ∃ kp, kp = keepB s v s.cons[j] := ⟨_, rfl⟩
      have HL0 : Hid (kp = false → es.map (·.1) = (s.cons.take (j + 1)).filter (keepB s v)) := fun h => by rw [take_filter hlt, ← hkp, h, hL.out]; simp
      have HL1 : Hid (kp = true → ∀ (A : Option Addr) (C : Nat), (es ++ [((s.cons[j], A, C) : Con × Option Addr × Nat)]).map (·.1) = (s.cons.take (j + 1)).filter (keepB s v)) := fun h A C => by rw [take_filter hlt, ← hkp, h, List.map_append, hL.out]; simp
      have hM2 := Lib.hid (hM.out.below bw)
      by_cases hk4 : s.cons[j].kind = 4
      · have hk4' : (s.cons[j].kind == 4) = true := by simpa using hk4
        have hk4'' : (s.cons[j].kind != 4) = false := by simpa using hk4
        have hkl : loadsV s v s.cons[j].field = kp := by rw [hkp]; unfold keepB; rw [if_pos hk4]
        rw [hkl] at L70
        clear hk4 hkl hkp hi hco bw
        cases kp
        · have hL2 := Lib.hid (HL0.out rfl)
          go_wp2
          go_roundg (s.cons.length - (j + 1))
          case measure => omega
          case rel => exact ⟨j + 1, vv, es, by omega, rfl, by go_num, hM2, hL2⟩
        · have HL1' := Lib.hid (HL1.out rfl)
          have CL : Hid (Calls Tryd.prog 54 #[.slice a' s.cons[j].set.length c'] (wr.alloc (.cells #[.int .i64 s.cons[j].kind, .int .i64 s.cons[j].a, .int .i64 s.cons[j].b, .int .i64 s.cons[j].field, .slice a' s.cons[j].set.length c'] 39)) (ClonePost (wr.alloc (.cells #[.int .i64 s.cons[j].kind, .int .i64 s.cons[j].a, .int .i64 s.cons[j].b, .int .i64 s.cons[j].field, .slice a' s.cons[j].set.length c'] 39)) s.cons[j].set)) := clone_any s.cons[j].set a' c' _ (HI0.out.below ((Below.refl _ _).alloc (Nat.le_refl _) _)) (by omega)
          have hvk : Hid (∀ g, vv.ownBlock = some g → g < wr.heap.size) := fun g hg => (World.ownsRow.lt hM.out.own g hg).2
          have hsl' : s.cons[j].set.length ≤ 1000000 := by omega
          go_wp2_with fail
          with_reducible refine CL.out.mono ?_
          rintro e w3 ⟨v3, rfl, hOv, hBv⟩
          obtain ⟨A2, C2, rfl, _⟩ := ints_of_own hOv hsl'
          have kc := KC.out.below hBv
          have kc4 := kc.cell 4
          have kcf := kc.frozen 4
          have kcl := kc.lt
          have hM3 := hM2.out.below hBv
          have kd := Lib.hid (kc.set_ 4 (.slice A2 s.cons[j].set.length C2))
          have hM4 := Lib.hid (hM3.setBlk kc (fun e => by have := hvk.out _ e.symm; omega) (by omega) 4 (.slice A2 s.cons[j].set.length C2))
          have hOv4 := Lib.hid (own_far (p := ⟨wr.heap.size, 4, none⟩) (own_base hOv (show w2.heap.size ≤ _ by rw [World.size_alloc]; omega)) (own_ne_blk hOv kc (by decide)) (.slice A2 s.cons[j].set.length C2))
          have kd0 : ∀ x, (w3.setCell ⟨wr.heap.size, 4, none⟩ (.slice A2 s.cons[j].set.length C2)).cell? ⟨wr.heap.size, x, none⟩ = #[.int .i64 s.cons[j].kind, .int .i64 s.cons[j].a, .int .i64 s.cons[j].b, .int .i64 s.cons[j].field, .slice A2 s.cons[j].set.length C2][x]? := kd.out.cell
          have kt := hM4.out.blk.cell 3
          have kw2 : w2.heap.size < w3.heap.size := hM3.blk.lt
          have kc := Lib.hid kc
          have hBv := Lib.hid hBv
          clear hOv hM3
          have hsy : (w3.setCell ⟨wr.heap.size, 4, none⟩ (.slice A2 s.cons[j].set.length C2)).heap.size = w3.heap.size := by simp [World.setCell]
          have HU : Hid (Blk ((w3.setCell ⟨wr.heap.size, 4, none⟩ (.slice A2 s.cons[j].set.length C2)).alloc (.cells #[.int .i64 s.cons[j].kind, .int .i64 s.cons[j].a, .int .i64 s.cons[j].b, .int .i64 s.cons[j].field, .slice A2 s.cons[j].set.length C2] 39)) w3.heap.size 39 #[.int .i64 s.cons[j].kind, .int .i64 s.cons[j].a, .int .i64 s.cons[j].b, .int .i64 s.cons[j].field, .slice A2 s.cons[j].set.length C2]) := by
            have := Blk.new (w3.setCell ⟨wr.heap.size, 4, none⟩ (.slice A2 s.cons[j].set.length C2)) 39 #[.int .i64 s.cons[j].kind, .int .i64 s.cons[j].a, .int .i64 s.cons[j].b, .int .i64 s.cons[j].field, .slice A2 s.cons[j].set.length C2]
            rw [hsy] at this; exact this
          have HTT : Hid (∀ w5, ((w3.setCell ⟨wr.heap.size, 4, none⟩ (.slice A2 s.cons[j].set.length C2)).alloc (.cells #[.int .i64 s.cons[j].kind, .int .i64 s.cons[j].a, .int .i64 s.cons[j].b, .int .i64 s.cons[j].field, .slice A2 s.cons[j].set.length C2] 39)).grownBy w5 vv.ownBlock → w5.cell? ⟨w2.heap.size, 3, none⟩ = some vv ∧ w5.frozen? ⟨w2.heap.size, 3, none⟩ = false) := fun w5 hg => by
            have hb1 := (hM4.out.blk.al (.cells #[.int .i64 s.cons[j].kind, .int .i64 s.cons[j].a, .int .i64 s.cons[j].b, .int .i64 s.cons[j].field, .slice A2 s.cons[j].set.length C2] 39)).grown hg (own_ne_blk hM4.out.own hM4.out.blk (by decide))
            exact ⟨hb1.cell 3, hb1.frozen 3⟩
          have HOO := Lib.hid (hM4.out.own.alloc (.cells #[.int .i64 s.cons[j].kind, .int .i64 s.cons[j].a, .int .i64 s.cons[j].b, .int .i64 s.cons[j].field, .slice A2 s.cons[j].set.length C2] 39))
          clear hsy
          go_wp2_with (at_builtin; refine wpList_append_lies _ rfl (.tmp 65) (.tmp 67) 22 rfl w2.heap.size 39 i0 _ 5 56 Tryd.underlying22 HI.out HZ.out.1 HZ.out.2.1 HZ.out.2.2 rfl (by decide) vv es.length _ rfl HOO.out ⟨w3.heap.size, 0, none⟩ 1 1 (conCells (s.cons[j], A2, C2)) rfl rfl ?K1A ?K1B ?K1C ?K1D ?K1E ?K1F _ rfl ?K1G)
          try case K1A => exact fun q u hu => by rw [add_blk, HU.out.cell]; rw [← hu]; simp
          try case K1C => exact Nat.one_pos
          case K1B => first | exact cells_one _ | exact ⟨rfl, rfl, rfl, rfl, rfl⟩ | rfl
          case K1D => first | (unfold maxLen; omega) | omega
          case K1E => omega
          case K1F => first | omega | (rw [World.size_alloc]; omega) | (simp [World.setCell]; omega)
          case K1G =>
            intro g cap w5 hown hgrow _ _
            obtain ⟨q1, q2⟩ := HTT.out _ hgrow
            have M1 := Lib.hid (hM4.out.step (e := (s.cons[j], A2, C2)) hOv4.out hown hgrow)
            have hL2 := Lib.hid (HL1'.out A2 C2)
            clear hown hgrow HTT kd0 kt HU HOO
            go_wp2
            go_roundg (s.cons.length - (j + 1))
            case measure => omega
            case rel => exact ⟨j + 1, _, _, by omega, rfl, by go_num, M1, hL2⟩
      · have hk4' : (s.cons[j].kind == 4) = false := by simpa using hk4
        have hk4'' : (s.cons[j].kind != 4) = true := by simpa using hk4
        have hkl : vis s v s.cons[j].b.toNat = kp := by rw [hkp]; unfold keepB; rw [if_neg hk4]
        rw [hkl] at f1
        clear hk4 hkl hkp hi hco bw
        cases kp
        · have hL2 := Lib.hid (HL0.out rfl)
          go_wp2
          go_roundg (s.cons.length - (j + 1))
          case measure => omega
          case rel => exact ⟨j + 1, vv, es, by omega, rfl, by go_num, hM2, hL2⟩
        · have HL1' := Lib.hid (HL1.out rfl)
          have CL : Hid (Calls Tryd.prog 54 #[.slice a' s.cons[j].set.length c'] (wr.alloc (.cells #[.int .i64 s.cons[j].kind, .int .i64 s.cons[j].a, .int .i64 s.cons[j].b, .int .i64 s.cons[j].field, .slice a' s.cons[j].set.length c'] 39)) (ClonePost (wr.alloc (.cells #[.int .i64 s.cons[j].kind, .int .i64 s.cons[j].a, .int .i64 s.cons[j].b, .int .i64 s.cons[j].field, .slice a' s.cons[j].set.length c'] 39)) s.cons[j].set)) := clone_any s.cons[j].set a' c' _ (HI0.out.below ((Below.refl _ _).alloc (Nat.le_refl _) _)) (by omega)
          have hvk : Hid (∀ g, vv.ownBlock = some g → g < wr.heap.size) := fun g hg => (World.ownsRow.lt hM.out.own g hg).2
          have hsl' : s.cons[j].set.length ≤ 1000000 := by omega
          go_wp2_with fail
          with_reducible refine CL.out.mono ?_
          rintro e w3 ⟨v3, rfl, hOv, hBv⟩
          obtain ⟨A2, C2, rfl, _⟩ := ints_of_own hOv hsl'
          have kc := KC.out.below hBv
          have kc4 := kc.cell 4
          have kcf := kc.frozen 4
          have kcl := kc.lt
          have hM3 := hM2.out.below hBv
          have kd := Lib.hid (kc.set_ 4 (.slice A2 s.cons[j].set.length C2))
          have hM4 := Lib.hid (hM3.setBlk kc (fun e => by have := hvk.out _ e.symm; omega) (by omega) 4 (.slice A2 s.cons[j].set.length C2))
          have hOv4 := Lib.hid (own_far (p := ⟨wr.heap.size, 4, none⟩) (own_base hOv (show w2.heap.size ≤ _ by rw [World.size_alloc]; omega)) (own_ne_blk hOv kc (by decide)) (.slice A2 s.cons[j].set.length C2))
          have kd0 : ∀ x, (w3.setCell ⟨wr.heap.size, 4, none⟩ (.slice A2 s.cons[j].set.length C2)).cell? ⟨wr.heap.size, x, none⟩ = #[.int .i64 s.cons[j].kind, .int .i64 s.cons[j].a, .int .i64 s.cons[j].b, .int .i64 s.cons[j].field, .slice A2 s.cons[j].set.length C2][x]? := kd.out.cell
          have kt := hM4.out.blk.cell 3
          have kw2 : w2.heap.size < w3.heap.size := hM3.blk.lt
          have kc := Lib.hid kc
          have hBv := Lib.hid hBv
          clear hOv hM3
          have hsy : (w3.setCell ⟨wr.heap.size, 4, none⟩ (.slice A2 s.cons[j].set.length C2)).heap.size = w3.heap.size := by simp [World.setCell]
          have HU : Hid (Blk ((w3.setCell ⟨wr.heap.size, 4, none⟩ (.slice A2 s.cons[j].set.length C2)).alloc (.cells #[.int .i64 s.cons[j].kind, .int .i64 s.cons[j].a, .int .i64 s.cons[j].b, .int .i64 s.cons[j].field, .slice A2 s.cons[j].set.length C2] 39)) w3.heap.size 39 #[.int .i64 s.cons[j].kind, .int .i64 s.cons[j].a, .int .i64 s.cons[j].b, .int .i64 s.cons[j].field, .slice A2 s.cons[j].set.length C2]) := by
            have := Blk.new (w3.setCell ⟨wr.heap.size, 4, none⟩ (.slice A2 s.cons[j].set.length C2)) 39 #[.int .i64 s.cons[j].kind, .int .i64 s.cons[j].a, .int .i64 s.cons[j].b, .int .i64 s.cons[j].field, .slice A2 s.cons[j].set.length C2]
            rw [hsy] at this; exact this
          have HTT : Hid (∀ w5, ((w3.setCell ⟨wr.heap.size, 4, none⟩ (.slice A2 s.cons[j].set.length C2)).alloc (.cells #[.int .i64 s.cons[j].kind, .int .i64 s.cons[j].a, .int .i64 s.cons[j].b, .int .i64 s.cons[j].field, .slice A2 s.cons[j].set.length C2] 39)).grownBy w5 vv.ownBlock → w5.cell? ⟨w2.heap.size, 3, none⟩ = some vv ∧ w5.frozen? ⟨w2.heap.size, 3, none⟩ = false) := fun w5 hg => by
            have hb1 := (hM4.out.blk.al (.cells #[.int .i64 s.cons[j].kind, .int .i64 s.cons[j].a, .int .i64 s.cons[j].b, .int .i64 s.cons[j].field, .slice A2 s.cons[j].set.length C2] 39)).grown hg (own_ne_blk hM4.out.own hM4.out.blk (by decide))
            exact ⟨hb1.cell 3, hb1.frozen 3⟩
          have HOO := Lib.hid (hM4.out.own.alloc (.cells #[.int .i64 s.cons[j].kind, .int .i64 s.cons[j].a, .int .i64 s.cons[j].b, .int .i64 s.cons[j].field, .slice A2 s.cons[j].set.length C2] 39))
          clear hsy
          go_wp2_with (at_builtin; refine wpList_append_lies _ rfl (.tmp 65) (.tmp 67) 22 rfl w2.heap.size 39 i0 _ 5 56 Tryd.underlying22 HI.out HZ.out.1 HZ.out.2.1 HZ.out.2.2 rfl (by decide) vv es.length _ rfl HOO.out ⟨w3.heap.size, 0, none⟩ 1 1 (conCells (s.cons[j], A2, C2)) rfl rfl ?K2A ?K2B ?K2C ?K2D ?K2E ?K2F _ rfl ?K2G)
          try case K2A => exact fun q u hu => by rw [add_blk, HU.out.cell]; rw [← hu]; simp
          try case K2C => exact Nat.one_pos
          case K2B => first | exact cells_one _ | exact ⟨rfl, rfl, rfl, rfl, rfl⟩ | rfl
          case K2D => first | (unfold maxLen; omega) | omega
          case K2E => omega
          case K2F => first | omega | (rw [World.size_alloc]; omega) | (simp [World.setCell]; omega)
          case K2G =>
            intro g cap w5 hown hgrow _ _
            obtain ⟨q1, q2⟩ := HTT.out _ hgrow
            have M1 := Lib.hid (hM4.out.step (e := (s.cons[j], A2, C2)) hOv4.out hown hgrow)
            have hL2 := Lib.hid (HL1'.out A2 C2)
            clear hown hgrow HTT kd0 kt HU HOO
            go_wp2
            go_roundg (s.cons.length - (j + 1))
            case measure => omega
            case rel => exact ⟨j + 1, _, _, by omega, rfl, by go_num, M1, hL2⟩
    · obtain rfl : j = s.cons.length := by omega
      have hge : ¬ (s.cons.length : Int) < (s.cons.length : Int) := by omega
      have KR5 := Lib.hid (KR4.out.below hM.out.B)
      have k4 := KR5.out.cell
      have k5 := KR5.out.frozen
      have k6 := KR5.out.lt
      have k7 := hM.out.blk.cell
      have hLe : Hid (es.map (·.1) = s.cons.filter (keepB s v)) := by have := hL.out; rw [List.take_length] at this; exact this
      have hsm : Hid (∀ e ∈ es, e.1.set.length ≤ 1000000) := fun e he => by
        have h1 : e.1 ∈ s.cons.filter (keepB s v) := by rw [← hLe.out]; exact List.mem_map.2 ⟨e, he, rfl⟩
        have h2 := set_len HOK.out (con_ok (HOK.out.cons e.1 (List.mem_filter.1 h1).1))
        omega
      obtain ⟨A, cA, hvv, _⟩ := cons_of_own hM.out.own (fun e he => ints_of_own' (hM.out.sets e he) (hsm.out e he)) (by omega)
      subst hvv
      have hHM := Lib.hid hM.out.B
      go_wp2
      have b4 := four_set KR5.out (.int .i64 s.vars) (.int .i64 s.sites) (.int .i64 s.fields) (.slice A es.length cA)
      have r0 := b4.cell 0
      have r1 := b4.cell 1
      have r2 := b4.cell 2
      have r3 := b4.cell 3
      simp only [List.getElem?_toArray, List.getElem?_cons_zero, List.getElem?_cons_succ] at r0 r1 r2 r3
      refine bodyPost_ret (v := .tuple #[.agg #[.int .i64 s.vars, .int .i64 s.sites, .int .i64 s.fields, .slice A es.length cA], .int .i64 0]) (by simp [results, Tryd.results30, go_sem, r0, r1, r2, r3]) rfl
        ⟨A, cA, by rw [HV.out, HR.out, ← hLe.out]; show _ = Ending.returned (.tuple #[.agg #[.int .i64 s.vars, .int .i64 s.sites, .int .i64 s.fields, .slice A (es.map (·.1)).length cA], .int .i64 0]); rw [List.length_map], ?_, four_below (HF.out.trans (hHM.out.mono HF.out.size)) (Nat.le_succ _) _ _ _ _⟩
      rw [HV.out]
      show Cons _ A (s.cons.filter (keepB s v))
      rw [← hLe.out]
      have hgg : w.heap.size + 1 < w2.heap.size := KR4.out.lt
      obtain ⟨A', c', e, hCF⟩ := cons_of_own (own_four (g := w.heap.size + 1) hM.out.own hgg (.int .i64 s.vars) (.int .i64 s.sites) (.int .i64 s.fields) (.slice A es.length cA))
        (fun x hx => ints_of_own' (own_four (g := w.heap.size + 1) (hM.out.sets x hx) hgg (.int .i64 s.vars) (.int .i64 s.sites) (.int .i64 s.fields) (.slice A es.length cA)) (hsm.out x hx)) (by omega)
      injection e with e1
      rw [← e1] at hCF; exact hCF
end Go.Proofs.YtcfiohphjlohhaaDoor

/- demand.Query -/
namespace Go.Proofs.YtcfiohphjlohhaaDoor
open Go.RowKit

theorem row_pts {s : Sys} {n : Nat} {m : Nat → Nat → Bool} {i : Int} (h0 : 0 ≤ i) (h1 : i < s.vars) : row (ptsOf s n m).vars i = pre (m i.toNat) n := by
  have h := row_map (α := fun r => pre (m r) n) (N := s.vars.toNat) (i := i.toNat) (by omega)
  rw [Int.toNat_of_nonneg h0] at h
  exact h
/-- the slice's solution gives what is visited what the whole's gives -/
theorem slice_row {s : Sys} {v : Int} {p q : Pts} (hR : rightE s v = 0) (hp : SolOf s p) (hq : SolOf (sliceS s v) q) {i : Int} (hi : Vis s v i) : row q.vars i = row p.vars i := by
  obtain ⟨hE, _, _⟩ := rightE_ok hR
  obtain ⟨m, hm, rfl⟩ := hp.2 hE
  obtain ⟨m', hm', rfl⟩ := hq.2 (slice_check hE)
  obtain ⟨i0, i1⟩ := vis_in hR hi
  rw [row_pts i0 i1]
  show row (ptsOf (sliceS s v) s.sites.toNat m').vars i = _
  rw [row_pts (s := sliceS s v) i0 i1]
  have := slice_same hR hm hm' hi
  rw [this]
theorem sol_row_len {s : Sys} {p : Pts} (hE : checkE s = 0) (h : SolOf s p) {i : Int} (h0 : 0 ≤ i) (h1 : i < s.vars) : (row p.vars i).length ≤ 1024 := by
  obtain ⟨m, _, rfl⟩ := h.2 hE
  rw [row_pts h0 h1]
  have := pre_len (m i.toNat) s.sites.toNat
  have := (check_ok hE).sites
  omega
def idCells (n k : Nat) : Array Value := ((List.range n).map fun i => Value.int .i64 (if i < k then (i : Int) else 0)).toArray
theorem idCells_at {n k i : Nat} (h : i < n) : (idCells n k)[i]? = some (.int .i64 (if i < k then (i : Int) else 0)) := by unfold idCells; simp [h]
theorem idCells_set {n k : Nat} (h : k < n) : (idCells n k).setIfInBounds k (.int .i64 (k : Int)) = idCells n (k + 1) := by
  apply Array.ext_getElem?
  intro i
  rw [Array.getElem?_setIfInBounds]
  by_cases hi : i < n
  · rw [idCells_at hi]
    by_cases e : k = i
    · subst e
      have hs : k < (idCells n k).size := by simp [idCells]; exact hi
      rw [if_pos rfl, if_pos hs, idCells_at hi, if_pos (by omega)]
    · rw [if_neg e, idCells_at hi]
      by_cases h2 : i < k
      · rw [if_pos h2, if_pos (by omega)]
      · rw [if_neg h2, if_neg (by omega)]
  · have h1 : (idCells n (k + 1))[i]? = none := by simp [idCells]; omega
    have h2 : (idCells n k)[i]? = none := by simp [idCells]; omega
    rw [h1, h2, if_neg (by omega)]
theorem run_ids {n : Nat} {k : Int} (hn : k = n) (h : n ≤ 65536) (w : World) :
    (Instr.makeSlice 37 (.int .i64 k) (.int .i64 k)).run Tryd.prog w = .ok (.slice (some ⟨w.heap.size, 0, none⟩) n n) (w.alloc (.cells (idCells n 0) 3)) := by
  have e : madeCells #[.int .i64 0] n = idCells n 0 := by
    apply Array.ext_getElem?
    intro i
    unfold madeCells idCells
    by_cases h : i < n
    · simp [h, Nat.mod_one]
    · simp [h]
  rw [hn, ← e]
  exact run_make_row' (P := Tryd.prog) 37 3 (.int .i64 0) 8 Tryd.underlying37 info3 rfl .i64 .i64 n (by omega) (by omega) w
theorem pre_all_get {n i : Nat} (h : i < n) : (pre (fun _ => true) n)[i]? = some (i : Int) := by
  unfold pre
  have : (List.range n).filter (fun _ => true) = List.range n := List.filter_eq_self.2 (fun _ _ => rfl)
  rw [this, List.getElem?_map, List.getElem?_range h]; rfl
theorem pre_all_len (n : Nat) : (pre (fun _ => true) n).length = n := by
  unfold pre
  have : (List.range n).filter (fun _ => true) = List.range n := List.filter_eq_self.2 (fun _ _ => rfl)
  rw [this]; simp

set_option maxRecDepth 100000 in
set_option maxHeartbeats 2000000 in
theorem queryP_any (s : Sys) (v b : Int) (p : Pts) (hp : SolOf s p) (aS : Option Addr) (cS : Nat) (w : World) (hS : Cons w aS s.cons) (hT : TzMem w) (v2 : s.sites ≤ 12) :
    Calls Tryd.prog 25 #[sysV s aS cS, .int .i64 v, .int .i64 b] w (QueryPost s v b p w) := by
  have hb : Below w.heap.size w (w.alloc (.cells #[.int .i64 s.vars, .int .i64 s.sites, .int .i64 s.fields, .slice aS s.cons.length cS] 24)) := (Below.refl _ _).alloc (Nat.le_refl _) _
  have HS := Lib.hid (hS.below hb)
  have HT := Lib.hid (hT.below hb)
  have HB := Lib.hid hb
  have hm := hS.len.le
  have HK := Lib.hid (Blk.new w 24 #[.int .i64 s.vars, .int .i64 s.sites, .int .i64 s.fields, .slice aS s.cons.length cS])
  have HP := Lib.hid hp
  clear hS hb hp hT
  dsimp only [sysV]
  by_cases hR : rightE s v = 0
  case neg =>
    have hq : (rightE s v != 0) = true := by simpa using hR
    have HV : Hid (queryR s v b p = ([], rightE s v)) := by unfold Hid queryR; rw [if_pos hR]
    clear hR
    go_enter Tryd.func25, Tryd.ntmps25
    go_wp2_with (go_at_call 53; (with_reducible refine (checkD_any s v aS cS _ HS.out).mono ?_); rintro e w1 ⟨rfl, hb1⟩)
    refine bodyPost_ret (v := .tuple #[.slice none 0 0, .int .i64 (rightE s v)]) (by simp [results, Tryd.results25, go_sem]) rfl (QueryPost.mk HV.out (ints_nil _ 0) (HB.out.trans (hb1.mono HB.out.size)))
  have HR := Lib.hid hR
  obtain ⟨hE, hv0, hv1⟩ := rightE_ok hR
  have hok := check_ok hE
  have HE := Lib.hid hE
  have HNV : Hid (needsV s v = needsL s v) := by unfold Hid needsV; rw [if_pos hR]
  have HSV : Hid (sliceV s v = sliceS s v) := by unfold Hid sliceV; rw [if_pos hR]
  have hnl := needs_len s v
  have hvar := hok.vars
  have hsit := hok.sites
  clear hok hE hR
  by_cases hbl : b < 0
  · have HV : Hid (queryR s v b p = ([], 4)) := by unfold Hid queryR; rw [if_neg (fun h => h HR.out), if_pos (.inl hbl)]
    go_enter Tryd.func25, Tryd.ntmps25
    go_wp2_with (go_at_call 53; (with_reducible refine (checkD_any s v aS cS _ HS.out).mono ?_); rintro e w1 ⟨rfl, hb1⟩; rw [HR.out])
    refine bodyPost_ret (v := .tuple #[.slice none 0 0, .int .i64 4]) (by simp [results, Tryd.results25, go_sem]) rfl (QueryPost.mk HV.out (ints_nil _ 0) (HB.out.trans (hb1.mono HB.out.size)))
  by_cases hbg : 65536 < b
  · have HV : Hid (queryR s v b p = ([], 4)) := by unfold Hid queryR; rw [if_neg (fun h => h HR.out), if_pos (.inr hbg)]
    go_enter Tryd.func25, Tryd.ntmps25
    go_wp2_with (go_at_call 53; (with_reducible refine (checkD_any s v aS cS _ HS.out).mono ?_); rintro e w1 ⟨rfl, hb1⟩; rw [HR.out])
    refine bodyPost_ret (v := .tuple #[.slice none 0 0, .int .i64 4]) (by simp [results, Tryd.results25, go_sem]) rfl (QueryPost.mk HV.out (ints_nil _ 0) (HB.out.trans (hb1.mono HB.out.size)))
  obtain ⟨L, hL⟩ : ∃ L, L = needsL s v := ⟨_, rfl⟩
  rw [← hL] at hnl
  by_cases hlen : b < (L.length : Int)
  · have HV : Hid (queryR s v b p = (pre (fun _ => true) s.sites.toNat, 18)) := by unfold Hid queryR; rw [if_neg (fun h => h HR.out), if_neg (by omega), ← hL, if_pos hlen]
    obtain ⟨n, hn⟩ : ∃ n : Nat, s.sites = n := ⟨s.sites.toNat, by omega⟩
    have HN := Lib.hid hn
    have hmk := run_ids hn (by omega)
    have HL := Lib.hid hL
    have hgt : (L.length : Int) > b := hlen
    have hn1 : n ≤ 1024 := by omega
    clear hL hn
    go_enter Tryd.func25, Tryd.ntmps25
    go_wp2_with (first
      | (go_at_call 53; (with_reducible refine (checkD_any s v aS cS _ HS.out).mono ?_); rintro e w1 ⟨rfl, hb1⟩; rw [HR.out]; have k1 := (HK.out.below hb1).cell; have z1 := (HK.out.below hb1).lt)
      | (go_at_call 27; (with_reducible refine (needsP_any s v aS cS w1 (HS.out.below hb1)).mono ?_); rintro e w2 ⟨a, c, rfl, hi, hb2⟩; rw [HR.out, HNV.out, ← HL.out]; have hb3 := Lib.hid (hb1.trans (hb2.mono hb1.size)); have k2 := (HK.out.below hb3.out).cell; have z2 := (HK.out.below hb3.out).lt))
    have HF := Lib.hid (HB.out.trans (hb3.out.mono HB.out.size))
    clear k1 k2
    go_loopg [44] n (fun g i wr => ∃ (x : Nat), x ≤ n ∧ g = n - x ∧ i = .int .i64 x ∧ Hid (Below w2.heap.size w2 wr) ∧ Hid (Blk wr w2.heap.size 3 (idCells n x)))
    case atStart => exact ⟨0, Nat.zero_le _, rfl, rfl, (Below.refl _ _).alloc (Nat.le_refl _) _, Blk.new _ _ _⟩
    case round =>
      obtain ⟨x, hx, rfl, rfl, hB, hO⟩ := hrel
      by_cases hlt : x < n
      · have c1 : wr.cell? ⟨w2.heap.size, x, none⟩ = some (.int .i64 0) := by rw [hO.out.cell, idCells_at hlt, if_neg (Nat.lt_irrefl _)]
        have c2 : wr.frozen? ⟨w2.heap.size, x, none⟩ = false := hO.out.frozen _
        have hB2 : Hid (Below w2.heap.size w2 (wr.setCell ⟨w2.heap.size, x, none⟩ (.int .i64 x))) := hB.out.setCell (p := ⟨w2.heap.size, x, none⟩) (Nat.le_refl _) _
        have hO2 : Hid (Blk (wr.setCell ⟨w2.heap.size, x, none⟩ (.int .i64 x)) w2.heap.size 3 (idCells n (x + 1))) := by
          rw [← idCells_set hlt]; exact hO.out.set_ x _
        go_wp2
        go_roundg (n - (x + 1))
        case measure => omega
        case rel => exact ⟨x + 1, by omega, rfl, by go_num, hB2, hO2⟩
      · obtain rfl : x = n := by omega
        have hge : ¬ (x : Int) < (x : Int) := by omega
        go_wp2
        have hnn : s.sites.toNat = x := by have := HN.out; omega
        have hii : Ints wr (some ⟨w2.heap.size, 0, none⟩) (pre (fun _ => true) x) := by
          refine ⟨by unfold LenOk; rw [pre_all_len]; omega, fun i y hi => ⟨w2.heap.size, 0, rfl, ?_⟩⟩
          have hix : i < x := by have := (List.getElem?_eq_some_iff.1 hi).1; rw [pre_all_len] at this; exact this
          rw [pre_all_get hix] at hi
          injection hi with hi
          rw [Nat.zero_add, hO.out.cell, idCells_at hix, if_pos hix, hi]
        refine bodyPost_ret (v := .tuple #[.slice (some ⟨w2.heap.size, 0, none⟩) x x, .int .i64 18]) (by simp [results, Tryd.results25, go_sem]) rfl ?_
        have h3 := QueryPost.mk (c := x) (by rw [HV.out, hnn]) hii (HF.out.trans (hB.out.mono HF.out.size))
        rw [pre_all_len] at h3
        exact h3
  · have HV : Hid (queryR s v b p = (row p.vars v, 0)) := by unfold Hid queryR; rw [if_neg (fun h => h HR.out), if_neg (by omega), ← hL, if_neg hlen]
    have HL := Lib.hid hL
    have hle : ¬ (L.length : Int) > b := hlen
    have hpv := Lib.hid (sol_len HE.out HP.out)
    have HSC := Lib.hid (slice_check (v := v) HE.out)
    have hrl := Lib.hid (sol_row_len HE.out HP.out hv0 hv1)
    have hv2 := Lib.hid v2
    clear hL
    go_enter Tryd.func25, Tryd.ntmps25
    go_wp2_with (first
      | (go_at_call 53; (with_reducible refine (checkD_any s v aS cS _ HS.out).mono ?_); rintro e w1 ⟨rfl, hb1⟩; rw [HR.out]; have k1 := (HK.out.below hb1).cell; have z1 := (HK.out.below hb1).lt)
      | (go_at_call 27; (with_reducible refine (needsP_any s v aS cS w1 (HS.out.below hb1)).mono ?_); rintro e w2 ⟨a, c, rfl, hi, hb2⟩; rw [HR.out, HNV.out, ← HL.out]; have hb3 := hb1.trans (hb2.mono hb1.size); have k2 := (HK.out.below hb3).cell; have z2 := (HK.out.below hb3).lt)
      | (go_at_call 30; (with_reducible refine (sliceP_any s v aS cS w2 (HS.out.below hb3)).mono ?_); rintro e w3 ⟨at_, ct, rfl, hCt, hb4⟩; rw [HR.out, HSV.out]; rw [HSV.out] at hCt; have hb5 := hb3.trans (hb4.mono hb3.size); have hlt3 := hCt.len.le; dsimp only [sysV]))
    have KA : Below w3.heap.size w3 (w3.alloc (.cells #[.int .i64 (sliceS s v).vars, .int .i64 (sliceS s v).sites, .int .i64 (sliceS s v).fields, .slice at_ (sliceS s v).cons.length ct] 24)) := (Below.refl _ _).alloc (Nat.le_refl _) _
    refine (solveP_any (sliceS s v) at_ ct _ (hCt.below KA) ((HT.out.below hb5).below KA) hv2.out).mono ?_
    rintro e w4 hq
    obtain ⟨q, b1, b2, d1, d2, rfl, hr1, hr2, hb6, hsol⟩ := hq.sol
    clear hq
    rw [HSC.out]
    have hrow : row q.vars v = row p.vars v := slice_row HR.out HP.out hsol .start
    have hqv : (q.vars.length : Int) = s.vars := sol_len (s := sliceS s v) HSC.out hsol
    have hvl : v < (q.vars.length : Int) := by omega
    obtain ⟨bb, oo, rfl, hbb, hrw⟩ := rows_someI hr1 hv0 hvl
    obtain ⟨ra, rc, hcell, hri⟩ := hrw v hv0 hvl
    have hb7 := Lib.hid (hb5.trans ((KA.trans (hb6.mono KA.size)).mono hb5.size))
    have KB : Below w4.heap.size w4 (w4.alloc (.cells #[.slice (some ⟨bb, oo, none⟩) q.vars.length d1, .slice b2 q.cells.length d2] 29)) := (Below.refl _ _).alloc (Nat.le_refl _) _
    have hl1 := hr1.len.le
    have hl2 := hr2.len.le
    have hrl' : (row q.vars v).length ≤ 100000 := by rw [hrow]; have := hrl.out; omega
    have CL : Hid (Calls Tryd.prog 54 #[.slice ra (row q.vars v).length rc] (w4.alloc (.cells #[.slice (some ⟨bb, oo, none⟩) q.vars.length d1, .slice b2 q.cells.length d2] 29)) (ClonePost (w4.alloc (.cells #[.slice (some ⟨bb, oo, none⟩) q.vars.length d1, .slice b2 q.cells.length d2] 29)) (row q.vars v))) := clone_any (row q.vars v) ra rc _ (hri.below KB) hrl'
    have HROW := Lib.hid hrow
    have HF7 := Lib.hid ((HB.out.trans (hb7.out.mono HB.out.size)))
    have HKB : Hid (Below w.heap.size w (w4.alloc (.cells #[.slice (some ⟨bb, oo, none⟩) q.vars.length d1, .slice b2 q.cells.length d2] 29))) := HF7.out.trans (KB.mono HF7.out.size)
    have hri := Lib.hid hri
    clear hrow hrw KA KB hsol hb6 hb5 hb4 hb3 hCt hr2
    dsimp only [ptsV]
    go_wp2_with (go_at_call 54; (with_reducible refine CL.out.mono ?_); rintro e w5 ⟨v5, rfl, hO5, hB5⟩; have hO5 := Lib.hid hO5; have hB5 := Lib.hid hB5)
    obtain ⟨A5, C5, rfl, hI5⟩ := ints_of_own hO5.out (by omega)
    refine bodyPost_ret (v := .tuple #[.slice A5 (row q.vars v).length C5, .int .i64 0]) (by simp [results, Tryd.results25, go_sem]) rfl (QueryPost.mk (by rw [HV.out, HROW.out]) hI5 (HKB.out.trans (hB5.out.mono HKB.out.size)))
end Go.Proofs.YtcfiohphjlohhaaDoor

/- demand.Alias -/
namespace Go.Proofs.YtcfiohphjlohhaaDoor
open Go.RowKit

theorem alias1_any (x : Int) (a : Option Addr) (c : Nat) (ys : List Int) (p : Addr) (w : World) (hc : w.cell? p = some (.slice a ys.length c)) (h : Ints w a ys) :
    Calls Tryd.prog 79 #[.int .i64 x, .pointer (some p)] w fun e w' => e = .returned (.bool (hasB ys x)) ∧ w = w' := by
  go_enter Tryd.func79, Tryd.ntmps79
  go_wp2_with (go_at_call 78; refine (contains_any _ _ _ _ _ h).mono ?_; rintro e w' ⟨rfl, rfl⟩)
  go_ret
  exact ⟨rfl, rfl⟩
theorem indexFuncA_any (a : Option Addr) (cap : Nat) (xs : List Int) (b : Option Addr) (c : Nat) (ys : List Int) (p : Addr) (w : World) (h : Ints w a xs) (hp : w.cell? p = some (.slice b ys.length c)) (h2 : Ints w b ys) :
    Calls Tryd.prog 84 #[.slice a xs.length cap, .func (.func 79) #[] #[.pointer (some p)]] w fun e w' => e = .returned (.int .i64 (idxP (hasB ys) xs 0)) ∧ w = w' := by
  have hm := h.len.le
  go_enter Tryd.func84, Tryd.ntmps84
  go_wp2
  go_loopg [8] xs.length (fun g i wr => w = wr ∧ ∃ k : Nat, k ≤ xs.length ∧ g = xs.length - k ∧ i = .int .i64 k ∧ Hid (idxP (hasB ys) xs 0 = idxP (hasB ys) (xs.drop k) k))
  case atStart => exact ⟨rfl, 0, Nat.zero_le _, rfl, rfl, rfl⟩
  case round =>
    obtain ⟨rfl, k, hk, rfl, rfl, hn⟩ := hrel
    by_cases hlt : k < xs.length
    · obtain ⟨b, o, rfl, hc⟩ := h.at_ k xs[k] (get_at hlt)
      go_wp2_with (go_at_call 79; refine (alias1_any _ _ _ _ _ _ hp h2).mono ?_; rintro e w' ⟨rfl, rfl⟩)
      · have hq : hasB ys xs[k] = true := by assumption
        go_ret
        exact ⟨ret_int (by rw [hn.out, drop_at hlt, idxP, if_pos hq]), rfl⟩
      · have hq : hasB ys xs[k] = false := by assumption
        go_roundg (xs.length - (k + 1))
        case measure => omega
        case rel => exact ⟨rfl, k + 1, by omega, rfl, by go_num, by unfold Hid; rw [hn.out, drop_at hlt, idxP, if_neg (by simp [hq])]⟩
    · go_wp2
      go_ret
      exact ⟨ret_int (by rw [hn.out, drop_end hlt]; rfl), rfl⟩
theorem containsFuncA_any (a : Option Addr) (cap : Nat) (xs : List Int) (b : Option Addr) (c : Nat) (ys : List Int) (p : Addr) (w : World) (h : Ints w a xs) (hp : w.cell? p = some (.slice b ys.length c)) (h2 : Ints w b ys) :
    Calls Tryd.prog 69 #[.slice a xs.length cap, .func (.func 79) #[] #[.pointer (some p)]] w fun e w' => e = .returned (.bool (xs.any (hasB ys))) ∧ w = w' := by
  go_enter Tryd.func69, Tryd.ntmps69
  go_wp2_with (go_at_call 84; refine (indexFuncA_any _ _ _ _ _ _ _ _ h hp h2).mono ?_; rintro e w' ⟨rfl, rfl⟩)
  go_ret
  exact ⟨ret_bool (idxP_any _ xs 0), rfl⟩

/-- what Alias returns -/
noncomputable def aliasR (s : Sys) (v u b : Int) (p : Pts) : Bool × Int :=
  if (queryR s v b p).2 ≠ 0 then (false, (queryR s v b p).2) else if (queryR s u b p).2 ≠ 0 then (false, (queryR s u b p).2) else ((queryR s v b p).1.any (hasB (queryR s u b p).1), 0)
def AliasPost (r : Bool × Int) (w : World) (e : Ending) (w' : World) : Prop := e = .returned (.tuple #[.bool r.1, .int .i64 r.2]) ∧ Below w.heap.size w w'

set_option maxRecDepth 100000 in
set_option maxHeartbeats 1000000 in
theorem alias_any (s : Sys) (v u b : Int) (p : Pts) (hp : SolOf s p) (aS : Option Addr) (cS : Nat) (w : World) (hS : Cons w aS s.cons) (hT : TzMem w) (v2 : s.sites ≤ 12) :
    Calls Tryd.prog 52 #[sysV s aS cS, .int .i64 v, .int .i64 u, .int .i64 b] w (AliasPost (aliasR s v u b p) w) := by
  have hb : Below w.heap.size w (w.alloc (.cells #[.int .i64 s.vars, .int .i64 s.sites, .int .i64 s.fields, .slice aS s.cons.length cS] 24)) := (Below.refl _ _).alloc (Nat.le_refl _) _
  have HS := Lib.hid (hS.below hb)
  have HT := Lib.hid (hT.below hb)
  have HB := Lib.hid hb
  have HP := Lib.hid hp
  have hm := hS.len.le
  have HK := Lib.hid (Blk.new w 24 #[.int .i64 s.vars, .int .i64 s.sites, .int .i64 s.fields, .slice aS s.cons.length cS])
  have hv2 := Lib.hid v2
  have hmf : ∀ (fn : Fn) (first cap : Array Value) (w : World), (Instr.makeFunc fn first cap).run Tryd.prog w = .ok (.func fn first cap) w := fun _ _ _ _ => rfl
  clear hS hb hp hT v2
  dsimp only [sysV]
  obtain ⟨⟨l, e1⟩, h1⟩ : ∃ r, queryR s v b p = r := ⟨_, rfl⟩
  obtain ⟨⟨m, e2⟩, h2⟩ : ∃ r, queryR s u b p = r := ⟨_, rfl⟩
  have H1 := Lib.hid h1
  have H2 := Lib.hid h2
  clear h1 h2
  by_cases he1 : e1 = 0
  case neg =>
    have hq : (e1 != 0) = true := by simpa using he1
    have HR : Hid (aliasR s v u b p = (false, e1)) := by unfold Hid aliasR; rw [H1.out, if_pos he1]
    clear he1
    go_enter Tryd.func52, Tryd.ntmps52
    go_wp2_with (go_at_call 25; (with_reducible refine (queryP_any s v b p HP.out aS cS _ HS.out HT.out hv2.out).mono ?_); rintro e w1 ⟨a, c, rfl, hi, hb1⟩; rw [H1.out])
    refine bodyPost_ret (v := .tuple #[.bool false, .int .i64 e1]) (by simp [results, Tryd.results52, go_sem]) rfl ⟨by rw [HR.out], HB.out.trans (hb1.mono HB.out.size)⟩
  subst he1
  by_cases he2 : e2 = 0
  case neg =>
    have hq : (e2 != 0) = true := by simpa using he2
    have HR : Hid (aliasR s v u b p = (false, e2)) := by unfold Hid aliasR; rw [H1.out, H2.out, if_neg (fun h => h rfl), if_pos he2]
    clear he2
    go_enter Tryd.func52, Tryd.ntmps52
    go_wp2_with (first
      | (go_at_call 25; (with_reducible refine (queryP_any s v b p HP.out aS cS (w.alloc (.cells #[.int .i64 s.vars, .int .i64 s.sites, .int .i64 s.fields, .slice aS s.cons.length cS] 24)) HS.out HT.out hv2.out).mono ?_); rintro e w1 ⟨a, c, rfl, hi, hb1⟩; rw [H1.out]; have k1 := (HK.out.below hb1).cell; have z1 := (HK.out.below hb1).lt)
      | (go_at_call 25; (with_reducible refine (queryP_any s u b p HP.out aS cS w1 (HS.out.below hb1) (HT.out.below hb1) hv2.out).mono ?_); rintro e w2 ⟨a2, c2, rfl, hi2, hb2⟩; rw [H2.out]; rw [H2.out] at hi2; have hlm := hi2.len.le; have hb3 := hb1.trans (hb2.mono hb1.size)))
    refine bodyPost_ret (v := .tuple #[.bool false, .int .i64 e2]) (by simp [results, Tryd.results52, go_sem]) rfl ⟨by rw [HR.out], (HB.out.trans (hb3.mono HB.out.size)).alloc (HB.out.trans (hb3.mono HB.out.size)).size _⟩
  subst he2
  have HR : Hid (aliasR s v u b p = (l.any (hasB m), 0)) := by unfold Hid aliasR; rw [H1.out, H2.out, if_neg (fun h => h rfl), if_neg (fun h => h rfl)]
  go_enter Tryd.func52, Tryd.ntmps52
  go_wp2_with (first
    | (go_at_call 25; (with_reducible refine (queryP_any s v b p HP.out aS cS (w.alloc (.cells #[.int .i64 s.vars, .int .i64 s.sites, .int .i64 s.fields, .slice aS s.cons.length cS] 24)) HS.out HT.out hv2.out).mono ?_); rintro e w1 ⟨a, c, rfl, hi, hb1⟩; rw [H1.out]; rw [H1.out] at hi; have k1 := (HK.out.below hb1).cell; have z1 := (HK.out.below hb1).lt)
    | (go_at_call 25; (with_reducible refine (queryP_any s u b p HP.out aS cS w1 (HS.out.below hb1) (HT.out.below hb1) hv2.out).mono ?_); rintro e w2 ⟨a2, c2, rfl, hi2, hb2⟩; rw [H2.out]; rw [H2.out] at hi2; have hlm := hi2.len.le; have hb3 := hb1.trans (hb2.mono hb1.size); have KB : Below w2.heap.size w2 (w2.alloc (.cells #[.slice a2 m.length c2] 37)) := (Below.refl _ _).alloc (Nat.le_refl _) _; have KC := (Blk.new w2 37 #[.slice a2 m.length c2]).cell 0; have hi3 := (hi.below hb2).below KB; have hi4 := hi2.below KB)
    | (go_at_call 69; refine (containsFuncA_any _ _ l a2 c2 m _ _ hi3 KC hi4).mono ?_; rintro e w3 ⟨rfl, rfl⟩))
  refine bodyPost_ret (v := .tuple #[.bool (l.any (hasB m)), .int .i64 0]) (by simp [results, Tryd.results52, go_sem]) rfl ⟨by rw [HR.out], (HB.out.trans (hb3.mono HB.out.size)).alloc (HB.out.trans (hb3.mono HB.out.size)).size _⟩
end Go.Proofs.YtcfiohphjlohhaaDoor

/- dataflowlaw24.awake -/
namespace Go.Proofs.YtcfiohphjlohhaaDoor
open Go.RowKit

def kA : Sys := ⟨4, 2, 1, [⟨1, 1, 0, 0, []⟩, ⟨2, 0, 1, 0, []⟩, ⟨2, 1, 2, 0, []⟩, ⟨4, 2, 3, 0, []⟩]⟩
theorem pre_two (f : Nat → Bool) : pre f 2 = (if f 0 = true then [0] else []) ++ (if f 1 = true then [1] else []) := by
  rw [pre_succ, pre_succ]; rfl
theorem pre_four (f : Nat → Bool) : pre f 4 = (((if f 0 = true then [0] else []) ++ (if f 1 = true then [1] else [])) ++ (if f 2 = true then [2] else [])) ++ (if f 3 = true then [3] else []) := by
  rw [pre_succ, pre_succ, pre_two]; rfl
theorem sol_kA {p : Pts} (h : SolOf kA p) : row p.vars 0 = [1] ∧ row p.vars 2 = [1] ∧ row p.vars 3 = [] := by
  obtain ⟨m, hL, rfl⟩ := h.2 (by decide)
  have h0 : m 0 1 = true := hL.sat ⟨1, 1, 0, 0, []⟩ (by simp [kA])
  have h1 : m 1 1 = true := hL.sat ⟨2, 0, 1, 0, []⟩ (by simp [kA]) 1 (by decide) h0
  have h2 : m 2 1 = true := hL.sat ⟨2, 1, 2, 0, []⟩ (by simp [kA]) 1 (by decide) h1
  have hle := hL.least (fun r x => decide (r ≤ 2) && decide (x = 1)) (fun c hc => by
    simp only [kA, List.mem_cons, List.not_mem_nil, or_false] at hc
    rcases hc with rfl | rfl | rfl | rfl
    · exact (by decide : (decide (0 ≤ 2) && decide (1 = 1)) = true)
    · intro x _ hx
      have hx : (decide (0 ≤ 2) && decide (x = 1)) = true := hx
      show (decide (1 ≤ 2) && decide (x = 1)) = true
      simpa using hx
    · intro x _ hx
      have hx : (decide (1 ≤ 2) && decide (x = 1)) = true := hx
      show (decide (2 ≤ 2) && decide (x = 1)) = true
      simpa using hx
    · intro y _ hy
      have hy : (decide (3 ≤ 2) && decide (y = 1)) = true := hy
      simp at hy)
  have no : ∀ r x, (decide (r ≤ 2) && decide (x = 1)) = false → m r x = false := fun r x hf => by
    cases e : m r x
    · rfl
    · have h3 : (decide (r ≤ 2) && decide (x = 1)) = true := hle r x e
      rw [hf] at h3; cases h3
  have r0 := row_pts (s := kA) (n := 2) (m := m) (i := 0) (by decide) (by decide)
  have r2 := row_pts (s := kA) (n := 2) (m := m) (i := 2) (by decide) (by decide)
  have r3 := row_pts (s := kA) (n := 2) (m := m) (i := 3) (by decide) (by decide)
  refine ⟨?_, ?_, ?_⟩
  · refine r0.trans ?_
    show pre (m 0) 2 = [1]
    rw [pre_two, no 0 0 (by decide), h0]; rfl
  · refine r2.trans ?_
    show pre (m 2) 2 = [1]
    rw [pre_two, no 2 0 (by decide), h2]; rfl
  · refine r3.trans ?_
    show pre (m 3) 2 = []
    rw [pre_two, no 3 0 (by decide), no 3 1 (by decide)]; rfl
theorem visA2 (i : Int) : Vis kA 2 i ↔ i = 0 ∨ i = 1 ∨ i = 2 := by
  constructor
  · intro h
    refine Shut.all (m := fun i => i = 0 ∨ i = 1 ∨ i = 2) ⟨by decide, fun c hc k1 k4 hb => ?_, fun c hc k3 hb k hk k4 kf => ?_⟩ i h
    · simp only [kA, List.mem_cons, List.not_mem_nil, or_false] at hc
      rcases hc with rfl | rfl | rfl | rfl
      · exact absurd rfl k1
      · decide
      · decide
      · exact absurd rfl k4
    · simp only [kA, List.mem_cons, List.not_mem_nil, or_false] at hc
      rcases hc with rfl | rfl | rfl | rfl <;> cases k3
  · have v2 : Vis kA 2 2 := .start
    have v1 : Vis kA 2 1 := Vis.arg (c := ⟨2, 1, 2, 0, []⟩) (by simp [kA]) (by decide) (by decide) v2
    have v0 : Vis kA 2 0 := Vis.arg (c := ⟨2, 0, 1, 0, []⟩) (by simp [kA]) (by decide) (by decide) v1
    rintro (rfl | rfl | rfl)
    · exact v0
    · exact v1
    · exact v2
theorem visA0 (i : Int) : Vis kA 0 i ↔ i = 0 := by
  constructor
  · intro h
    refine Shut.all (m := fun i => i = 0) ⟨rfl, fun c hc k1 k4 hb => ?_, fun c hc k3 hb k hk k4 kf => ?_⟩ i h
    · simp only [kA, List.mem_cons, List.not_mem_nil, or_false] at hc
      rcases hc with rfl | rfl | rfl | rfl
      · exact absurd rfl k1
      · cases hb
      · cases hb
      · exact absurd rfl k4
    · simp only [kA, List.mem_cons, List.not_mem_nil, or_false] at hc
      rcases hc with rfl | rfl | rfl | rfl <;> cases k3
  · rintro rfl; exact .start
theorem visA3 (i : Int) : Vis kA 3 i ↔ i = 3 := by
  constructor
  · intro h
    refine Shut.all (m := fun i => i = 3) ⟨rfl, fun c hc k1 k4 hb => ?_, fun c hc k3 hb k hk k4 kf => ?_⟩ i h
    · simp only [kA, List.mem_cons, List.not_mem_nil, or_false] at hc
      rcases hc with rfl | rfl | rfl | rfl
      · exact absurd rfl k1
      · cases hb
      · cases hb
      · exact absurd rfl k4
    · simp only [kA, List.mem_cons, List.not_mem_nil, or_false] at hc
      rcases hc with rfl | rfl | rfl | rfl <;> cases k3
  · rintro rfl; exact .start
theorem visB {v : Int} {i : Nat} {q : Bool} (h : Vis kA v (i : Int) ↔ q = true) : vis kA v i = q := by
  rw [Bool.eq_iff_iff, vis_iff]; exact h
theorem needsA2 : needsL kA 2 = [0, 1, 2] := by
  show pre (vis kA 2) 4 = _
  rw [pre_four, visB (v := 2) (i := 0) (q := true) (by rw [visA2]; decide), visB (v := 2) (i := 1) (q := true) (by rw [visA2]; decide), visB (v := 2) (i := 2) (q := true) (by rw [visA2]; decide), visB (v := 2) (i := 3) (q := false) (by rw [visA2]; decide)]
  rfl
theorem needsA0 : needsL kA 0 = [0] := by
  show pre (vis kA 0) 4 = _
  rw [pre_four, visB (v := 0) (i := 0) (q := true) (by rw [visA0]; decide), visB (v := 0) (i := 1) (q := false) (by rw [visA0]; decide), visB (v := 0) (i := 2) (q := false) (by rw [visA0]; decide), visB (v := 0) (i := 3) (q := false) (by rw [visA0]; decide)]
  rfl
theorem needsA3 : needsL kA 3 = [3] := by
  show pre (vis kA 3) 4 = _
  rw [pre_four, visB (v := 3) (i := 0) (q := false) (by rw [visA3]; decide), visB (v := 3) (i := 1) (q := false) (by rw [visA3]; decide), visB (v := 3) (i := 2) (q := false) (by rw [visA3]; decide), visB (v := 3) (i := 3) (q := true) (by rw [visA3]; decide)]
  rfl
theorem rA2 : rightE kA 2 = 0 := by decide
theorem rA0 : rightE kA 0 = 0 := by decide
theorem rA3 : rightE kA 3 = 0 := by decide
theorem rA4 : rightE kA 4 = 4 := by decide
theorem qA23 {p : Pts} (h : SolOf kA p) : queryR kA 2 3 p = ([1], 0) := by
  unfold queryR
  rw [if_neg (fun h => h rA2), if_neg (by decide), needsA2, if_neg (by decide), (sol_kA h).2.1]
theorem qA22 (p : Pts) : queryR kA 2 2 p = ([0, 1], 18) := by
  unfold queryR
  rw [if_neg (fun h => h rA2), if_neg (by decide), needsA2, if_pos (by decide)]
  show (pre (fun _ => true) 2, (18 : Int)) = _
  rw [pre_two]; rfl
theorem qA43 (p : Pts) : queryR kA 4 3 p = ([], 4) := by
  unfold queryR
  rw [if_pos (by rw [rA4]; decide), rA4]
theorem qA03 {p : Pts} (h : SolOf kA p) : queryR kA 0 3 p = ([1], 0) := by
  unfold queryR
  rw [if_neg (fun h => h rA0), if_neg (by decide), needsA0, if_neg (by decide), (sol_kA h).1]
theorem qA33 {p : Pts} (h : SolOf kA p) : queryR kA 3 3 p = ([], 0) := by
  unfold queryR
  rw [if_neg (fun h => h rA3), if_neg (by decide), needsA3, if_neg (by decide), (sol_kA h).2.2]
theorem aA1 {p : Pts} (h : SolOf kA p) : aliasR kA 0 2 3 p = (true, 0) := by
  unfold aliasR
  rw [qA03 h, qA23 h]; rfl
theorem aA2 {p : Pts} (h : SolOf kA p) : aliasR kA 3 3 3 p = (false, 0) := by
  unfold aliasR
  rw [qA33 h]; rfl
theorem nA2 : needsV kA 2 = [0, 1, 2] := by unfold needsV; rw [if_pos rA2, needsA2]
theorem sA2 : (sliceV kA 2).cons.length = 3 ∧ (sliceV kA 2).vars = 4 := by
  have e : sliceV kA 2 = sliceS kA 2 := by unfold sliceV; rw [if_pos rA2]
  rw [e]
  refine ⟨?_, rfl⟩
  have k1 : keepB kA 2 ⟨1, 1, 0, 0, []⟩ = true := by
    unfold keepB; rw [if_neg (by decide)]; exact visB (v := 2) (i := 0) (by rw [visA2]; decide)
  have k2 : keepB kA 2 ⟨2, 0, 1, 0, []⟩ = true := by
    unfold keepB; rw [if_neg (by decide)]; exact visB (v := 2) (i := 1) (by rw [visA2]; decide)
  have k3 : keepB kA 2 ⟨2, 1, 2, 0, []⟩ = true := by
    unfold keepB; rw [if_neg (by decide)]; exact visB (v := 2) (i := 2) (by rw [visA2]; decide)
  have k4 : keepB kA 2 ⟨4, 2, 3, 0, []⟩ = false := by
    unfold keepB; rw [if_pos rfl]
    cases e2 : loadsV kA 2 0
    · rfl
    · obtain ⟨c, hc, k3, _⟩ := loadsV_iff.1 e2
      simp only [kA, List.mem_cons, List.not_mem_nil, or_false] at hc
      rcases hc with rfl | rfl | rfl | rfl <;> cases k3
  show ([⟨1, 1, 0, 0, []⟩, ⟨2, 0, 1, 0, []⟩, ⟨2, 1, 2, 0, []⟩, ⟨4, 2, 3, 0, []⟩].filter (keepB kA 2)).length = 3
  rw [List.filter_cons, k1, List.filter_cons, k2, List.filter_cons, k3, List.filter_cons, k4]; rfl

abbrev kAC : Array Value := #[.int .i64 1, .int .i64 1, .int .i64 0, .int .i64 0, .slice none 0 0, .int .i64 2, .int .i64 0, .int .i64 1, .int .i64 0, .slice none 0 0, .int .i64 2, .int .i64 1, .int .i64 2, .int .i64 0, .slice none 0 0, .int .i64 4, .int .i64 2, .int .i64 3, .int .i64 0, .slice none 0 0]
theorem cons_kA {w : World} {g : Nat} (h : Blk w g 39 kAC) : Cons w (some ⟨g, 0, none⟩) kA.cons := by
  refine ⟨by unfold LenOk; decide, fun i y hi => ?_⟩
  match i, hi with
  | 0, hi =>
    obtain rfl : (⟨1, 1, 0, 0, []⟩ : Con) = y := by simpa [kA] using hi
    exact ⟨g, 0, none, 0, rfl, h.cell 0, h.cell 1, h.cell 2, h.cell 3, h.cell 4, ints_nil _ 0⟩
  | 1, hi =>
    obtain rfl : (⟨2, 0, 1, 0, []⟩ : Con) = y := by simpa [kA] using hi
    exact ⟨g, 0, none, 0, rfl, h.cell 5, h.cell 6, h.cell 7, h.cell 8, h.cell 9, ints_nil _ 0⟩
  | 2, hi =>
    obtain rfl : (⟨2, 1, 2, 0, []⟩ : Con) = y := by simpa [kA] using hi
    exact ⟨g, 0, none, 0, rfl, h.cell 10, h.cell 11, h.cell 12, h.cell 13, h.cell 14, ints_nil _ 0⟩
  | 3, hi =>
    obtain rfl : (⟨4, 2, 3, 0, []⟩ : Con) = y := by simpa [kA] using hi
    exact ⟨g, 0, none, 0, rfl, h.cell 15, h.cell 16, h.cell 17, h.cell 18, h.cell 19, ints_nil _ 0⟩
abbrev kAV (g : Nat) : Value := .agg #[.int .i64 4, .int .i64 2, .int .i64 1, .slice (some ⟨g, 0, none⟩) 4 4]
/-- what lies in memory while awake asks -/
structure AwD (N : Nat) (w : World) : Prop where
  c : Blk w N 39 kAC
  s : Blk w (N + 1) 24 #[.int .i64 4, .int .i64 2, .int .i64 1, .slice (some ⟨N, 0, none⟩) 4 4]
  tz : TzMem w
theorem AwD.below {N : Nat} {w w' : World} (h : AwD N w) (hb : Below w.heap.size w w') : AwD N w' := ⟨h.c.below hb, h.s.below hb, h.tz.below hb⟩
theorem awQ {N : Nat} {w : World} (h : AwD N w) (v b : Int) (l : List Int) (e : Int) (hq : ∀ p, SolOf kA p → queryR kA v b p = (l, e)) :
    Calls Tryd.prog 25 #[kAV N, .int .i64 v, .int .i64 b] w fun x w' => ∃ (a : Option Addr) (c : Nat), x = .returned (.tuple #[.slice a l.length c, .int .i64 e]) ∧ Ints w' a l ∧ Below w.heap.size w w' := by
  obtain ⟨p, hp⟩ := sol_exists kA
  refine (queryP_any kA v b p hp (some ⟨N, 0, none⟩) 4 w (cons_kA h.c) h.tz (by decide)).mono ?_
  rintro x w' ⟨a, c, he, hi, hb⟩
  rw [hq p hp] at he hi
  exact ⟨a, c, he, hi, hb⟩
theorem awA {N : Nat} {w : World} (h : AwD N w) (v u b : Int) (r : Bool × Int) (hq : ∀ p, SolOf kA p → aliasR kA v u b p = r) :
    Calls Tryd.prog 52 #[kAV N, .int .i64 v, .int .i64 u, .int .i64 b] w fun x w' => x = .returned (.tuple #[.bool r.1, .int .i64 r.2]) ∧ Below w.heap.size w w' := by
  obtain ⟨p, hp⟩ := sol_exists kA
  refine (alias_any kA v u b p hp (some ⟨N, 0, none⟩) 4 w (cons_kA h.c) h.tz (by decide)).mono ?_
  rintro x w' ⟨he, hb⟩
  rw [hq p hp] at he
  exact ⟨he, hb⟩
theorem awN {N : Nat} {w : World} (h : AwD N w) :
    Calls Tryd.prog 27 #[kAV N, .int .i64 2] w fun x w' => ∃ (a : Option Addr) (c : Nat), x = .returned (.tuple #[.slice a 3 c, .int .i64 0]) ∧ Ints w' a [0, 1, 2] ∧ Below w.heap.size w w' := by
  refine (needsP_any kA 2 (some ⟨N, 0, none⟩) 4 w (cons_kA h.c)).mono ?_
  rintro x w' ⟨a, c, he, hi, hb⟩
  rw [nA2] at he hi
  rw [rA2] at he
  exact ⟨a, c, he, hi, hb⟩
theorem awS {N : Nat} {w : World} (h : AwD N w) :
    Calls Tryd.prog 30 #[kAV N, .int .i64 2] w fun x w' => ∃ (a : Option Addr) (c : Nat) (y z : Int), x = .returned (.tuple #[.agg #[.int .i64 4, .int .i64 y, .int .i64 z, .slice a 3 c], .int .i64 0]) ∧ Below w.heap.size w w' := by
  refine (sliceP_any kA 2 (some ⟨N, 0, none⟩) 4 w (cons_kA h.c)).mono ?_
  rintro x w' ⟨a, c, he, hi, hb⟩
  rw [rA2] at he
  dsimp only [sysV] at he
  rw [sA2.1, sA2.2] at he
  exact ⟨a, c, _, _, he, hb⟩

set_option maxRecDepth 100000 in
set_option maxHeartbeats 2000000 in
theorem awakeD_any (w : World) (hT : TzMem w) : Calls Tryd.prog 24 #[] w (BoolAnd true w) := by
  have hb := below_two w (.cells kAC 39) (.cells #[.int .i64 4, .int .i64 2, .int .i64 1, .slice (some ⟨w.heap.size, 0, none⟩) 4 4] 24)
  have HA : AwD w.heap.size ((w.alloc (.cells kAC 39)).alloc (.cells #[.int .i64 4, .int .i64 2, .int .i64 1, .slice (some ⟨w.heap.size, 0, none⟩) 4 4] 24)) := by
    refine ⟨(Blk.new w 39 kAC).al _, ?_, hT.below hb⟩
    have := Blk.new (w.alloc (.cells kAC 39)) 24 #[.int .i64 4, .int .i64 2, .int .i64 1, .slice (some ⟨w.heap.size, 0, none⟩) 4 4]
    rw [World.size_alloc] at this; exact this
  have HB := Lib.hid hb
  have HA := Lib.hid HA
  clear hb hT
  go_enter Tryd.func24, Tryd.ntmps24
  go_wp2_with fail
  generalize (w.alloc (.cells kAC 39)).alloc (.cells #[.int .i64 4, .int .i64 2, .int .i64 1, .slice (some ⟨w.heap.size, 0, none⟩) 4 4] 24) = w0 at *
  have x0 := HA.out.s.cell
  go_wp2_with (first
    | (go_at_call 25; (with_reducible refine (awQ HA.out 2 3 [1] 0 (fun p h => qA23 h)).mono ?_); rintro e w1 ⟨a1, c1, rfl, i1, b1⟩; have A1 := Lib.hid (HA.out.below b1); have x1 := A1.out.s.cell; have D1 := Lib.hid (HB.out.trans (b1.mono HB.out.size)); have I1 := Lib.hid i1; clear i1 b1; dsimp only [List.length_cons, List.length_nil, Nat.zero_add, Nat.reduceAdd])
    | (go_at_call 25; (with_reducible refine (awQ A1.out 2 2 [0, 1] 18 (fun p h => qA22 p)).mono ?_); rintro e w2 ⟨a2, c2, rfl, i2, b2⟩; have A2 := Lib.hid (A1.out.below b2); have x2 := A2.out.s.cell; have E2 := Lib.hid b2; have D2 := Lib.hid (D1.out.trans (b2.mono D1.out.size)); clear i2 b2; dsimp only [List.length_cons, List.length_nil, Nat.zero_add, Nat.reduceAdd])
    | (go_at_call 25; (with_reducible refine (awQ A2.out 4 3 [] 4 (fun p h => qA43 p)).mono ?_); rintro e w3 ⟨a3, c3, rfl, i3, b3⟩; have A3 := Lib.hid (A2.out.below b3); have x3 := A3.out.s.cell; have E3 := Lib.hid (E2.out.trans (b3.mono E2.out.size)); have D3 := Lib.hid (D2.out.trans (b3.mono D2.out.size)); clear i3 b3; dsimp only [List.length_cons, List.length_nil, Nat.zero_add, Nat.reduceAdd])
    | (go_at_call 27; (with_reducible refine (awN A3.out).mono ?_); rintro e w4 ⟨a4, c4, rfl, i4, b4⟩; have A4 := Lib.hid (A3.out.below b4); have x4 := A4.out.s.cell; have E4 := Lib.hid (E3.out.trans (b4.mono E3.out.size)); have D4 := Lib.hid (D3.out.trans (b4.mono D3.out.size)); have I4 := Lib.hid i4; clear i4 b4)
    | (go_at_call 30; (with_reducible refine (awS A4.out).mono ?_); rintro e w5 ⟨a5, c5, y5, z5, rfl, b5⟩; have b5' := b5.trans ((Below.alloc (Below.refl w5.heap.size w5) (Nat.le_refl _) (.cells #[.int .i64 4, .int .i64 y5, .int .i64 z5, .slice a5 3 c5] 24)).mono b5.size); have A5 := Lib.hid (A4.out.below b5'); have x5 := A5.out.s.cell; have K5 := Lib.hid (Blk.new w5 24 #[.int .i64 4, .int .i64 y5, .int .i64 z5, .slice a5 3 c5]); have E5 := Lib.hid (E4.out.trans (b5'.mono E4.out.size)); have D5 := Lib.hid (D4.out.trans (b5'.mono D4.out.size)); have F5 := Lib.hid b5'; clear b5 b5')
    | (go_at_call 52; (with_reducible refine (awA A5.out 0 2 3 (true, 0) (fun p h => aA1 h)).mono ?_); rintro e w6 ⟨rfl, b6⟩; have A6 := Lib.hid (A5.out.below b6); have x6 := A6.out.s.cell; have K6 := Lib.hid (K5.out.below b6); have E6 := Lib.hid (E5.out.trans (b6.mono E5.out.size)); have D6 := Lib.hid (D5.out.trans (b6.mono D5.out.size)); have F6 := Lib.hid (F5.out.trans (b6.mono F5.out.size)); clear b6)
    | (go_at_call 52; (with_reducible refine (awA A6.out 3 3 3 (false, 0) (fun p h => aA2 h)).mono ?_); rintro e w7 ⟨rfl, b7⟩; have K7 := Lib.hid (K6.out.below b7); have x7 := K7.out.cell; have E7 := E6.out.trans (b7.mono E6.out.size); have D7 := Lib.hid (D6.out.trans (b7.mono D6.out.size)); have F7 := F6.out.trans (b7.mono F6.out.size); obtain ⟨g1, o1, rfl, j1⟩ := (I1.out.below E7).at_ 0 1 rfl; simp only [Nat.add_zero] at j1; obtain ⟨g4, o4, rfl, j4⟩ := (I4.out.below F7).at_ 2 2 rfl; clear b7 E7 F7))

  go_ret
  exact BoolAnd.mk rfl D7.out
end Go.Proofs.YtcfiohphjlohhaaDoor
