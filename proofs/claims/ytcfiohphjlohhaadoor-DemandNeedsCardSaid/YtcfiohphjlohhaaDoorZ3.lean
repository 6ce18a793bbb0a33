/- Z3: D4 D5 D6 in one text (merge.py) -/
import Derived.Test.YtcfiohphjlohhaaDoorZ2
/- dataflowref24.Needs -/
namespace Go.Proofs.YtcfiohphjlohhaaDoor
open Go.RowKit

/-- what Needs lists, or nothing -/
noncomputable def needsV (s : Sys) (v : Int) : List Int := if rightE s v = 0 then needsL s v else []
/-- what Needs returns -/
def NeedsPost (s : Sys) (v : Int) (w : World) (e : Ending) (w' : World) : Prop :=
  ∃ (a : Option Addr) (c : Nat), e = .returned (.tuple #[.slice a (needsV s v).length c, .int .i64 (rightE s v)]) ∧ Ints w' a (needsV s v) ∧ Below w.heap.size w w'
theorem needs_len (s : Sys) (v : Int) : (needsL s v).length ≤ s.vars.toNat := pre_len _ _

set_option maxRecDepth 100000 in
set_option maxHeartbeats 1000000 in
theorem needsR_any (s : Sys) (v : Int) (aS : Option Addr) (cS : Nat) (w : World) (hS : Cons w aS s.cons) :
    Calls Tryd.prog 28 #[sysV s aS cS, .int .i64 v] w (NeedsPost s v w) := by
  have hb : Below w.heap.size w (w.alloc (.cells #[.int .i64 s.vars, .int .i64 s.sites, .int .i64 s.fields, .slice aS s.cons.length cS] 24)) := (Below.refl _ _).alloc (Nat.le_refl _) _
  have HS := Lib.hid (hS.below hb)
  have HB := Lib.hid hb
  have hm := hS.len.le
  have HK := Lib.hid (Blk.new w 24 #[.int .i64 s.vars, .int .i64 s.sites, .int .i64 s.fields, .slice aS s.cons.length cS])
  clear hS hb
  dsimp only [sysV]
  by_cases hR : rightE s v = 0
  case neg =>
    have hq : (rightE s v != 0) = true := by simpa using hR
    have HV : Hid (needsV s v = []) := by unfold Hid needsV; rw [if_neg hR]
    clear hR
    go_enter Tryd.func28, Tryd.ntmps28
    go_wp2_with (go_at_call 56; (with_reducible refine (right_any s v aS cS _ HS.out).mono ?_); rintro e w1 ⟨rfl, hb1⟩)
    refine bodyPost_ret (v := .tuple #[.slice none 0 0, .int .i64 (rightE s v)]) (by simp [results, Tryd.results28, go_sem]) rfl ⟨none, 0, by rw [HV.out]; rfl, by rw [HV.out]; exact ints_nil _ 0, HB.out.trans (hb1.mono HB.out.size)⟩
  have HR := Lib.hid hR
  obtain ⟨hE, hv0, hv1⟩ := rightE_ok hR
  have hok := check_ok hE
  obtain ⟨n, hn⟩ : ∃ n : Nat, s.vars.toNat = n := ⟨_, rfl⟩
  have hn6 : n ≤ 65536 := by have := hok.vars; omega
  have HN := Lib.hid hn
  have HV : Hid (needsV s v = pre (vis s v) n) := by unfold Hid needsV; rw [if_pos hR]; unfold needsL; rw [hn]
  obtain ⟨i0, hi, hz0⟩ := info_parts info3
  have HI := Lib.hid hi
  have HZ := Lib.hid hz0
  clear hR hE hok hn hi hz0
  go_enter Tryd.func28, Tryd.ntmps28
  go_wp2_with (first
    | (go_at_call 56; (with_reducible refine (right_any s v aS cS _ HS.out).mono ?_); rintro e w1 ⟨rfl, hb1⟩; rw [HR.out]; have k1 := (HK.out.below hb1).cell; have z1 := (HK.out.below hb1).lt)
    | (go_at_call 57; (with_reducible refine (visited_any s v aS cS w1 (HS.out.below hb1) HR.out).mono ?_); rintro e w2 ⟨r, rfl, hr, hr0, hb2⟩; rw [HN.out]; rw [HN.out] at hr; have hb3 := Lib.hid (hb1.trans (hb2.mono hb1.size)); have hr := Lib.hid hr; have hb2 := Lib.hid hb2))
  clear k1
  have HF := Lib.hid (HB.out.trans (hb3.out.mono HB.out.size))
  have hz2 := hr.out.lt
  go_loopg [8, 9] n (fun g lv i wr => ∃ (x : Nat), x ≤ n ∧ g = n - x ∧ i = .int .i64 x ∧ Hid (Below w2.heap.size w2 wr) ∧ Hid (OwnInts w2.heap.size wr lv (pre (vis s v) x)))
  case atStart => exact ⟨0, Nat.zero_le _, rfl, rfl, Below.refl _ _, (World.ownsRow_nil w2 w2.heap.size 3 1 : OwnInts w2.heap.size w2 (.slice none 0 0) [])⟩
  case round =>
    obtain ⟨x, hx, rfl, rfl, hB, hO⟩ := hrel
    have hsz := hB.out.size
    have y1 : r < wr.heap.size := by omega
    by_cases hlt : x < n
    · have c3 : wr.cell? ⟨r, x, none⟩ = some (.bool (vis s v x)) := by rw [(hr.out.below hB.out).cell, rowCells_at _ hlt]
      cases hq : vis s v x
      · rw [hq] at c3
        have hP2 : Hid (pre (vis s v) (x + 1) = pre (vis s v) x) := by unfold Hid; rw [pre_succ, if_neg (by rw [hq]; exact Bool.false_ne_true), List.append_nil]
        clear hq
        go_wp2
        go_roundg (n - (x + 1))
        case measure => omega
        case rel => exact ⟨x + 1, by omega, rfl, by go_num, hB, by rw [hP2.out]; exact hO⟩
      · rw [hq] at c3
        have hP2 : Hid (pre (vis s v) (x + 1) = pre (vis s v) x ++ [(x : Int)]) := by unfold Hid; rw [pre_succ, if_pos hq]
        have hpl2 := pre_len (vis s v) x
        clear hq
        go_wp2_with (at_builtin; refine wpList_append_lies _ rfl (.tmp 29) (.tmp 31) 37 rfl w2.heap.size 3 i0 (.int .i64 0) 1 8 Tryd.underlying37 HI.out HZ.out.1 HZ.out.2.1 HZ.out.2.2 rfl (by decide) _ _ _ rfl (hO.out.alloc _) ⟨wr.heap.size, 0, none⟩ 1 1 [.int .i64 x] rfl rfl ?c1 ?c2 ?c3 ?c4 ?c5 ?c6 _ rfl ?c7)
        case c1 => exact fun j u hu => World.news_of_block (heap_alloc_new wr _) j u hu
        case c2 => exact fun u hu => by rw [List.mem_singleton.1 hu]; rfl
        case c3 => exact Nat.one_pos
        case c4 => unfold maxLen; omega
        case c5 => omega
        case c6 => rw [World.size_alloc]; omega
        case c7 =>
          intro g cap w3 hown hgrow _ _
          have hB1 : Hid (Below w2.heap.size w2 w3) := (hB.out.alloc hsz _).grown hgrow (by rw [World.size_alloc]; omega) fun j hj => (World.ownsRow.lt hO.out j hj).1
          have hO1 : Hid (OwnInts w2.heap.size w3 (.slice (some ⟨g, 0, none⟩) ((pre (vis s v) x).length + 1) cap) (pre (vis s v) (x + 1))) := by
            unfold Hid OwnInts; rw [hP2.out, List.length_append, List.map_append]; exact hown
          clear hown hgrow
          go_wp2
          go_roundg (n - (x + 1))
          case measure => omega
          case rel => exact ⟨x + 1, by omega, rfl, by go_num, hB1, hO1⟩
    · obtain rfl : x = n := by omega
      have hge : ¬ (x : Int) < (x : Int) := by omega
      go_wp2
      obtain ⟨a, c, rfl, hi⟩ := ints_of_own hO.out (by have := pre_len (vis s v) x; omega)
      refine bodyPost_ret (v := .tuple #[.slice a (pre (vis s v) x).length c, .int .i64 0]) (by simp [results, Tryd.results28, go_sem]) rfl ⟨a, c, by rw [HV.out, HR.out], by rw [HV.out]; exact hi, HF.out.trans (hB.out.mono HF.out.size)⟩
end Go.Proofs.YtcfiohphjlohhaaDoor

/- dataflowref24.Query -/
namespace Go.Proofs.YtcfiohphjlohhaaDoor
open Go.RowKit

/-- what Query returns; p: the least solution -/
noncomputable def queryR (s : Sys) (v b : Int) (p : Pts) : List Int × Int :=
  if rightE s v ≠ 0 then ([], rightE s v) else if b < 0 ∨ 65536 < b then ([], 4) else if b < (needsL s v).length then (pre (fun _ => true) s.sites.toNat, 18) else (row p.vars v, 0)
def QueryPost (s : Sys) (v b : Int) (p : Pts) (w : World) (e : Ending) (w' : World) : Prop :=
  ∃ (a : Option Addr) (c : Nat), e = .returned (.tuple #[.slice a (queryR s v b p).1.length c, .int .i64 (queryR s v b p).2]) ∧ Ints w' a (queryR s v b p).1 ∧ Below w.heap.size w w'
theorem QueryPost.mk {s : Sys} {v b : Int} {p : Pts} {w w' : World} {l : List Int} {e : Int} {a : Option Addr} {c : Nat} (h : queryR s v b p = (l, e)) (hi : Ints w' a l) (hb : Below w.heap.size w w') : QueryPost s v b p w (.returned (.tuple #[.slice a l.length c, .int .i64 e])) w' :=
  ⟨a, c, by rw [h], by rw [h]; exact hi, hb⟩
theorem sol_len {s : Sys} {p : Pts} (hE : checkE s = 0) (h : SolOf s p) : (p.vars.length : Int) = s.vars := by
  obtain ⟨m, _, rfl⟩ := h.2 hE
  have := (pts_lens s s.sites.toNat m).1
  have ok := (check_ok hE).vars
  omega
theorem pre_true (n : Nat) : pre (fun _ => true) (n + 1) = pre (fun _ => true) n ++ [(n : Int)] := by rw [pre_succ]; rfl

set_option maxRecDepth 100000 in
set_option maxHeartbeats 1000000 in
theorem queryR_any (s : Sys) (v b : Int) (p : Pts) (hp : SolOf s p) (aS : Option Addr) (cS : Nat) (w : World) (hS : Cons w aS s.cons) :
    Calls Tryd.prog 26 #[sysV s aS cS, .int .i64 v, .int .i64 b] w (QueryPost s v b p w) := by
  have hb : Below w.heap.size w (w.alloc (.cells #[.int .i64 s.vars, .int .i64 s.sites, .int .i64 s.fields, .slice aS s.cons.length cS] 24)) := (Below.refl _ _).alloc (Nat.le_refl _) _
  have HS := Lib.hid (hS.below hb)
  have HB := Lib.hid hb
  have hm := hS.len.le
  have HK := Lib.hid (Blk.new w 24 #[.int .i64 s.vars, .int .i64 s.sites, .int .i64 s.fields, .slice aS s.cons.length cS])
  have HP := Lib.hid hp
  clear hS hb hp
  dsimp only [sysV]
  by_cases hR : rightE s v = 0
  case neg =>
    have hq : (rightE s v != 0) = true := by simpa using hR
    have HV : Hid (queryR s v b p = ([], rightE s v)) := by unfold Hid queryR; rw [if_pos hR]
    clear hR
    go_enter Tryd.func26, Tryd.ntmps26
    go_wp2_with (go_at_call 28; (with_reducible refine (needsR_any s v aS cS _ HS.out).mono ?_); rintro e w1 ⟨a, c, rfl, hi, hb1⟩)
    refine bodyPost_ret (v := .tuple #[.slice none 0 0, .int .i64 (rightE s v)]) (by simp [results, Tryd.results26, go_sem]) rfl (QueryPost.mk HV.out (ints_nil _ 0) (HB.out.trans (hb1.mono HB.out.size)))
  have HR := Lib.hid hR
  obtain ⟨hE, hv0, hv1⟩ := rightE_ok hR
  have hok := check_ok hE
  have HE := Lib.hid hE
  have HNV : Hid (needsV s v = needsL s v) := by unfold Hid needsV; rw [if_pos hR]
  have hnl := needs_len s v
  have hvar := hok.vars
  have hsit := hok.sites
  clear hok hE hR
  by_cases hb0 : b < 0
  · have HV : Hid (queryR s v b p = ([], 4)) := by unfold Hid queryR; rw [if_neg (fun h => h HR.out), if_pos (.inl hb0)]
    go_enter Tryd.func26, Tryd.ntmps26
    go_wp2_with (go_at_call 28; (with_reducible refine (needsR_any s v aS cS _ HS.out).mono ?_); rintro e w1 ⟨a, c, rfl, hi, hb1⟩; rw [HR.out])
    refine bodyPost_ret (v := .tuple #[.slice none 0 0, .int .i64 4]) (by simp [results, Tryd.results26, go_sem]) rfl (QueryPost.mk HV.out (ints_nil _ 0) (HB.out.trans (hb1.mono HB.out.size)))
  by_cases hb1 : 65536 < b
  · have HV : Hid (queryR s v b p = ([], 4)) := by unfold Hid queryR; rw [if_neg (fun h => h HR.out), if_pos (.inr hb1)]
    go_enter Tryd.func26, Tryd.ntmps26
    go_wp2_with (go_at_call 28; (with_reducible refine (needsR_any s v aS cS _ HS.out).mono ?_); rintro e w1 ⟨a, c, rfl, hi, hb1⟩; rw [HR.out])
    refine bodyPost_ret (v := .tuple #[.slice none 0 0, .int .i64 4]) (by simp [results, Tryd.results26, go_sem]) rfl (QueryPost.mk HV.out (ints_nil _ 0) (HB.out.trans (hb1.mono HB.out.size)))
  obtain ⟨L, hL⟩ : ∃ L, L = needsL s v := ⟨_, rfl⟩
  rw [← hL] at hnl
  by_cases hlen : b < (L.length : Int)
  · have HV : Hid (queryR s v b p = (pre (fun _ => true) s.sites.toNat, 18)) := by unfold Hid queryR; rw [if_neg (fun h => h HR.out), if_neg (by omega), ← hL, if_pos hlen]
    obtain ⟨n, hn⟩ : ∃ n : Nat, s.sites = n := ⟨s.sites.toNat, by omega⟩
    have HN := Lib.hid hn
    obtain ⟨i0, hi, hz0⟩ := info_parts info3
    have HI := Lib.hid hi
    have HZ := Lib.hid hz0
    have HL := Lib.hid hL
    have hgt : (L.length : Int) > b := hlen
    have hn1 : n ≤ 1024 := by omega
    clear hi hz0 hL hn
    go_enter Tryd.func26, Tryd.ntmps26
    go_wp2_with (go_at_call 28; (with_reducible refine (needsR_any s v aS cS _ HS.out).mono ?_); rintro e w1 ⟨a, c, rfl, hi, hb2⟩; rw [HR.out, HNV.out, ← HL.out]; have hi := Lib.hid hi; have hb2 := Lib.hid hb2)
    have HF := Lib.hid (HB.out.trans (hb2.out.mono HB.out.size))
    have KS := Lib.hid (HK.out.below hb2.out)
    go_loopg [10, 11] n (fun g lv i wr => ∃ (x : Nat), x ≤ n ∧ g = n - x ∧ i = .int .i64 x ∧ Hid (Below w1.heap.size w1 wr) ∧ Hid (OwnInts w1.heap.size wr lv (pre (fun _ => true) x)))
    case atStart => exact ⟨0, Nat.zero_le _, rfl, rfl, Below.refl _ _, (World.ownsRow_nil w1 w1.heap.size 3 1 : OwnInts w1.heap.size w1 (.slice none 0 0) [])⟩
    case round =>
      obtain ⟨x, hx, rfl, rfl, hB, hO⟩ := hrel
      have hsz := hB.out.size
      have cs1 : wr.cell? ⟨w.heap.size, 1, none⟩ = some (.int .i64 n) := by rw [← HN.out]; exact (KS.out.below hB.out).cell 1
      have hpl2 := pre_len (fun _ => true) x
      by_cases hlt : x < n
      · have hP2 := Lib.hid (pre_true x)
        go_wp2_with (at_builtin; refine wpList_append_lies _ rfl (.tmp 39) (.tmp 41) 37 rfl w1.heap.size 3 i0 (.int .i64 0) 1 8 Tryd.underlying37 HI.out HZ.out.1 HZ.out.2.1 HZ.out.2.2 rfl (by decide) _ _ _ rfl (hO.out.alloc _) ⟨wr.heap.size, 0, none⟩ 1 1 [.int .i64 x] rfl rfl ?d1 ?d2 ?d3 ?d4 ?d5 ?d6 _ rfl ?d7)
        try case d1 => exact fun j u hu => World.news_of_block (heap_alloc_new wr _) j u hu
        case d2 => first | rfl | exact fun u hu => by rw [List.mem_singleton.1 hu]; rfl
        try case d3 => exact Nat.one_pos
        case d4 => first | (unfold maxLen; omega) | omega | (simp only [maxLen]; omega)
        case d5 => omega
        case d6 => omega
        case d7 =>
          intro g cap w3 hown hgrow _ _
          have hB1 : Hid (Below w1.heap.size w1 w3) := (hB.out.alloc hsz _).grown hgrow (by rw [World.size_alloc]; omega) fun j hj => (World.ownsRow.lt hO.out j hj).1
          have hO1 : Hid (OwnInts w1.heap.size w3 (.slice (some ⟨g, 0, none⟩) ((pre (fun _ => true) x).length + 1) cap) (pre (fun _ => true) (x + 1))) := by
            unfold Hid OwnInts; rw [hP2.out, List.length_append, List.map_append]; exact hown
          clear hown hgrow
          go_wp2
          go_roundg (n - (x + 1))
          case measure => omega
          case rel => exact ⟨x + 1, by omega, rfl, by go_num, hB1, hO1⟩
      · obtain rfl : x = n := by omega
        have hge : ¬ (x : Int) < (x : Int) := by omega
        go_wp2
        obtain ⟨a, c, rfl, hi⟩ := ints_of_own hO.out (by omega)
        have hnn : s.sites.toNat = x := by have := HN.out; omega
        refine bodyPost_ret (v := .tuple #[.slice a (pre (fun _ => true) x).length c, .int .i64 18]) (by simp [results, Tryd.results26, go_sem]) rfl (QueryPost.mk (by rw [HV.out, hnn]) hi (HF.out.trans (hB.out.mono HF.out.size)))
  · have HV : Hid (queryR s v b p = (row p.vars v, 0)) := by unfold Hid queryR; rw [if_neg (fun h => h HR.out), if_neg (by omega), ← hL, if_neg hlen]
    have HL := Lib.hid hL
    have hle : ¬ (L.length : Int) > b := hlen
    have hpv := Lib.hid (sol_len HE.out HP.out)
    clear hL
    go_enter Tryd.func26, Tryd.ntmps26
    go_wp2_with (first
      | (go_at_call 28; (with_reducible refine (needsR_any s v aS cS _ HS.out).mono ?_); rintro e w1 ⟨a, c, rfl, hi, hb2⟩; rw [HR.out, HNV.out, ← HL.out]; have hi := Lib.hid hi; have hb2 := Lib.hid hb2; have k1 := (HK.out.below hb2.out).cell; have z1 := (HK.out.below hb2.out).lt)
      | (go_at_call 15; (with_reducible refine (solveR_any s aS cS w1 (HS.out.below hb2.out)).mono ?_); rintro e w2 hq; obtain ⟨q, a1, a2, c1, c2, rfl, hr1, hr2, hb3, hsol⟩ := hq.sol; clear hq; obtain rfl := hsol.unique HP.out; rw [HE.out]; have hvl : v < (q.vars.length : Int) := (by have := hpv.out; omega); obtain ⟨bb, oo, rfl, hbb, hrow⟩ := rows_someI hr1 hv0 hvl; obtain ⟨ra, rc, hcell, hri⟩ := hrow v hv0 hvl; have hri := Lib.hid hri; have hb3 := Lib.hid hb3; clear hrow; dsimp only [ptsV]))
    have hB4 : Below w1.heap.size w1 (w2.alloc (.cells #[.slice (some ⟨bb, oo, none⟩) q.vars.length c1, .slice a2 q.cells.length c2] 29)) := hb3.out.alloc hb3.out.size _
    have HF := HB.out.trans (hb2.out.mono HB.out.size)
    refine bodyPost_ret (v := .tuple #[.slice ra (row q.vars v).length rc, .int .i64 0]) (by simp [results, Tryd.results26, go_sem]) rfl (QueryPost.mk HV.out (hri.out.below ((Below.refl _ _).alloc (Nat.le_refl _) _)) (HF.trans (hB4.mono HF.size)))
end Go.Proofs.YtcfiohphjlohhaaDoor

/- dataflowref24.Slice -/
namespace Go.Proofs.YtcfiohphjlohhaaDoor
open Go.RowKit

/-- the slice, or nothing -/
noncomputable def sliceV (s : Sys) (v : Int) : Sys := if rightE s v = 0 then sliceS s v else ⟨0, 0, 0, []⟩
def SlicePost (s : Sys) (v : Int) (w : World) (e : Ending) (w' : World) : Prop :=
  ∃ (a : Option Addr) (c : Nat), e = .returned (.tuple #[sysV (sliceV s v) a c, .int .i64 (rightE s v)]) ∧ Cons w' a (sliceV s v).cons ∧ Below w.heap.size w w'
theorem take_filter {s : Sys} {j : Nat} (h : j < s.cons.length) (f : Con → Bool) : (s.cons.take (j + 1)).filter f = (s.cons.take j).filter f ++ (if f s.cons[j] = true then [s.cons[j]] else []) := by
  rw [List.take_add_one, List.getElem?_eq_getElem h, List.filter_append]
  by_cases hb : f s.cons[j] = true <;> simp [hb]
theorem MadeT.below {w5 w w' : World} {s : Sys} {v : Value} {es : List (Con × Option Addr × Nat)} (h : MadeT w5 w s v es) (hb : Below w.heap.size w w') : MadeT w5 w' s v es :=
  ⟨h.B.trans (hb.mono h.B.size), h.blk.below hb, own_below h.own hb, h.ints⟩
theorem MadeT.step2 {w5 w w2 : World} {s : Sys} {v : Value} {es : List (Con × Option Addr × Nat)} {e : Con × Option Addr × Nat} {g cap : Nat} (h : MadeT w5 w s v es) (hi : Ints w5 e.2.1 e.1.set)
    (hown : w2.ownsRow w5.heap.size 39 5 (.slice (some ⟨g, 0, none⟩) (es.length + 1) cap) (es.length + 1) (es.flatMap conCells ++ conCells e))
    (hgrow : (w.alloc (.cells #[.int .i64 e.1.kind, .int .i64 e.1.a, .int .i64 e.1.b, .int .i64 e.1.field, .slice e.2.1 e.1.set.length e.2.2] 39)).grownBy w2 v.ownBlock) :
    MadeT w5 (w2.setCell ⟨w5.heap.size, 3, none⟩ (.slice (some ⟨g, 0, none⟩) (es.length + 1) cap)) s (.slice (some ⟨g, 0, none⟩) (es.length + 1) cap) (es ++ [e]) := by
  have hb2 : Below w.heap.size w (w.alloc (.cells #[.int .i64 e.1.kind, .int .i64 e.1.a, .int .i64 e.1.b, .int .i64 e.1.field, .slice e.2.1 e.1.set.length e.2.2] 39)) := (Below.refl _ _).alloc (Nat.le_refl _) _
  have nT := own_ne_blk h.own h.blk (by decide)
  have bT : Blk w2 w5.heap.size 24 _ := (Blk.below (w := w) h.blk hb2).grown hgrow nT
  have hTg : some (⟨w5.heap.size, 3, none⟩ : Addr).block ≠ (Value.slice (some ⟨g, 0, none⟩) (es.length + 1) cap).ownBlock := own_ne_blk hown bT (by decide)
  have hsz := h.B.size
  refine ⟨?_, bT.set_ 3 _, ?_, fun x hx => ?_⟩
  · have e1 : Below w5.heap.size w (w.alloc (.cells #[.int .i64 e.1.kind, .int .i64 e.1.a, .int .i64 e.1.b, .int .i64 e.1.field, .slice e.2.1 e.1.set.length e.2.2] 39)) := hb2.mono hsz
    exact h.B.trans ((e1.grown hgrow (by have := e1.size; omega) fun j hj => (World.ownsRow.lt h.own j hj).1).setCell (p := ⟨w5.heap.size, 3, none⟩) (Nat.le_refl _) _)
  · rw [List.length_append, List.flatMap_append]
    simp only [List.flatMap_cons, List.flatMap_nil, List.append_nil, List.length_cons, List.length_nil, Nat.zero_add]
    exact own_far hown hTg _
  · rcases List.mem_append.1 hx with hx | hx
    · exact h.ints x hx
    · rw [List.mem_singleton.1 hx]; exact hi
theorem cells_one (e : Con × Option Addr × Nat) : ∀ u ∈ conCells e, u.oneCell' = true := fun u' hu' => by
  simp only [conCells, List.mem_cons, List.not_mem_nil, or_false] at hu'
  rcases hu' with rfl | rfl | rfl | rfl | rfl <;> rfl
theorem four_set {w : World} {g : Nat} {t : TypeId} {x0 x1 x2 x3 : Value} (h : Blk w g t #[x0, x1, x2, x3]) (v0 v1 v2 v3 : Value) :
    Blk ((((w.setCell ⟨g, 0, none⟩ v0).setCell ⟨g, 1, none⟩ v1).setCell ⟨g, 2, none⟩ v2).setCell ⟨g, 3, none⟩ v3) g t #[v0, v1, v2, v3] :=
  (((h.set_ 0 v0).set_ 1 v1).set_ 2 v2).set_ 3 v3
theorem four_below {B : Nat} {w w' : World} {g : Nat} (h : Below B w w') (hg : B ≤ g) (v0 v1 v2 v3 : Value) :
    Below B w ((((w'.setCell ⟨g, 0, none⟩ v0).setCell ⟨g, 1, none⟩ v1).setCell ⟨g, 2, none⟩ v2).setCell ⟨g, 3, none⟩ v3) :=
  (((h.setCell (p := ⟨g, 0, none⟩) hg v0).setCell (p := ⟨g, 1, none⟩) hg v1).setCell (p := ⟨g, 2, none⟩) hg v2).setCell (p := ⟨g, 3, none⟩) hg v3
theorem four_only {w : World} {g : Nat} (v0 v1 v2 v3 : Value) :
    Only (isB g) w ((((w.setCell ⟨g, 0, none⟩ v0).setCell ⟨g, 1, none⟩ v1).setCell ⟨g, 2, none⟩ v2).setCell ⟨g, 3, none⟩ v3) :=
  ((((Only.refl (isB g) w).setCell (p := ⟨g, 0, none⟩) (.inl rfl) v0).setCell (p := ⟨g, 1, none⟩) (.inl rfl) v1).setCell (p := ⟨g, 2, none⟩) (.inl rfl) v2).setCell (p := ⟨g, 3, none⟩) (.inl rfl) v3

theorem cons_of_own {B : Nat} {w : World} {v : Value} {es : List (Con × Option Addr × Nat)} (hown : w.ownsRow B 39 5 v es.length (es.flatMap conCells)) (hin : ∀ e ∈ es, Ints w e.2.1 e.1.set) (hl : es.length ≤ 1000000) : ∃ a c, v = .slice a es.length c ∧ Cons w a (es.map (·.1)) := by
  rcases hown.2 with ⟨rfl, h0⟩ | ⟨g, cap, cur, rfl, _, hh, _⟩
  · have : es = [] := List.length_eq_zero_iff.1 h0
    subst this
    exact ⟨none, 0, rfl, ⟨by unfold LenOk; simp, fun i x hi => by simp at hi⟩⟩
  · refine ⟨some ⟨g, 0, none⟩, cap, rfl, ⟨by unfold LenOk; rw [List.length_map]; omega, fun i c hi => ?_⟩⟩
    rw [List.getElem?_map] at hi
    cases he : es[i]? with
    | none => rw [he] at hi; cases hi
    | some e =>
      rw [he] at hi
      obtain rfl : e.1 = c := by simpa using hi
      have hc : ∀ j u, (conCells e)[j]? = some u → j < 5 → w.cell? ⟨g, 0 + i * 5 + j, none⟩ = some u := fun j u hu hj => by
        have := World.ownsRow.cells hown (g := g) rfl (i * 5 + j) u (by rw [flat_get es i j e he hj, hu])
        rw [add_blk] at this
        rw [Nat.zero_add]; exact this
      exact ⟨g, 0, e.2.1, e.2.2, rfl, hc 0 _ rfl (by decide), hc 1 _ rfl (by decide), hc 2 _ rfl (by decide), hc 3 _ rfl (by decide), hc 4 _ rfl (by decide), hin e (List.mem_of_getElem? he)⟩
theorem own_four {B : Nat} {w : World} {e : TypeId} {size n : Nat} {v : Value} {xs : List Value} {g : Nat} (h : w.ownsRow B e size v n xs) (hg : g < B) (v0 v1 v2 v3 : Value) :
    ((((w.setCell ⟨g, 0, none⟩ v0).setCell ⟨g, 1, none⟩ v1).setCell ⟨g, 2, none⟩ v2).setCell ⟨g, 3, none⟩ v3).ownsRow B e size v n xs :=
  own_of h fun k hk => (four_only v0 v1 v2 v3).block k (World.ownsRow.lt h k hk).2 fun hkg => by
    have h1 := (World.ownsRow.lt h k hk).1
    have h2 : k = g := hkg
    omega
/-- a load of the field of c, whose target is visited -/
noncomputable def ldB (s : Sys) (v : Int) (c k : Con) : Bool := (k.kind == 3) && ((k.field == c.field) && vis s v k.b.toNat)
noncomputable def okK (s : Sys) (v : Int) (c : Con) (k : Nat) : Bool := if c.kind = 4 then (s.cons.take k).any (ldB s v c) else vis s v c.b.toNat
theorem okK_succ {s : Sys} {v : Int} {c : Con} {k : Nat} (h4 : c.kind = 4) (h : k < s.cons.length) : okK s v c (k + 1) = (okK s v c k || ldB s v c s.cons[k]) := by
  unfold okK
  rw [if_pos h4, if_pos h4, List.take_add_one, List.getElem?_eq_getElem h, List.any_append]
  simp
theorem okK_end {s : Sys} {v : Int} {c : Con} (hE : checkE s = 0) (h4 : c.kind = 4) : okK s v c s.cons.length = keepB s v c := by
  unfold okK keepB
  rw [if_pos h4, if_pos h4, List.take_length, Bool.eq_iff_iff, loadsV_iff, List.any_eq_true]
  have ok := check_ok hE
  constructor
  · rintro ⟨k, hk, hl⟩
    unfold ldB at hl
    simp only [Bool.and_eq_true, beq_iff_eq] at hl
    exact ⟨k, hk, hl.1, (vis_iff' (con_ok (ok.cons k hk)).b.1).1 hl.2.2, hl.2.1⟩
  · rintro ⟨k, hk, h3, hv, hf⟩
    refine ⟨k, hk, ?_⟩
    unfold ldB
    simp only [Bool.and_eq_true, beq_iff_eq]
    exact ⟨h3, hf, (vis_iff' (con_ok (ok.cons k hk)).b.1).2 hv⟩

set_option maxRecDepth 100000 in
set_option maxHeartbeats 4000000 in
theorem sliceR_any (s : Sys) (v : Int) (aS : Option Addr) (cS : Nat) (w : World) (hS : Cons w aS s.cons) :
    Calls Tryd.prog 31 #[sysV s aS cS, .int .i64 v] w (SlicePost s v w) := by
  have hb : Below w.heap.size w ((w.alloc (.cells #[.int .i64 s.vars, .int .i64 s.sites, .int .i64 s.fields, .slice aS s.cons.length cS] 24)).alloc (.cells #[.int .i64 0, .int .i64 0, .int .i64 0, .slice none 0 0] 24)) := below_two _ _ _
  have HS := Lib.hid (hS.below hb)
  have HB := Lib.hid hb
  have hm := hS.len.le
  have HK : Hid (Blk ((w.alloc (.cells #[.int .i64 s.vars, .int .i64 s.sites, .int .i64 s.fields, .slice aS s.cons.length cS] 24)).alloc (.cells #[.int .i64 0, .int .i64 0, .int .i64 0, .slice none 0 0] 24)) w.heap.size 24 #[.int .i64 s.vars, .int .i64 s.sites, .int .i64 s.fields, .slice aS s.cons.length cS]) := (Blk.new w 24 _).al _
  have HK2 : Hid (Blk ((w.alloc (.cells #[.int .i64 s.vars, .int .i64 s.sites, .int .i64 s.fields, .slice aS s.cons.length cS] 24)).alloc (.cells #[.int .i64 0, .int .i64 0, .int .i64 0, .slice none 0 0] 24)) (w.heap.size + 1) 24 #[.int .i64 0, .int .i64 0, .int .i64 0, .slice none 0 0]) := by
    have := Blk.new (w.alloc (.cells #[.int .i64 s.vars, .int .i64 s.sites, .int .i64 s.fields, .slice aS s.cons.length cS] 24)) 24 #[.int .i64 0, .int .i64 0, .int .i64 0, .slice none 0 0]
    rw [World.size_alloc] at this; exact this
  have HS0 := Lib.hid hS
  clear hS hb
  dsimp only [sysV]
  by_cases hR : rightE s v = 0
  case neg =>
    have hq : (rightE s v != 0) = true := by simpa using hR
    have HV : Hid (sliceV s v = ⟨0, 0, 0, []⟩) := by unfold Hid sliceV; rw [if_neg hR]
    clear hR
    go_enter Tryd.func31, Tryd.ntmps31
    go_wp2_with (go_at_call 56; (with_reducible refine (right_any s v aS cS _ HS.out).mono ?_); rintro e w1 ⟨rfl, hb1⟩; have kk := HK2.out.below hb1; have k2 := kk.cell; have k3 := kk.frozen; have k4 := kk.lt; have kk := Lib.hid kk)
    have b4 := four_set kk.out (.int .i64 0) (.int .i64 0) (.int .i64 0) (.slice none 0 0)
    have r0 := b4.cell 0
    have r1 := b4.cell 1
    have r2 := b4.cell 2
    have r3 := b4.cell 3
    simp only [List.getElem?_toArray, List.getElem?_cons_zero, List.getElem?_cons_succ] at r0 r1 r2 r3
    refine bodyPost_ret (v := .tuple #[.agg #[.int .i64 0, .int .i64 0, .int .i64 0, .slice none 0 0], .int .i64 (rightE s v)]) (by simp [results, Tryd.results31, go_sem, r0, r1, r2, r3]) rfl
      ⟨none, 0, by rw [HV.out]; rfl, by rw [HV.out]; exact ⟨by unfold LenOk; simp, fun i x hi => by simp at hi⟩, four_below (HB.out.trans (hb1.mono HB.out.size)) (Nat.le_succ _) _ _ _ _⟩
  have HR := Lib.hid hR
  obtain ⟨hE, hv0, hv1⟩ := rightE_ok hR
  have hok := check_ok hE
  have HE := Lib.hid hE
  have HOK := Lib.hid hok
  have hm2 := check_len hE
  obtain ⟨n, hn⟩ : ∃ n : Nat, s.vars.toNat = n := ⟨_, rfl⟩
  have hn6 : n ≤ 65536 := by have := hok.vars; omega
  have hvn : s.vars = (n : Int) := by omega
  have HVN := Lib.hid hvn
  have HN := Lib.hid hn
  have HV : Hid (sliceV s v = sw s (s.cons.filter (keepB s v))) := by unfold Hid sliceV; rw [if_pos hR]; rfl
  obtain ⟨i0, hi, hz0⟩ := info_parts info39
  have HI := Lib.hid hi
  have HZ := Lib.hid hz0
  clear hR hE hok hn hi hz0 hvn
  go_enter Tryd.func31, Tryd.ntmps31
  go_wp2_with (first
    | (go_at_call 56; (with_reducible refine (right_any s v aS cS _ HS.out).mono ?_); rintro e w1 ⟨rfl, hb1⟩; rw [HR.out]; have k1 := (HK.out.below hb1).cell; have z1 := (HK.out.below hb1).lt)
    | (go_at_call 57; (with_reducible refine (visited_any s v aS cS w1 (HS.out.below hb1) HR.out).mono ?_); rintro e w2 ⟨r, rfl, hr, hr0, hb2⟩; rw [HN.out]; rw [HN.out] at hr; have hb3 := Lib.hid (hb1.trans (hb2.mono hb1.size)); have hr := Lib.hid hr; have hb2 := Lib.hid hb2; have k5 := (HK.out.below hb3.out).cell; have z5 := (HK.out.below hb3.out).lt))
  clear k1 k5
  have HF := Lib.hid (HB.out.trans (hb3.out.mono HB.out.size))
  have KS := Lib.hid (HK.out.below hb3.out)
  have KR4 := Lib.hid (HK2.out.below hb3.out)
  have SC := Lib.hid (HS0.out.below HF.out)
  have hz2 := hr.out.lt
  go_loopg [9] s.cons.length (fun g i wr => ∃ (j : Nat) (vv : Value) (es : List (Con × Option Addr × Nat)), j ≤ s.cons.length ∧ g = s.cons.length - j ∧ i = .int .i64 j ∧ Hid (MadeT w2 wr s vv es) ∧ Hid (es.map (·.1) = (s.cons.take j).filter (keepB s v)) ∧ Hid (∀ e ∈ es, Ints w e.2.1 e.1.set))
  case atStart => exact ⟨0, _, [], Nat.zero_le _, rfl, rfl, MadeT.start w2 s, (by unfold Hid; simp), fun e he => by cases he⟩
  case round =>
    obtain ⟨j, vv, es, hj, rfl, rfl, hM, hL, hIn⟩ := hrel
    have hW : Hid (Below w.heap.size w wr) := HF.out.trans (hM.out.B.mono HF.out.size)
    have j1 : ∀ x, wr.cell? ⟨w.heap.size, x, none⟩ = #[.int .i64 s.vars, .int .i64 s.sites, .int .i64 s.fields, .slice aS s.cons.length cS][x]? := (KS.out.below hM.out.B).cell
    have c3 : wr.cell? ⟨w2.heap.size, 3, none⟩ = some vv := hM.out.blk.cell 3
    have hsz2 := hM.out.B.size
    have y1 : w2.heap.size < wr.heap.size := hM.out.blk.lt
    have y2 : w.heap.size < wr.heap.size := by omega
    have y3 : r < wr.heap.size := by omega
    by_cases hlt : j < s.cons.length
    · have hco := con_ok (HOK.out.cons _ (List.getElem_mem hlt))
      obtain ⟨b, o, a', c', rfl, e0, e1, e2, e3, e4, hi⟩ := HS0.out.at_ j s.cons[j] (get_at hlt)
      have HI0 := Lib.hid hi
      have HI5 := Lib.hid (hi.below HF.out)
      replace e0 := cell_keep' hW.out e0
      replace e1 := cell_keep' hW.out e1
      replace e2 := cell_keep' hW.out e2
      replace e3 := cell_keep' hW.out e3
      replace e4 := cell_keep' hW.out e4
      have hb0 := hco.b.1
      have hbn : s.cons[j].b < (n : Int) := by have := HVN.out; have := hco.b.2; omega
      have HCO := Lib.hid hco
      obtain ⟨wc, hwc⟩ : ∃ wc, wc = wr.alloc (.cells #[.int .i64 s.cons[j].kind, .int .i64 s.cons[j].a, .int .i64 s.cons[j].b, .int .i64 s.cons[j].field, .slice a' s.cons[j].set.length c'] 39) := ⟨_, rfl⟩
      have KC : Hid (Blk wc wr.heap.size 39 #[.int .i64 s.cons[j].kind, .int .i64 s.cons[j].a, .int .i64 s.cons[j].b, .int .i64 s.cons[j].field, .slice a' s.cons[j].set.length c']) := by rw [hwc]; exact Blk.new _ _ _
      have hMc : Hid (MadeT w2 wc s vv es) := by rw [hwc]; exact hM.out.below ((Below.refl _ _).alloc (Nat.le_refl _) _)
      have f1 : (wr.alloc (.cells #[.int .i64 s.cons[j].kind, .int .i64 s.cons[j].a, .int .i64 s.cons[j].b, .int .i64 s.cons[j].field, .slice a' s.cons[j].set.length c'] 39)).cell? ⟨r, s.cons[j].b.toNat, none⟩ = some (.bool (vis s v s.cons[j].b.toNat)) := by
        rw [← hwc, (hr.out.below hMc.out.B).cell, rowCells_at _ (by omega)]
      have HWC := Lib.hid hwc
      obtain ⟨ok0, hok0⟩ : ∃ ok0, ok0 = okK s v s.cons[j] 0 := ⟨_, rfl⟩
      obtain ⟨wi, rfl⟩ : ∃ wi : World, wi = wr := ⟨_, rfl⟩
      clear hi hco hwc c3
      by_cases hk4 : s.cons[j].kind = 4
      · have hk4' : (s.cons[j].kind != 4) = false := by simpa using hk4
        have hk4'' : (s.cons[j].kind == 4) = true := by simpa using hk4
        have HK4 := Lib.hid hk4
        have hs0 : ok0 = false := by rw [hok0]; unfold okK; rw [if_pos hk4]; simp
        subst hs0
        have HK0 := Lib.hid hok0
        clear hk4 hok0
        go_wp2
        rw [← HWC.out]
        clear j1 f1 e0 e1 e2 e3 e4
        go_loopg [11, 12] s.cons.length (fun g bv i wr => ∃ k : Nat, k ≤ s.cons.length ∧ g = s.cons.length - k ∧ bv = .bool (okK s v s.cons[j] k) ∧ i = .int .i64 k ∧ Hid (Below wc.heap.size wc wr))
        case atStart => exact ⟨0, Nat.zero_le _, rfl, by rw [← HK0.out], rfl, Below.refl _ _⟩
        case round =>
          obtain ⟨k, hk, rfl, rfl, rfl, hBl⟩ := hrel
          have hMx := Lib.hid (hMc.out.below hBl.out)
          have c1 : ∀ x, wr.cell? ⟨w.heap.size, x, none⟩ = #[.int .i64 s.vars, .int .i64 s.sites, .int .i64 s.fields, .slice (some ⟨b, o, none⟩) s.cons.length cS][x]? := (KS.out.below hMx.out.B).cell
          have c2 : ∀ x, wr.cell? ⟨wi.heap.size, x, none⟩ = #[.int .i64 s.cons[j].kind, .int .i64 s.cons[j].a, .int .i64 s.cons[j].b, .int .i64 s.cons[j].field, .slice a' s.cons[j].set.length c'][x]? := (KC.out.below hBl.out).cell
          have z2 : wi.heap.size < wr.heap.size := (KC.out.below hBl.out).lt
          have z3 : w.heap.size < wr.heap.size := by omega
          have z4 : r < wr.heap.size := by omega
          have z6 : w2.heap.size < wr.heap.size := by omega
          by_cases hkl : k < s.cons.length
          · obtain ⟨b4, o4, a4, c4, he4, e0, e1, e2, e3, e4, hi4⟩ := SC.out.at_ k s.cons[k] (get_at hkl)
            simp only [Option.some.injEq, Addr.mk.injEq, and_true] at he4
            obtain ⟨rfl, rfl⟩ := he4
            replace e0 := cell_keep' hMx.out.B e0
            replace e1 := cell_keep' hMx.out.B e1
            replace e2 := cell_keep' hMx.out.B e2
            replace e3 := cell_keep' hMx.out.B e3
            have hck := con_ok (HOK.out.cons _ (List.getElem_mem hkl))
            have hkb0 := hck.b.1
            have hkbn : s.cons[k].b < (n : Int) := by have := HVN.out; have := hck.b.2; omega
            have f2 : wr.cell? ⟨r, s.cons[k].b.toNat, none⟩ = some (.bool (vis s v s.cons[k].b.toNat)) := by
              rw [(hr.out.below hMx.out.B).cell, rowCells_at _ (by omega)]
            have hsu := okK_succ (v := v) HK4.out hkl
            have HSU := Lib.hid hsu
            clear hi4 hck hsu
            cases hq0 : okK s v s.cons[j] k
            · cases hq1 : (s.cons[k].kind == 3)
              · have hst : Hid (okK s v s.cons[j] (k + 1) = false) := by unfold Hid; rw [HSU.out, hq0]; unfold ldB; rw [hq1]; rfl
                clear hq0
                go_wp2
                go_region
                go_wp2
                go_roundg (s.cons.length - (k + 1))
                case measure => omega
                case rel => exact ⟨k + 1, by omega, rfl, by rw [hst.out], by go_num, hBl.out.drew⟩
              cases hq2 : (s.cons[k].field == s.cons[j].field)
              · have hst : Hid (okK s v s.cons[j] (k + 1) = false) := by unfold Hid; rw [HSU.out, hq0]; unfold ldB; rw [hq1, hq2]; rfl
                clear hq0
                go_wp2
                go_region
                go_wp2
                go_roundg (s.cons.length - (k + 1))
                case measure => omega
                case rel => exact ⟨k + 1, by omega, rfl, by rw [hst.out], by go_num, hBl.out.drew⟩
              cases hq3 : vis s v s.cons[k].b.toNat
              all_goals
                have hst : Hid (okK s v s.cons[j] (k + 1) = vis s v s.cons[k].b.toNat) := by unfold Hid; rw [HSU.out, hq0]; unfold ldB; rw [hq1, hq2]; simp
                rw [hq3] at f2
                have hst' : Hid (okK s v s.cons[j] (k + 1) = _) := hst.out.trans hq3
                clear hq0 hq3 hst
                go_wp2
                go_region
                go_wp2
                go_roundg (s.cons.length - (k + 1))
                case measure => omega
                case rel => exact ⟨k + 1, by omega, rfl, by rw [hst'.out], by go_num, hBl.out.drew⟩
            · have hst : Hid (okK s v s.cons[j] (k + 1) = true) := by unfold Hid; rw [HSU.out, hq0]; rfl
              clear hq0
              go_wp2
              go_region
              go_wp2
              go_roundg (s.cons.length - (k + 1))
              case measure => omega
              case rel => exact ⟨k + 1, by omega, rfl, by rw [hst.out], by go_num, hBl.out.drew⟩
          · obtain rfl : k = s.cons.length := by omega
            have hge : ¬ (s.cons.length : Int) < (s.cons.length : Int) := by omega
            rw [okK_end HE.out HK4.out]
            cases hkp : keepB s v s.cons[j]
            · have hL2 : Hid (es.map (·.1) = (s.cons.take (j + 1)).filter (keepB s v)) := by unfold Hid; rw [take_filter hlt, hkp, hL.out]; simp
              clear hkp
              go_wp2
              go_roundg (s.cons.length - (j + 1))
              case measure => omega
              case rel => exact ⟨j + 1, vv, es, by omega, rfl, by go_num, hMx, hL2, hIn⟩
            · have hL2 : Hid ((es ++ [(s.cons[j], a', c')]).map (·.1) = (s.cons.take (j + 1)).filter (keepB s v)) := by unfold Hid; rw [take_filter hlt, hkp, List.map_append, hL.out]; simp
              have hel : Hid (es.length ≤ 32768) := by
                have h1 := congrArg List.length hL.out
                have h2 := List.length_filter_le (keepB s v) (s.cons.take j)
                rw [List.length_map] at h1
                rw [List.length_take] at h2
                unfold Hid; omega
              have c3 : wr.cell? ⟨w2.heap.size, 3, none⟩ = some vv := hMx.out.blk.cell 3
              have HTT : Hid (∀ w3, (wr.alloc (.cells #[.int .i64 s.cons[j].kind, .int .i64 s.cons[j].a, .int .i64 s.cons[j].b, .int .i64 s.cons[j].field, .slice a' s.cons[j].set.length c'] 39)).grownBy w3 vv.ownBlock → w3.cell? ⟨w2.heap.size, 3, none⟩ = some vv ∧ w3.frozen? ⟨w2.heap.size, 3, none⟩ = false) := fun w3 hg => by
                have hb1 := (hMx.out.blk.al (.cells #[.int .i64 s.cons[j].kind, .int .i64 s.cons[j].a, .int .i64 s.cons[j].b, .int .i64 s.cons[j].field, .slice a' s.cons[j].set.length c'] 39)).grown hg (own_ne_blk hMx.out.own hMx.out.blk (by decide))
                exact ⟨hb1.cell 3, hb1.frozen 3⟩
              clear hkp
              go_wp2_with (at_builtin; refine wpList_append_lies _ rfl (.tmp 98) (.tmp 100) 22 rfl w2.heap.size 39 i0 _ 5 56 Tryd.underlying22 HI.out HZ.out.1 HZ.out.2.1 HZ.out.2.2 rfl (by decide) _ _ _ rfl (hMx.out.own.alloc _) ⟨wr.heap.size, 0, none⟩ 1 1 (conCells (s.cons[j], a', c')) rfl rfl ?K1A ?K1B ?K1C ?K1D ?K1E ?K1F _ rfl ?K1G)
              try case K1A => exact fun j u hu => World.news_of_block (heap_alloc_new wr _) j u hu
              try case K1C => exact Nat.one_pos
              case K1B => first | exact cells_one _ | exact ⟨rfl, rfl, rfl, rfl, rfl⟩ | rfl
              case K1D => first | (unfold maxLen; have := hel.out; omega) | (have := hel.out; omega)
              case K1E => have := hel.out; omega
              case K1F => first | (have := hMx.out.B.size; omega) | (rw [World.size_alloc]; have := hMx.out.B.size; omega)
              case K1G =>
                intro g cap w3 hown hgrow _ _
                obtain ⟨q1, q2⟩ := HTT.out _ hgrow
                have M1 := Lib.hid (hMx.out.step2 (e := (s.cons[j], a', c')) HI5.out hown hgrow)
                have hIn2 : Hid (∀ e ∈ es ++ [(s.cons[j], a', c')], Ints w e.2.1 e.1.set) := fun e he => (List.mem_append.1 he).elim (fun h => hIn.out e h) (fun h => by rw [List.mem_singleton.1 h]; exact HI0.out)
                clear hown hgrow HTT c1 c2 c3
                go_wp2
                go_roundg (s.cons.length - (j + 1))
                case measure => omega
                case rel => exact ⟨j + 1, _, _, by omega, rfl, by go_num, M1, hL2, hIn2⟩
      · have hk4' : (s.cons[j].kind != 4) = true := by simpa using hk4
        have hk4'' : (s.cons[j].kind == 4) = false := by simpa using hk4
        have hkv : Hid (vis s v s.cons[j].b.toNat = keepB s v s.cons[j]) := by unfold Hid keepB; rw [if_neg hk4]
        rw [hkv.out] at f1
        have HK4 := Lib.hid hk4
        have hlt0 : (0 : Int) < (s.cons.length : Int) := by omega
        clear hk4 hok0
        go_wp2
        rw [← HWC.out]
        clear j1 f1 e0 e1 e2 e3 e4
        go_loopg [11, 12] 1 (fun g bv i wr => bv = .bool (keepB s v s.cons[j]) ∧ i = .int .i64 0 ∧ Hid (Below wc.heap.size wc wr))
        case atStart => exact ⟨rfl, rfl, Below.refl _ _⟩
        case round =>
          obtain ⟨rfl, rfl, hBl⟩ := hrel
          have hMx := Lib.hid (hMc.out.below hBl.out)
          have c1 : ∀ x, wr.cell? ⟨w.heap.size, x, none⟩ = #[.int .i64 s.vars, .int .i64 s.sites, .int .i64 s.fields, .slice (some ⟨b, o, none⟩) s.cons.length cS][x]? := (KS.out.below hMx.out.B).cell
          have c2 : ∀ x, wr.cell? ⟨wi.heap.size, x, none⟩ = #[.int .i64 s.cons[j].kind, .int .i64 s.cons[j].a, .int .i64 s.cons[j].b, .int .i64 s.cons[j].field, .slice a' s.cons[j].set.length c'][x]? := (KC.out.below hBl.out).cell
          have z2 : wi.heap.size < wr.heap.size := (KC.out.below hBl.out).lt
          have z3 : w.heap.size < wr.heap.size := by omega
          have z4 : r < wr.heap.size := by omega
          have z6 : w2.heap.size < wr.heap.size := by omega
          cases hkp : keepB s v s.cons[j]
          · have hL2 : Hid (es.map (·.1) = (s.cons.take (j + 1)).filter (keepB s v)) := by unfold Hid; rw [take_filter hlt, hkp, hL.out]; simp
            clear hkp
            go_wp2
            go_roundg (s.cons.length - (j + 1))
            case measure => omega
            case rel => exact ⟨j + 1, vv, es, by omega, rfl, by go_num, hMx, hL2, hIn⟩
          · have hL2 : Hid ((es ++ [(s.cons[j], a', c')]).map (·.1) = (s.cons.take (j + 1)).filter (keepB s v)) := by unfold Hid; rw [take_filter hlt, hkp, List.map_append, hL.out]; simp
            have hel : Hid (es.length ≤ 32768) := by
              have h1 := congrArg List.length hL.out
              have h2 := List.length_filter_le (keepB s v) (s.cons.take j)
              rw [List.length_map] at h1
              rw [List.length_take] at h2
              unfold Hid; omega
            have c3 : wr.cell? ⟨w2.heap.size, 3, none⟩ = some vv := hMx.out.blk.cell 3
            have HTT : Hid (∀ w3, (wr.alloc (.cells #[.int .i64 s.cons[j].kind, .int .i64 s.cons[j].a, .int .i64 s.cons[j].b, .int .i64 s.cons[j].field, .slice a' s.cons[j].set.length c'] 39)).grownBy w3 vv.ownBlock → w3.cell? ⟨w2.heap.size, 3, none⟩ = some vv ∧ w3.frozen? ⟨w2.heap.size, 3, none⟩ = false) := fun w3 hg => by
              have hb1 := (hMx.out.blk.al (.cells #[.int .i64 s.cons[j].kind, .int .i64 s.cons[j].a, .int .i64 s.cons[j].b, .int .i64 s.cons[j].field, .slice a' s.cons[j].set.length c'] 39)).grown hg (own_ne_blk hMx.out.own hMx.out.blk (by decide))
              exact ⟨hb1.cell 3, hb1.frozen 3⟩
            clear hkp
            go_wp2_with (at_builtin; refine wpList_append_lies _ rfl (.tmp 98) (.tmp 100) 22 rfl w2.heap.size 39 i0 _ 5 56 Tryd.underlying22 HI.out HZ.out.1 HZ.out.2.1 HZ.out.2.2 rfl (by decide) _ _ _ rfl (hMx.out.own.alloc _) ⟨wr.heap.size, 0, none⟩ 1 1 (conCells (s.cons[j], a', c')) rfl rfl ?K2A ?K2B ?K2C ?K2D ?K2E ?K2F _ rfl ?K2G)
            try case K2A => exact fun j u hu => World.news_of_block (heap_alloc_new wr _) j u hu
            try case K2C => exact Nat.one_pos
            case K2B => first | exact cells_one _ | exact ⟨rfl, rfl, rfl, rfl, rfl⟩ | rfl
            case K2D => first | (unfold maxLen; have := hel.out; omega) | (have := hel.out; omega)
            case K2E => have := hel.out; omega
            case K2F => first | (have := hMx.out.B.size; omega) | (rw [World.size_alloc]; have := hMx.out.B.size; omega)
            case K2G =>
              intro g cap w3 hown hgrow _ _
              obtain ⟨q1, q2⟩ := HTT.out _ hgrow
              have M1 := Lib.hid (hMx.out.step2 (e := (s.cons[j], a', c')) HI5.out hown hgrow)
              have hIn2 : Hid (∀ e ∈ es ++ [(s.cons[j], a', c')], Ints w e.2.1 e.1.set) := fun e he => (List.mem_append.1 he).elim (fun h => hIn.out e h) (fun h => by rw [List.mem_singleton.1 h]; exact HI0.out)
              clear hown hgrow HTT c1 c2 c3
              go_wp2
              go_roundg (s.cons.length - (j + 1))
              case measure => omega
              case rel => exact ⟨j + 1, _, _, by omega, rfl, by go_num, M1, hL2, hIn2⟩
    · obtain rfl : j = s.cons.length := by omega
      have hge : ¬ (s.cons.length : Int) < (s.cons.length : Int) := by omega
      have KR5 := Lib.hid (KR4.out.below hM.out.B)
      have k4 := KR5.out.cell
      have k5 := KR5.out.frozen
      have k6 := KR5.out.lt
      have k7 := hM.out.blk.cell
      obtain ⟨A, cA, hvv, hC⟩ := hM.out.cons (by
        have h1 := congrArg List.length hL.out
        have h2 := List.length_filter_le (keepB s v) (s.cons.take s.cons.length)
        rw [List.length_map] at h1
        rw [List.length_take] at h2
        omega)
      rw [List.length_map] at hvv
      subst hvv
      have hHM := hM.out.B
      have hlE : Hid (es.length ≤ 32768) := by
        have h1 := congrArg List.length hL.out
        have h2 := List.length_filter_le (keepB s v) (s.cons.take s.cons.length)
        rw [List.length_map] at h1
        rw [List.length_take] at h2
        unfold Hid; omega
      have HC := Lib.hid hC
      clear hC
      go_wp2
      have b4 := four_set KR5.out (.int .i64 s.vars) (.int .i64 s.sites) (.int .i64 s.fields) (.slice A es.length cA)
      have r0 := b4.cell 0
      have r1 := b4.cell 1
      have r2 := b4.cell 2
      have r3 := b4.cell 3
      simp only [List.getElem?_toArray, List.getElem?_cons_zero, List.getElem?_cons_succ] at r0 r1 r2 r3
      have hLe : es.map (·.1) = s.cons.filter (keepB s v) := by have := hL.out; rw [List.take_length] at this; exact this
      refine bodyPost_ret (v := .tuple #[.agg #[.int .i64 s.vars, .int .i64 s.sites, .int .i64 s.fields, .slice A es.length cA], .int .i64 0]) (by simp [results, Tryd.results31, go_sem, r0, r1, r2, r3]) rfl
        ⟨A, cA, by rw [HV.out, HR.out, ← hLe]; show _ = Ending.returned (.tuple #[.agg #[.int .i64 s.vars, .int .i64 s.sites, .int .i64 s.fields, .slice A (es.map (·.1)).length cA], .int .i64 0]); rw [List.length_map], ?_, four_below (HF.out.trans (hHM.mono HF.out.size)) (Nat.le_succ _) _ _ _ _⟩
      rw [HV.out]
      show Cons _ A (s.cons.filter (keepB s v))
      rw [← hLe]
      have hgg : w.heap.size + 1 < w2.heap.size := KR4.out.lt
      obtain ⟨A', c', e, hCF⟩ := cons_of_own (own_four (g := w.heap.size + 1) hM.out.own hgg (.int .i64 s.vars) (.int .i64 s.sites) (.int .i64 s.fields) (.slice A es.length cA))
        (fun x hx => (hIn.out x hx).below (four_below (HF.out.trans (hHM.mono HF.out.size)) (Nat.le_succ _) _ _ _ _)) (by have := hlE.out; omega)
      injection e with e1
      rw [← e1] at hCF; exact hCF
end Go.Proofs.YtcfiohphjlohhaaDoor
