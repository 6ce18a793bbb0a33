/- The program's solver: load. -/
import Derived.Test.YtcfiohphjlohhaaDoorT26
namespace Go.Proofs.YtcfiohphjlohhaaDoor
open Go.RowKit

def putL (b : Nat) : List Int → (Nat → Nat → Bool) → Nat → Nat → Bool
  | [], m => m
  | x :: l, m => putL b l (putS (m, false) b x.toNat).1
def putLL : Nat → List (List Int) → (Nat → Nat → Bool) → Nat → Nat → Bool
  | _, [], m => m
  | b, l :: ll, m => putLL (b + 1) ll (putL b l m)
theorem putL_cons (b : Nat) (x : Int) (l : List Int) (m : Nat → Nat → Bool) : putL b (x :: l) m = putL b l (putS (m, false) b x.toNat).1 := rfl
theorem putLL_cons (b : Nat) (l : List Int) (ll : List (List Int)) (m : Nat → Nat → Bool) : putLL b (l :: ll) m = putLL (b + 1) ll (putL b l m) := rfl

theorem drop_atR {ll : List (List Int)} {k : Nat} (h : k < ll.length) : ll.drop k = ll[k] :: ll.drop (k + 1) := List.drop_eq_getElem_cons h

set_option maxRecDepth 100000 in
set_option maxHeartbeats 1000000 in
theorem load_any (s : Sys) (p : Pts) (t : SolAt) (m : Nat → Nat → Bool) (w0 w : World) (a1 a2 : Option Addr) (c1 c2 : Nat) (h : Sol w s t m) (hn : t.n ≤ 12) (hs1 : Rows2 w0 a1 p.vars) (hs2 : Rows2 w0 a2 p.cells) (hb0 : Below w0.heap.size w0 w)
    (hown : ∀ k, t.own k → w0.heap.size ≤ k) (hv : p.vars.length = t.RV.length) (hc : p.cells.length = t.RC.length) (hiv : ∀ l ∈ p.vars, ∀ x ∈ l, 0 ≤ x ∧ x < s.sites) (hic : ∀ l ∈ p.cells, ∀ x ∈ l, 0 ≤ x ∧ x < s.sites) :
    Calls Tryd.prog 45 #[.pointer (some ⟨t.S, 0, none⟩), ptsV p a1 a2 c1 c2] w fun e w' => e = .returned (.tuple #[]) ∧ Only t.own w w' ∧ Sol w' s t (putLL t.RV.length p.cells (putLL 0 p.vars m)) := by
  dsimp only [ptsV]
  have hst := h.sites
  have hnew := (h.off_new (k := w.heap.size) (Nat.le_refl _)).own
  have HB := Lib.hid (Blk.new w 29 #[.slice a1 p.vars.length c1, .slice a2 p.cells.length c2])
  have HO0 := Lib.hid ((Only.refl t.own w).alloc (.cells #[.slice a1 p.vars.length c1, .slice a2 p.cells.length c2] 29))
  have H0 := Lib.hid (h.alloc (.cells #[.slice a1 p.vars.length c1, .slice a2 p.cells.length c2] 29))
  have HV := Lib.hid hv
  have HCC := Lib.hid hc
  clear hv hc
  have hm1 := hs1.len.le
  have hm2 := hs2.len.le
  clear h
  go_enter Tryd.func45, Tryd.ntmps45
  go_wp2
  go_loopg [15] p.vars.length (fun g i wr => ∃ (k : Nat) (m' : Nat → Nat → Bool), k ≤ p.vars.length ∧ g = p.vars.length - k ∧ i = .int .i64 k ∧ Hid (Only t.own (w.alloc (.cells #[.slice a1 p.vars.length c1, .slice a2 p.cells.length c2] 29)) wr) ∧ Hid (Only t.own w wr) ∧ Hid (Sol wr s t m') ∧ Hid (putLL 0 p.vars m = putLL k (p.vars.drop k) m'))
  case atStart => exact ⟨0, m, Nat.zero_le _, rfl, rfl, Only.refl _ _, HO0, H0, rfl⟩
  case round =>
    obtain ⟨k, m', hk, rfl, rfl, hO1, hO, hT, hE⟩ := hrel
    by_cases hlt : k < p.vars.length
    · obtain ⟨bb, o, a', c', rfl, hc0, hI⟩ := hs1.at_ k _ (get_at hlt)
      have hbw : Below w0.heap.size w0 wr := hb0.trans (hO.out.to_below hb0.size hown)
      replace hc0 := cell_keep hbw hc0
      have hin := hiv _ (List.getElem_mem hlt)
      have hE2 : Hid (putLL 0 p.vars m = putLL (k + 1) (p.vars.drop (k + 1)) (putL k p.vars[k] m')) := by unfold Hid; rw [hE.out, drop_atR hlt, putLL_cons]
      have hml := hI.len.le
      have hkv : (k : Int) < t.RV.length := by have := HV.out; omega
      generalize p.vars[k] = l at *
      obtain ⟨wo, rfl⟩ : ∃ wo : World, wo = wr := ⟨_, rfl⟩
      go_wp2
      go_loopg [22] l.length (fun g i wr => ∃ (j : Nat) (m2 : Nat → Nat → Bool), j ≤ l.length ∧ g = l.length - j ∧ i = .int .i64 j ∧ Hid (Only t.own wo wr) ∧ Hid (Sol wr s t m2) ∧ Hid (putL k l m' = putL k (l.drop j) m2))
      case atStart => exact ⟨0, m', Nat.zero_le _, rfl, rfl, Only.refl _ _, hT, rfl⟩
      case round =>
        obtain ⟨j, m2, hj, rfl, rfl, hO2, hT2, hE3⟩ := hrel
        by_cases hlt2 : j < l.length
        · obtain ⟨b3, o3, rfl, hc3⟩ := hI.at_ j _ (get_at hlt2)
          replace hc3 := cell_keep (hbw.trans (hO2.out.to_below hbw.size hown)) hc3
          have hx := hin _ (List.getElem_mem hlt2)
          have hE4 : Hid (putL k l m' = putL k (l.drop (j + 1)) (putS (m2, false) k l[j].toNat).1) := by unfold Hid; rw [hE3.out, drop_at hlt2, putL_cons]
          obtain ⟨r, q1, q2, q3, hr, hB⟩ := hT2.out.varRow (b := (k : Int)) (by omega) (by have := hT2.out.lenV; have := HV.out; omega)
          rw [Int.toNat_natCast] at q3 hr hB
          have q4 : wr.cell? ⟨t.S, 5, none⟩ = some (.slice (some ⟨t.gv, 0, none⟩) t.RV.length t.RV.length) := hT2.out.blk.cell 5
          have HR := Lib.hid hr
          have HBk := Lib.hid hB
          clear hr hB
          generalize l[j] = x at *
          go_wp2_with (go_at_call 72; refine (setput_any r t.n (m2 k) x wr HBk.out hn (by omega) (by omega)).mono ?_; rintro e w1 ⟨rfl, hOw, hBw⟩)
          all_goals
            obtain ⟨o1, o2, _⟩ := step_put hT2.out HR.out hOw hBw
            go_roundg (l.length - (j + 1))
          all_goals first
            | exact ⟨j + 1, _, hlt2, rfl, by go_num, hO2.out.trans o1, o2, hE4⟩
            | omega
        · go_wp2
          obtain rfl : j = l.length := by omega
          rw [List.drop_length] at hE3
          go_roundg (p.vars.length - (k + 1))
          case measure => omega
          case rel => exact ⟨k + 1, m2, hlt, rfl, by go_num, hO1.out.trans hO2.out, hO.out.trans hO2.out, hT2, hE2.out.trans (by rw [hE3.out]; rfl)⟩
    · obtain rfl : k = p.vars.length := by omega
      rw [List.drop_length] at hE
      have hE' : Hid (putLL 0 p.vars m = m') := hE
      clear hE
      have cb : wr.cell? ⟨w.heap.size, 1, none⟩ = some (.slice a2 p.cells.length c2) := (HB.out.only hO1.out hnew).cell 1
      obtain ⟨wz, rfl⟩ : ∃ wz : World, wz = wr := ⟨_, rfl⟩
      go_wp2
      go_loopg [40] p.cells.length (fun g i wr => ∃ (k : Nat) (m3 : Nat → Nat → Bool), k ≤ p.cells.length ∧ g = p.cells.length - k ∧ i = .int .i64 k ∧ Hid (Only t.own w wr) ∧ Hid (Sol wr s t m3) ∧ Hid (putLL t.RV.length p.cells m' = putLL (t.RV.length + k) (p.cells.drop k) m3))
      case atStart => exact ⟨0, m', Nat.zero_le _, rfl, rfl, hO, hT, rfl⟩
      case round =>
        obtain ⟨k, m3, hk, rfl, rfl, hO3, hT3, hE⟩ := hrel
        by_cases hlt : k < p.cells.length
        · obtain ⟨bb, o, a', c', rfl, hc0, hI⟩ := hs2.at_ k _ (get_at hlt)
          have hbw : Below w0.heap.size w0 wr := hb0.trans (hO3.out.to_below hb0.size hown)
          replace hc0 := cell_keep hbw hc0
          have hin := hic _ (List.getElem_mem hlt)
          have hE2 : Hid (putLL t.RV.length p.cells m' = putLL (t.RV.length + k + 1) (p.cells.drop (k + 1)) (putL (t.RV.length + k) p.cells[k] m3)) := by unfold Hid; rw [hE.out, drop_atR hlt, putLL_cons]
          have hml := hI.len.le
          have hkv : (k : Int) < t.RC.length := by have := HCC.out; omega
          generalize p.cells[k] = l at *
          obtain ⟨wo, rfl⟩ : ∃ wo : World, wo = wr := ⟨_, rfl⟩
          go_wp2
          go_loopg [47] l.length (fun g i wr => ∃ (j : Nat) (m2 : Nat → Nat → Bool), j ≤ l.length ∧ g = l.length - j ∧ i = .int .i64 j ∧ Hid (Only t.own wo wr) ∧ Hid (Sol wr s t m2) ∧ Hid (putL (t.RV.length + k) l m3 = putL (t.RV.length + k) (l.drop j) m2))
          case atStart => exact ⟨0, m3, Nat.zero_le _, rfl, rfl, Only.refl _ _, hT3, rfl⟩
          case round =>
            obtain ⟨j, m2, hj, rfl, rfl, hO2, hT2, hE3⟩ := hrel
            by_cases hlt2 : j < l.length
            · obtain ⟨b3, o3, rfl, hc3⟩ := hI.at_ j _ (get_at hlt2)
              replace hc3 := cell_keep (hbw.trans (hO2.out.to_below hbw.size hown)) hc3
              have hx := hin _ (List.getElem_mem hlt2)
              have hE4 : Hid (putL (t.RV.length + k) l m3 = putL (t.RV.length + k) (l.drop (j + 1)) (putS (m2, false) (t.RV.length + k) l[j].toNat).1) := by unfold Hid; rw [hE3.out, drop_at hlt2, putL_cons]
              have hk' : k < t.RC.length := by omega
              have q3 := hT2.out.hasC k _ (get_at hk')
              have hr : (t.RV ++ t.RC)[t.RV.length + k]? = some t.RC[k] := by rw [List.getElem?_append_right (by omega), Nat.add_sub_cancel_left]; exact get_at hk'
              have hB := hT2.out.rows _ _ hr
              generalize t.RC[k] = r at *
              have q4 : wr.cell? ⟨t.S, 6, none⟩ = some (.slice (some ⟨t.gc, 0, none⟩) t.RC.length t.RC.length) := hT2.out.blk.cell 6
              have HR := Lib.hid hr
              have HBk := Lib.hid hB
              clear hr hB
              generalize l[j] = x at *
              go_wp2_with (go_at_call 72; refine (setput_any r t.n (m2 (t.RV.length + k)) x wr HBk.out hn (by omega) (by omega)).mono ?_; rintro e w1 ⟨rfl, hOw, hBw⟩)
              all_goals
                obtain ⟨o1, o2, _⟩ := step_put hT2.out HR.out hOw hBw
                go_roundg (l.length - (j + 1))
              all_goals first
                | exact ⟨j + 1, _, hlt2, rfl, by go_num, hO2.out.trans o1, o2, hE4⟩
                | omega
            · go_wp2
              obtain rfl : j = l.length := by omega
              rw [List.drop_length] at hE3
              go_roundg (p.cells.length - (k + 1))
              case measure => omega
              case rel => exact ⟨k + 1, m2, hlt, rfl, by go_num, hO3.out.trans hO2.out, hT2, hE2.out.trans (by rw [hE3.out]; rfl)⟩
        · obtain rfl : k = p.cells.length := by omega
          rw [List.drop_length] at hE
          have hE3 : Hid (putLL t.RV.length p.cells m' = m3) := hE
          clear hE
          go_wp2
          go_end0
          exact ⟨rfl, hO3.out, by rw [hE'.out, hE3.out]; exact hT3.out⟩
end Go.Proofs.YtcfiohphjlohhaaDoor
