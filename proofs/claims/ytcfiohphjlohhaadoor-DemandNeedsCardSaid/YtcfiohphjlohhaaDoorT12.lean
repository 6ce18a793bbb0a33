/- The reference's table: cell, flow. -/
import Derived.Test.YtcfiohphjlohhaaDoorT11
import Derived.IntWalk
namespace Go.Proofs.YtcfiohphjlohhaaDoor
open Go.RowKit

set_option maxRecDepth 100000 in
theorem cell_any (s : Sys) (t : TabAt) (st : St) (x f : Int) (w : World) (h : Tab w s t st) (hv : 0 ≤ s.vars ∧ s.vars ≤ 65536) (hx : 0 ≤ x ∧ x ≤ 1024) (hf : 0 ≤ f ∧ f ≤ 1024) (hF : 0 ≤ s.fields ∧ s.fields ≤ 1024) :
    Calls Tryd.prog 64 #[.pointer (some ⟨t.T, 0, none⟩), .int .i64 x, .int .i64 f] w fun e w' => e = .returned (.int .i64 (s.vars + x * s.fields + f)) ∧ ∃ n, w' = w.drewN n := by
  have c1 : w.cell? ⟨t.T, 0, none⟩ = some (.int .i64 s.vars) := h.blk.cell 0
  have c2 : w.cell? ⟨t.T, 2, none⟩ = some (.int .i64 s.fields) := h.blk.cell 2
  have hp := prod_bd hx.1 hF.1 hx.2 hF.2
  have w1 : IntKind.i64.wrap (x * s.fields) = x * s.fields := IntWalk.i64_in _ (by omega)
  have w2 : IntKind.i64.wrap (s.vars + x * s.fields) = s.vars + x * s.fields := IntWalk.i64_in _ (by omega)
  have w3 : IntKind.i64.wrap (s.vars + x * s.fields + f) = s.vars + x * s.fields + f := IntWalk.i64_in _ (by omega)
  clear h
  go_enter Tryd.func64, Tryd.ntmps64
  go_wp2
  go_quiet (fail)
  go_wp2
  go_ret
  exact ⟨rfl, _, rfl⟩

theorem flowS_zero (n a b x : Nat) (st : St) : flowS n a b 0 x st = st := rfl
theorem flowS_succ (n a b d x : Nat) (st : St) : flowS n a b (d + 1) x st = flowS n a b d (x + 1) (if st.1 a x = true then putS st b x else st) := rfl

set_option maxRecDepth 100000 in
theorem flow_any (s : Sys) (t : TabAt) (st : St) (a b : Int) (w : World) (h : Tab w s t st) (hn : t.n ≤ 1024) (a0 : 0 ≤ a) (a1 : a < t.R.length) (b0 : 0 ≤ b) (b1 : b < t.R.length) :
    Calls Tryd.prog 63 #[.pointer (some ⟨t.T, 0, none⟩), .int .i64 a, .int .i64 b] w (TabPost w s t (flowS t.n a.toNat b.toNat t.n 0 st)) := by
  obtain ⟨r, hr⟩ := getT a0 a1
  have HR := Lib.hid hr
  have H := Lib.hid h
  have hs := h.sites
  clear h hr
  go_enter Tryd.func63, Tryd.ntmps63
  go_wp2
  go_loopg [6] t.n (fun g i wr => ∃ (x : Nat) (st' : St), x ≤ t.n ∧ g = t.n - x ∧ i = .int .i64 x ∧ Hid (Only t.own w wr) ∧ Hid (Tab wr s t st') ∧ Hid (flowS t.n a.toNat b.toNat t.n 0 st = flowS t.n a.toNat b.toNat (t.n - x) x st'))
  case atStart => exact ⟨0, st, Nat.zero_le _, rfl, rfl, Only.refl _ _, H, rfl⟩
  case round =>
    obtain ⟨x, st', hx, rfl, rfl, hO, hT, hE⟩ := hrel
    have c0 : wr.cell? ⟨t.T, 1, none⟩ = some (.int .i64 t.n) := by rw [← hs]; exact hT.out.blk.cell 1
    by_cases hlt : x < t.n
    · have c1 : wr.cell? ⟨t.T, 4, none⟩ = some (.slice (some ⟨t.g, 0, none⟩) t.R.length t.cap) := hT.out.has_cell HR.out
      have c2 := hT.out.has _ _ HR.out
      have c3 : wr.cell? ⟨r, x, none⟩ = some (.bool (st'.1 a.toNat x)) := ((hT.out.rows _ _ HR.out).cell _).trans (rowCells_at _ hlt)
      cases hq : st'.1 a.toNat x
      · rw [hq] at c3
        have hE2 : Hid (flowS t.n a.toNat b.toNat t.n 0 st = flowS t.n a.toNat b.toNat (t.n - (x + 1)) (x + 1) st') := by
          unfold Hid; rw [hE.out, show t.n - x = t.n - (x + 1) + 1 by omega, flowS_succ, if_neg (by rw [hq]; exact Bool.false_ne_true)]
        clear hq hE
        go_wp2
        go_roundg (t.n - (x + 1))
        case measure => omega
        case rel => exact ⟨x + 1, st', by omega, rfl, by go_num, hO, hT, hE2⟩
      · rw [hq] at c3
        have hE2 : Hid (flowS t.n a.toNat b.toNat t.n 0 st = flowS t.n a.toNat b.toNat (t.n - (x + 1)) (x + 1) (putS st' b.toNat x)) := by
          unfold Hid; rw [hE.out, show t.n - x = t.n - (x + 1) + 1 by omega, flowS_succ, if_pos hq]
        clear hq hE
        go_wp2_with (go_at_call 62; refine (put_any s t st' b x wr hT.out b0 b1 (by omega) (by omega)).mono ?_; rintro e w1 ⟨rfl, hO1, hT1⟩)
        go_roundg (t.n - (x + 1))
        case measure => omega
        case rel => exact ⟨x + 1, _, by omega, rfl, by go_num, hO.out.trans hO1, hT1, hE2⟩
    · have hE2 : flowS t.n a.toNat b.toNat t.n 0 st = st' := by rw [hE.out, show t.n - x = 0 by omega]; rfl
      clear hE
      go_wp2
      go_end0
      exact ⟨rfl, hO.out, by rw [hE2]; exact hT.out⟩
end Go.Proofs.YtcfiohphjlohhaaDoor
