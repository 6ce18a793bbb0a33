/- The program's solver: pass, run. -/
import Derived.Test.YtcfiohphjlohhaaDoorM2
import Derived.Laws.EntriesVeiled
namespace Go.Proofs.YtcfiohphjlohhaaDoor
open Go.RowKit

theorem addr_c (s : Sys) (t : SolAt) (m : Nat → Nat → Bool) (c : Con) (a' : Option Addr) (c' : Nat) (w : World) (h : Sol w s t m) (hn : t.n ≤ 12) (hc : ConOk s c) (hk : c.kind = 1) :
    Calls Tryd.prog 73 #[.pointer (some ⟨t.S, 0, none⟩), conV c a' c'] w (StepPost w s t (applyP s t.n c (m, false))) := by
  have ha := hc.a
  rw [if_pos hk] at ha
  unfold applyP
  rw [if_pos hk]
  exact addr_any s t m c.kind c.a c.b c.field c.set a' c' w h hn ha.1 ha.2 hc.b.1 hc.b.2
theorem copies_c (s : Sys) (t : SolAt) (m : Nat → Nat → Bool) (c : Con) (a' : Option Addr) (c' : Nat) (w : World) (h : Sol w s t m) (hn : t.n ≤ 12) (hc : ConOk s c) (hk : c.kind = 2) :
    Calls Tryd.prog 74 #[.pointer (some ⟨t.S, 0, none⟩), conV c a' c'] w (StepPost w s t (applyP s t.n c (m, false))) := by
  have ha := hc.a
  rw [if_neg (by omega)] at ha
  unfold applyP
  rw [if_neg (by omega), if_pos hk]
  exact copies_any s t m c.kind c.a c.b c.field c.set a' c' w h hn ha.1 ha.2 hc.b.1 hc.b.2
theorem loads_c (s : Sys) (t : SolAt) (m : Nat → Nat → Bool) (c : Con) (a' : Option Addr) (c' : Nat) (w : World) (h : Sol w s t m) (hb : SolBd s t.n) (hT : TzMem w) (hn0 : ¬ t.own 0) (hc : ConOk s c) (hk : c.kind = 3) :
    Calls Tryd.prog 75 #[.pointer (some ⟨t.S, 0, none⟩), conV c a' c'] w (StepPost w s t (applyP s t.n c (m, false))) := by
  have ha := hc.a
  rw [if_neg (by omega)] at ha
  have hf := hc.field (by rw [hk]; rfl)
  unfold applyP
  rw [if_neg (by omega), if_neg (by omega), if_neg (by omega), if_pos hk]
  exact loads_any s t m c.kind c.a c.b c.field c.set a' c' w h hb hT hn0 ha.1 ha.2 hc.b.1 hc.b.2 hf.1 hf.2
theorem stores_c (s : Sys) (t : SolAt) (m : Nat → Nat → Bool) (c : Con) (a' : Option Addr) (c' : Nat) (w : World) (h : Sol w s t m) (hb : SolBd s t.n) (hT : TzMem w) (hn0 : ¬ t.own 0) (hc : ConOk s c) (hk : c.kind = 4) :
    Calls Tryd.prog 76 #[.pointer (some ⟨t.S, 0, none⟩), conV c a' c'] w (StepPost w s t (applyP s t.n c (m, false))) := by
  have ha := hc.a
  rw [if_neg (by omega)] at ha
  have hf := hc.field (by rw [hk]; rfl)
  unfold applyP
  rw [if_neg (by omega), if_neg (by omega), if_neg (by omega), if_neg (by omega)]
  exact stores_any s t m c.kind c.a c.b c.field c.set a' c' w h hb hT hn0 ha.1 ha.2 hc.b.1 hc.b.2 hf.1 hf.2
theorem filters_c (s : Sys) (t : SolAt) (m : Nat → Nat → Bool) (c : Con) (a' : Option Addr) (c' : Nat) (w0 w : World) (h : Sol w s t m) (hn : t.n ≤ 12) (hs : Ints w0 a' c.set) (hb0 : Below w0.heap.size w0 w)
    (hown : ∀ k, t.own k → w0.heap.size ≤ k) (hc : ConOk s c) (hk : c.kind = 5) :
    Calls Tryd.prog 77 #[.pointer (some ⟨t.S, 0, none⟩), conV c a' c'] w (StepPost w s t (applyP s t.n c (m, false))) := by
  have ha := hc.a
  rw [if_neg (by omega)] at ha
  unfold applyP
  rw [if_neg (by omega), if_neg (by omega), if_pos hk]
  exact filters_any s t m c.kind c.a c.b c.field c.set a' c' w0 w h hn hs hb0 hown hc.set ha.1 ha.2 hc.b.1 hc.b.2

def fnOf (k : Int) : FuncId := if k = 1 then 73 else if k = 2 then 74 else if k = 3 then 75 else if k = 4 then 76 else 77
theorem fnOf_cf (k : Int) : ∀ args w, Sem.run Tryd.prog (callFunc (fnOf k) args) w = .ok (.enter (fnOf k) args) w := by
  unfold fnOf
  split
  · exact fun _ _ => rfl
  split
  · exact fun _ _ => rfl
  split
  · exact fun _ _ => rfl
  split
  · exact fun _ _ => rfl
  exact fun _ _ => rfl
theorem step_c (s : Sys) (t : SolAt) (m : Nat → Nat → Bool) (c : Con) (a' : Option Addr) (c' : Nat) (w0 w : World) (h : Sol w s t m) (hb : SolBd s t.n) (hT : TzMem w) (hn0 : ¬ t.own 0) (hs : Ints w0 a' c.set) (hb0 : Below w0.heap.size w0 w)
    (hown : ∀ k, t.own k → w0.heap.size ≤ k) (hc : ConOk s c) :
    Calls Tryd.prog (fnOf c.kind) #[.pointer (some ⟨t.S, 0, none⟩), conV c a' c'] w (StepPost w s t (applyP s t.n c (m, false))) := by
  have hk := hc.kind
  unfold fnOf
  split
  · exact addr_c s t m c a' c' w h hb.n hc (by assumption)
  split
  · exact copies_c s t m c a' c' w h hb.n hc (by assumption)
  split
  · exact loads_c s t m c a' c' w h hb hT hn0 hc (by assumption)
  split
  · exact stores_c s t m c a' c' w h hb hT hn0 hc (by assumption)
  exact filters_c s t m c a' c' w0 w h hb.n hs hb0 hown hc (by omega)

abbrev fnArr : Obj := .cells #[.nilFunc, .func (.func 73) #[] #[], .func (.func 74) #[] #[], .func (.func 75) #[] #[], .func (.func 76) #[] #[], .func (.func 77) #[] #[]] 91
theorem fn_cell {w : World} {g : Nat} (h : Blk w g 91 #[.nilFunc, .func (.func 73) #[] #[], .func (.func 74) #[] #[], .func (.func 75) #[] #[], .func (.func 76) #[] #[], .func (.func 77) #[] #[]]) {k : Int} (hk : 1 ≤ k ∧ k ≤ 5) : w.cell? ⟨g, k.toNat, none⟩ = some (.func (.func (fnOf k)) #[] #[]) := by
  rw [h.cell]
  unfold fnOf
  rcases (by omega : k = 1 ∨ k = 2 ∨ k = 3 ∨ k = 4 ∨ k = 5) with rfl | rfl | rfl | rfl | rfl <;> rfl

set_option maxRecDepth 100000 in
theorem pass_any (s : Sys) (t : SolAt) (m : Nat → Nat → Bool) (w0 w : World) (h : Sol w s t m) (hb : SolBd s t.n) (hT : TzMem w) (hn0 : ¬ t.own 0) (hs : Cons w0 t.aS s.cons) (hb0 : Below w0.heap.size w0 w)
    (hown : ∀ k, t.own k → w0.heap.size ≤ k) (hc : ∀ c ∈ s.cons, ConOk s c) :
    Calls Tryd.prog 46 #[.pointer (some ⟨t.S, 0, none⟩)] w (StepPost w s t (passP s t.n s.cons (m, false))) := by
  have hnew := (h.off_new (k := w.heap.size) (by omega)).own
  have hm := hs.len.le
  have hS := h.blk.lt
  have hS2 : ¬ t.S = w.heap.size := by omega
  have c3 : w.cell? ⟨t.S, 3, none⟩ = some (.slice t.aS s.cons.length t.cS) := h.blk.cell 3
  have hA := Blk.new w 91 #[.nilFunc, .func (.func 73) #[] #[], .func (.func 74) #[] #[], .func (.func 75) #[] #[], .func (.func 76) #[] #[], .func (.func 77) #[] #[]]
  have HA := Lib.hid hA
  obtain ⟨aS, haS⟩ : ∃ a, t.aS = a := ⟨_, rfl⟩
  rw [haS] at c3 hs
  have HAS := Lib.hid haS
  clear haS
  have H1 := Lib.hid (h.alloc fnArr)
  have HO1 := Lib.hid ((Only.refl t.own w).alloc fnArr)
  have HB := Lib.hid hb
  have HT := Lib.hid hT
  clear h hA hb hT
  go_enter Tryd.func46, Tryd.ntmps46
  go_wp2
  go_loopg [4, 14] s.cons.length (fun g v i wr => ∃ (k : Nat) (st : St), k ≤ s.cons.length ∧ g = s.cons.length - k ∧ i = .int .i64 k ∧ v = .bool st.2 ∧ Hid (Only t.own w wr) ∧ Hid (Only t.own (w.alloc fnArr) wr) ∧ Hid (Sol wr s t st.1) ∧ Hid (passP s t.n s.cons (m, false) = passP s t.n (s.cons.drop k) st))
  case atStart => exact ⟨0, (m, false), Nat.zero_le _, rfl, rfl, rfl, HO1, Only.refl _ _, H1, rfl⟩
  case round =>
    obtain ⟨k, st, hk, rfl, rfl, rfl, hO, hO1, hT, hE⟩ := hrel
    by_cases hlt : k < s.cons.length
    · have hco := hc _ (List.getElem_mem hlt)
      obtain ⟨bb, o, a', c', rfl, c0, c1, c2, c4, c5, hset⟩ := hs.at_ k s.cons[k] (get_at hlt)
      have hbw : Below w0.heap.size w0 wr := hb0.trans (hO.out.to_below hb0.size hown)
      replace c0 := cell_keep hbw c0
      replace c1 := cell_keep hbw c1
      replace c2 := cell_keep hbw c2
      replace c4 := cell_keep hbw c4
      replace c5 := cell_keep hbw c5
      have hFn := fn_cell (HA.out.only hO1.out hnew) hco.kind
      have hkd := hco.kind
      have hk0 : 0 ≤ s.cons[k].kind := by omega
      have hk6 : s.cons[k].kind < 6 := by omega
      have hk7 : s.cons[k].kind.toNat < 6 := by omega
      have HE := Lib.hid (drop_at hlt)
      generalize s.cons[k] = c at *
      have hcf := fnOf_cf c.kind
      have hlb : bb < wr.heap.size := World.block_lt_of_cell? _ _ c0
      have hlb2 : w.heap.size < wr.heap.size := by have := hO1.out.size; simp at this; omega
      go_wp2
      have KC := (Blk.new wr 39 #[.int .i64 c.kind, .int .i64 c.a, .int .i64 c.b, .int .i64 c.field, .slice a' c.set.length c']).cell
      have KB : Below wr.heap.size wr (wr.alloc (.cells #[.int .i64 c.kind, .int .i64 c.a, .int .i64 c.b, .int .i64 c.field, .slice a' c.set.length c'] 39)) := (Below.refl _ _).alloc (Nat.le_refl _) _
      generalize wr.alloc (.cells #[.int .i64 c.kind, .int .i64 c.a, .int .i64 c.b, .int .i64 c.field, .slice a' c.set.length c'] 39) = wa at *
      replace hFn := cell_keep KB hFn
      have HO2 : Hid (Only t.own w wa) := hO.out.trans (Only.of_below KB _)
      have HO3 : Hid (Only t.own (w.alloc fnArr) wa) := hO1.out.trans (Only.of_below KB _)
      have HS2 : Hid (Sol wa s t st.1) := hT.out.below KB
      have HTa : Hid (TzMem wa) := HT.out.only HO2.out hn0
      have HBW : Hid (Below w0.heap.size w0 wa) := hb0.trans (HO2.out.to_below hb0.size hown)
      have HX := Lib.hid hset
      have HCO := Lib.hid hco
      clear hO hO1 hT KB hset hco hbw c0 c1 c2 c4 c5
      go_still_tail 6, (by kernel_rfl)
      change wpList _ _ _ _ _ wa.drew
      go_wp2_with (refine (step_c s t st.1 c a' c' w0 wa.drew HS2.out.drew HB.out (HTa.out.only ((Only.refl t.own wa).drew) hn0) hn0 HX.out HBW.out.drew hown HCO.out).mono ?_; rintro e w1 ⟨rfl, hOw, hTw⟩)
      all_goals go_roundg (s.cons.length - (k + 1))
      all_goals first
        | (refine ⟨k + 1, stepP s t.n c st, hlt, rfl, by go_num, ?_, HO2.out.trans hOw.un_drew, HO3.out.trans hOw.un_drew, hTw, hE.out.trans (by rw [HE.out, passP_cons])⟩
           rename_i hfl
           unfold stepP
           rw [hfl]; simp)
        | omega
    · go_wp2
      have : k = s.cons.length := by omega
      subst this
      rw [List.drop_length] at hE
      go_ret
      refine ⟨?_, hO.out, ?_⟩
      · rw [hE.out]; exact ret_bool rfl
      · rw [hE.out]; exact hT.out

set_option maxRecDepth 100000 in
theorem run_any (s : Sys) (t : SolAt) (w0 w : World) (h : Sol w s t (fun _ _ => false)) (ok : SysOk s) (hb : SolBd s t.n) (hT : TzMem w) (hn0 : ¬ t.own 0) (hs : Cons w0 t.aS s.cons) (hb0 : Below w0.heap.size w0 w)
    (hown : ∀ k, t.own k → w0.heap.size ≤ k) (hc : ∀ c ∈ s.cons, ConOk s c) :
    Calls Tryd.prog 37 #[.pointer (some ⟨t.S, 0, none⟩)] w fun e w' => e = .returned (.tuple #[]) ∧ Only t.own w w' ∧ ∃ m, IsLeast s t.n m ∧ Sol w' s t m := by
  have H := Lib.hid h
  have hns := h.sites
  clear h
  go_enter Tryd.func37, Tryd.ntmps37
  go_wp2
  go_loopg [] (meas s t.n (fun _ _ => false, true)) (fun g wo => ∃ st : St, st.2 = true ∧ g = meas s t.n st ∧ Hid (Only t.own w wo) ∧ Hid (Sol wo s t st.1) ∧ Hid (Sound s t.n st.1))
  case atStart => exact ⟨_, rfl, rfl, Only.refl _ _, H, sound_start s t.n⟩
  case round =>
    obtain ⟨st, hst, rfl, hO, hTs, hSo⟩ := hrel
    have hd := measP_pass ok hns hb.n hc hst
    have hSo2 := Lib.hid (soundP_pass hb.n hSo.out false)
    have hSat := Lib.hid (fun hf => passP_sat (m := st.1) (b := false) ok hns hb.n hc hf)
    go_wp2_with (go_at_call 46; refine (pass_any s t st.1 w0 wr hTs.out hb (hT.only hO.out hn0) hn0 hs (hb0.trans (hO.out.to_below hb0.size hown)) hown hc).mono ?_; rintro e w1 ⟨rfl, hO1, hT1⟩)
    · go_roundg (meas s t.n (passP s t.n s.cons (st.1, false)))
      case measure => exact hd
      case rel => exact ⟨_, by assumption, rfl, hO.out.trans hO1, hT1, hSo2.out⟩
    · go_end0
      exact ⟨rfl, hO.out.trans hO1, _, ⟨hSat.out (by assumption), hSo2.out⟩, hT1⟩
end Go.Proofs.YtcfiohphjlohhaaDoor
