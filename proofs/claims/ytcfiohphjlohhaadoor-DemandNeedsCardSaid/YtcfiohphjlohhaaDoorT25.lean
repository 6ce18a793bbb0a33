/- The program's solver: loads, stores. -/
import Derived.Test.YtcfiohphjlohhaaDoorT24
namespace Go.Proofs.YtcfiohphjlohhaaDoor
open Go.RowKit

def loadP (s : Sys) (n a b : Nat) (f : Int) (st : St) : St := (bitsOf (mask n (st.1 a))).foldl (fun st x => joinS n st b (cellIx s f x)) st
def storeP (s : Sys) (n a b : Nat) (f : Int) (st : St) : St := (bitsOf (mask n (st.1 b))).foldl (fun st x => joinS n st (cellIx s f x) a) st

/-- the three blocks that loads and stores lay -/
theorem LI.start {w wa : World} {s : Sys} {t : SolAt} {m : Nat → Nat → Bool} (h : Sol w s t m) (hn0 : ¬ t.own 0) (hT : TzMem w) (kd a b f : Int) (sv : Value)
    (e : wa = ((w.alloc (.cells #[.pointer (some ⟨t.S, 0, none⟩)] 50)).alloc (.cells #[.int .i64 kd, .int .i64 a, .int .i64 b, .int .i64 f, sv] 39)).alloc (.cells #[.bool false] 4)) :
    LI wa s t (w.heap.size + 1 + 1) (m, false) wa ∧ Only t.own w wa ∧ TzMem wa ∧ wa.cell? ⟨w.heap.size, 0, none⟩ = some (.pointer (some ⟨t.S, 0, none⟩)) ∧ (∀ j, wa.cell? ⟨w.heap.size + 1, j, none⟩ = #[.int .i64 kd, .int .i64 a, .int .i64 b, .int .i64 f, sv][j]?) ∧ t.off w.heap.size ∧ t.off (w.heap.size + 1) ∧ t.off (w.heap.size + 1 + 1) := by
  have o1 := h.off_new (k := w.heap.size) (by omega)
  have o2 := h.off_new (k := w.heap.size + 1) (by omega)
  have o3 := h.off_new (k := w.heap.size + 1 + 1) (by omega)
  have hO : Only t.own w wa := by rw [e]; exact (((Only.refl _ _).alloc _).alloc _).alloc _
  have k1 := Blk.new w 50 #[.pointer (some ⟨t.S, 0, none⟩)]
  have k2 := Blk.new (w.alloc (.cells #[.pointer (some ⟨t.S, 0, none⟩)] 50)) 39 #[.int .i64 kd, .int .i64 a, .int .i64 b, .int .i64 f, sv]
  have k3 := Blk.new ((w.alloc (.cells #[.pointer (some ⟨t.S, 0, none⟩)] 50)).alloc (.cells #[.int .i64 kd, .int .i64 a, .int .i64 b, .int .i64 f, sv] 39)) 4 #[.bool false]
  have k1' : Blk wa w.heap.size 50 #[.pointer (some ⟨t.S, 0, none⟩)] := by rw [e]; exact k1.below (((Below.refl _ _).alloc (Nat.le_refl _) _).alloc (by simp) _)
  have k2' : Blk wa (w.heap.size + 1) 39 #[.int .i64 kd, .int .i64 a, .int .i64 b, .int .i64 f, sv] := by
    rw [e]; have := k2.below ((Below.refl _ _).alloc (Nat.le_refl _) (.cells #[.bool false] 4)); simpa using this
  have k3' : Blk wa (w.heap.size + 1 + 1) 4 #[.bool false] := by rw [e]; simpa using k3
  refine ⟨⟨Only.refl _ _, ?_, k3', o3⟩, hO, hT.only hO hn0, k1'.cell 0, k2'.cell, o1, o2, o3⟩
  rw [e]; exact ((h.alloc _).alloc _).alloc _

theorem LI.finish {w wa w' : World} {s : Sys} {t : SolAt} {st : St} {ch : Nat} (hO : Only t.own w wa) (h : LI wa s t ch st w') (hch : w.heap.size ≤ ch) : Only t.own w w' ∧ Sol w' s t st.1 :=
  ⟨((hO.mono (S' := fun k => t.own k ∨ k = ch) fun _ _ hk => .inl hk).trans h.only).mono (S' := t.own) fun k hk e => e.elim id fun e => by omega, h.sol⟩
theorem LI.drew {wa w' : World} {s : Sys} {t : SolAt} {st : St} {ch : Nat} (h : LI wa s t ch st w') : LI wa s t ch st w'.drew := ⟨h.only.drew, h.sol.drew, h.flag, h.off⟩

set_option maxRecDepth 100000 in
theorem loads_any (s : Sys) (t : SolAt) (m : Nat → Nat → Bool) (kd a b f : Int) (set : List Int) (a' : Option Addr) (c' : Nat) (w : World) (h : Sol w s t m) (hb : SolBd s t.n) (hT : TzMem w) (hn0 : ¬ t.own 0) (a0 : 0 ≤ a) (a1 : a < s.vars) (b0 : 0 ≤ b) (b1 : b < s.vars) (f0 : 0 ≤ f) (f1 : f < s.fields) :
    Calls Tryd.prog 75 #[.pointer (some ⟨t.S, 0, none⟩), conV ⟨kd, a, b, f, set⟩ a' c'] w (StepPost w s t (loadP s t.n a.toNat b.toNat f (m, false))) := by
  dsimp only [conV]
  have hmf : ∀ (fn : Fn) (first cap : Array Value) (w : World), (Instr.makeFunc fn first cap).run Tryd.prog w = .ok (.func fn first cap) w := fun _ _ _ _ => rfl
  have LS := Lib.hid (fun wa e => LI.start (wa := wa) h hn0 hT kd a b f (.slice a' set.length c') e)
  have h00 : t.off 0 → True := fun _ => trivial
  clear hT h
  go_enter Tryd.func75, Tryd.ntmps75
  go_wp2
  generalize hwa : ((w.alloc (.cells #[.pointer (some ⟨t.S, 0, none⟩)] 50)).alloc (.cells #[.int .i64 kd, .int .i64 a, .int .i64 b, .int .i64 f, .slice a' set.length c'] 39)).alloc (.cells #[.bool false] 4) = wa
  obtain ⟨hL, hO, hT, hp, hc, o1, o2, o3⟩ := LS.out wa hwa.symm
  clear LS hwa h00
  obtain ⟨ra, a2, hra, c3, hr2, hA⟩ := hL.sol.varRow a0 a1
  have c1 : wa.cell? ⟨t.S, 5, none⟩ = some (.slice (some ⟨t.gv, 0, none⟩) t.RV.length t.RV.length) := hL.sol.blk.cell 5
  have HA := Lib.hid hA
  have HL := Lib.hid hL
  have HB := Lib.hid hb
  clear hL hA hr2 hb
  go_still_tail 9, (by kernel_rfl)
  change wpList _ _ _ _ _ wa.drew
  have hE := each_any3 86 (.pointer (some ⟨w.heap.size, 0, none⟩)) (.pointer (some ⟨w.heap.size + 1, 0, none⟩)) (.pointer (some ⟨w.heap.size + 1 + 1, 0, none⟩)) (fun st x => joinS t.n st b.toNat (cellIx s f x)) (LI wa s t (w.heap.size + 1 + 1)) t.n ra (m a.toNat) (m, false) wa.drew HA.out HB.out.n HL.out.drew cf86
    (fun st w' hI => hT.only hI.only fun e => e.elim hn0 (by omega))
    (fun st w' x hx _ hI => loads1_any s t kd a b f (.slice a' set.length c') wa w' st x w.heap.size (w.heap.size + 1) (w.heap.size + 1 + 1) HB.out hI hx b0 b1 f0 f1 hp hc o1.own o2.own (by omega) (by omega))
  have HE := Lib.hid hE
  clear hE
  go_wp2_with (go_at_call 81; refine HE.out.mono ?_; rintro e w1 ⟨rfl, hI⟩; have hfl : w1.cell? ⟨w.heap.size + 1 + 1, 0, none⟩ = _ := hI.flag.cell 0; replace hI := Lib.hid hI)
  go_ret
  obtain ⟨e1, e2⟩ := LI.finish hO hI.out (by omega)
  exact ⟨rfl, e1, e2⟩

set_option maxRecDepth 100000 in
theorem stores_any (s : Sys) (t : SolAt) (m : Nat → Nat → Bool) (kd a b f : Int) (set : List Int) (a' : Option Addr) (c' : Nat) (w : World) (h : Sol w s t m) (hb : SolBd s t.n) (hT : TzMem w) (hn0 : ¬ t.own 0) (a0 : 0 ≤ a) (a1 : a < s.vars) (b0 : 0 ≤ b) (b1 : b < s.vars) (f0 : 0 ≤ f) (f1 : f < s.fields) :
    Calls Tryd.prog 76 #[.pointer (some ⟨t.S, 0, none⟩), conV ⟨kd, a, b, f, set⟩ a' c'] w (StepPost w s t (storeP s t.n a.toNat b.toNat f (m, false))) := by
  dsimp only [conV]
  have hmf : ∀ (fn : Fn) (first cap : Array Value) (w : World), (Instr.makeFunc fn first cap).run Tryd.prog w = .ok (.func fn first cap) w := fun _ _ _ _ => rfl
  have LS := Lib.hid (fun wa e => LI.start (wa := wa) h hn0 hT kd a b f (.slice a' set.length c') e)
  have h00 : t.off 0 → True := fun _ => trivial
  clear hT h
  go_enter Tryd.func76, Tryd.ntmps76
  go_wp2
  generalize hwa : ((w.alloc (.cells #[.pointer (some ⟨t.S, 0, none⟩)] 50)).alloc (.cells #[.int .i64 kd, .int .i64 a, .int .i64 b, .int .i64 f, .slice a' set.length c'] 39)).alloc (.cells #[.bool false] 4) = wa
  obtain ⟨hL, hO, hT, hp, hc, o1, o2, o3⟩ := LS.out wa hwa.symm
  clear LS hwa h00
  obtain ⟨ra, a2, hra, c3, hr2, hA⟩ := hL.sol.varRow b0 b1
  have c1 : wa.cell? ⟨t.S, 5, none⟩ = some (.slice (some ⟨t.gv, 0, none⟩) t.RV.length t.RV.length) := hL.sol.blk.cell 5
  have HA := Lib.hid hA
  have HL := Lib.hid hL
  have HB := Lib.hid hb
  clear hL hA hr2 hb
  go_still_tail 9, (by kernel_rfl)
  change wpList _ _ _ _ _ wa.drew
  have hE := each_any3 87 (.pointer (some ⟨w.heap.size, 0, none⟩)) (.pointer (some ⟨w.heap.size + 1, 0, none⟩)) (.pointer (some ⟨w.heap.size + 1 + 1, 0, none⟩)) (fun st x => joinS t.n st (cellIx s f x) a.toNat) (LI wa s t (w.heap.size + 1 + 1)) t.n ra (m b.toNat) (m, false) wa.drew HA.out HB.out.n HL.out.drew cf87
    (fun st w' hI => hT.only hI.only fun e => e.elim hn0 (by omega))
    (fun st w' x hx _ hI => stores1_any s t kd a b f (.slice a' set.length c') wa w' st x w.heap.size (w.heap.size + 1) (w.heap.size + 1 + 1) HB.out hI hx a0 a1 f0 f1 hp hc o1.own o2.own (by omega) (by omega))
  have HE := Lib.hid hE
  clear hE
  go_wp2_with (go_at_call 81; refine HE.out.mono ?_; rintro e w1 ⟨rfl, hI⟩; have hfl : w1.cell? ⟨w.heap.size + 1 + 1, 0, none⟩ = _ := hI.flag.cell 0; replace hI := Lib.hid hI)
  go_ret
  obtain ⟨e1, e2⟩ := LI.finish hO hI.out (by omega)
  exact ⟨rfl, e1, e2⟩

end Go.Proofs.YtcfiohphjlohhaaDoor
