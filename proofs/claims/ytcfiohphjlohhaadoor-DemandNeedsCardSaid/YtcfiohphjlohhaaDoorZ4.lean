/- Z4: D7 D8 D9 M8 D11 in one text (merge.py) -/
import Derived.Test.YtcfiohphjlohhaaDoorZ2
import Derived.Maps.Keyed
import Derived.Carry
import Derived.Test.YtcfiohphjlohhaaDoorZ3
/- A map from whole numbers that the call has made: looked up and written. -/
namespace Go.Proofs.YtcfiohphjlohhaaDoor
open Go.RowKit Go.MapKept

def kvOf : Value → Int
  | .int _ x => x
  | _ => 0
theorem isKey_int {v : Value} (h : IsKey (.int .i64) v) : v = .int .i64 (kvOf v) := by
  cases v <;> simp_all [IsKey, kvOf]
/-- block b is a map from whole numbers that gives f -/
def IMap (w : World) (b : Nat) (f : Int → Option Value) : Prop :=
  ∃ es clock, w.heap[b]? = some (.map es clock) ∧ Stamped es clock ∧ (∀ x ∈ es.toList, IsKey (.int .i64) x.key) ∧ (∀ x ∈ es.toList, f (kvOf x.key) = some x.val) ∧ ∀ k v, f k = some v → ∃ x ∈ es.toList, x.key = .int .i64 k
theorem IMap.made (w : World) : IMap (w.alloc (.map #[] 0)) w.heap.size (fun _ => none) :=
  ⟨#[], 0, (MapKept.heap_alloc w _).1, stamped_empty 0, (fun x hx => by simp at hx), (fun x hx => by simp at hx), fun k v h => by cases h⟩
theorem IMap.only {w w' : World} {b : Nat} {f : Int → Option Value} {S : Nat → Prop} (h : IMap w b f) (hb : Only S w w') (hs : ¬ S b) : IMap w' b f := by
  obtain ⟨es, c, h1, h2⟩ := h
  exact ⟨es, c, (hb.block b (Array.getElem?_eq_some_iff.1 h1).1 hs).trans h1, h2⟩
theorem IMap.lt {w : World} {b : Nat} {f : Int → Option Value} (h : IMap w b f) : b < w.heap.size := by
  obtain ⟨es, c, h1, _⟩ := h
  exact (Array.getElem?_eq_some_iff.1 h1).1
theorem IMap.look {w : World} {b : Nat} {f : Int → Option Value} {t e : TypeId} {z : Value} (h : IMap w b f) (ht : Tryd.prog.underlying t = some (.map 3 e)) (hz : ∀ w : World, (zeroValue e).run Tryd.prog w = .ok z w) (k : Int) :
    (Instr.lookup t (.map (some b)) (.int .i64 k) false).run Tryd.prog w = .ok ((f k).getD z) w := by
  obtain ⟨es, c, hb, _, hk, hf, hm⟩ := h
  have hki : IsKey (.int .i64) (.int .i64 k) := rfl
  rcases findNow_spec hki es.toList 0 hk with ⟨h1, h2⟩ | ⟨j, e0, h1, h2, h3⟩
  · have hn : f k = none := by
      cases hfk : f k with
      | none => rfl
      | some v =>
        obtain ⟨x, hx, hxk⟩ := hm k v hfk
        exact absurd hxk (h2 x hx)
    have hfk := run_findKey (P := Tryd.prog) (w := w) Tryd.underlying3 h1
    simp [Instr.lookup, run_underlying ht, Go.MapKept.run_getObj_map hb, run_checkKey Tryd.underlying3 hki, hfk, hz w, hn, Result.andThen]
  · have hv : f k = some e0.val := by
      have := hf e0 (List.mem_of_getElem? h2)
      rw [h3] at this; exact this
    have hfk := run_findKey (P := Tryd.prog) (w := w) Tryd.underlying3 h1
    simp [Instr.lookup, run_underlying ht, Go.MapKept.run_getObj_map hb, run_checkKey Tryd.underlying3 hki, hfk, hv, Result.andThen]
theorem set_obj_only {w : World} {b : Nat} {o o' : Obj} (hb : w.heap[b]? = some o) : Only (isB b) w { w with heap := w.heap.setIfInBounds b o' } :=
  ⟨rfl, rfl, rfl, by simp, fun k _ hk => (heap_set hb).2 k hk⟩
theorem mod_set {l : List MapEntry} {j : Nat} {e : MapEntry} (f : MapEntry → MapEntry) (h : l[j]? = some e) : l.modify j f = l.set j (f e) := by
  apply List.ext_getElem?
  intro i
  rw [List.getElem?_modify, List.getElem?_set]
  by_cases hi : j = i
  · subst hi
    have hl := (List.getElem?_eq_some_iff.1 h).1
    simp [hl, (List.getElem?_eq_some_iff.1 h).2]
  · simp [hi]
theorem IMap.store {w : World} {b : Nat} {f : Int → Option Value} {t e : TypeId} (h : IMap w b f) (ht : Tryd.prog.underlying t = some (.map 3 e)) (k : Int) (v : Value) :
    ∃ w2, (Instr.mapUpdate t (.map (some b)) (.int .i64 k) v).run Tryd.prog w = .ok () w2 ∧ IMap w2 b (fun x => if x = k then some v else f x) ∧ Only (isB b) w w2 := by
  obtain ⟨es, c, hb, hst, hk, hf, hm⟩ := h
  have hki : IsKey (.int .i64) (.int .i64 k) := rfl
  rcases findNow_spec hki es.toList 0 hk with ⟨h1, h2⟩ | ⟨j, e0, h1, h2, h3⟩
  · have hfk := run_findKey (P := Tryd.prog) (w := w) Tryd.underlying3 h1
    refine ⟨{ w with heap := w.heap.setIfInBounds b (.map (es.push ⟨.int .i64 k, v, c⟩) (c + 1)) }, ?_, ⟨es.push ⟨.int .i64 k, v, c⟩, c + 1, (heap_set hb).1, stamped_push hst h2, ?_, ?_, ?_⟩, set_obj_only hb⟩
    · simp [Instr.mapUpdate, run_underlying ht, Go.MapKept.run_getObj_map hb, run_checkKey Tryd.underlying3 hki, hfk, run_setObj_map _ hb, Result.andThen]
    · intro x hx
      simp only [Array.toList_push, List.mem_append, List.mem_singleton] at hx
      rcases hx with hx | rfl
      · exact hk x hx
      · exact hki
    · intro x hx
      simp only [Array.toList_push, List.mem_append, List.mem_singleton] at hx
      rcases hx with hx | rfl
      · have hne : kvOf x.key ≠ k := fun e => h2 x hx (by rw [isKey_int (hk x hx), e])
        exact (if_neg hne).trans (hf x hx)
      · exact if_pos rfl
    · intro k' v' h'
      by_cases hkk : k' = k
      · subst hkk
        exact ⟨⟨.int .i64 k', v, c⟩, by simp, rfl⟩
      · have h'' : f k' = some v' := by
          have h3 : (if k' = k then some v else f k') = some v' := h'
          rw [if_neg hkk] at h3; exact h3
        obtain ⟨x, hx, hxk⟩ := hm k' v' h''
        exact ⟨x, by simp only [Array.toList_push, List.mem_append]; exact .inl hx, hxk⟩
  · have hfk := run_findKey (P := Tryd.prog) (w := w) Tryd.underlying3 h1
    have hj : es[j]? = some e0 := by simpa using h2
    have hlist : (es.modify j (fun e' => { e' with key := .int .i64 k, val := v })).toList = es.toList.set j { e0 with key := .int .i64 k, val := v } := by rw [Array.toList_modify]; exact mod_set _ h2
    have hpw := ((stamped_iff es c).1 hst).2.2
    have hne : ∀ (i : Nat) (x : MapEntry), es.toList[i]? = some x → i ≠ j → x.key ≠ .int .i64 k := fun i x hx hij => by
      have hi := (List.getElem?_eq_some_iff.1 hx)
      have hj' := (List.getElem?_eq_some_iff.1 h2)
      obtain ⟨hi1, hi2⟩ := hi
      obtain ⟨hj1, hj2⟩ := hj'
      have hp := List.pairwise_iff_getElem.1 hpw
      rw [← h3, ← hi2, ← hj2]
      rcases Nat.lt_or_gt_of_ne hij with hlt | hgt
      · exact hp i j hi1 hj1 hlt
      · exact fun e => hp j i hj1 hi1 hgt e.symm
    have who : ∀ x ∈ es.toList.set j { e0 with key := .int .i64 k, val := v }, x = { e0 with key := .int .i64 k, val := v } ∨ (x ∈ es.toList ∧ x.key ≠ .int .i64 k) := by
      intro x hx
      obtain ⟨i, hi⟩ := List.mem_iff_getElem?.1 hx
      rw [List.getElem?_set] at hi
      by_cases hij : j = i
      · rw [if_pos hij] at hi
        split at hi
        · exact .inl (Option.some.inj hi).symm
        · cases hi
      · rw [if_neg hij] at hi
        exact .inr ⟨List.mem_of_getElem? hi, hne i x hi (fun e => hij e.symm)⟩
    refine ⟨{ w with heap := w.heap.setIfInBounds b (.map (es.modify j (fun e' => { e' with key := .int .i64 k, val := v })) c) }, ?_, ⟨es.modify j (fun e' => { e' with key := .int .i64 k, val := v }), c, (heap_set hb).1, stamped_modify hst _ _ (fun _ _ => rfl) (fun e' _ he' => by rw [hj] at he'; cases he'; exact h3.symm), ?_, ?_, ?_⟩, set_obj_only hb⟩
    · simp [Instr.mapUpdate, run_underlying ht, Go.MapKept.run_getObj_map hb, run_checkKey Tryd.underlying3 hki, hfk, hj, h3, run_keyThatStays hki, run_setObj_map _ hb, Result.andThen]
    · intro x hx
      rw [hlist] at hx
      rcases who x hx with rfl | ⟨hx, _⟩
      · exact hki
      · exact hk x hx
    · intro x hx
      rw [hlist] at hx
      rcases who x hx with rfl | ⟨hx, hxk⟩
      · exact if_pos rfl
      · have hn2 : kvOf x.key ≠ k := fun e => hxk (by rw [isKey_int (hk x hx), e])
        exact (if_neg hn2).trans (hf x hx)
    · intro k' v' h'
      rw [hlist]
      have hjl := (List.getElem?_eq_some_iff.1 h2).1
      by_cases hkk : k' = k
      · subst hkk
        exact ⟨{ e0 with key := .int .i64 k', val := v }, List.mem_iff_getElem?.2 ⟨j, by rw [List.getElem?_set, if_pos rfl, if_pos hjl]⟩, rfl⟩
      · have h'' : f k' = some v' := by
          have h3 : (if k' = k then some v else f k') = some v' := h'
          rw [if_neg hkk] at h3; exact h3
        obtain ⟨x, hx, hxk⟩ := hm k' v' h''
        obtain ⟨i, hi⟩ := List.mem_iff_getElem?.1 hx
        have hij : j ≠ i := fun e => by
          subst e
          rw [h2] at hi
          cases hi
          rw [h3] at hxk
          injection hxk with _ hxk
          exact hkk hxk.symm
        exact ⟨x, List.mem_iff_getElem?.2 ⟨i, by rw [List.getElem?_set, if_neg hij]; exact hi⟩, hxk⟩
end Go.Proofs.YtcfiohphjlohhaaDoor

/- demand.visit's closure need. -/
namespace Go.Proofs.YtcfiohphjlohhaaDoor
open Go.RowKit

theorem blk_ne {w : World} {a b : Nat} {t t' : TypeId} {cs cs' : Array Value} (h : Blk w a t cs) (h' : Blk w b t' cs') (ht : t ≠ t') : a ≠ b := by
  intro e
  subst e
  unfold Blk at h h'
  rw [h] at h'
  injection h' with h'
  injection h' with _ h'
  exact ht h'
/-- what the program has seen, and what waits -/
abbrev NSt := (Nat → Bool) × List Int
structure NStep (n : Nat) (l : List Int) (a a' : NSt) : Prop where
  mono : ∀ i, a.1 i = true → a'.1 i = true
  all : ∀ x ∈ l, a'.1 x.toNat = true
  work : ∃ add, a'.2 = a.2 ++ add ∧ (∀ x ∈ add, x ∈ l ∧ a'.1 x.toNat = true) ∧ ∀ i : Nat, a'.1 i = true → a.1 i = true ∨ (i : Int) ∈ add
  less : 2 * cnt n a'.1 + a'.2.length ≤ 2 * cnt n a.1 + a.2.length
  len : a'.2.length ≤ a.2.length + l.length
theorem NStep.nil (n : Nat) (a : NSt) : NStep n [] a a :=
  ⟨fun _ h => h, (fun _ h => by cases h), ⟨[], by simp, (fun _ h => by cases h), fun _ h => .inl h⟩, Nat.le_refl _, Nat.le_refl _⟩
theorem NStep.old {n : Nat} {l : List Int} {a a' : NSt} (h : NStep n l a a') {x : Int} (hx : a'.1 x.toNat = true) : NStep n (l ++ [x]) a a' := by
  obtain ⟨add, e1, e2, e3⟩ := h.work
  refine ⟨h.mono, fun y hy => ?_, ⟨add, e1, fun y hy => ⟨List.mem_append_left _ (e2 y hy).1, (e2 y hy).2⟩, e3⟩, h.less, ?_⟩
  · rcases List.mem_append.1 hy with hy | hy
    · exact h.all y hy
    · rw [List.mem_singleton.1 hy]; exact hx
  · have := h.len; rw [List.length_append]; omega
theorem NStep.new {n : Nat} {l : List Int} {a a' : NSt} (h : NStep n l a a') {x : Int} (h0 : 0 ≤ x) (h1 : x < n) (hx : a'.1 x.toNat = false) : NStep n (l ++ [x]) a (setV a'.1 x.toNat, a'.2 ++ [x]) := by
  obtain ⟨add, e1, e2, e3⟩ := h.work
  have hc : cnt n (setV a'.1 x.toNat) < cnt n a'.1 := cnt_set (by omega) hx
  have hs : ∀ i, a'.1 i = true → setV a'.1 x.toNat i = true := fun i hi => by unfold setV; split <;> first | rfl | exact hi
  have hsx : setV a'.1 x.toNat x.toNat = true := by simp [setV]
  refine ⟨fun i hi => hs i (h.mono i hi), fun y hy => ?_, ⟨add ++ [x], by rw [e1, List.append_assoc], fun y hy => ?_, fun i hi => ?_⟩, ?_, ?_⟩
  · rcases List.mem_append.1 hy with hy | hy
    · exact hs _ (h.all y hy)
    · rw [List.mem_singleton.1 hy]; exact hsx
  · rcases List.mem_append.1 hy with hy | hy
    · exact ⟨List.mem_append_left _ (e2 y hy).1, hs _ (e2 y hy).2⟩
    · rw [List.mem_singleton.1 hy]; exact ⟨List.mem_append_right _ (List.mem_singleton_self _), hsx⟩
  · have hi' : setV a'.1 x.toNat i = true := hi
    unfold setV at hi'
    split at hi'
    · rename_i e; subst e
      exact .inr (List.mem_append_right _ (by rw [Int.toNat_of_nonneg h0]; exact List.mem_singleton_self _))
    · exact (e3 i hi').imp_right fun e => List.mem_append_left _ e
  · have := h.less
    show 2 * cnt n (setV a'.1 x.toNat) + (a'.2 ++ [x]).length ≤ _
    rw [List.length_append]
    simp only [List.length_cons, List.length_nil]
    omega
  · have := h.len
    show (a'.2 ++ [x]).length ≤ _
    rw [List.length_append, List.length_append]
    simp only [List.length_cons, List.length_nil]
    omega

/-- what the closure's blocks hold -/
structure NMem (w : World) (n r gs gw B : Nat) (a : NSt) (v : Value) : Prop where
  s : Blk w gs 57 #[.slice (some ⟨r, 0, none⟩) n n]
  r : Blk w r 4 (rowCells n a.1)
  g : Blk w gw 37 #[v]
  o : OwnInts B w v a.2
abbrev nTurn (r gw : Nat) (v : Value) : Nat → Prop := fun k => k = r ∨ k = gw ∨ v.ownBlock = some k
theorem Only.grown' {w w1 w2 : World} {r gw : Nat} {v : Value} {row : Option Nat} (h : Only (nTurn r gw v) w w1) (hg : w1.grownBy w2 row) (hr : ∀ j, row = some j → v.ownBlock = some j ∨ w.heap.size ≤ j) : Only (nTurn r gw v) w w2 :=
  ⟨hg.os.trans h.os, hg.tape.trans h.tape, hg.output.trans h.output, Nat.le_trans h.size hg.size, fun k hk hs => (hg.block k (Nat.lt_of_lt_of_le hk h.size) fun e => by
    rcases hr k e.symm with h1 | h1
    · exact hs (.inr (.inr h1))
    · omega).trans (h.block k hk hs)⟩
/-- what need leaves -/
def NeedP (w : World) (n r gs gw B : Nat) (l : List Int) (a : NSt) (v : Value) (e : Ending) (w' : World) : Prop :=
  ∃ (a' : NSt) (v' : Value), e = .returned (.tuple #[]) ∧ NStep n l a a' ∧ NMem w' n r gs gw B a' v' ∧ Only (nTurn r gw v) w w' ∧ ∀ g, v'.ownBlock = some g → v.ownBlock = some g ∨ w.heap.size ≤ g

set_option maxRecDepth 100000 in
set_option maxHeartbeats 2000000 in
theorem need_any (n r gs gw gl B c : Nat) (l : List Int) (a : NSt) (v : Value) (w : World) (h : NMem w n r gs gw B a v) (hl : Blk w gl 3 (l.map (Value.int .i64)).toArray) (hv : v.ownBlock ≠ some gl) (hr : ∀ x ∈ l, 0 ≤ x ∧ x < (n : Int)) (hn : a.2.length + l.length ≤ 200000) (hB : B ≤ w.heap.size) :
    Calls Tryd.prog 80 #[.slice (some ⟨gl, 0, none⟩) l.length c, .pointer (some ⟨gs, 0, none⟩), .pointer (some ⟨gw, 0, none⟩)] w (NeedP w n r gs gw B l a v) := by
  have n1 := blk_ne hl h.r (by decide)
  have n2 := blk_ne hl h.g (by decide)
  have n3 := blk_ne h.s h.r (by decide)
  have n4 := blk_ne h.s h.g (by decide)
  have n5 := blk_ne h.g h.r (by decide)
  have n6 := own_ne_blk h.o h.s (by decide)
  have n7 := own_ne_blk h.o h.r (by decide)
  have n8 := own_ne_blk h.o h.g (by decide)
  have HM := Lib.hid h
  have HL := Lib.hid hl
  have HR := Lib.hid hr
  have HV := Lib.hid hv
  have N1 := Lib.hid n1
  have N2 := Lib.hid n2
  have N3 := Lib.hid n3
  have N4 := Lib.hid n4
  have N5 := Lib.hid n5
  have N6 := Lib.hid n6
  obtain ⟨i0, hi, hz0⟩ := info_parts info3
  have HI := Lib.hid hi
  have HZ := Lib.hid hz0
  have hll : l.length ≤ 200000 := by omega
  clear h hl hr hv n1 n2 n3 n4 n5 n6 n7 n8 hi hz0
  go_enter Tryd.func80, Tryd.ntmps80
  go_wp2
  go_loopg [8] l.length (fun g i wr => ∃ (k : Nat) (a' : NSt) (v' : Value), k ≤ l.length ∧ g = l.length - k ∧ i = .int .i64 k ∧ Hid (NStep n (l.take k) a a') ∧ Hid (NMem wr n r gs gw B a' v') ∧ Hid (Only (nTurn r gw v) w wr) ∧ Hid (∀ g, v'.ownBlock = some g → v.ownBlock = some g ∨ w.heap.size ≤ g))
  case atStart => exact ⟨0, a, v, Nat.zero_le _, rfl, rfl, NStep.nil _ _, HM, Only.refl _ _, fun g hg => .inl hg⟩
  case round =>
    obtain ⟨k, a', v', hk, rfl, rfl, hS, hM, hO, hG⟩ := hrel
    by_cases hlt : k < l.length
    · have hx := HR.out l[k] (List.getElem_mem hlt)
      have hx0 := hx.1
      have hx1 := hx.2
      have KL : Hid (Blk wr gl 3 (l.map (Value.int .i64)).toArray) := HL.out.only hO.out (fun e => by rcases e with e | e | e; exact N1.out e; exact N2.out e; exact HV.out e)
      have f0 : wr.cell? ⟨gl, k, none⟩ = some (.int .i64 l[k]) := by rw [KL.out.cell]; simp [hlt]
      have f1 : wr.cell? ⟨gs, 0, none⟩ = some (.slice (some ⟨r, 0, none⟩) n n) := hM.out.s.cell 0
      have f2 : wr.cell? ⟨r, l[k].toNat, none⟩ = some (.bool (a'.1 l[k].toNat)) := by rw [hM.out.r.cell, rowCells_at _ (by omega)]
      have f3 : wr.frozen? ⟨r, l[k].toNat, none⟩ = false := hM.out.r.frozen _
      have y1 : r < wr.heap.size := hM.out.r.lt
      have y2 : gs < wr.heap.size := hM.out.s.lt
      have y3 : gw < wr.heap.size := hM.out.g.lt
      have ht : Hid (l.take (k + 1) = l.take k ++ [l[k]]) := by unfold Hid; rw [List.take_add_one, List.getElem?_eq_getElem hlt]; rfl
      cases hq : a'.1 l[k].toNat
      · have hS2 : Hid (NStep n (l.take (k + 1)) a (setV a'.1 l[k].toNat, a'.2 ++ [l[k]])) := by rw [ht.out]; exact hS.out.new hx0 hx1 hq
        have hlen2 : Hid (a'.2.length + 1 ≤ 200000) := by
          have h1 := hS.out.len
          have h2 := List.length_take_le k l
          have h3 : (l.take k).length = k := by rw [List.length_take]; omega
          unfold Hid; omega
        rw [hq] at f2
        obtain ⟨wx, hwx⟩ : ∃ wx, wx = wr.setCell ⟨r, l[k].toNat, none⟩ (.bool true) := ⟨_, rfl⟩
        have X1 : Hid (Blk wx gs 57 #[.slice (some ⟨r, 0, none⟩) n n]) := by rw [hwx]; exact hM.out.s.far (p := ⟨r, l[k].toNat, none⟩) N3.out _
        have X2 : Hid (Blk wx r 4 (rowCells n (setV a'.1 l[k].toNat))) := by
          rw [hwx]
          have := hM.out.r.set_ l[k].toNat (.bool true)
          rw [rowCells_set _ (by omega)] at this; exact this
        have X3 : Hid (Blk wx gw 37 #[v']) := by rw [hwx]; exact hM.out.g.far (p := ⟨r, l[k].toNat, none⟩) N5.out _
        have X4 : Hid (OwnInts B wx v' a'.2) := by rw [hwx]; exact own_far hM.out.o (own_ne_blk hM.out.o hM.out.r (by decide)) _
        have X5 : Hid (Only (nTurn r gw v) w wx) := by rw [hwx]; exact hO.out.setCell (.inl (.inl rfl)) _
        have XB : Hid (B ≤ wx.heap.size) := by
          have h1 := X5.out.size
          unfold Hid; omega
        have HWX := Lib.hid hwx
        have f4 : (wr.setCell ⟨r, l[k].toNat, none⟩ (.bool true)).cell? ⟨gw, 0, none⟩ = some v' := by rw [← hwx]; exact X3.out.cell 0
        have HTT : Hid (∀ w3, (wx.alloc (.cells #[.int .i64 l[k]] 3)).grownBy w3 v'.ownBlock → Blk w3 gw 37 #[v'] ∧ Blk w3 gs 57 #[.slice (some ⟨r, 0, none⟩) n n] ∧ Blk w3 r 4 (rowCells n (setV a'.1 l[k].toNat))) := fun w3 hg =>
          ⟨(X3.out.al _).grown hg (own_ne_blk X4.out X3.out (by decide)), (X1.out.al _).grown hg (own_ne_blk X4.out X1.out (by decide)), (X2.out.al _).grown hg (own_ne_blk X4.out X2.out (by decide))⟩
        have HOX := Lib.hid (World.ownsRow.alloc (w := wx) X4.out (.cells #[.int .i64 l[k]] 3))
        rw [hwx] at HOX
        have hszx : (wr.setCell ⟨r, l[k].toNat, none⟩ (.bool true)).heap.size = wr.heap.size := by simp [World.setCell]
        have HUX : Hid (Blk ((wr.setCell ⟨r, l[k].toNat, none⟩ (.bool true)).alloc (.cells #[.int .i64 l[k]] 3)) wr.heap.size 3 #[.int .i64 l[k]]) := by
          have := Blk.new (wr.setCell ⟨r, l[k].toNat, none⟩ (.bool true)) 3 #[.int .i64 l[k]]
          rw [hszx] at this; exact this
        have hzw : Hid (B ≤ ((wr.setCell ⟨r, l[k].toNat, none⟩ (.bool true)).alloc (.cells #[.int .i64 l[k]] 3)).heap.size) := by
          have h1 := XB.out
          rw [hwx] at h1
          unfold Hid; rw [World.size_alloc]; omega
        have hSW : Hid (w.heap.size ≤ ((wr.setCell ⟨r, l[k].toNat, none⟩ (.bool true)).alloc (.cells #[.int .i64 l[k]] 3)).heap.size) := by
          have h1 := X5.out.size
          rw [hwx] at h1
          unfold Hid; rw [World.size_alloc]; omega
        have y3x : gw < (wr.setCell ⟨r, l[k].toNat, none⟩ (.bool true)).heap.size := by rw [← hwx]; exact X3.out.lt
        clear hq hx hwx hszx
        go_wp2_with (at_builtin; refine wpList_append_lies _ rfl (.tmp 20) (.tmp 22) 37 rfl B 3 i0 (.int .i64 0) 1 8 Tryd.underlying37 HI.out HZ.out.1 HZ.out.2.1 HZ.out.2.2 rfl (by decide) v' a'.2.length _ rfl HOX.out ⟨wr.heap.size, 0, none⟩ 1 1 [.int .i64 l[k]] rfl rfl ?KA ?KB ?KC ?KD ?KE ?KF _ rfl ?KG)
        try case KA => exact fun j u hu => by rw [add_blk, HUX.out.cell]; rw [← hu]; simp
        try case KC => exact Nat.one_pos
        case KB => first | rfl | exact fun u hu => by rw [List.mem_singleton.1 hu]; rfl
        case KD => first | (unfold maxLen; have := hlen2.out; omega) | (have := hlen2.out; omega)
        case KE => have := hlen2.out; omega
        case KF => exact hzw.out
        case KG =>
          intro g cap w3 hown hgrow hat _
          rw [← HWX.out] at hgrow
          obtain ⟨b1, b2, b3⟩ := HTT.out _ hgrow
          have g1 := b1.cell 0
          have g2 := b1.frozen 0
          have g3 := b1.lt
          have hO1 : OwnInts B w3 (.slice (some ⟨g, 0, none⟩) (a'.2.length + 1) cap) (a'.2 ++ [l[k]]) := by
            unfold OwnInts; rw [List.length_append, List.map_append]; exact hown
          have hM2 : Hid (NMem (w3.setCell ⟨gw, 0, none⟩ (.slice (some ⟨g, 0, none⟩) (a'.2.length + 1) cap)) n r gs gw B (setV a'.1 l[k].toNat, a'.2 ++ [l[k]]) (.slice (some ⟨g, 0, none⟩) (a'.2.length + 1) cap)) :=
            ⟨b2.far (p := ⟨gw, 0, none⟩) N4.out _, b3.far (p := ⟨gw, 0, none⟩) (fun e => N5.out e.symm) _, b1.set_ 0 _, own_far hO1 (own_ne_blk hO1 b1 (by decide)) _⟩
          have hO2 : Hid (Only (nTurn r gw v) w (w3.setCell ⟨gw, 0, none⟩ (.slice (some ⟨g, 0, none⟩) (a'.2.length + 1) cap))) :=
            ((X5.out.alloc _).grown' hgrow fun j hj => hG.out j hj).setCell (.inl (.inr (.inl rfl))) _
          have hG2 : Hid (∀ j, (Value.slice (some ⟨g, 0, none⟩) (a'.2.length + 1) cap).ownBlock = some j → v.ownBlock = some j ∨ w.heap.size ≤ j) := fun j hj => by
            have hj : g = j := by simpa [Value.ownBlock] using hj
            subst hj
            rcases hat with hat | hat
            · exact hG.out g hat
            · right
              have h1 := hO.out.size; omega
          clear hown hgrow hat b1 b2 b3 HTT HOX HUX
          go_wp2
          go_roundg (l.length - (k + 1))
          case measure => omega
          case rel => exact ⟨k + 1, _, _, by omega, rfl, by go_num, hS2, hM2, hO2, hG2⟩
      · have hS2 : Hid (NStep n (l.take (k + 1)) a a') := by rw [ht.out]; exact hS.out.old hq
        rw [hq] at f2
        clear hq hx
        go_wp2
        go_roundg (l.length - (k + 1))
        case measure => omega
        case rel => exact ⟨k + 1, a', v', by omega, rfl, by go_num, hS2, hM, hO, hG⟩
    · obtain rfl : k = l.length := by omega
      have hge : ¬ (l.length : Int) < (l.length : Int) := by omega
      go_wp2
      go_end0
      have hS3 := hS.out
      rw [List.take_length] at hS3
      exact ⟨a', v', rfl, hS3, hM.out, hO.out, hG.out⟩
end Go.Proofs.YtcfiohphjlohhaaDoor

/- demand.visit: the constraints by target, the stores by field. -/
namespace Go.Proofs.YtcfiohphjlohhaaDoor
open Go.RowKit

abbrev Ent := Con × Option Addr × Nat
abbrev Idx := Sum Nat Int
abbrev FamF := Idx → Value × List Ent
/-- rows of constraints, one for each index, apart from each other -/
structure FamR (w5 w : World) (F : FamF) : Prop where
  own : ∀ i, w.ownsRow w5.heap.size 39 5 (F i).1 (F i).2.length ((F i).2.flatMap conCells)
  apart : ∀ i j, i ≠ j → ∀ g, (F i).1.ownBlock = some g → (F j).1.ownBlock ≠ some g
  ints : ∀ i, ∀ e ∈ (F i).2, Ints w5 e.2.1 e.1.set
def updF (F : FamF) (i : Idx) (x : Value × List Ent) : FamF := fun j => if j = i then x else F j
theorem updF_same (F : FamF) (i : Idx) (x : Value × List Ent) : updF F i x i = x := if_pos rfl
theorem updF_other (F : FamF) {i j : Idx} (x : Value × List Ent) (h : j ≠ i) : updF F i x j = F j := if_neg h
theorem FamR.lt {w5 w : World} {F : FamF} (h : FamR w5 w F) {i : Idx} {g : Nat} (hg : (F i).1.ownBlock = some g) : w5.heap.size ≤ g ∧ g < w.heap.size := World.ownsRow.lt (h.own i) g hg
theorem FamR.start (w5 w : World) : FamR w5 w (fun _ => (.slice none 0 0, [])) :=
  ⟨fun _ => World.ownsRow_nil _ _ _ _, fun _ _ _ g hg => (by cases hg), fun _ e he => by cases he⟩
theorem FamR.only {w5 w w' : World} {F : FamF} {S : Nat → Prop} (h : FamR w5 w F) (hb : Only S w w') (hs : ∀ i g, (F i).1.ownBlock = some g → ¬ S g) : FamR w5 w' F :=
  ⟨fun i => own_of (h.own i) fun g hg => hb.block g (h.lt hg).2 (hs i g hg), h.apart, h.ints⟩
theorem FamR.below {w5 w w' : World} {F : FamF} (h : FamR w5 w F) (hb : Below w.heap.size w w') : FamR w5 w' F :=
  h.only (Only.of_below hb (fun _ => False)) fun _ _ _ e => e
theorem FamR.step {w5 w wa w3 : World} {F : FamF} (h : FamR w5 w F) (hb : Below w.heap.size w wa) {i : Idx} {v' : Value} {e : Ent} (hi : Ints w5 e.2.1 e.1.set)
    (hown : w3.ownsRow w5.heap.size 39 5 v' ((F i).2.length + 1) ((F i).2.flatMap conCells ++ conCells e)) (hgrow : wa.grownBy w3 (F i).1.ownBlock)
    (hat : ∀ g, v'.ownBlock = some g → (F i).1.ownBlock = some g ∨ wa.heap.size ≤ g) : FamR w5 w3 (updF F i (v', (F i).2 ++ [e])) := by
  have hba := h.below hb
  refine ⟨fun j => ?_, fun j k hjk g hg => ?_, fun j x hx => ?_⟩
  · by_cases hj : j = i
    · subst hj
      rw [updF_same]
      show w3.ownsRow w5.heap.size 39 5 v' ((F j).2 ++ [e]).length (((F j).2 ++ [e]).flatMap conCells)
      rw [List.length_append, List.flatMap_append]
      simp only [List.flatMap_cons, List.flatMap_nil, List.append_nil, List.length_cons, List.length_nil, Nat.zero_add]
      exact hown
    · rw [updF_other F _ hj]
      exact own_of (hba.own j) fun g hg => hgrow.block g (hba.lt hg).2 fun e => h.apart i j (fun e => hj e.symm) g e.symm hg
  · by_cases hj : j = i
    · subst hj
      rw [updF_same] at hg
      rw [updF_other F _ (fun e => hjk e.symm)]
      rcases hat g hg with h1 | h1
      · exact h.apart j k hjk g h1
      · intro h2
        have := (hba.lt h2).2
        omega
    · rw [updF_other F _ hj] at hg
      by_cases hk : k = i
      · subst hk
        rw [updF_same]
        intro h2
        rcases hat g h2 with h1 | h1
        · exact h.apart k j (fun e => hj e.symm) g h1 hg
        · have := (hba.lt hg).2
          omega
      · rw [updF_other F _ hk]
        exact h.apart j k hjk g hg
  · by_cases hj : j = i
    · subst hj
      rw [updF_same] at hx
      rcases List.mem_append.1 hx with hx | hx
      · exact h.ints j x hx
      · rw [List.mem_singleton.1 hx]; exact hi
    · rw [updF_other F _ hj] at hx
      exact h.ints j x hx
theorem FamR.ne_blk {w5 w : World} {F : FamF} (h : FamR w5 w F) {i : Idx} {b : Nat} {t : TypeId} {cs : Array Value} (hb : Blk w b t cs) (ht : 39 ≠ t) : some b ≠ (F i).1.ownBlock := own_ne_blk (h.own i) hb ht
theorem own_ne_map {w : World} {base : Nat} {e : TypeId} {size n : Nat} {v : Value} {xs : List Value} {b : Nat} {f : Int → Option Value} (h : w.ownsRow base e size v n xs) (hm : IMap w b f) : some b ≠ v.ownBlock := by
  intro he
  obtain ⟨es, c, hb, _⟩ := hm
  rcases h.2 with ⟨rfl, _⟩ | ⟨g', cap, cur, rfl, _, hh, _⟩
  · cases he
  · have : b = g' := by simpa [Value.ownBlock] using he
    subst this
    rw [hb] at hh; cases hh
theorem IMap.grown {w w' : World} {b : Nat} {f : Int → Option Value} {row : Option Nat} (h : IMap w b f) (hg : w.grownBy w' row) (hne : some b ≠ row) : IMap w' b f := by
  obtain ⟨es, c, h1, h2⟩ := h
  exact ⟨es, c, (hg.block b (Array.getElem?_eq_some_iff.1 h1).1 hne).trans h1, h2⟩
theorem IMap.below {w w' : World} {b : Nat} {f : Int → Option Value} (h : IMap w b f) (hb : Below w.heap.size w w') : IMap w' b f :=
  h.only (Only.of_below hb (fun _ => False)) (fun e => e)
theorem map_ne_blk {w : World} {a b : Nat} {t : TypeId} {cs : Array Value} {f : Int → Option Value} (h : Blk w a t cs) (h' : IMap w b f) : a ≠ b := by
  intro e
  subst e
  obtain ⟨es, c, hb, _⟩ := h'
  unfold Blk at h
  rw [hb] at h; cases h

/-- which constraints lie at an index -/
def atI : Idx → Con → Bool
  | .inl b, c => decide (c.kind ≠ 4) && decide (c.b = (b : Int))
  | .inr f, c => decide (c.kind = 4) && decide (c.field = f)
/-- the tables after the first j constraints -/
structure Tabs (w5 w : World) (s : Sys) (n bt bm : Nat) (j : Nat) (F : FamF) (m : Int → Option Value) (arr : Array Value) : Prop where
  rows : FamR w5 w F
  to_ : Blk w bt 22 arr
  size : arr.size = n
  toAt : ∀ b, b < n → arr[b]? = some (F (.inl b)).1
  map : IMap w bm m
  mapAt : ∀ k, (m k).getD (.slice none 0 0) = (F (.inr k)).1
  cont : ∀ i, (F i).2.map (·.1) = (s.cons.take j).filter (atI i)
theorem Tabs.len {w5 w : World} {s : Sys} {n bt bm j : Nat} {F : FamF} {m : Int → Option Value} {arr : Array Value} (h : Tabs w5 w s n bt bm j F m arr) (i : Idx) : (F i).2.length ≤ s.cons.length := by
  have h1 := congrArg List.length (h.cont i)
  have h2 := List.length_filter_le (atI i) (s.cons.take j)
  rw [List.length_map] at h1
  rw [List.length_take] at h2
  omega
theorem take_filter' {s : Sys} {j : Nat} (h : j < s.cons.length) (f : Con → Bool) : (s.cons.take (j + 1)).filter f = (s.cons.take j).filter f ++ (if f s.cons[j] = true then [s.cons[j]] else []) := take_filter h f
/-- a store is put to its field -/
theorem Tabs.stepM {w5 w wa w3 w4 : World} {s : Sys} {n bt bm j : Nat} {F : FamF} {m : Int → Option Value} {arr : Array Value} (h : Tabs w5 w s n bt bm j F m arr) (hj : j < s.cons.length) (hk : s.cons[j].kind = 4) (hb : Below w.heap.size w wa) {v' : Value} {a' : Option Addr} {c' : Nat} (hi : Ints w5 a' s.cons[j].set)
    (hown : w3.ownsRow w5.heap.size 39 5 v' ((F (.inr s.cons[j].field)).2.length + 1) ((F (.inr s.cons[j].field)).2.flatMap conCells ++ conCells (s.cons[j], a', c'))) (hgrow : wa.grownBy w3 (F (.inr s.cons[j].field)).1.ownBlock)
    (hat : ∀ g, v'.ownBlock = some g → (F (.inr s.cons[j].field)).1.ownBlock = some g ∨ wa.heap.size ≤ g)
    (hm : IMap w4 bm (fun x => if x = s.cons[j].field then some v' else m x)) (ho : Only (isB bm) w3 w4) :
    Tabs w5 w4 s n bt bm (j + 1) (updF F (.inr s.cons[j].field) (v', (F (.inr s.cons[j].field)).2 ++ [(s.cons[j], a', c')])) (fun x => if x = s.cons[j].field then some v' else m x) arr := by
  have h3 := h.rows.step hb hi hown hgrow hat
  have hmw : IMap w3 bm m := (h.map.below hb).grown hgrow (own_ne_map (h.rows.own _) h.map)
  have ht3 : Blk w3 bt 22 arr := (h.to_.below hb).grown hgrow (h.rows.ne_blk h.to_ (by decide))
  refine ⟨h3.only ho fun i g hg e => ?_, ht3.only ho (map_ne_blk ht3 hmw), h.size, fun b hb => ?_, hm, fun k => ?_, fun i => ?_⟩
  · have e : g = bm := e
    subst e
    exact own_ne_map (h3.own i) hmw hg.symm
  · rw [updF_other F _ (by simp)]; exact h.toAt b hb
  · by_cases hk2 : k = s.cons[j].field
    · subst hk2
      rw [updF_same]; simp
    · rw [updF_other F _ (by simpa using hk2)]
      simp only [if_neg hk2]
      exact h.mapAt k
  · rw [take_filter' hj]
    by_cases hi2 : i = .inr s.cons[j].field
    · subst hi2
      rw [updF_same]
      have : atI (.inr s.cons[j].field) s.cons[j] = true := by simp [atI, hk]
      rw [if_pos this, List.map_append, h.cont]; rfl
    · rw [updF_other F _ hi2, h.cont]
      have : atI i s.cons[j] = false := by
        cases i with
        | inl b => simp [atI, hk]
        | inr f =>
          have : ¬ s.cons[j].field = f := fun e => hi2 (by rw [e])
          simp [atI, this]
      rw [this]; simp
/-- another constraint is put to its target -/
theorem Tabs.stepT {w5 w wa w3 : World} {s : Sys} {n bt bm j : Nat} {F : FamF} {m : Int → Option Value} {arr : Array Value} (h : Tabs w5 w s n bt bm j F m arr) (hj : j < s.cons.length) (hk : s.cons[j].kind ≠ 4) (hb0 : 0 ≤ s.cons[j].b) (_hbn : s.cons[j].b < (n : Int)) (hb : Below w.heap.size w wa) {v' : Value} {a' : Option Addr} {c' : Nat} (hi : Ints w5 a' s.cons[j].set)
    (hown : w3.ownsRow w5.heap.size 39 5 v' ((F (.inl s.cons[j].b.toNat)).2.length + 1) ((F (.inl s.cons[j].b.toNat)).2.flatMap conCells ++ conCells (s.cons[j], a', c'))) (hgrow : wa.grownBy w3 (F (.inl s.cons[j].b.toNat)).1.ownBlock)
    (hat : ∀ g, v'.ownBlock = some g → (F (.inl s.cons[j].b.toNat)).1.ownBlock = some g ∨ wa.heap.size ≤ g) :
    Tabs w5 (w3.setCell ⟨bt, s.cons[j].b.toNat, none⟩ v') s n bt bm (j + 1) (updF F (.inl s.cons[j].b.toNat) (v', (F (.inl s.cons[j].b.toNat)).2 ++ [(s.cons[j], a', c')])) m (arr.setIfInBounds s.cons[j].b.toNat v') := by
  have h3 := h.rows.step hb hi hown hgrow hat
  have hmw : IMap w3 bm m := (h.map.below hb).grown hgrow (own_ne_map (h.rows.own _) h.map)
  have ht3 : Blk w3 bt 22 arr := (h.to_.below hb).grown hgrow (h.rows.ne_blk h.to_ (by decide))
  have ho : Only (isB bt) w3 (w3.setCell ⟨bt, s.cons[j].b.toNat, none⟩ v') := (Only.refl (isB bt) w3).setCell (p := ⟨bt, s.cons[j].b.toNat, none⟩) (.inl rfl) _
  refine ⟨h3.only ho fun i g hg e => ?_, ht3.set_ _ _, by rw [Array.size_setIfInBounds]; exact h.size, fun b hbb => ?_, hmw.only ho (fun e => map_ne_blk ht3 hmw e.symm), fun k => ?_, fun i => ?_⟩
  · have e : g = bt := e
    subst e
    exact h3.ne_blk ht3 (by decide) hg.symm
  · by_cases hbe : b = s.cons[j].b.toNat
    · subst hbe
      rw [updF_same, Array.getElem?_setIfInBounds]
      rw [if_pos rfl, if_pos (by rw [h.size]; exact hbb)]
    · rw [updF_other F _ (by simpa using hbe), Array.getElem?_setIfInBounds, if_neg (fun e => hbe e.symm)]
      exact h.toAt b hbb
  · rw [updF_other F _ (by simp)]; exact h.mapAt k
  · rw [take_filter' hj]
    by_cases hi2 : i = .inl s.cons[j].b.toNat
    · subst hi2
      rw [updF_same]
      have : atI (.inl s.cons[j].b.toNat) s.cons[j] = true := by
        simp only [atI, Bool.and_eq_true, decide_eq_true_eq]
        exact ⟨hk, by omega⟩
      rw [if_pos this, List.map_append, h.cont]; rfl
    · rw [updF_other F _ hi2, h.cont]
      have : atI i s.cons[j] = false := by
        cases i with
        | inl b =>
          have : ¬ s.cons[j].b = (b : Int) := fun e => hi2 (by rw [e]; rfl)
          simp [atI, this]
        | inr f => simp [atI, hk]
      rw [this]; simp
theorem Tabs.below {w5 w w' : World} {s : Sys} {n bt bm j : Nat} {F : FamF} {m : Int → Option Value} {arr : Array Value} (h : Tabs w5 w s n bt bm j F m arr) (hb : Below w.heap.size w w') : Tabs w5 w' s n bt bm j F m arr :=
  ⟨h.rows.below hb, h.to_.below hb, h.size, h.toAt, h.map.below hb, h.mapAt, h.cont⟩
end Go.Proofs.YtcfiohphjlohhaaDoor

/- Plain mathematics of the program's work list over the variables that a query visits. -/
namespace Go.Proofs.YtcfiohphjlohhaaDoor

/-- a constraint of a visited target is done -/
def DoneV (f : Nat → Bool) (lf : Int → Bool) (c : Con) : Prop := c.kind ≠ 1 → f c.a.toNat = true ∧ (c.kind = 3 → lf c.field = true)
def ProcV (s : Sys) (f : Nat → Bool) (lf : Int → Bool) (i : Int) : Prop := ∀ c ∈ s.cons, c.kind ≠ 4 → c.b = i → DoneV f lf c
theorem DoneV.mono {f f' : Nat → Bool} {lf lf' : Int → Bool} {c : Con} (h : DoneV f lf c) (hf : ∀ i, f i = true → f' i = true) (hl : ∀ x, lf x = true → lf' x = true) : DoneV f' lf' c :=
  fun k1 => ⟨hf _ (h k1).1, fun k3 => hl _ ((h k1).2 k3)⟩
theorem ProcV.mono {s : Sys} {f f' : Nat → Bool} {lf lf' : Int → Bool} {i : Int} (h : ProcV s f lf i) (hf : ∀ i, f i = true → f' i = true) (hl : ∀ x, lf x = true → lf' x = true) : ProcV s f' lf' i :=
  fun c hc k4 e => (h c hc k4 e).mono hf hl
/-- what holds while variable b (if any) is worked on, of which the constraints Ld are done; the fields in lc are closed -/
structure QInv (s : Sys) (v : Int) (a : NSt) (lf : Int → Bool) (b : Option Int) (Ld : List Con) (lc : Int → Prop) : Prop where
  start : a.1 v.toNat = true
  sound : ∀ i : Nat, a.1 i = true → Vis s v (i : Int)
  wsub : ∀ x ∈ a.2, Vis s v x ∧ a.1 x.toNat = true
  lsound : ∀ x, lf x = true → LoadsF s v x
  lclosed : ∀ x, lc x → ∀ k ∈ s.cons, k.kind = 4 → k.field = x → a.1 k.a.toNat = true ∧ a.1 k.b.toNat = true
  proc : ∀ i : Nat, a.1 i = true → (i : Int) ∈ a.2 ∨ ProcV s a.1 lf (i : Int) ∨ b = some (i : Int)
  done : ∀ c ∈ Ld, DoneV a.1 lf c
theorem QInv.need {s : Sys} {v : Int} {n : Nat} {a a' : NSt} {lf : Int → Bool} {b : Option Int} {Ld : List Con} {lc : Int → Prop} {l : List Int} (h : QInv s v a lf b Ld lc) (hs : NStep n l a a') (hl : ∀ x ∈ l, Vis s v x) (_hl0 : ∀ x ∈ l, 0 ≤ x) : QInv s v a' lf b Ld lc := by
  obtain ⟨add, e1, e2, e3⟩ := hs.work
  refine ⟨hs.mono _ h.start, fun i hi => ?_, fun x hx => ?_, h.lsound, fun x hx k hk k4 kf => ?_, fun i hi => ?_, fun c hc => (h.done c hc).mono hs.mono fun _ h => h⟩
  · rcases e3 i hi with h1 | h1
    · exact h.sound i h1
    · exact hl _ (e2 _ h1).1
  · rw [e1] at hx
    rcases List.mem_append.1 hx with hx | hx
    · exact ⟨(h.wsub x hx).1, hs.mono _ (h.wsub x hx).2⟩
    · exact ⟨hl _ (e2 _ hx).1, (e2 _ hx).2⟩
  · obtain ⟨q1, q2⟩ := h.lclosed x hx k hk k4 kf
    exact ⟨hs.mono _ q1, hs.mono _ q2⟩
  · rcases e3 i hi with h1 | h1
    · rcases h.proc i h1 with h2 | h2 | h2
      · exact .inl (by rw [e1]; exact List.mem_append_left _ h2)
      · exact .inr (.inl (h2.mono hs.mono fun _ h => h))
      · exact .inr (.inr h2)
    · exact .inl (by rw [e1]; exact List.mem_append_right _ h1)
theorem QInv.load {s : Sys} {v : Int} {a : NSt} {lf : Int → Bool} {b : Option Int} {Ld : List Con} {lc : Int → Prop} (h : QInv s v a lf b Ld lc) {fd : Int} (hl : LoadsF s v fd) : QInv s v a (fun x => if x = fd then true else lf x) b Ld lc := by
  have hm : ∀ x, lf x = true → (fun x => if x = fd then true else lf x) x = true := fun x hx => by
    show (if x = fd then true else lf x) = true
    split <;> first | rfl | exact hx
  refine ⟨h.start, h.sound, h.wsub, fun x hx => ?_, h.lclosed, fun i hi => ?_, fun c hc => (h.done c hc).mono (fun _ h => h) hm⟩
  · by_cases e : x = fd
    · rw [e]; exact hl
    · have : (if x = fd then true else lf x) = true := hx
      rw [if_neg e] at this; exact h.lsound x this
  · rcases h.proc i hi with h2 | h2 | h2
    · exact .inl h2
    · exact .inr (.inl (h2.mono (fun _ h => h) hm))
    · exact .inr (.inr h2)
theorem QInv.close {s : Sys} {v : Int} {a : NSt} {lf : Int → Bool} {b : Option Int} {Ld : List Con} {lc lc' : Int → Prop} (h : QInv s v a lf b Ld lc) (hc : ∀ x, lc' x → lc x ∨ ∀ k ∈ s.cons, k.kind = 4 → k.field = x → a.1 k.a.toNat = true ∧ a.1 k.b.toNat = true) : QInv s v a lf b Ld lc' :=
  ⟨h.start, h.sound, h.wsub, h.lsound, fun x hx => (hc x hx).elim (h.lclosed x) fun e => e, h.proc, h.done⟩
theorem QInv.add {s : Sys} {v : Int} {a : NSt} {lf : Int → Bool} {b : Option Int} {Ld : List Con} {lc : Int → Prop} (h : QInv s v a lf b Ld lc) {c : Con} (hd : DoneV a.1 lf c) : QInv s v a lf b (Ld ++ [c]) lc :=
  ⟨h.start, h.sound, h.wsub, h.lsound, h.lclosed, h.proc, fun d hdd => (List.mem_append.1 hdd).elim (h.done d) fun e => by rw [List.mem_singleton.1 e]; exact hd⟩
theorem QInv.pop {s : Sys} {v : Int} {f : Nat → Bool} {ws : List Int} {b : Int} {lf : Int → Bool} {lc : Int → Prop} (h : QInv s v (f, ws ++ [b]) lf none [] lc) : QInv s v (f, ws) lf (some b) [] lc :=
  ⟨h.start, h.sound, fun x hx => h.wsub x (List.mem_append_left _ hx), h.lsound, h.lclosed, (fun i hi => by
    rcases h.proc i hi with h2 | h2 | h2
    · rcases List.mem_append.1 h2 with h3 | h3
      · exact .inl h3
      · exact .inr (.inr (by rw [List.mem_singleton.1 h3]))
    · exact .inr (.inl h2)
    · cases h2), fun c hc => by cases hc⟩
theorem QInv.finish {s : Sys} {v : Int} {a : NSt} {lf : Int → Bool} {b : Int} {Ld : List Con} {lc : Int → Prop} (h : QInv s v a lf (some b) Ld lc) (hall : ∀ c ∈ s.cons, c.kind ≠ 4 → c.b = b → c ∈ Ld) : QInv s v a lf none [] lc :=
  ⟨h.start, h.sound, h.wsub, h.lsound, h.lclosed, (fun i hi => by
    rcases h.proc i hi with h2 | h2 | h2
    · exact .inl h2
    · exact .inr (.inl h2)
    · refine .inr (.inl fun c hc k4 e => h.done c (hall c hc k4 ?_))
      injection h2 with h2
      rw [e, h2]), fun c hc => by cases hc⟩
theorem QInv.end_ {s : Sys} {v : Int} {f : Nat → Bool} {lf : Int → Bool} (h : QInv s v (f, []) lf none [] (fun x => lf x = true)) (hE : checkE s = 0) (hv : 0 ≤ v) : f = vis s v ∧ lf = loadsV s v := by
  have ok := check_ok hE
  have hp : ∀ i : Int, 0 ≤ i → f i.toNat = true → ProcV s f lf i := fun i i0 hi => by
    rcases h.proc i.toNat hi with h2 | h2 | h2
    · cases h2
    · rw [Int.toNat_of_nonneg i0] at h2; exact h2
    · cases h2
  have hsh : Shut s v (fun i => 0 ≤ i ∧ f i.toNat = true) := by
    refine ⟨⟨hv, h.start⟩, fun c hc k1 k4 hb => ?_, fun c hc k3 hb k hk k4 hf => ?_⟩
    · have co := (con_ok (ok.cons c hc)).a
      rw [if_neg k1] at co
      exact ⟨co.1, (hp _ hb.1 hb.2 c hc k4 rfl k1).1⟩
    · have hl := (hp _ hb.1 hb.2 c hc (by omega) rfl (by omega)).2 k3
      have co := con_ok (ok.cons k hk)
      have ca := co.a
      rw [if_neg (by omega)] at ca
      obtain ⟨q1, q2⟩ := h.lclosed c.field hl k hk k4 hf
      exact ⟨⟨ca.1, q1⟩, co.b.1, q2⟩
  have e1 : f = vis s v := by
    funext i
    rw [Bool.eq_iff_iff, vis_iff]
    constructor
    · exact h.sound i
    · intro hi
      have := (hsh.all _ hi).2
      rw [Int.toNat_natCast] at this; exact this
  refine ⟨e1, ?_⟩
  funext x
  rw [Bool.eq_iff_iff, loadsV_iff]
  constructor
  · exact h.lsound x
  · rintro ⟨c, hc, k3, hb, rfl⟩
    have := hsh.all _ hb
    exact (hp _ this.1 this.2 c hc (by omega) rfl (by omega)).2 k3
/-- a row of constraints in memory, read -/
theorem row_form {B : Nat} {w : World} {v : Value} {es : List Ent} (hown : w.ownsRow B 39 5 v es.length (es.flatMap conCells)) : ∃ A c, v = .slice A es.length c ∧
    ∀ q e, es[q]? = some e → ∃ g, A = some ⟨g, 0, none⟩ ∧ ∀ j u, (conCells e)[j]? = some u → j < 5 → w.cell? ⟨g, q * 5 + j, none⟩ = some u := by
  rcases hown.2 with ⟨rfl, h0⟩ | ⟨g, cap, cur, rfl, _, hh, _⟩
  · have : es = [] := List.length_eq_zero_iff.1 h0
    subst this
    exact ⟨none, 0, rfl, fun q e he => by simp at he⟩
  · refine ⟨some ⟨g, 0, none⟩, cap, rfl, fun q e he => ⟨g, rfl, fun j u hu hj => ?_⟩⟩
    have := World.ownsRow.cells hown (g := g) rfl (q * 5 + j) u (by rw [flat_get es q j e he hj, hu])
    rw [add_blk] at this; exact this
end Go.Proofs.YtcfiohphjlohhaaDoor

/- demand.visit: what its work list keeps in memory. -/
namespace Go.Proofs.YtcfiohphjlohhaaDoor
open Go.RowKit

theorem Only.after {S T : Nat → Prop} {w w' w2 : World} (h : Only S w w') (k : Only T w' w2) (ht : ∀ j, j < w.heap.size → T j → S j) : Only S w w2 :=
  ⟨k.os.trans h.os, k.tape.trans h.tape, k.output.trans h.output, Nat.le_trans h.size k.size, fun i hi hs => (k.block i (Nat.lt_of_lt_of_le hi h.size) fun e => hs (ht i hi e)).trans (h.block i hi hs)⟩
theorem NMem.below {w w' : World} {n r gs gw B : Nat} {a : NSt} {v : Value} (h : NMem w n r gs gw B a v) (hb : Below w.heap.size w w') : NMem w' n r gs gw B a v :=
  ⟨h.s.below hb, h.r.below hb, h.g.below hb, own_below h.o hb⟩
/-- the state of the work list -/
structure VSt6 (w6 w : World) (n gs : Nat) (a : NSt) (vv : Value) (lfm : Int → Option Value) : Prop where
  only : Only (isB gs) w6 w
  mem : NMem w n w6.heap.size gs (w6.heap.size + 1 + 1) w6.heap.size a vv
  map : IMap w (w6.heap.size + 1) lfm
theorem VSt6.below {w6 w w' : World} {n gs : Nat} {a : NSt} {vv : Value} {lfm : Int → Option Value} (h : VSt6 w6 w n gs a vv lfm) (hb : Below w.heap.size w w') : VSt6 w6 w' n gs a vv lfm :=
  ⟨h.only.trans (Only.of_below hb _), h.mem.below hb, h.map.below hb⟩
theorem VSt6.turn {w6 w : World} {n gs : Nat} {a : NSt} {vv : Value} {lfm : Int → Option Value} (h : VSt6 w6 w n gs a vv lfm) : ∀ j, j < w6.heap.size → ¬ nTurn w6.heap.size (w6.heap.size + 1 + 1) vv j := fun j hj e => by
  rcases e with e | e | e
  · omega
  · omega
  · have := (World.ownsRow.lt h.mem.o j e).1; omega
theorem VSt6.need {w6 w w' : World} {n gs : Nat} {a a' : NSt} {vv v' : Value} {lfm : Int → Option Value} (h : VSt6 w6 w n gs a vv lfm) (hm : NMem w' n w6.heap.size gs (w6.heap.size + 1 + 1) w6.heap.size a' v') (ho : Only (nTurn w6.heap.size (w6.heap.size + 1 + 1) vv) w w') : VSt6 w6 w' n gs a' v' lfm :=
  ⟨h.only.after ho fun j hj e => absurd e (h.turn j hj), hm, h.map.only ho fun e => by
    rcases e with e | e | e
    · omega
    · omega
    · exact own_ne_map h.mem.o h.map e.symm⟩
theorem VSt6.store {w6 w w' : World} {n gs : Nat} {a : NSt} {vv : Value} {lfm lfm' : Int → Option Value} (h : VSt6 w6 w n gs a vv lfm) (hm : IMap w' (w6.heap.size + 1) lfm') (ho : Only (isB (w6.heap.size + 1)) w w') : VSt6 w6 w' n gs a vv lfm' :=
  ⟨h.only.after ho fun j hj e => by have e : j = w6.heap.size + 1 := e; omega,
   ⟨h.mem.s.only ho (map_ne_blk h.mem.s h.map), h.mem.r.only ho (map_ne_blk h.mem.r h.map), h.mem.g.only ho (map_ne_blk h.mem.g h.map), own_of h.mem.o fun g hg => ho.block g (World.ownsRow.lt h.mem.o g hg).2 fun e => by
     have e : g = w6.heap.size + 1 := e
     subst e
     exact own_ne_map h.mem.o h.map hg.symm⟩, hm⟩
theorem VSt6.keep {w6 w w' : World} {n gs : Nat} {a : NSt} {vv : Value} {lfm : Int → Option Value} (h : VSt6 w6 w n gs a vv lfm) (ho : Only (nTurn w6.heap.size (w6.heap.size + 1 + 1) vv) w w') {k : Nat} {t : TypeId} {cs : Array Value} (hk : Blk w k t cs) (h4 : t ≠ 4) (h37 : t ≠ 37) (h3 : 3 ≠ t) : Blk w' k t cs :=
  hk.only ho fun e => by
    rcases e with e | e | e
    · exact blk_ne hk h.mem.r h4 e
    · exact blk_ne hk h.mem.g h37 e
    · exact own_ne_blk h.mem.o hk h3 e.symm
/-- the closure's contract at such a state -/
theorem VSt6.call {w6 w : World} {n gs gl c : Nat} {a : NSt} {vv : Value} {lfm : Int → Option Value} {l : List Int} (h : VSt6 w6 w n gs a vv lfm) (hl : Blk w gl 3 (l.map (Value.int .i64)).toArray) (hg : ∀ g, vv.ownBlock = some g → g < gl) (hr : ∀ x ∈ l, 0 ≤ x ∧ x < (n : Int)) (hn : a.2.length + l.length ≤ 200000) :
    Calls Tryd.prog 80 #[.slice (some ⟨gl, 0, none⟩) l.length c, .pointer (some ⟨gs, 0, none⟩), .pointer (some ⟨w6.heap.size + 1 + 1, 0, none⟩)] w (NeedP w n w6.heap.size gs (w6.heap.size + 1 + 1) w6.heap.size l a vv) :=
  need_any n w6.heap.size gs (w6.heap.size + 1 + 1) gl w6.heap.size c l a vv w h.mem hl (fun e => by have := hg gl e; omega) hr hn h.only.size
/-- one less at the end -/
theorem own_pop {B : Nat} {w : World} {g cap : Nat} {ws : List Int} {b : Int} (h : OwnInts B w (.slice (some ⟨g, 0, none⟩) (ws ++ [b]).length cap) (ws ++ [b])) : OwnInts B w (.slice (some ⟨g, 0, none⟩) ws.length cap) ws := by
  refine ⟨by simp, ?_⟩
  rcases h.2 with ⟨e, _⟩ | ⟨g', cap', cur, e, hg, hh, h1, h2, h3, h4⟩
  · cases e
  · injection e with e1 e2 e3
    injection e1 with e1
    injection e1 with e1
    subst e1; subst e3
    refine .inr ⟨g, cap, cur, rfl, hg, hh, ?_, h2, h3, ?_⟩
    · rw [List.length_append] at h1; simp at h1; omega
    · have h5 := congrArg (List.take ws.length) h4
      rw [List.take_take, List.map_append, List.take_append_of_le_length (by simp)] at h5
      have h6 : (ws.map (Value.int .i64)).take ws.length = ws.map (Value.int .i64) := by rw [List.take_of_length_le (by simp)]
      rw [h6] at h5
      rw [Nat.mul_one, ← h5]
      congr 1
      simp
theorem last_of {ws : List Int} (h : ws.length ≠ 0) : ∃ ws0 b, ws = ws0 ++ [b] :=
  ⟨ws.dropLast, ws.getLast (fun e => h (by rw [e]; rfl)), (List.dropLast_concat_getLast _).symm⟩
end Go.Proofs.YtcfiohphjlohhaaDoor
