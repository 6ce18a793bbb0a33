/- dataflowref18.Solve: the rows are made. -/
import Derived.Test.YtcfiohphjlohhaaDoorM1
import Derived.Test.YtcfiohphjlohhaaDoorT14
import Derived.Deep.RegionLaw
import Derived.Deep.OwnRows
namespace Go.Proofs.YtcfiohphjlohhaaDoor
open Go.RowKit

/-- append of one element of one cell, as a step of a region that draws -/
theorem step_append1 {P : Program} {w : World} {ops : Array Oper} {o : Oper} {a : Act} {K : Act → World → Prop} {Q : Exit → Act → World → Prop} {E : Prop} (hgd : o.guard = none) (s x : Operand) (t e : TypeId) (i : TypeInfo) (bytes : Nat) (z : Value)
    (ho : o.op = .call { callee := .builtin .append, args := #[s, x], argTypes := #[t, t] }) (ht : P.underlying t = some (.slice e)) (hi : P.info? e = some i) (hz : i.zero = some z ∧ i.size = 1 ∧ i.bytes = bytes) (hzs : z.cells.size = 1)
    (base : Nat) (v : Value) (n : Nat) (xs : List Value) (hs : a.eval s = v) (hown : w.ownsRow base e 1 v n xs) (N c : Nat) (u : Value) (hx : a.eval x = .slice (some ⟨N, 0, none⟩) 1 c) (hu : w.cell? ⟨N, 0, none⟩ = some u) (h1 : u.oneCell' = true)
    (hn : n ≤ 200000) (hby : bytes ≤ 24) (hbase : base ≤ w.heap.size)
    (h : ∀ g cap w', w'.ownsRow base e 1 (.slice (some ⟨g, 0, none⟩) (n + 1) cap) (n + 1) (xs ++ [u]) → w.grownBy w' v.ownBlock → (v.ownBlock = some g ∨ g = w.heap.size) → g < w'.heap.size → K (a.put o.dst (.slice (some ⟨g, 0, none⟩) (n + 1) cap)) w') :
    if Region.wanted o (yielded ops a.tmps) = true then Oper.wp P o a w K Q else E :=
  step_append_lies w hgd s x t ho base e i z 1 bytes ht hi hz.1 hz.2.1 hz.2.2 hzs Nat.one_pos v n xs hs hown ⟨N, 0, none⟩ 1 c [u] hx rfl
    (fun j u' hj => by
      match j, hj with
      | 0, hj => obtain rfl := Option.some.inj hj; exact hu)
    (fun u' hu' => by rw [List.mem_singleton.1 hu']; exact h1) Nat.one_pos (by unfold maxLen; omega) (by
      have : (n + 1) * bytes ≤ (n + 1) * 24 := Nat.mul_le_mul_left _ hby
      omega) hbase _ rfl h

/-- the table while its rows are made: k of them -/
structure Made (w : World) (B : Nat) (s : Sys) (T : Nat) (aS : Option Addr) (cS n k : Nat) (hv : Value) (R : List Nat) : Prop where
  BT : B ≤ T
  blk : Blk w T 56 #[.int .i64 s.vars, .int .i64 s.sites, .int .i64 s.fields, .slice aS s.cons.length cS, hv, .bool true]
  own : w.ownsRow B 57 1 hv k (R.map fun r => .slice (some ⟨r, 0, none⟩) n n)
  len : R.length = k
  rows : ∀ r ∈ R, B ≤ r ∧ Blk w r 4 (rowCells n fun _ => false)
  nd : R.Nodup
theorem madeCells_false (n : Nat) : madeCells #[.bool false] n = rowCells n fun _ => false := by
  apply Array.ext_getElem?
  intro i
  unfold madeCells rowCells
  by_cases h : i < n
  · simp [h, Nat.mod_one]
  · simp [h]

theorem make_bools {s : Sys} {n : Nat} (hn : s.sites = n) (h : n ≤ 1024) (w : World) :
    (Instr.makeSlice 57 (.int .i64 s.sites) (.int .i64 s.sites)).run Tryd.prog w = .ok (.slice (some ⟨w.heap.size, 0, none⟩) n n) (w.alloc (.cells (rowCells n fun _ => false) 4)) := by
  rw [hn, ← madeCells_false]
  exact run_make_row' (P := Tryd.prog) 57 4 (.bool false) 1 Tryd.underlying57 info4 rfl .i64 .i64 n (by omega) (by omega) w

theorem size_box2 {B : Nat} {w w1 : World} {o o2 : Obj} (hb : Below B ((w.alloc o).alloc o2) w1) : w.heap.size < w1.heap.size ∧ w.heap.size + 1 < w1.heap.size := by
  have := hb.size
  simp at this
  omega
theorem own_ne_blk {w : World} {base : Nat} {e : TypeId} {size n : Nat} {v : Value} {xs : List Value} (h : w.ownsRow base e size v n xs) {g : Nat} {t : TypeId} {cs : Array Value} (hg : Blk w g t cs) (hne : e ≠ t) : some g ≠ v.ownBlock := by
  intro he
  rcases h.2 with ⟨rfl, _⟩ | ⟨g', cap, cur, rfl, _, hh, _⟩
  · simp [Value.ownBlock] at he
  · have : g = g' := by simpa [Value.ownBlock] using he
    subst this
    unfold Blk at hg
    rw [hh] at hg
    injection hg with hg
    injection hg with _ ht
    exact hne ht
theorem Blk.grown {w w' : World} {g : Nat} {t : TypeId} {cs : Array Value} {row : Option Nat} (h : Blk w g t cs) (hb : w.grownBy w' row) (hg : some g ≠ row) : Blk w' g t cs := (hb.block g h.lt hg).trans h
theorem info54 : (Tryd.prog.info? 54).map (fun i => (i.zero, i.size, i.bytes)) = some (some (.slice none 0 0), 1, 24) := by kernel_rfl


/-! ### what the call owns, kept -/
theorem own_base {w : World} {B B' : Nat} {e : TypeId} {size n : Nat} {v : Value} {xs : List Value} (h : w.ownsRow B e size v n xs) (hB : B' ≤ B) : w.ownsRow B' e size v n xs := by
  refine ⟨h.1, ?_⟩
  rcases h.2 with h2 | ⟨g, cap, cur, hv, hg, r⟩
  · exact .inl h2
  · exact .inr ⟨g, cap, cur, hv, Nat.le_trans hB hg, r⟩
theorem own_of {w w' : World} {B : Nat} {e : TypeId} {size n : Nat} {v : Value} {xs : List Value} (h : w.ownsRow B e size v n xs) (hk : ∀ g, v.ownBlock = some g → w'.heap[g]? = w.heap[g]?) : w'.ownsRow B e size v n xs := by
  refine ⟨h.1, ?_⟩
  rcases h.2 with h2 | ⟨g, cap, cur, hv, hg, hh, r⟩
  · exact .inl h2
  · exact .inr ⟨g, cap, cur, hv, hg, (hk g (by rw [hv]; rfl)).trans hh, r⟩
theorem own_below {w w' : World} {B : Nat} {e : TypeId} {size n : Nat} {v : Value} {xs : List Value} (h : w.ownsRow B e size v n xs) (hb : Below w.heap.size w w') : w'.ownsRow B e size v n xs :=
  own_of h fun g hg => hb.block g (World.ownsRow.lt h g hg).2
theorem own_far {w : World} {B : Nat} {e : TypeId} {size n : Nat} {v : Value} {xs : List Value} (h : w.ownsRow B e size v n xs) {p : Addr} (hp : some p.block ≠ v.ownBlock) (u : Value) : (w.setCell p u).ownsRow B e size v n xs :=
  own_of h fun g hg => Below.heap_setCell w p u g fun e => hp (by rw [hg, e])
theorem own_own_ne {w : World} {B B' : Nat} {e e' : TypeId} {size size' n n' : Nat} {v v' : Value} {xs xs' : List Value} (h : w.ownsRow B e size v n xs) (h' : w.ownsRow B' e' size' v' n' xs') (hne : e ≠ e') {g : Nat} (h1 : v.ownBlock = some g) : v'.ownBlock ≠ some g := by
  intro h2
  rcases h.2 with ⟨rfl, _⟩ | ⟨g1, _, _, rfl, _, hh, _⟩
  · cases h1
  rcases h'.2 with ⟨rfl, _⟩ | ⟨g2, _, _, rfl, _, hh', _⟩
  · cases h2
  have e1 : g1 = g := by simpa [Value.ownBlock] using h1
  have e2 : g2 = g := by simpa [Value.ownBlock] using h2
  rw [e1] at hh
  rw [e2] at hh'
  rw [hh] at hh'
  injection hh' with hh'
  injection hh' with _ ht
  exact hne ht

theorem Made.step {w w2 : World} {B : Nat} {s : Sys} {T : Nat} {aS : Option Addr} {cS n k : Nat} {hv : Value} {R : List Nat} (h : Made w B s T aS cS n k hv R) (hBw : B ≤ w.heap.size) {g cap : Nat}
    (hown : w2.ownsRow B 57 1 (.slice (some ⟨g, 0, none⟩) (k + 1) cap) (k + 1) ((R.map fun r => .slice (some ⟨r, 0, none⟩) n n) ++ [.slice (some ⟨w.heap.size, 0, none⟩) n n]))
    (hgrow : (((w.drew.alloc (.cells (rowCells n fun _ => false) 4)).alloc (.cells #[.slice (some ⟨w.heap.size, 0, none⟩) n n] 57))).grownBy w2 hv.ownBlock) :
    Made (w2.setCell ⟨T, 4, none⟩ (.slice (some ⟨g, 0, none⟩) (k + 1) cap)) B s T aS cS n (k + 1) (.slice (some ⟨g, 0, none⟩) (k + 1) cap) (R ++ [w.heap.size]) ∧ Below B w (w2.setCell ⟨T, 4, none⟩ (.slice (some ⟨g, 0, none⟩) (k + 1) cap)) := by
  have hb2 := below_two w.drew (.cells (rowCells n fun _ => false) 4) (.cells #[.slice (some ⟨w.heap.size, 0, none⟩) n n] 57)
  have nT := own_ne_blk h.own h.blk (by decide)
  have bT : Blk w2 T 56 _ := (Blk.below (w := w.drew) h.blk hb2).grown hgrow nT
  have keepR : ∀ r ∈ R, r ≠ T ∧ Blk w2 r 4 (rowCells n fun _ => false) := fun r hr => by
    obtain ⟨_, hb⟩ := h.rows r hr
    refine ⟨fun e => ?_, (Blk.below (w := w.drew) hb hb2).grown hgrow (own_ne_blk h.own hb (by decide))⟩
    subst e
    have h1 := h.blk
    unfold Blk at h1 hb
    rw [h1] at hb
    injection hb with hb
    injection hb with _ ht
    cases ht
  have hnew : Blk w2 w.heap.size 4 (rowCells n fun _ => false) := by
    have h1 : Blk (w.drew.alloc (.cells (rowCells n fun _ => false) 4)) w.heap.size 4 (rowCells n fun _ => false) := Blk.new w.drew 4 _
    have h2 := h1.below ((Below.refl _ _).alloc (Nat.le_refl _) (.cells #[.slice (some ⟨w.heap.size, 0, none⟩) n n] 57))
    refine h2.grown hgrow fun e => ?_
    have := (World.ownsRow.lt h.own w.heap.size e.symm).2
    omega
  have hTg : ∀ x, some (⟨T, x, none⟩ : Addr).block ≠ (Value.slice (some ⟨g, 0, none⟩) (k + 1) cap).ownBlock := fun x => own_ne_blk hown bT (by decide)
  have hTn : T ≠ w.heap.size := Nat.ne_of_lt h.blk.lt
  refine ⟨⟨h.BT, bT.set_ 4 _, ?_, by rw [List.length_append, h.len]; rfl, fun r hr => ?_, ?_⟩, ?_⟩
  · have := own_far hown (hTg 4) (.slice (some ⟨g, 0, none⟩) (k + 1) cap)
    rw [List.map_append]
    exact this
  · rcases List.mem_append.1 hr with hr | hr
    · exact ⟨(h.rows r hr).1, (keepR r hr).2.far (p := ⟨T, 4, none⟩) (keepR r hr).1 _⟩
    · rw [List.mem_singleton.1 hr]
      exact ⟨hBw, hnew.far (p := ⟨T, 4, none⟩) (Ne.symm hTn) _⟩
  · refine List.nodup_append.2 ⟨h.nd, by simp, fun a ha b hb => ?_⟩
    rw [List.mem_singleton.1 hb]
    exact Nat.ne_of_lt (h.rows a ha).2.lt
  · have hsz := hb2.size
    have e1 : Below B w ((w.drew.alloc (.cells (rowCells n fun _ => false) 4)).alloc (.cells #[.slice (some ⟨w.heap.size, 0, none⟩) n n] 57)) := below_un_drew (hb2.mono hBw)
    exact (e1.grown hgrow (by have := e1.size; omega) fun j hj => (World.ownsRow.lt h.own j hj).1).setCell (p := ⟨T, 4, none⟩) h.BT _

theorem Made.start (w : World) (s : Sys) (aS : Option Addr) (cS n : Nat) :
    Made (w.alloc (.cells #[.int .i64 s.vars, .int .i64 s.sites, .int .i64 s.fields, .slice aS s.cons.length cS, .slice none 0 0, .bool true] 56)) w.heap.size s w.heap.size aS cS n 0 (.slice none 0 0) [] :=
  ⟨Nat.le_refl _, Blk.new _ _ _, World.ownsRow_nil _ _ _ _, rfl, (fun r hr => by cases hr), List.nodup_nil⟩

/-- the rows are made: the table stands -/
theorem Made.tab {w : World} {B : Nat} {s : Sys} {T : Nat} {aS : Option Addr} {cS n k : Nat} {hv : Value} {R : List Nat} (h : Made w B s T aS cS n k hv R) (hn : s.sites = n) :
    ∃ t : TabAt, t.T = T ∧ t.n = n ∧ t.R.length = k ∧ (∀ j, t.own j → B ≤ j) ∧ Tab w s t (fun _ _ => false, true) := by
  have hTR : T ∉ R := fun hr => by
    have h1 := h.blk
    have h2 := (h.rows T hr).2
    unfold Blk at h1 h2
    rw [h1] at h2
    injection h2 with h2
    injection h2 with _ ht
    cases ht
  have hrows : ∀ j r, R[j]? = some r → Blk w r 4 (rowCells n fun _ => false) := fun j r hj => (h.rows r (List.mem_of_getElem? hj)).2
  have hown : ∀ j, j = T ∨ j ∈ R → B ≤ j := fun j hj => by
    rcases hj with rfl | hj
    · exact h.BT
    · exact (h.rows j hj).1
  by_cases hk : 0 < k
  · obtain ⟨g, cap, hf, hg, _⟩ := h.own.form hk
    have hcells := h.own.cells (g := g) (by rw [hf]; rfl)
    refine ⟨⟨T, hv, g, cap, aS, cS, n, R⟩, rfl, rfl, h.len, hown, hn, h.blk, fun _ => by rw [hf]; show _ = Value.slice _ R.length _; rw [h.len], fun j r hj => ?_, hrows, h.nd, hTR, fun hr => ?_, fun e => ?_⟩
    · have := hcells j (.slice (some ⟨r, 0, none⟩) n n) (by rw [List.getElem?_map, hj]; rfl)
      unfold Addr.add at this
      split at this
      · rename_i e0; subst e0; exact this
      · simpa using this
    · exact own_ne_blk h.own (h.rows g hr).2 (by decide) (by rw [hf]; rfl)
    · have e : T = g := e
      exact own_ne_blk h.own h.blk (by decide) (by rw [hf, e]; rfl)
  · have hR : R = [] := List.length_eq_zero_iff.1 (by rw [h.len]; omega)
    subst hR
    exact ⟨⟨T, hv, T + 1, 0, aS, cS, n, []⟩, rfl, rfl, h.len, hown, hn, h.blk, fun h0 => absurd h0 (Nat.lt_irrefl 0), fun j r hj => by simp at hj, fun j r hj => by simp at hj, List.nodup_nil, List.not_mem_nil, List.not_mem_nil, by show T ≠ T + 1; omega⟩
end Go.Proofs.YtcfiohphjlohhaaDoor
