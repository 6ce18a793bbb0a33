/- A list of constraints that grows by append: what the law AndersenOrder builds. -/
import Derived.Test.YtcfiohphjlohhaaDoorT41
namespace Go.Proofs.YtcfiohphjlohhaaDoor
open Go.RowKit

/-- a constraint's cells -/
abbrev conCells (e : Con × Option Addr × Nat) : List Value := [.int .i64 e.1.kind, .int .i64 e.1.a, .int .i64 e.1.b, .int .i64 e.1.field, .slice e.2.1 e.1.set.length e.2.2]
theorem flat_get : ∀ (es : List (Con × Option Addr × Nat)) (i j : Nat) (e : Con × Option Addr × Nat), es[i]? = some e → j < 5 → (es.flatMap conCells)[i * 5 + j]? = (conCells e)[j]?
  | [], i, j, e, he, _ => by simp at he
  | a :: es, 0, j, e, he, hj => by
    obtain rfl : a = e := by simpa using he
    rw [List.flatMap_cons, Nat.zero_mul, Nat.zero_add, List.getElem?_append_left (by simpa using hj)]
  | a :: es, i + 1, j, e, he, hj => by
    rw [List.flatMap_cons, List.getElem?_append_right (by simp; omega)]
    have e1 : (i + 1) * 5 + j - (conCells a).length = i * 5 + j := by simp; omega
    rw [e1]
    exact flat_get es i j e (by simpa using he) hj
theorem add_blk (g n : Nat) : (⟨g, 0, none⟩ : Addr).add n = ⟨g, n, none⟩ := by unfold Addr.add; split <;> simp_all

theorem info39 : (Tryd.prog.info? 39).map (fun i => (i.zero, i.size, i.bytes)) = some (some (.agg #[.int .i64 0, .int .i64 0, .int .i64 0, .int .i64 0, .slice none 0 0]), 5, 56) := by kernel_rfl
/-- append of one constraint, as a step of a region that draws -/
theorem step_append5 {w : World} {ops : Array Oper} {o : Oper} {a : Act} {K : Act → World → Prop} {Q : Exit → Act → World → Prop} {E : Prop} (hgd : o.guard = none) (s x : Operand) (i : TypeInfo) (z : Value)
    (ho : o.op = .call { callee := .builtin .append, args := #[s, x], argTypes := #[22, 22] }) (hi : Tryd.prog.info? 39 = some i) (hz : i.zero = some z ∧ i.size = 5 ∧ i.bytes = 56) (hzs : z.cells.size = 5)
    (base : Nat) (v : Value) (n : Nat) (xs : List Value) (hs : a.eval s = v) (hown : w.ownsRow base 39 5 v n xs) (N c : Nat) (e : Con × Option Addr × Nat) (hx : a.eval x = .slice (some ⟨N, 0, none⟩) 1 c) (hu : Blk w N 39 #[.int .i64 e.1.kind, .int .i64 e.1.a, .int .i64 e.1.b, .int .i64 e.1.field, .slice e.2.1 e.1.set.length e.2.2])
    (hn : n ≤ 200000) (hbase : base ≤ w.heap.size)
    (h : ∀ g cap w', w'.ownsRow base 39 5 (.slice (some ⟨g, 0, none⟩) (n + 1) cap) (n + 1) (xs ++ conCells e) → w.grownBy w' v.ownBlock → (v.ownBlock = some g ∨ g = w.heap.size) → g < w'.heap.size → K (a.put o.dst (.slice (some ⟨g, 0, none⟩) (n + 1) cap)) w') :
    if Region.wanted o (yielded ops a.tmps) = true then Oper.wp Tryd.prog o a w K Q else E :=
  step_append_lies w hgd s x 22 ho base 39 i z 5 56 Tryd.underlying22 hi hz.1 hz.2.1 hz.2.2 hzs (by decide) v n xs hs hown ⟨N, 0, none⟩ 1 c (conCells e) hx rfl
    (fun j u' hj => by
      rw [add_blk, hu.cell j]
      rw [← hj]; simp)
    (fun u' hu' => by
      simp only [conCells, List.mem_cons, List.not_mem_nil, or_false] at hu'
      rcases hu' with rfl | rfl | rfl | rfl | rfl <;> rfl) Nat.one_pos (by unfold maxLen; omega) (by omega) hbase _ rfl h

/-- the new system while its list is made -/
structure MadeT (w5 w : World) (s : Sys) (v : Value) (es : List (Con × Option Addr × Nat)) : Prop where
  B : Below w5.heap.size w5 w
  blk : Blk w w5.heap.size 24 #[.int .i64 s.vars, .int .i64 s.sites, .int .i64 s.fields, v]
  own : w.ownsRow w5.heap.size 39 5 v es.length (es.flatMap conCells)
  ints : ∀ e ∈ es, Ints w5 e.2.1 e.1.set
theorem MadeT.start (w5 : World) (s : Sys) : MadeT w5 (w5.alloc (.cells #[.int .i64 s.vars, .int .i64 s.sites, .int .i64 s.fields, .slice none 0 0] 24)) s (.slice none 0 0) [] :=
  ⟨(Below.refl _ _).alloc (Nat.le_refl _) _, Blk.new _ _ _, World.ownsRow_nil _ _ _ _, fun e he => by cases he⟩
theorem MadeT.step {w5 w w2 : World} {s : Sys} {v : Value} {es : List (Con × Option Addr × Nat)} {e : Con × Option Addr × Nat} {g cap : Nat} (h : MadeT w5 w s v es) (hi : Ints w5 e.2.1 e.1.set)
    (hown : w2.ownsRow w5.heap.size 39 5 (.slice (some ⟨g, 0, none⟩) (es.length + 1) cap) (es.length + 1) (es.flatMap conCells ++ conCells e))
    (hgrow : (w.drew.alloc (.cells #[.int .i64 e.1.kind, .int .i64 e.1.a, .int .i64 e.1.b, .int .i64 e.1.field, .slice e.2.1 e.1.set.length e.2.2] 39)).grownBy w2 v.ownBlock) :
    MadeT w5 (w2.setCell ⟨w5.heap.size, 3, none⟩ (.slice (some ⟨g, 0, none⟩) (es.length + 1) cap)) s (.slice (some ⟨g, 0, none⟩) (es.length + 1) cap) (es ++ [e]) := by
  have hb2 : Below w.drew.heap.size w.drew (w.drew.alloc (.cells #[.int .i64 e.1.kind, .int .i64 e.1.a, .int .i64 e.1.b, .int .i64 e.1.field, .slice e.2.1 e.1.set.length e.2.2] 39)) := (Below.refl _ _).alloc (Nat.le_refl _) _
  have nT := own_ne_blk h.own h.blk (by decide)
  have bT : Blk w2 w5.heap.size 24 _ := (Blk.below (w := w.drew) h.blk hb2).grown hgrow nT
  have hTg : some (⟨w5.heap.size, 3, none⟩ : Addr).block ≠ (Value.slice (some ⟨g, 0, none⟩) (es.length + 1) cap).ownBlock := own_ne_blk hown bT (by decide)
  have hsz := h.B.size
  refine ⟨?_, bT.set_ 3 _, ?_, fun x hx => ?_⟩
  · have e1 : Below w5.heap.size w (w.drew.alloc (.cells #[.int .i64 e.1.kind, .int .i64 e.1.a, .int .i64 e.1.b, .int .i64 e.1.field, .slice e.2.1 e.1.set.length e.2.2] 39)) := below_un_drew (hb2.mono hsz)
    exact h.B.trans ((e1.grown hgrow (by have := e1.size; omega) fun j hj => (World.ownsRow.lt h.own j hj).1).setCell (p := ⟨w5.heap.size, 3, none⟩) (Nat.le_refl _) _)
  · rw [List.length_append, List.flatMap_append]
    simp only [List.flatMap_cons, List.flatMap_nil, List.append_nil, List.length_cons, List.length_nil, Nat.zero_add]
    exact own_far hown hTg _
  · rcases List.mem_append.1 hx with hx | hx
    · exact h.ints x hx
    · rw [List.mem_singleton.1 hx]; exact hi
/-- the list made, as constraints in memory -/
theorem MadeT.cons {w5 w : World} {s : Sys} {v : Value} {es : List (Con × Option Addr × Nat)} (h : MadeT w5 w s v es) (hl : es.length ≤ 1000000) : ∃ a c, v = .slice a (es.map (·.1)).length c ∧ Cons w a (es.map (·.1)) := by
  rcases h.own.2 with ⟨rfl, h0⟩ | ⟨g, cap, cur, rfl, _, hh, _⟩
  · have : es = [] := List.length_eq_zero_iff.1 h0
    subst this
    exact ⟨none, 0, rfl, ⟨by unfold LenOk; simp, fun i x hi => by simp at hi⟩⟩
  · refine ⟨some ⟨g, 0, none⟩, cap, by rw [List.length_map], ⟨by unfold LenOk; rw [List.length_map]; omega, fun i c hi => ?_⟩⟩
    rw [List.getElem?_map] at hi
    cases he : es[i]? with
    | none => rw [he] at hi; cases hi
    | some e =>
      rw [he] at hi
      obtain rfl : e.1 = c := by simpa using hi
      have hc : ∀ j u, (conCells e)[j]? = some u → j < 5 → w.cell? ⟨g, 0 + i * 5 + j, none⟩ = some u := fun j u hu hj => by
        have := World.ownsRow.cells h.own (g := g) rfl (i * 5 + j) u (by rw [flat_get es i j e he hj, hu])
        rw [add_blk] at this
        rw [Nat.zero_add]; exact this
      exact ⟨g, 0, e.2.1, e.2.2, rfl, hc 0 _ rfl (by decide), hc 1 _ rfl (by decide), hc 2 _ rfl (by decide), hc 3 _ rfl (by decide), hc 4 _ rfl (by decide), (h.ints e (List.mem_of_getElem? he)).below h.B⟩
end Go.Proofs.YtcfiohphjlohhaaDoor
