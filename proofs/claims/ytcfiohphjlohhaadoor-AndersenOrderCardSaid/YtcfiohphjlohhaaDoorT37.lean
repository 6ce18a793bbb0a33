/- dataflowlaw18.awake -/
import Derived.Test.YtcfiohphjlohhaaDoorM4
import Derived.Laws.EntriesVeiled
namespace Go.Proofs.YtcfiohphjlohhaaDoor
open Go.RowKit

def kS1 : Sys := ⟨2, 1, 1, [⟨1, 0, 0, 0, []⟩, ⟨4, 0, 0, 0, []⟩, ⟨3, 0, 1, 0, []⟩]⟩
def kP1 : Pts := ⟨[[0], [0]], [[0]]⟩
def kP2 : Pts := ⟨[[0], []], [[0]]⟩
def kS2 : Sys := ⟨2, 0, 0, [⟨2, 0, 2, 0, []⟩]⟩
def kS5 : Sys := ⟨1, 1, 0, []⟩

theorem pre_one (f : Nat → Bool) : pre f 1 = if f 0 = true then [0] else [] := by
  rw [pre_succ]; rfl
theorem sol_kS1 {p : Pts} (h : SolOf kS1 p) : p = kP1 := by
  obtain ⟨m, hL, rfl⟩ := h.2 (by decide)
  have h1 : m 0 0 = true := hL.sat ⟨1, 0, 0, 0, []⟩ (by simp [kS1])
  have h2 : m 2 0 = true := hL.sat ⟨4, 0, 0, 0, []⟩ (by simp [kS1]) 0 (by decide) h1 0 (by decide) h1
  have h3 : m 1 0 = true := hL.sat ⟨3, 0, 1, 0, []⟩ (by simp [kS1]) 0 (by decide) h1 0 (by decide) h2
  show (⟨[pre (m 0) 1, pre (m 1) 1], [pre (m 2) 1]⟩ : Pts) = kP1
  rw [pre_one, pre_one, pre_one, h1, h2, h3]; rfl
theorem sol_kS5 {p : Pts} (h : SolOf kS5 p) : p = ⟨[[]], []⟩ := by
  obtain ⟨m, hL, rfl⟩ := h.2 (by decide)
  have h1 : m 0 0 = false := by
    cases e : m 0 0
    · rfl
    · exact Bool.noConfusion (show false = true from hL.least (fun _ _ => false) (fun c hc => by cases hc) 0 0 e)
  show (⟨[pre (m 0) 1], []⟩ : Pts) = ⟨[[]], []⟩
  rw [pre_one, h1]; rfl
theorem ints_nil (w : World) (n : Nat) : Ints w none [] := ⟨by unfold LenOk; simp, fun i x hi => by simp at hi⟩
theorem rows_nil (w : World) : Rows2 w none [] := ⟨by unfold LenOk; simp, fun i x hi => by simp at hi⟩
theorem cons_nil (w : World) : Cons w none [] := ⟨by unfold LenOk; simp, fun i x hi => by simp at hi⟩
theorem ints_blk1 {w : World} {g : Nat} {x : Int} (h : Blk w g 3 #[.int .i64 x]) : Ints w (some ⟨g, 0, none⟩) [x] := ⟨by unfold LenOk; simp, fun i y hi => by
  match i, hi with
  | 0, hi => obtain rfl : x = y := by simpa using hi
             exact ⟨g, 0, rfl, h.cell 0⟩⟩
theorem cons_blk1 {w : World} {g : Nat} {a b c d : Int} (h : Blk w g 39 #[.int .i64 a, .int .i64 b, .int .i64 c, .int .i64 d, .slice none 0 0]) : Cons w (some ⟨g, 0, none⟩) [⟨a, b, c, d, []⟩] := ⟨by unfold LenOk; simp, fun i y hi => by
  match i, hi with
  | 0, hi =>
    obtain rfl : (⟨a, b, c, d, []⟩ : Con) = y := by simpa using hi
    exact ⟨g, 0, none, 0, rfl, h.cell 0, h.cell 1, h.cell 2, h.cell 3, h.cell 4, ints_nil _ 0⟩⟩

/-- what lies in memory while awake asks -/
structure AwM (N R : Nat) (b1 b2 : Option Addr) (d1 d2 : Nat) (w : World) : Prop where
  c1 : Blk w N 39 #[.int .i64 1, .int .i64 0, .int .i64 0, .int .i64 0, .slice none 0 0, .int .i64 4, .int .i64 0, .int .i64 0, .int .i64 0, .slice none 0 0, .int .i64 3, .int .i64 0, .int .i64 1, .int .i64 0, .slice none 0 0]
  s1 : Blk w (N + 1) 24 #[.int .i64 2, .int .i64 1, .int .i64 1, .slice (some ⟨N, 0, none⟩) 3 3]
  r : Blk w R 29 #[.slice b1 2 d1, .slice b2 1 d2]
  i1 : Blk w (R + 1) 3 #[.int .i64 0]
  v1 : Blk w (R + 1 + 1) 37 #[.slice (some ⟨R + 1, 0, none⟩) 1 1, .slice none 0 0]
  i2 : Blk w (R + 1 + 1 + 1) 3 #[.int .i64 0]
  v2 : Blk w (R + 1 + 1 + 1 + 1) 37 #[.slice (some ⟨R + 1 + 1 + 1, 0, none⟩) 1 1]
  p2 : Blk w (R + 1 + 1 + 1 + 1 + 1) 29 #[.slice (some ⟨R + 1 + 1, 0, none⟩) 2 2, .slice (some ⟨R + 1 + 1 + 1 + 1, 0, none⟩) 1 1]
  c2 : Blk w (R + 1 + 1 + 1 + 1 + 1 + 1) 39 #[.int .i64 2, .int .i64 0, .int .i64 2, .int .i64 0, .slice none 0 0]
  q1 : Rows2 w b1 kP1.vars
  q2 : Rows2 w b2 kP1.cells
  tz : TzMem w
theorem AwM.below {N R : Nat} {b1 b2 : Option Addr} {d1 d2 : Nat} {w w' : World} (h : AwM N R b1 b2 d1 d2 w) (hb : Below w.heap.size w w') : AwM N R b1 b2 d1 d2 w' :=
  ⟨h.c1.below hb, h.s1.below hb, h.r.below hb, h.i1.below hb, h.v1.below hb, h.i2.below hb, h.v2.below hb, h.p2.below hb, h.c2.below hb, h.q1.below hb, h.q2.below hb, h.tz.below hb⟩
theorem AwM.alloc {N R : Nat} {b1 b2 : Option Addr} {d1 d2 : Nat} {w : World} (h : AwM N R b1 b2 d1 d2 w) (o : Obj) : AwM N R b1 b2 d1 d2 (w.alloc o) := h.below ((Below.refl _ _).alloc (Nat.le_refl _) _)
theorem Blk.al {w : World} {g : Nat} {t : TypeId} {cs : Array Value} (h : Blk w g t cs) (o : Obj) : Blk (w.alloc o) g t cs := h.below ((Below.refl _ _).alloc (Nat.le_refl _) _)
theorem AwM.made {N : Nat} {b1 b2 : Option Addr} {d1 d2 : Nat} {w wb : World}
    (c1 : Blk w N 39 #[.int .i64 1, .int .i64 0, .int .i64 0, .int .i64 0, .slice none 0 0, .int .i64 4, .int .i64 0, .int .i64 0, .int .i64 0, .slice none 0 0, .int .i64 3, .int .i64 0, .int .i64 1, .int .i64 0, .slice none 0 0])
    (s1 : Blk w (N + 1) 24 #[.int .i64 2, .int .i64 1, .int .i64 1, .slice (some ⟨N, 0, none⟩) 3 3]) (q1 : Rows2 w b1 kP1.vars) (q2 : Rows2 w b2 kP1.cells) (tz : TzMem w)
    (e : wb = (((((((w.alloc (.cells #[.slice b1 2 d1, .slice b2 1 d2] 29)).alloc (.cells #[.int .i64 0] 3)).alloc (.cells #[.slice (some ⟨w.heap.size + 1, 0, none⟩) 1 1, .slice none 0 0] 37)).alloc (.cells #[.int .i64 0] 3)).alloc (.cells #[.slice (some ⟨w.heap.size + 1 + 1 + 1, 0, none⟩) 1 1] 37)).alloc (.cells #[.slice (some ⟨w.heap.size + 1 + 1, 0, none⟩) 2 2, .slice (some ⟨w.heap.size + 1 + 1 + 1 + 1, 0, none⟩) 1 1] 29)).alloc (.cells #[.int .i64 2, .int .i64 0, .int .i64 2, .int .i64 0, .slice none 0 0] 39))) :
    AwM N w.heap.size b1 b2 d1 d2 wb ∧ Below w.heap.size w wb := by
  have hb : Below w.heap.size w wb := by
    rw [e]
    exact (((((((Below.refl _ _).alloc (Nat.le_refl _) _).alloc (by simp) _).alloc (by simp; omega) _).alloc (by simp; omega) _).alloc (by simp; omega) _).alloc (by simp; omega) _).alloc (by simp; omega) _
  refine ⟨⟨c1.below hb, s1.below hb, ?_, ?_, ?_, ?_, ?_, ?_, ?_, q1.below hb, q2.below hb, tz.below hb⟩, hb⟩
  · rw [e]; exact ((((((Blk.new w 29 _).al _).al _).al _).al _).al _).al _
  · rw [e]; have := Blk.new (w.alloc (.cells #[.slice b1 2 d1, .slice b2 1 d2] 29)) 3 #[.int .i64 0]
    rw [World.size_alloc] at this
    exact ((((this.al _).al _).al _).al _).al _
  · rw [e]; have := Blk.new ((w.alloc (.cells #[.slice b1 2 d1, .slice b2 1 d2] 29)).alloc (.cells #[.int .i64 0] 3)) 37 #[.slice (some ⟨w.heap.size + 1, 0, none⟩) 1 1, .slice none 0 0]
    simp only [World.size_alloc] at this
    exact (((this.al _).al _).al _).al _
  · rw [e]; have := Blk.new (((w.alloc (.cells #[.slice b1 2 d1, .slice b2 1 d2] 29)).alloc (.cells #[.int .i64 0] 3)).alloc (.cells #[.slice (some ⟨w.heap.size + 1, 0, none⟩) 1 1, .slice none 0 0] 37)) 3 #[.int .i64 0]
    simp only [World.size_alloc] at this
    exact ((this.al _).al _).al _
  · rw [e]; have := Blk.new ((((w.alloc (.cells #[.slice b1 2 d1, .slice b2 1 d2] 29)).alloc (.cells #[.int .i64 0] 3)).alloc (.cells #[.slice (some ⟨w.heap.size + 1, 0, none⟩) 1 1, .slice none 0 0] 37)).alloc (.cells #[.int .i64 0] 3)) 37 #[.slice (some ⟨w.heap.size + 1 + 1 + 1, 0, none⟩) 1 1]
    simp only [World.size_alloc] at this
    exact (this.al _).al _
  · rw [e]; have := Blk.new (((((w.alloc (.cells #[.slice b1 2 d1, .slice b2 1 d2] 29)).alloc (.cells #[.int .i64 0] 3)).alloc (.cells #[.slice (some ⟨w.heap.size + 1, 0, none⟩) 1 1, .slice none 0 0] 37)).alloc (.cells #[.int .i64 0] 3)).alloc (.cells #[.slice (some ⟨w.heap.size + 1 + 1 + 1, 0, none⟩) 1 1] 37)) 29 #[.slice (some ⟨w.heap.size + 1 + 1, 0, none⟩) 2 2, .slice (some ⟨w.heap.size + 1 + 1 + 1 + 1, 0, none⟩) 1 1]
    simp only [World.size_alloc] at this
    exact this.al _
  · rw [e]; have := Blk.new ((((((w.alloc (.cells #[.slice b1 2 d1, .slice b2 1 d2] 29)).alloc (.cells #[.int .i64 0] 3)).alloc (.cells #[.slice (some ⟨w.heap.size + 1, 0, none⟩) 1 1, .slice none 0 0] 37)).alloc (.cells #[.int .i64 0] 3)).alloc (.cells #[.slice (some ⟨w.heap.size + 1 + 1 + 1, 0, none⟩) 1 1] 37)).alloc (.cells #[.slice (some ⟨w.heap.size + 1 + 1, 0, none⟩) 2 2, .slice (some ⟨w.heap.size + 1 + 1 + 1 + 1, 0, none⟩) 1 1] 29)) 39 #[.int .i64 2, .int .i64 0, .int .i64 2, .int .i64 0, .slice none 0 0]
    simp only [World.size_alloc] at this
    exact this

theorem cons_kS1 {w : World} {N : Nat} (h : Blk w N 39 #[.int .i64 1, .int .i64 0, .int .i64 0, .int .i64 0, .slice none 0 0, .int .i64 4, .int .i64 0, .int .i64 0, .int .i64 0, .slice none 0 0, .int .i64 3, .int .i64 0, .int .i64 1, .int .i64 0, .slice none 0 0]) : Cons w (some ⟨N, 0, none⟩) kS1.cons := ⟨by unfold LenOk; decide, fun i y hi => by
  match i, hi with
  | 0, hi =>
    obtain rfl : (⟨1, 0, 0, 0, []⟩ : Con) = y := by simpa [kS1] using hi
    exact ⟨N, 0, none, 0, rfl, h.cell 0, h.cell 1, h.cell 2, h.cell 3, h.cell 4, ints_nil _ 0⟩
  | 1, hi =>
    obtain rfl : (⟨4, 0, 0, 0, []⟩ : Con) = y := by simpa [kS1] using hi
    exact ⟨N, 0, none, 0, rfl, h.cell 5, h.cell 6, h.cell 7, h.cell 8, h.cell 9, ints_nil _ 0⟩
  | 2, hi =>
    obtain rfl : (⟨3, 0, 1, 0, []⟩ : Con) = y := by simpa [kS1] using hi
    exact ⟨N, 0, none, 0, rfl, h.cell 10, h.cell 11, h.cell 12, h.cell 13, h.cell 14, ints_nil _ 0⟩⟩

theorem AwM.vars2 {N R : Nat} {b1 b2 : Option Addr} {d1 d2 : Nat} {w : World} (h : AwM N R b1 b2 d1 d2 w) : Rows2 w (some ⟨R + 1 + 1, 0, none⟩) kP2.vars := ⟨by unfold LenOk; decide, fun i y hi => by
  match i, hi with
  | 0, hi =>
    obtain rfl : [0] = y := by simpa [kP2] using hi
    exact ⟨_, 0, _, 1, rfl, h.v1.cell 0, ints_blk1 h.i1⟩
  | 1, hi =>
    obtain rfl : [] = y := by simpa [kP2] using hi
    exact ⟨_, 0, none, 0, rfl, h.v1.cell 1, ints_nil _ 0⟩⟩
theorem AwM.cells2 {N R : Nat} {b1 b2 : Option Addr} {d1 d2 : Nat} {w : World} (h : AwM N R b1 b2 d1 d2 w) : Rows2 w (some ⟨R + 1 + 1 + 1 + 1, 0, none⟩) kP2.cells := ⟨by unfold LenOk; decide, fun i y hi => by
  match i, hi with
  | 0, hi =>
    obtain rfl : [0] = y := by simpa [kP2] using hi
    exact ⟨_, 0, _, 1, rfl, h.v2.cell 0, ints_blk1 h.i2⟩⟩
section
variable {N R : Nat} {b1 b2 : Option Addr} {d1 d2 : Nat} (w : World) (h : AwM N R b1 b2 d1 d2 w)
theorem aw_A (h : AwM N R b1 b2 d1 d2 w) : Calls Tryd.prog 19 #[.agg #[.int .i64 2, .int .i64 1, .int .i64 1, .slice (some ⟨N, 0, none⟩) 3 3], .agg #[.slice b1 2 d1, .slice b2 1 d2]] w (BoolAnd true w) := by
  have := closedP_any kS1 kP1 (some ⟨N, 0, none⟩) b1 b2 3 d1 d2 w (cons_kS1 h.c1) h.q1 h.q2 h.tz (by decide)
  rwa [show closedB kS1 kP1 = true from by decide] at this
theorem aw_B (h : AwM N R b1 b2 d1 d2 w) : Calls Tryd.prog 19 #[.agg #[.int .i64 2, .int .i64 1, .int .i64 1, .slice (some ⟨N, 0, none⟩) 3 3], .agg #[.slice (some ⟨R + 1 + 1, 0, none⟩) 2 2, .slice (some ⟨R + 1 + 1 + 1 + 1, 0, none⟩) 1 1]] w (BoolAnd false w) := by
  have := closedP_any kS1 kP2 (some ⟨N, 0, none⟩) _ _ 3 2 1 w (cons_kS1 h.c1) h.vars2 h.cells2 h.tz (by decide)
  rwa [show closedB kS1 kP2 = false from by decide] at this
theorem aw_C (h : AwM N R b1 b2 d1 d2 w) : Calls Tryd.prog 20 #[.agg #[.slice (some ⟨R + 1 + 1, 0, none⟩) 2 2, .slice (some ⟨R + 1 + 1 + 1 + 1, 0, none⟩) 1 1], .agg #[.slice b1 2 d1, .slice b2 1 d2]] w (BoolAnd true w) := by
  have := withinA_any kP2 kP1 _ _ b1 b2 2 1 d1 d2 w h.vars2 h.cells2 h.q1 h.q2
  rw [show withinB kP2 kP1 = true from by decide] at this
  exact this
theorem aw_D (h : AwM N R b1 b2 d1 d2 w) : Calls Tryd.prog 20 #[.agg #[.slice b1 2 d1, .slice b2 1 d2], .agg #[.slice (some ⟨R + 1 + 1, 0, none⟩) 2 2, .slice (some ⟨R + 1 + 1 + 1 + 1, 0, none⟩) 1 1]] w (BoolAnd false w) := by
  have := withinA_any kP1 kP2 b1 b2 _ _ d1 d2 2 1 w h.q1 h.q2 h.vars2 h.cells2
  rw [show withinB kP1 kP2 = false from by decide] at this
  exact this
theorem aw_E (h : AwM N R b1 b2 d1 d2 w) : Calls Tryd.prog 22 #[.agg #[.int .i64 2, .int .i64 1, .int .i64 1, .slice (some ⟨N, 0, none⟩) 3 3], .agg #[.slice b1 2 d1, .slice b2 1 d2]] w (BoolAnd true w) := by
  refine (deriveP_any kS1 kP1 (some ⟨N, 0, none⟩) b1 b2 3 d1 d2 w (cons_kS1 h.c1) h.q1 h.q2 h.tz (by decide)).mono ?_
  rintro e w' ⟨q, hq, hB⟩
  obtain rfl := sol_kS1 hq
  exact hB
end
theorem aw_F (w : World) : Calls Tryd.prog 35 #[.agg #[.int .i64 (-1), .int .i64 0, .int .i64 0, .slice none 0 0]] w (IntAnd 4 w) := by
  have := check_any ⟨-1, 0, 0, []⟩ none 0 w (cons_nil w)
  rwa [show checkE ⟨-1, 0, 0, []⟩ = 4 from by decide] at this
theorem aw_G (w : World) : Calls Tryd.prog 35 #[.agg #[.int .i64 0, .int .i64 0, .int .i64 0, .slice (some ⟨w.heap.size, 0, none⟩) 1 1]] (w.alloc (.cells #[.int .i64 0, .int .i64 0, .int .i64 0, .int .i64 0, .slice none 0 0] 39)) (IntAnd 12 (w.alloc (.cells #[.int .i64 0, .int .i64 0, .int .i64 0, .int .i64 0, .slice none 0 0] 39))) := by
  have := check_any ⟨0, 0, 0, [⟨0, 0, 0, 0, []⟩]⟩ (some ⟨w.heap.size, 0, none⟩) 1 _ (cons_blk1 (Blk.new w 39 #[.int .i64 0, .int .i64 0, .int .i64 0, .int .i64 0, .slice none 0 0]))
  rwa [show checkE ⟨0, 0, 0, [⟨0, 0, 0, 0, []⟩]⟩ = 12 from by decide] at this
theorem aw_H (w : World) (hT : TzMem w) : Calls Tryd.prog 22 #[.agg #[.int .i64 1, .int .i64 1, .int .i64 0, .slice none 0 0], .agg #[.slice (some ⟨w.heap.size + 1, 0, none⟩) 1 1, .slice none 0 0]] ((w.alloc (.cells #[.int .i64 0] 3)).alloc (.cells #[.slice (some ⟨w.heap.size, 0, none⟩) 1 1] 37)) (BoolAnd false ((w.alloc (.cells #[.int .i64 0] 3)).alloc (.cells #[.slice (some ⟨w.heap.size, 0, none⟩) 1 1] 37))) := by
  have hb := below_two w (.cells #[.int .i64 0] 3) (.cells #[.slice (some ⟨w.heap.size, 0, none⟩) 1 1] 37)
  have i1 := (Blk.new w 3 #[.int .i64 0]).al (.cells #[.slice (some ⟨w.heap.size, 0, none⟩) 1 1] 37)
  have i2 := Blk.new (w.alloc (.cells #[.int .i64 0] 3)) 37 #[.slice (some ⟨w.heap.size, 0, none⟩) 1 1]
  rw [World.size_alloc] at i2
  have hr : Rows2 ((w.alloc (.cells #[.int .i64 0] 3)).alloc (.cells #[.slice (some ⟨w.heap.size, 0, none⟩) 1 1] 37)) (some ⟨w.heap.size + 1, 0, none⟩) [[0]] := ⟨by unfold LenOk; decide, fun i y hi => by
    match i, hi with
    | 0, hi =>
      obtain rfl : [0] = y := by simpa using hi
      exact ⟨_, 0, _, 1, rfl, i2.cell 0, ints_blk1 i1⟩⟩
  refine (deriveP_any kS5 ⟨[[0]], []⟩ none _ none 0 1 0 _ (cons_nil _) hr (rows_nil _) (hT.below hb) (by decide)).mono ?_
  rintro e w' ⟨q, hq, hB⟩
  obtain rfl := sol_kS5 hq
  rwa [show deriveV kS5 ⟨[[0]], []⟩ ⟨[[]], []⟩ = false from by decide] at hB

abbrev kC1 : Obj := .cells #[.int .i64 1, .int .i64 0, .int .i64 0, .int .i64 0, .slice none 0 0, .int .i64 4, .int .i64 0, .int .i64 0, .int .i64 0, .slice none 0 0, .int .i64 3, .int .i64 0, .int .i64 1, .int .i64 0, .slice none 0 0] 39

set_option maxRecDepth 100000 in
set_option maxHeartbeats 1000000 in
theorem awake_any (w : World) (hT : TzMem w) :
    Calls Tryd.prog 13 #[] w (BoolAnd true w) := by
  have hb := below_two w kC1 (.cells #[.int .i64 2, .int .i64 1, .int .i64 1, .slice (some ⟨w.heap.size, 0, none⟩) 3 3] 24)
  have HC1 := Lib.hid ((Blk.new w 39 #[.int .i64 1, .int .i64 0, .int .i64 0, .int .i64 0, .slice none 0 0, .int .i64 4, .int .i64 0, .int .i64 0, .int .i64 0, .slice none 0 0, .int .i64 3, .int .i64 0, .int .i64 1, .int .i64 0, .slice none 0 0]).below ((Below.refl _ _).alloc (Nat.le_refl _) (.cells #[.int .i64 2, .int .i64 1, .int .i64 1, .slice (some ⟨w.heap.size, 0, none⟩) 3 3] 24)))
  have HS1 : Hid (Blk ((w.alloc kC1).alloc (.cells #[.int .i64 2, .int .i64 1, .int .i64 1, .slice (some ⟨w.heap.size, 0, none⟩) 3 3] 24)) (w.heap.size + 1) 24 #[.int .i64 2, .int .i64 1, .int .i64 1, .slice (some ⟨w.heap.size, 0, none⟩) 3 3]) := by
    have := Blk.new (w.alloc kC1) 24 #[.int .i64 2, .int .i64 1, .int .i64 1, .slice (some ⟨w.heap.size, 0, none⟩) 3 3]
    rw [World.size_alloc] at this; exact this
  have HB := Lib.hid hb
  have HT := Lib.hid hT
  have CS1 : Hid (Calls Tryd.prog 14 #[.agg #[.int .i64 2, .int .i64 1, .int .i64 1, .slice (some ⟨w.heap.size, 0, none⟩) 3 3]] ((w.alloc kC1).alloc (.cells #[.int .i64 2, .int .i64 1, .int .i64 1, .slice (some ⟨w.heap.size, 0, none⟩) 3 3] 24)) (SolvePost kS1 ((w.alloc kC1).alloc (.cells #[.int .i64 2, .int .i64 1, .int .i64 1, .slice (some ⟨w.heap.size, 0, none⟩) 3 3] 24)))) :=
    solveP_any kS1 (some ⟨w.heap.size, 0, none⟩) 3 _ (cons_kS1 HC1.out) (hT.below hb) (by decide)
  clear hb hT
  go_enter Tryd.func13, Tryd.ntmps13
  go_wp2_with (go_at_call 14; (with_reducible refine CS1.out.mono ?_); rintro e w1 hp; obtain ⟨p, b1, b2, d1, d2, rfl, hr1, hr2, hb1, hsol⟩ := hp.sol; obtain rfl := sol_kS1 hsol; clear hp hsol; have hs1 := (HS1.out.below hb1).cell; have hz1 : w.heap.size + 1 < w1.heap.size := (HS1.out.below hb1).lt; rw [show checkE kS1 = 0 from by decide]; dsimp only [ptsV, kP1, List.length_cons, List.length_nil, Nat.zero_add, Nat.reduceAdd]; obtain ⟨g1, o1, e1, f1, rfl, j1, l1⟩ := hr1.at_ 1 [0] rfl; obtain ⟨g2, o2, e2, f2, rfl, j2, l2⟩ := hr2.at_ 0 [0] rfl; obtain ⟨g3, o3, rfl, j3⟩ := l1.at_ 0 0 rfl; obtain ⟨g4, o4, rfl, j4⟩ := l2.at_ 0 0 rfl; simp only [Nat.add_zero, List.length_cons, List.length_nil, Nat.zero_add] at j1 j2 j3 j4; have y1 : g1 < w1.heap.size := World.block_lt_of_cell? _ _ j1; have y2 : g2 < w1.heap.size := World.block_lt_of_cell? _ _ j2; have y3 : g3 < w1.heap.size := World.block_lt_of_cell? _ _ j3; have y4 : g4 < w1.heap.size := World.block_lt_of_cell? _ _ j4; have hr1 := Lib.hid hr1; have hr2 := Lib.hid hr2; have hb1 := Lib.hid hb1)
  obtain ⟨wb, hwb⟩ : ∃ wb, wb = (((((((w1.alloc (.cells #[.slice (some ⟨g1, o1, none⟩) 2 d1, .slice (some ⟨g2, o2, none⟩) 1 d2] 29)).alloc (.cells #[.int .i64 0] 3)).alloc (.cells #[.slice (some ⟨w1.heap.size + 1, 0, none⟩) 1 1, .slice none 0 0] 37)).alloc (.cells #[.int .i64 0] 3)).alloc (.cells #[.slice (some ⟨w1.heap.size + 1 + 1 + 1, 0, none⟩) 1 1] 37)).alloc (.cells #[.slice (some ⟨w1.heap.size + 1 + 1, 0, none⟩) 2 2, .slice (some ⟨w1.heap.size + 1 + 1 + 1 + 1, 0, none⟩) 1 1] 29)).alloc (.cells #[.int .i64 2, .int .i64 0, .int .i64 2, .int .i64 0, .slice none 0 0] 39)) := ⟨_, rfl⟩
  rw [← hwb]
  obtain ⟨hM, hMB⟩ := AwM.made (HC1.out.below hb1.out) (HS1.out.below hb1.out) hr1.out hr2.out ((HT.out.below HB.out).below hb1.out) hwb
  clear hwb
  have hBB : Hid (Below w.heap.size w wb) := (below_box2 hb1.out).trans (hMB.mono (by omega))
  have jj1 := cell_keep hMB j1
  have jj2 := cell_keep hMB j2
  have jj3 := cell_keep hMB j3
  have jj4 := cell_keep hMB j4
  have hsz := hMB.size
  generalize w1.heap.size = R at *
  clear hMB hb1 hs1 hr1 hr2 j1 j2 j3 j4 l1 l2 HC1 HS1 CS1 HB HT
  have M1 : Hid (AwM w.heap.size R (some ⟨g1, o1, none⟩) (some ⟨g2, o2, none⟩) d1 d2 (wb.alloc (.cells #[.int .i64 2, .int .i64 0, .int .i64 0, .slice (some ⟨R + 1 + 1 + 1 + 1 + 1 + 1, 0, none⟩) 1 1] 24))) := hM.alloc _
  have CS2 : Hid (Calls Tryd.prog 14 #[.agg #[.int .i64 2, .int .i64 0, .int .i64 0, .slice (some ⟨R + 1 + 1 + 1 + 1 + 1 + 1, 0, none⟩) 1 1]] (wb.alloc (.cells #[.int .i64 2, .int .i64 0, .int .i64 0, .slice (some ⟨R + 1 + 1 + 1 + 1 + 1 + 1, 0, none⟩) 1 1] 24)) (SolvePost kS2 (wb.alloc (.cells #[.int .i64 2, .int .i64 0, .int .i64 0, .slice (some ⟨R + 1 + 1 + 1 + 1 + 1 + 1, 0, none⟩) 1 1] 24)))) :=
    solveP_any kS2 (some ⟨R + 1 + 1 + 1 + 1 + 1 + 1, 0, none⟩) 1 _ (cons_blk1 M1.out.c2) M1.out.tz (by decide)
  go_wp2_with (go_at_call 14; (with_reducible refine CS2.out.mono ?_); rintro e w2 hp; obtain ⟨p, b3, b4, d3, d4, rfl, _, _, hb2, _⟩ := hp.sol; clear hp; rw [show checkE kS2 = 4 from by decide]; dsimp only [ptsV]; have hb2 := Lib.hid hb2; have M2 := Lib.hid (M1.out.below hb2.out); have u1 := M2.out.s1.cell; have u2 := M2.out.r.cell; have u3 := M2.out.p2.cell; have v1 := M2.out.s1.lt; have v2 := M2.out.r.lt; have v3 := M2.out.p2.lt; have hbw2 : Below wb.heap.size wb w2 := ((Below.refl _ _).alloc (Nat.le_refl _) _).trans (hb2.out.mono (by simp)); have p1 := cell_keep hbw2 jj1; have p2 := cell_keep hbw2 jj2; have p3 := cell_keep hbw2 jj3; have p4 := cell_keep hbw2 jj4; have z1 : g1 < w2.heap.size := World.block_lt_of_cell? _ _ p1; have z2 : g2 < w2.heap.size := World.block_lt_of_cell? _ _ p2; have z3 : g3 < w2.heap.size := World.block_lt_of_cell? _ _ p3; have z4 : g4 < w2.heap.size := World.block_lt_of_cell? _ _ p4; have HBW2 := Lib.hid hbw2; clear hbw2)
  go_wp2_with (first
    | (go_at_call 19; (with_reducible refine (aw_A _ (M2.out.alloc _)).mono ?_); rintro e w3 ⟨rfl, hb3⟩; have M3 := Lib.hid ((M2.out.alloc _).below hb3); have x3 := M3.out.s1.cell; have y3 := M3.out.r.cell; have z3 := M3.out.p2.cell)
    | (go_at_call 19; (with_reducible refine (aw_B _ M3.out).mono ?_); rintro e w4 ⟨rfl, hb4⟩; have M4 := Lib.hid (M3.out.below hb4); have x4 := M4.out.s1.cell; have y4 := M4.out.r.cell; have z4 := M4.out.p2.cell)
    | (go_at_call 20; (with_reducible refine (aw_C _ M4.out).mono ?_); rintro e w5 ⟨rfl, hb5⟩; have M5 := Lib.hid (M4.out.below hb5); have x5 := M5.out.s1.cell; have y5 := M5.out.r.cell; have z5 := M5.out.p2.cell)
    | (go_at_call 20; (with_reducible refine (aw_D _ M5.out).mono ?_); rintro e w6 ⟨rfl, hb6⟩; have M6 := Lib.hid (M5.out.below hb6); have x6 := M6.out.s1.cell; have y6 := M6.out.r.cell; have z6 := M6.out.p2.cell)
    | (go_at_call 22; (with_reducible refine (aw_E _ M6.out).mono ?_); rintro e w7 ⟨rfl, hb7⟩; have M7 := Lib.hid (M6.out.below hb7); have x7 := M7.out.s1.cell; have y7 := M7.out.r.cell; have z7 := M7.out.p2.cell)
    | (go_at_call 35; (with_reducible refine (aw_F _).mono ?_); rintro e w8 ⟨rfl, hb8⟩; have M8 := Lib.hid (M7.out.below hb8); have x8 := M8.out.s1.cell; have y8 := M8.out.r.cell; have z8 := M8.out.p2.cell)
    | (go_at_call 35; (with_reducible refine (aw_G _).mono ?_); rintro e w9 ⟨rfl, hb9⟩; have M9 := Lib.hid ((M8.out.alloc _).below hb9); have x9 := M9.out.s1.cell; have y9 := M9.out.r.cell; have z9 := M9.out.p2.cell)
    | (go_at_call 22; (with_reducible refine (aw_H _ M9.out.tz).mono ?_); rintro e w10 ⟨rfl, hb10⟩))
  go_ret
  have e2 : Below w.heap.size w w2 := hBB.out.trans (HBW2.out.mono hBB.out.size)
  have e3 := e2.trans ((below_box hb3).mono e2.size)
  have e4 := e3.trans (hb4.mono e3.size)
  have e5 := e4.trans (hb5.mono e4.size)
  have e6 := e5.trans (hb6.mono e5.size)
  have e7 := e6.trans (hb7.mono e6.size)
  have e8 := e7.trans (hb8.mono e7.size)
  have e9 := e8.trans ((below_box hb9).mono e8.size)
  exact BoolAnd.mk rfl (e9.trans ((below_box2 hb10).mono e9.size))
end Go.Proofs.YtcfiohphjlohhaaDoor
