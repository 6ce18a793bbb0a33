/- The words that the other texts of this seat use: how slices of whole numbers, of rows and of constraints read in memory, and how such readings are kept. -/
import Derived.Test.YtcfiohphjlohhaaDoorRows
import Derived.Tactics
import Derived.Tactics2
import Derived.WalkKit
import Derived.WalkSpells
import Derived.WalkLawsBesides
import Derived.Below
import Derived.Lib.Hide
import Derived.Laws.OwnMore
import Derived.Laws.Rows
import Derived.Laws.MakeOwn
import Derived.Deep.AppendLies
import Derived.Deep.Draws
import Derived.Deep.LoopGhost
import Derived.Deep.QuietTactic
import Derived.Deep.DeepCutAuto
import Derived.Deep.CutBlock
import Derived.Deep.RegionHeld3
import Derived.BigQuiet
import Derived.Outline
import Derived.LoopTactic
import Derived.RegionTactic
import Derived.ChangeAlike
import Derived.OwnWalk
import Derived.KernelRfl
namespace Go.Proofs.YtcfiohphjlohhaaDoor
open Go.RowKit


/-! ### the data -/
structure Con where
  kind : Int
  a : Int
  b : Int
  field : Int
  set : List Int
structure Sys where
  vars : Int
  sites : Int
  fields : Int
  cons : List Con
structure Pts where
  vars : List (List Int)
  cells : List (List Int)

/-- The greatest length that is ever met here. -/
def LenOk (n : Nat) : Prop := n ≤ 4611686018427387904
theorem LenOk.le {n : Nat} (h : LenOk n) : n ≤ 4611686018427387904 := h

/-- The slice at 'a' reads as the whole numbers xs. -/
structure Ints (w : World) (a : Option Addr) (xs : List Int) : Prop where
  len : LenOk xs.length
  at_ : ∀ i x, xs[i]? = some x → ∃ b o, a = some ⟨b, o, none⟩ ∧ w.cell? ⟨b, o + i, none⟩ = some (.int .i64 x)

/-- The slice at 'a' reads as the rows ll. -/
structure Rows2 (w : World) (a : Option Addr) (ll : List (List Int)) : Prop where
  len : LenOk ll.length
  at_ : ∀ i l, ll[i]? = some l → ∃ b o a' c', a = some ⟨b, o, none⟩ ∧ w.cell? ⟨b, o + i, none⟩ = some (.slice a' l.length c') ∧ Ints w a' l

/-- The slice at 'a' reads as the constraints cs (five cells each). -/
structure Cons (w : World) (a : Option Addr) (cs : List Con) : Prop where
  len : LenOk cs.length
  at_ : ∀ i c, cs[i]? = some c → ∃ b o a' c', a = some ⟨b, o, none⟩ ∧ w.cell? ⟨b, o + i * 5, none⟩ = some (.int .i64 c.kind) ∧ w.cell? ⟨b, o + i * 5 + 1, none⟩ = some (.int .i64 c.a) ∧
    w.cell? ⟨b, o + i * 5 + 2, none⟩ = some (.int .i64 c.b) ∧ w.cell? ⟨b, o + i * 5 + 3, none⟩ = some (.int .i64 c.field) ∧ w.cell? ⟨b, o + i * 5 + 4, none⟩ = some (.slice a' c.set.length c') ∧ Ints w a' c.set

section
variable {w w' : World} {a : Option Addr}
theorem cell_keep (hb : Below w.heap.size w w') {p : Addr} {v : Value} (h : w.cell? p = some v) : w'.cell? p = some v :=
  (hb.cell (World.block_lt_of_cell? _ _ h)).trans h
theorem Ints.below {xs : List Int} (h : Ints w a xs) (hb : Below w.heap.size w w') : Ints w' a xs := ⟨h.len, fun i x hi => by
  obtain ⟨b, o, e, hc⟩ := h.at_ i x hi
  exact ⟨b, o, e, cell_keep hb hc⟩⟩
theorem Rows2.below {ll : List (List Int)} (h : Rows2 w a ll) (hb : Below w.heap.size w w') : Rows2 w' a ll := ⟨h.len, fun i x hi => by
  obtain ⟨b, o, a', c', e, hc, hl⟩ := h.at_ i x hi
  exact ⟨b, o, a', c', e, cell_keep hb hc, hl.below hb⟩⟩
theorem Cons.below {cs : List Con} (h : Cons w a cs) (hb : Below w.heap.size w w') : Cons w' a cs := ⟨h.len, fun i x hi => by
  obtain ⟨b, o, a', c', e, h0, h1, h2, h3, h4, hl⟩ := h.at_ i x hi
  exact ⟨b, o, a', c', e, cell_keep hb h0, cell_keep hb h1, cell_keep hb h2, cell_keep hb h3, cell_keep hb h4, hl.below hb⟩⟩
theorem Ints.alloc {xs : List Int} (h : Ints w a xs) (o : Obj) : Ints (w.alloc o) a xs := h.below ((Below.refl _ _).alloc (Nat.le_refl _) _)
theorem Rows2.alloc {xs : List (List Int)} (h : Rows2 w a xs) (o : Obj) : Rows2 (w.alloc o) a xs := h.below ((Below.refl _ _).alloc (Nat.le_refl _) _)
theorem Cons.alloc {xs : List Con} (h : Cons w a xs) (o : Obj) : Cons (w.alloc o) a xs := h.below ((Below.refl _ _).alloc (Nat.le_refl _) _)
end


theorem Ints.some {w : World} {a : Option Addr} {xs : List Int} (h : Ints w a xs) {i : Nat} (hi : i < xs.length) : ∃ b o, a = some ⟨b, o, none⟩ ∧ ∀ j x, xs[j]? = some x → w.cell? ⟨b, o + j, none⟩ = some (.int .i64 x) := by
  obtain ⟨b, o, e, _⟩ := h.at_ i _ (List.getElem?_eq_getElem hi)
  refine ⟨b, o, e, fun j x hj => ?_⟩
  obtain ⟨b', o', e', hc⟩ := h.at_ j x hj
  rw [e] at e'
  simp only [Option.some.injEq, Addr.mk.injEq, and_true] at e'
  obtain ⟨rfl, rfl⟩ := e'
  exact hc
theorem Ints.drewN {w : World} {a : Option Addr} {xs : List Int} (h : Ints w a xs) (n : Nat) : Ints (w.drewN n) a xs := ⟨h.len, h.at_⟩
theorem Rows2.drewN {w : World} {a : Option Addr} {xs : List (List Int)} (h : Rows2 w a xs) (n : Nat) : Rows2 (w.drewN n) a xs :=
  ⟨h.len, fun i l hi => by obtain ⟨b, o, a', c', e, hc, hl⟩ := h.at_ i l hi; exact ⟨b, o, a', c', e, hc, hl.drewN n⟩⟩
theorem Cons.drewN {w : World} {a : Option Addr} {xs : List Con} (h : Cons w a xs) (n : Nat) : Cons (w.drewN n) a xs :=
  ⟨h.len, fun i l hi => by obtain ⟨b, o, a', c', e, h0, h1, h2, h3, h4, hl⟩ := h.at_ i l hi; exact ⟨b, o, a', c', e, h0, h1, h2, h3, h4, hl.drewN n⟩⟩
theorem below_drewN {B : Nat} {a w : World} (h : Below B a w) (n : Nat) : Below B a (w.drewN n) := ⟨h.os, h.tape, h.output, h.size, h.block⟩
theorem below_of_drewN (w : World) (n : Nat) : Below w.heap.size w (w.drewN n) := below_drewN (Below.refl _ _) n

theorem box_keep {w w1 : World} {cs : Array Value} {t : TypeId} (hb : Below (w.alloc (.cells cs t)).heap.size (w.alloc (.cells cs t)) w1) : ∀ j, w1.cell? ⟨w.heap.size, j, none⟩ = cs[j]? := fun j => by
  rw [hb.cell (p := ⟨w.heap.size, j, none⟩) (by simp), World.cell?_alloc_new]
theorem below_box {w w1 : World} {o : Obj} (hb : Below (w.alloc o).heap.size (w.alloc o) w1) : Below w.heap.size w w1 :=
  ((Below.refl _ _).alloc (Nat.le_refl _) _).trans (hb.mono (by simp))

theorem box2_keep {w w1 : World} {cs ds : Array Value} {t u : TypeId} {B : Nat} (hb : Below B ((w.alloc (.cells cs t)).alloc (.cells ds u)) w1) (hB : w.heap.size + 2 ≤ B) :
    (∀ j, w1.cell? ⟨w.heap.size, j, none⟩ = cs[j]?) ∧ (∀ j, w1.cell? ⟨w.heap.size + 1, j, none⟩ = ds[j]?) := ⟨fun j => by
  rw [hb.cell (p := ⟨w.heap.size, j, none⟩) (by show w.heap.size < B; omega), World.cell?_alloc_lt _ _ _ (by simp), World.cell?_alloc_new], fun j => by
  rw [hb.cell (p := ⟨w.heap.size + 1, j, none⟩) (by show w.heap.size + 1 < B; omega)]
  simp⟩
theorem below_box2 {w w1 : World} {o o2 : Obj} (hb : Below ((w.alloc o).alloc o2).heap.size ((w.alloc o).alloc o2) w1) : Below w.heap.size w w1 :=
  (((Below.refl _ _).alloc (Nat.le_refl _) _).alloc (by simp) _).trans (hb.mono (by simp; omega))
theorem below_two (w : World) (o o2 : Obj) : Below w.heap.size w ((w.alloc o).alloc o2) := ((Below.refl _ _).alloc (Nat.le_refl _) _).alloc (by simp) _
theorem below_three (w : World) (o o2 o3 : Obj) : Below w.heap.size w (((w.alloc o).alloc o2).alloc o3) := (((Below.refl _ _).alloc (Nat.le_refl _) _).alloc (by simp) _).alloc (by simp; omega) _

theorem below_un_drew {B : Nat} {w w1 : World} (h : Below B w.drew w1) : Below B w w1 := ⟨h.os, h.tape, h.output, h.size, h.block⟩
theorem below_un_drewN {B n : Nat} {w w1 : World} (h : Below B (w.drewN n) w1) : Below B w w1 := ⟨h.os, h.tape, h.output, h.size, h.block⟩
theorem Ints.drew {w : World} {a : Option Addr} {xs : List Int} (h : Ints w a xs) : Ints w.drew a xs := ⟨h.len, h.at_⟩
theorem Rows2.drew {w : World} {a : Option Addr} {xs : List (List Int)} (h : Rows2 w a xs) : Rows2 w.drew a xs :=
  ⟨h.len, fun i l hi => by obtain ⟨b, o, a', c', e, hc, hl⟩ := h.at_ i l hi; exact ⟨b, o, a', c', e, hc, hl.drew⟩⟩
theorem Cons.drew {w : World} {a : Option Addr} {xs : List Con} (h : Cons w a xs) : Cons w.drew a xs :=
  ⟨h.len, fun i l hi => by obtain ⟨b, o, a', c', e, h0, h1, h2, h3, h4, hl⟩ := h.at_ i l hi; exact ⟨b, o, a', c', e, h0, h1, h2, h3, h4, hl.drew⟩⟩

/-! ### quiet calls -/
theorem quiet_add {P : Program} {f : FuncId} {args : Array Value} {w : World} {a n : Nat} {v : Value}
    (h : Calls P f args (w.drewN (a + n)) fun e w' => e = .returned v ∧ ∃ m, w' = (w.drewN (a + n)).drewN m) :
    Calls P f args (w.drewN (a + n)) fun e w'' => e = .returned v ∧ ∃ m, w'' = w.drewN (a + m) :=
  h.mono fun _ _ ⟨he, m, hm⟩ => ⟨he, n + m, by rw [hm, World.drewN_drewN, Nat.add_assoc]⟩
theorem quiet_add_left {P : Program} {f : FuncId} {args : Array Value} {w : World} {a n : Nat} {v : Value}
    (h : Calls P f args (w.drewN (a + n)) fun e w' => e = .returned v ∧ w.drewN (a + n) = w') :
    Calls P f args (w.drewN (a + n)) fun e w'' => e = .returned v ∧ ∃ m, w'' = w.drewN (a + m) :=
  h.mono fun _ _ ⟨he, hm⟩ => ⟨he, n, hm.symm⟩
theorem quiet_left {P : Program} {f : FuncId} {args : Array Value} {w : World} {n : Nat} {v : Value}
    (h : Calls P f args (w.drewN n) fun e w' => e = .returned v ∧ w.drewN n = w') : Calls P f args (w.drewN n) fun e w'' => e = .returned v ∧ ∃ m, w'' = w.drewN m :=
  h.mono fun _ _ ⟨he, hm⟩ => ⟨he, n, hm.symm⟩

/-! ### small things -/
theorem ret_bool {a b : Bool} (h : a = b) : Ending.returned (.bool a) = .returned (.bool b) := by rw [h]
theorem not_t {b : Bool} (h : (!b) = true) : b = false := by simpa using h
theorem not_f {b : Bool} (h : (!b) = false) : b = true := by simpa using h
theorem ne_t {a b : Nat} (h : ((a : Int) != b) = true) : ¬ a = b := by simp at h; omega
theorem ne_f {a b : Nat} (h : ((a : Int) != b) = false) : a = b := by simp at h; omega
theorem ret_int {k : IntKind} {a b : Int} (h : a = b) : Ending.returned (.int k a) = .returned (.int k b) := by rw [h]
theorem drop_at {α : Type} {l : List α} {k : Nat} (h : k < l.length) : l.drop k = l[k] :: l.drop (k + 1) := List.drop_eq_getElem_cons h
theorem get_at {α : Type} {l : List α} {k : Nat} (h : k < l.length) : l[k]? = some l[k] := List.getElem?_eq_getElem h
theorem drop_end {α : Type} {l : List α} {k : Nat} (h : ¬ k < l.length) : l.drop k = [] := List.drop_eq_nil_of_le (by omega)

/-! ### the specifications that only compute -/
def amongB (x n : Int) : Bool := decide (0 ≤ x ∧ x < n)
def hasB (l : List Int) (x : Int) : Bool := l.any (· == x)
def partB (a b : List Int) : Bool := a.all (hasB b)
theorem hasB_nil (x : Int) : hasB [] x = false := rfl
theorem hasB_cons (a : Int) (l : List Int) (x : Int) : hasB (a :: l) x = (a == x || hasB l x) := rfl
theorem partB_nil (l : List Int) : partB [] l = true := rfl
theorem partB_cons (a : Int) (l m : List Int) : partB (a :: l) m = (hasB m a && partB l m) := rfl
theorem amongB_neg {x n : Int} (h : ¬ 0 ≤ x) : amongB x n = false := by simp [amongB, h]
theorem amongB_pos {x n : Int} (h : 0 ≤ x) : amongB x n = decide (x < n) := by simp [amongB, h]

/-- strictly ascending -/
def ascB : List Int → Bool
  | [] => true
  | [_] => true
  | a :: b :: l => decide (a < b) && ascB (b :: l)
theorem ascB_cons2 (a b : Int) (l : List Int) : ascB (a :: b :: l) = (decide (a < b) && ascB (b :: l)) := rfl
theorem ascB_short {l : List Int} (h : l.length ≤ 1) : ascB l = true := by
  match l, h with
  | [], _ => rfl
  | [_], _ => rfl
def insideB : List (List Int) → List (List Int) → Bool
  | [], [] => true
  | a :: l, b :: m => partB a b && insideB l m
  | _, _ => false
theorem insideB_cons (a b : List Int) (l m : List (List Int)) : insideB (a :: l) (b :: m) = (partB a b && insideB l m) := rfl
theorem insideB_len : ∀ {l m : List (List Int)}, l.length ≠ m.length → insideB l m = false
  | [], [], h => absurd rfl h
  | [], _ :: _, _ => rfl
  | _ :: _, [], _ => rfl
  | a :: l, b :: m, h => by
    rw [insideB_cons, insideB_len (l := l) (m := m) (fun e => h (by simp [e]))]
    simp
def withinB (p q : Pts) : Bool := insideB p.vars q.vars && insideB p.cells q.cells
def shortCons : List Con → Bool
  | [] => true
  | c :: l => decide (c.set.length ≤ 40) && shortCons l
def shortB (s : Sys) : Bool := decide (s.cons.length ≤ 100) && shortCons s.cons
def smallB (s : Sys) : Bool := shortB s && decide (s.vars ≤ 40) && decide (s.sites ≤ 12) && decide (s.fields ≤ 5)
def fewRows : List (List Int) → Bool
  | [] => true
  | c :: l => decide (c.length ≤ 40) && fewRows l
def fewB (p : Pts) : Bool := decide (p.vars.length ≤ 50) && decide (p.cells.length ≤ 70) && fewRows p.vars && fewRows p.cells

def lensB : List (List Int) → List (List Int) → Bool
  | a :: l, b :: m => decide (a.length = b.length) && lensB l m
  | _, _ => true
theorem lensB_cons (a b : List Int) (l m : List (List Int)) : lensB (a :: l) (b :: m) = (decide (a.length = b.length) && lensB l m) := rfl
def sameB (p q : Pts) : Bool := withinB p q && withinB q p && lensB p.vars q.vars && lensB p.cells q.cells
theorem insideB_true_len : ∀ {l m : List (List Int)}, insideB l m = true → l.length = m.length := fun {l m} h => by
  by_cases e : l.length = m.length
  · exact e
  · rw [insideB_len e] at h; cases h
theorem withinB_len {p q : Pts} (h : withinB p q = true) : p.vars.length = q.vars.length ∧ p.cells.length = q.cells.length := by
  unfold withinB at h
  rw [Bool.and_eq_true] at h
  exact ⟨insideB_true_len h.1, insideB_true_len h.2⟩
/-- a constraint, by value -/
abbrev conV (c : Con) (a : Option Addr) (cap : Nat) : Value := .agg #[.int .i64 c.kind, .int .i64 c.a, .int .i64 c.b, .int .i64 c.field, .slice a c.set.length cap]
def accB (k : Int) : Bool := decide (k = 3) || decide (k = 4)
def badSite (sites : Int) (l : List Int) : Bool := l.any fun x => !amongB x sites
theorem badSite_cons (n a : Int) (l : List Int) : badSite n (a :: l) = (!amongB a n || badSite n l) := rfl
/-- the error of a constraint -/
def conE (s : Sys) (c : Con) : Int :=
  if c.kind < 1 ∨ 5 < c.kind then 12
  else if (!amongB c.a (if c.kind = 1 then s.sites else s.vars) || !amongB c.b s.vars || (accB c.kind && !amongB c.field s.fields)) = true then 4
  else if badSite s.sites c.set = true then 4
  else if (!accB c.kind && decide (c.field ≠ 0) || decide (c.kind ≠ 5) && decide (0 < c.set.length)) = true then 1
  else if ascB c.set = false then 13 else 0

/-- the first error of constraints -/
def consE (s : Sys) : List Con → Int
  | [] => 0
  | c :: l => if conE s c = 0 then consE s l else conE s c
theorem consE_cons (s : Sys) (c : Con) (l : List Con) : consE s (c :: l) = if conE s c = 0 then consE s l else conE s c := rfl
/-- the error of a system -/
def checkE (s : Sys) : Int :=
  if s.vars < 0 ∨ s.sites < 0 ∨ s.fields < 0 then 4
  else if 65536 < s.vars ∨ 1024 < s.sites ∨ 1024 < s.fields ∨ 65536 < s.sites * s.fields ∨ (32768 : Int) < s.cons.length then 3
  else consE s s.cons
theorem prod_bd {a b : Int} (h1 : 0 ≤ a) (h2 : 0 ≤ b) (h3 : a ≤ 1024) (h4 : b ≤ 1024) : 0 ≤ a * b ∧ a * b ≤ 1048576 :=
  ⟨Int.mul_nonneg h1 h2, by have := Int.mul_le_mul h3 h4 h2 (by omega); omega⟩

/-- an assignment, by value -/
abbrev ptsV (p : Pts) (a1 a2 : Option Addr) (c1 c2 : Nat) : Value := .agg #[.slice a1 p.vars.length c1, .slice a2 p.cells.length c2]
/-- a system, by value -/
abbrev sysV (s : Sys) (a : Option Addr) (cap : Nat) : Value := .agg #[.int .i64 s.vars, .int .i64 s.sites, .int .i64 s.fields, .slice a s.cons.length cap]

end Go.Proofs.YtcfiohphjlohhaaDoor
