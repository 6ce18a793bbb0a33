/- The reference's table in memory; put, cell, flow. -/
import Derived.Test.YtcfiohphjlohhaaDoorT10
namespace Go.Proofs.YtcfiohphjlohhaaDoor
open Go.RowKit

/-! ### blocks that are known whole; what else stays -/
/-- block g is just these cells, none frozen -/
def Blk (w : World) (g : Nat) (t : TypeId) (cs : Array Value) : Prop := w.heap[g]? = some (.cells cs t (0, 0))
/-- of what was there, only blocks in S have turned -/
structure Only (S : Nat → Prop) (w w' : World) : Prop where
  os : w'.os = w.os
  tape : w'.tape = w.tape
  output : w'.output = w.output
  size : w.heap.size ≤ w'.heap.size
  block : ∀ k, k < w.heap.size → ¬ S k → w'.heap[k]? = w.heap[k]?

section
variable {w w' w2 : World} {S : Nat → Prop} {g : Nat} {t : TypeId} {cs : Array Value}
theorem Only.refl (S : Nat → Prop) (w : World) : Only S w w := ⟨rfl, rfl, rfl, Nat.le_refl _, fun _ _ _ => rfl⟩
theorem Only.trans (h : Only S w w') (k : Only S w' w2) : Only S w w2 :=
  ⟨k.os.trans h.os, k.tape.trans h.tape, k.output.trans h.output, Nat.le_trans h.size k.size, fun i hi hs => (k.block i (Nat.lt_of_lt_of_le hi h.size) hs).trans (h.block i hi hs)⟩
theorem Only.drewN (h : Only S w w') (n : Nat) : Only S w (w'.drewN n) := ⟨h.os, h.tape, h.output, h.size, h.block⟩
theorem Only.drew (h : Only S w w') : Only S w w'.drew := ⟨h.os, h.tape, h.output, h.size, h.block⟩
theorem Only.un_drew (h : Only S w.drew w') : Only S w w' := ⟨h.os, h.tape, h.output, h.size, h.block⟩
theorem Only.un_drewN {n : Nat} (h : Only S (w.drewN n) w') : Only S w w' := ⟨h.os, h.tape, h.output, h.size, h.block⟩
theorem Only.alloc (h : Only S w w') (o : Obj) : Only S w (w'.alloc o) :=
  ⟨h.os, h.tape, h.output, Nat.le_trans h.size (by simp), fun i hi hs => (Below.heap_alloc w' o i (Nat.lt_of_lt_of_le hi h.size)).trans (h.block i hi hs)⟩
theorem Only.setCell (h : Only S w w') {p : Addr} (hp : S p.block ∨ w.heap.size ≤ p.block) (u : Value) : Only S w (w'.setCell p u) :=
  ⟨h.os, h.tape, h.output, by simpa [World.setCell] using h.size, fun i hi hs => (Below.heap_setCell w' p u i (by
    rintro rfl
    rcases hp with hp | hp
    · exact hs hp
    · omega)).trans (h.block i hi hs)⟩
theorem Only.of_below (h : Below w.heap.size w w') (S : Nat → Prop) : Only S w w' := ⟨h.os, h.tape, h.output, h.size, fun k hk _ => h.block k hk⟩
theorem Only.mono {S' : Nat → Prop} (h : Only S w w') (hs : ∀ k, k < w.heap.size → S k → S' k) : Only S' w w' :=
  ⟨h.os, h.tape, h.output, h.size, fun k hk hn => h.block k hk fun hS => hn (hs k hk hS)⟩
theorem Only.to_below {B : Nat} (h : Only S w w') (hB : B ≤ w.heap.size) (hs : ∀ k, S k → B ≤ k) : Below B w w' :=
  ⟨h.os, h.tape, h.output, h.size, fun k hk => h.block k (by omega) fun hS => by have := hs k hS; omega⟩
theorem Only.cell (h : Only S w w') {p : Addr} (hp : p.block < w.heap.size) (hs : ¬ S p.block) : w'.cell? p = w.cell? p := World.cell?_of_block (w := w) (h.block p.block hp hs)
theorem Only.keep (h : Only S w w') {p : Addr} {v : Value} (hv : w.cell? p = some v) (hs : ¬ S p.block) : w'.cell? p = some v := (h.cell (World.block_lt_of_cell? _ _ hv) hs).trans hv
theorem Blk.lt (h : Blk w g t cs) : g < w.heap.size := by
  rcases Nat.lt_or_ge g w.heap.size with hlt | hge
  · exact hlt
  · unfold Blk at h; rw [Array.getElem?_eq_none hge] at h; cases h
theorem Blk.cell (h : Blk w g t cs) (i : Nat) : w.cell? ⟨g, i, none⟩ = cs[i]? := cell_of_row w g i cs t (0, 0) h
theorem Blk.frozen (h : Blk w g t cs) (i : Nat) : w.frozen? ⟨g, i, none⟩ = false := by
  unfold Blk at h
  simp [World.frozen?, h]
theorem Blk.new (w : World) (t : TypeId) (cs : Array Value) : Blk (w.alloc (.cells cs t)) w.heap.size t cs := heap_alloc_new w _
theorem Blk.set_ (h : Blk w g t cs) (i : Nat) (u : Value) : Blk (w.setCell ⟨g, i, none⟩ u) g t (cs.setIfInBounds i u) := by
  unfold Blk at h ⊢
  simp [World.setCell, Array.getElem?_modify, h]
theorem Blk.far (h : Blk w g t cs) {p : Addr} (hp : g ≠ p.block) (u : Value) : Blk (w.setCell p u) g t cs := (Below.heap_setCell w p u g hp).trans h
theorem Blk.only (h : Blk w g t cs) (hb : Only S w w') (hg : ¬ S g) : Blk w' g t cs := (hb.block g h.lt hg).trans h
theorem Blk.below (h : Blk w g t cs) (hb : Below w.heap.size w w') : Blk w' g t cs := (hb.block g h.lt).trans h
end

/-! ### a state: which site is in which row; has one been added? -/
abbrev St := (Nat → Nat → Bool) × Bool
def upd (m : Nat → Nat → Bool) (k x : Nat) : Nat → Nat → Bool := fun i j => if i = k ∧ j = x then true else m i j
def putS (st : St) (k x : Nat) : St := if st.1 k x = true then st else (upd st.1 k x, true)
def flowS (n from_ to_ : Nat) : Nat → Nat → St → St
  | 0, _, st => st
  | d + 1, x, st => flowS n from_ to_ d (x + 1) (if st.1 from_ x = true then putS st to_ x else st)

def rowCells (n : Nat) (f : Nat → Bool) : Array Value := ((List.range n).map fun x => Value.bool (f x)).toArray
theorem rowCells_at {n x : Nat} (f : Nat → Bool) (h : x < n) : (rowCells n f)[x]? = some (.bool (f x)) := by
  unfold rowCells; simp [h]
theorem rowCells_size (n : Nat) (f : Nat → Bool) : (rowCells n f).size = n := by simp [rowCells]
theorem rowCells_set {n x : Nat} (f : Nat → Bool) (h : x < n) : (rowCells n f).setIfInBounds x (.bool true) = rowCells n (fun j => if j = x then true else f j) := by
  apply Array.ext_getElem?
  intro i
  rw [Array.getElem?_setIfInBounds]
  by_cases hi : i < n
  · by_cases e : x = i
    · subst e; rw [if_pos rfl, if_pos (by rw [rowCells_size]; exact h), rowCells_at _ h]; simp
    · rw [if_neg e, rowCells_at _ hi, rowCells_at _ hi, if_neg (fun h => e h.symm)]
  · by_cases e : x = i
    · subst e; exact absurd h hi
    · rw [if_neg e, Array.getElem?_eq_none (by rw [rowCells_size]; omega), Array.getElem?_eq_none (by rw [rowCells_size]; omega)]

/-- the fixed places of a table -/
structure TabAt where
  T : Nat
  hv : Value
  g : Nat
  cap : Nat
  aS : Option Addr
  cS : Nat
  n : Nat
  R : List Nat
/-- which blocks a table may write -/
def TabAt.own (t : TabAt) (k : Nat) : Prop := k = t.T ∨ k ∈ t.R
/-- the table, in memory -/
structure Tab (w : World) (s : Sys) (t : TabAt) (st : St) : Prop where
  sites : s.sites = t.n
  blk : Blk w t.T 56 #[.int .i64 s.vars, .int .i64 s.sites, .int .i64 s.fields, .slice t.aS s.cons.length t.cS, t.hv, .bool st.2]
  form : 0 < t.R.length → t.hv = .slice (some ⟨t.g, 0, none⟩) t.R.length t.cap
  has : ∀ k r, t.R[k]? = some r → w.cell? ⟨t.g, k, none⟩ = some (.slice (some ⟨r, 0, none⟩) t.n t.n)
  rows : ∀ k r, t.R[k]? = some r → Blk w r 4 (rowCells t.n (st.1 k))
  nd : t.R.Nodup
  neT : t.T ∉ t.R
  neg : t.g ∉ t.R
  Tg : t.T ≠ t.g

theorem Tab.drewN {w : World} {s : Sys} {t : TabAt} {st : St} (h : Tab w s t st) (n : Nat) : Tab (w.drewN n) s t st := ⟨h.sites, h.blk, h.form, h.has, h.rows, h.nd, h.neT, h.neg, h.Tg⟩
theorem Tab.drew {w : World} {s : Sys} {t : TabAt} {st : St} (h : Tab w s t st) : Tab w.drew s t st := ⟨h.sites, h.blk, h.form, h.has, h.rows, h.nd, h.neT, h.neg, h.Tg⟩
theorem Tab.below {w w' : World} {s : Sys} {t : TabAt} {st : St} (h : Tab w s t st) (hb : Below w.heap.size w w') : Tab w' s t st :=
  ⟨h.sites, h.blk.below hb, h.form, fun k r hk => cell_keep hb (h.has k r hk), fun k r hk => (h.rows k r hk).below hb, h.nd, h.neT, h.neg, h.Tg⟩
theorem Tab.alloc {w : World} {s : Sys} {t : TabAt} {st : St} (h : Tab w s t st) (o : Obj) : Tab (w.alloc o) s t st := h.below ((Below.refl _ _).alloc (Nat.le_refl _) _)

theorem Tab.has_cell {w : World} {s : Sys} {t : TabAt} {st : St} (h : Tab w s t st) {k r : Nat} (hr : t.R[k]? = some r) : w.cell? ⟨t.T, 4, none⟩ = some (.slice (some ⟨t.g, 0, none⟩) t.R.length t.cap) := by
  rw [← h.form (by have := (List.getElem?_eq_some_iff.1 hr).1; omega)]
  exact h.blk.cell 4
/-- a site is put where there was none -/
theorem Tab.put {w : World} {s : Sys} {t : TabAt} {st : St} (h : Tab w s t st) {k x r : Nat} (hr : t.R[k]? = some r) (hx : x < t.n) :
    Tab ((w.setCell ⟨r, x, none⟩ (.bool true)).setCell ⟨t.T, 5, none⟩ (.bool true)) s t (upd st.1 k x, true) := by
  have hrT : t.T ≠ r := fun e => h.neT (e ▸ List.mem_of_getElem? hr)
  have hgr : t.g ≠ r := fun e => h.neg (e ▸ List.mem_of_getElem? hr)
  refine ⟨h.sites, ?_, h.form, fun k' r' hk => ?_, fun k' r' hk => ?_, h.nd, h.neT, h.neg, h.Tg⟩
  · exact (h.blk.far (p := ⟨r, x, none⟩) hrT _).set_ 5 _
  · have h1 := h.has k' r' hk
    rw [World.cell?_setCell_other _ _ _ _ (by intro e; injection e with e1; exact h.Tg e1), World.cell?_setCell_other _ _ _ _ (by intro e; injection e with e1; exact hgr e1.symm)]
    exact h1
  · have hr'T : r' ≠ t.T := fun e => h.neT (e ▸ List.mem_of_getElem? hk)
    have h1 := h.rows k' r' hk
    refine Blk.far ?_ hr'T _
    by_cases e : k' = k
    · subst e
      obtain rfl : r = r' := Option.some.inj (hr.symm.trans hk)
      have h2 := h1.set_ x (.bool true)
      rw [rowCells_set _ hx] at h2
      have : (fun j => if j = x then true else st.1 k' j) = upd st.1 k' x k' := by funext j; simp [upd]
      rw [this] at h2
      exact h2
    · have hne : r' ≠ r := fun e' => e (by
        have l1 := List.getElem?_eq_some_iff.1 hk
        have l2 := List.getElem?_eq_some_iff.1 hr
        obtain ⟨b1, e1⟩ := l1
        obtain ⟨b2, e2⟩ := l2
        exact (List.getElem_inj (h₀ := b1) (h₁ := b2) h.nd).1 (by rw [e1, e2, e']))
      have : upd st.1 k x k' = st.1 k' := by funext j; simp [upd, e]
      show Blk _ r' 4 (rowCells t.n (upd st.1 k x k'))
      rw [this]
      exact h1.far (p := ⟨r, x, none⟩) hne _

/-- what a call upon a table leaves -/
def TabPost (w : World) (s : Sys) (t : TabAt) (st : St) (e : Ending) (w' : World) : Prop := e = .returned (.tuple #[]) ∧ Only t.own w w' ∧ Tab w' s t st

theorem getT {t : TabAt} {k : Int} (h0 : 0 ≤ k) (h1 : k < t.R.length) : ∃ r, t.R[k.toNat]? = some r := ⟨_, get_at (by omega)⟩

set_option maxRecDepth 100000 in
theorem put_any (s : Sys) (t : TabAt) (st : St) (k x : Int) (w : World) (h : Tab w s t st) (k0 : 0 ≤ k) (k1 : k < t.R.length) (x0 : 0 ≤ x) (x1 : x < t.n) :
    Calls Tryd.prog 62 #[.pointer (some ⟨t.T, 0, none⟩), .int .i64 k, .int .i64 x] w (TabPost w s t (putS st k.toNat x.toNat)) := by
  obtain ⟨r, hr⟩ := getT k0 k1
  have c1 : w.cell? ⟨t.T, 4, none⟩ = some (.slice (some ⟨t.g, 0, none⟩) t.R.length t.cap) := h.has_cell hr
  have c2 := h.has _ _ hr
  have c3 : w.cell? ⟨r, x.toNat, none⟩ = some (.bool (st.1 k.toNat x.toNat)) := ((h.rows _ _ hr).cell _).trans (rowCells_at _ (by omega))
  have c4 : w.cell? ⟨t.T, 5, none⟩ = some (.bool st.2) := h.blk.cell 5
  have f1 : w.frozen? ⟨r, x.toNat, none⟩ = false := (h.rows _ _ hr).frozen _
  have f2 : w.frozen? ⟨t.T, 5, none⟩ = false := h.blk.frozen 5
  have hrT : ¬ r = t.T := fun e => h.neT (e ▸ List.mem_of_getElem? hr)
  have H := Lib.hid h
  have HR := Lib.hid hr
  clear h hr
  cases hq : st.1 k.toNat x.toNat
  · rw [hq] at c3
    have hP : Hid (putS st k.toNat x.toNat = (upd st.1 k.toNat x.toNat, true)) := by unfold Hid putS; rw [if_neg (by rw [hq]; exact Bool.false_ne_true)]
    clear hq
    go_enter Tryd.func62, Tryd.ntmps62
    go_wp2
    go_end0
    refine ⟨rfl, ((Only.refl _ _).setCell (.inl (.inr (List.mem_of_getElem? HR.out))) _).setCell (.inl (.inl rfl)) _, ?_⟩
    rw [hP.out]
    exact H.out.put HR.out (by omega)
  · rw [hq] at c3
    have hP : Hid (putS st k.toNat x.toNat = st) := by unfold Hid putS; rw [if_pos hq]
    clear hq
    go_enter Tryd.func62, Tryd.ntmps62
    go_wp2
    go_end0
    exact ⟨rfl, Only.refl _ _, by rw [hP.out]; exact H.out⟩
end Go.Proofs.YtcfiohphjlohhaaDoor
