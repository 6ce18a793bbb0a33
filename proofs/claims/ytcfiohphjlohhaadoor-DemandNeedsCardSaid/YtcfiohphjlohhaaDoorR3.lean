/- Rows: constraints, systems, assignments read. -/
import Derived.Test.YtcfiohphjlohhaaDoorR1
import Derived.ChangeSlices
import Derived.SizedLaws
import Derived.Deep.Slices
namespace Go.Proofs.YtcfiohphjlohhaaDoor
open Go.RowKit Go.ChangeShapes Go.WideShapes Go.Deep

theorem ints_of_trod {H : Type} {enc : TypeId × Value → H} {w : World} {held : Bool} {fuel : Nat} {v : Value} {x : DataW H × List MemPlace} (h : DataW.trod enc Tryd.prog w 0 (fun _ => true) held fuel 37 [v] = some x) (hw : WOk 37 x.1) :
    ∃ (a : Option Addr) (c : Nat) (l : List Int), v = .slice a l.length c ∧ Ints w a l := by
  rcases open_ints Tryd.underlying37 Tryd.underlying3 ce3 h with ⟨e, _⟩ | ⟨a, len, cap, zs, e, _, hl, _, hz, rfl, hc, _⟩
  · obtain rfl : v = .slice none 0 0 := by simpa using e
    exact ⟨none, 0, [], rfl, by unfold LenOk; simp, fun i l hi => by simp at hi⟩
  · obtain rfl : v = .slice (some a) len cap := by simpa using e
    obtain ⟨w3, _⟩ := wok_slice Tryd.underlying37 hw
    rw [by3] at w3
    simp only [if_true] at hz
    have hL : LenOk len := len_ok (m := 0) (b := 8) (by decide) (by simp [lits] at w3; omega)
    obtain ⟨t1, t2⟩ := ints_of_rows (A := some a) (L := len) (C := cap) (Z := zs) hL hl hz (fun e => by cases e) (fun a' e' c hcc => by cases e'; exact hc c (by omega))
    exact ⟨some a, cap, zs.take len, by rw [t1], t2⟩

theorem ce39 : Tryd.prog.cellsOf 39 = 5 := by kernel_rfl
theorem by39 : Tryd.prog.bytesOf 39 = 56 := by kernel_rfl
set_option maxRecDepth 100000 in
theorem wok_mono {H : Type} {t u : TypeId} {d d' : DataW H} (h : WOk t d) (hs : ∀ n ∈ d'.weights Tryd.prog u, n ∈ d.weights Tryd.prog t) : WOk u d' := fun n hn => h n (hs n hn)
theorem wok_struct {H : Type} {t u : TypeId} {fs : Array Field} {ys : List (DataW H)} (ht : Tryd.prog.underlying t = some (.struct fs)) (h : WOk t (.agg ys)) (j : Nat) {d : DataW H} (hf : (fs.toList.map (·.type))[j]? = some u) (hd : ys[j]? = some d) : WOk u d := by
  have e : (DataW.agg ys).weights Tryd.prog t = DataW.weightsEach Tryd.prog (fs.toList.map (·.type)) ys := by rw [DataW.weights, ht]
  have hs : ∀ n ∈ d.weights Tryd.prog u, n ∈ (DataW.agg ys).weights Tryd.prog t := fun n hn => by rw [e]; exact DataW.weights_mem_each hf hd n hn
  exact wok_mono h hs
theorem list5 {α : Type} {l : List α} (h : l.length = 5) : ∃ a b c d e, l = [a, b, c, d, e] := by
  match l, h with
  | [a, b, c, d, e], _ => exact ⟨a, b, c, d, e, rfl⟩
/-- one constraint, read -/
theorem con_of_trod {H : Type} {enc : TypeId × Value → H} {w : World} {held : Bool} {fuel : Nat} {cs : List Value} {x : DataW H × List MemPlace} (h : DataW.trod enc Tryd.prog w 0 (fun _ => true) held fuel 39 cs = some x) (hw : WOk 39 x.1) :
    ∃ (c : Con) (a : Option Addr) (k : Nat), cs = [.int .i64 c.kind, .int .i64 c.a, .int .i64 c.b, .int .i64 c.field, .slice a c.set.length k] ∧ Ints w a c.set := by
  obtain ⟨ys, n, _, rfl, hl, hy, hf⟩ := DataW.trod_struct Tryd.underlying39 h
  rw [ce39] at hl
  obtain ⟨c0, c1, c2, c3, c4, rfl⟩ := list5 hl
  obtain ⟨y0, y1, y2, y3, y4, rfl⟩ := list5 hy
  have h0 := hf 0 _ rfl
  have h1 := hf 1 _ rfl
  have h2 := hf 2 _ rfl
  have h3 := hf 3 _ rfl
  have h4 := hf 4 _ rfl
  try simp only [ce3, ce37] at h0 h1 h2 h3 h4
  obtain ⟨k0, e0, _⟩ := DataW.trod_int Tryd.underlying3 h0
  obtain ⟨k1, e1, _⟩ := DataW.trod_int Tryd.underlying3 h1
  obtain ⟨k2, e2, _⟩ := DataW.trod_int Tryd.underlying3 h2
  obtain ⟨k3, e3, _⟩ := DataW.trod_int Tryd.underlying3 h3
  have hw4 : WOk 37 y4.1 := wok_struct (ys := [y0.1, y1.1, y2.1, y3.1, y4.1]) Tryd.underlying39 hw 4 rfl rfl
  have h4' : DataW.trod enc Tryd.prog w 0 (fun _ => true) held n 37 [c4] = some y4 := by
    have e : ([c0, c1, c2, c3, c4].drop 4).take (Tryd.prog.cellsOf 37) = [c4] := by rw [ce37]; rfl
    rw [← e]; exact h4
  obtain ⟨a, k, l, rfl, hI⟩ := ints_of_trod h4' hw4
  simp at e0 e1 e2 e3
  clear h4 h4' h0 h1 h2 h3 hf
  rw [ce3] at e0 e1 e2 e3
  simp only [List.take_succ_cons, List.take_zero, List.cons.injEq, and_true] at e0 e1 e2 e3
  subst e0; subst e1; subst e2; subst e3
  exact ⟨⟨k0, k1, k2, k3, l⟩, a, k, rfl, hI⟩
theorem add_add {a : Addr} (h : a.spot = none) (n : Nat) : (a.add n).spot = none ∧ (a.add n) = ⟨a.block, a.off + n, none⟩ := by
  obtain ⟨b, o, sp⟩ := a
  have e : sp = none := h
  subst e
  have : (Addr.add ⟨b, o, none⟩ n) = ⟨b, o + n, none⟩ := by unfold Addr.add; split <;> simp_all
  rw [this]; exact ⟨rfl, rfl⟩
/-- a []Con argument, read -/
theorem cons_of_trod {H : Type} {enc : TypeId × Value → H} {w : World} {held : Bool} {fuel : Nat} {v : Value} {x : DataW H × List MemPlace} (h : DataW.trod enc Tryd.prog w 0 (fun _ => true) held fuel 22 [v] = some x) (hw : WOk 22 x.1) :
    ∃ (a : Option Addr) (cp : Nat) (cs : List Con), v = .slice a cs.length cp ∧ Cons w a cs := by
  rcases open_slice Tryd.underlying22 h with ⟨e, _⟩ | ⟨a, len, cap, m, n, D, Pl, e, hb, hl, hcap, hm, rfl, hx⟩
  · obtain rfl : v = .slice none 0 0 := by simpa using e
    exact ⟨none, 0, [], rfl, ⟨by unfold LenOk; simp, fun i c hi => by cases i <;> cases hi⟩⟩
  obtain rfl : v = .slice (some a) len cap := by simpa using e
  simp only [if_true] at hm
  obtain ⟨w1, w2⟩ := wok_slice Tryd.underlying22 hw
  rw [by39] at w1
  simp only [List.length_map, List.length_range] at w1
  have hlen : LenOk len := len_ok (by decide) w1
  rw [ce39] at hx
  have hall : ∀ i, i < len → ∃ c : Con, ∃ b o a' c', some a = some (⟨b, o, none⟩ : Addr) ∧ w.cell? ⟨b, o + i * 5, none⟩ = some (.int .i64 c.kind) ∧ w.cell? ⟨b, o + i * 5 + 1, none⟩ = some (.int .i64 c.a) ∧
      w.cell? ⟨b, o + i * 5 + 2, none⟩ = some (.int .i64 c.b) ∧ w.cell? ⟨b, o + i * 5 + 3, none⟩ = some (.int .i64 c.field) ∧ w.cell? ⟨b, o + i * 5 + 4, none⟩ = some (.slice a' c.set.length c') ∧ Ints w a' c.set := by
    intro i hi
    obtain ⟨cs', h1, h2⟩ := hx i (by omega)
    obtain ⟨c, a', k, rfl, hI⟩ := con_of_trod h2 (w2 _ (List.mem_map.2 ⟨i, List.mem_range.2 hi, rfl⟩))
    obtain ⟨_, _, hc⟩ := World.cells?_some h1
    have h0 : a.spot = none := by
      obtain ⟨cs0, h10, h20⟩ := hx 0 (by omega)
      obtain ⟨c0, a0, k0, rfl, _⟩ := con_of_trod h20 (w2 _ (List.mem_map.2 ⟨0, List.mem_range.2 (by omega), rfl⟩))
      obtain ⟨_, _, hc0⟩ := World.cells?_some h10
      have := hc0 0 (by decide)
      rw [Nat.zero_mul] at this
      exact spot_of (by have t := World.cell?_spot this; simpa [Addr.add] using this)
    obtain ⟨s1, s2⟩ := add_add h0 (i * 5)
    have e0 := add_at s1 (hc 0 (by decide))
    have e1 := add_at s1 (hc 1 (by decide))
    have e2 := add_at s1 (hc 2 (by decide))
    have e3 := add_at s1 (hc 3 (by decide))
    have e4 := add_at s1 (hc 4 (by decide))
    rw [s2] at e0 e1 e2 e3 e4
    refine ⟨c, a.block, a.off, a', k, ?_, e0, e1, e2, e3, e4, hI⟩
    obtain ⟨b, o, sp⟩ := a
    have e : sp = none := h0
    subst e; rfl
  haveI : Inhabited Con := ⟨⟨0, 0, 0, 0, []⟩⟩
  obtain ⟨f, hf⟩ := choose_lt hall
  refine ⟨some a, cap, (List.range len).map f, by simp, by simpa using hlen, fun i c hi => ?_⟩
  rw [List.getElem?_map] at hi
  by_cases hlt : i < len
  · rw [List.getElem?_range hlt] at hi
    simp only [Option.map_some, Option.some.injEq] at hi
    subst hi
    exact hf i hlt
  · rw [List.getElem?_eq_none (by simp; omega)] at hi; cases hi
end Go.Proofs.YtcfiohphjlohhaaDoor
