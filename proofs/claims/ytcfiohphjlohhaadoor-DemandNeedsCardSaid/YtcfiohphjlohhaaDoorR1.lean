/- Rows: the arguments opened. -/
import Derived.Test.YtcfiohphjlohhaaDoorBase
import Derived.Test.YtcfiohphjlohhaaDoorRows
import Derived.Deep.Matrix
namespace Go.Proofs.YtcfiohphjlohhaaDoor
open Go.RowKit Go.ChangeShapes Go.WideShapes Go.Deep

theorem add_at {w : World} {a : Addr} {n : Nat} {v : Value} (h0 : a.spot = none) (h : w.cell? (a.add n) = some v) : w.cell? ⟨a.block, a.off + n, none⟩ = some v := by
  obtain ⟨b, o, sp⟩ := a
  have e : sp = none := h0
  subst e
  unfold Addr.add at h
  split at h
  · rename_i e; subst e; exact h
  · exact h
theorem spot_of {w : World} {a : Addr} {v : Value} (h : w.cell? (a.add 0) = some v) : a.spot = none := World.cell?_spot (by simpa [Addr.add] using h)

theorem ints_of_rows {w : World} {A : Option Addr} {L C : Nat} {Z : List Int} (hL : LenOk L) (hLC : L ≤ C) (hZ : Z.length = C) (hA : A = none → C = 0) (hc : ∀ a', A = some a' → ∀ c, c < C → w.cell? (a'.add c) = some (.int .i64 (Z.getD c 0))) :
    (Z.take L).length = L ∧ Ints w A (Z.take L) := by
  have hl : (Z.take L).length = L := by rw [List.length_take]; omega
  refine ⟨hl, by rw [hl]; exact hL, fun i x hi => ?_⟩
  have hi' : i < L := by have := (List.getElem?_eq_some_iff.1 hi).1; omega
  cases A with
  | none => have := hA rfl; omega
  | some a =>
    have h0 := spot_of (hc a rfl 0 (by omega))
    have h1 := add_at h0 (hc a rfl i (by omega))
    refine ⟨a.block, a.off, ?_, ?_⟩
    · obtain ⟨b, o, sp⟩ := a
      have e : sp = none := h0
      subst e; rfl
    · rw [h1]
      rw [List.getElem?_take, if_pos hi'] at hi
      rw [List.getD_eq_getElem?_getD, hi]; rfl

/-- what weighs d, weighs little -/
def WOk {H : Type} (t : TypeId) (d : DataW H) : Prop := ∀ n ∈ d.weights Tryd.prog t, n ≤ reachBytes
theorem mem_all {H : Type} {e : TypeId} {n : Nat} {d : DataW H} (hn : n ∈ d.weights Tryd.prog e) : ∀ {l : List (DataW H)}, d ∈ l → n ∈ DataW.weightsAll Tryd.prog e l
  | [], h => by cases h
  | a :: l, h => by
    simp only [DataW.weightsAll]
    rcases List.mem_cons.1 h with rfl | h
    · exact List.mem_append_left _ hn
    · exact List.mem_append_right _ (mem_all hn h)
theorem wok_slice {H : Type} {t e : TypeId} {l m : List (DataW H)} (ht : Tryd.prog.underlying t = some (.slice e)) (h : WOk t (.slice l m)) : (l.length + m.length) * Tryd.prog.bytesOf e ≤ reachBytes ∧ ∀ d ∈ l, WOk e d := by
  unfold WOk at h
  simp only [DataW.weights, ht] at h
  exact ⟨h _ List.mem_cons_self, fun d hd n hn => h n (List.mem_cons_of_mem _ (List.mem_append_left _ (mem_all hn hd)))⟩

theorem ce37 : Tryd.prog.cellsOf 37 = 1 := by kernel_rfl
theorem ce3 : Tryd.prog.cellsOf 3 = 1 := by kernel_rfl
theorem by37 : Tryd.prog.bytesOf 37 = 24 := by kernel_rfl
theorem by3 : Tryd.prog.bytesOf 3 = 8 := by kernel_rfl
theorem len_ok {n m b : Nat} (hb : 1 ≤ b) (h : (n + m) * b ≤ reachBytes) : LenOk n := by
  have h1 : reachBytes < 2 ^ 47 := by decide
  have h2 : (n + m) * 1 ≤ (n + m) * b := Nat.mul_le_mul_left _ hb
  unfold LenOk
  omega
/-- a slice of slices of whole numbers, read -/
theorem rows_of_trod {H : Type} {enc : TypeId × Value → H} {w : World} {held : Bool} {fuel : Nat} {v : Value} {x : DataW H × List MemPlace} (h : DataW.trod enc Tryd.prog w 0 (fun _ => true) held fuel 27 [v] = some x) (hw : WOk 27 x.1) :
    ∃ (a : Option Addr) (c : Nat) (ll : List (List Int)), v = .slice a ll.length c ∧ Rows2 w a ll := by
  rcases open_int_rows Tryd.underlying27 Tryd.underlying37 Tryd.underlying3 ce37 ce3 h with ⟨e, _⟩ | ⟨a, len, cap, A, L, C, Z, e, _, hl, _, rfl, hr⟩
  · obtain rfl : v = .slice none 0 0 := by simpa using e
    exact ⟨none, 0, [], rfl, by unfold LenOk; simp, fun i l hi => by simp at hi⟩
  · obtain rfl : v = .slice (some a) len cap := by simpa using e
    obtain ⟨w1, w2⟩ := wok_slice Tryd.underlying27 hw
    rw [by37] at w1
    simp only [List.length_map, List.length_range] at w1
    have hlen : LenOk len := len_ok (by decide) w1
    refine ⟨some a, cap, (List.range len).map fun r => (Z r).take (L r), by simp, by simpa using hlen, fun i l hi => ?_⟩
    rw [List.getElem?_map] at hi
    by_cases hlt : i < len
    · rw [List.getElem?_range hlt] at hi
      simp only [Option.map_some, Option.some.injEq] at hi
      subst hi
      obtain ⟨hc, hLC, _, hZ, _, hA, hcs⟩ := hr i (by omega)
      have hL : LenOk (L i) := by
        cases hAi : A i with
        | none => have := hA hAi; unfold LenOk; omega
        | some a' =>
          have hd : WOk 37 (intRow .i64 (A i) (L i) (Z i) : DataW H) := w2 _ (List.mem_map.2 ⟨i, List.mem_range.2 hlt, rfl⟩)
          rw [hAi] at hd
          unfold intRow at hd
          obtain ⟨w3, _⟩ := wok_slice Tryd.underlying37 hd
          rw [by3] at w3
          refine len_ok (m := 0) (b := 8) (by decide) ?_
          simp [lits] at w3
          omega
      obtain ⟨t1, t2⟩ := ints_of_rows hL hLC hZ hA fun a' e' => (hcs a' e').2
      have h0 : a.spot = none := by
        obtain ⟨hc0, _⟩ := hr 0 (by omega)
        exact spot_of hc0
      refine ⟨a.block, a.off, A i, C i, ?_, ?_, t2⟩
      · obtain ⟨b, o, sp⟩ := a
        have e0 : sp = none := h0
        subst e0; rfl
      · rw [t1]; exact add_at h0 hc
    · rw [List.getElem?_eq_none (by simp; omega)] at hi; cases hi
end Go.Proofs.YtcfiohphjlohhaaDoor
