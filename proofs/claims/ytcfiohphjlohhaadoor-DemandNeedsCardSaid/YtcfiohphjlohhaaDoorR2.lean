/- Rows: the library's table, out of the listed variable. -/
import Derived.Test.YtcfiohphjlohhaaDoorRows
import Derived.Test.YtcfiohphjlohhaaDoorT21
import Derived.ProofKit
import Derived.LaidMore
import Derived.OpenShut
import Derived.Stop.Joined
namespace Go.Proofs.YtcfiohphjlohhaaDoor
open Go.ChangeShapes Go.WideShapes Go.ChangeAt Go.WideMaps Go.WideElems Go.RowKit

theorem own : ownKnob Tryd.prog.godebug = none := by kernel_rfl
theorem gTz : Tryd.prog.globalNamed "math/bits.deBruijn64tab" = some 0 := by kernel_rfl
theorem tTz : (Tryd.prog.globals[0]?).map (·.type) = some 103 := by kernel_rfl
theorem tz_of_laid {W : World} (h : laidMetH Tryd.prog [("math/bits.deBruijn64tab", Rows.laid_math_bits_deBruijn64tab)] W) : TzMem W := by
  rw [MakeChecks.laidMetH_plain _ _ _ (by kernel_rfl)] at h
  obtain ⟨ps, ⟨g0, t0, cs0, f0, p0, q0, hg0, ht0, hv0, hd0, _⟩, _, _⟩ := h
  obtain rfl := Option.some.inj (gTz.symm.trans hg0)
  obtain rfl := Option.some.inj (tTz.symm.trans ht0)
  obtain ⟨xs, m1, rfl, hx1, hlen, hn3, hel⟩ := DataW.trod_array Tryd.underlying103 hd0
  have c5 : Tryd.prog.cellsOf 5 = 1 := by kernel_rfl
  have c103 : Tryd.prog.cellsOf 103 = 64 := by kernel_rfl
  have hl : (Rows.laid_math_bits_deBruijn64tab : DataW Unit) = .agg (tzTab.map fun v : Nat => DataW.lit (.int .u8 (v : Int))) := rfl
  rw [hl] at hx1
  simp only [Prod.mk.injEq, DataW.agg.injEq] at hx1
  have hmap := hx1.1
  rw [c103] at hlen
  intro i v hi
  have hi64 : i < 64 := by have := (List.getElem?_eq_some_iff.1 hi).1; exact this
  have h1 := hel i hi64
  rw [c5, Nat.mul_one, List.drop_eq_getElem_cons (by omega), List.take_succ_cons, List.take_zero, List.getElem?_eq_getElem (by omega)] at h1
  obtain ⟨k, e1, e2, _⟩ := DataW.trod_int Tryd.underlying5 h1
  have h2 : (xs.map (·.1))[i]? = some (DataW.lit (.int .u8 (v : Int))) := by rw [← hmap, List.getElem?_map, hi]; rfl
  rw [List.getElem?_map, List.getElem?_eq_getElem (by omega), Option.map_some, e2] at h2
  have h3 := World.var?_cell hg0 hv0 i
  rw [h3]
  have h4 : cs0[i]? = some (cs0.toList[i]'(by omega)) := by rw [← Array.getElem?_toList]; exact List.getElem?_eq_getElem _
  rw [h4]
  have hk : k = v := by simpa using h2
  have e3 : cs0.toList[i]'(by omega) = Value.int IntKind.u8 k := by simpa using e1
  rw [e3, hk]
/-- the door's own heap meets the condition -/
theorem door_met (os : Os) (args : Array Value) : laidMetH Tryd.prog [("math/bits.deBruijn64tab", Rows.laid_math_bits_deBruijn64tab)] ((World.doorLaid Tryd.prog 400 os).forCall (fun _ _ => 0) ⟨#[], args, []⟩).memory :=
  laidMetH_of_parts3 (fuel := 8) (laidMet_of_run' 8 (by kernel_rfl) (by kernel_rfl)) (by kernel_rfl) (by kernel_rfl)
end Go.Proofs.YtcfiohphjlohhaaDoor
