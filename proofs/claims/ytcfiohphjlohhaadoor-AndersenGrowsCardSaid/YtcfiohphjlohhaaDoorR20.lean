/- Rows: a system's list is no longer than its room. -/
import Derived.Test.YtcfiohphjlohhaaDoorR4
namespace Go.Proofs.YtcfiohphjlohhaaDoor
open Go.RowKit Go.ChangeShapes Go.WideShapes Go.Deep Go.WideElems Go.Joins

set_option maxRecDepth 100000 in
theorem sys_cap {H : Type} {enc : TypeId × Value → H} {w : World} {held : Bool} {r : Reach} {b0 : Nat} {s : Sys} {a : Option Addr} {c : Nat} {d : DataW H} {p : List MemPlace} (hv : Value.okWide Tryd.prog w r b0 24 (sysV s a c)) (h : DataW.Trod enc Tryd.prog w 0 (fun _ => true) held 24 (sysV s a c) d p) : s.cons.length ≤ c := by
  obtain ⟨v0, v1, v2, v3, y0, y1, y2, y3, n, e, rfl, _, _, _, _, h3⟩ := open_agg4 Tryd.underlying24 (by kernel_rfl) ce24 hv h
  obtain rfl : v3 = .slice a s.cons.length c := by
    simp only [Value.agg.injEq] at e
    have := congrArg Array.toList e
    simp only [List.cons.injEq] at this
    exact this.2.2.2.1.symm
  rcases open_slice Tryd.underlying22 h3 with ⟨e, _⟩ | ⟨a', len, cap, m, n, D, Pl, e, hb, hl, _⟩
  · simp only [List.cons.injEq, Value.slice.injEq, and_true] at e
    omega
  · simp only [List.cons.injEq, Value.slice.injEq, and_true] at e
    omega
end Go.Proofs.YtcfiohphjlohhaaDoor
