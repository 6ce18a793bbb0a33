/- math/bits.TrailingZeros64 of a word of at most twelve bits. -/
import Derived.Test.YtcfiohphjlohhaaDoorT20
namespace Go.Proofs.YtcfiohphjlohhaaDoor
open Go.RowKit

def tzTab : List Nat := [0, 1, 56, 2, 57, 49, 28, 3, 61, 58, 42, 50, 38, 29, 17, 4, 62, 47, 59, 36, 45, 43, 51, 22, 53, 39, 33, 30, 24, 18, 12, 5, 63, 55, 48, 27, 60, 41, 37, 16, 46, 35, 44, 21, 52, 32, 23, 11, 54, 26, 40, 15, 34, 20, 31, 10, 25, 14, 19, 9, 13, 8, 7, 6]
/-- the lowest bit -/
def ctz (x : Nat) : Nat := (List.range 12).foldr (fun k r => if x.testBit k then k else r) 0
def tzIx (x : Nat) : Nat := ((x &&& (18446744073709551616 - x)) * 285870213051353865 % 18446744073709551616) / 288230376151711744
def tzChk (x : Nat) : Bool := x == 0 || (tzTab[tzIx x]? == some (ctz x) && decide (tzIx x < 64) && x.testBit (ctz x) && (List.range (ctz x)).all (fun j => !x.testBit j) && (x &&& (x - 1)) == (x ^^^ 2 ^ ctz x) && decide (ctz x < 12))
theorem tzChk_all : (List.range 4096).all tzChk = true := by decide +kernel
theorem tz_spec {x : Nat} (hx : x < 4096) (h0 : 0 < x) : tzTab[tzIx x]? = some (ctz x) ∧ tzIx x < 64 ∧ x.testBit (ctz x) = true ∧ (∀ j, j < ctz x → x.testBit j = false) ∧ (x &&& (x - 1)) = (x ^^^ 2 ^ ctz x) ∧ ctz x < 12 := by
  have h := List.all_eq_true.1 tzChk_all x (List.mem_range.2 hx)
  unfold tzChk at h
  have hne : (x == 0) = false := by simp; omega
  rw [hne, Bool.false_or] at h
  simp only [Bool.and_eq_true, decide_eq_true_eq, beq_iff_eq, List.all_eq_true, List.mem_range, Bool.not_eq_true'] at h
  obtain ⟨⟨⟨⟨⟨h1, h2⟩, h3⟩, h4⟩, h5⟩, h6⟩ := h
  exact ⟨h1, h2, h3, h4, h5, h6⟩

/-- the table of the library, in memory -/
def TzMem (w : World) : Prop := ∀ i v : Nat, tzTab[i]? = some v → w.cell? ⟨0, i, none⟩ = some (.int .u8 v)
theorem TzMem.below {w w' : World} (h : TzMem w) (hb : Below w.heap.size w w') : TzMem w' := fun i v hi => cell_keep hb (h i v hi)
theorem TzMem.only {S : Nat → Prop} {w w' : World} (h : TzMem w) (hb : Only S w w') (hs : ¬ S 0) : TzMem w' := fun i v hi => hb.keep (h i v hi) hs

theorem tz_neg {x : Nat} (hx : x < 4096) (h0 : 0 < x) : IntKind.u64.wrap (-(x : Int)) = ((18446744073709551616 - x : Nat) : Int) := by
  rw [IntKind.wrap_u64]; omega
theorem tz_ix0 (y : Nat) : IntKind.u64.wrap ((y : Int) * 285870213051353865) / 288230376151711744 = (((y * 285870213051353865 % 18446744073709551616) / 288230376151711744 : Nat) : Int) := by
  rw [IntKind.wrap_u64]; omega
theorem tz_ix {x : Nat} (hx : x < 4096) (h0 : 0 < x) : IntKind.u64.wrap (bits BinOp.and IntKind.u64 (x : Int) (IntKind.u64.wrap (-(x : Int))) * 285870213051353865) / 288230376151711744 = ((tzIx x : Nat) : Int) := by
  rw [tz_neg hx h0, u64_and_nat _ _ (by omega) (by omega), tz_ix0]
  rfl

theorem tz_walk (x j k : Nat) (w : World) (hne : ((x : Int) == 0) = false)
    (hix : IntKind.u64.wrap (bits BinOp.and IntKind.u64 (x : Int) (IntKind.u64.wrap (-(x : Int))) * 285870213051353865) / 288230376151711744 = ((j : Nat) : Int))
    (hc : w.cell? ⟨0, j, none⟩ = some (.int .u8 k)) (s3 : (j : Int) < 64) (s6 : k < 12) :
    Calls Tryd.prog 89 #[.int .u64 x] w fun e w' => e = .returned (.int .i64 k) ∧ w = w' := by
  go_enter Tryd.func89, Tryd.ntmps89
  go_wp2
  go_ret
  exact ⟨by simp, rfl⟩

theorem tz_any (x : Nat) (w : World) (hx : x < 4096) (h0 : 0 < x) (hT : TzMem w) :
    Calls Tryd.prog 89 #[.int .u64 x] w fun e w' => e = .returned (.int .i64 (ctz x)) ∧ w = w' :=
  tz_walk x (tzIx x) (ctz x) w (by simp; omega) (tz_ix hx h0) (hT _ _ (tz_spec hx h0).1) (by have := (tz_spec hx h0).2.1; omega) (tz_spec hx h0).2.2.2.2.2
end Go.Proofs.YtcfiohphjlohhaaDoor
