/- The program's solver is made: newSolver. -/
import Derived.Test.YtcfiohphjlohhaaDoorT27
namespace Go.Proofs.YtcfiohphjlohhaaDoor
open Go.RowKit

def newAt (S B1 B2 V C n : Nat) (aS : Option Addr) (cS : Nat) : SolAt := ⟨S, B1, B2, aS, cS, n, (List.range V).map (B1 + 1 + ·), (List.range C).map (B2 + 1 + ·)⟩
theorem range_at {B N k r : Nat} (h : ((List.range N).map (B + ·))[k]? = some r) : k < N ∧ r = B + k := by
  rw [List.getElem?_map] at h
  by_cases hk : k < N
  · rw [List.getElem?_range hk] at h
    simp at h
    exact ⟨hk, by omega⟩
  · rw [List.getElem?_eq_none (by simp; omega)] at h
    cases h
theorem new_sol {w w1 w2 w3 : World} {s : Sys} {S V C n : Nat} {aS : Option Addr} {cS : Nat} (hs : s.sites = n) (hV : s.vars = V) (hC : s.sites * s.fields = C)
    (hS : S < w.heap.size) (hb : Blk w S 77 #[.int .i64 s.vars, .int .i64 s.sites, .int .i64 s.fields, .slice aS s.cons.length cS, .int .i64 (wd n), .slice none 0 0, .slice none 0 0])
    (h1 : Sets w.heap.size n V V w w1) (h2 : Sets w1.heap.size n C C w1 w2)
    (e3 : w3 = (w2.setCell ⟨S, 5, none⟩ (.slice (some ⟨w.heap.size, 0, none⟩) V V)).setCell ⟨S, 6, none⟩ (.slice (some ⟨w1.heap.size, 0, none⟩) C C)) :
    Sol w3 s (newAt S w.heap.size w1.heap.size V C n aS cS) fun _ _ => false := by
  have z1 := h1.size
  have z2 := h2.size
  have b1 : Blk w1 S 77 _ := hb.below h1.below
  have b2 : Blk w2 S 77 _ := b1.below h2.below
  have far : ∀ {g : Nat} {ty : TypeId} {cs : Array Value}, Blk w2 g ty cs → g ≠ S → Blk w3 g ty cs := fun {g _ _} hg hne => by
    rw [e3]; exact (hg.far (p := ⟨S, 5, none⟩) hne _).far (p := ⟨S, 6, none⟩) hne _
  have a1 : Blk w3 w.heap.size 88 _ := far (h1.arr.below h2.below) (by omega)
  have a2 : Blk w3 w1.heap.size 88 _ := far h2.arr (by omega)
  refine ⟨hs, by simp [newAt, hV], by simp [newAt, hC], ?_, fun k r hk => ?_, fun k r hk => ?_, fun k r hk => ?_, ?_, fun e => ?_, fun e => ?_, fun e => ?_⟩
  · rw [e3]
    have := (b2.set_ 5 (.slice (some ⟨w.heap.size, 0, none⟩) V V)).set_ 6 (.slice (some ⟨w1.heap.size, 0, none⟩) C C)
    simpa [newAt] using this
  · obtain ⟨hk1, rfl⟩ := range_at hk
    show w3.cell? ⟨w.heap.size, k, none⟩ = _
    rw [a1.cell, rowsArr_at hk1, if_pos hk1]; rfl
  · obtain ⟨hk1, rfl⟩ := range_at hk
    show w3.cell? ⟨w1.heap.size, k, none⟩ = _
    rw [a2.cell, rowsArr_at hk1, if_pos hk1]; rfl
  · have hk : ((List.range V).map (w.heap.size + 1 + ·) ++ (List.range C).map (w1.heap.size + 1 + ·))[k]? = some r := hk
    by_cases hlt : k < V
    · rw [List.getElem?_append_left (by simpa using hlt)] at hk
      obtain ⟨hk1, rfl⟩ := range_at hk
      exact far ((h1.rows k hk1).below h2.below) (by omega)
    · rw [List.getElem?_append_right (by simp; omega)] at hk
      obtain ⟨hk1, rfl⟩ := range_at hk
      exact far (h2.rows _ hk1) (by omega)
  · show ((List.range V).map (w.heap.size + 1 + ·) ++ (List.range C).map (w1.heap.size + 1 + ·)).Nodup
    rw [List.nodup_append]
    refine ⟨List.Pairwise.map _ (fun a b h => by intro e; exact h (by omega)) (List.nodup_range (n := V)), List.Pairwise.map _ (fun a b h => by intro e; exact h (by omega)) (List.nodup_range (n := C)), fun a ha b hb => ?_⟩
    simp only [List.mem_map, List.mem_range] at ha hb
    obtain ⟨x, hx, rfl⟩ := ha
    obtain ⟨y, hy, rfl⟩ := hb
    omega
  · have e : S ∈ (List.range V).map (w.heap.size + 1 + ·) ++ (List.range C).map (w1.heap.size + 1 + ·) := e
    simp only [List.mem_append, List.mem_map, List.mem_range] at e
    rcases e with ⟨x, hx, he⟩ | ⟨x, hx, he⟩ <;> omega
  · have e : w.heap.size ∈ (List.range V).map (w.heap.size + 1 + ·) ++ (List.range C).map (w1.heap.size + 1 + ·) := e
    simp only [List.mem_append, List.mem_map, List.mem_range] at e
    rcases e with ⟨x, hx, he⟩ | ⟨x, hx, he⟩ <;> omega
  · have e : w1.heap.size ∈ (List.range V).map (w.heap.size + 1 + ·) ++ (List.range C).map (w1.heap.size + 1 + ·) := e
    simp only [List.mem_append, List.mem_map, List.mem_range] at e
    rcases e with ⟨x, hx, he⟩ | ⟨x, hx, he⟩ <;> omega

/-- what newSolver returns -/
def NewPost (s : Sys) (n : Nat) (aS : Option Addr) (cS : Nat) (w : World) (e : Ending) (w' : World) : Prop :=
  ∃ t : SolAt, e = .returned (.pointer (some ⟨t.S, 0, none⟩)) ∧ Sol w' s t (fun _ _ => false) ∧ Below w.heap.size w w' ∧ (∀ k, t.own k → w.heap.size ≤ k) ∧ t.aS = aS ∧ t.cS = cS ∧ t.n = n ∧ w.heap.size ≤ t.S

theorem newAt_own {S B1 B2 V C n : Nat} {aS : Option Addr} {cS : Nat} {B : Nat} (h1 : B ≤ B1) (h2 : B ≤ B2) : ∀ k, (newAt S B1 B2 V C n aS cS).own k → B ≤ k := fun k hk => by
  have hk : k ∈ (List.range V).map (B1 + 1 + ·) ++ (List.range C).map (B2 + 1 + ·) := hk
  simp only [List.mem_append, List.mem_map, List.mem_range] at hk
  rcases hk with ⟨x, hx, he⟩ | ⟨x, hx, he⟩ <;> omega

set_option maxRecDepth 100000 in
set_option maxHeartbeats 1000000 in
theorem newSolver_any (s : Sys) (n : Nat) (aS : Option Addr) (cS : Nat) (w : World) (hn : s.sites = n) (h12 : n ≤ 12) (ok : SysOk s) :
    Calls Tryd.prog 36 #[sysV s aS cS] w (NewPost s n aS cS w) := by
  have b0 := ok.vars
  have b2 := ok.fields
  have bp := ok.prod
  have hp := Int.mul_nonneg ok.sites.1 b2.1
  obtain ⟨sv, ss, F, cons⟩ := s
  obtain ⟨V, hV⟩ : ∃ V : Nat, sv = V := ⟨sv.toNat, by simp only at b0; omega⟩
  obtain ⟨C, hC⟩ : ∃ C : Nat, ss * F = C := ⟨(ss * F).toNat, by simp only at hp; omega⟩
  simp only at hn hV b0 b2 bp hp
  subst hn hV
  have hwd : ((n : Int) + 63) / 64 = wd n := by unfold wd; split <;> omega
  have hsb : (n : Int) ≤ 12 := by omega
  have hw : IntKind.i64.wrap ((n : Int) * F) = C := by rw [hC]; exact IntWalk.i64_in _ (by omega)
  have hVb : V ≤ 200000 := by omega
  have hCb : C ≤ 200000 := by omega
  have HC := Lib.hid hC
  dsimp only [sysV]
  clear hp bp ok hC
  go_enter Tryd.func36, Tryd.ntmps36
  go_wp2
  have K1 := (Blk.new w 24 #[.int .i64 V, .int .i64 n, .int .i64 F, .slice aS cons.length cS]).below ((Below.refl _ _).alloc (Nat.le_refl _) (.cells #[.int .i64 V, .int .i64 n, .int .i64 F, .slice aS cons.length cS, .int .i64 (wd n), .slice none 0 0, .slice none 0 0] 77))
  have K2 := Blk.new (w.alloc (.cells #[.int .i64 V, .int .i64 n, .int .i64 F, .slice aS cons.length cS] 24)) 77 #[.int .i64 V, .int .i64 n, .int .i64 F, .slice aS cons.length cS, .int .i64 (wd n), .slice none 0 0, .slice none 0 0]
  have KB := below_two w (.cells #[.int .i64 V, .int .i64 n, .int .i64 F, .slice aS cons.length cS] 24) (.cells #[.int .i64 V, .int .i64 n, .int .i64 F, .slice aS cons.length cS, .int .i64 (wd n), .slice none 0 0, .slice none 0 0] 77)
  rw [World.size_alloc] at K2
  have hsz : ((w.alloc (.cells #[.int .i64 V, .int .i64 n, .int .i64 F, .slice aS cons.length cS] 24)).alloc (.cells #[.int .i64 V, .int .i64 n, .int .i64 F, .slice aS cons.length cS, .int .i64 (wd n), .slice none 0 0, .slice none 0 0] 77)).heap.size = w.heap.size + 1 + 1 := by simp
  generalize (w.alloc (.cells #[.int .i64 V, .int .i64 n, .int .i64 F, .slice aS cons.length cS] 24)).alloc (.cells #[.int .i64 V, .int .i64 n, .int .i64 F, .slice aS cons.length cS, .int .i64 (wd n), .slice none 0 0, .slice none 0 0] 77) = wa at *
  have k1 := K1.cell
  have HK1 := Lib.hid K1
  have HK2 := Lib.hid K2
  have HKB := Lib.hid KB
  clear K1 K2 KB
  have HS4 : Hid (wa.drew.cell? ⟨w.heap.size + 1, 4, none⟩ = some (.int .i64 (wd n))) := HK2.out.cell 4
  go_region_with (first
    | (go_at_call 59; (with_reducible refine (sets2_any (w.heap.size + 1) n V wa.drew hVb HS4.out).mono ?_); rintro e w1 ⟨rfl, h1⟩; replace h1 : Hid (Sets wa.heap.size n V V wa w1) := ⟨below_un_drew h1.below, h1.size, h1.arr, h1.rows⟩; have k2 := (HK1.out.below h1.out.below).cell; have hS5 : w1.cell? ⟨w.heap.size + 1, 4, none⟩ = some (.int .i64 (wd n)) := (HK2.out.below h1.out.below).cell 4)
    | (go_at_call 59; refine (sets2_any (w.heap.size + 1) n C _ hCb hS5).mono ?_; rintro e w2 ⟨rfl, h2⟩; replace h2 := Lib.hid h2; have q5 := ((HK2.out.below h1.out.below).below h2.out.below).frozen 5; have q6 := ((HK2.out.below h1.out.below).below h2.out.below).frozen 6; have q7 : w2.cell? ⟨w.heap.size + 1, 5, none⟩ = some (.slice none 0 0) := ((HK2.out.below h1.out.below).below h2.out.below).cell 5; have q8 : w2.cell? ⟨w.heap.size + 1, 6, none⟩ = some (.slice none 0 0) := ((HK2.out.below h1.out.below).below h2.out.below).cell 6))
  all_goals go_wp2
  all_goals go_ret
  all_goals
    have hsol := new_sol (s := ⟨(V : Int), (n : Int), F, cons⟩) (S := w.heap.size + 1) (n := n) (aS := aS) (cS := cS) rfl rfl HC.out (by omega) HK2.out h1.out h2.out rfl
    have hz1 := h1.out.size
    refine ⟨newAt (w.heap.size + 1) wa.heap.size w1.heap.size V C n aS cS, rfl, by rw [← hsz]; exact hsol, ?_, newAt_own (by omega) (by omega), rfl, rfl, rfl, by simp [newAt]⟩
    have hb1 : Below w.heap.size w w1 := HKB.out.trans (h1.out.below.mono (by omega))
    have hb2 : Below w.heap.size w w2 := hb1.trans (h2.out.below.mono (by omega))
    exact (hb2.setCell (p := ⟨w.heap.size + 1, 5, none⟩) (by simp) _).setCell (p := ⟨w.heap.size + 1, 6, none⟩) (by simp) _
end Go.Proofs.YtcfiohphjlohhaaDoor
