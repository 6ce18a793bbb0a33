/- Rows: systems and assignments read; the last step of a row. -/
import Derived.ProofKit
import Derived.LaidMore
import Derived.OpenShut
import Derived.Stop.Joined
import Derived.Test.YtcfiohphjlohhaaDoorR3
import Derived.Lib.SmallJoins
import Derived.Below
import Derived.ChangeSame
namespace Go.Proofs.YtcfiohphjlohhaaDoor
open Go.RowKit Go.ChangeShapes Go.WideShapes Go.Deep Go.WideElems Go.Joins

theorem ce24 : Tryd.prog.cellsOf 24 = 4 := by kernel_rfl
theorem ce29 : Tryd.prog.cellsOf 29 = 2 := by kernel_rfl
theorem laidOut : laidOutB Tryd.prog = true := by kernel_rfl

theorem wok_of_each {H : Type} : ∀ {ts : List TypeId} {ds : List (DataW H)}, (DataW.weightsEach Tryd.prog ts ds).all (· ≤ reachBytes) = true → ∀ (j : Nat) (t : TypeId) (d : DataW H), ts[j]? = some t → ds[j]? = some d → WOk t d := by
  intro ts ds h j t d ht hd n hn
  have := List.all_eq_true.1 h n (DataW.weights_mem_each ht hd n hn)
  simpa using this

set_option maxRecDepth 100000 in
/-- a system argument, read -/
theorem sys_of_trod {H : Type} {enc : TypeId × Value → H} {w : World} {held : Bool} {r : Reach} {b0 : Nat} {v : Value} {d : DataW H} {p : List MemPlace} (hv : Value.okWide Tryd.prog w r b0 24 v) (h : DataW.Trod enc Tryd.prog w 0 (fun _ => true) held 24 v d p) (hw : WOk 24 d) :
    ∃ (s : Sys) (a : Option Addr) (c : Nat), v = sysV s a c ∧ Cons w a s.cons := by
  obtain ⟨v0, v1, v2, v3, y0, y1, y2, y3, n, rfl, rfl, _, h0, h1, h2, h3⟩ := open_agg4 Tryd.underlying24 (by kernel_rfl) ce24 hv h
  obtain ⟨k0, e0, _⟩ := DataW.trod_int Tryd.underlying3 h0
  obtain ⟨k1, e1, _⟩ := DataW.trod_int Tryd.underlying3 h1
  obtain ⟨k2, e2, _⟩ := DataW.trod_int Tryd.underlying3 h2
  have hw3 : WOk 22 y3.1 := wok_struct (ys := [y0.1, y1.1, y2.1, y3.1]) Tryd.underlying24 hw 3 rfl rfl
  obtain ⟨a, c, cs, rfl, hC⟩ := cons_of_trod h3 hw3
  obtain rfl : v0 = .int .i64 k0 := by simpa using e0
  obtain rfl : v1 = .int .i64 k1 := by simpa using e1
  obtain rfl : v2 = .int .i64 k2 := by simpa using e2
  exact ⟨⟨k0, k1, k2, cs⟩, a, c, rfl, hC⟩
set_option maxRecDepth 100000 in
/-- an assignment argument, read -/
theorem pts_of_trod {H : Type} {enc : TypeId × Value → H} {w : World} {held : Bool} {r : Reach} {b0 : Nat} {v : Value} {d : DataW H} {p : List MemPlace} (hv : Value.okWide Tryd.prog w r b0 29 v) (h : DataW.Trod enc Tryd.prog w 0 (fun _ => true) held 29 v d p) (hw : WOk 29 d) :
    ∃ (q : Pts) (a1 a2 : Option Addr) (c1 c2 : Nat), v = ptsV q a1 a2 c1 c2 ∧ Rows2 w a1 q.vars ∧ Rows2 w a2 q.cells := by
  obtain ⟨v0, v1, y0, y1, n, rfl, rfl, _, h0, h1⟩ := open_agg2 Tryd.underlying29 (by kernel_rfl) ce29 hv h
  have w0 : WOk 27 y0.1 := wok_struct (ys := [y0.1, y1.1]) Tryd.underlying29 hw 0 rfl rfl
  have w1 : WOk 27 y1.1 := wok_struct (ys := [y0.1, y1.1]) Tryd.underlying29 hw 1 rfl rfl
  obtain ⟨a1, c1, l1, rfl, r1⟩ := rows_of_trod h0 w0
  obtain ⟨a2, c2, l2, rfl, r2⟩ := rows_of_trod h1 w1
  exact ⟨⟨l1, l2⟩, a1, a2, c1, c2, rfl, r1, r2⟩

/-- what was read, reads the same where nothing old has changed -/
theorem all_stays {H : Type} {enc : TypeId × Value → H} {W W' : World} {sp : Nat → Bool} :
    ∀ {ts : List TypeId} {vs : List Value} {ds : List (DataW H)} {ps : List MemPlace}, (∀ t ∈ ts, Tryd.prog.readableRec t = true ∧ t < Tryd.prog.types.size) → DataW.TrodAll enc Tryd.prog W 0 (fun _ => true) true ts vs ds ps →
      (∀ p ∈ ps, W.sameAt W' p) → (∀ p ∈ ps, sp p.block = true) → DataW.TrodAll enc Tryd.prog W' 0 sp true ts vs ds ps
  | [], [], [], ps, _, h, _, _ => h
  | t :: ts, v :: vs, d :: ds, ps, ht, h, hs, hb => by
    obtain ⟨p, q, h1, h2, rfl⟩ := h
    obtain ⟨t1, t2⟩ := ht t List.mem_cons_self
    have hm := Trod_stays (sp' := sp) laidOut t1 t2 h1 (fun x hx => hs x (List.mem_append_left _ hx)) (fun x hx => hb x (List.mem_append_left _ hx))
    exact ⟨p, q, hm, all_stays (fun u hu => ht u (List.mem_cons_of_mem _ hu)) h2 (fun x hx => hs x (List.mem_append_right _ hx)) (fun x hx => hb x (List.mem_append_right _ hx)), rfl⟩
  | [], _ :: _, _, _, _, h, _, _ => by cases h
  | [], [], _ :: _, _, _, h, _, _ => by cases h
  | _ :: _, [], _, _, _, h, _, _ => by cases h
  | _ :: _, _ :: _, [], _, _, h, _, _ => by cases h

/-- a law that answers true and leaves the old blocks alone, answers its row -/
theorem post_true {H : Type} {enc : TypeId × Value → H} {f : Func} {s : ChangeSpec} {W W' : World} {args : Array Value} {ds gs : List (DataW H)} {before : List MemPlace}
    (hW : DataW.Whole enc Tryd.prog f.params.toList s.vars false W args.toList ds gs before) (hv : s.vars = []) (hr : f.resultTypes = #[4]) (hfn : s.fn H ds = { results := [.lit (.bool true)], args := ds })
    (ht : ∀ t ∈ f.params.toList, Tryd.prog.readableRec t = true ∧ t < Tryd.prog.types.size) (hb : Below W.heap.size W W') :
    s.post enc Tryd.prog f false true false false W args (.bool true) W' := by
  have hW' := hW
  obtain ⟨p, q, hA, hV, rfl, hf, hn⟩ := hW'
  rw [hv] at hV
  obtain ⟨rfl, rfl⟩ := trodVars_none hV
  have hlt : ∀ x ∈ p, x.block < W.heap.size := fun x hx => hW.lt x (List.mem_append_left _ hx)
  have hlt' : ∀ x ∈ p ++ [], x.block < W.heap.size := fun x hx => hW.lt x hx
  refine ⟨ds, [], p ++ [], [], p, [], hW, ?_, ?_, ?_, World.keptBut_mono (fun x hx => ⟨hx, ?_⟩) (hb.frame (· ∈ p ++ [])), fun h => by cases h⟩
  · rw [List.append_nil, hfn, hr]
    exact trodAll_mk1 (shut_bool Tryd.underlying4 _)
  · rw [List.append_nil, hfn]
    exact all_stays ht hA (fun x hx => hb.same (hlt x hx)) (fun x hx => by simpa using hlt x hx)
  · rw [hv, List.append_nil, hfn]; rfl
  · exact Or.inr (Or.inl (by simpa using hx))
end Go.Proofs.YtcfiohphjlohhaaDoor
