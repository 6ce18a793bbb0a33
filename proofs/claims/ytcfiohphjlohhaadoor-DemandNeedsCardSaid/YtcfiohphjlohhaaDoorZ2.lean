/- Z2: D1 D2 D3 in one text (merge.py) -/
import Derived.Test.YtcfiohphjlohhaaDoorZ1
/- Small functions of the demand layer: sameInts, check, right. -/
namespace Go.Proofs.YtcfiohphjlohhaaDoor
open Go.RowKit

theorem intMk {v v' : Int} {w w' : World} (h : v = v') (hb : Below w.heap.size w w') : IntAnd v w (.returned (.int .i64 v')) w' := ⟨by rw [h], hb⟩
/-- lists that are equal at their elements -/
theorem eq_drop {l m : List Int} {k : Nat} (h1 : k < l.length) (h2 : k < m.length) : (l.drop k = m.drop k) ↔ l[k] = m[k] ∧ l.drop (k + 1) = m.drop (k + 1) := by
  rw [drop_at h1, drop_at h2, List.cons.injEq]

set_option maxRecDepth 100000 in
theorem sameInts_any (l m : List Int) (a1 a2 : Option Addr) (c1 c2 : Nat) (w : World) (h1 : Ints w a1 l) (h2 : Ints w a2 m) :
    Calls Tryd.prog 29 #[.slice a1 l.length c1, .slice a2 m.length c2] w (BoolAnd (decide (l = m)) w) := by
  have hm := h1.len.le
  by_cases he : l.length = m.length
  · have hcs : ((l.length : Int) != m.length) = false := by simp [he]
    have hlm : m.length ≤ l.length ∧ l.length ≤ m.length := by omega
    have HE := Lib.hid he
    clear he
    go_enter Tryd.func29, Tryd.ntmps29
    go_wp2
    go_loopg [13] l.length (fun g i wr => (∃ n, wr = w.drewN n) ∧ ∃ k : Nat, k ≤ l.length ∧ g = l.length - k ∧ i = .int .i64 k ∧ Hid ((l = m) ↔ l.drop k = m.drop k))
    case atStart => exact ⟨⟨0, rfl⟩, 0, Nat.zero_le _, rfl, rfl, by unfold Hid; simp⟩
    case round =>
      obtain ⟨⟨n, rfl⟩, k, hk, rfl, rfl, hn⟩ := hrel
      by_cases hlt : k < l.length
      · have hlt2 : k < m.length := by omega
        obtain ⟨b, o, rfl, hc⟩ := h1.at_ k l[k] (get_at hlt)
        obtain ⟨b2, o2, rfl, hc2⟩ := h2.at_ k m[k] (get_at hlt2)
        go_wp2
        go_region
        go_wp2
        · have hq : (l[k] != m[k]) = true := by assumption
          go_ret
          refine BoolAnd.mk ?_ (below_drewN (Below.refl _ _) _)
          have : ¬ l = m := fun e => by
            have := (eq_drop hlt hlt2).1 (hn.out.1 e)
            simp [this.1] at hq
          simp [this]
        · have hq : (l[k] != m[k]) = false := by assumption
          go_roundg (l.length - (k + 1))
          case measure => omega
          case rel => exact ⟨⟨_, rfl⟩, k + 1, by omega, rfl, by go_num, by
            unfold Hid
            rw [hn.out, eq_drop hlt hlt2]
            have : l[k] = m[k] := by simpa using hq
            exact ⟨fun h => h.2, fun h => ⟨this, h⟩⟩⟩
      · go_wp2
        go_ret
        refine BoolAnd.mk ?_ (below_drewN (Below.refl _ _) _)
        have : l = m := hn.out.2 (by rw [drop_end hlt, drop_end (by omega)])
        simp [this]
  · have hcs : ((l.length : Int) != m.length) = true := by simp; omega
    have HR : Hid (decide (l = m) = false) := by unfold Hid; simp; intro e; exact he (by rw [e])
    clear he
    go_enter Tryd.func29, Tryd.ntmps29
    go_wp2
    go_ret
    exact BoolAnd.mk HR.out (Below.refl _ _)

set_option maxRecDepth 100000 in
theorem right_any (s : Sys) (v : Int) (aS : Option Addr) (cS : Nat) (w : World) (hS : Cons w aS s.cons) :
    Calls Tryd.prog 56 #[sysV s aS cS, .int .i64 v] w (IntAnd (rightE s v) w) := by
  have hb : Below w.heap.size w (w.alloc (.cells #[.int .i64 s.vars, .int .i64 s.sites, .int .i64 s.fields, .slice aS s.cons.length cS] 24)) := (Below.refl _ _).alloc (Nat.le_refl _) _
  have HS := hS.below hb
  have hm := hS.len.le
  have HK := Lib.hid (Blk.new w 24 #[.int .i64 s.vars, .int .i64 s.sites, .int .i64 s.fields, .slice aS s.cons.length cS])
  dsimp only [sysV]
  by_cases hE : checkE s = 0
  · have HE := Lib.hid hE
    clear hE
    by_cases h0 : v < 0
    · have HR : Hid (rightE s v = 4) := by unfold Hid rightE; rw [if_neg (fun h => h HE.out), if_pos (.inl h0)]
      go_enter Tryd.func56, Tryd.ntmps56
      go_wp2_with (go_at_call 39; refine (checkR_any s _ _ _ HS).mono ?_; rintro e w1 ⟨rfl, hb1⟩; rw [HE.out])
      go_ret
      exact intMk HR.out (below_box hb1)
    · by_cases h1 : s.vars ≤ v
      · have HR : Hid (rightE s v = 4) := by unfold Hid rightE; rw [if_neg (fun h => h HE.out), if_pos (.inr h1)]
        have hge : v ≥ s.vars := h1
        go_enter Tryd.func56, Tryd.ntmps56
        go_wp2_with (go_at_call 39; refine (checkR_any s _ _ _ HS).mono ?_; rintro e w1 ⟨rfl, hb1⟩; rw [HE.out]; have k1 := (HK.out.below hb1).cell; have z1 := (HK.out.below hb1).lt)
        go_ret
        exact intMk HR.out (below_box hb1)
      · have HR : Hid (rightE s v = 0) := by unfold Hid rightE; rw [if_neg (fun h => h HE.out), if_neg (by omega)]
        have hge : ¬ v ≥ s.vars := h1
        go_enter Tryd.func56, Tryd.ntmps56
        go_wp2_with (go_at_call 39; refine (checkR_any s _ _ _ HS).mono ?_; rintro e w1 ⟨rfl, hb1⟩; rw [HE.out]; have k1 := (HK.out.below hb1).cell; have z1 := (HK.out.below hb1).lt)
        go_ret
        exact intMk HR.out (below_box hb1)
  · have HR : Hid (rightE s v = checkE s) := by unfold Hid rightE; rw [if_pos hE]
    have hq : (checkE s != 0) = true := by simpa using hE
    clear hE
    go_enter Tryd.func56, Tryd.ntmps56
    go_wp2_with (go_at_call 39; refine (checkR_any s _ _ _ HS).mono ?_; rintro e w1 ⟨rfl, hb1⟩)
    go_ret
    exact intMk HR.out (below_box hb1)
set_option maxRecDepth 100000 in
theorem checkD_any (s : Sys) (v : Int) (aS : Option Addr) (cS : Nat) (w : World) (hS : Cons w aS s.cons) :
    Calls Tryd.prog 53 #[sysV s aS cS, .int .i64 v] w (IntAnd (rightE s v) w) := by
  have hb : Below w.heap.size w (w.alloc (.cells #[.int .i64 s.vars, .int .i64 s.sites, .int .i64 s.fields, .slice aS s.cons.length cS] 24)) := (Below.refl _ _).alloc (Nat.le_refl _) _
  have HS := hS.below hb
  have hm := hS.len.le
  have HK := Lib.hid (Blk.new w 24 #[.int .i64 s.vars, .int .i64 s.sites, .int .i64 s.fields, .slice aS s.cons.length cS])
  dsimp only [sysV]
  by_cases hE : checkE s = 0
  · have HE := Lib.hid hE
    clear hE
    by_cases h0 : v < 0
    · have HR : Hid (rightE s v = 4) := by unfold Hid rightE; rw [if_neg (fun h => h HE.out), if_pos (.inl h0)]
      go_enter Tryd.func53, Tryd.ntmps53
      go_wp2_with (go_at_call 35; refine (check_any s _ _ _ HS).mono ?_; rintro e w1 ⟨rfl, hb1⟩; rw [HE.out])
      go_ret
      exact intMk HR.out (below_box hb1)
    · by_cases h1 : s.vars ≤ v
      · have HR : Hid (rightE s v = 4) := by unfold Hid rightE; rw [if_neg (fun h => h HE.out), if_pos (.inr h1)]
        have hge : v ≥ s.vars := h1
        go_enter Tryd.func53, Tryd.ntmps53
        go_wp2_with (go_at_call 35; refine (check_any s _ _ _ HS).mono ?_; rintro e w1 ⟨rfl, hb1⟩; rw [HE.out]; have k1 := (HK.out.below hb1).cell; have z1 := (HK.out.below hb1).lt)
        go_ret
        exact intMk HR.out (below_box hb1)
      · have HR : Hid (rightE s v = 0) := by unfold Hid rightE; rw [if_neg (fun h => h HE.out), if_neg (by omega)]
        have hge : ¬ v ≥ s.vars := h1
        go_enter Tryd.func53, Tryd.ntmps53
        go_wp2_with (go_at_call 35; refine (check_any s _ _ _ HS).mono ?_; rintro e w1 ⟨rfl, hb1⟩; rw [HE.out]; have k1 := (HK.out.below hb1).cell; have z1 := (HK.out.below hb1).lt)
        go_ret
        exact intMk HR.out (below_box hb1)
  · have HR : Hid (rightE s v = checkE s) := by unfold Hid rightE; rw [if_pos hE]
    have hq : (checkE s != 0) = true := by simpa using hE
    clear hE
    go_enter Tryd.func53, Tryd.ntmps53
    go_wp2_with (go_at_call 35; refine (check_any s _ _ _ HS).mono ?_; rintro e w1 ⟨rfl, hb1⟩)
    go_ret
    exact intMk HR.out (below_box hb1)
end Go.Proofs.YtcfiohphjlohhaaDoor

/- Plain mathematics of the reference's rounds over the variables that a query visits. -/
namespace Go.Proofs.YtcfiohphjlohhaaDoor
open Go.RowKit

abbrev VSt := (Nat → Bool) × Bool
def cnt (n : Nat) (f : Nat → Bool) : Nat := sumTo n fun x => if f x = true then 0 else 1
def setV (f : Nat → Bool) (x : Nat) : Nat → Bool := fun j => if j = x then true else f j
theorem cnt_set {n : Nat} {f : Nat → Bool} {x : Nat} (hx : x < n) (h : f x = false) : cnt n (setV f x) < cnt n f := by
  refine sumTo_lt (fun i _ => ?_) x hx ?_
  · unfold setV; split
    · simp
    · exact Nat.le_refl _
  · simp [setV, h]
/-- one list of variables added -/
structure VStep (n : Nat) (l : List Int) (a a' : VSt) : Prop where
  mono : ∀ i, a.1 i = true → a'.1 i = true
  src : ∀ i : Nat, a'.1 i = true → a.1 i = true ∨ (i : Int) ∈ l
  all : ∀ x ∈ l, a'.1 x.toNat = true
  same : a'.2 = false → a.2 = false ∧ a'.1 = a.1
  less : a'.2 = true → a.2 = true ∨ cnt n a'.1 < cnt n a.1
theorem VStep.nil (n : Nat) (a : VSt) : VStep n [] a a := ⟨fun _ h => h, fun _ h => .inl h, fun _ h => (by cases h), fun h => ⟨h, rfl⟩, fun h => .inl h⟩
theorem VStep.old {n : Nat} {l : List Int} {a a' : VSt} (h : VStep n l a a') {x : Int} (hx : a'.1 x.toNat = true) : VStep n (l ++ [x]) a a' :=
  ⟨h.mono, fun i hi => (h.src i hi).imp_right fun e => List.mem_append_left _ e, fun y hy => by
    rcases List.mem_append.1 hy with hy | hy
    · exact h.all y hy
    · rw [List.mem_singleton.1 hy]; exact hx, h.same, h.less⟩
theorem VStep.new {n : Nat} {l : List Int} {a a' : VSt} (h : VStep n l a a') {x : Int} (h0 : 0 ≤ x) (h1 : x < n) (hx : a'.1 x.toNat = false) : VStep n (l ++ [x]) a (setV a'.1 x.toNat, true) := by
  have hc : cnt n (setV a'.1 x.toNat) < cnt n a'.1 := cnt_set (by omega) hx
  refine ⟨fun i hi => ?_, fun i hi => ?_, fun y hy => ?_, (fun e => by cases e), fun _ => ?_⟩
  · show setV a'.1 x.toNat i = true
    unfold setV; split
    · rfl
    · exact h.mono i hi
  · have hi' : setV a'.1 x.toNat i = true := hi
    unfold setV at hi'
    split at hi'
    · rename_i e; subst e
      exact .inr (List.mem_append_right _ (by rw [Int.toNat_of_nonneg h0]; exact List.mem_singleton_self _))
    · exact (h.src i hi').imp_right fun e => List.mem_append_left _ e
  · show setV a'.1 x.toNat y.toNat = true
    unfold setV
    split
    · rfl
    · rename_i hne
      rcases List.mem_append.1 hy with hy | hy
      · exact h.all y hy
      · rw [List.mem_singleton.1 hy] at hne; exact absurd rfl hne
  · cases h2 : a'.2 with
    | false => right; show cnt n (setV a'.1 x.toNat) < cnt n a.1; rw [← (h.same h2).2]; exact hc
    | true => exact (h.less h2).imp_right fun e => Nat.lt_trans hc e

/-- a store on the field that c loads -/
def stB (c k : Con) : Bool := decide (k.kind = 4) && decide (k.field = c.field)
def stL (s : Sys) (c : Con) (k : Nat) : List Int := ((s.cons.take k).filter (stB c)).flatMap fun k => [k.a, k.b]
theorem stL_succ {s : Sys} {c : Con} {k : Nat} (h : k < s.cons.length) : stL s c (k + 1) = stL s c k ++ (if stB c s.cons[k] = true then [s.cons[k].a, s.cons[k].b] else []) := by
  unfold stL
  rw [List.take_add_one, List.getElem?_eq_getElem h, List.filter_append, List.flatMap_append]
  by_cases hb : stB c s.cons[k] = true
  · simp [hb]
  · simp [hb]
theorem stL_len (s : Sys) (c : Con) (k : Nat) : (stL s c k).length ≤ 2 * k := by
  unfold stL
  have h1 : ∀ l : List Con, (l.flatMap fun k => [k.a, k.b]).length = 2 * l.length := fun l => by
    induction l with
    | nil => rfl
    | cons a l ih => rw [List.flatMap_cons, List.length_append, ih]; simp; omega
  rw [h1]
  have h2 := List.length_filter_le (stB c) (s.cons.take k)
  rw [List.length_take] at h2
  omega
/-- what a visited constraint needs, of the first k stores -/
def needK (s : Sys) (c : Con) (k : Nat) : List Int := c.a :: (if c.kind = 3 then stL s c k else [])
theorem need_len (s : Sys) (c : Con) (k : Nat) : (needK s c k).length ≤ 2 * k + 1 := by
  unfold needK
  have := stL_len s c k
  split
  · simp; omega
  · simp
abbrev needOf (s : Sys) (c : Con) : List Int := needK s c s.cons.length
theorem mem_stL {s : Sys} {c : Con} {x : Int} : x ∈ stL s c s.cons.length ↔ ∃ k ∈ s.cons, k.kind = 4 ∧ k.field = c.field ∧ (x = k.a ∨ x = k.b) := by
  unfold stL
  rw [List.take_length]
  simp only [List.mem_flatMap, List.mem_filter, stB, Bool.and_eq_true, decide_eq_true_eq, List.mem_cons, List.not_mem_nil, or_false]
  constructor
  · rintro ⟨k, ⟨h1, h2, h3⟩, h4⟩; exact ⟨k, h1, h2, h3, h4⟩
  · rintro ⟨k, h1, h2, h3, h4⟩; exact ⟨k, ⟨h1, h2, h3⟩, h4⟩
theorem need_vis {s : Sys} {v : Int} {c : Con} (hc : c ∈ s.cons) (k1 : c.kind ≠ 1) (k4 : c.kind ≠ 4) (hb : Vis s v c.b) : ∀ x ∈ needOf s c, Vis s v x := by
  intro x hx
  rcases List.mem_cons.1 hx with rfl | hx
  · exact .arg hc k1 k4 hb
  · by_cases k3 : c.kind = 3
    · rw [if_pos k3] at hx
      obtain ⟨k, h1, h2, h3, h4⟩ := mem_stL.1 hx
      rcases h4 with rfl | rfl
      · exact .sa hc k3 hb h1 h2 h3
      · exact .sb hc k3 hb h1 h2 h3
    · rw [if_neg k3] at hx; cases hx
def DoneC (s : Sys) (f : Nat → Bool) (c : Con) : Prop := c.kind ≠ 1 → c.kind ≠ 4 → f c.b.toNat = true → ∀ x ∈ needOf s c, f x.toNat = true
/-- a round over the first j constraints -/
structure RInv (s : Sys) (n : Nat) (v : Int) (f0 : Nat → Bool) (j : Nat) (a : VSt) : Prop where
  mono : ∀ i, f0 i = true → a.1 i = true
  sound : ∀ i : Nat, a.1 i = true → Vis s v (i : Int)
  same : a.2 = false → a.1 = f0 ∧ ∀ c ∈ s.cons.take j, DoneC s a.1 c
  less : a.2 = true → cnt n a.1 < cnt n f0
theorem RInv.start {s : Sys} {n : Nat} {v : Int} {f0 : Nat → Bool} (h : ∀ i : Nat, f0 i = true → Vis s v (i : Int)) : RInv s n v f0 0 (f0, false) :=
  ⟨fun _ h => h, h, fun _ => ⟨rfl, fun c hc => by simp at hc⟩, fun e => by cases e⟩
theorem take_succ_mem {s : Sys} {j : Nat} (h : j < s.cons.length) {c : Con} (hc : c ∈ s.cons.take (j + 1)) : c ∈ s.cons.take j ∨ c = s.cons[j] := by
  rw [List.take_add_one, List.getElem?_eq_getElem h] at hc
  rcases List.mem_append.1 hc with hc | hc
  · exact .inl hc
  · exact .inr (by simpa using hc)
theorem RInv.skip {s : Sys} {n : Nat} {v : Int} {f0 : Nat → Bool} {j : Nat} {a : VSt} (h : RInv s n v f0 j a) (hj : j < s.cons.length) (hd : s.cons[j].kind = 1 ∨ s.cons[j].kind = 4 ∨ a.1 s.cons[j].b.toNat = false) : RInv s n v f0 (j + 1) a :=
  ⟨h.mono, h.sound, fun e => ⟨(h.same e).1, fun c hc => by
    rcases take_succ_mem hj hc with hc | rfl
    · exact (h.same e).2 c hc
    · intro k1 k4 hb
      rcases hd with hd | hd | hd
      · exact absurd hd k1
      · exact absurd hd k4
      · rw [hd] at hb; cases hb⟩, h.less⟩
theorem RInv.step {s : Sys} {n : Nat} {v : Int} {f0 : Nat → Bool} {j : Nat} {a a' : VSt} (h : RInv s n v f0 j a) (hj : j < s.cons.length) (ok : ConOk s s.cons[j]) (k1 : s.cons[j].kind ≠ 1) (k4 : s.cons[j].kind ≠ 4) (hb : a.1 s.cons[j].b.toNat = true)
    (hs : VStep n (needOf s s.cons[j]) a a') : RInv s n v f0 (j + 1) a' := by
  have vb : Vis s v s.cons[j].b := by
    have := h.sound _ hb
    rw [Int.toNat_of_nonneg ok.b.1] at this; exact this
  refine ⟨fun i hi => hs.mono i (h.mono i hi), fun i hi => ?_, fun e => ?_, fun e => ?_⟩
  · rcases hs.src i hi with h1 | h1
    · exact h.sound i h1
    · exact need_vis (List.getElem_mem hj) k1 k4 vb _ h1
  · obtain ⟨e1, e2⟩ := hs.same e
    obtain ⟨e3, e4⟩ := h.same e1
    rw [e2]
    refine ⟨e3, fun c hc => ?_⟩
    rcases take_succ_mem hj hc with hc | rfl
    · exact e4 c hc
    · intro _ _ _ x hx
      have := hs.all x hx
      rw [e2] at this; exact this
  · rcases hs.less e with h1 | h1
    · have h2 := h.less h1
      cases h3 : a'.2 with
      | false => rw [h3] at e; cases e
      | true =>
        refine Nat.lt_of_le_of_lt ?_ h2
        exact sumTo_le fun x _ => by
          by_cases hx : a.1 x = true
          · rw [if_pos hx, if_pos (hs.mono x hx)]; exact Nat.le_refl _
          · rw [if_neg hx]; split <;> omega
    · refine Nat.lt_of_lt_of_le h1 ?_
      exact sumTo_le fun x _ => by
        by_cases hx : f0 x = true
        · rw [if_pos hx, if_pos (h.mono x hx)]; exact Nat.le_refl _
        · rw [if_neg hx]; split <;> omega
/-- a round without anything new: all that is visited is there -/
theorem RInv.done {s : Sys} {n : Nat} {v : Int} {f0 : Nat → Bool} {a : VSt} (h : RInv s n v f0 s.cons.length a) (hE : checkE s = 0) (hv : 0 ≤ v) (h0 : f0 v.toNat = true) (e : a.2 = false) : a.1 = vis s v := by
  obtain ⟨e1, e2⟩ := h.same e
  rw [List.take_length] at e2
  have ok := check_ok hE
  have hsh : Shut s v (fun i => 0 ≤ i ∧ a.1 i.toNat = true) := by
    refine ⟨⟨hv, h.mono _ h0⟩, fun c hc k1 k4 hb => ?_, fun c hc k3 hb k hk k4 hf => ?_⟩
    · have co := (con_ok (ok.cons c hc)).a
      rw [if_neg k1] at co
      exact ⟨co.1, e2 c hc k1 k4 hb.2 _ List.mem_cons_self⟩
    · have co := con_ok (ok.cons k hk)
      have ca := co.a
      rw [if_neg (by omega)] at ca
      have hn : ∀ x, x = k.a ∨ x = k.b → x ∈ needOf s c := fun x hx => List.mem_cons_of_mem _ (by rw [if_pos k3]; exact mem_stL.2 ⟨k, hk, k4, hf, hx⟩)
      exact ⟨⟨ca.1, e2 c hc (by omega) (by omega) hb.2 _ (hn _ (.inl rfl))⟩, co.b.1, e2 c hc (by omega) (by omega) hb.2 _ (hn _ (.inr rfl))⟩
  funext i
  rw [Bool.eq_iff_iff, vis_iff]
  constructor
  · exact h.sound i
  · intro hi
    have := (hsh.all _ hi).2
    rw [Int.toNat_natCast] at this; exact this
theorem need_in {s : Sys} {c : Con} (hE : checkE s = 0) (hc : c ∈ s.cons) (k1 : c.kind ≠ 1) : ∀ x ∈ needOf s c, 0 ≤ x ∧ x < s.vars := by
  have ok := check_ok hE
  intro x hx
  rcases List.mem_cons.1 hx with rfl | hx
  · have := (con_ok (ok.cons c hc)).a
    rw [if_neg k1] at this; exact this
  · by_cases k3 : c.kind = 3
    · rw [if_pos k3] at hx
      obtain ⟨k, h1, h2, h3, h4⟩ := mem_stL.1 hx
      have co := con_ok (ok.cons k h1)
      have ca := co.a
      rw [if_neg (by omega)] at ca
      rcases h4 with rfl | rfl
      · exact ca
      · exact co.b
    · rw [if_neg k3] at hx; cases hx
end Go.Proofs.YtcfiohphjlohhaaDoor

/- dataflowref24.visited -/
namespace Go.Proofs.YtcfiohphjlohhaaDoor
open Go.RowKit

theorem run_bools {n : Nat} {k : Int} (hn : k = n) (h : n ≤ 65536) (w : World) :
    (Instr.makeSlice 57 (.int .i64 k) (.int .i64 k)).run Tryd.prog w = .ok (.slice (some ⟨w.heap.size, 0, none⟩) n n) (w.alloc (.cells (rowCells n fun _ => false) 4)) := by
  rw [hn, ← madeCells_false]
  exact run_make_row' (P := Tryd.prog) 57 4 (.bool false) 1 Tryd.underlying57 info4 rfl .i64 .i64 n (by omega) (by omega) w
/-- append of two elements of one cell, as a step of a region that draws -/
theorem step_append2 {w : World} {ops : Array Oper} {o : Oper} {a : Act} {K : Act → World → Prop} {Q : Exit → Act → World → Prop} {E : Prop} (hgd : o.guard = none) (s x : Operand) (i : TypeInfo)
    (ho : o.op = .call { callee := .builtin .append, args := #[s, x], argTypes := #[37, 37] }) (hi : Tryd.prog.info? 3 = some i) (hz : i.zero = some (.int .i64 0) ∧ i.size = 1 ∧ i.bytes = 8)
    (base : Nat) (v : Value) (l : List Int) (hs : a.eval s = v) (hown : OwnInts base w v l) (N c : Nat) (p q : Int) (hx : a.eval x = .slice (some ⟨N, 0, none⟩) 2 c) (hu : Blk w N 3 #[.int .i64 p, .int .i64 q])
    (hn : l.length ≤ 200000) (hbase : base ≤ w.heap.size)
    (h : ∀ g cap w', OwnInts base w' (.slice (some ⟨g, 0, none⟩) (l.length + 2) cap) (l ++ [p, q]) → w.grownBy w' v.ownBlock → (v.ownBlock = some g ∨ g = w.heap.size) → g < w'.heap.size → K (a.put o.dst (.slice (some ⟨g, 0, none⟩) (l.length + 2) cap)) w') :
    if Region.wanted o (yielded ops a.tmps) = true then Oper.wp Tryd.prog o a w K Q else E :=
  step_append_lies w hgd s x 37 ho base 3 i (.int .i64 0) 1 8 Tryd.underlying37 hi hz.1 hz.2.1 hz.2.2 rfl (by decide) v l.length _ hs hown ⟨N, 0, none⟩ 2 c [.int .i64 p, .int .i64 q] hx rfl
    (fun j u hj => by
      rw [add_blk, hu.cell j]
      rw [← hj]; simp)
    (fun u hu => by
      simp only [List.mem_cons, List.not_mem_nil, or_false] at hu
      rcases hu with rfl | rfl <;> rfl) (by decide) (by unfold maxLen; omega) (by omega) hbase _ rfl
    (fun g cap w' hown' hg hat hlt => h g cap w' (by unfold OwnInts; rw [List.length_append, List.map_append]; exact hown') hg hat hlt)
theorem ints_of_own' {B : Nat} {w : World} {a : Option Addr} {n c : Nat} {l : List Int} (h : OwnInts B w (.slice a n c) l) (hl : l.length ≤ 1000000) : Ints w a l := by
  obtain ⟨a', c', e, hi⟩ := ints_of_own h hl
  injection e with e1
  rw [e1]; exact hi
abbrev isB (r : Nat) : Nat → Prop := fun k => k = r
def vgas (n : Nat) (f : Nat → Bool) (b : Bool) : Nat := if b = true then cnt n f + 1 else 0
theorem own_new1 (w : World) (x : Int) : OwnInts w.heap.size (w.alloc (.cells #[.int .i64 x] 3)) (.slice (some ⟨w.heap.size, 0, none⟩) 1 1) [x] :=
  ⟨rfl, .inr ⟨w.heap.size, 1, #[.int .i64 x], rfl, Nat.le_refl _, heap_alloc_new w _, Nat.le_refl _, by unfold maxLen; omega, rfl, rfl⟩⟩
/-- what visited returns -/
def SeenPost (s : Sys) (v : Int) (w : World) (e : Ending) (w' : World) : Prop :=
  ∃ r : Nat, e = .returned (.slice (some ⟨r, 0, none⟩) s.vars.toNat s.vars.toNat) ∧ Blk w' r 4 (rowCells s.vars.toNat (vis s v)) ∧ w.heap.size ≤ r ∧ Below w.heap.size w w'

set_option maxRecDepth 100000 in
set_option maxHeartbeats 4000000 in
theorem visited_any (s : Sys) (v : Int) (aS : Option Addr) (cS : Nat) (w : World) (hS : Cons w aS s.cons) (hR : rightE s v = 0) :
    Calls Tryd.prog 57 #[sysV s aS cS, .int .i64 v] w (SeenPost s v w) := by
  obtain ⟨hE, hv0, hv1⟩ := rightE_ok hR
  have hok := check_ok hE
  obtain ⟨n, hn⟩ : ∃ n : Nat, s.vars = n := ⟨s.vars.toNat, by omega⟩
  have hn6 : n ≤ 65536 := by have := hok.vars; omega
  have hmk := run_bools hn hn6
  have hm := hS.len.le
  have hm2 := check_len hE
  have HOK := Lib.hid hok
  have HE := Lib.hid hE
  have hvn : v < (n : Int) := by omega
  have HN := Lib.hid hn
  have HS := Lib.hid hS
  have hset : (rowCells n fun _ => false).setIfInBounds v.toNat (.bool true) = rowCells n (setV (fun _ => false) v.toNat) := rowCells_set _ (by omega)
  have hc2 : ((w.alloc (.cells #[.int .i64 s.vars, .int .i64 s.sites, .int .i64 s.fields, .slice aS s.cons.length cS] 24)).alloc (.cells (rowCells n fun _ => false) 4)).cell? ⟨w.heap.size + 1, v.toNat, none⟩ = some (.bool false) := by
    have := Blk.new (w.alloc (.cells #[.int .i64 s.vars, .int .i64 s.sites, .int .i64 s.fields, .slice aS s.cons.length cS] 24)) 4 (rowCells n fun _ => false)
    rw [World.size_alloc] at this
    rw [this.cell, rowCells_at _ (by omega)]
  obtain ⟨wA, hwA⟩ : ∃ wA, wA = (w.alloc (.cells #[.int .i64 s.vars, .int .i64 s.sites, .int .i64 s.fields, .slice aS s.cons.length cS] 24)).alloc (.cells ((rowCells n fun _ => false).setIfInBounds v.toNat (.bool true)) 4) := ⟨_, rfl⟩
  have KA1 : Hid (Blk wA w.heap.size 24 #[.int .i64 s.vars, .int .i64 s.sites, .int .i64 s.fields, .slice aS s.cons.length cS]) := by rw [hwA]; exact (Blk.new w 24 _).al _
  have KA2 : Hid (Blk wA (w.heap.size + 1) 4 (rowCells n (setV (fun _ => false) v.toNat))) := by
    rw [hwA, hset]
    have := Blk.new (w.alloc (.cells #[.int .i64 s.vars, .int .i64 s.sites, .int .i64 s.fields, .slice aS s.cons.length cS] 24)) 4 (rowCells n (setV (fun _ => false) v.toNat))
    rw [World.size_alloc] at this; exact this
  have HBA : Hid (Below w.heap.size w wA) := by rw [hwA]; exact below_two _ _ _
  have HWA := Lib.hid hwA
  obtain ⟨i0, hi0, hz0⟩ := info_parts info3
  have HI := Lib.hid hi0
  have HZ := Lib.hid hz0
  clear hS hok hE hR hn hwA hi0 hz0 hset
  dsimp only [sysV]
  go_enter Tryd.func57, Tryd.ntmps57
  go_wp2
  rw [← HWA.out]
  go_loopg [6] (cnt n (setV (fun _ => false) v.toNat) + 1) (fun g b wr => ∃ (f : Nat → Bool) (bb : Bool), b = .bool bb ∧ g = vgas n f bb ∧ Hid (Only (isB (w.heap.size + 1)) wA wr) ∧ Hid (Blk wr (w.heap.size + 1) 4 (rowCells n f)) ∧ Hid (∀ i : Nat, f i = true → Vis s v (i : Int)) ∧ Hid (f v.toNat = true) ∧ Hid (bb = false → f = vis s v))
  case atStart =>
    have s1 : Hid (∀ i : Nat, setV (fun _ => false) v.toNat i = true → Vis s v (i : Int)) := fun i hi => by
      unfold setV at hi
      split at hi
      · rename_i e; subst e; rw [Int.toNat_of_nonneg hv0]; exact .start
      · cases hi
    exact ⟨_, true, rfl, rfl, Only.refl _ _, KA2, s1, (by unfold Hid setV; simp), fun e => by cases e⟩
  case round =>
    obtain ⟨f0, bb, rfl, rfl, hO, hF, hSo, hFv, hDo⟩ := hrel
    cases bb with
    | false =>
      have hfin := Lib.hid (hDo.out rfl)
      go_wp2
      go_ret
      refine ⟨w.heap.size + 1, ?_, ?_, Nat.le_succ _, HBA.out.trans (hO.out.to_below HBA.out.size fun k hk => by have hk : k = w.heap.size + 1 := hk; omega)⟩
      · have : s.vars.toNat = n := by have := HN.out; omega
        rw [this]; rfl
      · have : s.vars.toNat = n := by have := HN.out; omega
        rw [this, ← hfin.out]; exact hF.out
    | true =>
      obtain ⟨wR, rfl⟩ : ∃ wR : World, wR = wr := ⟨_, rfl⟩
      have KR1 : Hid (Blk wR w.heap.size 24 #[.int .i64 s.vars, .int .i64 s.sites, .int .i64 s.fields, .slice aS s.cons.length cS]) := KA1.out.only hO.out (by show ¬ w.heap.size = w.heap.size + 1; omega)
      have HBR : Hid (Below w.heap.size w wR) := HBA.out.trans (hO.out.to_below HBA.out.size fun k hk => by have hk : k = w.heap.size + 1 := hk; omega)
      go_wp2
      go_loopg [6, 7] s.cons.length (fun g b i wr => ∃ (j : Nat) (a : VSt), j ≤ s.cons.length ∧ g = s.cons.length - j ∧ b = .bool a.2 ∧ i = .int .i64 j ∧ Hid (Only (isB (w.heap.size + 1)) wR wr) ∧ Hid (Blk wr (w.heap.size + 1) 4 (rowCells n a.1)) ∧ Hid (RInv s n v f0 j a))
      case atStart => exact ⟨0, (f0, false), Nat.zero_le _, rfl, rfl, rfl, Only.refl _ _, hF, RInv.start hSo.out⟩
      case round =>
        obtain ⟨j, a, hj, rfl, rfl, rfl, hO2, hF2, hI⟩ := hrel
        have HB2 : Hid (Below w.heap.size w wr) := HBR.out.trans (hO2.out.to_below HBR.out.size fun k hk => by have hk : k = w.heap.size + 1 := hk; omega)
        have c1 : ∀ x, wr.cell? ⟨w.heap.size, x, none⟩ = #[.int .i64 s.vars, .int .i64 s.sites, .int .i64 s.fields, .slice aS s.cons.length cS][x]? := (KR1.out.only hO2.out (by show ¬ w.heap.size = w.heap.size + 1; omega)).cell
        have y1 : w.heap.size + 1 < wr.heap.size := hF2.out.lt
        by_cases hlt : j < s.cons.length
        · have hco := con_ok (HOK.out.cons _ (List.getElem_mem hlt))
          obtain ⟨b, o, a', c', rfl, e0, e1, e2, e3, e4, hi⟩ := (HS.out.below HB2.out).at_ j s.cons[j] (get_at hlt)
          have hcb := hco.b
          have hcbn : s.cons[j].b < (n : Int) := by have := HN.out; omega
          have HCO := Lib.hid hco
          clear hi hco
          by_cases hk1 : s.cons[j].kind = 1
          · have HI2 := Lib.hid (hI.out.skip hlt (.inl hk1))
            have hk1' : (s.cons[j].kind == 1) = true := by simpa using hk1
            clear hk1
            go_wp2
            go_roundg (s.cons.length - (j + 1))
            case measure => omega
            case rel => exact ⟨j + 1, a, by omega, rfl, rfl, by go_num, hO2.out.alloc _, hF2.out.al _, HI2⟩
          by_cases hk4 : s.cons[j].kind = 4
          · have HI2 := Lib.hid (hI.out.skip hlt (.inr (.inl hk4)))
            have hk1' : (s.cons[j].kind == 1) = false := by simpa using hk1
            have hk4' : (s.cons[j].kind == 4) = true := by simpa using hk4
            clear hk1 hk4
            go_wp2
            go_roundg (s.cons.length - (j + 1))
            case measure => omega
            case rel => exact ⟨j + 1, a, by omega, rfl, rfl, by go_num, hO2.out.alloc _, hF2.out.al _, HI2⟩
          have hk1' : (s.cons[j].kind == 1) = false := by simpa using hk1
          have hk4' : (s.cons[j].kind == 4) = false := by simpa using hk4
          have f1 : (wr.alloc (.cells #[.int .i64 s.cons[j].kind, .int .i64 s.cons[j].a, .int .i64 s.cons[j].b, .int .i64 s.cons[j].field, .slice a' s.cons[j].set.length c'] 39)).cell? ⟨w.heap.size + 1, s.cons[j].b.toNat, none⟩ = some (.bool (a.1 s.cons[j].b.toNat)) := by rw [(hF2.out.al _).cell, rowCells_at _ (by omega)]
          cases hq : a.1 s.cons[j].b.toNat
          · have HI2 := Lib.hid (hI.out.skip hlt (.inr (.inr hq)))
            rw [hq] at f1
            clear hk1 hk4 hq
            go_wp2
            go_roundg (s.cons.length - (j + 1))
            case measure => omega
            case rel => exact ⟨j + 1, a, by omega, rfl, rfl, by go_num, hO2.out.alloc _, hF2.out.al _, HI2⟩
          · rw [hq] at f1
            have HQ := Lib.hid hq
            have HK1 := Lib.hid hk1
            have HK4 := Lib.hid hk4
            clear hq hk1 hk4
            obtain ⟨wi, rfl⟩ : ∃ wi : World, wi = wr := ⟨_, rfl⟩
            go_wp2
            obtain ⟨wc, hwc⟩ : ∃ wc, wc = wi.alloc (.cells #[.int .i64 s.cons[j].kind, .int .i64 s.cons[j].a, .int .i64 s.cons[j].b, .int .i64 s.cons[j].field, .slice a' s.cons[j].set.length c'] 39) := ⟨_, rfl⟩
            have KC : Hid (Blk wc wi.heap.size 39 #[.int .i64 s.cons[j].kind, .int .i64 s.cons[j].a, .int .i64 s.cons[j].b, .int .i64 s.cons[j].field, .slice a' s.cons[j].set.length c']) := by rw [hwc]; exact Blk.new _ _ _
            have hsz : wi.heap.size + 1 = wc.heap.size := by rw [hwc, World.size_alloc]
            have OC : Hid (Only (isB (w.heap.size + 1)) wR wc) := by rw [hwc]; exact hO2.out.alloc _
            have FC : Hid (Blk wc (w.heap.size + 1) 4 (rowCells n a.1)) := by rw [hwc]; exact hF2.out.al _
            have BC : Hid (Below w.heap.size w wc) := by rw [hwc]; exact HB2.out.alloc HB2.out.size _
            have SC : Hid (Blk wc w.heap.size 24 #[.int .i64 s.vars, .int .i64 s.sites, .int .i64 s.fields, .slice (some ⟨b, o, none⟩) s.cons.length cS]) := by rw [hwc]; exact (KR1.out.only hO2.out (by show ¬ w.heap.size = w.heap.size + 1; omega)).al _
            rw [← hwc, hsz]
            have HSZ := Lib.hid hsz
            have hkk : 1 ≤ s.cons[j].kind := HCO.out.kind.1
            clear c1 f1 e0 e1 e2 e3 e4 hwc hsz
            go_loopg [9, 10] s.cons.length (fun g lv i wr => ∃ k : Nat, k ≤ s.cons.length ∧ g = s.cons.length - k ∧ i = .int .i64 k ∧ Hid (s.cons[j].kind ≠ 3 → k = 0) ∧ Hid (Below wc.heap.size wc wr) ∧ Hid (OwnInts wc.heap.size wr lv (needK s s.cons[j] k)))
            case atStart => exact ⟨0, Nat.zero_le _, rfl, rfl, fun _ => rfl, (Below.refl _ _).alloc (Nat.le_refl _) _, by
              have e : needK s s.cons[j] 0 = [s.cons[j].a] := by unfold needK stL; simp
              rw [e]; exact own_new1 wc _⟩
            case round =>
              obtain ⟨k, hk, rfl, rfl, hk0, hBl, hOw⟩ := hrel
              have c1 : ∀ x, wr.cell? ⟨w.heap.size, x, none⟩ = #[.int .i64 s.vars, .int .i64 s.sites, .int .i64 s.fields, .slice (some ⟨b, o, none⟩) s.cons.length cS][x]? := (SC.out.below hBl.out).cell
              have c2 : ∀ x, wr.cell? ⟨wi.heap.size, x, none⟩ = #[.int .i64 s.cons[j].kind, .int .i64 s.cons[j].a, .int .i64 s.cons[j].b, .int .i64 s.cons[j].field, .slice a' s.cons[j].set.length c'][x]? := (KC.out.below hBl.out).cell
              have y2 : wi.heap.size < wr.heap.size := (KC.out.below hBl.out).lt
              have y4 : w.heap.size < wr.heap.size := (SC.out.below hBl.out).lt
              by_cases hk3 : s.cons[j].kind = 3
              · have hk3' : (s.cons[j].kind == 3) = true := by simpa using hk3
                by_cases hkl : k < s.cons.length
                · have hBw : Hid (Below w.heap.size w wr) := BC.out.trans (hBl.out.mono BC.out.size)
                  obtain ⟨b4, o4, a4, c4, he4, e0, e1, e2, e3, e4, hi4⟩ := (HS.out.below hBw.out).at_ k s.cons[k] (get_at hkl)
                  simp only [Option.some.injEq, Addr.mk.injEq, and_true] at he4
                  obtain ⟨rfl, rfl⟩ := he4
                  have hns := Lib.hid (stL_succ (s := s) (c := s.cons[j]) hkl)
                  have hll := Lib.hid (need_len s s.cons[j] k)
                  have hnk : Hid (stB s.cons[j] s.cons[k] = false → needK s s.cons[j] (k + 1) = needK s s.cons[j] k) := fun e => by
                    unfold needK; rw [if_pos hk3, if_pos hk3, hns.out, e]; simp
                  have hny : Hid (stB s.cons[j] s.cons[k] = true → needK s s.cons[j] (k + 1) = needK s s.cons[j] k ++ [s.cons[k].a, s.cons[k].b]) := fun e => by
                    unfold needK; rw [if_pos hk3, if_pos hk3, hns.out, if_pos e]; rfl
                  clear hi4 hk3
                  cases hq4 : (s.cons[k].kind == 4)
                  · have hst : Hid (stB s.cons[j] s.cons[k] = false) := by
                      unfold Hid stB
                      have : ¬ s.cons[k].kind = 4 := by simpa using hq4
                      simp [this]
                    go_wp2
                    go_region
                    go_wp2
                    go_roundg (s.cons.length - (k + 1))
                    case measure => omega
                    case rel => exact ⟨k + 1, by omega, rfl, by go_num, fun h => absurd (by simpa using hk3') h, hBl.out.drew, by rw [hnk.out hst.out]; exact hOw.out⟩
                  cases hqf : (s.cons[k].field == s.cons[j].field)
                  · have hst : Hid (stB s.cons[j] s.cons[k] = false) := by
                      unfold Hid stB
                      have : ¬ s.cons[k].field = s.cons[j].field := by simpa using hqf
                      simp [this]
                    go_wp2
                    go_region
                    go_wp2
                    go_roundg (s.cons.length - (k + 1))
                    case measure => omega
                    case rel => exact ⟨k + 1, by omega, rfl, by go_num, fun h => absurd (by simpa using hk3') h, hBl.out.drew, by rw [hnk.out hst.out]; exact hOw.out⟩
                  have hst : Hid (stB s.cons[j] s.cons[k] = true) := by
                    unfold Hid stB
                    have h1 : s.cons[k].kind = 4 := by simpa using hq4
                    have h2 : s.cons[k].field = s.cons[j].field := by simpa using hqf
                    simp [h1, h2]
                  have HOD : Hid (OwnInts wc.heap.size (wr.drew.drew.alloc (.cells #[.int .i64 s.cons[k].a, .int .i64 s.cons[k].b] 3)) u9 (needK s s.cons[j] k)) := World.ownsRow.alloc (w := wr.drew.drew) hOw.out _
                  have HUD : Hid (Blk (wr.drew.drew.alloc (.cells #[.int .i64 s.cons[k].a, .int .i64 s.cons[k].b] 3)) wr.heap.size 3 #[.int .i64 s.cons[k].a, .int .i64 s.cons[k].b]) := Blk.new wr.drew.drew 3 _
                  have hwz : Hid (wc.heap.size ≤ (wr.drew.drew.alloc (.cells #[.int .i64 s.cons[k].a, .int .i64 s.cons[k].b] 3)).heap.size) := by
                    have h1 : wc.heap.size ≤ wr.drew.drew.heap.size := hBl.out.size
                    unfold Hid; rw [World.size_alloc]; omega
                  have hwz' : Hid (wc.heap.size ≤ wr.drew.drew.heap.size) := hBl.out.size
                  have hnl : Hid ((needK s s.cons[j] k).length ≤ 200000) := by unfold Hid; have := hll.out; omega
                  go_wp2
                  go_region
                  go_wp2
                  go_region_law (refine step_append2 rfl (.tmp 80) (.tmp 93) i0 rfl HI.out HZ.out wc.heap.size u9 (needK s s.cons[j] k) rfl HOD.out wr.heap.size 2 s.cons[k].a s.cons[k].b rfl HUD.out hnl.out hwz.out ?_; intro g cap w2 hown hgrow hat hlg)
                  all_goals
                    have hB5 : Hid (Below wc.heap.size wc w2) := ((hBl.out.drew.drew).alloc hwz'.out _).grown hgrow hwz.out fun g hg => (World.ownsRow.lt hOw.out g hg).1
                    have hO5 : Hid (OwnInts wc.heap.size w2 (.slice (some ⟨g, 0, none⟩) ((needK s s.cons[j] k).length + 2) cap) (needK s s.cons[j] (k + 1))) := by rw [hny.out hst.out]; exact hown
                    clear hown hgrow hat hlg HOD HUD hwz hwz' hnl
                    go_wp2
                    go_roundg (s.cons.length - (k + 1))
                    case measure => omega
                    case rel => exact ⟨k + 1, by omega, rfl, by go_num, fun h => absurd (by simpa using hk3') h, hB5, hO5⟩
                · have hge : ¬ (k : Int) < (s.cons.length : Int) := by omega
                  obtain rfl : k = s.cons.length := by omega
                  clear hk3 hk0
                  obtain ⟨wD, rfl⟩ : ∃ wD : World, wD = wr := ⟨_, rfl⟩
                  obtain ⟨L, hL⟩ : ∃ L, L = needOf s s.cons[j] := ⟨_, rfl⟩
                  have HL := Lib.hid hL
                  have hLl : Hid (L.length ≤ 1000000) := by
                    have := need_len s s.cons[j] s.cons.length
                    rw [HL.out]; show (needK s s.cons[j] s.cons.length).length ≤ 1000000; omega
                  have hLr : Hid (∀ x ∈ L, 0 ≤ x ∧ x < (n : Int)) := by
                    rw [HL.out]
                    intro x hx
                    have := need_in HE.out (List.getElem_mem hlt) HK1.out x hx
                    rw [HN.out] at this; exact this
                  have hOL : Hid (OwnInts wc.heap.size wD u9 L) := by rw [HL.out]; exact hOw
                  obtain ⟨la, lc, rfl, hIL⟩ := ints_of_own hOL.out hLl.out
                  have hl63 : L.length ≤ 1000000 := hLl.out
                  have FD : Hid (Blk wD (w.heap.size + 1) 4 (rowCells n a.1)) := FC.out.below hBl.out
                  clear hL hIL hOw
                  go_wp2
                  clear c1 c2
                  go_loopg [6, 11] L.length (fun g b i wr => ∃ (q : Nat) (a2 : VSt), q ≤ L.length ∧ g = L.length - q ∧ b = .bool a2.2 ∧ i = .int .i64 q ∧ Hid (Only (isB (w.heap.size + 1)) wD wr) ∧ Hid (Blk wr (w.heap.size + 1) 4 (rowCells n a2.1)) ∧ Hid (VStep n (L.take q) a a2))
                  case atStart => exact ⟨0, a, Nat.zero_le _, rfl, rfl, rfl, Only.refl _ _, FD, VStep.nil _ _⟩
                  case round =>
                    obtain ⟨q, a2, hqL, rfl, rfl, rfl, hO4, hF4, hV⟩ := hrel
                    by_cases hq : q < L.length
                    · have hOwr : Hid (OwnInts wc.heap.size wr (.slice la L.length lc) L) := own_of hOL.out fun g hg => hO4.out.block g (World.ownsRow.lt hOL.out g hg).2 fun e => by
                        have h1 := (World.ownsRow.lt hOL.out g hg).1
                        have h2 := FC.out.lt
                        have e : g = w.heap.size + 1 := e
                        omega
                      obtain ⟨b3, o3, rfl, hc3⟩ := (ints_of_own' hOwr.out hLl.out).at_ q L[q] (get_at hq)
                      have hx := hLr.out L[q] (List.getElem_mem hq)
                      have hx0 := hx.1
                      have hx1 := hx.2
                      have f3 : wr.cell? ⟨w.heap.size + 1, L[q].toNat, none⟩ = some (.bool (a2.1 L[q].toNat)) := by rw [hF4.out.cell, rowCells_at _ (by omega)]
                      have f4 : wr.frozen? ⟨w.heap.size + 1, L[q].toNat, none⟩ = false := hF4.out.frozen _
                      have ht : Hid (L.take (q + 1) = L.take q ++ [L[q]]) := by unfold Hid; rw [List.take_add_one, List.getElem?_eq_getElem hq]; rfl
                      have y3 : w.heap.size + 1 < wr.heap.size := hF4.out.lt
                      cases hq2 : a2.1 L[q].toNat
                      · have hV2 : Hid (VStep n (L.take (q + 1)) a (setV a2.1 L[q].toNat, true)) := by rw [ht.out]; exact hV.out.new hx0 hx1 hq2
                        have hF5 : Hid (Blk (wr.setCell ⟨w.heap.size + 1, L[q].toNat, none⟩ (.bool true)) (w.heap.size + 1) 4 (rowCells n (setV a2.1 L[q].toNat))) := by
                          have := hF4.out.set_ L[q].toNat (.bool true)
                          rw [rowCells_set _ (by omega)] at this; exact this
                        have hO5 : Hid (Only (isB (w.heap.size + 1)) wD (wr.setCell ⟨w.heap.size + 1, L[q].toNat, none⟩ (.bool true))) := hO4.out.setCell (.inl rfl) _
                        rw [hq2] at f3
                        clear hq2 hx
                        go_wp2
                        go_roundg (L.length - (q + 1))
                        case measure => omega
                        case rel => exact ⟨q + 1, _, by omega, rfl, rfl, by go_num, hO5, hF5, hV2⟩
                      · have hV2 : Hid (VStep n (L.take (q + 1)) a a2) := by rw [ht.out]; exact hV.out.old hq2
                        rw [hq2] at f3
                        clear hq2 hx
                        go_wp2
                        go_roundg (L.length - (q + 1))
                        case measure => omega
                        case rel => exact ⟨q + 1, _, by omega, rfl, rfl, by go_num, hO4, hF4, hV2⟩
                    · obtain rfl : q = L.length := by omega
                      have hV3 : Hid (VStep n (needOf s s.cons[j]) a a2) := by
                        have := hV.out
                        rw [List.take_length, HL.out] at this; exact this
                      have HI2 := Lib.hid (hI.out.step hlt HCO.out HK1.out HK4.out HQ.out hV3.out)
                      have hO6 : Hid (Only (isB (w.heap.size + 1)) wR wr) := (OC.out.trans (Only.of_below hBl.out _)).trans hO4.out
                      have hge : ¬ (L.length : Int) < (L.length : Int) := by omega
                      go_wp2
                      go_roundg (s.cons.length - (j + 1))
                      case measure => omega
                      case rel => exact ⟨j + 1, a2, by omega, rfl, rfl, by go_num, hO6, hF4, HI2⟩
              · have hk3' : (s.cons[j].kind == 3) = false := by simpa using hk3
                have hkz : k = 0 := hk0.out hk3
                have hOw : Hid (OwnInts wc.heap.size wr u9 (needOf s s.cons[j])) := by
                  have e : needOf s s.cons[j] = needK s s.cons[j] k := by unfold needOf needK; rw [if_neg hk3, if_neg hk3]
                  rw [e]; exact hOw
                have hlt0 : (k : Int) < (s.cons.length : Int) := by omega
                clear hkz
                clear hk3 hk0
                obtain ⟨wD, rfl⟩ : ∃ wD : World, wD = wr := ⟨_, rfl⟩
                obtain ⟨L, hL⟩ : ∃ L, L = needOf s s.cons[j] := ⟨_, rfl⟩
                have HL := Lib.hid hL
                have hLl : Hid (L.length ≤ 1000000) := by
                  have := need_len s s.cons[j] s.cons.length
                  rw [HL.out]; show (needK s s.cons[j] s.cons.length).length ≤ 1000000; omega
                have hLr : Hid (∀ x ∈ L, 0 ≤ x ∧ x < (n : Int)) := by
                  rw [HL.out]
                  intro x hx
                  have := need_in HE.out (List.getElem_mem hlt) HK1.out x hx
                  rw [HN.out] at this; exact this
                have hOL : Hid (OwnInts wc.heap.size wD u9 L) := by rw [HL.out]; exact hOw
                obtain ⟨la, lc, rfl, hIL⟩ := ints_of_own hOL.out hLl.out
                have hl63 : L.length ≤ 1000000 := hLl.out
                have FD : Hid (Blk wD (w.heap.size + 1) 4 (rowCells n a.1)) := FC.out.below hBl.out
                clear hL hIL hOw
                go_wp2
                clear c1 c2
                go_loopg [6, 11] L.length (fun g b i wr => ∃ (q : Nat) (a2 : VSt), q ≤ L.length ∧ g = L.length - q ∧ b = .bool a2.2 ∧ i = .int .i64 q ∧ Hid (Only (isB (w.heap.size + 1)) wD wr) ∧ Hid (Blk wr (w.heap.size + 1) 4 (rowCells n a2.1)) ∧ Hid (VStep n (L.take q) a a2))
                case atStart => exact ⟨0, a, Nat.zero_le _, rfl, rfl, rfl, Only.refl _ _, FD, VStep.nil _ _⟩
                case round =>
                  obtain ⟨q, a2, hqL, rfl, rfl, rfl, hO4, hF4, hV⟩ := hrel
                  by_cases hq : q < L.length
                  · have hOwr : Hid (OwnInts wc.heap.size wr (.slice la L.length lc) L) := own_of hOL.out fun g hg => hO4.out.block g (World.ownsRow.lt hOL.out g hg).2 fun e => by
                      have h1 := (World.ownsRow.lt hOL.out g hg).1
                      have h2 := FC.out.lt
                      have e : g = w.heap.size + 1 := e
                      omega
                    obtain ⟨b3, o3, rfl, hc3⟩ := (ints_of_own' hOwr.out hLl.out).at_ q L[q] (get_at hq)
                    have hx := hLr.out L[q] (List.getElem_mem hq)
                    have hx0 := hx.1
                    have hx1 := hx.2
                    have f3 : wr.cell? ⟨w.heap.size + 1, L[q].toNat, none⟩ = some (.bool (a2.1 L[q].toNat)) := by rw [hF4.out.cell, rowCells_at _ (by omega)]
                    have f4 : wr.frozen? ⟨w.heap.size + 1, L[q].toNat, none⟩ = false := hF4.out.frozen _
                    have ht : Hid (L.take (q + 1) = L.take q ++ [L[q]]) := by unfold Hid; rw [List.take_add_one, List.getElem?_eq_getElem hq]; rfl
                    have y3 : w.heap.size + 1 < wr.heap.size := hF4.out.lt
                    cases hq2 : a2.1 L[q].toNat
                    · have hV2 : Hid (VStep n (L.take (q + 1)) a (setV a2.1 L[q].toNat, true)) := by rw [ht.out]; exact hV.out.new hx0 hx1 hq2
                      have hF5 : Hid (Blk (wr.setCell ⟨w.heap.size + 1, L[q].toNat, none⟩ (.bool true)) (w.heap.size + 1) 4 (rowCells n (setV a2.1 L[q].toNat))) := by
                        have := hF4.out.set_ L[q].toNat (.bool true)
                        rw [rowCells_set _ (by omega)] at this; exact this
                      have hO5 : Hid (Only (isB (w.heap.size + 1)) wD (wr.setCell ⟨w.heap.size + 1, L[q].toNat, none⟩ (.bool true))) := hO4.out.setCell (.inl rfl) _
                      rw [hq2] at f3
                      clear hq2 hx
                      go_wp2
                      go_roundg (L.length - (q + 1))
                      case measure => omega
                      case rel => exact ⟨q + 1, _, by omega, rfl, rfl, by go_num, hO5, hF5, hV2⟩
                    · have hV2 : Hid (VStep n (L.take (q + 1)) a a2) := by rw [ht.out]; exact hV.out.old hq2
                      rw [hq2] at f3
                      clear hq2 hx
                      go_wp2
                      go_roundg (L.length - (q + 1))
                      case measure => omega
                      case rel => exact ⟨q + 1, _, by omega, rfl, rfl, by go_num, hO4, hF4, hV2⟩
                  · obtain rfl : q = L.length := by omega
                    have hV3 : Hid (VStep n (needOf s s.cons[j]) a a2) := by
                      have := hV.out
                      rw [List.take_length, HL.out] at this; exact this
                    have HI2 := Lib.hid (hI.out.step hlt HCO.out HK1.out HK4.out HQ.out hV3.out)
                    have hO6 : Hid (Only (isB (w.heap.size + 1)) wR wr) := (OC.out.trans (Only.of_below hBl.out _)).trans hO4.out
                    have hge : ¬ (L.length : Int) < (L.length : Int) := by omega
                    go_wp2
                    go_roundg (s.cons.length - (j + 1))
                    case measure => omega
                    case rel => exact ⟨j + 1, a2, by omega, rfl, rfl, by go_num, hO6, hF4, HI2⟩
        · obtain rfl : j = s.cons.length := by omega
          have HD : Hid (a.2 = false → a.1 = vis s v) := fun e => hI.out.done HE.out hv0 hFv.out e
          have hge : ¬ (s.cons.length : Int) < (s.cons.length : Int) := by omega
          go_wp2
          go_roundg (vgas n a.1 a.2)
          case measure =>
            show vgas n a.1 a.2 < vgas n f0 true
            have hme : vgas n a.1 a.2 < cnt n f0 + 1 := by
              unfold vgas
              split
              · rename_i e; have := hI.out.less e; omega
              · omega
            exact hme
          case rel => exact ⟨a.1, a.2, rfl, rfl, hO.out.trans hO2.out, hF2, hI.out.sound, hI.out.mono _ hFv.out, HD⟩
end Go.Proofs.YtcfiohphjlohhaaDoor
