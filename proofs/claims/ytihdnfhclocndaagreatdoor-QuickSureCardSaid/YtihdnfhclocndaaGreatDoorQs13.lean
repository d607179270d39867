/- numeral/big: divWords whole; numbers in memory, and 'set'. numeral/big: numbers' methods: Set, Abs, Neg, SetWords, SetInt64, NewInt. numeral/big: numbers' methods: Abs, Neg, SetWords, SetInt64, NewInt. -/
import Derived.Test.YtihdnfhclocndaaGreatDoorQs12
import Derived.Deep.RegionWith
namespace Go.Proofs.YtihdnfhclocndaaGreatDoor
open Go.RowKit W

theorem divWords_any (A1 A2 : Option Addr) (xs ys : List Nat) (c1 c2 : Nat) (w : World) (h1 : Rd w A1 xs) (h2 : Rd w A2 ys) (s1 : Norm xs) (s2 : Norm ys)
    (hm : xs.length ≤ 274877906944) (hm2 : ys.length ≤ 549755813888) (h0 : 0 < wv ys) :
    Calls Tryz.prog 246 #[.slice A1 xs.length c1, .slice A2 ys.length c2] w (Gives2 w (ofN (wv xs / wv ys)) (ofN (wv xs % wv ys))) := by
  rcases Nat.lt_or_ge (wv xs) (wv ys) with h | h
  · exact div_less A1 A2 xs ys c1 c2 w h1 h2 s1 s2 (by omega) hm2 h
  · rcases Nat.lt_trichotomy ys.length 1 with hl | hl | hl
    · have : ys = [] := List.eq_nil_of_length_eq_zero (by omega)
      subst this
      simp [wv] at h0
    · exact div_word A1 A2 xs ys c1 c2 w h1 h2 s1 s2 (by omega) hl h
    · exact div_long A1 A2 xs ys c1 c2 w h1 h2 s1 s2 hm (by omega) h

/-- A number's type. -/
abbrev tInt : TypeId := 134

/-- Two cells of a block that holds no words: room for a number. -/
def Spot (base : Nat) (w : World) (g o : Nat) : Prop :=
  base ≤ g ∧ ∃ cur t, w.heap[g]? = some (.cells cur t (0, 0)) ∧ t ≠ tU32 ∧ o + 1 < cur.size

/-- A number lies there, its words are the call's own. -/
def IntAt (base : Nat) (w : World) (g o : Nat) (z : Int) : Prop :=
  Spot base w g o ∧ w.cell? ⟨g, o, none⟩ = some (.bool (decide (z < 0))) ∧ ∃ A c, w.cell? ⟨g, o + 1, none⟩ = some (.slice A (ofN z.natAbs).length c) ∧
    Res base w (.slice A (ofN z.natAbs).length c) (ofN z.natAbs)

theorem Spot.lt {base : Nat} {w : World} {g o : Nat} (h : Spot base w g o) : g < w.heap.size := by
  obtain ⟨_, cur, t, hg, _⟩ := h
  exact (Array.getElem?_eq_some_iff.1 hg).1

theorem Spot.frozen {base : Nat} {w : World} {g o : Nat} (h : Spot base w g o) (k : Nat) : w.frozen? ⟨g, k, none⟩ = false := by
  obtain ⟨_, cur, t, hg, _⟩ := h
  exact frozen_of_row w g k cur t hg

theorem Spot.cells {base : Nat} {w : World} {g o : Nat} (h : Spot base w g o) : ∃ u v, w.cell? ⟨g, o, none⟩ = some u ∧ w.cell? ⟨g, o + 1, none⟩ = some v := by
  obtain ⟨_, cur, t, hg, _, hs⟩ := h
  exact ⟨cur[o], cur[o + 1], by simp [World.cell?, hg], by simp [World.cell?, hg]⟩

theorem Spot.block {base : Nat} {w w' : World} {g o : Nat} (h : Spot base w g o) (hk : w'.heap[g]? = w.heap[g]?) : Spot base w' g o := by
  obtain ⟨hb, cur, t, hg, r⟩ := h
  exact ⟨hb, cur, t, by rw [hk, hg], r⟩

theorem Spot.set {base : Nat} {w : World} {g o : Nat} (h : Spot base w g o) (g2 k : Nat) (v : Value) : Spot base (w.setCell ⟨g2, k, none⟩ v) g o := by
  obtain ⟨hb, cur, t, hg, ht, hs⟩ := h
  by_cases e : g2 = g
  · subst e
    exact ⟨hb, _, t, heap_setCell_same w g2 k cur t v hg, ht, by simpa using hs⟩
  · exact ⟨hb, cur, t, by rw [heap_setCell_other w _ g v (fun h => e h.symm), hg], ht, hs⟩

theorem Spot.grown {base : Nat} {w w' : World} {g o g2 : Nat} (h : Spot base w g o) (hg : w.grownBy w' (some g2)) (hne : g ≠ g2) : Spot base w' g o :=
  h.block (hg.block g h.lt (by simpa using hne))

theorem Spot.under {base B : Nat} {w w' : World} {g o : Nat} (h : Spot base w g o) (hb : Below B w w') (hB : g < B) : Spot base w' g o :=
  h.block (hb.block g hB)

/-- Owned words stay when a block that holds no words is written. -/
theorem Res.spot {base : Nat} {w w' : World} {v : Value} {xs : List Nat} {g o : Nat} (h : Res base w v xs) (hs : Spot base w g o) (hg : w.grownBy w' (some g)) : Res base w' v xs := by
  refine ⟨h.1, ?_⟩
  rcases h.2 with h1 | ⟨g', cap, cur, hv, hbg, hg', r⟩
  · exact .inl h1
  · refine .inr ⟨g', cap, cur, hv, hbg, ?_, r⟩
    obtain ⟨_, cur2, t, h2, ht, _⟩ := hs
    have hne : g' ≠ g := by
      rintro rfl
      rw [hg'] at h2
      cases h2
      exact ht rfl
    rw [hg.block g' (Array.getElem?_eq_some_iff.1 hg').1 (by simpa using hne), hg']

theorem Res.size {base : Nat} {w w' : World} {v : Value} {xs : List Nat} (h : Res base w v xs) (hk : ∀ k, k < w.heap.size → w'.heap[k]? = w.heap[k]?) : Res base w' v xs := by
  refine ⟨h.1, ?_⟩
  rcases h.2 with h1 | ⟨g', cap, cur, hv, hbg, hg', r⟩
  · exact .inl h1
  · exact .inr ⟨g', cap, cur, hv, hbg, by rw [hk _ (Array.getElem?_eq_some_iff.1 hg').1, hg'], r⟩

theorem IntAt.spot {base : Nat} {w : World} {g o : Nat} {z : Int} (h : IntAt base w g o z) : Spot base w g o := h.1
theorem IntAt.lt {base : Nat} {w : World} {g o : Nat} {z : Int} (h : IntAt base w g o z) : g < w.heap.size := h.1.lt
theorem IntAt.base_le {base : Nat} {w : World} {g o : Nat} {z : Int} (h : IntAt base w g o z) : base ≤ g := h.1.1

/-- Another number is set: this one stays. -/
theorem IntAt.grown {base : Nat} {w w' : World} {g o g2 o2 : Nat} {z : Int} (h : IntAt base w g o z) (hs : Spot base w g2 o2) (hg : w.grownBy w' (some g2)) (hne : g ≠ g2) : IntAt base w' g o z := by
  obtain ⟨h1, h2, A, c, h3, h4⟩ := h
  have hb := hg.block g h1.lt (by simpa using hne)
  exact ⟨h1.block hb, by rw [World.cell?_of_block (by exact hb)]; exact h2, A, c, by rw [World.cell?_of_block (by exact hb)]; exact h3, h4.spot hs hg⟩

theorem IntAt.keep {base : Nat} {w w' : World} {g o : Nat} {z : Int} (h : IntAt base w g o z) (hk : ∀ k, k < w.heap.size → w'.heap[k]? = w.heap[k]?) : IntAt base w' g o z := by
  obtain ⟨h1, h2, A, c, h3, h4⟩ := h
  have hb := hk g h1.lt
  exact ⟨h1.block hb, by rw [World.cell?_of_block (by exact hb)]; exact h2, A, c, by rw [World.cell?_of_block (by exact hb)]; exact h3, h4.size hk⟩

theorem IntAt.under {base : Nat} {w w' : World} {g o : Nat} {z : Int} (h : IntAt base w g o z) (hb : Below w.heap.size w w') : IntAt base w' g o z := h.keep hb.block

def sg (neg : Bool) (n : Nat) : Int := if neg then -(n : Int) else (n : Int)

theorem sg_abs (b : Bool) (n : Nat) : (sg b n).natAbs = n := by unfold sg; split <;> omega
theorem sg_neg (b : Bool) (n : Nat) : decide (sg b n < 0) = (b && decide (0 < n)) := by
  unfold sg
  cases b <;> simp <;> omega
theorem sg_false (n : Nat) : sg false n = (n : Int) := rfl
theorem sg_self (z : Int) : sg (decide (z < 0)) z.natAbs = z := by
  unfold sg
  split <;> rename_i h <;> simp at h <;> omega

/-- The world in which a number is set. -/
def setTo (w : World) (g o : Nat) (b : Bool) (v : Value) : World := (w.setCell ⟨g, o + 1, none⟩ v).setCell ⟨g, o, none⟩ (.bool b)

theorem setTo_grown (w : World) (g o : Nat) (b : Bool) (v : Value) : w.grownBy (setTo w g o b v) (some g) :=
  grown_set (grown_set (grown_refl w (some g)) _ _) _ _

theorem tl_pos {xs : List Nat} : (0 < tl xs) ↔ 0 < wv xs := by
  unfold tl
  constructor
  · intro h
    rcases Nat.eq_zero_or_pos (wv xs) with h0 | h0
    · rw [h0, ofN_zero] at h; simp at h
    · exact h0
  · intro h
    rcases Nat.eq_zero_or_pos (ofN (wv xs)).length with h0 | h0
    · have := ofN_eq_nil.1 (List.eq_nil_of_length_eq_zero h0); omega
    · exact h0

/-- Owned words, trimmed. -/
theorem Res.trim {base : Nat} {w : World} {A : Option Addr} {c : Nat} {xs : List Nat} (h : Res base w (.slice A xs.length c) xs) (hs : Small xs) : Res base w (.slice A (tl xs) c) (ofN (wv xs)) := by
  rcases h.loc hs with ⟨h1, rfl⟩ | ⟨g, m, h1, h2⟩
  · simp only [Value.slice.injEq] at h1
    obtain ⟨rfl, h2, rfl⟩ := h1
    have e : tl ([] : List Nat) = 0 := by simp [tl, wv, ofN_zero]
    rw [e]
    simp only [wv, ofN_zero]
    exact Res.nil _ _
  · simp only [Value.slice.injEq] at h1
    obtain ⟨rfl, _, rfl⟩ := h1
    exact h2.trim

theorem cell_other {w : World} {g i k : Nat} {v : Value} (h : i ≠ k) : (w.setCell ⟨g, i, none⟩ v).cell? ⟨g, k, none⟩ = w.cell? ⟨g, k, none⟩ :=
  World.cell?_setCell_other w _ _ v (by intro e; cases e; exact h rfl)
theorem cell_same {w : World} {g i : Nat} {v u : Value} (h : w.cell? ⟨g, i, none⟩ = some u) : (w.setCell ⟨g, i, none⟩ v).cell? ⟨g, i, none⟩ = some v :=
  World.cell?_setCell_same' w _ v (by rw [h]; rfl)

theorem setTo_int {base : Nat} {w : World} {g o : Nat} (h : Spot base w g o) {A : Option Addr} {c : Nat} {xs : List Nat} (hr : Res base w (.slice A xs.length c) xs) (hs : Small xs) (b : Bool) :
    IntAt base (setTo w g o (b && decide (0 < tl xs)) (.slice A (tl xs) c)) g o (sg b (wv xs)) := by
  obtain ⟨u, v, hu, hv⟩ := h.cells
  refine ⟨(h.set _ _ _).set _ _ _, ?_, A, c, ?_, ?_⟩
  · unfold setTo
    rw [cell_same (u := u), sg_neg]
    · simp only [tl_pos]
    · rw [cell_other (by omega), hu]
  · unfold setTo
    rw [cell_other (by omega), cell_same hv, sg_abs]; rfl
  · rw [sg_abs]
    exact (hr.trim hs).spot h (setTo_grown _ _ _ _ _)

theorem setTo_other {w : World} {g o k : Nat} {b : Bool} {v : Value} (h1 : k ≠ o) (h2 : k ≠ o + 1) : (setTo w g o b v).cell? ⟨g, k, none⟩ = w.cell? ⟨g, k, none⟩ := by
  unfold setTo
  rw [cell_other (by omega), cell_other (by omega)]

set_option maxRecDepth 100000 in
theorem set_any (base g o : Nat) (b : Bool) (A : Option Addr) (c : Nat) (xs : List Nat) (w : World) (hs : Spot base w g o) (h : Res base w (.slice A xs.length c) xs) (hx : Small xs) :
    Calls Tryz.prog 153 #[.pointer (some ⟨g, o, none⟩), .bool b, .slice A xs.length c] w fun e w' =>
      e = .returned (.pointer (some ⟨g, o, none⟩)) ∧ w' = setTo w g o (b && decide (0 < tl xs)) (.slice A (tl xs) c) := by
  obtain ⟨A', c', hv, hc, hm, hrd⟩ := h.form
  simp only [Value.slice.injEq] at hv
  obtain ⟨rfl, _, rfl⟩ := hv
  obtain ⟨u, v, hu, hv⟩ := hs.cells
  have hf := hs.frozen
  have hf0 := hf o
  have hf1 := hf (o + 1)
  have T := Lib.hid (fun w hrd => trim_any A xs c w hrd hx hc hm)
  go_enter Tryz.func153, Tryz.ntmps153
  go_wp2_with fail
  with_reducible refine (T.out _ hrd).mono ?_
  rintro e w' ⟨rfl, rfl⟩
  cases b
  · go_wp2
    go_ret
    exact ⟨rfl, rfl⟩
  · go_wp2
    go_ret
    exact ⟨rfl, by simp [setTo]⟩

end Go.Proofs.YtihdnfhclocndaaGreatDoor
namespace Go.Proofs.YtihdnfhclocndaaGreatDoor
open Go.RowKit W

/-- A method set the number at (g, o), and answers it. -/
def SetsInt (base : Nat) (w : World) (g o : Nat) (z : Int) (e : Ending) (w' : World) : Prop :=
  e = .returned (.pointer (some ⟨g, o, none⟩)) ∧ w.grownBy w' (some g) ∧ IntAt base w' g o z ∧ ∀ k, k ≠ o → k ≠ o + 1 → w'.cell? ⟨g, k, none⟩ = w.cell? ⟨g, k, none⟩

theorem grown_of_below {w w1 : World} {g : Nat} (hb : Below w.heap.size w w1) : w.grownBy w1 (some g) := ⟨hb.os, hb.tape, hb.output, hb.size, fun k hk _ => hb.block k hk⟩

/-- New words, then the number is set to them. -/
theorem sets_new {base : Nat} {w w1 : World} {g o : Nat} (hs : Spot base w g o) (hb : Below w.heap.size w w1) {A : Option Addr} {n c : Nat} {xs : List Nat}
    (hr : Res w.heap.size w1 (.slice A xs.length c) xs) (hx : Small xs) (b : Bool) (z : Int) (hz : sg b (wv xs) = z) (hn : xs.length = n) (hbase : base ≤ w.heap.size) :
    Calls Tryz.prog 153 #[.pointer (some ⟨g, o, none⟩), .bool b, .slice A n c] w1 (SetsInt base w g o z) := by
  subst hn
  have hs1 := hs.under hb hs.lt
  refine (set_any base g o b A c xs w1 hs1 (hr.lower hbase) hx).mono ?_
  rintro e w' ⟨rfl, rfl⟩
  refine ⟨rfl, grown_trans (grown_of_below hb) (setTo_grown _ _ _ _ _), hz ▸ setTo_int hs1 (hr.lower hbase) hx b, fun k h1 h2 => ?_⟩
  rw [setTo_other h1 h2]
  exact hb.cell (p := ⟨g, k, none⟩) hs.lt

theorem SetsInt.undrew {base : Nat} {w : World} {g o : Nat} {z : Int} {e : Ending} {w' : World} (h : SetsInt base w.drew g o z e w') : SetsInt base w g o z e w' :=
  ⟨h.1, ⟨h.2.1.os, h.2.1.tape, h.2.1.output, h.2.1.size, h.2.1.block⟩, h.2.2.1, h.2.2.2⟩

theorem Spot.drew {base : Nat} {w : World} {g o : Nat} (h : Spot base w g o) : Spot base w.drew g o := h

theorem copied_gives (A : Option Addr) (xs : List Nat) (c : Nat) (w : World) (h : Rd w A xs) (hs : Small xs) (hm : xs.length ≤ 549755813888) :
    Calls Tryz.prog 156 #[.slice A xs.length c] w (Gives w xs) := by
  refine (copied_any A xs c w h hs hm).mono ?_
  rintro e w' ⟨rfl, hb, hL⟩
  exact Gives.of hb hL.res

theorem IntAt.rd {base : Nat} {w : World} {g o : Nat} {z : Int} (h : IntAt base w g o z) : ∃ A c, w.cell? ⟨g, o, none⟩ = some (.bool (decide (z < 0))) ∧ w.cell? ⟨g, o + 1, none⟩ = some (.slice A (ofN z.natAbs).length c) ∧
    Rd w A (ofN z.natAbs) ∧ (ofN z.natAbs).length ≤ c ∧ c ≤ maxLen := by
  obtain ⟨h1, h2, A, c, h3, h4⟩ := h
  obtain ⟨A', c', hv, k1, k2, k3⟩ := h4.form
  simp only [Value.slice.injEq] at hv
  obtain ⟨rfl, _, rfl⟩ := hv
  exact ⟨A, c, h2, h3, k3, k1, k2⟩

set_option maxRecDepth 100000 in
theorem intSet_any (base g o gx ox : Nat) (x : Int) (w : World) (hs : Spot base w g o) (hx : IntAt base w gx ox x) (hb : base ≤ w.heap.size) (hl : (ofN x.natAbs).length ≤ 274877906944) :
    Calls Tryz.prog 154 #[.pointer (some ⟨g, o, none⟩), .pointer (some ⟨gx, ox, none⟩)] w (SetsInt base w g o x) := by
  obtain ⟨A, c, c1, c2, hrd, hc, hm⟩ := hx.rd
  have hlt := hx.lt
  have T := Lib.hid (copied_gives A (ofN x.natAbs) c w.drew hrd.drew (small_ofN _) (by omega))
  have HRD := Lib.hid hrd
  have hs1 := hs.lt
  have HS := Lib.hid hs
  clear hrd hx hs
  go_enter Tryz.func154, Tryz.ntmps154
  go_wp2
  go_region_with (first
    | (go_at_call 156; (with_reducible refine T.out.mono ?_); rintro e w1 ⟨A2, n2, rfl, hb1, hr1, k1, k2, k3⟩; have hB := Lib.hid hb1; have hR := Lib.hid hr1; have c1' : w1.cell? ⟨gx, ox, none⟩ = _ := (hb1.cell (p := ⟨gx, ox, none⟩) hlt).trans c1; clear hb1 hr1 k1 k2 k3)
    | (go_at_call 153; have S := Lib.hid (sets_new (base := base) (w := w.drew) HS.out.drew hB.out hR.out (small_ofN _) (decide (x < 0)) x (by rw [wv_ofN]; exact sg_self x) rfl hb); (with_reducible refine S.out.mono ?_); rintro e w2 ⟨rfl, hS⟩; clear S))
  all_goals (go_wp2; go_ret; exact SetsInt.undrew ⟨rfl, hS⟩)

end Go.Proofs.YtihdnfhclocndaaGreatDoor
namespace Go.Proofs.YtihdnfhclocndaaGreatDoor
open Go.RowKit W

set_option maxRecDepth 100000 in
theorem intNeg_any (base g o gx ox : Nat) (x : Int) (w : World) (hs : Spot base w g o) (hx : IntAt base w gx ox x) (hb : base ≤ w.heap.size) (hl : (ofN x.natAbs).length ≤ 274877906944) :
    Calls Tryz.prog 100 #[.pointer (some ⟨g, o, none⟩), .pointer (some ⟨gx, ox, none⟩)] w (SetsInt base w g o (-x)) := by
  obtain ⟨A, c, c1, c2, hrd, hc, hm⟩ := hx.rd
  have hlt := hx.lt
  have T := Lib.hid (copied_gives A (ofN x.natAbs) c w.drew hrd.drew (small_ofN _) (by omega))
  have HRD := Lib.hid hrd
  have hs1 := hs.lt
  have HS := Lib.hid hs
  have HZ := Lib.hid (show sg (!decide (x < 0)) (wv (ofN x.natAbs)) = -x by
    rw [wv_ofN]; unfold sg
    by_cases h : x < 0
    · simp [h]; omega
    · simp [h]; omega)
  clear hrd hx hs
  go_enter Tryz.func100, Tryz.ntmps100
  go_wp2
  go_region_with (first
    | (go_at_call 156; (with_reducible refine T.out.mono ?_); rintro e w1 ⟨A2, n2, rfl, hb1, hr1, k1, k2, k3⟩; have hB := Lib.hid hb1; have hR := Lib.hid hr1; have c1' : w1.cell? ⟨gx, ox, none⟩ = _ := (hb1.cell (p := ⟨gx, ox, none⟩) hlt).trans c1; clear hb1 hr1 k1 k2 k3)
    | (go_at_call 153; have S := Lib.hid (sets_new (base := base) (w := w.drew) HS.out.drew hB.out hR.out (small_ofN _) (!decide (x < 0)) (-x) HZ.out rfl hb); (with_reducible refine S.out.mono ?_); rintro e w2 ⟨rfl, hS⟩; clear S))
  all_goals (go_wp2; go_ret; exact SetsInt.undrew ⟨rfl, hS⟩)

set_option maxRecDepth 100000 in
theorem intAbs_any (base g o gx ox : Nat) (x : Int) (w : World) (hs : Spot base w g o) (hx : IntAt base w gx ox x) (hb : base ≤ w.heap.size) (hl : (ofN x.natAbs).length ≤ 274877906944) :
    Calls Tryz.prog 173 #[.pointer (some ⟨g, o, none⟩), .pointer (some ⟨gx, ox, none⟩)] w (SetsInt base w g o (x.natAbs : Int)) := by
  obtain ⟨A, c, c1, c2, hrd, hc, hm⟩ := hx.rd
  have T := Lib.hid (copied_gives A (ofN x.natAbs) c w hrd (small_ofN _) (by omega))
  have HS := Lib.hid hs
  clear hrd hx hs
  go_enter Tryz.func173, Tryz.ntmps173
  go_wp2_with fail
  with_reducible refine T.out.mono ?_
  rintro e w1 ⟨A2, n2, rfl, hb1, hr1, k1, k2, k3⟩
  have S := Lib.hid (sets_new (base := base) (w := w) HS.out hb1 hr1 (small_ofN _) false (x.natAbs : Int) (by rw [wv_ofN, sg_false]) rfl hb)
  clear hb1 hr1 k1 k2 k3 T
  go_wp2_with fail
  with_reducible refine S.out.mono ?_
  rintro e w2 ⟨rfl, hS⟩
  go_wp2
  go_ret
  exact ⟨rfl, hS⟩

set_option maxRecDepth 100000 in
theorem intSetWords_any (base g o : Nat) (A : Option Addr) (c : Nat) (xs : List Nat) (w : World) (hs : Spot base w g o) (hrd : Rd w A xs) (sx : Small xs) (hb : base ≤ w.heap.size) (hl : xs.length ≤ 274877906944) :
    Calls Tryz.prog 228 #[.pointer (some ⟨g, o, none⟩), .slice A xs.length c] w (SetsInt base w g o (wv xs : Int)) := by
  have T := Lib.hid (copied_gives A xs c w hrd sx (by omega))
  have HS := Lib.hid hs
  clear hrd hs
  go_enter Tryz.func228, Tryz.ntmps228
  go_wp2_with fail
  with_reducible refine T.out.mono ?_
  rintro e w1 ⟨A2, n2, rfl, hb1, hr1, k1, k2, k3⟩
  have S := Lib.hid (sets_new (base := base) (w := w) HS.out hb1 hr1 sx false (wv xs : Int) (by rw [sg_false]) rfl hb)
  clear hb1 hr1 k1 k2 k3 T
  go_wp2_with fail
  with_reducible refine S.out.mono ?_
  rintro e w2 ⟨rfl, hS⟩
  go_wp2
  go_ret
  exact ⟨rfl, hS⟩

set_option maxRecDepth 100000 in
theorem intSetInt64_any (base g o : Nat) (x : Int) (w : World) (hs : Spot base w g o) (h1 : -9223372036854775808 ≤ x) (h2 : x < 9223372036854775808) (hb : base ≤ w.heap.size) :
    Calls Tryz.prog 175 #[.pointer (some ⟨g, o, none⟩), .int .i64 x] w (SetsInt base w g o x) := by
  have T := Lib.hid (fromUint_any x.natAbs w (by omega))
  have HS := Lib.hid hs
  clear hs
  by_cases h0 : x < 0
  · have e1 : IntKind.u64.wrap (-IntKind.u64.wrap x) = (x.natAbs : Int) := by simp only [IntKind.wrap_u64]; omega
    go_enter Tryz.func175, Tryz.ntmps175
    go_wp2_with fail
    with_reducible refine T.out.mono ?_
    rintro e w1 ⟨A2, n2, rfl, hb1, hr1, k1, k2, k3⟩
    have S := Lib.hid (sets_new (base := base) (w := w) HS.out hb1 hr1 (small_ofN _) true x (by rw [wv_ofN]; unfold sg; simp; omega) rfl hb)
    clear hb1 hr1 k1 k2 k3 T
    go_wp2_with fail
    with_reducible refine S.out.mono ?_
    rintro e w2 ⟨rfl, hS⟩
    go_wp2
    go_ret
    exact ⟨rfl, hS⟩
  · obtain ⟨n, rfl⟩ : ∃ n : Nat, x = (n : Int) := ⟨x.toNat, by omega⟩
    rw [Int.natAbs_natCast] at T
    have e1 : IntKind.u64.wrap (n : Int) = (n : Int) := by simp only [IntKind.wrap_u64]; omega
    go_enter Tryz.func175, Tryz.ntmps175
    go_wp2_with fail
    with_reducible refine T.out.mono ?_
    rintro e w1 ⟨A2, n2, rfl, hb1, hr1, k1, k2, k3⟩
    have S := Lib.hid (sets_new (base := base) (w := w) HS.out hb1 hr1 (small_ofN _) false (n : Int) (by rw [wv_ofN, sg_false]) rfl hb)
    clear hb1 hr1 k1 k2 k3 T
    go_wp2_with fail
    with_reducible refine S.out.mono ?_
    rintro e w2 ⟨rfl, hS⟩
    go_wp2
    go_ret
    exact ⟨rfl, hS⟩

/-- A new number. -/
abbrev newInt : Obj := .cells #[.bool false, .slice none 0 0] tInt

theorem Spot.new {base : Nat} (w : World) (hb : base ≤ w.heap.size) : Spot base (w.alloc newInt) w.heap.size 0 :=
  ⟨hb, _, _, heap_alloc_new w _, by decide, by decide⟩

theorem IntAt.new {base : Nat} (w : World) (hb : base ≤ w.heap.size) : IntAt base (w.alloc newInt) w.heap.size 0 0 := by
  have hc := heap_alloc_new w newInt
  refine ⟨Spot.new w hb, by unfold World.cell?; rw [hc]; rfl, none, 0, ?_, ?_⟩
  · unfold World.cell?; rw [hc]; simp only [Int.natAbs_zero, ofN_zero]; rfl
  · simp only [Int.natAbs_zero, ofN_zero]; exact Res.nil _ _

/-- A function hands back a new number. -/
def GivesInt (w : World) (z : Int) (e : Ending) (w' : World) : Prop :=
  ∃ g, e = .returned (.pointer (some ⟨g, 0, none⟩)) ∧ Below w.heap.size w w' ∧ w.heap.size ≤ g ∧ IntAt w.heap.size w' g 0 z

set_option maxRecDepth 100000 in
theorem newInt_any (x : Int) (w : World) (h1 : -9223372036854775808 ≤ x) (h2 : x < 9223372036854775808) :
    Calls Tryz.prog 110 #[.int .i64 x] w (GivesInt w x) := by
  have T := Lib.hid (intSetInt64_any w.heap.size w.heap.size 0 x (w.alloc newInt) (Spot.new w (Nat.le_refl _)) h1 h2 (by simp))
  go_enter Tryz.func110, Tryz.ntmps110
  go_wp2_with fail
  with_reducible refine T.out.mono ?_
  rintro e w2 ⟨rfl, hS⟩
  go_wp2
  go_ret
  exact ⟨w.heap.size, rfl, grown_below ((Below.refl _ _).alloc (Nat.le_refl _) _) hS.1 (by simp) (Nat.le_refl _), Nat.le_refl _, hS.2.1⟩

end Go.Proofs.YtihdnfhclocndaaGreatDoor
