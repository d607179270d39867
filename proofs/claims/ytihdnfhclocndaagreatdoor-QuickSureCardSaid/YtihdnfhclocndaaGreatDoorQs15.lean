/- numeral/big: numbers' methods: Sub, QuoRem. A region that draws its order: reads, one call that makes memory, and a forced tail behind both. Laws of order alone; no program in sight. -/
import Derived.Test.YtihdnfhclocndaaGreatDoorQs14
import Derived.OrdersHeld
import Derived.RegionTactic
import Derived.Deep.RegionHeld
import Derived.StillTail
namespace Go.Proofs.YtihdnfhclocndaaGreatDoor
open Go.RowKit W

set_option maxRecDepth 100000 in
theorem intSub_any (base g o gx ox gy oy : Nat) (x y : Int) (w : World) (hs : Spot base w g o) (hx : IntAt base w gx ox x) (hy : IntAt base w gy oy y) (hb : base ≤ w.heap.size)
    (hl : (ofN x.natAbs).length ≤ 274877906944) (hl2 : (ofN y.natAbs).length ≤ 274877906944) :
    Calls Tryz.prog 278 #[.pointer (some ⟨g, o, none⟩), .pointer (some ⟨gx, ox, none⟩), .pointer (some ⟨gy, oy, none⟩)] w (SetsInt base w g o (x - y)) := by
  obtain ⟨A, c, c1, c2, hrd, hc, hm⟩ := hx.rd
  obtain ⟨A2, d, d1, d2, hrd2, hd, hm2⟩ := hy.rd
  have T := Lib.hid (added_any base g o A A2 (ofN x.natAbs) (ofN y.natAbs) c d (decide (x < 0)) (!decide (y < 0)) w.drew hs.drew hrd.drew hrd2.drew (norm_ofN _) (norm_ofN _) hb hl hl2)
  have e1 : sg (!decide (y < 0)) y.natAbs = -y := by
    unfold sg
    by_cases h : y < 0
    · simp [h]; omega
    · simp [h]; omega
  rw [wv_ofN, wv_ofN, sg_self, e1, ← Int.sub_eq_add_neg] at T
  clear hrd hrd2 hx hy hs e1
  go_enter Tryz.func278, Tryz.ntmps278
  go_wp2
  go_still_tail 18, (by kernel_rfl)
  change wpList _ _ _ _ _ w.drew
  go_wp2_with fail
  with_reducible refine T.out.mono ?_
  rintro e w2 ⟨rfl, hS⟩
  go_wp2
  go_ret
  exact SetsInt.undrew ⟨rfl, hS⟩

/-- Nothing of what was there turned, but these blocks. -/
structure Only (S : List Nat) (w w' : World) : Prop where
  os : w'.os = w.os
  tape : w'.tape = w.tape
  output : w'.output = w.output
  size : w.heap.size ≤ w'.heap.size
  block : ∀ k, k < w.heap.size → k ∉ S → w'.heap[k]? = w.heap[k]?

theorem Only.of_grown {w w' : World} {g : Nat} (h : w.grownBy w' (some g)) : Only [g] w w' := ⟨h.os, h.tape, h.output, h.size, fun k hk hn => h.block k hk (by simpa using hn)⟩
theorem Only.of_below {w w' : World} (h : Below w.heap.size w w') (S : List Nat) : Only S w w' := ⟨h.os, h.tape, h.output, h.size, fun k hk _ => h.block k hk⟩
theorem Only.mono {S T : List Nat} {w w' : World} (h : Only S w w') (hS : ∀ k ∈ S, k ∈ T) : Only T w w' := ⟨h.os, h.tape, h.output, h.size, fun k hk hn => h.block k hk fun hs => hn (hS k hs)⟩
theorem Only.trans {S : List Nat} {w w1 w2 : World} (h : Only S w w1) (k : Only S w1 w2) : Only S w w2 :=
  ⟨k.os.trans h.os, k.tape.trans h.tape, k.output.trans h.output, Nat.le_trans h.size k.size, fun i hi hn => (k.block i (Nat.lt_of_lt_of_le hi h.size) hn).trans (h.block i hi hn)⟩
theorem Only.below {B : Nat} {S : List Nat} {w w' : World} (h : Only S w w') (hB : B ≤ w.heap.size) (hS : ∀ k ∈ S, B ≤ k) : Below B w w' :=
  ⟨h.os, h.tape, h.output, h.size, fun k hk => h.block k (by omega) fun hs => by have := hS k hs; omega⟩
theorem Only.grown {w w' : World} {g : Nat} (h : Only [g] w w') : w.grownBy w' (some g) := ⟨h.os, h.tape, h.output, h.size, fun k hk hn => h.block k hk (by simpa using hn)⟩
theorem Only.undrew {S : List Nat} {w w' : World} (h : Only S w.drew w') : Only S w w' := ⟨h.os, h.tape, h.output, h.size, h.block⟩
theorem Only.undrewN {S : List Nat} {w w' : World} {n : Nat} (h : Only S (w.drewN n) w') : Only S w w' := ⟨h.os, h.tape, h.output, h.size, h.block⟩

/-- Owned words stay where only blocks turn that hold no words. -/
theorem Res.only {base : Nat} {S : List Nat} {w w' : World} {v : Value} {xs : List Nat} (h : Res base w v xs) (hO : Only S w w') (hS : ∀ k ∈ S, ∃ o, Spot base w k o) : Res base w' v xs := by
  refine ⟨h.1, ?_⟩
  rcases h.2 with h1 | ⟨g', cap, cur, hv, hbg, hg', r⟩
  · exact .inl h1
  · refine .inr ⟨g', cap, cur, hv, hbg, ?_, r⟩
    rw [hO.block g' (Array.getElem?_eq_some_iff.1 hg').1 ?_, hg']
    intro hk
    obtain ⟨o, _, cur2, t, h2, ht, _⟩ := hS g' hk
    rw [hg'] at h2
    cases h2
    exact ht rfl

theorem IntAt.only {base : Nat} {S : List Nat} {w w' : World} {g o : Nat} {z : Int} (h : IntAt base w g o z) (hO : Only S w w') (hn : g ∉ S) (hS : ∀ k ∈ S, ∃ o, Spot base w k o) : IntAt base w' g o z := by
  obtain ⟨h1, h2, A, c, h3, h4⟩ := h
  have hb := hO.block g h1.lt hn
  exact ⟨h1.block hb, by rw [World.cell?_of_block (by exact hb)]; exact h2, A, c, by rw [World.cell?_of_block (by exact hb)]; exact h3, h4.only hO hS⟩

theorem Spot.only {base : Nat} {S : List Nat} {w w' : World} {g o : Nat} (h : Spot base w g o) (hO : Only S w w') (hn : g ∉ S) : Spot base w' g o := h.block (hO.block g h.lt hn)

theorem sg_div (x y : Int) : sg (!(decide (x < 0) == decide (y < 0))) (x.natAbs / y.natAbs) = x.tdiv y := by
  rcases (show x < 0 ∨ 0 ≤ x by omega) with h1 | h1 <;> rcases (show y < 0 ∨ 0 ≤ y by omega) with h2 | h2
  · rw [decide_eq_true h1, decide_eq_true h2]
    obtain ⟨n, rfl⟩ : ∃ n : Nat, x = -(n : Int) := ⟨x.natAbs, by omega⟩
    obtain ⟨m, rfl⟩ : ∃ m : Nat, y = -(m : Int) := ⟨y.natAbs, by omega⟩
    rw [Int.natAbs_neg, Int.natAbs_neg, Int.natAbs_natCast, Int.natAbs_natCast, Int.neg_tdiv, Int.tdiv_neg, Int.neg_neg]
    rfl
  · rw [decide_eq_true h1, decide_eq_false (show ¬ y < 0 by omega)]
    obtain ⟨n, rfl⟩ : ∃ n : Nat, x = -(n : Int) := ⟨x.natAbs, by omega⟩
    obtain ⟨m, rfl⟩ : ∃ m : Nat, y = (m : Int) := ⟨y.natAbs, by omega⟩
    rw [Int.natAbs_neg, Int.natAbs_natCast, Int.natAbs_natCast, Int.neg_tdiv]
    rfl
  · rw [decide_eq_true h2, decide_eq_false (show ¬ x < 0 by omega)]
    obtain ⟨n, rfl⟩ : ∃ n : Nat, x = (n : Int) := ⟨x.natAbs, by omega⟩
    obtain ⟨m, rfl⟩ : ∃ m : Nat, y = -(m : Int) := ⟨y.natAbs, by omega⟩
    rw [Int.natAbs_neg, Int.natAbs_natCast, Int.natAbs_natCast, Int.tdiv_neg]
    rfl
  · rw [decide_eq_false (show ¬ y < 0 by omega), decide_eq_false (show ¬ x < 0 by omega)]
    obtain ⟨n, rfl⟩ : ∃ n : Nat, x = (n : Int) := ⟨x.natAbs, by omega⟩
    obtain ⟨m, rfl⟩ : ∃ m : Nat, y = (m : Int) := ⟨y.natAbs, by omega⟩
    rw [Int.natAbs_natCast, Int.natAbs_natCast]
    rfl

theorem sg_mod (x y : Int) : sg (decide (x < 0)) (x.natAbs % y.natAbs) = x.tmod y := by
  rcases (show x < 0 ∨ 0 ≤ x by omega) with h1 | h1 <;> rcases (show y < 0 ∨ 0 ≤ y by omega) with h2 | h2
  · rw [decide_eq_true h1]
    obtain ⟨n, rfl⟩ : ∃ n : Nat, x = -(n : Int) := ⟨x.natAbs, by omega⟩
    obtain ⟨m, rfl⟩ : ∃ m : Nat, y = -(m : Int) := ⟨y.natAbs, by omega⟩
    rw [Int.natAbs_neg, Int.natAbs_neg, Int.natAbs_natCast, Int.natAbs_natCast, Int.neg_tmod, Int.tmod_neg]
    rfl
  · rw [decide_eq_true h1]
    obtain ⟨n, rfl⟩ : ∃ n : Nat, x = -(n : Int) := ⟨x.natAbs, by omega⟩
    obtain ⟨m, rfl⟩ : ∃ m : Nat, y = (m : Int) := ⟨y.natAbs, by omega⟩
    rw [Int.natAbs_neg, Int.natAbs_natCast, Int.natAbs_natCast, Int.neg_tmod]
    rfl
  · rw [decide_eq_false (show ¬ x < 0 by omega)]
    obtain ⟨n, rfl⟩ : ∃ n : Nat, x = (n : Int) := ⟨x.natAbs, by omega⟩
    obtain ⟨m, rfl⟩ : ∃ m : Nat, y = -(m : Int) := ⟨y.natAbs, by omega⟩
    rw [Int.natAbs_neg, Int.natAbs_natCast, Int.natAbs_natCast, Int.tmod_neg]
    rfl
  · rw [decide_eq_false (show ¬ x < 0 by omega)]
    obtain ⟨n, rfl⟩ : ∃ n : Nat, x = (n : Int) := ⟨x.natAbs, by omega⟩
    obtain ⟨m, rfl⟩ : ∃ m : Nat, y = (m : Int) := ⟨y.natAbs, by omega⟩
    rw [Int.natAbs_natCast, Int.natAbs_natCast]
    rfl

/-- Quotient and remainder set two numbers. -/
def SetsTwo (base : Nat) (w : World) (g o gr or_ : Nat) (q r : Int) (e : Ending) (w' : World) : Prop :=
  e = .returned (.tuple #[.pointer (some ⟨g, o, none⟩), .pointer (some ⟨gr, or_, none⟩)]) ∧ Only [g, gr] w w' ∧ IntAt base w' g o q ∧ IntAt base w' gr or_ r

set_option maxRecDepth 100000 in
theorem intQuoRem_any (base g o gx ox gy oy gr or_ : Nat) (x y : Int) (w : World) (hs : Spot base w g o) (hr : Spot base w gr or_) (hne : g ≠ gr) (hx : IntAt base w gx ox x) (hy : IntAt base w gy oy y) (hb : base ≤ w.heap.size)
    (hl : (ofN x.natAbs).length ≤ 274877906944) (hl2 : (ofN y.natAbs).length ≤ 274877906944) (hy0 : y ≠ 0) :
    Calls Tryz.prog 276 #[.pointer (some ⟨g, o, none⟩), .pointer (some ⟨gx, ox, none⟩), .pointer (some ⟨gy, oy, none⟩), .pointer (some ⟨gr, or_, none⟩)] w
      (SetsTwo base w g o gr or_ (x.tdiv y) (x.tmod y)) := by
  obtain ⟨A, c, c1, c2, hrd, hc, hm⟩ := hx.rd
  obtain ⟨A2, d, d1, d2, hrd2, hd, hm2⟩ := hy.rd
  have T := Lib.hid (fun n => divWords_any A A2 (ofN x.natAbs) (ofN y.natAbs) c d ((w.drewN n).drew) (hrd.drewN n).drew (hrd2.drewN n).drew (norm_ofN _) (norm_ofN _) (by omega) (by omega) (by rw [wv_ofN]; omega))
  simp only [wv_ofN] at T
  have HS := Lib.hid hs
  have HR := Lib.hid hr
  have HN := Lib.hid hne
  have Z1 := Lib.hid (sg_div x y)
  have Z2 := Lib.hid (sg_mod x y)
  clear hrd hrd2 hx hy hs hr hne
  go_enter Tryz.func276, Tryz.ntmps276
  go_wp2
  go_quiet (fail)
  go_wp2
  have TQ := Lib.hid (T.out nq)
  have HSq := Lib.hid (show Spot base (w.drewN nq) g o from HS.out)
  have HRq := Lib.hid (show Spot base (w.drewN nq) gr or_ from HR.out)
  have HO := Lib.hid (show ∀ w', Only [g, gr] (w.drewN nq) w' → Only [g, gr] w w' from fun w' h => h.undrewN)
  have c2q : (w.drewN nq).cell? ⟨gx, ox + 1, none⟩ = _ := c2
  have d2q : (w.drewN nq).cell? ⟨gy, oy + 1, none⟩ = _ := d2
  have hbq : base ≤ (w.drewN nq).heap.size := hb
  clear T HS HR c1 c2 d1 d2 hb
  generalize w.drewN nq = wq at *
  go_cut [12, 13] (fun s12 s13 wx => ∃ A3 n3 A4 n4, s12 = .slice A3 (ofN (x.natAbs / y.natAbs)).length n3 ∧ s13 = .slice A4 (ofN (x.natAbs % y.natAbs)).length n4 ∧ Below wq.heap.size wq.drew wx ∧
    Res wq.heap.size wx (.slice A3 (ofN (x.natAbs / y.natAbs)).length n3) (ofN (x.natAbs / y.natAbs)) ∧ Res wq.heap.size wx (.slice A4 (ofN (x.natAbs % y.natAbs)).length n4) (ofN (x.natAbs % y.natAbs)))
  case first =>
    go_region_with (go_at_call 246; (with_reducible refine TQ.out.mono ?_); rintro e w2 ⟨A3, n3, A4, n4, rfl, hb1, hr1, k1, k2, k3, hr2, k4, k5, k6⟩)
    all_goals (go_wp2_with fail; go_meet; exact ⟨A3, n3, A4, n4, rfl, rfl, hb1, hr1, hr2⟩)
  case rest =>
  obtain ⟨A3, n3, A4, n4, rfl, rfl, hb1, hr1, hr2⟩ := hcut
  have hsr := HRq.out.drew.under hb1 HRq.out.lt
  have S1 := Lib.hid (set_any base gr or_ (decide (x < 0)) A4 n4 _ wc hsr (hr2.lower hbq) (small_ofN _))
  have HB := Lib.hid hb1
  have HQ := Lib.hid hr1
  have HRR := Lib.hid (hr2.lower hbq)
  clear hb1 hr1 hr2 hsr TQ
  go_wp2_with fail
  with_reducible refine S1.out.mono ?_
  rintro e w3 ⟨rfl, hw3⟩
  have hsr := HRq.out.drew.under HB.out HRq.out.lt
  have hsg := HSq.out.drew.under HB.out HSq.out.lt
  have hg3 : wc.grownBy w3 (some gr) := by rw [hw3]; exact setTo_grown _ _ _ _ _
  have hi3 : IntAt base w3 gr or_ (x.tmod y) := by
    rw [hw3, ← Z2.out]
    have := setTo_int hsr HRR.out (small_ofN _) (decide (x < 0))
    rwa [wv_ofN] at this
  have hq3 := (HQ.out.lower hbq).spot hsr hg3
  have hs3 := hsg.grown hg3 HN.out
  have S2 := Lib.hid (set_any base g o (!(decide (x < 0) == decide (y < 0))) A3 n3 _ w3 hs3 hq3 (small_ofN _))
  have HG3 := Lib.hid hg3
  have HI3 := Lib.hid hi3
  have HQ3 := Lib.hid hq3
  have HS3 := Lib.hid hs3
  clear hw3 hsr hsg hg3 hi3 hq3 hs3 S1 HQ HRR
  go_wp2_with fail
  with_reducible refine S2.out.mono ?_
  rintro e w4 ⟨rfl, hw4⟩
  have hg4 : w3.grownBy w4 (some g) := by rw [hw4]; exact setTo_grown _ _ _ _ _
  have hi4 : IntAt base w4 g o (x.tdiv y) := by
    rw [hw4, ← Z1.out]
    have := setTo_int HS3.out HQ3.out (small_ofN _) (!(decide (x < 0) == decide (y < 0)))
    rwa [wv_ofN] at this
  have hi5 := HI3.out.grown HS3.out hg4 (fun h => HN.out h.symm)
  have HO4 := Lib.hid (HO.out w4 ((((Only.of_below HB.out _).trans ((Only.of_grown HG3.out).mono (by simp))).trans ((Only.of_grown hg4).mono (by simp))).undrew))
  clear hw4 S2
  go_wp2
  go_ret2
  exact ⟨rfl, HO4.out, hi4, hi5⟩

end Go.Proofs.YtihdnfhclocndaaGreatDoor
namespace Go.Proofs.YtihdnfhclocndaaGreatDoor
open Go

section
variable {P : Program} {ops : Array Oper} {Q : Exit → Act → World → Prop} {md : Region.Mode} {S : World → Prop}

/-- Whatever order the first m operations come in; behind each of them S holds; then L. -/
def wpAnyC (P : Program) (md : Region.Mode) (ops : Array Oper) (Q : Exit → Act → World → Prop) (S : World → Prop) (m : Nat) (L : Array Bool → Act → World → Prop) : Nat → Array Bool → Act → World → Prop
  | 0, listed, a, w => L listed a w
  | f + 1, listed, a, w =>
    Region.ready md ops listed ≠ [] ∧ ∀ i ∈ Region.ready md ops listed, i < m ∧ wpOp P ops Q i (fun a' w' => S w' ∧ wpAnyC P md ops Q S m L f (listed.setIfInBounds i true) a' w') a w

theorem wpAny_of_C {m g : Nat} {L : Array Bool → Act → World → Prop} (hL : ∀ listed a w, L listed a w → wpAny P md ops Q g listed a w) :
    ∀ (f : Nat) (listed : Array Bool) (a : Act) (w : World), wpAnyC P md ops Q S m L f listed a w → wpAny P md ops Q (f + g) listed a w
  | 0, listed, a, w, h => by rw [Nat.zero_add]; exact hL _ _ _ h
  | f + 1, listed, a, w, h => by
    rw [show f + 1 + g = (f + g) + 1 by omega]
    exact ⟨fun h0 => absurd h0 h.1, fun i hi => wpOp_mono (fun a' w' h' => wpAny_of_C hL f _ a' w' h'.2) (h.2 i hi).2⟩

theorem wpAnyC_first {m i : Nat} {oi : Oper} {v : Value} {L : Array Bool → Act → World → Prop} (hi : ops[i]? = some oi) (hsel : ∀ (j : Nat) (o : Oper) cs b, ops[j]? = some o → o.op ≠ .select cs b)
    (hQ : ∀ c a d v w, Q (.panic c) (a.put d v) w → Q (.panic c) a w)
    (hs : Region.sinkB md ops m = true) (hc : Region.chainB md ops m = true) (hm : m < ops.size) (him : i < m)
    (hdone : ∀ listed a w, L listed a w → ∀ j ∈ Region.ready md ops listed, m ≤ j) :
    ∀ (f : Nat) (listed : Array Bool) (a : Act) (w : World), HeadInv md ops m listed →
      (∀ j oj, ops[j]? = some oj → j ≠ i → listed.getD j true = false → (∀ e ∈ oj.after, Region.binds md e = true → e.on ≠ i) → oi.apart ops oj = true) →
      i ∈ Region.ready md ops listed → YieldsIf P ops S oi v a → S w →
      wpAnyC P md ops Q S m L f (listed.setIfInBounds i true) (a.put oi.dst v) w → wpAnyC P md ops Q S m L (f + 1) listed a w := by
  intro f
  induction f with
  | zero =>
    intro listed a w inv _ hr hy hS H
    have hun := (mem_ready.1 hr).1
    refine ⟨fun h => (by rw [h] at hr; cases hr), fun j hj => ?_⟩
    have hjn : j < m := by
      rcases Nat.lt_or_ge j m with h | h
      · exact h
      · exact absurd hj (tail_waits hs hc hm inv _ i rfl him hun j h)
    refine ⟨hjn, ?_⟩
    by_cases hji : j = i
    · subst hji; exact hy.wpOp hi hS ⟨hS, H⟩
    · have := hdone _ _ _ H j (ready_mono hj hji)
      omega
  | succ f ih =>
    intro listed a w inv hfree hr hy hS H
    have hun := (mem_ready.1 hr).1
    refine ⟨fun h => (by rw [h] at hr; cases hr), fun j hj => ?_⟩
    have hjn : j < m := by
      rcases Nat.lt_or_ge j m with h | h
      · exact h
      · exact absurd hj (tail_waits hs hc hm inv _ i rfl him hun j h)
    refine ⟨hjn, ?_⟩
    by_cases hji : j = i
    · subst hji; exact hy.wpOp hi hS ⟨hS, H⟩
    · have h1 := (H.2 j (ready_mono hj hji)).2
      obtain ⟨hjun, oj, hoj, hall⟩ := mem_ready.1 hj
      have hnot : ∀ e ∈ oj.after, Region.binds md e = true → e.on ≠ i := fun e he hb heq => by
        have h1 := hall e he hb
        rw [heq, getD_both hun] at h1
        cases h1
      have h2 := wpOp_putIf hoj (hfree j oj hoj hji hjun hnot) (fun cs b => hsel i oi cs b hi) (fun cs b => hsel j oj cs b hoj) (fun c a w => hQ c a _ _ w) hy h1
      have hfree' : ∀ k ok, ops[k]? = some ok → k ≠ i → (listed.setIfInBounds j true).getD k true = false →
          (∀ e ∈ ok.after, Region.binds md e = true → e.on ≠ i) → oi.apart ops ok = true := fun k ok hk hki hun hno => by
        refine hfree k ok hk hki ?_ hno
        by_cases hjk : j = k
        · subst hjk; exact hjun
        · rw [getD_set_ne true hjk] at hun; exact hun
      refine wpOp_mono (fun a' w' h3 => ⟨h3.2.1, ih (listed.setIfInBounds j true) a' w' (inv.set hj hjn) hfree' (ready_mono hr (Ne.symm hji)) h3.1 h3.2.1 ?_⟩) h2
      rw [Array.setIfInBounds_comm _ _ hji]
      exact h3.2.2

/-- The reads, each with one value in every world that meets S. -/
def wpReads (P : Program) (ops : Array Oper) (S : World → Prop) (K : Act → Prop) : List Oper → Act → Prop
  | [], a => K a
  | o :: rest, a => ∃ v, YieldsIf P ops S o v a ∧ wpReads P ops S K rest (a.put o.dst v)

theorem wpReads_nil {K : Act → Prop} {a : Act} (h : K a) : wpReads P ops S K [] a := h
theorem wpReads_cons {K : Act → Prop} {o : Oper} {rest : List Oper} {a : Act} (v : Value) (hw : Region.wanted o (yielded ops a.tmps) = true) (hv : ∀ w, S w → (execOp a.eval o).run P w = .ok (.value v) w)
    (h : wpReads P ops S K rest (a.put o.dst v)) : wpReads P ops S K (o :: rest) a := ⟨v, .inl ⟨hw, hv⟩, h⟩

/-- The first n operations in the text's order, each free of the others; then the rest, forced. -/
def Region.oneCallB (md : Region.Mode) (ops : Array Oper) (n : Nat) : Bool :=
  Region.noSelect ops && decide (n + 1 < ops.size) && Region.sinkB md ops (n + 1) && Region.chainB md ops (n + 1) && Region.lexHead md ops (ops.size - n) n 0 (Array.replicate ops.size false)

theorem wpAnyC_lex {n g : Nat} {Lq : Act → World → Prop} {w : World} (hsel : Region.noSelect ops = true) (hQ : ∀ c a d v w, Q (.panic c) (a.put d v) w → Q (.panic c) a w)
    (hs : Region.sinkB md ops (n + 1) = true) (hc : Region.chainB md ops (n + 1) = true) (hn : n + 1 < ops.size) (hS : S w) :
    ∀ (l : List Oper) (k : Nat) (listed : Array Bool) (a : Act), (∀ j, j < l.length → l[j]? = ops[k + j]?) → k + l.length = n → HeadInv md ops (n + 1) listed →
    Region.lexHead md ops (g + 1) l.length k listed = true →
    wpReads P ops S (fun a' => wpOp P ops Q n (fun a'' w'' => S w'' ∧ Lq a'' w'') a' w) l a →
    wpAnyC P md ops Q S (n + 1) (fun listed' a' w' => Region.seqB md ops g (n + 1) listed' = true ∧ Lq a' w') (l.length + 1) listed a w
  | [], k, listed, a, _, hk, inv, hB, h => by
    have : k = n := by simpa using hk
    subst this
    have hB' : Region.seqB md ops (g + 1) k listed = true := by simpa [Region.lexHead] using hB
    simp only [Region.seqB, Bool.and_eq_true, decide_eq_true_eq] at hB'
    refine ⟨fun h0 => (by rw [hB'.1] at h0; cases h0), fun i hi => ?_⟩
    rw [hB'.1] at hi
    have hik : i = k := by simpa using hi
    subst hik
    refine ⟨Nat.lt_succ_self _, ?_⟩
    have h2 : wpOp P ops Q i (fun a'' w'' => S w'' ∧ Lq a'' w'') a w := h
    exact wpOp_mono (fun a' w' h' => ⟨h'.1, hB'.2, h'.2⟩) h2
  | o :: l, k, listed, a, hl, hk, inv, hB, h => by
    have h0 : ops[k]? = some o := by simpa using (hl 0 (by simp)).symm
    simp only [List.length_cons, Region.lexHead, Bool.and_eq_true] at hB
    obtain ⟨⟨hr, hf⟩, hB'⟩ := hB
    have hkn : k < n := by simp only [List.length_cons] at hk; omega
    have hr' : k ∈ Region.ready md ops listed := by simpa using hr
    obtain ⟨v, hy, hK⟩ := h
    exact wpAnyC_first h0 (Region.noSelect_spec hsel) hQ hs hc hn (by omega) (fun listed' a' w' hL => seqB_ready hL.1) (l.length + 1) listed a w inv (Region.free_spec h0 hf) hr' hy hS
      (wpAnyC_lex hsel hQ hs hc hn hS l (k + 1) _ _ (fun j hj => by have := hl (j + 1) (by simp; omega); simpa [Nat.add_assoc, Nat.add_comm 1 j] using this) (by simp only [List.length_cons] at hk; omega) (inv.set hr' (by omega)) hB' hK)

/-- **Reads, one call that makes memory, a forced tail.** -/
theorem wp_region_one_call {id : Nat} {a : Act} {w : World} {l : List Oper} (n : Nat) (S : World → Prop) {o : Oper} (hm : P.follows .mixedOrders = true) (hB : Region.oneCallB .any l.toArray n = true)
    (hQ : ∀ c a d v w, Q (.panic c) (a.put d v) w → Q (.panic c) a w) (hS : S { w with drawn := w.drawn + 1 }) (ho : l[n]? = some o)
    (h : wpReads P l.toArray S (fun a' => ∀ K : Act → World → Prop, (∀ a'' w'', S w'' → wpList P l.toArray Q (l.drop (n + 1)) a'' w'' → K a'' w'') →
      if Region.wanted o (yielded l.toArray a'.tmps) = true then Oper.wp P o a' { w with drawn := w.drawn + 1 } K Q else K (a'.put o.dst undef) { w with drawn := w.drawn + 1 }) (l.take n) a) :
    (Code.region id l.toArray true).wp P Q a w := by
  simp only [Region.oneCallB, Bool.and_eq_true, decide_eq_true_eq] at hB
  obtain ⟨⟨⟨⟨hsel, hn⟩, hs⟩, hc⟩, hlex⟩ := hB
  have hn' : n + 1 < l.length := by simpa using hn
  have htl : (l.take n).length = n := by simp; omega
  have hdl : (l.drop (n + 1)).length = l.toArray.size - (n + 1) := by simp
  have hg : l.toArray.size - n = (l.toArray.size - (n + 1)) + 1 := by omega
  have inv0 : HeadInv .any l.toArray (n + 1) (Array.replicate l.toArray.size false) :=
    ⟨by simp, fun j oj _ hl => (by rw [getD_replicate_false] at hl; cases hl), fun t _ ht => getD_in (by simpa using ht) (getD_replicate_false _ _)⟩
  have hmono : ∀ (l' : List Oper) (a : Act) {K K' : Act → Prop}, (∀ a, K a → K' a) → wpReads P l.toArray S K l' a → wpReads P l.toArray S K' l' a := by
    intro l'
    induction l' with
    | nil => intro a K K' hk h; exact hk _ h
    | cons o l' ih => 
      intro a K K' hk h
      obtain ⟨v, h1, h2⟩ := h
      exact ⟨v, h1, ih _ hk h2⟩
  have H := wpAnyC_lex (md := .any) (Q := Q) (S := S) (g := l.toArray.size - (n + 1)) (Lq := wpList P l.toArray Q (l.drop (n + 1))) (w := { w with drawn := w.drawn + 1 }) hsel hQ hs hc hn hS (l.take n) 0 _ a (fun j hj => by
    have hj' : j < n := by rw [htl] at hj; exact hj
    simp [hj']) (by simpa using htl) inv0 (by rw [htl, ← hg]; exact hlex) (hmono _ _ (fun a' hk => by
      have h0 : l.toArray[n]? = some o := by simpa using ho
      exact wpOp_step h0 (fun K' hK' => hk K' (fun a w hS hW => hK' a w ⟨hS, hW⟩))) h)
  refine wp_region_any hm ?_
  have := wpAny_of_C (Q := Q) (g := l.toArray.size - (n + 1)) (fun listed a' w' hL => by
    have := wpAny_of_seq (md := .any) (Q' := Q) (l.drop (n + 1)) (n + 1) listed a' w' (fun j => by simp [List.getElem?_drop]) (by rw [hdl]; exact hL.1) hL.2
    rwa [hdl] at this) _ _ _ _ H
  rw [htl, show n + 1 + (l.toArray.size - (n + 1)) = l.toArray.size by omega] at this
  exact this

end
end Go.Proofs.YtihdnfhclocndaaGreatDoor
