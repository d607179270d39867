/- numeral/round: signed. A region that draws its order: reads and quiet calls first, then a tail in the text's order, of which moves and extracts may lie free. Laws of order alone; no program in sight. -/
import Derived.Test.YtihdnfhclocndaaGreatDoorQs21
import Derived.Test.YtihdnfhclocndaaGreatDoorQs15
import Derived.StillTailTactics
namespace Go.Proofs.YtihdnfhclocndaaGreatDoor
open Go.RowKit W

/-- The bits of a number with its sign. -/
def signedQ (ex fr n d : Nat) (below neg : Bool) (mode : Nat) : Nat :=
  if n = 0 then (if neg then 2 ^ (ex + fr) else 0) else if below then bitsQ ex fr n d below mode ||| 2 ^ (ex + fr) else bitsQ ex fr n d below mode
def signedFlags (ex fr n d : Nat) (below : Bool) (mode : Nat) : Nat := if n = 0 then 0 else flagsQ ex fr n d below mode

theorem bitsQ_lt {ex fr n d : Nat} {neg : Bool} {mode : Nat} (x1 : 2 ≤ ex) (x2 : ex ≤ 11) (x3 : 1 ≤ fr) (x4 : fr ≤ 52) : bitsQ ex fr n d neg mode < 18446744073709551616 := by
  have h := infQ_bd x1 x2 x3 x4
  have h2 : rawQ ex fr n d neg mode < 18446744073709551616 := Nat.mod_lt _ (by omega)
  unfold bitsQ
  split <;> (try split) <;> omega

theorem pow_sign {ex fr : Nat} (x2 : ex ≤ 11) (x4 : fr ≤ 52) : 2 ^ (ex + fr) < 18446744073709551616 := by
  have h1 := Nat.pow_le_pow_right (n := 2) (by omega) (show ex + fr ≤ 63 by omega)
  omega

theorem wrap_sign {ex fr : Nat} (x2 : ex ≤ 11) (x4 : fr ≤ 52) : IntKind.u64.wrap (2 ^ (ex + fr)) = ((2 ^ (ex + fr) : Nat) : Int) := by
  have h := pow_sign x2 x4
  have e1 : (2 : Int) ^ (ex + fr) = ((2 ^ (ex + fr) : Nat) : Int) := by simp
  rw [e1]
  clear e1
  generalize 2 ^ (ex + fr) = p at *
  simp only [IntKind.wrap_u64]
  omega

set_option maxRecDepth 100000 in
set_option maxHeartbeats 2000000 in
theorem signed_any (gn gd n d ex fr : Nat) (below neg : Bool) (mode : Nat) (w : World) (hn : IntAt 0 w gn 0 (n : Int)) (hd : IntAt 0 w gd 0 (d : Int)) (h0 : 0 < d) (x1 : 2 ≤ ex) (x2 : ex ≤ 11) (x3 : 1 ≤ fr) (x4 : fr ≤ 52) (hm : mode ≤ 4)
    (l1 : nbits n ≤ 16777216) (l2 : nbits d ≤ 16777216) :
    Calls Tryz.prog 112 #[.agg #[.int .i64 (ex : Int), .int .i64 (fr : Int)], .agg #[.pointer (some ⟨gn, 0, none⟩), .pointer (some ⟨gd, 0, none⟩)], .bool below, .bool neg, .int .u8 (mode : Int)] w fun e w' =>
      e = .returned (.tuple #[.int .u64 (signedQ ex fr n d below neg mode : Int), .int .u8 (signedFlags ex fr n d below mode : Int), .int .i64 0]) ∧ Below w.heap.size w w' := by
  have HT := Lib.hid (two_new w #[.int .i64 (ex : Int), .int .i64 (fr : Int)] #[.pointer (some ⟨gn, 0, none⟩), .pointer (some ⟨gd, 0, none⟩)] 52 169)
  have HN := Lib.hid (hn.under HT.out.below)
  have HD := Lib.hid (hd.under HT.out.below)
  have TS := Lib.hid (intSign_any 0 gn 0 (n : Int) _ HN.out)
  obtain ⟨sg, hsg0⟩ : ∃ sg, sg = 2 ^ (ex + fr) := ⟨_, rfl⟩
  have hsg : IntKind.u64.wrap (2 ^ (ex + fr)) = (sg : Int) := by rw [hsg0]; exact wrap_sign x2 x4
  have hsl : sg < 18446744073709551616 := by rw [hsg0]; exact pow_sign x2 x4
  have HSG := Lib.hid hsg0.symm
  clear hn hd hsg0
  by_cases hz : n = 0
  · subst hz
    rw [show sgnI ((0 : Nat) : Int) = 0 from rfl] at TS
    have HQ := Lib.hid (show signedQ ex fr 0 d below neg mode = if neg then sg else 0 by unfold signedQ; rw [if_pos rfl, HSG.out])
    cases neg with
    | true =>
      go_enter Tryz.func112, Tryz.ntmps112
      go_wp2_with fail
      with_reducible refine TS.out.mono ?_
      rintro e w' ⟨rfl, rfl⟩
      go_wp2
      go_ret3
      exact ⟨by (rw [HQ.out]; rfl), HT.out.below⟩
    | false =>
      go_enter Tryz.func112, Tryz.ntmps112
      go_wp2_with fail
      with_reducible refine TS.out.mono ?_
      rintro e w' ⟨rfl, rfl⟩
      go_wp2
      go_ret3
      exact ⟨by (rw [HQ.out]; rfl), HT.out.below⟩
  · have hz1 : (sgnI (n : Int) == 0) = false := by rw [beq_eq_false_iff_ne]; unfold sgnI; rw [if_neg (by omega)]; split <;> omega
    have HQ := Lib.hid (show signedQ ex fr n d below neg mode = if below then bitsQ ex fr n d below mode ||| sg else bitsQ ex fr n d below mode by unfold signedQ; rw [if_neg hz, HSG.out])
    have HF := Lib.hid (show signedFlags ex fr n d below mode = flagsQ ex fr n d below mode by unfold signedFlags; rw [if_neg hz])
    have hbl := bitsQ_lt (n := n) (d := d) (neg := below) (mode := mode) x1 x2 x3 x4
    have hor := u64_or_nat _ _ hbl hsl
    have TT := Lib.hid (to_any gn gd n d ex fr below mode _ HN.out HD.out (by omega) h0 x1 x2 x3 x4 hm l1 l2)
    clear HN HD
    go_enter Tryz.func112, Tryz.ntmps112
    go_wp2_with fail
    generalize (w.alloc (.cells #[.int .i64 (ex : Int), .int .i64 (fr : Int)] 52)).alloc (.cells #[.pointer (some ⟨gn, 0, none⟩), .pointer (some ⟨gd, 0, none⟩)] 169) = W0 at *
    with_reducible refine TS.out.mono ?_
    rintro e w' ⟨rfl, rfl⟩
    have c0 : W0.cell? ⟨w.heap.size, 0, none⟩ = some (.int .i64 (ex : Int)) := HT.out.c1 0
    have c1 : W0.cell? ⟨w.heap.size, 1, none⟩ = some (.int .i64 (fr : Int)) := HT.out.c1 1
    have d0 : W0.cell? ⟨w.heap.size + 1, 0, none⟩ = some (.pointer (some ⟨gn, 0, none⟩)) := HT.out.c2 0
    have d1 : W0.cell? ⟨w.heap.size + 1, 1, none⟩ = some (.pointer (some ⟨gd, 0, none⟩)) := HT.out.c2 1
    go_wp2_with fail
    with_reducible refine TT.out.mono ?_
    rintro e w1 ⟨rfl, hb1⟩
    have HB := Lib.hid (HT.out.under hb1).below
    clear hb1
    cases below with
    | true =>
      go_wp2
      go_ret3
      exact ⟨by (rw [HQ.out, HF.out]; rfl), HB.out⟩
    | false =>
      go_wp2
      go_ret3
      exact ⟨by (rw [HQ.out, HF.out]; rfl), HB.out⟩

end Go.Proofs.YtihdnfhclocndaaGreatDoor
namespace Go.Proofs.YtihdnfhclocndaaGreatDoor
open Go

section
variable {P : Program} {ops : Array Oper} {md : Region.Mode} {w : World}

/-- A move or an extract. -/
def calmB (o : Oper) : Bool := match o.op with | .move _ => true | .assign _ => true | .extract .. => true | _ => false

theorem calm_run {o : Oper} {ρ : Operand → Value} (h : calmB o = true) : ∃ s : Sem Value, execOp ρ o = (Next.value <$> s) ∧ ((∃ v, s = pure v) ∨ ∃ t, s = stuck t) := by
  unfold calmB at h
  split at h
  · rename_i x hx
    exact ⟨pure (ρ x), by unfold execOp; rw [hx]; rfl, .inl ⟨_, rfl⟩⟩
  · rename_i x hx
    exact ⟨pure (ρ x), by unfold execOp; rw [hx]; rfl, .inl ⟨_, rfl⟩⟩
  · rename_i x i hx
    refine ⟨Instr.extract (ρ x) i, by unfold execOp; rw [hx]; rfl, ?_⟩
    unfold Instr.extract
    split
    · split
      · exact .inl ⟨_, rfl⟩
      · exact .inr ⟨_, rfl⟩
    · exact .inr ⟨_, rfl⟩
  · cases h

theorem calm_yields {o : Oper} (h : calmB o = true) {a : Act} {K : Act → World → Prop} {Q : Exit → Act → World → Prop} (hw : if Region.wanted o (yielded ops a.tmps) then Oper.wp P o a w K Q ∨ Oper.asks P o a w ∧ LetsOut Q else K (a.put o.dst undef) w) :
    ∃ v, Yields P ops o v a ∧ K (a.put o.dst v) w := by
  by_cases hd : Region.wanted o (yielded ops a.tmps) = true
  · rw [if_pos hd] at hw
    obtain ⟨s, hs, hv⟩ := calm_run (ρ := a.eval) h
    have hna : ¬ Oper.asks P o a w := by
      rintro ⟨h1, _⟩
      rw [hs] at h1
      rcases hv with ⟨v, rfl⟩ | ⟨t, rfl⟩
      · exact absurd h1 (Array.not_mem_empty _)
      · exact absurd h1 (Array.not_mem_empty _)
    replace hw := hw.resolve_right fun h => hna h.1
    rcases hv with ⟨v, rfl⟩ | ⟨t, rfl⟩
    · have hr : ∀ w, (execOp a.eval o).run P w = .ok (.value v) w := fun w => by rw [hs]; rfl
      refine ⟨v, .inl ⟨hd, hr⟩, ?_⟩
      unfold Oper.wp at hw
      rw [hr] at hw
      exact hw
    · unfold Oper.wp at hw
      rw [hs] at hw
      exact hw.elim
  · rw [if_neg hd] at hw
    exact ⟨undef, .inr ⟨by simpa using hd, rfl⟩, hw⟩

/-- In the text's order: each is the only one that can come next, or it is calm and free. -/
def Region.calmTail (md : Region.Mode) (ops : Array Oper) : Nat → Nat → Array Bool → Bool
  | 0, _, listed => (Region.ready md ops listed).isEmpty
  | g + 1, k, listed => (decide (Region.ready md ops listed = [k]) || ((Region.ready md ops listed).contains k && Region.free md ops listed k && (match ops[k]? with | some o => calmB o | none => false))) &&
      Region.calmTail md ops g (k + 1) (listed.setIfInBounds k true)

theorem wpAny_of_calm {Q : Exit → Act → World → Prop} (hsel : Region.noSelect ops = true) (hQ : ∀ c a d v w, Q (.panic c) (a.put d v) w → Q (.panic c) a w) :
    ∀ (l : List Oper) (k : Nat) (listed : Array Bool) (a : Act) (w : World), (∀ j, l[j]? = ops[k + j]?) →
    Region.calmTail md ops l.length k listed = true → wpList P ops Q l a w → wpAny P md ops Q l.length listed a w
  | [], _, _, _, _, _, hB, h => ⟨by simpa [Region.calmTail] using hB, h⟩
  | o :: l, k, listed, a, w, hl, hB, h => by
    have h0 : ops[k]? = some o := by simpa using (hl 0).symm
    have hl' : ∀ j, l[j]? = ops[k + 1 + j]? := fun j => by have := hl (j + 1); simpa [Nat.add_assoc, Nat.add_comm 1 j] using this
    simp only [List.length_cons, Region.calmTail, Bool.and_eq_true, Bool.or_eq_true, decide_eq_true_eq] at hB
    obtain ⟨h1, hB'⟩ := hB
    rcases h1 with h1 | ⟨⟨hr, hf⟩, hc⟩
    · refine ⟨fun h2 => (by rw [h1] at h2; cases h2), fun i hi => ?_⟩
      rw [h1] at hi
      have hik : i = k := by simpa using hi
      subst hik
      have hw : wpOp P ops Q i (wpList P ops Q l) a w := by unfold wpOp; simp only [h0]; exact h
      exact wpOp_mono (fun a' w' h' => wpAny_of_calm hsel hQ l (i + 1) _ a' w' hl' hB' h') hw
    · rw [h0] at hc
      have hw : wpOp P ops Q k (wpList P ops Q l) a w := by unfold wpOp; simp only [h0]; exact h
      have hw2 : if Region.wanted o (yielded ops a.tmps) then Oper.wp P o a w (wpList P ops Q l) Q ∨ Oper.asks P o a w ∧ LetsOut Q else wpList P ops Q l (a.put o.dst undef) w := by
        unfold wpOp at hw; simpa only [h0] using hw
      obtain ⟨v, hy, hk⟩ := calm_yields hc hw2
      exact wpAny_take h0 hsel hf hr (fun c a w => hQ c a _ _ w) hy (wpAny_of_calm hsel hQ l (k + 1) _ _ w hl' hB' hk)

/-- Each one of the tail waits for one of the tail, but the first. -/
def Region.coneB (md : Region.Mode) (ops : Array Oper) (n : Nat) : Bool :=
  (List.range ops.size).all fun t => decide (t ≤ n) || (List.range t).any fun j => decide (n ≤ j) && Region.waitsFor md ops t j

theorem cone_waits {n : Nat} {listed : Array Bool} (hs : Region.sinkB md ops n = true) (hc : Region.coneB md ops n = true) (hn : n < ops.size) (inv : HeadInv md ops n listed) :
    ∀ (d i : Nat), n - i = d → i < n → listed.getD i true = false → ∀ t, n ≤ t → t ∉ Region.ready md ops listed := by
  intro d
  induction d using Nat.strongRecOn with
  | _ d ih =>
    intro i hd hi hun t ht hr
    obtain ⟨_, ot, hot, hall⟩ := mem_ready.1 hr
    have htlt : t < ops.size := (Array.getElem?_eq_some_iff.1 hot).1
    by_cases htn : t = n
    · subst htn
      have h1 := List.all_eq_true.1 hs i (List.mem_range.2 hi)
      obtain ⟨j, hj, hj2⟩ := List.any_eq_true.1 h1
      simp only [Bool.and_eq_true, decide_eq_true_eq] at hj2
      obtain ⟨oj, hoj, e, he, hb, hon⟩ := Region.waitsFor_spec hj2.2
      have hjle : j ≤ t := by have := List.mem_range.1 hj; omega
      by_cases hjt : j = t
      · subst hjt
        have : oj = ot := Option.some.inj (hoj.symm.trans hot)
        subst this
        have h2 := hall e he hb
        rw [hon, getD_both hun] at h2
        cases h2
      · cases hl : listed.getD j false with
        | true =>
          have h2 := inv.closed j oj hoj hl e he hb
          rw [hon, getD_both hun] at h2
          cases h2
        | false =>
          have hjs : j < listed.size := by rw [inv.size]; omega
          exact ih (t - j) (by omega) j rfl (by omega) (getD_in hjs hl) t (Nat.le_refl _) hr
    · have h1 := List.all_eq_true.1 hc t (List.mem_range.2 htlt)
      simp only [Bool.or_eq_true, decide_eq_true_eq] at h1
      rcases h1 with h1 | h1
      · omega
      · obtain ⟨j, hj, hj2⟩ := List.any_eq_true.1 h1
        simp only [Bool.and_eq_true, decide_eq_true_eq] at hj2
        obtain ⟨o', ho', e, he, hb, hon⟩ := Region.waitsFor_spec hj2.2
        have : o' = ot := Option.some.inj (ho'.symm.trans hot)
        subst this
        have h2 := hall e he hb
        have hjt := List.mem_range.1 hj
        rw [hon, getD_both (inv.tail j hj2.1 (by omega))] at h2
        cases h2

theorem wpAnyL_firstC {n i : Nat} {oi : Oper} {v : Value} {L : Array Bool → Act → Prop} (hi : ops[i]? = some oi) (hsel : ∀ (j : Nat) (o : Oper) cs b, ops[j]? = some o → o.op ≠ .select cs b)
    (hs : Region.sinkB md ops n = true) (hc : Region.coneB md ops n = true) (hn : n < ops.size) (hin : i < n)
    (hdone : ∀ listed a, L listed a → ∀ j ∈ Region.ready md ops listed, n ≤ j) :
    ∀ (f : Nat) (listed : Array Bool) (a : Act), HeadInv md ops n listed →
      (∀ j oj, ops[j]? = some oj → j ≠ i → listed.getD j true = false → (∀ e ∈ oj.after, Region.binds md e = true → e.on ≠ i) → oi.apart ops oj = true) →
      i ∈ Region.ready md ops listed → YieldsAt P ops w oi v a →
      wpAnyL P md ops w n L f (listed.setIfInBounds i true) (a.put oi.dst v) → wpAnyL P md ops w n L (f + 1) listed a := by
  intro f
  induction f with
  | zero =>
    intro listed a inv _ hr hy H
    have hun := (mem_ready.1 hr).1
    refine ⟨fun h => (by rw [h] at hr; cases hr), fun j hj => ?_⟩
    have hjn : j < n := by
      rcases Nat.lt_or_ge j n with h | h
      · exact h
      · exact absurd hj (cone_waits hs hc hn inv _ i rfl hin hun j h)
    refine ⟨hjn, ?_⟩
    by_cases hji : j = i
    · subst hji; exact hy.stOp hi H
    · have := hdone _ _ H j (ready_mono hj hji)
      omega
  | succ f ih =>
    intro listed a inv hfree hr hy H
    have hun := (mem_ready.1 hr).1
    refine ⟨fun h => (by rw [h] at hr; cases hr), fun j hj => ?_⟩
    have hjn : j < n := by
      rcases Nat.lt_or_ge j n with h | h
      · exact h
      · exact absurd hj (cone_waits hs hc hn inv _ i rfl hin hun j h)
    refine ⟨hjn, ?_⟩
    by_cases hji : j = i
    · subst hji; exact hy.stOp hi H
    · have h1 := (H.2 j (ready_mono hj hji)).2
      obtain ⟨hjun, oj, hoj, hall⟩ := mem_ready.1 hj
      have hnot : ∀ e ∈ oj.after, Region.binds md e = true → e.on ≠ i := fun e he hb heq => by
        have h1 := hall e he hb
        rw [heq, getD_both hun] at h1
        cases h1
      have h2 := stOp_put hoj (hfree j oj hoj hji hjun hnot) (fun cs b => hsel i oi cs b hi) (fun cs b => hsel j oj cs b hoj) hy h1
      have hfree' : ∀ k ok, ops[k]? = some ok → k ≠ i → (listed.setIfInBounds j true).getD k true = false →
          (∀ e ∈ ok.after, Region.binds md e = true → e.on ≠ i) → oi.apart ops ok = true := fun k ok hk hki hun hno => by
        refine hfree k ok hk hki ?_ hno
        by_cases hjk : j = k
        · subst hjk; exact hjun
        · rw [getD_set_ne true hjk] at hun; exact hun
      refine stOp_mono (fun a' h3 => ih (listed.setIfInBounds j true) a' (inv.set hj hjn) hfree' (ready_mono hr (Ne.symm hji)) h3.1 ?_) h2
      rw [Array.setIfInBounds_comm _ _ hji]
      exact h3.2

/-- The head in the text's order, then the calm tail. -/
def Region.calmHead (md : Region.Mode) (ops : Array Oper) (g : Nat) : Nat → Nat → Array Bool → Bool
  | 0, k, listed => Region.calmTail md ops g k listed && (Region.ready md ops listed).all fun j => decide (k ≤ j)
  | f + 1, k, listed => (Region.ready md ops listed).contains k && Region.free md ops listed k && Region.calmHead md ops g f (k + 1) (listed.setIfInBounds k true)

def Region.calmB (md : Region.Mode) (ops : Array Oper) (n : Nat) : Bool :=
  Region.noSelect ops && decide (n < ops.size) && Region.sinkB md ops n && Region.coneB md ops n && Region.calmHead md ops (ops.size - n) n 0 (Array.replicate ops.size false)

theorem wpAnyL_calm {n g : Nat} {Lq : Act → Prop} (hsel : Region.noSelect ops = true) (hs : Region.sinkB md ops n = true) (hc : Region.coneB md ops n = true) (hn : n < ops.size) :
    ∀ (l : List Oper) (k : Nat) (listed : Array Bool) (a : Act), (∀ j, j < l.length → l[j]? = ops[k + j]?) → k + l.length = n → HeadInv md ops n listed →
    Region.calmHead md ops g l.length k listed = true → wpStill P ops w Lq l a →
    wpAnyL P md ops w n (fun listed' a' => (Region.calmTail md ops g n listed' = true ∧ ∀ j ∈ Region.ready md ops listed', n ≤ j) ∧ Lq a') l.length listed a
  | [], k, listed, a, _, hk, _, hB, h => by
    have : k = n := by simpa using hk
    subst this
    simp only [List.length_nil, Region.calmHead, Bool.and_eq_true] at hB
    exact ⟨⟨hB.1, fun j hj => by have := List.all_eq_true.1 hB.2 j hj; simpa using this⟩, h⟩
  | o :: l, k, listed, a, hl, hk, inv, hB, h => by
    have h0 : ops[k]? = some o := by simpa using (hl 0 (by simp)).symm
    simp only [List.length_cons, Region.calmHead, Bool.and_eq_true] at hB
    obtain ⟨⟨hr, hf⟩, hB'⟩ := hB
    have hkn : k < n := by simp only [List.length_cons] at hk; omega
    have hr' : k ∈ Region.ready md ops listed := by simpa using hr
    have hst : stOp P ops w k (wpStill P ops w Lq l) a := by unfold stOp; simp only [h0]; exact h
    obtain ⟨v, hy, hK⟩ := yieldsAt_of_stOp h0 hst
    exact wpAnyL_firstC h0 (Region.noSelect_spec hsel) hs hc hn hkn (fun listed' a' hL => hL.1.2) l.length listed a inv (Region.free_spec h0 hf) hr' hy
      (wpAnyL_calm hsel hs hc hn l (k + 1) _ _ (fun j hj => by have := hl (j + 1) (by simp; omega); simpa [Nat.add_assoc, Nat.add_comm 1 j] using this) (by simp only [List.length_cons] at hk; omega) (inv.set hr' hkn) hB' hK)

/-- **Reads and quiet calls, then a tail of which moves and extracts may lie free.** -/
theorem wp_region_calm_tail {id : Nat} {Q : Exit → Act → World → Prop} {a : Act} {w : World} {l : List Oper} (n : Nat) (hm : P.follows .mixedOrders = true) (hB : Region.calmB .any l.toArray n = true)
    (hQ : ∀ c a d v w, Q (.panic c) (a.put d v) w → Q (.panic c) a w)
    (h : wpStill P l.toArray { w with drawn := w.drawn + 1 } (fun a' => wpList P l.toArray Q (l.drop n) a' { w with drawn := w.drawn + 1 }) (l.take n) a) : (Code.region id l.toArray true).wp P Q a w := by
  simp only [Region.calmB, Bool.and_eq_true, decide_eq_true_eq] at hB
  obtain ⟨⟨⟨⟨hsel, hn⟩, hs⟩, hc⟩, hlex⟩ := hB
  have hn' : n < l.length := by simpa using hn
  have htl : (l.take n).length = n := by simp; omega
  have hdl : (l.drop n).length = l.toArray.size - n := by simp
  have inv0 : HeadInv .any l.toArray n (Array.replicate l.toArray.size false) :=
    ⟨by simp, fun j oj _ hl => (by rw [getD_replicate_false] at hl; cases hl), fun t _ ht => getD_in (by simpa using ht) (getD_replicate_false _ _)⟩
  have H := wpAnyL_calm (md := .any) (g := l.toArray.size - n) hsel hs hc hn (l.take n) 0 _ a (fun j hj => by
    have hj' : j < n := by rw [htl] at hj; exact hj
    simp [hj']) (by simpa using htl) inv0 (by rw [htl]; exact hlex) h
  refine wp_region_any hm ?_
  have := wpAny_of_head (Q' := Q) (g := l.toArray.size - n) (fun listed a' hL => by
    have := wpAny_of_calm (md := .any) (Q := Q) hsel hQ (l.drop n) n listed a' { w with drawn := w.drawn + 1 } (fun j => by simp [List.getElem?_drop]) (by rw [hdl]; exact hL.1.1) hL.2
    rwa [hdl] at this) _ _ _ H
  rw [htl, show n + (l.toArray.size - n) = l.toArray.size by omega] at this
  exact this

end
end Go.Proofs.YtihdnfhclocndaaGreatDoor
