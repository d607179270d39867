/- numeral/round: times, log. numeral/round: log. numeral/round: modes and their methods. -/
import Derived.Test.YtihdnfhclocndaaGreatDoorQs18
import Derived.Deep.QuietTactic
import Derived.BigQuiet
import Derived.Laws.EntriesVeiled
namespace Go.Proofs.YtihdnfhclocndaaGreatDoor
open Go.RowKit W

/-- Two numbers are handed back. -/
def GivesTwo (w : World) (n d : Nat) (e : Ending) (w' : World) : Prop :=
  ∃ g1 g2, e = .returned (.tuple #[.pointer (some ⟨g1, 0, none⟩), .pointer (some ⟨g2, 0, none⟩)]) ∧ Below w.heap.size w w' ∧ IntAt 0 w' g1 0 (n : Int) ∧ IntAt 0 w' g2 0 (d : Int)

theorem below_of_grown {w w' : World} {g B : Nat} (h : w.grownBy w' (some g)) (hg : B ≤ g) (hB : B ≤ w.heap.size) : Below B w w' :=
  ⟨h.os, h.tape, h.output, h.size, fun j hj => h.block j (by omega) (by simp; omega)⟩

theorem shl_nat (n k : Nat) : (n : Int) * 2 ^ k = ((n * 2 ^ k : Nat) : Int) := by simp

/-- A new number is set to another one, moved. -/
theorem lsh_new (gn n k : Nat) (W : World) (hn : IntAt 0 W gn 0 (n : Int)) (hk : k ≤ 1099511627776) (l1 : (ofN n).length ≤ 274877906944) :
    Calls Tryz.prog 125 #[.pointer (some ⟨W.heap.size, 0, none⟩), .pointer (some ⟨gn, 0, none⟩), .int .u64 (k : Int)] (W.alloc newInt) fun e w' =>
      e = .returned (.pointer (some ⟨W.heap.size, 0, none⟩)) ∧ Below W.heap.size W w' ∧ W.heap.size + 1 ≤ w'.heap.size ∧ IntAt 0 w' W.heap.size 0 ((n * 2 ^ k : Nat) : Int) := by
  have hb := (Below.refl W.heap.size W).alloc (Nat.le_refl _) newInt
  refine (intLsh_any 0 W.heap.size 0 gn 0 (n : Int) k (W.alloc newInt) (Spot.new W (by omega)) (hn.under hb) (by omega) (by rw [Int.natAbs_natCast]; exact l1) (by omega)).mono ?_
  rintro e w1 ⟨rfl, hG, hI, _⟩
  rw [shl_nat] at hI
  have hz : W.heap.size + 1 ≤ w1.heap.size := by have := hG.size; simpa using this
  exact ⟨rfl, hb.trans (below_of_grown hG (Nat.le_refl _) (by simp)), hz, hI⟩

theorem lsh_new_drew (gn n k : Nat) (W : World) (hn : IntAt 0 W gn 0 (n : Int)) (hk : k ≤ 1099511627776) (l1 : (ofN n).length ≤ 274877906944) :
    Calls Tryz.prog 125 #[.pointer (some ⟨W.heap.size, 0, none⟩), .pointer (some ⟨gn, 0, none⟩), .int .u64 (k : Int)] (W.alloc newInt).drew fun e w' =>
      e = .returned (.pointer (some ⟨W.heap.size, 0, none⟩)) ∧ Below W.heap.size W w' ∧ W.heap.size + 1 ≤ w'.heap.size ∧ IntAt 0 w' W.heap.size 0 ((n * 2 ^ k : Nat) : Int) := by
  refine (lsh_new gn n k W.drew hn.drew hk l1).mono ?_
  rintro e w1 ⟨rfl, hB, hZ, hI⟩
  exact ⟨rfl, ⟨hB.os, hB.tape, hB.output, hB.size, hB.block⟩, hZ, hI⟩

set_option maxRecDepth 100000 in
set_option maxHeartbeats 2000000 in
theorem times_any (gn gd n d : Nat) (e : Int) (w : World) (hn : IntAt 0 w gn 0 (n : Int)) (hd : IntAt 0 w gd 0 (d : Int)) (h1 : -1099511627776 ≤ e) (h2 : e ≤ 1099511627776)
    (l1 : (ofN n).length ≤ 274877906944) (l2 : (ofN d).length ≤ 274877906944) :
    Calls Tryz.prog 238 #[.agg #[.pointer (some ⟨gn, 0, none⟩), .pointer (some ⟨gd, 0, none⟩)], .int .i64 e] w (GivesTwo w (timesN n e) (timesD d e)) := by
  have HO := Lib.hid (one_new w #[.pointer (some ⟨gn, 0, none⟩), .pointer (some ⟨gd, 0, none⟩)] 169)
  have HN := Lib.hid (hn.under HO.out.below)
  have HD := Lib.hid (hd.under HO.out.below)
  clear hn hd
  rcases Int.lt_or_le e 0 with h0 | h0
  · obtain ⟨k, rfl⟩ : ∃ k : Nat, e = -(k : Int) := ⟨(-e).toNat, by omega⟩
    have h0' : ¬ (0 ≤ -(k : Int)) := by omega
    have e1 : IntKind.u64.wrap (k : Int) = (k : Int) := by simp only [IntKind.wrap_u64]; omega
    have e2 : IntKind.i64.wrap (k : Int) = (k : Int) := by simp only [IntKind.wrap_i64]; omega
    have eN : timesN n (-(k : Int)) = n := by unfold timesN; rw [show (-(k : Int)).toNat = 0 by omega]; simp
    have eD : timesD d (-(k : Int)) = d * 2 ^ k := by unfold timesD; rw [show (- -(k : Int)).toNat = k by omega]
    rw [eN, eD]
    clear eN eD
    go_enter Tryz.func238, Tryz.ntmps238
    go_wp2
    generalize w.alloc (.cells #[.pointer (some ⟨gn, 0, none⟩), .pointer (some ⟨gd, 0, none⟩)] 169) = W0 at *
    have c0 : W0.cell? ⟨w.heap.size, 0, none⟩ = some (.pointer (some ⟨gn, 0, none⟩)) := HO.out.c 0
    have c1 : W0.cell? ⟨w.heap.size, 1, none⟩ = some (.pointer (some ⟨gd, 0, none⟩)) := HO.out.c 1
    have hlt := HO.out.size
    have LS := Lib.hid (lsh_new_drew gd d k W0 HD.out (by omega) l2)
    go_region_held3 (fun w' => w'.cell? ⟨w.heap.size, 0, none⟩ = some (.pointer (some ⟨gn, 0, none⟩)) ∧ w'.cell? ⟨w.heap.size, 1, none⟩ = some (.pointer (some ⟨gd, 0, none⟩)))
      (first | exact ⟨c0, c1⟩ | exact ⟨d0, d1⟩ | exact ⟨(World.cell?_alloc_lt W0 newInt ⟨w.heap.size, 0, none⟩ hlt).trans c0, (World.cell?_alloc_lt W0 newInt ⟨w.heap.size, 1, none⟩ hlt).trans c1⟩)
      ((first
        | (go_at_call 125; (with_reducible refine LS.out.mono ?_); rintro e w1 ⟨rfl, hB1, hZ1, hI1⟩
           have d0 : w1.cell? ⟨w.heap.size, 0, none⟩ = some (.pointer (some ⟨gn, 0, none⟩)) := (hB1.cell (p := ⟨w.heap.size, 0, none⟩) hlt).trans c0
           have d1 : w1.cell? ⟨w.heap.size, 1, none⟩ = some (.pointer (some ⟨gd, 0, none⟩)) := (hB1.cell (p := ⟨w.heap.size, 1, none⟩) hlt).trans c1
           have HB1 := Lib.hid hB1; have HI1 := Lib.hid hI1; clear hB1 hI1)))
    go_wp2
    go_ret2
    exact ⟨_, _, rfl, HO.out.below.trans ((HB1.out.mono (show w.heap.size ≤ W0.heap.size by omega))), HN.out.under HB1.out, HI1.out⟩
  · obtain ⟨k, rfl⟩ : ∃ k : Nat, e = (k : Int) := ⟨e.toNat, by omega⟩
    have e1 : IntKind.u64.wrap (k : Int) = (k : Int) := by simp only [IntKind.wrap_u64]; omega
    have eN : timesN n (k : Int) = n * 2 ^ k := by unfold timesN; rw [show (k : Int).toNat = k by omega]
    have eD : timesD d (k : Int) = d := by unfold timesD; rw [show (-(k : Int)).toNat = 0 by omega]; simp
    rw [eN, eD]
    clear eN eD
    go_enter Tryz.func238, Tryz.ntmps238
    go_wp2
    generalize w.alloc (.cells #[.pointer (some ⟨gn, 0, none⟩), .pointer (some ⟨gd, 0, none⟩)] 169) = W0 at *
    have c0 : W0.cell? ⟨w.heap.size, 0, none⟩ = some (.pointer (some ⟨gn, 0, none⟩)) := HO.out.c 0
    have c1 : W0.cell? ⟨w.heap.size, 1, none⟩ = some (.pointer (some ⟨gd, 0, none⟩)) := HO.out.c 1
    have hlt := HO.out.size
    have LS := Lib.hid (lsh_new_drew gn n k W0 HN.out (by omega) l1)
    go_region_held3 (fun w' => w'.cell? ⟨w.heap.size, 0, none⟩ = some (.pointer (some ⟨gn, 0, none⟩)) ∧ w'.cell? ⟨w.heap.size, 1, none⟩ = some (.pointer (some ⟨gd, 0, none⟩)))
      (first | exact ⟨c0, c1⟩ | exact ⟨d0, d1⟩ | exact ⟨(World.cell?_alloc_lt W0 newInt ⟨w.heap.size, 0, none⟩ hlt).trans c0, (World.cell?_alloc_lt W0 newInt ⟨w.heap.size, 1, none⟩ hlt).trans c1⟩)
      ((first
        | (go_at_call 125; (with_reducible refine LS.out.mono ?_); rintro e w1 ⟨rfl, hB1, hZ1, hI1⟩
           have d0 : w1.cell? ⟨w.heap.size, 0, none⟩ = some (.pointer (some ⟨gn, 0, none⟩)) := (hB1.cell (p := ⟨w.heap.size, 0, none⟩) hlt).trans c0
           have d1 : w1.cell? ⟨w.heap.size, 1, none⟩ = some (.pointer (some ⟨gd, 0, none⟩)) := (hB1.cell (p := ⟨w.heap.size, 1, none⟩) hlt).trans c1
           have HB1 := Lib.hid hB1; have HI1 := Lib.hid hI1; clear hB1 hI1)))
    go_wp2
    go_ret2
    exact ⟨_, _, rfl, HO.out.below.trans ((HB1.out.mono (show w.heap.size ≤ W0.heap.size by omega))), HI1.out, HD.out.under HB1.out⟩

end Go.Proofs.YtihdnfhclocndaaGreatDoor
namespace Go.Proofs.YtihdnfhclocndaaGreatDoor
open Go.RowKit W

theorem quiet_left {P : Program} {f : FuncId} {args : Array Value} {w : World} {n : Nat} {v : Value}
    (h : Calls P f args (w.drewN n) fun e w' => e = .returned v ∧ w.drewN n = w') : Calls P f args (w.drewN n) fun e w'' => e = .returned v ∧ ∃ m, w'' = w.drewN m :=
  h.mono fun _ _ ⟨he, hm⟩ => ⟨he, n, hm.symm⟩
theorem quiet_add_left {P : Program} {f : FuncId} {args : Array Value} {w : World} {a n : Nat} {v : Value}
    (h : Calls P f args (w.drewN (a + n)) fun e w' => e = .returned v ∧ w.drewN (a + n) = w') :
    Calls P f args (w.drewN (a + n)) fun e w'' => e = .returned v ∧ ∃ m, w'' = w.drewN (a + m) :=
  h.mono fun _ _ ⟨he, hm⟩ => ⟨he, n, hm.symm⟩

theorem nbits_len {n l : Nat} (h : (ofN n).length ≤ l) : nbits n ≤ 32 * l := by
  refine nbits_le ?_
  have h1 := wv_lt (small_ofN n)
  rw [wv_ofN] at h1
  refine Nat.lt_of_lt_of_le h1 ?_
  rw [show (4294967296 : Nat) = 2 ^ 32 from rfl, ← Nat.pow_mul]
  exact Nat.pow_le_pow_right (by omega) (by omega)

theorem len_nbits (n : Nat) : (ofN n).length ≤ nbits n / 32 + 1 := by
  refine length_ofN_le (Nat.lt_of_lt_of_le (nbits_lt (n := n)) ?_)
  rw [show (4294967296 : Nat) = 2 ^ 32 from rfl, ← Nat.pow_mul]
  exact Nat.pow_le_pow_right (by omega) (by omega)

theorem nbits_mul_pow {n k : Nat} : nbits (n * 2 ^ k) ≤ nbits n + k := by
  refine nbits_le ?_
  rw [Nat.pow_add]
  exact Nat.mul_lt_mul_of_pos_right nbits_lt (Nat.pow_pos (by omega))

/-- Both numbers, moved, are still short. -/
theorem times_len {n : Nat} {e : Int} (h : nbits n ≤ 4294967296) (h1 : -4294967296 ≤ e) (h2 : e ≤ 4294967296) : nbits (timesN n e) ≤ 8589934592 ∧ nbits (timesD n e) ≤ 8589934592 := by
  have a := nbits_mul_pow (n := n) (k := e.toNat)
  have b := nbits_mul_pow (n := n) (k := (-e).toNat)
  unfold timesN timesD
  omega

theorem sgnI_lt (a b : Nat) : (sgnI ((a : Int) - (b : Int)) < 0) ↔ a < b := by
  unfold sgnI
  split <;> (try split) <;> omega

set_option maxRecDepth 100000 in
set_option maxHeartbeats 2000000 in
theorem log_any (gn gd n d : Nat) (w : World) (hn : IntAt 0 w gn 0 (n : Int)) (hd : IntAt 0 w gd 0 (d : Int)) (l1 : nbits n ≤ 4294967296) (l2 : nbits d ≤ 4294967296) :
    Calls Tryz.prog 237 #[.agg #[.pointer (some ⟨gn, 0, none⟩), .pointer (some ⟨gd, 0, none⟩)]] w fun e w' => e = .returned (.int .i64 (logQ n d)) ∧ Below w.heap.size w w' := by
  have HO := Lib.hid (one_new w #[.pointer (some ⟨gn, 0, none⟩), .pointer (some ⟨gd, 0, none⟩)] 169)
  have HN := Lib.hid (hn.under HO.out.below)
  have HD := Lib.hid (hd.under HO.out.below)
  have m1 := len_nbits n
  have m2 := len_nbits d
  have TN := Lib.hid (fun q => intBitLen_any 0 gn 0 (n : Int) ((w.alloc (.cells #[.pointer (some ⟨gn, 0, none⟩), .pointer (some ⟨gd, 0, none⟩)] 169)).drewN q) HN.out (by rw [Int.natAbs_natCast]; omega))
  have TD := Lib.hid (fun q => intBitLen_any 0 gd 0 (d : Int) ((w.alloc (.cells #[.pointer (some ⟨gn, 0, none⟩), .pointer (some ⟨gd, 0, none⟩)] 169)).drewN q) HD.out (by rw [Int.natAbs_natCast]; omega))
  simp only [Int.natAbs_natCast] at TN TD
  have HT := Lib.hid (times_len (e := -((nbits n : Int) - nbits d)) l1 (by omega) (by omega))
  have HT2 := Lib.hid (times_len (n := d) (e := -((nbits n : Int) - nbits d)) l2 (by omega) (by omega))
  obtain ⟨E, hE⟩ : ∃ E, E = (nbits n : Int) - nbits d := ⟨_, rfl⟩
  have HLQ := Lib.hid (show logQ n d = if timesN n (-E) < timesD d (-E) then E - 1 else E by rw [hE]; rfl)
  rw [← hE] at HT HT2
  have HE := Lib.hid hE
  have b1 : -4294967296 ≤ E := by omega
  have b2 : E ≤ 4294967296 := by omega
  clear hE
  clear hn hd
  go_enter Tryz.func237, Tryz.ntmps237
  go_wp2
  have c0 : (w.alloc (.cells #[.pointer (some ⟨gn, 0, none⟩), .pointer (some ⟨gd, 0, none⟩)] 169)).cell? ⟨w.heap.size, 0, none⟩ = some (.pointer (some ⟨gn, 0, none⟩)) := HO.out.c 0
  have c1 : (w.alloc (.cells #[.pointer (some ⟨gn, 0, none⟩), .pointer (some ⟨gd, 0, none⟩)] 169)).cell? ⟨w.heap.size, 1, none⟩ = some (.pointer (some ⟨gd, 0, none⟩)) := HO.out.c 1
  go_quiet ((go_at_call 108; first | exact quiet_left (TN.out _) | exact quiet_left (TD.out _)))
  generalize w.alloc (.cells #[.pointer (some ⟨gn, 0, none⟩), .pointer (some ⟨gd, 0, none⟩)] 169) = W0 at *
  have TT := Lib.hid (times_any gn gd n d (-E) (W0.drewN nq) (HN.out.keep fun _ _ => rfl) (HD.out.keep fun _ _ => rfl) (by omega) (by omega) (by omega) (by omega))
  rw [← HE.out]
  go_wp2_with fail
  with_reducible refine TT.out.mono ?_
  rintro e w1 ⟨g1, g2, rfl, hb1, hi1, hi2⟩
  have TC := Lib.hid (intCmp_any 0 g1 0 g2 0 _ _ w1 hi1 hi2 (by rw [Int.natAbs_natCast]; have := len_nbits (timesN n (-E)); have := HT.out; omega) (by rw [Int.natAbs_natCast]; have := len_nbits (timesD d (-E)); have := HT2.out; omega))
  have HB1 := Lib.hid ((HO.out.below.trans ((show Below W0.heap.size W0 (W0.drewN nq) from ⟨rfl, rfl, rfl, Nat.le_refl _, fun _ _ => rfl⟩).mono (by have := HO.out.size; omega))).trans (hb1.mono (by show w.heap.size ≤ W0.heap.size; have := HO.out.size; omega)))
  have HS := Lib.hid (sgnI_lt (timesN n (-E)) (timesD d (-E)))
  generalize hq : sgnI ((timesN n (-E) : Int) - (timesD d (-E) : Int)) = q at *
  clear hb1 hi1 hi2 hq
  have hsz := HO.out.size
  by_cases hlt : q < 0
  · have HL := Lib.hid (HLQ.out.trans (if_pos (HS.out.1 hlt)))
    clear HLQ HS
    go_wp2_with fail
    with_reducible refine TC.out.mono ?_
    rintro e w2 ⟨rfl, nn, rfl⟩
    go_wp2
    go_ret
    exact ⟨by (rw [HL.out]; first | done | rfl), HB1.out.trans ⟨rfl, rfl, rfl, Nat.le_refl _, fun _ _ => rfl⟩⟩
  · have HL := Lib.hid (HLQ.out.trans (if_neg (fun h => hlt (HS.out.2 h))))
    clear HLQ HS
    go_wp2_with fail
    with_reducible refine TC.out.mono ?_
    rintro e w2 ⟨rfl, nn, rfl⟩
    go_wp2
    go_ret
    exact ⟨by (rw [HL.out]; first | done | rfl), HB1.out.trans ⟨rfl, rfl, rfl, Nat.le_refl _, fun _ _ => rfl⟩⟩

end Go.Proofs.YtihdnfhclocndaaGreatDoor
namespace Go.Proofs.YtihdnfhclocndaaGreatDoor
open Go.RowKit W

def funcV (f : Nat) : Value := .func (.func f) #[] #[]

def modesV : Value := .agg #[.func (.func 299) #[] #[], .func (.func 300) #[] #[], .func (.func 301) #[] #[],
  .func (.func 302) #[] #[], .func (.func 303) #[] #[]]

set_option maxRecDepth 100000 in
theorem modes_any (w : World) : Calls Tryz.prog 280 #[] w fun e w' => e = .returned modesV ∧ Below w.heap.size w w' := by
  go_enter Tryz.func280, Tryz.ntmps280
  go_wp2
  go_returns
  exact ⟨rfl, (Below.refl _ _).alloc (Nat.le_refl _) _⟩

/-- A number between two, as it is handed on. -/
def betV (neg odd : Bool) (half : Int) : Value := .agg #[.bool neg, .bool odd, .int .i64 half]

set_option maxRecDepth 100000 in
theorem even_up (neg odd : Bool) (half : Int) (w : World) : Calls Tryz.prog 299 #[betV neg odd half] w fun e w' => e = .returned (.bool (upB 0 neg odd half)) ∧ Below w.heap.size w w' := by
  rcases Int.lt_trichotomy half 0 with h | h | h
  · have h1 : (half == 0) = false := by rw [beq_eq_false_iff_ne]; omega
    have h2 : ¬ (0 < half) := by omega
    have e : upB 0 neg odd half = false := by unfold upB; rw [decide_eq_false h2, decide_eq_false (by omega)]; rfl
    rw [e]
    clear e
    unfold betV
    go_enter Tryz.func299, Tryz.ntmps299
    go_wp2
    go_ret
    exact ⟨rfl, (Below.refl _ _).alloc (Nat.le_refl _) _⟩
  · subst h
    have e : upB 0 neg odd 0 = odd := by simp [upB]
    rw [e]
    clear e
    unfold betV
    go_enter Tryz.func299, Tryz.ntmps299
    go_wp2
    go_ret
    exact ⟨rfl, (Below.refl _ _).alloc (Nat.le_refl _) _⟩
  · have e : upB 0 neg odd half = true := by unfold upB; rw [decide_eq_true h]; rfl
    rw [e]
    clear e
    unfold betV
    go_enter Tryz.func299, Tryz.ntmps299
    go_wp2
    go_ret
    exact ⟨rfl, (Below.refl _ _).alloc (Nat.le_refl _) _⟩

set_option maxRecDepth 100000 in
theorem away_up (neg odd : Bool) (half : Int) (w : World) : Calls Tryz.prog 300 #[betV neg odd half] w fun e w' => e = .returned (.bool (upB 1 neg odd half)) ∧ Below w.heap.size w w' := by
  unfold betV upB
  by_cases h : 0 ≤ half
  · rw [decide_eq_true h]
    go_enter Tryz.func300, Tryz.ntmps300
    go_wp2
    go_ret
    exact ⟨rfl, (Below.refl _ _).alloc (Nat.le_refl _) _⟩
  · rw [decide_eq_false h]
    go_enter Tryz.func300, Tryz.ntmps300
    go_wp2
    go_ret
    exact ⟨rfl, (Below.refl _ _).alloc (Nat.le_refl _) _⟩

set_option maxRecDepth 100000 in
theorem zero_up (neg odd : Bool) (half : Int) (w : World) : Calls Tryz.prog 301 #[betV neg odd half] w fun e w' => e = .returned (.bool (upB 2 neg odd half)) ∧ Below w.heap.size w w' := by
  unfold betV upB
  go_enter Tryz.func301, Tryz.ntmps301
  go_wp2
  go_ret
  exact ⟨rfl, (Below.refl _ _).alloc (Nat.le_refl _) _⟩

set_option maxRecDepth 100000 in
theorem up_up (neg odd : Bool) (half : Int) (w : World) : Calls Tryz.prog 302 #[betV neg odd half] w fun e w' => e = .returned (.bool (upB 3 neg odd half)) ∧ Below w.heap.size w w' := by
  unfold betV upB
  go_enter Tryz.func302, Tryz.ntmps302
  go_wp2
  go_ret
  exact ⟨rfl, (Below.refl _ _).alloc (Nat.le_refl _) _⟩

set_option maxRecDepth 100000 in
theorem down_up (neg odd : Bool) (half : Int) (w : World) : Calls Tryz.prog 303 #[betV neg odd half] w fun e w' => e = .returned (.bool (upB 4 neg odd half)) ∧ Below w.heap.size w w' := by
  unfold betV upB
  go_enter Tryz.func303, Tryz.ntmps303
  go_wp2
  go_ret
  exact ⟨rfl, (Below.refl _ _).alloc (Nat.le_refl _) _⟩

end Go.Proofs.YtihdnfhclocndaaGreatDoor
