/- numeral/round: whole. -/
import Derived.Test.YtihdnfhclocndaaGreatDoorQs19
namespace Go.Proofs.YtihdnfhclocndaaGreatDoor
open Go.RowKit W

/-- A whole number is handed back, and whether nothing was lost. -/
def GivesWhole (w : World) (n : Nat) (same : Bool) (e : Ending) (w' : World) : Prop :=
  ∃ g, e = .returned (.tuple #[.pointer (some ⟨g, 0, none⟩), .bool same]) ∧ Below w.heap.size w w' ∧ IntAt 0 w' g 0 (n : Int)

theorem tdiv_nat (a b : Nat) : (a : Int).tdiv (b : Int) = ((a / b : Nat) : Int) := rfl
theorem tmod_nat (a b : Nat) : (a : Int).tmod (b : Int) = ((a % b : Nat) : Int) := rfl

theorem odd_bool (m : Nat) : ((m : Int) % 2 == 1) = (m % 2 == 1) := by
  rw [show (m : Int) % 2 = ((m % 2 : Nat) : Int) by omega]
  rcases Nat.mod_two_eq_zero_or_one m with h | h <;> rw [h] <;> rfl

theorem cmp_sgn (r d : Nat) : sgnI (((r * 2 ^ 1 : Nat) : Int) - (d : Int)) = cmpN (2 * r) d := by
  unfold sgnI cmpN
  split <;> (try split) <;> (try split) <;> (try split) <;> omega

theorem modes_at0 (w : World) : (Instr.index 310 (.agg #[.func (.func 299) #[] #[], .func (.func 300) #[] #[], .func (.func 301) #[] #[], .func (.func 302) #[] #[], .func (.func 303) #[] #[]]) (.int .u8 0)).run Tryz.prog w = .ok (.func (.func 299) #[] #[]) w := by kernel_rfl
theorem modes_at1 (w : World) : (Instr.index 310 (.agg #[.func (.func 299) #[] #[], .func (.func 300) #[] #[], .func (.func 301) #[] #[], .func (.func 302) #[] #[], .func (.func 303) #[] #[]]) (.int .u8 1)).run Tryz.prog w = .ok (.func (.func 300) #[] #[]) w := by kernel_rfl
theorem modes_at2 (w : World) : (Instr.index 310 (.agg #[.func (.func 299) #[] #[], .func (.func 300) #[] #[], .func (.func 301) #[] #[], .func (.func 302) #[] #[], .func (.func 303) #[] #[]]) (.int .u8 2)).run Tryz.prog w = .ok (.func (.func 301) #[] #[]) w := by kernel_rfl
theorem modes_at3 (w : World) : (Instr.index 310 (.agg #[.func (.func 299) #[] #[], .func (.func 300) #[] #[], .func (.func 301) #[] #[], .func (.func 302) #[] #[], .func (.func 303) #[] #[]]) (.int .u8 3)).run Tryz.prog w = .ok (.func (.func 302) #[] #[]) w := by kernel_rfl
theorem modes_at4 (w : World) : (Instr.index 310 (.agg #[.func (.func 299) #[] #[], .func (.func 300) #[] #[], .func (.func 301) #[] #[], .func (.func 302) #[] #[], .func (.func 303) #[] #[]]) (.int .u8 4)).run Tryz.prog w = .ok (.func (.func 303) #[] #[]) w := by kernel_rfl

set_option maxRecDepth 100000 in
set_option maxHeartbeats 4000000 in
theorem whole_any (gn gd n d : Nat) (neg : Bool) (mode : Nat) (w : World) (hn : IntAt 0 w gn 0 (n : Int)) (hd : IntAt 0 w gd 0 (d : Int)) (h0 : 0 < d) (hm : mode ≤ 4) (l1 : nbits n ≤ 17179869184) (l2 : nbits d ≤ 17179869184) :
    Calls Tryz.prog 239 #[.pointer (some ⟨gn, 0, none⟩), .pointer (some ⟨gd, 0, none⟩), .bool neg, .int .u8 (mode : Int)] w (GivesWhole w (roundQ n d neg mode) (decide (n % d = 0))) := by
  have m1 := len_nbits n
  have m2 := len_nbits d
  have B1 := (Below.refl w.heap.size w).alloc (Nat.le_refl _) newInt
  have B2 := B1.alloc (by simp) newInt
  have s1 : (w.alloc newInt).heap.size = w.heap.size + 1 := by simp
  have T := Lib.hid (intQuoRem_any 0 w.heap.size 0 gn 0 gd 0 (w.heap.size + 1) 0 (n : Int) (d : Int) ((w.alloc newInt).alloc newInt) ((Spot.new w (by omega)).under ((Below.refl _ _).alloc (Nat.le_refl _) newInt) (by simp))
    (by have h := Spot.new (base := 0) (w.alloc newInt) (by omega); rw [s1] at h; exact h) (by omega) (hn.under B2) (hd.under B2) (by omega) (by rw [Int.natAbs_natCast]; omega) (by rw [Int.natAbs_natCast]; omega) (by omega))
  rw [tdiv_nat, tmod_nat] at T
  have HB2 := Lib.hid B2
  have HD := Lib.hid (hd.under B2)
  have hgd := hd.lt
  have HSP := Lib.hid (show ∀ k ∈ [w.heap.size, w.heap.size + 1], ∃ o, Spot 0 ((w.alloc newInt).alloc newInt) k o from by
    intro k hk
    rcases List.mem_cons.1 hk with rfl | hk
    · exact ⟨0, (Spot.new w (by omega)).under ((Below.refl _ _).alloc (Nat.le_refl _) newInt) (by simp)⟩
    · obtain rfl := List.mem_singleton.1 hk
      have h := Spot.new (base := 0) (w.alloc newInt) (by omega)
      rw [s1] at h
      exact ⟨0, h⟩)
  clear B1 B2 hn hd
  have hs2 : ((w.alloc newInt).alloc newInt).heap.size = w.heap.size + 2 := by simp
  by_cases hz : n % d = 0
  · have HR := Lib.hid (show roundQ n d neg mode = n / d from if_pos hz)
    rw [decide_eq_true hz]
    rw [hz] at T
    clear hz
    go_enter Tryz.func239, Tryz.ntmps239
    go_wp2_with fail
    with_reducible refine T.out.mono ?_
    rintro e w1 ⟨rfl, hO, hQ, hr⟩
    have TS := Lib.hid (intSign_any 0 (w.heap.size + 1) 0 _ w1 hr)
    have HQ := Lib.hid hQ
    have HB := Lib.hid (HB2.out.trans (hO.below (by omega) (by simp)))
    clear hO hQ hr T
    rw [show sgnI ((0 : Nat) : Int) = 0 from rfl] at TS
    go_wp2_with fail
    with_reducible refine TS.out.mono ?_
    rintro e w' ⟨rfl, rfl⟩
    go_wp2
    go_ret2
    exact ⟨_, rfl, HB.out, by rw [HR.out]; exact HQ.out⟩
  · have HR := Lib.hid (show roundQ n d neg mode = if upB mode neg (n / d % 2 == 1) (cmpN (2 * (n % d)) d) then n / d + 1 else n / d from if_neg hz)
    rw [decide_eq_false hz]
    have hz1 : (sgnI ((n % d : Nat) : Int) == 0) = false := by
      rw [beq_eq_false_iff_ne]; unfold sgnI; rw [if_neg (by omega)]; split <;> omega
    have l3 : nbits (n % d) ≤ 17179869184 := by
      have h1 := nbits_lt (n := d)
      refine Nat.le_trans (nbits_le (k := nbits d) (Nat.lt_trans (Nat.mod_lt n h0) h1)) l2
    have l4 : nbits (n / d) ≤ 17179869184 := by
      have h1 := nbits_lt (n := n)
      exact Nat.le_trans (nbits_le (k := nbits n) (Nat.lt_of_le_of_lt (Nat.div_le_self n d) h1)) l1
    have m3 := len_nbits (n % d)
    have m4 := len_nbits (n / d)
    have m5 := len_nbits (n % d * 2 ^ 1)
    have m6 := nbits_mul_pow (n := n % d) (k := 1)
    clear hz
    have HOB := Lib.hid (odd_bool (n / d))
    have HCS := Lib.hid (cmp_sgn (n % d) d)
    generalize n % d = r at *
    generalize n / d = q at *
    go_enter Tryz.func239, Tryz.ntmps239
    go_wp2_with fail
    with_reducible refine T.out.mono ?_
    rintro e w1 ⟨rfl, hO, hQ, hr⟩
    have TS := Lib.hid (intSign_any 0 (w.heap.size + 1) 0 _ w1 hr)
    have TB := Lib.hid (intBit0_any 0 w.heap.size 0 _ w1 hQ (by rw [Int.natAbs_natCast]; omega))
    rw [Int.natAbs_natCast] at TB
    have HQ := Lib.hid hQ
    have Hr := Lib.hid hr
    have hlt1 := hQ.lt
    have hlt2 := hr.lt
    have hd1 := hO.below (B := w.heap.size) (by omega) (by simp)
    have HD1 := Lib.hid (show IntAt 0 w1 gd 0 (d : Int) from HD.out.only hO (by simp; omega) HSP.out)
    have HB := Lib.hid (HB2.out.trans hd1)
    clear hO hQ hr T hd1 HD
    go_wp2_with fail
    with_reducible refine TS.out.mono ?_
    rintro e w' ⟨rfl, rfl⟩
    clear TS
    go_wp2_with fail
    with_reducible refine TB.out.mono ?_
    rintro e w2 ⟨rfl, nb, rfl⟩
    clear TB
    have TL := Lib.hid (intLsh_any 0 (w.heap.size + 1) 0 (w.heap.size + 1) 0 (r : Int) 1 (w1.drewN nb) Hr.out.spot (Hr.out.keep fun _ _ => rfl) (by omega) (by rw [Int.natAbs_natCast]; omega) (by omega))
    rw [show ((1 : Nat) : Int) = 1 from rfl, shl_nat] at TL
    go_wp2_with fail
    with_reducible refine TL.out.mono ?_
    rintro e w2 ⟨rfl, hG2, hI2, _⟩
    have hz2 : w1.heap.size ≤ w2.heap.size := hG2.size
    have HD2 := Lib.hid (show IntAt 0 w2 gd 0 (d : Int) from (HD1.out.keep fun _ _ => rfl).grown (w := w1.drewN nb) Hr.out.spot hG2 (by omega))
    have HQ2 := Lib.hid (show IntAt 0 w2 w.heap.size 0 (q : Int) from (HQ.out.keep fun _ _ => rfl).grown (w := w1.drewN nb) Hr.out.spot hG2 (by omega))
    have HB2' := Lib.hid ((HB.out.trans (show Below w.heap.size w1 (w1.drewN nb) from ⟨rfl, rfl, rfl, Nat.le_refl _, fun _ _ => rfl⟩)).trans (below_of_grown (w := w1.drewN nb) (B := w.heap.size) hG2 (by omega) (by show w.heap.size ≤ w1.heap.size; omega)))
    have TC := Lib.hid (intCmp_any 0 (w.heap.size + 1) 0 gd 0 _ _ w2 hI2 HD2.out (by rw [Int.natAbs_natCast]; omega) (by rw [Int.natAbs_natCast]; omega))
    rw [HCS.out] at TC
    clear TL hG2 hI2 HD1 HD2 HQ HB Hr
    go_wp2_with fail
    with_reducible refine TC.out.mono ?_
    rintro e w3 ⟨rfl, nc, rfl⟩
    have HQ3 := Lib.hid (show IntAt 0 (w2.drewN nc) w.heap.size 0 (q : Int) from HQ2.out.keep fun _ _ => rfl)
    have HB3 := Lib.hid (HB2'.out.trans (show Below w.heap.size w2 (w2.drewN nc) from ⟨rfl, rfl, rfl, Nat.le_refl _, fun _ _ => rfl⟩))
    have hz3 : w1.heap.size ≤ (w2.drewN nc).heap.size := hz2
    clear TC HQ2 HB2' hz2
    generalize w2.drewN nc = w3 at *
    generalize hcq : cmpN (2 * r) d = half at *
    have HOB1 := Lib.hid (show ∃ o, o = (q % 2 == 1) ∧ ((q : Int) % 2 == 1) = o from ⟨_, rfl, HOB.out⟩)
    obtain ⟨o, ho, hob⟩ := HOB1.out
    rw [← ho] at HR
    clear hcq HOB HOB1 ho HCS
    have HO4 := Lib.hid (one_new w3 #[.bool neg, .bool o, .int .i64 half] 308)
    have TM := Lib.hid (modes_any (w3.alloc (.cells #[.bool neg, .bool o, .int .i64 half] 308)).drew)
    unfold modesV at TM
    have T0 := Lib.hid (fun W => even_up neg o half W)
    have T1 := Lib.hid (fun W => away_up neg o half W)
    have T2 := Lib.hid (fun W => zero_up neg o half W)
    have T3 := Lib.hid (fun W => up_up neg o half W)
    have T4 := Lib.hid (fun W => down_up neg o half W)
    unfold betV at T0 T1 T2 T3 T4
    go_wp2
    have HQ4 := Lib.hid (HQ3.out.under HO4.out.below)
    have HB4 := Lib.hid (HB3.out.trans (HO4.out.below.mono (by omega)))
    have c0 : (w3.alloc (.cells #[.bool neg, .bool o, .int .i64 half] 308)).cell? ⟨w3.heap.size, 0, none⟩ = some (.bool neg) := HO4.out.c 0
    have c1 : (w3.alloc (.cells #[.bool neg, .bool o, .int .i64 half] 308)).cell? ⟨w3.heap.size, 1, none⟩ = some (.bool o) := HO4.out.c 1
    have c2 : (w3.alloc (.cells #[.bool neg, .bool o, .int .i64 half] 308)).cell? ⟨w3.heap.size, 2, none⟩ = some (.int .i64 half) := HO4.out.c 2
    have hsz4 := HO4.out.size
    clear HQ3 HB3 HO4
    generalize w3.alloc (.cells #[.bool neg, .bool o, .int .i64 half] 308) = W4 at *
    have hmode : mode = 0 ∨ mode = 1 ∨ mode = 2 ∨ mode = 3 ∨ mode = 4 := by omega
    have ix0 := modes_at0
    have ix1 := modes_at1
    have ix2 := modes_at2
    have ix3 := modes_at3
    have ix4 := modes_at4
    generalize hu : upB mode neg o half = u at HR
    rcases hmode with rfl | rfl | rfl | rfl | rfl
    all_goals
      simp only [hu] at T0 T1 T2 T3 T4
      clear hu
      go_region_held3 (fun w' => w'.cell? ⟨w3.heap.size, 0, none⟩ = some (.bool neg) ∧ w'.cell? ⟨w3.heap.size, 1, none⟩ = some (.bool o) ∧ w'.cell? ⟨w3.heap.size, 2, none⟩ = some (.int .i64 half))
        (first | exact ⟨c0, c1, c2⟩ | exact ⟨d0, d1, d2⟩ | exact ⟨f0, f1, f2⟩)
        ((first
          | (go_at_call 280; (with_reducible refine TM.out.mono ?_); rintro e w5 ⟨rfl, hB5⟩
             have hsz5 : w3.heap.size < w5.heap.size := Nat.lt_of_lt_of_le hsz4 hB5.size
             have d0 : w5.cell? ⟨w3.heap.size, 0, none⟩ = some (.bool neg) := (hB5.cell (p := ⟨w3.heap.size, 0, none⟩) hsz4).trans c0
             have d1 : w5.cell? ⟨w3.heap.size, 1, none⟩ = some (.bool o) := (hB5.cell (p := ⟨w3.heap.size, 1, none⟩) hsz4).trans c1
             have d2 : w5.cell? ⟨w3.heap.size, 2, none⟩ = some (.int .i64 half) := (hB5.cell (p := ⟨w3.heap.size, 2, none⟩) hsz4).trans c2
             have HB5 := Lib.hid hB5; clear hB5)
          | ((first
              | (go_at_call 299; (with_reducible refine (T0.out w5).mono ?_))
              | (go_at_call 300; (with_reducible refine (T1.out w5).mono ?_))
              | (go_at_call 301; (with_reducible refine (T2.out w5).mono ?_))
              | (go_at_call 302; (with_reducible refine (T3.out w5).mono ?_))
              | (go_at_call 303; (with_reducible refine (T4.out w5).mono ?_)))
             rintro e w6 ⟨rfl, hB6⟩
             have f0 : w6.cell? ⟨w3.heap.size, 0, none⟩ = some (.bool neg) := (hB6.cell (p := ⟨w3.heap.size, 0, none⟩) hsz5).trans d0
             have f1 : w6.cell? ⟨w3.heap.size, 1, none⟩ = some (.bool o) := (hB6.cell (p := ⟨w3.heap.size, 1, none⟩) hsz5).trans d1
             have f2 : w6.cell? ⟨w3.heap.size, 2, none⟩ = some (.int .i64 half) := (hB6.cell (p := ⟨w3.heap.size, 2, none⟩) hsz5).trans d2
             have HB6 := Lib.hid hB6; clear hB6)))
      have HQ6 := Lib.hid ((HQ4.out.drew.under HB5.out).under HB6.out)
      have hsz6 : w.heap.size ≤ W4.heap.size := by omega
      have HBW6 := Lib.hid ((HB4.out.trans (show Below w.heap.size W4 w5 from ⟨HB5.out.os, HB5.out.tape, HB5.out.output, HB5.out.size, fun j hj => HB5.out.block j (Nat.lt_of_lt_of_le hj hsz6)⟩)).trans (HB6.out.mono (by omega)))
      clear ix0 ix1 ix2 ix3 ix4 T0 T1 T2 T3 T4 c0 c1 c2 d0 d1 d2 f0 f1 f2 HQ4 HB4 HB5 HB6
      cases u with
      | false =>
        rw [if_neg (by simp)] at HR
        go_wp2
        go_ret2
        exact ⟨_, rfl, HBW6.out, by rw [HR.out]; exact HQ6.out⟩
      | true =>
        rw [if_pos rfl] at HR
        have hge : w.heap.size ≤ w6.heap.size := HBW6.out.size
        have TN := Lib.hid (newInt_any 1 w6 (by omega) (by omega))
        go_wp2_with fail
        with_reducible refine TN.out.mono ?_
        rintro e w7 ⟨g7, rfl, hB7, hg7, hI7⟩
        have hQ7 := HQ6.out.under hB7
        have TA := Lib.hid (intAdd_any 0 w.heap.size 0 w.heap.size 0 g7 0 (q : Int) 1 w7 hQ7.spot hQ7 (hI7.mono (by omega)) (by omega) (by rw [Int.natAbs_natCast]; omega) (by have := length_ofN_le (n := (1 : Int).natAbs) (k := 1) (by decide); omega))
        have HB7 := Lib.hid (HBW6.out.trans (hB7.mono hge))
        clear hB7 hg7 hI7 hQ7 TN
        go_wp2_with fail
        with_reducible refine TA.out.mono ?_
        rintro e w8 ⟨rfl, hG8, hI8, _⟩
        have HB8 := Lib.hid (HB7.out.trans (below_of_grown hG8 (Nat.le_refl _) HB7.out.size))
        have HI8 := Lib.hid hI8
        clear hG8 hI8 TA
        go_wp2
        go_ret2
        exact ⟨_, rfl, HB8.out, by rw [HR.out]; exact HI8.out⟩

end Go.Proofs.YtihdnfhclocndaaGreatDoor
