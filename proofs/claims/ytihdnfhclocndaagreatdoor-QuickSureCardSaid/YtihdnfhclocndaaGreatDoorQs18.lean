/- numeral/exact: Check; numeral/round: near. Plain rounding of a fraction, as the package 'round' reckons it. numeral/round: large, modes, the modes' methods. -/
import Derived.Test.YtihdnfhclocndaaGreatDoorQs17
import Derived.Test.YtihdnfhclocndaaGreatDoorQs10
import Derived.Deep.RegionHeld3
namespace Go.Proofs.YtihdnfhclocndaaGreatDoor
open Go.RowKit W

/-- What Check tells of a dyadic. -/
def dyCheck (neg : Bool) (xs : List Nat) (ex : Int) : Int :=
  if natCheck xs = 0 then
    if xs.length = 0 then (if neg = true ∨ ex ≠ 0 then 40 else 0)
    else if nth xs 0 % 2 = 0 ∨ ex < -1073741824 ∨ 1073741824 < ex then 40 else 0
  else natCheck xs

theorem One.new (w : World) (cs : Array Value) (t : TypeId) : (w.alloc (.cells cs t)).heap[w.heap.size]? = some (.cells cs t (0, 0)) ∧ Below w.heap.size w (w.alloc (.cells cs t)) ∧ w.heap.size + 1 ≤ (w.alloc (.cells cs t)).heap.size :=
  ⟨heap_alloc_new w _, (Below.refl _ _).alloc (Nat.le_refl _) _, by simp⟩

/-- What lies in the one block that a function laid for itself. -/
structure One (w W0 : World) (us : Array Value) (t : TypeId) : Prop where
  b1 : W0.heap[w.heap.size]? = some (.cells us t (0, 0))
  below : Below w.heap.size w W0
  size : w.heap.size + 1 ≤ W0.heap.size

theorem one_new (w : World) (us : Array Value) (t : TypeId) : One w (w.alloc (.cells us t)) us t :=
  ⟨heap_alloc_new w _, (Below.refl _ _).alloc (Nat.le_refl _) _, by simp⟩

theorem One.under {w W0 w1 : World} {us : Array Value} {t : TypeId} (h : One w W0 us t) (hb : Below W0.heap.size W0 w1) : One w w1 us t := by
  have hz := h.size
  exact ⟨(hb.block _ (by omega)).trans h.b1, h.below.trans (hb.mono (by omega)), Nat.le_trans h.size hb.size⟩
theorem One.c {w W0 : World} {us : Array Value} {t : TypeId} (h : One w W0 us t) (k : Nat) : W0.cell? ⟨w.heap.size, k, none⟩ = us[k]? := by
  unfold World.cell?; rw [h.b1]; rfl
theorem One.f {w W0 : World} {us : Array Value} {t : TypeId} (h : One w W0 us t) (k : Nat) : W0.frozen? ⟨w.heap.size, k, none⟩ = false := frozen_of_row _ _ k _ _ h.b1

set_option maxRecDepth 100000 in
set_option maxHeartbeats 1000000 in
theorem exactCheck_any (neg : Bool) (A : Option Addr) (xs : List Nat) (c : Nat) (ex : Int) (w : World) (h : Rd w A xs) (hs : Small xs) (hm : xs.length ≤ maxLen) (e1 : -9223372036854775808 ≤ ex) (e2 : ex ≤ 9223372036854775807) :
    Calls Tryz.prog 71 #[.agg #[.bool neg, .slice A xs.length c, .int .i64 ex]] w fun e w' => e = .returned (.int .i64 (dyCheck neg xs ex)) ∧ Below w.heap.size w w' := by
  have HO := Lib.hid (one_new w #[.bool neg, .slice A xs.length c, .int .i64 ex] 55)
  have HR := Lib.hid (h.below HO.out.below)
  have C := Lib.hid (natCheck_any A xs c _ HR.out hs hm)
  unfold maxLen at hm
  have HS := Lib.hid hs
  clear h hs
  by_cases hq : natCheck xs = 0
  · have HQ := Lib.hid hq
    rw [hq] at C
    clear hq
    have T := Lib.hid (fun w => none_any A xs.length c w)
    rcases Nat.eq_zero_or_pos xs.length with h0 | h0
    · rw [decide_eq_true h0] at T
      have hE : dyCheck neg xs ex = if neg = true ∨ ex ≠ 0 then 40 else 0 := by unfold dyCheck; rw [if_pos HQ.out, if_pos h0]
      have HE := Lib.hid hE
      clear hE h0
      cases neg with
      | true =>
        have HF := Lib.hid (HE.out.trans (if_pos (.inl rfl)))
        clear HE
        go_enter Tryz.func71, Tryz.ntmps71
        go_wp2_with fail
        generalize w.alloc (.cells #[.bool true, .slice A xs.length c, .int .i64 ex] 55) = W0 at *
        with_reducible refine C.out.mono ?_
        rintro e w1 ⟨rfl, hb1⟩
        have HO1 := Lib.hid (HO.out.under hb1)
        clear hb1 C HO HR
        have c0 : w1.cell? ⟨w.heap.size, 0, none⟩ = some (.bool true) := HO1.out.c 0
        have c1 : w1.cell? ⟨w.heap.size, 1, none⟩ = some (.slice A xs.length c) := HO1.out.c 1
        have c2 : w1.cell? ⟨w.heap.size, 2, none⟩ = some (.int .i64 ex) := HO1.out.c 2
        go_wp2_with fail
        with_reducible refine (T.out w1).mono ?_
        rintro e w2 ⟨rfl, hb2⟩
        have HO2 := Lib.hid (HO1.out.under hb2)
        clear hb2 c0 c1 c2 HO1
        have c0 : w2.cell? ⟨w.heap.size, 0, none⟩ = some (.bool true) := HO2.out.c 0
        have c1 : w2.cell? ⟨w.heap.size, 1, none⟩ = some (.slice A xs.length c) := HO2.out.c 1
        have c2 : w2.cell? ⟨w.heap.size, 2, none⟩ = some (.int .i64 ex) := HO2.out.c 2
        go_wp2
        go_ret
        exact ⟨by (rw [HF.out]; first | done | rfl), HO2.out.below⟩
      | false =>
        by_cases hx : ex = 0
        · have HF := Lib.hid (HE.out.trans (if_neg (by simp [hx])))
          subst hx
          clear HE
          go_enter Tryz.func71, Tryz.ntmps71
          go_wp2_with fail
          generalize w.alloc (.cells #[.bool false, .slice A xs.length c, .int .i64 0] 55) = W0 at *
          with_reducible refine C.out.mono ?_
          rintro e w1 ⟨rfl, hb1⟩
          have HO1 := Lib.hid (HO.out.under hb1)
          clear hb1 C HO HR
          have c0 : w1.cell? ⟨w.heap.size, 0, none⟩ = some (.bool false) := HO1.out.c 0
          have c1 : w1.cell? ⟨w.heap.size, 1, none⟩ = some (.slice A xs.length c) := HO1.out.c 1
          have c2 : w1.cell? ⟨w.heap.size, 2, none⟩ = some (.int .i64 0) := HO1.out.c 2
          go_wp2_with fail
          with_reducible refine (T.out w1).mono ?_
          rintro e w2 ⟨rfl, hb2⟩
          have HO2 := Lib.hid (HO1.out.under hb2)
          clear hb2 c0 c1 c2 HO1
          have c0 : w2.cell? ⟨w.heap.size, 0, none⟩ = some (.bool false) := HO2.out.c 0
          have c1 : w2.cell? ⟨w.heap.size, 1, none⟩ = some (.slice A xs.length c) := HO2.out.c 1
          have c2 : w2.cell? ⟨w.heap.size, 2, none⟩ = some (.int .i64 0) := HO2.out.c 2
          go_wp2_with fail
          with_reducible refine (T.out w2).mono ?_
          rintro e w3 ⟨rfl, hb3⟩
          have HO3 := Lib.hid (HO2.out.under hb3)
          clear hb3 c0 c1 c2 HO2
          go_wp2
          go_ret
          exact ⟨by (rw [HF.out]; first | done | rfl), HO3.out.below⟩
        · have HF := Lib.hid (HE.out.trans (if_pos (.inr hx)))
          have hx1 : (ex == 0) = false := by rw [beq_eq_false_iff_ne]; exact hx
          clear HE hx
          go_enter Tryz.func71, Tryz.ntmps71
          go_wp2_with fail
          generalize w.alloc (.cells #[.bool false, .slice A xs.length c, .int .i64 ex] 55) = W0 at *
          with_reducible refine C.out.mono ?_
          rintro e w1 ⟨rfl, hb1⟩
          have HO1 := Lib.hid (HO.out.under hb1)
          clear hb1 C HO HR
          have c0 : w1.cell? ⟨w.heap.size, 0, none⟩ = some (.bool false) := HO1.out.c 0
          have c1 : w1.cell? ⟨w.heap.size, 1, none⟩ = some (.slice A xs.length c) := HO1.out.c 1
          have c2 : w1.cell? ⟨w.heap.size, 2, none⟩ = some (.int .i64 ex) := HO1.out.c 2
          go_wp2_with fail
          with_reducible refine (T.out w1).mono ?_
          rintro e w2 ⟨rfl, hb2⟩
          have HO2 := Lib.hid (HO1.out.under hb2)
          clear hb2 c0 c1 c2 HO1
          have c0 : w2.cell? ⟨w.heap.size, 0, none⟩ = some (.bool false) := HO2.out.c 0
          have c1 : w2.cell? ⟨w.heap.size, 1, none⟩ = some (.slice A xs.length c) := HO2.out.c 1
          have c2 : w2.cell? ⟨w.heap.size, 2, none⟩ = some (.int .i64 ex) := HO2.out.c 2
          go_wp2
          go_ret
          exact ⟨by (rw [HF.out]; first | done | rfl), HO2.out.below⟩
    · rw [decide_eq_false (show ¬ xs.length = 0 by omega)] at T
      have hE : dyCheck neg xs ex = if nth xs 0 % 2 = 0 ∨ ex < -1073741824 ∨ 1073741824 < ex then 40 else 0 := by unfold dyCheck; rw [if_pos HQ.out, if_neg (by omega)]
      have HE := Lib.hid hE
      clear hE
      have bx := nth_lt HS.out 0
      have hand : bits BinOp.and IntKind.u32 (nth xs 0 : Int) 1 = ((nth xs 0 % 2 : Nat) : Int) := by
        have h := u32_and_nat (nth xs 0) 1 bx (by omega)
        rw [show ((1 : Nat) : Int) = 1 from rfl] at h
        rw [h, Nat.and_one_is_mod]
      have F := Lib.hid (fun w => far_any ex w)
      go_enter Tryz.func71, Tryz.ntmps71
      go_wp2_with fail
      generalize w.alloc (.cells #[.bool neg, .slice A xs.length c, .int .i64 ex] 55) = W0 at *
      with_reducible refine C.out.mono ?_
      rintro e w1 ⟨rfl, hb1⟩
      have HO1 := Lib.hid (HO.out.under hb1)
      have HR1 := Lib.hid (HR.out.below hb1)
      clear hb1 C HO HR
      have c0 : w1.cell? ⟨w.heap.size, 0, none⟩ = some (.bool neg) := HO1.out.c 0
      have c1 : w1.cell? ⟨w.heap.size, 1, none⟩ = some (.slice A xs.length c) := HO1.out.c 1
      have c2 : w1.cell? ⟨w.heap.size, 2, none⟩ = some (.int .i64 ex) := HO1.out.c 2
      go_wp2_with fail
      with_reducible refine (T.out w1).mono ?_
      rintro e w2 ⟨rfl, hb2⟩
      have HO2 := Lib.hid (HO1.out.under hb2)
      have HR2 := Lib.hid (HR1.out.below hb2)
      clear hb2 c0 c1 c2 HO1 HR1
      have c0 : w2.cell? ⟨w.heap.size, 0, none⟩ = some (.bool neg) := HO2.out.c 0
      have c1 : w2.cell? ⟨w.heap.size, 1, none⟩ = some (.slice A xs.length c) := HO2.out.c 1
      have c2 : w2.cell? ⟨w.heap.size, 2, none⟩ = some (.int .i64 ex) := HO2.out.c 2
      go_wp2_with fail
      with_reducible refine (T.out w2).mono ?_
      rintro e w3 ⟨rfl, hb3⟩
      have HO3 := Lib.hid (HO2.out.under hb3)
      have HR3 := Lib.hid (HR2.out.below hb3)
      clear hb3 c0 c1 c2 HO2 HR2
      have c0 : w3.cell? ⟨w.heap.size, 0, none⟩ = some (.bool neg) := HO3.out.c 0
      have c1 : w3.cell? ⟨w.heap.size, 1, none⟩ = some (.slice A xs.length c) := HO3.out.c 1
      have c2 : w3.cell? ⟨w.heap.size, 2, none⟩ = some (.int .i64 ex) := HO3.out.c 2
      obtain ⟨b, o, rfl, hcell⟩ := HR3.out h0
      have hx0 := hcell 0 h0
      rw [Nat.add_zero] at hx0
      clear hcell
      by_cases hev : nth xs 0 % 2 = 0
      · have hev1 : (((nth xs 0 % 2 : Nat) : Int) == 0) = true := by rw [hev]; rfl
        have HF := Lib.hid (HE.out.trans (if_pos (.inl hev)))
        clear HE hev
        generalize nth xs 0 % 2 = q at *
        go_wp2
        go_ret
        exact ⟨by (rw [HF.out]; first | done | rfl), HO3.out.below⟩
      · have hev1 : (((nth xs 0 % 2 : Nat) : Int) == 0) = false := by rw [beq_eq_false_iff_ne]; omega
        by_cases hfar : ex < -1073741824 ∨ 1073741824 < ex
        · have HF := Lib.hid (HE.out.trans (if_pos (.inr hfar)))
          have F1 := Lib.hid (F.out w3)
          rw [show (decide (ex < -1073741824) || decide (1073741824 < ex)) = true by rw [← Bool.decide_or]; exact decide_eq_true hfar] at F1
          clear HE F hfar hev
          generalize nth xs 0 % 2 = q at *
          go_wp2_with fail
          with_reducible refine F1.out.mono ?_
          rintro e w' ⟨rfl, rfl⟩
          go_wp2
          go_ret
          exact ⟨by (rw [HF.out]; first | done | rfl), HO3.out.below⟩
        · have HF := Lib.hid (HE.out.trans (if_neg (by omega)))
          have F1 := Lib.hid (F.out w3)
          rw [show (decide (ex < -1073741824) || decide (1073741824 < ex)) = false by rw [← Bool.decide_or]; exact decide_eq_false hfar] at F1
          clear HE F hfar hev
          generalize nth xs 0 % 2 = q at *
          go_wp2_with fail
          with_reducible refine F1.out.mono ?_
          rintro e w' ⟨rfl, rfl⟩
          go_wp2
          go_ret
          exact ⟨by (rw [HF.out]; first | done | rfl), HO3.out.below⟩
  · have HF := Lib.hid (show dyCheck neg xs ex = natCheck xs from if_neg hq)
    have hq1 : (natCheck xs == 0) = false := by rw [beq_eq_false_iff_ne]; exact hq
    clear hq
    generalize natCheck xs = q at *
    go_enter Tryz.func71, Tryz.ntmps71
    go_wp2_with fail
    generalize w.alloc (.cells #[.bool neg, .slice A xs.length c, .int .i64 ex] 55) = W0 at *
    with_reducible refine C.out.mono ?_
    rintro e w1 ⟨rfl, hb1⟩
    have HO1 := Lib.hid (HO.out.under hb1)
    go_wp2
    go_ret
    exact ⟨by (rw [HF.out]; first | done | rfl), HO1.out.below⟩

/-- A power that is brought near. -/
def nearI (n bits : Int) : Int := max (-bits - 1200) (min n (bits + 1200))

set_option maxRecDepth 100000 in
theorem near_any (n b : Int) (w : World) (h3 : 0 ≤ b) (h4 : b ≤ 1099511627776) :
    Calls Tryz.prog 107 #[.int .i64 n, .int .i64 b] w fun e w' => e = .returned (.int .i64 (nearI n b)) ∧ w = w' := by
  go_enter Tryz.func107, Tryz.ntmps107
  go_wp2
  go_ret
  exact ⟨rfl, rfl⟩

end Go.Proofs.YtihdnfhclocndaaGreatDoor
namespace Go.Proofs.YtihdnfhclocndaaGreatDoor
namespace W

/-- -1, 0, 1: which of two numbers is greater. -/
def cmpN (a b : Nat) : Int := if a < b then -1 else if a = b then 0 else 1

/-- Does the one farther from nought stand for a number between two? -/
def upB (mode : Nat) (neg odd : Bool) (half : Int) : Bool :=
  match mode with
  | 0 => decide (0 < half) || (decide (half = 0) && odd)
  | 1 => decide (0 ≤ half)
  | 2 => false
  | 3 => !neg
  | _ => neg

/-- A fraction rounded to a whole number. -/
def roundQ (num den : Nat) (neg : Bool) (mode : Nat) : Nat :=
  if num % den = 0 then num / den
  else if upB mode neg (num / den % 2 == 1) (cmpN (2 * (num % den)) den) then num / den + 1 else num / den

def timesN (num : Nat) (e : Int) : Nat := num * 2 ^ e.toNat
def timesD (den : Nat) (e : Int) : Nat := den * 2 ^ (-e).toNat

/-- The exponent of two of a fraction's highest bit. -/
def logQ (num den : Nat) : Int :=
  if timesN num (-((nbits num : Int) - nbits den)) < timesD den (-((nbits num : Int) - nbits den)) then (nbits num : Int) - nbits den - 1 else (nbits num : Int) - nbits den

def biasQ (ex : Nat) : Int := 2 ^ (ex - 1) - 1
def lowQ (ex : Nat) (num den : Nat) : Int := max (logQ num den) (1 - biasQ ex)
def infQ (ex fr : Nat) : Nat := 2 ^ (ex + fr) - 2 ^ fr

/-- The whole number of the last bits' unit. -/
def mantQ (ex fr num den : Nat) (neg : Bool) (mode : Nat) : Nat :=
  roundQ (timesN num ((fr : Int) - lowQ ex num den)) (timesD den ((fr : Int) - lowQ ex num den)) neg mode

/-- Nothing was lost. -/
def sameQ (ex fr num den : Nat) : Bool :=
  timesN num ((fr : Int) - lowQ ex num den) % timesD den ((fr : Int) - lowQ ex num den) == 0

/-- The bits ahead of what lies beyond. -/
def rawQ (ex fr num den : Nat) (neg : Bool) (mode : Nat) : Nat :=
  (mantQ ex fr num den neg mode % 18446744073709551616 + (lowQ ex num den + biasQ ex - 1).toNat * 2 ^ fr % 18446744073709551616) % 18446744073709551616

def overQ (ex fr num den : Nat) (neg : Bool) (mode : Nat) : Bool :=
  decide (biasQ ex < lowQ ex num den) || decide (infQ ex fr ≤ rawQ ex fr num den neg mode)

/-- Of what lies beyond the greatest float: that one, or infinity. -/
def stayQ (neg : Bool) (mode : Nat) : Bool := mode == 2 || (mode == 3 && neg) || (mode == 4 && !neg)

def bitsQ (ex fr num den : Nat) (neg : Bool) (mode : Nat) : Nat :=
  if overQ ex fr num den neg mode then (if stayQ neg mode then infQ ex fr - 1 else infQ ex fr) else rawQ ex fr num den neg mode

def tinyQ (ex fr num den : Nat) (neg : Bool) (mode : Nat) : Bool :=
  decide (logQ num den < -biasQ ex) || decide (nbits (roundQ (timesN num ((fr : Int) - logQ num den)) (timesD den ((fr : Int) - logQ num den)) neg mode) ≤ fr + 1)

def flagsQ (ex fr num den : Nat) (neg : Bool) (mode : Nat) : Nat :=
  if overQ ex fr num den neg mode then 3
  else if sameQ ex fr num den then 0
  else if logQ num den < 1 - biasQ ex ∧ tinyQ ex fr num den neg mode = true then 5 else 1

end W
end Go.Proofs.YtihdnfhclocndaaGreatDoor
namespace Go.Proofs.YtihdnfhclocndaaGreatDoor
open Go.RowKit W

theorem Res.mono {b b' : Nat} {w : World} {v : Value} {xs : List Nat} (h : Res b' w v xs) (hb : b ≤ b') : Res b w v xs := by
  refine ⟨h.1, ?_⟩
  rcases h.2 with h1 | ⟨g', cap, cur, hv, hbg, r⟩
  · exact .inl h1
  · exact .inr ⟨g', cap, cur, hv, by omega, r⟩
theorem Spot.mono {b b' : Nat} {w : World} {g o : Nat} (h : Spot b' w g o) (hb : b ≤ b') : Spot b w g o := ⟨Nat.le_trans hb h.1, h.2⟩
theorem IntAt.mono {b b' : Nat} {w : World} {g o : Nat} {z : Int} (h : IntAt b' w g o z) (hb : b ≤ b') : IntAt b w g o z := by
  obtain ⟨h1, h2, A, c, h3, h4⟩ := h
  exact ⟨h1.mono hb, h2, A, c, h3, h4.mono hb⟩
theorem IntAt.drew {b : Nat} {w : World} {g o : Nat} {z : Int} (h : IntAt b w g o z) : IntAt b w.drew g o z := h

theorem len_ofN_wv_drop {xs : List Nat} (hs : Small xs) (k : Nat) : (ofN (wv (xs.drop k))).length ≤ xs.length := by
  have := length_ofN_le (wv_lt (hs.drop k))
  rw [List.length_drop] at this
  omega

theorem large_step {xs : List Nat} (hs : Small xs) {k : Nat} (h0 : 0 < k) (hk : k ≤ xs.length) :
    (((wv (xs.drop k) : Nat) : Int) * 2 ^ 32).natAbs ||| (nth xs (k - 1) : Int).natAbs = wv (xs.drop (k - 1)) := by
  rw [wv_drop (xs := xs) (k := k - 1) (by omega), show k - 1 + 1 = k by omega]
  have b := nth_lt hs (k - 1)
  have e : (((wv (xs.drop k) : Nat) : Int) * 2 ^ 32).natAbs = 0 + 4294967296 * wv (xs.drop k) := by omega
  rw [e, Int.natAbs_natCast]
  have h := or_split 0 (wv (xs.drop k)) (nth xs (k - 1)) 0 (by omega) b
  simp only [Nat.mul_zero, Nat.add_zero, Nat.zero_or, Nat.or_zero] at h
  omega

set_option maxRecDepth 100000 in
set_option maxHeartbeats 2000000 in
theorem large_any (A : Option Addr) (xs : List Nat) (c : Nat) (w : World) (h : Rd w A xs) (hs : Small xs) (hm : xs.length ≤ 1073741824) :
    Calls Tryz.prog 106 #[.agg #[.slice A xs.length c]] w (GivesInt w (wv xs : Int)) := by
  have HO := Lib.hid (one_new w #[.slice A xs.length c] 44)
  have HI := Lib.hid (IntAt.new (base := w.heap.size) (w.alloc (.cells #[.slice A xs.length c] 44)) (by simp))
  have HO1 := Lib.hid (HO.out.under ((Below.refl _ (w.alloc (.cells #[.slice A xs.length c] 44))).alloc (Nat.le_refl _) newInt))
  rw [show (w.alloc (.cells #[.slice A xs.length c] 44)).heap.size = w.heap.size + 1 by simp] at HI
  have HS := Lib.hid hs
  have HR := Lib.hid h
  clear h hs HO
  go_enter Tryz.func106, Tryz.ntmps106
  go_wp2
  have c0 : ((w.alloc (.cells #[.slice A xs.length c] 44)).alloc newInt).cell? ⟨w.heap.size, 0, none⟩ = some (.slice A xs.length c) := HO1.out.c 0
  go_wp2
  go_loopw [4] (fun i wr => ∃ k : Nat, k ≤ xs.length ∧ i = .int .i64 ((k : Int) - 1) ∧ One w wr #[.slice A xs.length c] 44 ∧ IntAt w.heap.size wr (w.heap.size + 1) 0 (wv (xs.drop k) : Int)) (fun i _ => (intOf i + 1).toNat)
  case atStart =>
    refine ⟨xs.length, Nat.le_refl _, rfl, HO1.out, ?_⟩
    rw [List.drop_length]
    exact HI.out
  case round =>
    obtain ⟨k, hk, rfl, hO, hI⟩ := hrel
    clear c0 HO1 HI
    by_cases h0 : 0 < k
    · obtain ⟨b, o, rfl, hcw⟩ := HR.out (by omega)
      have hbw : b < w.heap.size := block_lt_of_cell (hcw (k - 1) (by omega))
      have hx : wr.cell? ⟨b, o + (k - 1), none⟩ = some (.int .u32 (nth xs (k - 1) : Int)) := (hO.below.cell (p := ⟨b, o + (k - 1), none⟩) hbw).trans (hcw (k - 1) (by omega))
      have c0 : wr.cell? ⟨w.heap.size, 0, none⟩ = some (.slice (some ⟨b, o, none⟩) xs.length c) := hO.c 0
      have bx := nth_lt HS.out (k - 1)
      have hsz := hO.size
      have LS := Lib.hid (intLsh_any w.heap.size (w.heap.size + 1) 0 (w.heap.size + 1) 0 (wv (xs.drop k) : Int) 32 wr.drew hI.spot.drew hI.drew (by simp; omega) (by rw [Int.natAbs_natCast]; have := len_ofN_wv_drop HS.out k; omega) (by omega))
      have i0 : (0 : Int) ≤ (k : Int) - 1 := by omega
      have i1 : (k : Int) - 1 < (xs.length : Int) := by omega
      have i2 : ((k : Int) - 1).toNat = k - 1 := by omega
      rw [show ((32 : Nat) : Int) = 32 from rfl] at LS
      have i3 : IntKind.i64.wrap (nth xs (k - 1) : Int) = (nth xs (k - 1) : Int) := by simp only [IntKind.wrap_i64]; omega
      have HST := Lib.hid (large_step HS.out h0 hk)
      have HLS := Lib.hid (show (ofN ((wv (xs.drop k) : Int) * 2 ^ 32).natAbs).length ≤ 1073741824 + 1 from by
        have h1 : ((wv (xs.drop k) : Int) * 2 ^ 32).natAbs < 4294967296 ^ (xs.length + 1) := by
          have h2 := wv_lt (HS.out.drop k)
          have h3 : ((wv (xs.drop k) : Int) * 2 ^ 32).natAbs = wv (xs.drop k) * 4294967296 := by omega
          rw [h3, Nat.pow_succ]
          exact Nat.mul_lt_mul_of_pos_right (Nat.lt_of_lt_of_le h2 (Nat.pow_le_pow_right (by omega) (by rw [List.length_drop]; omega))) (by omega)
        have h4 := length_ofN_le h1
        omega)
      have HOR : Hid (∀ (w2 : World) (g2 : Nat), IntAt w.heap.size w2 (w.heap.size + 1) 0 ((wv (xs.drop k) : Int) * 2 ^ 32) → IntAt w.heap.size w2 g2 0 (nth xs (k - 1) : Int) → w.heap.size ≤ w2.heap.size →
          Calls Tryz.prog 126 #[.pointer (some ⟨w.heap.size + 1, 0, none⟩), .pointer (some ⟨w.heap.size + 1, 0, none⟩), .pointer (some ⟨g2, 0, none⟩)] w2 (SetsInt w.heap.size w2 (w.heap.size + 1) 0 (wv (xs.drop (k - 1)) : Int))) := by
        intro w2 g2 a1 a2 a3
        have h := intOr_any w.heap.size (w.heap.size + 1) 0 (w.heap.size + 1) 0 g2 0 _ _ w2 a1.spot a1 a2 a3 (by have := HLS.out; omega) (by rw [Int.natAbs_natCast]; have := length_ofN_le (n := nth xs (k - 1)) (k := 1) (by omega); omega)
        rw [HST.out] at h
        exact h
      have LN := Lib.hid (fun w1 => newInt_any (nth xs (k - 1) : Int) w1 (by omega) (by omega))
      have HO := Lib.hid hO
      have HI := Lib.hid hI
      have HCW := Lib.hid hcw
      clear hO hI hcw
      go_wp2
      go_region_held3 (fun w' => w'.cell? ⟨w.heap.size, 0, none⟩ = some (.slice (some ⟨b, o, none⟩) xs.length c) ∧ w'.cell? ⟨b, o + (k - 1), none⟩ = some (.int .u32 (nth xs (k - 1) : Int)))
        (first | exact ⟨c0, hx⟩ | exact ⟨d0, d1⟩ | exact ⟨e0, e1⟩ | exact ⟨f0, f1⟩)
        ((first
          | (go_at_call 125; (with_reducible refine LS.out.mono ?_); rintro e w1 ⟨rfl, hG1, hI1, _⟩
             have d0 : w1.cell? ⟨w.heap.size, 0, none⟩ = some (.slice (some ⟨b, o, none⟩) xs.length c) := (World.cell?_of_block (hG1.block _ (by simp; omega) (by simp))).trans c0
             have d1 : w1.cell? ⟨b, o + (k - 1), none⟩ = some (.int .u32 (nth xs (k - 1) : Int)) := (World.cell?_of_block (hG1.block _ (by simp; omega) (by simp; omega))).trans hx
             have HG1 := Lib.hid hG1; have HI1 := Lib.hid hI1; clear hG1 hI1)
          | (go_at_call 110; (with_reducible refine (LN.out w1).mono ?_); rintro e w2 ⟨g2, rfl, hb2, hg2, hI2⟩
             have hsz1 : wr.heap.size ≤ w1.heap.size := HG1.out.size
             have q1 : w.heap.size < w1.heap.size := by omega
             have q2 : b < w1.heap.size := by omega
             have e0 : w2.cell? ⟨w.heap.size, 0, none⟩ = some (.slice (some ⟨b, o, none⟩) xs.length c) := (hb2.cell (p := ⟨w.heap.size, 0, none⟩) q1).trans d0
             have e1 : w2.cell? ⟨b, o + (k - 1), none⟩ = some (.int .u32 (nth xs (k - 1) : Int)) := (hb2.cell (p := ⟨b, o + (k - 1), none⟩) q2).trans d1
             have hI1' := HI1.out.under hb2
             have p0 := hb2.size
             have p2 : w.heap.size ≤ w2.heap.size := by omega
             have p3 : w.heap.size ≤ w1.heap.size := by omega
             have LO := Lib.hid (HOR.out w2 g2 hI1' (hI2.mono p3) p2)
             have HB2 := Lib.hid hb2; clear hb2 hg2 hI2 hI1')
          | (go_at_call 126; (with_reducible refine LO.out.mono ?_); rintro e w3 ⟨rfl, hG3, hI3, _⟩
             have r0 : w.heap.size < w2.heap.size := by have := HB2.out.size; omega
             have r1 : b < w2.heap.size := by omega
             have f0 : w3.cell? ⟨w.heap.size, 0, none⟩ = some (.slice (some ⟨b, o, none⟩) xs.length c) := (World.cell?_of_block (hG3.block _ r0 (by simp))).trans e0
             have f1 : w3.cell? ⟨b, o + (k - 1), none⟩ = some (.int .u32 (nth xs (k - 1) : Int)) := (World.cell?_of_block (hG3.block _ r1 (by simp; omega))).trans e1
             have HG3 := Lib.hid hG3; have HI3 := Lib.hid hI3; clear hG3 hI3 LO)))
      go_wp2
      go_roundw
      case rel =>
        have z1 : wr.heap.size ≤ w1.heap.size := HG1.out.size
        have z2 := HB2.out.size
        have z3 := HG3.out.size
        refine ⟨k - 1, by omega, by go_num, ⟨?_, ?_, by omega⟩, HI3.out⟩
        · rw [HG3.out.block _ r0 (by simp), HB2.out.block _ (by omega), HG1.out.block _ (by show w.heap.size < wr.heap.size; omega) (by simp)]
          exact HO.out.b1
        · have hb1 : Below w.heap.size wr w1 := ⟨HG1.out.os, HG1.out.tape, HG1.out.output, z1, fun j hj => HG1.out.block j (by show j < wr.heap.size; omega) (by simp; omega)⟩
          have hb3 : Below w.heap.size w2 w3 := ⟨HG3.out.os, HG3.out.tape, HG3.out.output, z3, fun j hj => HG3.out.block j (by omega) (by simp; omega)⟩
          exact ((HO.out.below.trans hb1).trans (HB2.out.mono (by omega))).trans hb3
      case measure => simp [intOf]; omega
    · obtain rfl : k = 0 := by omega
      rw [List.drop_zero] at hI
      have HI := Lib.hid hI
      have HB := Lib.hid hO.below
      clear hI hO
      go_wp2
      go_ret
      exact ⟨_, rfl, HB.out, by omega, HI.out⟩

end Go.Proofs.YtihdnfhclocndaaGreatDoor
