/- numeral/round: to. -/
import Derived.Test.YtihdnfhclocndaaGreatDoorQs20
namespace Go.Proofs.YtihdnfhclocndaaGreatDoor
open Go.RowKit W

theorem logQ_bd {n d : Nat} (l1 : nbits n ≤ 16777216) (l2 : nbits d ≤ 16777216) : -16777217 ≤ logQ n d ∧ logQ n d ≤ 16777216 := by
  unfold logQ; split <;> omega

theorem two_pow_le {a b : Nat} (h : a ≤ b) : (2 : Int) ^ a ≤ 2 ^ b := by
  have h1 := Nat.pow_le_pow_right (n := 2) (by omega) h
  have e1 : (2 : Int) ^ a = ((2 ^ a : Nat) : Int) := by simp
  have e2 : (2 : Int) ^ b = ((2 ^ b : Nat) : Int) := by simp
  omega

theorem biasQ_bd {ex : Nat} (x1 : 2 ≤ ex) (x2 : ex ≤ 11) : 1 ≤ biasQ ex ∧ biasQ ex ≤ 1023 := by
  unfold biasQ
  have h1 := two_pow_le (show 1 ≤ ex - 1 by omega)
  have h2 := two_pow_le (show ex - 1 ≤ 10 by omega)
  omega

theorem wrap_bias {ex : Nat} (x1 : 2 ≤ ex) (x2 : ex ≤ 11) : wrap64 (wrap64 ((2 : Int) ^ (ex - 1)) - 1) = biasQ ex := by
  have h1 := two_pow_le (show 1 ≤ ex - 1 by omega)
  have h2 := two_pow_le (show ex - 1 ≤ 10 by omega)
  unfold biasQ
  rw [show wrap64 ((2 : Int) ^ (ex - 1)) = 2 ^ (ex - 1) by simp only [wrap64]; omega]
  simp only [wrap64]; omega

theorem below_drewN' {B : Nat} {w w' : World} {n : Nat} (h : Below B w w') : Below B w (w'.drewN n) := ⟨h.os, h.tape, h.output, h.size, h.block⟩

theorem roundQ_bits {n d : Nat} {neg : Bool} {mode k : Nat} (h : nbits n ≤ k) : nbits (roundQ n d neg mode) ≤ k + 1 := by
  have h1 := nbits_lt (n := n)
  have h2 : 2 ^ nbits n ≤ 2 ^ k := Nat.pow_le_pow_right (by omega) h
  have h3 : n / d ≤ n := Nat.div_le_self _ _
  refine nbits_le ?_
  rw [Nat.pow_succ]
  unfold roundQ
  split <;> (try split) <;> omega

theorem wrap_raw (m fr : Nat) (e : Int) (h : 0 ≤ e) : IntKind.u64.wrap (u64v m + IntKind.u64.wrap (e * 2 ^ fr)) = (((m % 18446744073709551616 + e.toNat * 2 ^ fr % 18446744073709551616) % 18446744073709551616 : Nat) : Int) := by
  obtain ⟨k, rfl⟩ : ∃ k : Nat, e = (k : Int) := ⟨e.toNat, by omega⟩
  rw [Int.toNat_natCast, shl_nat]
  generalize k * 2 ^ fr = p
  unfold u64v
  simp only [IntKind.wrap_u64]
  omega

theorem infQ_bd {ex fr : Nat} (x1 : 2 ≤ ex) (x2 : ex ≤ 11) (x3 : 1 ≤ fr) (x4 : fr ≤ 52) : 1 ≤ infQ ex fr ∧ infQ ex fr < 18446744073709551616 := by
  unfold infQ
  have h1 := Nat.pow_le_pow_right (n := 2) (by omega) (show ex + fr ≤ 63 by omega)
  have h2 : 2 ^ (ex + fr) = 2 ^ ex * 2 ^ fr := Nat.pow_add ..
  have h3 := Nat.pow_le_pow_right (n := 2) (by omega) x1
  have h4 : 0 < 2 ^ fr := Nat.pow_pos (by omega)
  have h5 : 2 ^ 2 * 2 ^ fr ≤ 2 ^ ex * 2 ^ fr := Nat.mul_le_mul_right _ h3
  omega

theorem wrap_inf {ex fr : Nat} (x1 : 2 ≤ ex) (x2 : ex ≤ 11) (x3 : 1 ≤ fr) (x4 : fr ≤ 52) : IntKind.u64.wrap (IntKind.u64.wrap (2 ^ (ex + fr)) - IntKind.u64.wrap (2 ^ fr)) = (infQ ex fr : Int) := by
  obtain ⟨b1, b2⟩ := infQ_bd x1 x2 x3 x4
  have h1 := Nat.pow_le_pow_right (n := 2) (by omega) (show ex + fr ≤ 63 by omega)
  have h2 := Nat.pow_le_pow_right (n := 2) (by omega) (show fr ≤ 63 by omega)
  have e1 : (2 : Int) ^ (ex + fr) = ((2 ^ (ex + fr) : Nat) : Int) := by simp
  have e2 : (2 : Int) ^ fr = ((2 ^ fr : Nat) : Int) := by simp
  rw [e1, e2]
  unfold infQ at *
  simp only [IntKind.wrap_u64]
  omega

theorem over_stay {neg : Bool} {mode inf : Nat} (h : stayQ neg mode = true) (h1 : 1 ≤ inf) : ((if stayQ neg mode then inf - 1 else inf : Nat) : Int) = (inf : Int) - 1 := by
  rw [if_pos h]; omega

theorem timesD_pos {d : Nat} (h : 0 < d) (e : Int) : 0 < timesD d e := Nat.mul_pos h (Nat.pow_pos (by omega))

/-- The flags ahead of what lies beyond. -/
def flags0 (ex fr n d : Nat) (neg : Bool) (mode : Nat) : Nat :=
  if sameQ ex fr n d then 0 else if logQ n d < 1 - biasQ ex ∧ tinyQ ex fr n d neg mode = true then 5 else 1

theorem flagsQ_of {ex fr n d : Nat} {neg : Bool} {mode F0 : Nat} (h : flags0 ex fr n d neg mode = F0) : flagsQ ex fr n d neg mode = if overQ ex fr n d neg mode then 3 else F0 := by
  rw [← h]; rfl

set_option maxRecDepth 100000 in
set_option maxHeartbeats 4000000 in
theorem to_any (gn gd n d ex fr : Nat) (neg : Bool) (mode : Nat) (w : World) (hn : IntAt 0 w gn 0 (n : Int)) (hd : IntAt 0 w gd 0 (d : Int)) (hn0 : 0 < n) (h0 : 0 < d) (x1 : 2 ≤ ex) (x2 : ex ≤ 11) (x3 : 1 ≤ fr) (x4 : fr ≤ 52) (hm : mode ≤ 4)
    (l1 : nbits n ≤ 16777216) (l2 : nbits d ≤ 16777216) :
    Calls Tryz.prog 177 #[.agg #[.pointer (some ⟨gn, 0, none⟩), .pointer (some ⟨gd, 0, none⟩)], .agg #[.int .i64 (ex : Int), .int .i64 (fr : Int)], .bool neg, .int .u8 (mode : Int)] w fun e w' =>
      e = .returned (.tuple #[.int .u64 (bitsQ ex fr n d neg mode : Int), .int .u8 (flagsQ ex fr n d neg mode : Int)]) ∧ Below w.heap.size w w' := by
  have HT := Lib.hid (two_new w #[.pointer (some ⟨gn, 0, none⟩), .pointer (some ⟨gd, 0, none⟩)] #[.int .i64 (ex : Int), .int .i64 (fr : Int)] 169 52)
  have HN := Lib.hid (hn.under HT.out.below)
  have HD := Lib.hid (hd.under HT.out.below)
  obtain ⟨bias, hbias⟩ : ∃ b, b = biasQ ex := ⟨_, rfl⟩
  have hw := wrap_bias x1 x2
  obtain ⟨y1, y2⟩ := biasQ_bd x1 x2
  rw [← hbias] at hw y1 y2
  obtain ⟨E, hE⟩ : ∃ E, E = logQ n d := ⟨_, rfl⟩
  obtain ⟨z1, z2⟩ := logQ_bd l1 l2
  rw [← hE] at z1 z2
  obtain ⟨low, hl⟩ : ∃ low, max E (1 - bias) = low := ⟨_, rfl⟩
  have HE := Lib.hid hE.symm
  have HBI := Lib.hid hbias.symm
  have HL := Lib.hid (show lowQ ex n d = low by unfold lowQ; rw [← hE, ← hbias]; exact hl)
  have z3 : 1 - bias ≤ low := by omega
  have z4 : low ≤ 16777216 := by omega
  clear hn hd hE hbias
  go_enter Tryz.func177, Tryz.ntmps177
  go_wp2_with fail
  generalize (w.alloc (.cells #[.pointer (some ⟨gn, 0, none⟩), .pointer (some ⟨gd, 0, none⟩)] 169)).alloc (.cells #[.int .i64 (ex : Int), .int .i64 (fr : Int)] 52) = W0 at *
  have TL := Lib.hid (log_any gn gd n d W0 HN.out HD.out (by omega) (by omega))
  rw [HE.out] at TL
  with_reducible refine TL.out.mono ?_
  rintro e w1 ⟨rfl, hb1⟩
  have HT1 := Lib.hid (HT.out.under hb1)
  have HN1 := Lib.hid (HN.out.under hb1)
  have HD1 := Lib.hid (HD.out.under hb1)
  have c0 : w1.cell? ⟨w.heap.size, 0, none⟩ = some (.pointer (some ⟨gn, 0, none⟩)) := HT1.out.c1 0
  have c1 : w1.cell? ⟨w.heap.size, 1, none⟩ = some (.pointer (some ⟨gd, 0, none⟩)) := HT1.out.c1 1
  have d0 : w1.cell? ⟨w.heap.size + 1, 0, none⟩ = some (.int .i64 (ex : Int)) := HT1.out.c2 0
  have d1 : w1.cell? ⟨w.heap.size + 1, 1, none⟩ = some (.int .i64 (fr : Int)) := HT1.out.c2 1
  clear hb1 TL HT HN HD
  have q1 := (times_len (n := n) (e := (fr : Int) - low) (by omega) (by omega) (by omega)).1
  have q2 := (times_len (n := d) (e := (fr : Int) - low) (by omega) (by omega) (by omega)).2
  have q3 := timesD_pos h0 ((fr : Int) - low)
  have TT := Lib.hid (times_any gn gd n d ((fr : Int) - low) w1 HN1.out HD1.out (by omega) (by omega) (by have := len_nbits n; omega) (by have := len_nbits d; omega))
  have HM := Lib.hid (show mantQ ex fr n d neg mode = roundQ (timesN n ((fr : Int) - low)) (timesD d ((fr : Int) - low)) neg mode by unfold mantQ; rw [HL.out])
  have HSM := Lib.hid (show sameQ ex fr n d = decide (timesN n ((fr : Int) - low) % timesD d ((fr : Int) - low) = 0) by unfold sameQ; rw [HL.out]; rfl)
  generalize timesN n ((fr : Int) - low) = X at *
  generalize timesD d ((fr : Int) - low) = Y at *
  go_wp2_with fail
  with_reducible refine TT.out.mono ?_
  rintro e w2 ⟨g1, g2, rfl, hb2, hi1, hi2⟩
  have TW := Lib.hid (whole_any g1 g2 X Y neg mode w2 hi1 hi2 q3 hm (by omega) (by omega))
  rw [← HM.out, ← HSM.out] at TW
  have HLM := Lib.hid (show nbits (mantQ ex fr n d neg mode) ≤ 17179869184 by rw [HM.out]; have := roundQ_bits (d := Y) (neg := neg) (mode := mode) q1; omega)
  have HT2 := Lib.hid (HT1.out.under hb2)
  have HN2 := Lib.hid (HN1.out.under hb2)
  have HD2 := Lib.hid (HD1.out.under hb2)
  clear hb2 hi1 hi2 TT HT1 HN1 HD1 c0 c1 d0 d1 HM HSM
  go_wp2_with fail
  with_reducible refine TW.out.mono ?_
  rintro e w3 ⟨gm, rfl, hb3, hM⟩
  have HT3 := Lib.hid (HT2.out.under hb3)
  have HN3 := Lib.hid (HN2.out.under hb3)
  have HD3 := Lib.hid (HD2.out.under hb3)
  have HMT := Lib.hid hM
  have c0 : w3.cell? ⟨w.heap.size, 0, none⟩ = some (.pointer (some ⟨gn, 0, none⟩)) := HT3.out.c1 0
  have c1 : w3.cell? ⟨w.heap.size, 1, none⟩ = some (.pointer (some ⟨gd, 0, none⟩)) := HT3.out.c1 1
  have d0 : w3.cell? ⟨w.heap.size + 1, 0, none⟩ = some (.int .i64 (ex : Int)) := HT3.out.c2 0
  have d1 : w3.cell? ⟨w.heap.size + 1, 1, none⟩ = some (.int .i64 (fr : Int)) := HT3.out.c2 1
  clear hb3 hM TW HT2 HN2 HD2
  have HF := Lib.hid (show flags0 ex fr n d neg mode = if sameQ ex fr n d then 0 else if E < 1 - bias ∧ tinyQ ex fr n d neg mode = true then 5 else 1 by unfold flags0; rw [HE.out, HBI.out])
  generalize hsame : sameQ ex fr n d = same at *
  have HSA := Lib.hid hsame
  clear hsame
  generalize hF0 : flags0 ex fr n d neg mode = F0 at *
  have HF0 := Lib.hid hF0
  clear hF0
  go_upto_if 51 with (fail)
  go_cut [17] (fun v wx => v = .int .u8 (F0 : Int) ∧ Below w3.heap.size w3 wx)
  case first =>
    cases same with
    | true =>
      have HF2 := Lib.hid (show F0 = 0 by rw [HF.out]; rfl)
      clear HF
      go_wp2
      go_meet
      exact ⟨by rw [HF2.out]; rfl, Below.refl _ _⟩
    | false =>
      by_cases hlow : E < 1 - bias
      · have HF2 := Lib.hid (show F0 = if tinyQ ex fr n d neg mode = true then 5 else 1 by rw [HF.out]; simp [hlow])
        clear HF
        have p1 := (times_len (n := n) (e := (fr : Int) - E) (by omega) (by omega) (by omega)).1
        have p2 := (times_len (n := d) (e := (fr : Int) - E) (by omega) (by omega) (by omega)).2
        have p3 := timesD_pos h0 ((fr : Int) - E)
        have TT := Lib.hid (times_any gn gd n d ((fr : Int) - E) w3 HN3.out HD3.out (by omega) (by omega) (by have := len_nbits n; omega) (by have := len_nbits d; omega))
        have HTQ := Lib.hid (show tinyQ ex fr n d neg mode = (decide (E < -bias) || decide (nbits (roundQ (timesN n ((fr : Int) - E)) (timesD d ((fr : Int) - E)) neg mode) ≤ fr + 1)) by unfold tinyQ; rw [HE.out, HBI.out])
        generalize timesN n ((fr : Int) - E) = X2 at *
        generalize timesD d ((fr : Int) - E) = Y2 at *
        go_wp2_with fail
        with_reducible refine TT.out.mono ?_
        rintro e w4 ⟨k1, k2, rfl, hb4, hi1, hi2⟩
        have TW := Lib.hid (whole_any k1 k2 X2 Y2 neg mode w4 hi1 hi2 p3 hm (by omega) (by omega))
        have lK : nbits (roundQ X2 Y2 neg mode) ≤ 8589934593 := roundQ_bits p1
        generalize roundQ X2 Y2 neg mode = K at *
        generalize decide (X2 % Y2 = 0) = sm at *
        have HT4 := Lib.hid (HT3.out.under hb4)
        have HB4 := Lib.hid hb4
        clear hb4 hi1 hi2 TT
        go_wp2_with fail
        with_reducible refine TW.out.mono ?_
        rintro e w5 ⟨gk, rfl, hb5, hK⟩
        have HT5 := Lib.hid (HT4.out.under hb5)
        have HB5 := Lib.hid (HB4.out.trans (hb5.mono HB4.out.size))
        have TB := Lib.hid (fun m => intBitLen_any 0 gk 0 (K : Int) (w5.drewN m) (hK.keep fun _ _ => rfl) (by rw [Int.natAbs_natCast]; have := len_nbits K; omega))
        simp only [Int.natAbs_natCast] at TB
        have d0' : w5.cell? ⟨w.heap.size + 1, 0, none⟩ = some (.int .i64 (ex : Int)) := HT5.out.c2 0
        have d1' : w5.cell? ⟨w.heap.size + 1, 1, none⟩ = some (.int .i64 (fr : Int)) := HT5.out.c2 1
        clear hb5 hK TW HT4 HB4 c0 c1 d0 d1
        by_cases ht : E < -bias
        · have hd1 : decide (E < -bias) = true := decide_eq_true ht
          have HF3 := Lib.hid (show F0 = 5 by rw [HF2.out, HTQ.out, hd1]; rfl)
          clear HF2 HTQ
          go_wp2
          go_quiet (fail)
          go_wp2
          go_meet
          exact ⟨by rw [HF3.out]; rfl, below_drewN' HB5.out⟩
        · have hd1 : decide (E < -bias) = false := decide_eq_false ht
          by_cases hk : nbits K ≤ fr + 1
          · have hk1 : (nbits K : Int) ≤ (fr : Int) + 1 := by omega
            have HF3 := Lib.hid (show F0 = 5 by rw [HF2.out, HTQ.out, hd1, decide_eq_true hk]; rfl)
            clear HF2 HTQ hk
            go_wp2
            go_quiet ((go_at_call 108; exact quiet_left (TB.out _)))
            go_wp2
            go_meet
            exact ⟨by rw [HF3.out]; rfl, below_drewN' HB5.out⟩
          · have hk1 : ¬ (nbits K : Int) ≤ (fr : Int) + 1 := by omega
            have HF3 := Lib.hid (show F0 = 1 by rw [HF2.out, HTQ.out, hd1, decide_eq_false hk]; rfl)
            clear HF2 HTQ hk
            go_wp2
            go_quiet ((go_at_call 108; exact quiet_left (TB.out _)))
            go_wp2
            go_meet
            exact ⟨by rw [HF3.out]; rfl, below_drewN' HB5.out⟩
      · have HF2 := Lib.hid (show F0 = 1 by rw [HF.out]; simp [hlow])
        clear HF
        go_wp2
        go_meet
        exact ⟨by rw [HF2.out]; rfl, Below.refl _ _⟩
  case rest =>
    obtain ⟨rfl, hBc⟩ := hcut
    have HTc := Lib.hid (HT3.out.under hBc)
    have HMc := Lib.hid (HMT.out.under hBc)
    have e0 : wc.cell? ⟨w.heap.size + 1, 0, none⟩ = some (.int .i64 (ex : Int)) := HTc.out.c2 0
    have e1 : wc.cell? ⟨w.heap.size + 1, 1, none⟩ = some (.int .i64 (fr : Int)) := HTc.out.c2 1
    have lM : nbits (mantQ ex fr n d neg mode) ≤ 17179869184 := HLM.out
    have hu : IntKind.u64.wrap (low + bias - 1) = low + bias - 1 := by simp only [IntKind.wrap_u64]; omega
    have TU := Lib.hid (fun m => intUint64_any 0 gm 0 (mantQ ex fr n d neg mode : Int) (wc.drewN m) (HMc.out.keep fun _ _ => rfl) (by rw [Int.natAbs_natCast]; have := len_nbits (mantQ ex fr n d neg mode); omega))
    simp only [Int.natAbs_natCast] at TU
    have HRAW := Lib.hid (show rawQ ex fr n d neg mode = (mantQ ex fr n d neg mode % 18446744073709551616 + (low + bias - 1).toNat * 2 ^ fr % 18446744073709551616) % 18446744073709551616 by unfold rawQ; rw [HL.out, HBI.out])
    obtain ⟨raw, hraw0⟩ : ∃ raw, raw = rawQ ex fr n d neg mode := ⟨_, rfl⟩
    have hraw : IntKind.u64.wrap (u64v (mantQ ex fr n d neg mode) + IntKind.u64.wrap ((low + bias - 1) * 2 ^ fr)) = (raw : Int) := by
      rw [hraw0, HRAW.out]; exact wrap_raw _ _ _ (by omega)
    have HR0 := Lib.hid hraw0.symm
    obtain ⟨inf, hinf0⟩ : ∃ inf, inf = infQ ex fr := ⟨_, rfl⟩
    have hinf : IntKind.u64.wrap (IntKind.u64.wrap (2 ^ (ex + fr)) - IntKind.u64.wrap (2 ^ fr)) = (inf : Int) := by
      rw [hinf0]; exact wrap_inf x1 x2 x3 x4
    have hib := infQ_bd x1 x2 x3 x4
    rw [← hinf0] at hib
    obtain ⟨i1, i2⟩ := hib
    have hinf1 : IntKind.u64.wrap ((inf : Int) - 1) = (inf : Int) - 1 := by simp only [IntKind.wrap_u64]; omega
    have HI0 := Lib.hid hinf0.symm
    have HO := Lib.hid (show overQ ex fr n d neg mode = (decide (bias < low) || decide (inf ≤ raw)) by unfold overQ; rw [HL.out, HBI.out, HI0.out, HR0.out])
    have HB := Lib.hid (show bitsQ ex fr n d neg mode = if overQ ex fr n d neg mode then (if stayQ neg mode then inf - 1 else inf) else raw by unfold bitsQ; rw [HI0.out, HR0.out])
    have HFL := Lib.hid (show flagsQ ex fr n d neg mode = if overQ ex fr n d neg mode then 3 else F0 from flagsQ_of HF0.out)
    have HBW := Lib.hid (HTc.out.below)
    clear c0 c1 d0 d1 hBc HF HT3 HN3 HD3 HMT hraw0 hinf0 HRAW HF0 HSA
    generalize mantQ ex fr n d neg mode = M at *
    generalize overQ ex fr n d neg mode = over at *
    by_cases h1 : bias < low
    · have HB1 := Lib.hid (show bitsQ ex fr n d neg mode = if stayQ neg mode then inf - 1 else inf by rw [HB.out, HO.out, decide_eq_true h1]; rfl)
      have HF1 := Lib.hid (show flagsQ ex fr n d neg mode = 3 by rw [HFL.out, HO.out, decide_eq_true h1]; rfl)
      clear HB HO HFL
      have hmode : mode = 0 ∨ mode = 1 ∨ mode = 2 ∨ mode = 3 ∨ mode = 4 := by omega
      have HM0 := Lib.hid hmode
      clear hmode
      rcases HM0.out with rfl | rfl | rfl | rfl | rfl
      case' inr.inr.inr.inl => cases neg
      case' inr.inr.inr.inr => cases neg
      all_goals
        clear HM0
        go_wp2
        go_quiet ((go_at_call 240; exact quiet_left (TU.out _)))
        go_wp2
        go_quiet (fail)
        go_wp2
        go_ret2
        exact ⟨by (rw [HB1.out, HF1.out]; first | rfl | (rw [over_stay rfl i1]; rfl)), below_drewN' HBW.out⟩
    · by_cases h2 : inf ≤ raw
      · have h3 : (inf : Int) ≤ (raw : Int) := by omega
        have HB1 := Lib.hid (show bitsQ ex fr n d neg mode = if stayQ neg mode then inf - 1 else inf by rw [HB.out, HO.out, decide_eq_false h1, decide_eq_true h2]; rfl)
        have HF1 := Lib.hid (show flagsQ ex fr n d neg mode = 3 by rw [HFL.out, HO.out, decide_eq_false h1, decide_eq_true h2]; rfl)
        clear HB HO HFL h2
        have hmode : mode = 0 ∨ mode = 1 ∨ mode = 2 ∨ mode = 3 ∨ mode = 4 := by omega
        have HM0 := Lib.hid hmode
        clear hmode
        rcases HM0.out with rfl | rfl | rfl | rfl | rfl
        case' inr.inr.inr.inl => cases neg
        case' inr.inr.inr.inr => cases neg
        all_goals
          clear HM0
          go_wp2
          go_quiet ((go_at_call 240; exact quiet_left (TU.out _)))
          go_wp2
          go_quiet (fail)
          go_wp2
          go_ret2
          exact ⟨by (rw [HB1.out, HF1.out]; first | rfl | (rw [over_stay rfl i1]; rfl)), below_drewN' HBW.out⟩
      · have h3 : ¬ (inf : Int) ≤ (raw : Int) := by omega
        have HB1 := Lib.hid (show bitsQ ex fr n d neg mode = raw by rw [HB.out, HO.out, decide_eq_false h1, decide_eq_false h2]; rfl)
        have HF1 := Lib.hid (show flagsQ ex fr n d neg mode = F0 by rw [HFL.out, HO.out, decide_eq_false h1, decide_eq_false h2]; rfl)
        clear HB HO HFL h2
        go_wp2
        go_quiet ((go_at_call 240; exact quiet_left (TU.out _)))
        go_wp2
        go_quiet (fail)
        go_wp2
        go_ret2
        exact ⟨by (rw [HB1.out, HF1.out]; rfl), below_drewN' HBW.out⟩

end Go.Proofs.YtihdnfhclocndaaGreatDoor
