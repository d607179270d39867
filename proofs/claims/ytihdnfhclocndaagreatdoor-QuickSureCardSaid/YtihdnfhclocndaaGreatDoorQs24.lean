/- numeral/turn: narrow, Form, native, wholes, Near (float64 of a uint64). numeral/dec: far, digits. numeral/dec: Check. numeral/quick: number, asked. -/
import Derived.Test.YtihdnfhclocndaaGreatDoorQs23
import Derived.Lib.AtoiErrMem
namespace Go.Proofs.YtihdnfhclocndaaGreatDoor
open Go.RowKit W

set_option maxRecDepth 100000 in
theorem narrow64_any (w : World) : Calls Tryz.prog 211 #[] w fun e w' => e = .returned (.bool false) ∧ w = w' := by
  have h : (FloatKind.f64.format.order (floatOfInt FloatKind.f64 16777217) (floatOfInt FloatKind.f64 16777216) == some Ordering.eq) = false := by kernel_rfl
  go_enter Tryz.func211, Tryz.ntmps211
  go_wp2
  go_ret
  exact ⟨rfl, rfl⟩

set_option maxRecDepth 100000 in
theorem double_any (w : World) : Calls Tryz.prog 213 #[] w fun e w' => e = .returned (.agg #[.int .i64 11, .int .i64 52]) ∧ Below w.heap.size w w' := by
  go_enter Tryz.func213, Tryz.ntmps213
  go_wp2
  go_returns
  exact ⟨rfl, (Below.refl _ _).alloc (Nat.le_refl _) _⟩

set_option maxRecDepth 100000 in
theorem form64_any (b : Nat) (w : World) : Calls Tryz.prog 149 #[.float .f64 b] w fun e w' => e = .returned (.agg #[.int .i64 11, .int .i64 52]) ∧ Below w.heap.size w w' := by
  have HO := Lib.hid (one_new w #[.int .i64 0, .int .i64 0] 52)
  have TN := Lib.hid (narrow64_any (w.alloc (.cells #[.int .i64 0, .int .i64 0] 52)))
  have TD := Lib.hid (double_any (w.alloc (.cells #[.int .i64 0, .int .i64 0] 52)))
  go_enter Tryz.func149, Tryz.ntmps149
  go_wp2_with fail
  with_reducible refine TN.out.mono ?_
  rintro e w1 ⟨rfl, rfl⟩
  go_wp2_with fail
  with_reducible refine TD.out.mono ?_
  rintro e w1 ⟨rfl, hb⟩
  have HO1 := Lib.hid (HO.out.under hb)
  have c0 : w1.cell? ⟨w.heap.size, 0, none⟩ = some (.int .i64 0) := HO1.out.c 0
  have c1 : w1.cell? ⟨w.heap.size, 1, none⟩ = some (.int .i64 0) := HO1.out.c 1
  have f0 := HO1.out.f 0
  have f1 := HO1.out.f 1
  clear hb TD TN HO
  go_wp2
  obtain ⟨q0, q1⟩ := set2 (.int .i64 11) (.int .i64 52) c0 c1
  refine bodyPost_ret (v := .agg #[.int .i64 11, .int .i64 52]) (by simp [results, Tryz.results149, go_sem, q0, q1]) rfl ?_
  exact ⟨rfl, (HO1.out.below.setCell (Nat.le_refl _) _).setCell (Nat.le_refl _) _⟩

theorem frombits64 (b : Nat) (w : World) : (callFunc 215 #[.int .u64 (b : Int)]).run Tryz.prog w = .ok (.value (.float .f64 b)) w := by kernel_rfl
theorem bits64 (b : Nat) (w : World) : (callFunc 20 #[.float .f64 b]).run Tryz.prog w = .ok (.value (.int .u64 (b : Int))) w := by kernel_rfl
theorem bits32 (b : Nat) (w : World) : (callFunc 21 #[.float .f32 b]).run Tryz.prog w = .ok (.value (.int .u32 (b : Int))) w := by kernel_rfl

set_option maxRecDepth 100000 in
theorem native64_any (b : Nat) (w : World) : Calls Tryz.prog 150 #[.int .u64 (b : Int)] w fun e w' => e = .returned (.float .f64 b) ∧ w = w' := by
  have TN := Lib.hid (narrow64_any w)
  have hfb := frombits64 b
  go_enter Tryz.func150, Tryz.ntmps150
  go_wp2_with fail
  with_reducible refine TN.out.mono ?_
  rintro e w1 ⟨rfl, rfl⟩
  go_wp2
  go_ret
  exact ⟨rfl, rfl⟩

/-- A whole number without the twos in it. -/
def oddN (n : Nat) : Nat := n / 2 ^ tz n

theorem oddN_spec {n : Nat} (h : n ≠ 0) : oddN n % 2 = 1 ∧ n = 2 ^ tz n * oddN n := by
  obtain ⟨m, hm⟩ := tz_spec h
  have hp : 0 < 2 ^ tz n := Nat.pow_pos (by omega)
  have e : oddN n = 2 * m + 1 := by
    unfold oddN
    exact Nat.div_eq_of_eq_mul_right hp hm
  rw [e]
  exact ⟨by omega, hm⟩

theorem nth0_mod2 {n : Nat} (h : n ≠ 0) : nth (ofN n) 0 % 2 = n % 2 := by
  rw [ofN_pos h]
  show (n % 4294967296) % 2 = n % 2
  omega

theorem tz_lt64 {n : Nat} (h0 : n ≠ 0) (hn : n < 18446744073709551616) : tz n < 64 := by
  obtain ⟨m, hm⟩ := tz_spec h0
  rcases Nat.lt_or_ge (tz n) 64 with h1 | h1
  · exact h1
  · have h2 := Nat.pow_le_pow_right (n := 2) (by omega) h1
    have h3 : 2 ^ tz n * 1 ≤ 2 ^ tz n * (2 * m + 1) := Nat.mul_le_mul_left _ (by omega)
    omega

theorem dyCheck_odd {neg : Bool} {m : Nat} {ex : Int} (hm : m % 2 = 1) (hl : (ofN m).length ≤ 16384) (h1 : -1073741824 ≤ ex) (h2 : ex ≤ 1073741824) : dyCheck neg (ofN m) ex = 0 := by
  have h0 : m ≠ 0 := by omega
  have hn : (ofN m).length ≠ 0 := fun h => h0 (ofN_eq_nil.1 (List.eq_nil_of_length_eq_zero h))
  unfold dyCheck
  rw [if_pos (natCheck_norm (norm_ofN m) hl), if_neg hn, if_neg]
  rw [nth0_mod2 h0]
  omega

set_option maxRecDepth 100000 in
set_option maxHeartbeats 1000000 in
theorem wholes_pos (ex fr : Nat) (neg : Bool) (n mode : Nat) (w : World) (hG : Glob w) (x1 : 2 ≤ ex) (x2 : ex ≤ 11) (x3 : 1 ≤ fr) (x4 : fr ≤ 52) (hm : mode ≤ 4) (h0 : n ≠ 0) (hn : n < 18446744073709551616) :
    Calls Tryz.prog 148 #[.agg #[.int .i64 (ex : Int), .int .i64 (fr : Int)], .bool neg, .int .u64 (n : Int), .int .u8 (mode : Int)] w fun e w' =>
      e = .returned (.tuple #[.int .u64 (signedQ ex fr (dyN (oddN n) (tz n)) (dyD (oddN n) (tz n)) neg false mode : Int), .int .u8 (signedFlags ex fr (dyN (oddN n) (tz n)) (dyD (oddN n) (tz n)) neg mode : Int), .int .i64 0]) ∧ Below w.heap.size w w' := by
  have HO := Lib.hid (one_new w #[.int .i64 (ex : Int), .int .i64 (fr : Int)] 52)
  have HG := Lib.hid (hG.under HO.out.below)
  have ho := oddN_spec h0
  have hl : (ofN (oddN n)).length ≤ 2 := length_ofN_le (Nat.lt_of_le_of_lt (Nat.div_le_self _ _) (by omega))
  have htz := tz_lt64 h0 hn
  have HC := Lib.hid (dyCheck_odd (neg := neg) (ex := (tz n : Int)) ho.1 (by omega) (by omega) (by omega))
  have TO := Lib.hid (natOf_any n (w.alloc (.cells #[.int .i64 (ex : Int), .int .i64 (fr : Int)] 52)) hn)
  clear hG ho
  go_enter Tryz.func148, Tryz.ntmps148
  go_wp2_with fail
  generalize w.alloc (.cells #[.int .i64 (ex : Int), .int .i64 (fr : Int)] 52) = W0 at *
  with_reducible refine TO.out.mono ?_
  rintro e w1 ⟨A1, rfl, hb1, hr1⟩
  have TM := Lib.hid (exactMake_pos neg A1 n w1 (HG.out.under hb1) hr1 h0 hn)
  have HO1 := Lib.hid (HO.out.under hb1)
  clear hb1 hr1 TO HG
  unfold natV at *
  go_wp2_with fail
  with_reducible refine TM.out.mono ?_
  rintro e w2 ⟨A2, rfl, hb2, hr2⟩
  have HO2 := Lib.hid (HO1.out.under hb2)
  have HR2 := Lib.hid (show Rd w2 A2 (ofN (oddN n)) from hr2)
  have HA := Lib.hid (show n / 2 ^ tz n = oddN n from rfl)
  rw [HA.out]
  clear hb2 hr2 TM HO1
  have HP := Lib.hid (one_new w2 #[.bool neg, .slice A2 (ofN (oddN n)).length (ofN (oddN n)).length, .int .i64 (tz n : Int)] 55)
  have HO3 := Lib.hid (HO2.out.under HP.out.below)
  have HR3 := Lib.hid (HR2.out.below HP.out.below)
  have c0 : (w2.alloc (.cells #[.bool neg, .slice A2 (ofN (oddN n)).length (ofN (oddN n)).length, .int .i64 (tz n : Int)] 55)).cell? ⟨w.heap.size, 0, none⟩ = some (.int .i64 (ex : Int)) := HO3.out.c 0
  have c1 : (w2.alloc (.cells #[.bool neg, .slice A2 (ofN (oddN n)).length (ofN (oddN n)).length, .int .i64 (tz n : Int)] 55)).cell? ⟨w.heap.size, 1, none⟩ = some (.int .i64 (fr : Int)) := HO3.out.c 1
  have TD := Lib.hid (dyadic_any ex fr neg A2 (oddN n) (ofN (oddN n)).length (tz n : Int) false mode _ HR3.out x1 x2 x3 x4 hm (by omega) HC.out (by omega) (by omega))
  go_wp2_with fail
  generalize w2.alloc (.cells #[.bool neg, .slice A2 (ofN (oddN n)).length (ofN (oddN n)).length, .int .i64 (tz n : Int)] 55) = W3 at *
  with_reducible refine TD.out.mono ?_
  rintro e w4 ⟨rfl, hb4⟩
  have HB := Lib.hid (HO3.out.under hb4).below
  clear hb4 TD
  go_wp2
  go_ret3
  exact ⟨rfl, HB.out⟩

/-- The float64 that is nearest to a whole number. -/
def near64 (n : Nat) : Nat := signedQ 11 52 (dyN (oddN n) (tz n)) (dyD (oddN n) (tz n)) false false 0

set_option maxRecDepth 100000 in
set_option maxHeartbeats 1000000 in
theorem near64_pos (n : Nat) (w : World) (hG : Glob w) (h0 : n ≠ 0) (hn : n < 18446744073709551616) :
    Calls Tryz.prog 78 #[.int .u64 (n : Int)] w fun e w' => e = .returned (.float .f64 (near64 n)) ∧ Below w.heap.size w w' := by
  have TF := Lib.hid (form64_any 0 w)
  have HG := Lib.hid hG
  have hnn : ¬ (n : Int) < 0 := by omega
  clear hG
  go_enter Tryz.func78, Tryz.ntmps78
  go_wp2_with fail
  with_reducible refine TF.out.mono ?_
  rintro e w1 ⟨rfl, hb1⟩
  have TW := Lib.hid (wholes_pos 11 52 false n 0 w1 (HG.out.under hb1) (by omega) (by omega) (by omega) (by omega) (by omega) h0 hn)
  rw [show ((11 : Nat) : Int) = 11 from rfl, show ((52 : Nat) : Int) = 52 from rfl, show ((0 : Nat) : Int) = 0 from rfl] at TW
  have HB1 := Lib.hid hb1
  clear hb1 TF
  go_wp2_with fail
  with_reducible refine TW.out.mono ?_
  rintro e w2 ⟨rfl, hb2⟩
  have HB2 := Lib.hid (HB1.out.trans (hb2.mono HB1.out.size))
  have TNa := Lib.hid (native64_any (near64 n) w2)
  clear hb2 TW
  rw [show signedQ 11 52 (dyN (oddN n) (tz n)) (dyD (oddN n) (tz n)) false false 0 = near64 n from rfl]
  go_wp2_with fail
  with_reducible refine TNa.out.mono ?_
  rintro e w3 ⟨rfl, rfl⟩
  go_wp2
  go_ret
  exact ⟨rfl, HB2.out⟩

end Go.Proofs.YtihdnfhclocndaaGreatDoor
namespace Go.Proofs.YtihdnfhclocndaaGreatDoor
open Go.RowKit W

set_option maxRecDepth 100000 in
theorem decFar_any (n : Int) (w : World) :
    Calls Tryz.prog 52 #[.int .i64 n] w fun e w' => e = .returned (.bool (decide (n < -1073741824) || decide (1073741824 < n))) ∧ w = w' := by
  by_cases h1 : n < -1073741824
  · rw [decide_eq_true h1]
    go_enter Tryz.func52, Tryz.ntmps52
    go_wp2
    go_ret
    exact ⟨rfl, rfl⟩
  · rw [decide_eq_false h1]
    go_enter Tryz.func52, Tryz.ntmps52
    go_wp2
    go_ret
    exact ⟨rfl, rfl⟩

/-- A digit of ten. -/
def isDig (b : UInt8) : Bool := decide (48 ≤ b.toNat) && decide (b.toNat ≤ 57)
def allDig (l : List UInt8) : Bool := l.all isDig

theorem allDig_at {s : ByteArray} (h : allDig s.data.toList = true) (k : Nat) (hk : k < s.size) : isDig s[k] = true := by
  unfold allDig at h
  rw [List.all_eq_true] at h
  exact h _ (by
    show s.data[k] ∈ s.data.toList
    simp)

theorem not_allDig {s : ByteArray} (h : ∀ k (hk : k < s.size), isDig s[k] = true) : allDig s.data.toList = true := by
  unfold allDig
  rw [List.all_eq_true]
  intro x hx
  obtain ⟨i, hi, rfl⟩ := List.mem_iff_getElem.1 hx
  exact h i (by simpa using hi)

theorem dig_wrap (b : UInt8) : (isDig b = true ∧ ((b.toNat : Int) - 48) % 256 ≤ 9) ∨ (isDig b = false ∧ ¬ ((b.toNat : Int) - 48) % 256 ≤ 9) := by
  have hb := b.toNat_lt
  unfold isDig
  by_cases h1 : 48 ≤ b.toNat
  · by_cases h2 : b.toNat ≤ 57
    · exact .inl ⟨by simp [h1, h2], by omega⟩
    · exact .inr ⟨by simp [h2], by omega⟩
  · exact .inr ⟨by simp [h1], by omega⟩

set_option maxRecDepth 100000 in
theorem digits_any (s : ByteArray) (w : World) (hs : s.size ≤ maxLen) :
    Calls Tryz.prog 49 #[.string s] w fun e w' => e = .returned (.bool (allDig s.data.toList)) ∧ w = w' := by
  unfold maxLen at hs
  go_enter Tryz.func49, Tryz.ntmps49
  go_wp2
  go_loop [3, 6] (fun _ i => ∃ k : Nat, k ≤ s.size ∧ i = .int .i64 k ∧ Hid (∀ j (hj : j < s.size), j < k → isDig s[j] = true)) (fun _ i => s.size - (intOf i).toNat)
  case atStart => exact ⟨0, by omega, rfl, fun j _ hj => by omega⟩
  case round =>
    obtain ⟨k, hk, rfl, hI⟩ := hrel
    by_cases hlt : k < s.size
    · rcases dig_wrap s[k] with ⟨hd, hw⟩ | ⟨hd, hw⟩
      · have HD := Lib.hid hd; clear hd
        go_wp2
        go_round
        case rel => exact ⟨k + 1, by omega, by go_num, fun j hj hjk => by
          rcases Nat.lt_or_ge j k with h1 | h1
          · exact hI.out j hj h1
          · obtain rfl : j = k := by omega
            exact HD.out⟩
        case measure => simp [intOf]; omega
      · have HF := Lib.hid (show allDig s.data.toList = false by
          cases h : allDig s.data.toList with
          | false => rfl
          | true => rw [allDig_at h k hlt] at hd; cases hd)
        clear hd
        go_wp2
        go_ret
        exact ⟨by (rw [HF.out]; rfl), rfl⟩
    · have HF := Lib.hid (show allDig s.data.toList = true from not_allDig fun j hj => hI.out j hj (by omega))
      go_wp2
      go_ret
      exact ⟨by (rw [HF.out]; rfl), rfl⟩

end Go.Proofs.YtihdnfhclocndaaGreatDoor
namespace Go.Proofs.YtihdnfhclocndaaGreatDoor
open Go.RowKit W

/-- What Check tells of a decimal. -/
def decCheck (l : List UInt8) (ex : Int) : Int :=
  if 65536 < l.length then 4
  else if l.length = 0 then (if ex = 0 then 0 else 100)
  else if allDig l = false ∨ l[0]? = some 48 ∨ l[l.length - 1]? = some 48 ∨ ex < -1073741824 ∨ 1073741824 < ex then 100 else 0

theorem byte_at {s : ByteArray} {k : Nat} (h : k < s.size) : s.data.toList[k]? = some s[k] := by
  have : k < s.data.toList.length := by simpa using h
  rw [List.getElem?_eq_getElem this]
  rfl

theorem byte_eq {b : UInt8} {n : Nat} (hn : n < 256) : ((b.toNat : Int) == (n : Int)) = decide (b = UInt8.ofNat n) := by
  rw [Bool.eq_iff_iff]
  simp only [beq_iff_eq, decide_eq_true_eq]
  constructor
  · intro h
    have : b.toNat = n := by omega
    rw [← this]; simp
  · rintro rfl
    simp [UInt8.toNat_ofNat, Nat.mod_eq_of_lt hn]

set_option maxRecDepth 100000 in
set_option maxHeartbeats 1000000 in
theorem decCheck_any (neg : Bool) (s : ByteArray) (ex : Int) (w : World) (hs : s.size ≤ maxLen) :
    Calls Tryz.prog 23 #[.agg #[.bool neg, .string s, .int .i64 ex]] w fun e w' => e = .returned (.int .i64 (decCheck s.data.toList ex)) ∧ Below w.heap.size w w' := by
  have TD := Lib.hid (fun w => digits_any s w hs)
  have TF := Lib.hid (fun w => decFar_any ex w)
  have HL := Lib.hid (show s.data.toList.length = s.size by simp)
  unfold maxLen at hs
  by_cases h1 : 65536 < s.size
  · have HE := Lib.hid (show decCheck s.data.toList ex = 4 by unfold decCheck; rw [HL.out, if_pos h1])
    have h1' : (65536 : Int) < (s.size : Int) := by omega
    go_enter Tryz.func23, Tryz.ntmps23
    go_wp2
    go_ret
    exact ⟨by (rw [HE.out]; rfl), (Below.refl _ _).alloc (Nat.le_refl _) _⟩
  · have h1' : ¬ (65536 : Int) < (s.size : Int) := by omega
    by_cases h0 : s.size = 0
    · have h0' : ((s.size : Int) == 0) = true := by simp [h0]
      have HE := Lib.hid (show decCheck s.data.toList ex = if ex = 0 then 0 else 100 by unfold decCheck; rw [HL.out, if_neg h1, if_pos h0])
      clear h0
      by_cases hx : ex = 0
      · have HE2 := Lib.hid (HE.out.trans (if_pos hx))
        subst hx
        clear HE
        go_enter Tryz.func23, Tryz.ntmps23
        go_wp2
        go_ret
        exact ⟨by (rw [HE2.out]; rfl), (Below.refl _ _).alloc (Nat.le_refl _) _⟩
      · have HE2 := Lib.hid (HE.out.trans (if_neg hx))
        have hx' : (ex == 0) = false := by rw [beq_eq_false_iff_ne]; exact hx
        clear HE hx
        go_enter Tryz.func23, Tryz.ntmps23
        go_wp2
        go_ret
        exact ⟨by (rw [HE2.out]; rfl), (Below.refl _ _).alloc (Nat.le_refl _) _⟩
    · have h0' : ((s.size : Int) == 0) = false := by rw [beq_eq_false_iff_ne]; omega
      have hp : 0 < s.size := by omega
      have hq : s.size - 1 < s.size := by omega
      have HE := Lib.hid (show decCheck s.data.toList ex = if allDig s.data.toList = false ∨ s.data.toList[0]? = some 48 ∨ s.data.toList[s.size - 1]? = some 48 ∨ ex < -1073741824 ∨ 1073741824 < ex then 100 else 0 by
        unfold decCheck; rw [HL.out, if_neg h1, if_neg h0])
      rw [byte_at hp, byte_at hq] at HE
      have hb0 := byte_eq (b := s[0]) (n := 48) (by omega)
      have hb1 := byte_eq (b := s[s.size - 1]) (n := 48) (by omega)
      rw [show ((48 : Nat) : Int) = 48 from rfl, show UInt8.ofNat 48 = 48 from rfl] at hb0 hb1
      clear h0 h1
      cases hd : allDig s.data.toList with
      | false =>
        have HE2 := Lib.hid (HE.out.trans (if_pos (.inl hd)))
        rw [hd] at TD
        clear HE hd hb0 hb1
        go_enter Tryz.func23, Tryz.ntmps23
        go_wp2_with fail
        with_reducible refine (TD.out _).mono ?_
        rintro e w' ⟨rfl, rfl⟩
        go_wp2
        go_ret
        exact ⟨by (rw [HE2.out]; rfl), (Below.refl _ _).alloc (Nat.le_refl _) _⟩
      | true =>
        rw [hd] at TD
        by_cases hA : s[0] = 48
        · have HE2 := Lib.hid (HE.out.trans (if_pos (.inr (.inl (congrArg some hA)))))
          rw [decide_eq_true hA] at hb0
          clear HE hd hA hb1
          go_enter Tryz.func23, Tryz.ntmps23
          go_wp2_with fail
          with_reducible refine (TD.out _).mono ?_
          rintro e w' ⟨rfl, rfl⟩
          go_wp2
          go_ret
          exact ⟨by (rw [HE2.out]; rfl), (Below.refl _ _).alloc (Nat.le_refl _) _⟩
        · rw [decide_eq_false hA] at hb0
          by_cases hB : s[s.size - 1] = 48
          · have HE2 := Lib.hid (HE.out.trans (if_pos (.inr (.inr (.inl (congrArg some hB))))))
            rw [decide_eq_true hB] at hb1
            clear HE hd hA hB
            go_enter Tryz.func23, Tryz.ntmps23
            go_wp2_with fail
            with_reducible refine (TD.out _).mono ?_
            rintro e w' ⟨rfl, rfl⟩
            go_wp2
            go_ret
            exact ⟨by (rw [HE2.out]; rfl), (Below.refl _ _).alloc (Nat.le_refl _) _⟩
          · rw [decide_eq_false hB] at hb1
            by_cases hf : ex < -1073741824 ∨ 1073741824 < ex
            · have HE2 := Lib.hid (HE.out.trans (if_pos (.inr (.inr (.inr hf)))))
              rw [show (decide (ex < -1073741824) || decide (1073741824 < ex)) = true by rw [← Bool.decide_or]; exact decide_eq_true hf] at TF
              clear HE hd hA hB hf
              go_enter Tryz.func23, Tryz.ntmps23
              go_wp2_with fail
              with_reducible refine (TD.out _).mono ?_
              rintro e w' ⟨rfl, rfl⟩
              go_wp2_with fail
              with_reducible refine (TF.out _).mono ?_
              rintro e w' ⟨rfl, rfl⟩
              go_wp2
              go_ret
              exact ⟨by (rw [HE2.out]; rfl), (Below.refl _ _).alloc (Nat.le_refl _) _⟩
            · have HE2 := Lib.hid (HE.out.trans (if_neg (by rintro (h | h | h | h); · rw [hd] at h; cases h
                                                            · exact hA (Option.some.inj h)
                                                            · exact hB (Option.some.inj h)
                                                            · exact hf h)))
              rw [show (decide (ex < -1073741824) || decide (1073741824 < ex)) = false by rw [← Bool.decide_or]; exact decide_eq_false hf] at TF
              clear HE hd hA hB hf
              go_enter Tryz.func23, Tryz.ntmps23
              go_wp2_with fail
              with_reducible refine (TD.out _).mono ?_
              rintro e w' ⟨rfl, rfl⟩
              go_wp2_with fail
              with_reducible refine (TF.out _).mono ?_
              rintro e w' ⟨rfl, rfl⟩
              go_wp2
              go_ret
              exact ⟨by (rw [HE2.out]; rfl), (Below.refl _ _).alloc (Nat.le_refl _) _⟩

end Go.Proofs.YtihdnfhclocndaaGreatDoor
namespace Go.Proofs.YtihdnfhclocndaaGreatDoor
open Go.RowKit W

/-- Digits as a whole number of 64 bits. -/
def quickNum (l : List UInt8) : Nat × Bool :=
  match Lib.parseUintB 64 l with
  | .ok u => (u, true)
  | .range => (18446744073709551615, false)
  | _ => (0, false)

set_option maxRecDepth 100000 in
theorem number_any (s : ByteArray) (w : World) (hG : Glob w) (hs : s.size ≤ 281474976710656) :
    Calls Tryz.prog 77 #[.string s] w fun e w' => e = .returned (.tuple #[.int .u64 ((quickNum s.data.toList).1 : Int), .bool (quickNum s.data.toList).2]) ∧ Below w.heap.size w w' := by
  cases hp : Lib.parseUintB 64 s.data.toList with
  | ok u =>
    have T := Lib.hid (Tryz.strconv_ParseUint_10_at64_ok s (by omega) u hp w)
    have HQ := Lib.hid (show quickNum s.data.toList = (u, true) by unfold quickNum; rw [hp])
    clear hp hG
    go_enter Tryz.func77, Tryz.ntmps77
    go_wp2_with fail
    with_reducible refine T.out.mono ?_
    rintro e w1 ⟨rfl, hw⟩
    have HB := Lib.hid (show Below w.heap.size w w1 by
      rcases hw with rfl | rfl
      · exact Below.refl _ _
      · exact Lib.bytesWorld_below _ _ _)
    clear hw T
    go_wp2
    go_quiet (fail)
    go_wp2
    go_ret2
    exact ⟨by (rw [HQ.out]; rfl), below_drewN' HB.out⟩
  | range =>
    obtain ⟨ev, hv, hev⟩ := hG.rng
    have T := Lib.hid (Tryz.strconv_ParseUint_10_at64_range s hs hp ev w hv hev)
    have HQ := Lib.hid (show quickNum s.data.toList = (18446744073709551615, false) by unfold quickNum; rw [hp])
    clear hp hG hv hev
    go_enter Tryz.func77, Tryz.ntmps77
    go_wp2_with fail
    with_reducible refine T.out.mono ?_
    rintro e w1 ⟨N, rfl, hN, hc, hb⟩
    have HB := Lib.hid hb
    clear hN hc hb T
    go_wp2
    go_quiet (fail)
    go_wp2
    go_ret2
    exact ⟨by (rw [HQ.out]; rfl), below_drewN' HB.out⟩
  | _ =>
    obtain ⟨ev, hv, hev⟩ := hG.syn
    have T := Lib.hid (Tryz.strconv_ParseUint_10_at64_syntax s hs hp ev w hv hev)
    have HQ := Lib.hid (show quickNum s.data.toList = (0, false) by unfold quickNum; rw [hp])
    clear hp hG hv hev
    go_enter Tryz.func77, Tryz.ntmps77
    go_wp2_with fail
    with_reducible refine T.out.mono ?_
    rintro e w1 ⟨N, rfl, hN, hc, hb⟩
    have HB := Lib.hid hb
    clear hN hc hb T
    go_wp2
    go_quiet (fail)
    go_wp2
    go_ret2
    exact ⟨by (rw [HQ.out]; rfl), below_drewN' HB.out⟩

end Go.Proofs.YtihdnfhclocndaaGreatDoor
