/- Plain laws of decimal digits: their worth, trimmed, parsed. numeral/numerallaw14: alive. numeral/numerallaw14: QuickSure, the walk. -/
import Derived.Test.YtihdnfhclocndaaGreatDoorQs26
namespace Go.Proofs.YtihdnfhclocndaaGreatDoor
open Go.RowKit W

/-- What digits are worth behind a number. -/
def decVal (acc : Nat) (l : List UInt8) : Nat := l.foldl (fun a b => a * 10 + (b.toNat - 48)) acc

theorem decVal_nil (acc : Nat) : decVal acc [] = acc := rfl
theorem decVal_cons (acc : Nat) (b : UInt8) (l : List UInt8) : decVal acc (b :: l) = decVal (acc * 10 + (b.toNat - 48)) l := by unfold decVal; rw [List.foldl_cons]
theorem decVal_append (acc : Nat) (l r : List UInt8) : decVal acc (l ++ r) = decVal (decVal acc l) r := by unfold decVal; rw [List.foldl_append]
theorem decVal_ge (acc : Nat) (l : List UInt8) : acc ≤ decVal acc l := by
  induction l generalizing acc with
  | nil => exact Nat.le_refl _
  | cons b l ih => rw [decVal_cons]; exact Nat.le_trans (by omega) (ih _)

theorem allDig_nil : allDig [] = true := rfl
theorem allDig_cons (b : UInt8) (l : List UInt8) : allDig (b :: l) = (isDig b && allDig l) := rfl
theorem allDig_append (l r : List UInt8) : allDig (l ++ r) = (allDig l && allDig r) := by unfold allDig; rw [List.all_append]
theorem isDig_iff (b : UInt8) : isDig b = true ↔ 48 ≤ b.toNat ∧ b.toNat ≤ 57 := by unfold isDig; simp

theorem digit_byte {d : Nat} (h : d < 10) : (UInt8.ofNat (48 + d)).toNat = 48 + d := by
  rw [UInt8.toNat_ofNat']; exact Nat.mod_eq_of_lt (by omega)

theorem allDig_decDigits (u : Nat) : allDig (Lib.decDigits u) = true := by
  induction u using Nat.strongRecOn with
  | _ u ih =>
    by_cases h : u < 10
    · rw [Lib.decDigits, dif_pos h, allDig_cons, allDig_nil, Bool.and_true, isDig_iff, digit_byte h]; omega
    · rw [Lib.decDigits, dif_neg h, allDig_append, ih (u / 10) (by omega), Bool.true_and, allDig_cons, allDig_nil, Bool.and_true, isDig_iff, digit_byte (by omega)]; omega

theorem decVal_decDigits (u : Nat) : decVal 0 (Lib.decDigits u) = u := by
  induction u using Nat.strongRecOn with
  | _ u ih =>
    by_cases h : u < 10
    · rw [Lib.decDigits, dif_pos h, decVal_cons, decVal_nil, digit_byte h]; omega
    · rw [Lib.decDigits, dif_neg h, decVal_append, ih (u / 10) (by omega), decVal_cons, decVal_nil, digit_byte (by omega)]; omega

theorem parse_ok (l : List UInt8) (acc : Nat) (h : allDig l = true) (hv : decVal acc l ≤ 18446744073709551615) : Lib.parseUintM 18446744073709551615 acc l = .ok (decVal acc l) := by
  induction l generalizing acc with
  | nil => rfl
  | cons b l ih =>
    rw [allDig_cons, Bool.and_eq_true, isDig_iff] at h
    rw [decVal_cons] at hv
    have hg := decVal_ge (acc * 10 + (b.toNat - 48)) l
    unfold Lib.parseUintM
    rw [if_pos h.1, if_neg (by omega), if_neg (by omega), ih _ h.2 hv]
    rfl

theorem quickNum_dig {l : List UInt8} (h0 : l ≠ []) (h : allDig l = true) (hv : decVal 0 l ≤ 18446744073709551615) : quickNum l = (decVal 0 l, true) := by
  unfold quickNum Lib.parseUintB
  rw [if_neg h0, show 2 ^ 64 - 1 = 18446744073709551615 from rfl, parse_ok l 0 h hv]

theorem allDig_sub {l r : List UInt8} (h : allDig l = true) (hs : ∀ x ∈ r, x ∈ l) : allDig r = true := by
  unfold allDig at *
  rw [List.all_eq_true] at *
  exact fun x hx => h x (hs x hx)

theorem trimR_split (l : List UInt8) : ∃ t, l = Lib.trimRightB l 48 ++ t := by
  refine ⟨(l.reverse.takeWhile (· == 48)).reverse, ?_⟩
  unfold Lib.trimRightB
  rw [← List.reverse_append, List.takeWhile_append_dropWhile, List.reverse_reverse]

theorem trimL_val (l : List UInt8) : decVal 0 (Lib.trimLeftB l 48) = decVal 0 l := by
  unfold Lib.trimLeftB
  induction l with
  | nil => rfl
  | cons b l ih =>
    rw [List.dropWhile_cons]
    split
    · rename_i h
      have : b = 48 := by simpa using h
      subst this
      rw [ih, decVal_cons]; rfl
    · rfl

theorem bareD_val (l : List UInt8) : decVal 0 (bareD l) ≤ decVal 0 l := by
  unfold bareD
  rw [trimL_val]
  obtain ⟨t, ht⟩ := trimR_split l
  have h := decVal_ge (decVal 0 (Lib.trimRightB l 48)) t
  rw [← decVal_append, ← ht] at h
  exact h

theorem bareD_mem (l : List UInt8) : ∀ x ∈ bareD l, x ∈ l := by
  intro x hx
  have h1 : x ∈ Lib.trimRightB l 48 := (List.dropWhile_sublist _).subset hx
  unfold Lib.trimRightB at h1
  rw [List.mem_reverse] at h1
  exact List.mem_reverse.1 ((List.dropWhile_sublist _).subset h1)

theorem bareD_head (l : List UInt8) : (bareD l)[0]? ≠ some 48 := by
  unfold bareD Lib.trimLeftB
  intro h
  rw [← List.head?_eq_getElem?] at h
  have h2 := List.head?_dropWhile_not (· == 48) (Lib.trimRightB l 48)
  rw [h] at h2
  simp at h2

theorem trimR_last (l : List UInt8) : (Lib.trimRightB l 48).getLast? ≠ some 48 := by
  unfold Lib.trimRightB
  rw [List.getLast?_reverse]
  intro h
  have h2 := List.head?_dropWhile_not (· == 48) l.reverse
  rw [h] at h2
  simp at h2

theorem bareD_last (l : List UInt8) : (bareD l)[(bareD l).length - 1]? ≠ some 48 := by
  rw [← List.getLast?_eq_getElem?]
  intro h
  have hsuf : (bareD l) <:+ Lib.trimRightB l 48 := List.dropWhile_suffix _
  obtain ⟨t, ht⟩ := hsuf
  have : (Lib.trimRightB l 48).getLast? = some 48 := by
    rw [← ht, List.getLast?_append, h]; rfl
  exact trimR_last l this

theorem bareD_len (l : List UInt8) : (bareD l).length ≤ l.length := Nat.le_trans (trimL_len _ _) (trimR_len _ _)

theorem decCheck_bare {l : List UInt8} {ex : Int} (hd : allDig l = true) (hl : l.length ≤ 65536) (h0 : bareD l = [] → ex = 0) (h1 : -1073741824 ≤ ex) (h2 : ex ≤ 1073741824) : decCheck (bareD l) ex = 0 := by
  have hle := bareD_len l
  unfold decCheck
  rw [if_neg (by omega)]
  by_cases hn : bareD l = []
  · rw [hn]; simp [h0 hn]
  · rw [if_neg (fun h => hn (List.eq_nil_of_length_eq_zero h)), if_neg]
    rintro (h | h | h | h)
    · rw [allDig_sub hd (bareD_mem l)] at h; cases h
    · exact bareD_head l h
    · exact bareD_last l h
    · omega

/-- It is quick wherever the chapter says. -/
theorem asked_some {l : List UInt8} {ex : Int} {whole power more : Nat} (hd : allDig l = true) (hl : l.length ≤ 65536) (hv : decVal 0 l ≤ whole) (hw : whole ≤ 9007199254740992) (h0 : bareD l = [] → ex = 0) (h1 : -(power : Int) ≤ ex) (h2 : ex ≤ power) (hp : power ≤ 1000) (hm : power ≤ more) :
    ∃ p, askedQ (bareD l) ex whole power more = some p := by
  have hle := bareD_val l
  unfold askedQ
  rw [if_pos (decCheck_bare hd hl h0 (by omega) (by omega))]
  by_cases hn : bareD l = []
  · rw [if_pos hn]; exact ⟨_, rfl⟩
  · rw [if_neg hn, quickNum_dig hn (allDig_sub hd (bareD_mem l)) (by omega), if_pos ⟨rfl, by omega, h1, by omega⟩, show (ex - (power : Int)).toNat = 0 by omega]
    exact ⟨_, rfl⟩

end Go.Proofs.YtihdnfhclocndaaGreatDoor
namespace Go.Proofs.YtihdnfhclocndaaGreatDoor
open Go.RowKit W

theorem quickQ_some (k : FloatKind) (neg : Bool) (n : Nat) (e : Int) : quickQ k neg (some (n, e)) = (readF k neg n e, true) := rfl
theorem quickQ_none (k : FloatKind) (neg : Bool) : quickQ k neg none = (0, false) := rfl
theorem ask_a : ask64 [49, 50, 51] (-22) = some (123, -22) := by decide +kernel
theorem ask_b : ask64 [49] (-23) = none := by decide +kernel
theorem ask_c : ask32 [49, 53] (-1) = some (15, -1) := by decide +kernel
theorem read_a : readF .f64 false 123 (-22) = 4309112396312900913 := by decide +kernel
theorem read_c : readF .f32 true 15 (-1) = 3217031168 := by decide +kernel
theorem num_d : quickNum [57, 48, 48, 55, 49, 57, 57, 50, 53, 52, 55, 52, 48, 57, 57, 51] = (9007199254740993, true) := by decide +kernel
theorem tz_d : tz 9007199254740993 = 0 := tz_odd 4503599627370496
theorem near_d : near64 9007199254740993 = 4845873199050653696 := by
  unfold near64 oddN
  rw [tz_d]
  decide +kernel

set_option maxRecDepth 100000 in
set_option maxHeartbeats 1000000 in
theorem alive14_any (w : World) (hG : Glob w) : Calls Tryz.prog 15 #[] w fun e w' => e = .returned (.bool true) ∧ Below w.heap.size w w' := by
  have T1 := Lib.hid (fun w hG => double64_any false ⟨#[49, 50, 51]⟩ (-22) w hG (by decide) (by omega) (by omega))
  rw [show (⟨#[49, 50, 51]⟩ : ByteArray).data.toList = [49, 50, 51] from rfl, ask_a, quickQ_some, read_a] at T1
  have T2 := Lib.hid (fun w hG => double64_any false ⟨#[49]⟩ (-23) w hG (by decide) (by omega) (by omega))
  rw [show (⟨#[49]⟩ : ByteArray).data.toList = [49] from rfl, ask_b, quickQ_none] at T2
  have T3 := Lib.hid (fun w hG => single32_any true ⟨#[49, 53]⟩ (-1) w hG (by decide) (by omega) (by omega))
  rw [show (⟨#[49, 53]⟩ : ByteArray).data.toList = [49, 53] from rfl, ask_c, quickQ_some, read_c] at T3
  have T4 := Lib.hid (fun w hG => whole_pos ⟨#[57, 48, 48, 55, 49, 57, 57, 50, 53, 52, 55, 52, 48, 57, 57, 51]⟩ 9007199254740993 w hG (by decide) (by decide) (by decide) num_d (by omega))
  rw [near_d] at T4
  have o1 : (FloatKind.f64.format.order 4309112396312900913 4309112396312900913 == some Ordering.eq) = true := by decide +kernel
  have o2 : (FloatKind.f32.format.order 3217031168 3217031168 == some Ordering.eq) = true := by decide +kernel
  have o3 : (FloatKind.f64.format.order 4845873199050653696 4845873199050653696 == some Ordering.eq) = true := by decide +kernel
  have HG := Lib.hid hG
  clear hG
  go_enter Tryz.func15, Tryz.ntmps15
  go_wp2_with fail
  with_reducible refine (T1.out w HG.out).mono ?_
  rintro e w1 ⟨rfl, hb1⟩
  have HG1 := Lib.hid (HG.out.under hb1)
  have HB1 := Lib.hid hb1
  clear hb1
  go_wp2_with fail
  with_reducible refine (T2.out w1 HG1.out).mono ?_
  rintro e w2 ⟨rfl, hb2⟩
  have HG2 := Lib.hid (HG1.out.under hb2)
  have HB2 := Lib.hid (HB1.out.trans (hb2.mono HB1.out.size))
  clear hb2
  go_wp2_with fail
  with_reducible refine (T3.out w2 HG2.out).mono ?_
  rintro e w3 ⟨rfl, hb3⟩
  have HG3 := Lib.hid (HG2.out.under hb3)
  have HB3 := Lib.hid (HB2.out.trans (hb3.mono HB2.out.size))
  clear hb3
  go_wp2_with fail
  with_reducible refine (T4.out w3 HG3.out).mono ?_
  rintro e w4 ⟨rfl, hb4⟩
  have HB4 := Lib.hid (HB3.out.trans (hb4.mono HB3.out.size))
  clear hb4
  go_wp2
  go_ret
  exact ⟨rfl, HB4.out⟩

end Go.Proofs.YtihdnfhclocndaaGreatDoor
namespace Go.Proofs.YtihdnfhclocndaaGreatDoor
open Go.RowKit W

theorem readB64_lt (n : Nat) (ex : Int) : readB .f64 n ex < 18446744073709551616 := by
  unfold readB
  split
  · cases h : FloatKind.f64.format.div (floatOfInt .f64 (n : Int)) (tenF .f64 ex.natAbs) with
    | none => show 0 < _; omega
    | some r => exact FloatKind.f64.format.div_lt h
  · cases h : FloatKind.f64.format.mul (floatOfInt .f64 (n : Int)) (tenF .f64 ex.natAbs) with
    | none => show 0 < _; omega
    | some r => exact FloatKind.f64.format.mul_lt h
theorem readB32_lt (n : Nat) (ex : Int) : readB .f32 n ex < 4294967296 := by
  unfold readB
  split
  · cases h : FloatKind.f32.format.div (floatOfInt .f32 (n : Int)) (tenF .f32 ex.natAbs) with
    | none => show 0 < _; omega
    | some r => exact FloatKind.f32.format.div_lt h
  · cases h : FloatKind.f32.format.mul (floatOfInt .f32 (n : Int)) (tenF .f32 ex.natAbs) with
    | none => show 0 < _; omega
    | some r => exact FloatKind.f32.format.mul_lt h

theorem neg64_eq (b : Nat) : Op.negFloat .f64 b = b ^^^ 9223372036854775808 := rfl
theorem neg32_eq (b : Nat) : Op.negFloat .f32 b = b ^^^ 2147483648 := rfl

theorem xor_turn (b s : Nat) : b ^^^ (b ^^^ s) = s ∧ (b ^^^ s) ^^^ b = s := by
  refine ⟨by rw [← Nat.xor_assoc, Nat.xor_self, Nat.zero_xor], by rw [Nat.xor_comm, ← Nat.xor_assoc, Nat.xor_self, Nat.zero_xor]⟩

theorem readF64_xor (neg : Bool) (n : Nat) (ex : Int) : bits BinOp.xor IntKind.u64 (readF .f64 neg n ex : Int) (readF .f64 (!neg) n ex : Int) = 9223372036854775808 := by
  have h := readB64_lt n ex
  have h2 : readB .f64 n ex ^^^ 9223372036854775808 < 18446744073709551616 := Nat.xor_lt_two_pow (n := 64) h (by omega)
  obtain ⟨a, b⟩ := xor_turn (readB .f64 n ex) 9223372036854775808
  cases neg with
  | true =>
    show bits BinOp.xor IntKind.u64 ((Op.negFloat .f64 (readB .f64 n ex) : Nat) : Int) (readB .f64 n ex : Int) = _
    rw [neg64_eq, u64_xor_nat _ _ h2 h, b]; rfl
  | false =>
    show bits BinOp.xor IntKind.u64 (readB .f64 n ex : Int) ((Op.negFloat .f64 (readB .f64 n ex) : Nat) : Int) = _
    rw [neg64_eq, u64_xor_nat _ _ h h2, a]; rfl

theorem readF32_xor (neg : Bool) (n : Nat) (ex : Int) : bits BinOp.xor IntKind.u32 (readF .f32 neg n ex : Int) (readF .f32 (!neg) n ex : Int) = 2147483648 := by
  have h := readB32_lt n ex
  have h2 : readB .f32 n ex ^^^ 2147483648 < 4294967296 := Nat.xor_lt_two_pow (n := 32) h (by omega)
  obtain ⟨a, b⟩ := xor_turn (readB .f32 n ex) 2147483648
  cases neg with
  | true =>
    show bits BinOp.xor IntKind.u32 ((Op.negFloat .f32 (readB .f32 n ex) : Nat) : Int) (readB .f32 n ex : Int) = _
    rw [neg32_eq, u32_xor_nat _ _ h2 h, b]; rfl
  | false =>
    show bits BinOp.xor IntKind.u32 (readB .f32 n ex : Int) ((Op.negFloat .f32 (readB .f32 n ex) : Nat) : Int) = _
    rw [neg32_eq, u32_xor_nat _ _ h h2, a]; rfl

/-- A number's digits and their power, as Make has them. -/
def madeX (m : Nat) (a : Int) : Int := if bareD (Lib.decDigits m) = [] then 0 else a + (((Lib.decDigits m).length - (Lib.trimRightB (Lib.decDigits m) 48).length : Nat) : Int)

theorem decDigits_len {m : Nat} (h : m < 18446744073709551616) : (Lib.decDigits m).length ≤ 20 := by
  rw [Lib.decDigits_length]
  rcases Nat.eq_zero_or_pos m with h0 | h0
  · subst h0; rw [Lib.nDigits_small (by omega)]; omega
  · have := Lib.numDigits_eq m h0 h; split at this <;> omega

theorem madeX_bd {m : Nat} {a : Int} {p : Nat} (h : m < 18446744073709551616) (h1 : -(p : Int) ≤ a) (h2 : a ≤ p) : -(p : Int) ≤ madeX m a ∧ madeX m a ≤ p + 20 := by
  have hl := decDigits_len h
  unfold madeX
  split <;> omega

/-- Digits made, as the law makes them. -/
theorem made_any (neg : Bool) (m : Nat) (a : Int) (w : World) (hm : m < 18446744073709551616) (h1 : -22 ≤ a) (h2 : a ≤ 22) :
    Calls Tryz.prog 16 #[.bool neg, .string ⟨(Lib.decDigits m).toArray⟩, .int .i64 a] w fun e w' =>
      e = .returned (.tuple #[.agg #[.bool neg, .string ⟨(bareD (Lib.decDigits m)).toArray⟩, .int .i64 (madeX m a)], .int .i64 0]) ∧ Below w.heap.size w w' := by
  have hl := decDigits_len hm
  have hs : (⟨(Lib.decDigits m).toArray⟩ : ByteArray).size = (Lib.decDigits m).length := by simp [ByteArray.size]
  have ht : (⟨(Lib.decDigits m).toArray⟩ : ByteArray).data.toList = Lib.decDigits m := by simp
  have h := decMake_any neg ⟨(Lib.decDigits m).toArray⟩ a w (by omega) (by rw [ht]; exact allDig_decDigits m) (by omega) (by omega)
  rw [hs, ht] at h
  exact h

end Go.Proofs.YtihdnfhclocndaaGreatDoor
