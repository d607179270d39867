/- numeral/quick: asked. numeral/quick: read; its floats are never NaN. -/
import Derived.Test.YtihdnfhclocndaaGreatDoorQs24
namespace Go.Proofs.YtihdnfhclocndaaGreatDoor
open Go.RowKit W

/-- A number times ten, so often, while it stays below an end. -/
def askLoop (whole : Nat) : Nat → Nat → Option Nat
  | 0, n => some n
  | k + 1, n => if whole < n * 10 then none else askLoop whole k (n * 10)

/-- A decimal that may be asked: its number, and the power that is still ahead. -/
def askedQ (l : List UInt8) (ex : Int) (whole power more : Nat) : Option (Nat × Int) :=
  if decCheck l ex = 0 then
    if l = [] then some (0, 0)
    else if (quickNum l).2 = true ∧ (quickNum l).1 ≤ whole ∧ -(power : Int) ≤ ex ∧ ex ≤ more then
      (askLoop whole (ex - power).toNat (quickNum l).1).map fun n => (n, ex - ((ex - power).toNat : Nat))
    else none
  else none

def askedV : Option (Nat × Int) → Value
  | none => .tuple #[.int .u64 0, .int .i64 0, .bool false]
  | some (n, e) => .tuple #[.int .u64 (n : Int), .int .i64 e, .bool true]

theorem nil_size {s : ByteArray} : s.data.toList = [] ↔ s.size = 0 := by
  constructor
  · intro h
    have h1 : s.data.toList.length = 0 := by rw [h]; rfl
    simpa using h1
  · intro h
    apply List.eq_nil_of_length_eq_zero
    simpa using h

theorem empB (s : ByteArray) : s.toList.isEmpty = decide (s.size = 0) := by
  rw [ByteArray.toList_eq, Bool.eq_iff_iff, List.isEmpty_iff, nil_size, decide_eq_true_iff]

theorem quickNum_lt (l : List UInt8) : (quickNum l).1 < 18446744073709551616 := by
  have key : ∀ (l : List UInt8) (acc u : Nat), Lib.parseUintM 18446744073709551615 acc l = .ok u → acc ≤ 18446744073709551615 → u ≤ 18446744073709551615 := by
    intro l
    induction l with
    | nil => intro acc u h ha; cases h; exact ha
    | cons c r ih =>
      intro acc u h ha
      unfold Lib.parseUintM at h
      split at h
      · split at h
        · cases h
        · split at h
          · cases h
          · exact ih _ _ h (by omega)
      · cases h
  unfold quickNum
  cases hp : Lib.parseUintB 64 l with
  | ok u =>
    unfold Lib.parseUintB at hp
    split at hp
    · cases hp
    · have := key _ _ _ hp (by omega)
      show u < _
      omega
  | range => show 18446744073709551615 < _; omega
  | _ => show 0 < _; omega

set_option maxRecDepth 100000 in
set_option maxHeartbeats 2000000 in
theorem asked_any (neg : Bool) (s : ByteArray) (ex : Int) (whole power more : Nat) (w : World) (hG : Glob w) (hs : s.size ≤ 281474976710656) (h1 : whole ≤ 9007199254740992) (h2 : power ≤ 1000) (h3 : more ≤ 1000)
    (e1 : -9223372036854775808 ≤ ex) (e2 : ex ≤ 9223372036854775807) :
    Calls Tryz.prog 54 #[.agg #[.bool neg, .string s, .int .i64 ex], .int .u64 (whole : Int), .int .i64 (power : Int), .int .i64 (more : Int)] w fun e w' =>
      e = .returned (askedV (askedQ s.data.toList ex whole power more)) ∧ Below w.heap.size w w' := by
  have HO := Lib.hid (one_new w #[.bool neg, .string s, .int .i64 ex] 25)
  have HG := Lib.hid (hG.under HO.out.below)
  have TC := Lib.hid (decCheck_any neg s ex (w.alloc (.cells #[.bool neg, .string s, .int .i64 ex] 25)) (by unfold maxLen; omega))
  clear hG
  by_cases hc : decCheck s.data.toList ex = 0
  · rw [hc] at TC
    have HQ := Lib.hid (show askedQ s.data.toList ex whole power more = _ from if_pos hc)
    have hx : s.size ≠ 0 → -1073741824 ≤ ex ∧ ex ≤ 1073741824 := by
      intro hn
      unfold decCheck at hc
      rw [show s.data.toList.length = s.size by simp] at hc
      split at hc
      · cases hc
      · try rw [if_neg hn] at hc
        split at hc
        · cases hc
        · rename_i h; omega
    have HX := Lib.hid hx
    clear hc hx
    by_cases h0 : s.size = 0
    · have HQ2 := Lib.hid (HQ.out.trans (if_pos (nil_size.2 h0)))
      have hl : s.data.toList = [] := nil_size.2 h0
      have hb : s.toList.isEmpty = true := by rw [empB, decide_eq_true h0]
      have HH := Lib.hid h0
      have HL := Lib.hid hl
      clear HQ h0 hl
      go_enter Tryz.func54, Tryz.ntmps54
      go_wp2_with fail
      generalize w.alloc (.cells #[.bool neg, .string s, .int .i64 ex] 25) = W0 at *
      with_reducible refine TC.out.mono ?_
      rintro e w1 ⟨rfl, hb1⟩
      have HO1 := Lib.hid (HO.out.under hb1)
      have c1 : w1.cell? ⟨w.heap.size, 1, none⟩ = some (.string s) := HO1.out.c 1
      clear hb1 TC
      go_wp2
      go_ret3
      exact ⟨by (rw [HQ2.out]; rfl), HO1.out.below⟩
    · have hb : s.toList.isEmpty = false := by rw [empB, decide_eq_false h0]
      obtain ⟨x1, x2⟩ := HX.out h0
      have HQ2 := Lib.hid (HQ.out.trans (if_neg (fun h => h0 (nil_size.1 h))))
      have hN := quickNum_lt s.data.toList
      have TN := Lib.hid (fun w hG => number_any s w hG hs)
      generalize (quickNum s.data.toList).1 = N at *
      generalize (quickNum s.data.toList).2 = ok at *
      clear HQ h0 HX
      go_enter Tryz.func54, Tryz.ntmps54
      go_wp2_with fail
      generalize w.alloc (.cells #[.bool neg, .string s, .int .i64 ex] 25) = W0 at *
      with_reducible refine TC.out.mono ?_
      rintro e w1 ⟨rfl, hb1⟩
      have HO1 := Lib.hid (HO.out.under hb1)
      have HG1 := Lib.hid (HG.out.under hb1)
      have c1 : w1.cell? ⟨w.heap.size, 1, none⟩ = some (.string s) := HO1.out.c 1
      clear hb1 TC HO HG
      have TN1 := Lib.hid (TN.out w1 HG1.out)
      go_wp2_with fail
      with_reducible refine TN1.out.mono ?_
      rintro e w2 ⟨rfl, hb2⟩
      have HO2 := Lib.hid (HO1.out.under hb2)
      have c2 : w2.cell? ⟨w.heap.size, 2, none⟩ = some (.int .i64 ex) := HO2.out.c 2
      clear hb2 TN TN1 HO1 HG1 c1
      by_cases hall : ok = true ∧ N ≤ whole ∧ -(power : Int) ≤ ex ∧ ex ≤ more
      · obtain ⟨rfl, a1, a2, a3⟩ := hall
        have HQ3 := Lib.hid (HQ2.out.trans (if_pos ⟨rfl, a1, a2, a3⟩))
        have a1' : ¬ (whole : Int) < (N : Int) := by omega
        have a2' : ¬ ex < -(power : Int) := by omega
        have a3' : ¬ (more : Int) < ex := by omega
        clear HQ2
        obtain ⟨K, hK⟩ : ∃ K : Nat, K = (ex - power).toNat := ⟨_, rfl⟩
        have hmax : max (ex - (power : Int)) 0 = (K : Int) := by omega
        have hKb : K ≤ 2000 := by omega
        rw [← hK] at HQ3
        have HK := Lib.hid hK
        clear hK
        go_wp2
        go_loop [8, 9, 49] (fun s8 s9 s49 => ∃ j n' : Nat, j ≤ K ∧ n' ≤ whole ∧ s8 = .int .u64 (n' : Int) ∧ s9 = .int .i64 (ex - (j : Int)) ∧ s49 = .int .i64 (j : Int) ∧ Hid (askLoop whole K N = askLoop whole (K - j) n')) (fun _ _ s49 => K - (intOf s49).toNat)
        case atStart => exact ⟨0, N, by omega, a1, rfl, by simp, rfl, rfl⟩
        case round =>
          obtain ⟨j, n', hj, hn', rfl, rfl, rfl, hI⟩ := hrel
          have m1 : IntKind.u64.wrap ((n' : Int) * 10) = (n' : Int) * 10 := by simp only [IntKind.wrap_u64]; omega
          by_cases hlt : j < K
          · have hst : askLoop whole (K - j) n' = if whole < n' * 10 then none else askLoop whole (K - (j + 1)) (n' * 10) := by
              rw [show K - j = (K - (j + 1)) + 1 by omega]; rfl
            by_cases hov : whole < n' * 10
            · have hov' : (whole : Int) < (n' : Int) * 10 := by omega
              have HF := Lib.hid (show askedQ s.data.toList ex whole power more = none by rw [HQ3.out, hI.out, hst, if_pos hov]; rfl)
              clear hst hov
              go_wp2
              go_ret3
              exact ⟨by (rw [HF.out]; rfl), HO2.out.below⟩
            · have hov' : ¬ (whole : Int) < (n' : Int) * 10 := by omega
              have HI2 := Lib.hid (show askLoop whole K N = askLoop whole (K - (j + 1)) (n' * 10) by rw [hI.out, hst, if_neg hov])
              clear hst
              go_wp2
              go_round
              case rel => exact ⟨j + 1, n' * 10, by omega, by omega, by go_num, by go_num, by go_num, HI2.out⟩
              case measure => simp [intOf]; omega
          · obtain rfl : j = K := by omega
            have HF := Lib.hid (show askedQ s.data.toList ex whole power more = some (n', ex - (j : Int)) by rw [HQ3.out, hI.out, Nat.sub_self]; rfl)
            go_wp2
            go_ret3
            exact ⟨by (rw [HF.out]; rfl), HO2.out.below⟩
      · have HQ3 := Lib.hid (HQ2.out.trans (if_neg hall))
        have HH := Lib.hid hall
        clear HQ2 hall
        cases ok with
        | false =>
          go_wp2
          go_ret3
          exact ⟨by (rw [HQ3.out]; rfl), HO2.out.below⟩
        | true =>
          by_cases a1 : N ≤ whole
          · have a1' : ¬ (whole : Int) < (N : Int) := by omega
            by_cases a2 : -(power : Int) ≤ ex
            · have a2' : ¬ ex < -(power : Int) := by omega
              have a3' : (more : Int) < ex := by
                rcases Int.lt_or_le (more : Int) ex with h | h
                · exact h
                · exact absurd ⟨rfl, a1, a2, h⟩ HH.out
              go_wp2
              go_ret3
              exact ⟨by (rw [HQ3.out]; rfl), HO2.out.below⟩
            · have a2' : ex < -(power : Int) := by omega
              go_wp2
              go_ret3
              exact ⟨by (rw [HQ3.out]; rfl), HO2.out.below⟩
          · have a1' : (whole : Int) < (N : Int) := by omega
            go_wp2
            go_ret3
            exact ⟨by (rw [HQ3.out]; rfl), HO2.out.below⟩
  · have HQ := Lib.hid (show askedQ s.data.toList ex whole power more = none from if_neg hc)
    have hc1 : (decCheck s.data.toList ex == 0) = false := by rw [beq_eq_false_iff_ne]; exact hc
    have hc2 : (decCheck s.data.toList ex != 0) = true := by rw [bne_iff_ne]; exact hc
    clear hc
    generalize decCheck s.data.toList ex = q at *
    go_enter Tryz.func54, Tryz.ntmps54
    go_wp2_with fail
    generalize w.alloc (.cells #[.bool neg, .string s, .int .i64 ex] 25) = W0 at *
    with_reducible refine TC.out.mono ?_
    rintro e w1 ⟨rfl, hb1⟩
    have HO1 := Lib.hid (HO.out.under hb1)
    clear hb1 TC
    go_wp2
    go_ret3
    exact ⟨by (rw [HQ.out]; rfl), HO1.out.below⟩

end Go.Proofs.YtihdnfhclocndaaGreatDoor
namespace Go.Proofs.YtihdnfhclocndaaGreatDoor
open Go.RowKit W

/-- The float 10. -/
def tenB : FloatKind → Nat
  | .f64 => 4621819117588971520
  | .f32 => 1092616192

/-- Ten to the power of k, by products. -/
def tenF (k : FloatKind) : Nat → Nat
  | 0 => floatOfInt k 1
  | i + 1 => (k.format.mul (tenF k i) (tenB k)).getD 0

theorem ten64 : ∀ i, i < 22 → FloatKind.f64.format.mul (tenF .f64 i) (tenB .f64) = some (tenF .f64 (i + 1)) := by decide +kernel
theorem ten32 : ∀ i, i < 10 → FloatKind.f32.format.mul (tenF .f32 i) (tenB .f32) = some (tenF .f32 (i + 1)) := by decide +kernel

/-- A datum that is a number above nought. -/
def aboveB : Ieee.Datum → Bool
  | .number _ m _ => m != 0
  | _ => false
theorem ten64_above : ∀ i, i < 23 → aboveB (FloatKind.f64.format.read (tenF .f64 i)) = true := by decide +kernel
theorem ten32_above : ∀ i, i < 11 → aboveB (FloatKind.f32.format.read (tenF .f32 i)) = true := by decide +kernel

theorem read_low (f : Ieee.Format) {r : Nat} (h : r ≤ f.infRung) : (f.read r).isNaN = false := by
  have h1 := f.infRung_lt
  have hm : r % f.signWeight = r := Nat.mod_eq_of_lt (by omega)
  unfold Ieee.Format.read
  simp only [hm]
  split
  · rfl
  · split
    · rfl
    · rw [if_pos (by omega)]; rfl

theorem floatOfInt_ok (k : FloatKind) (n : Nat) : (k.format.read (floatOfInt k (n : Int))).isNaN = false := by
  have e : floatOfInt k (n : Int) = k.format.nearest false n 0 := by
    unfold floatOfInt FloatKind.nearest FloatKind.encode
    rw [decide_eq_false (by omega)]
    rfl
  rw [e]
  refine read_low _ ?_
  unfold Ieee.Format.nearest
  dsimp only
  split
  · exact Nat.zero_le _
  · exact Nat.min_le_right _ _

theorem product_some {d t : Ieee.Datum} (h : d.isNaN = false) (ht : aboveB t = true) : ∃ r, d.product t = some r := by
  cases d with
  | nan => cases h
  | infinity s =>
    cases t with
    | number u m e => 
      have hm : m ≠ 0 := by simpa [aboveB] using ht
      simp [Ieee.Datum.product, hm]
    | _ => cases ht
  | number s m i =>
    cases t with
    | number u n j => exact ⟨_, rfl⟩
    | _ => cases ht

theorem quotient_some {d t : Ieee.Datum} {g : Nat} (h : d.isNaN = false) (ht : aboveB t = true) : ∃ r, d.quotient g t = some r := by
  cases d with
  | nan => cases h
  | infinity s =>
    cases t with
    | number u m e => exact ⟨_, rfl⟩
    | _ => cases ht
  | number s m i =>
    cases t with
    | number u n j =>
      have hn : n ≠ 0 := by simpa [aboveB] using ht
      simp [Ieee.Datum.quotient, hn]
    | _ => cases ht

/-- What is read, without its sign. -/
def readB (k : FloatKind) (n : Nat) (ex : Int) : Nat :=
  if ex < 0 then (k.format.div (floatOfInt k (n : Int)) (tenF k ex.natAbs)).getD 0 else (k.format.mul (floatOfInt k (n : Int)) (tenF k ex.natAbs)).getD 0

theorem div_get (k : FloatKind) (n : Nat) {i : Nat} (h : aboveB (k.format.read (tenF k i)) = true) : k.format.div (floatOfInt k (n : Int)) (tenF k i) = some ((k.format.div (floatOfInt k (n : Int)) (tenF k i)).getD 0) := by
  obtain ⟨r, hr⟩ := quotient_some (g := k.format.fractionBits + 2) (floatOfInt_ok k n) h
  unfold Ieee.Format.div
  rw [hr]; rfl

theorem mul_get (k : FloatKind) (n : Nat) {i : Nat} (h : aboveB (k.format.read (tenF k i)) = true) : k.format.mul (floatOfInt k (n : Int)) (tenF k i) = some ((k.format.mul (floatOfInt k (n : Int)) (tenF k i)).getD 0) := by
  obtain ⟨r, hr⟩ := product_some (floatOfInt_ok k n) h
  unfold Ieee.Format.mul
  rw [hr]; rfl

/-- The float that is read, its bits. -/
def readF (k : FloatKind) (neg : Bool) (n : Nat) (ex : Int) : Nat := if neg then Op.negFloat k (readB k n ex) else readB k n ex

theorem neg64 (b : Nat) (w : World) : (Op.unary .neg (.float .f64 b)).run Tryz.prog w = .ok (.float .f64 (Op.negFloat .f64 b)) w := by kernel_rfl
theorem neg32 (b : Nat) (w : World) : (Op.unary .neg (.float .f32 b)).run Tryz.prog w = .ok (.float .f32 (Op.negFloat .f32 b)) w := by kernel_rfl

set_option maxRecDepth 100000 in
theorem read64_any (neg : Bool) (n : Nat) (ex : Int) (w : World) (h1 : -22 ≤ ex) (h2 : ex ≤ 22) :
    Calls Tryz.prog 55 #[.bool neg, .int .u64 (n : Int), .int .i64 ex] w fun e w' => e = .returned (.float .f64 (readF .f64 neg n ex)) ∧ w = w' := by
  have hab := ten64_above ex.natAbs (by omega)
  have hd : ∀ w, (binOp .quo 30 (.float .f64 (floatOfInt .f64 (n : Int))) (.float .f64 (tenF .f64 ex.natAbs))).run Tryz.prog w = .ok (.float .f64 ((FloatKind.f64.format.div (floatOfInt .f64 (n : Int)) (tenF .f64 ex.natAbs)).getD 0)) w :=
    fun w => run_float_arith w .quo _ .f64 _ _ _ (div_get .f64 n hab)
  have hm : ∀ w, (binOp .mul 30 (.float .f64 (floatOfInt .f64 (n : Int))) (.float .f64 (tenF .f64 ex.natAbs))).run Tryz.prog w = .ok (.float .f64 ((FloatKind.f64.format.mul (floatOfInt .f64 (n : Int)) (tenF .f64 ex.natAbs)).getD 0)) w :=
    fun w => run_float_arith w .mul _ .f64 _ _ _ (mul_get .f64 n hab)
  have HD := Lib.hid hd
  have HM := Lib.hid hm
  have HT := Lib.hid ten64
  have HF := Lib.hid (show readF .f64 neg n ex = if neg then Op.negFloat .f64 (readB .f64 n ex) else readB .f64 n ex from rfl)
  clear hd hm hab
  go_enter Tryz.func55, Tryz.ntmps55
  go_wp2
  go_loop [8, 16] (fun s8 s16 => ∃ k : Nat, (k : Int) ≤ max ex (-ex) ∧ s8 = .float .f64 (tenF .f64 k) ∧ s16 = .int .i64 (k : Int)) (fun _ s16 => (max ex (-ex) - intOf s16).toNat)
  case atStart => exact ⟨0, by omega, rfl, rfl⟩
  case round =>
    obtain ⟨k, hk, rfl, rfl⟩ := hrel
    by_cases hlt : (k : Int) < max ex (-ex)
    · have hstep : ∀ w, (binOp .mul 30 (.float .f64 (tenF .f64 k)) (.float .f64 4621819117588971520)).run Tryz.prog w = .ok (.float .f64 (tenF .f64 (k + 1))) w :=
        fun w => run_float_arith w .mul _ .f64 _ _ _ (HT.out k (by omega))
      go_wp2
      go_round
      case rel => exact ⟨k + 1, by omega, rfl, by go_num⟩
      case measure => simp [intOf]; omega
    · have hka : k = ex.natAbs := by omega
      have hd := HD.out
      have hm := HM.out
      rw [← hka] at hd hm
      have HK := Lib.hid hka
      clear hka HD HM
      by_cases h0 : ex < 0
      · have HB := Lib.hid (show readB .f64 n ex = (FloatKind.f64.format.div (floatOfInt .f64 (n : Int)) (tenF .f64 k)).getD 0 by unfold readB; rw [if_pos h0, HK.out])
        cases neg with
        | true =>
          have hng := neg64
          go_wp2
          go_ret
          exact ⟨by (rw [HF.out, HB.out]; rfl), rfl⟩
        | false =>
          go_wp2
          go_ret
          exact ⟨by (rw [HF.out, HB.out]; rfl), rfl⟩
      · have HB := Lib.hid (show readB .f64 n ex = (FloatKind.f64.format.mul (floatOfInt .f64 (n : Int)) (tenF .f64 k)).getD 0 by unfold readB; rw [if_neg h0, HK.out])
        cases neg with
        | true =>
          have hng := neg64
          go_wp2
          go_ret
          exact ⟨by (rw [HF.out, HB.out]; rfl), rfl⟩
        | false =>
          go_wp2
          go_ret
          exact ⟨by (rw [HF.out, HB.out]; rfl), rfl⟩

set_option maxRecDepth 100000 in
theorem read32_any (neg : Bool) (n : Nat) (ex : Int) (w : World) (h1 : -10 ≤ ex) (h2 : ex ≤ 10) :
    Calls Tryz.prog 56 #[.bool neg, .int .u64 (n : Int), .int .i64 ex] w fun e w' => e = .returned (.float .f32 (readF .f32 neg n ex)) ∧ w = w' := by
  have hab := ten32_above ex.natAbs (by omega)
  have hd : ∀ w, (binOp .quo 33 (.float .f32 (floatOfInt .f32 (n : Int))) (.float .f32 (tenF .f32 ex.natAbs))).run Tryz.prog w = .ok (.float .f32 ((FloatKind.f32.format.div (floatOfInt .f32 (n : Int)) (tenF .f32 ex.natAbs)).getD 0)) w :=
    fun w => run_float_arith w .quo _ .f32 _ _ _ (div_get .f32 n hab)
  have hm : ∀ w, (binOp .mul 33 (.float .f32 (floatOfInt .f32 (n : Int))) (.float .f32 (tenF .f32 ex.natAbs))).run Tryz.prog w = .ok (.float .f32 ((FloatKind.f32.format.mul (floatOfInt .f32 (n : Int)) (tenF .f32 ex.natAbs)).getD 0)) w :=
    fun w => run_float_arith w .mul _ .f32 _ _ _ (mul_get .f32 n hab)
  have HD := Lib.hid hd
  have HM := Lib.hid hm
  have HT := Lib.hid ten32
  have HF := Lib.hid (show readF .f32 neg n ex = if neg then Op.negFloat .f32 (readB .f32 n ex) else readB .f32 n ex from rfl)
  clear hd hm hab
  go_enter Tryz.func56, Tryz.ntmps56
  go_wp2
  go_loop [8, 16] (fun s8 s16 => ∃ k : Nat, (k : Int) ≤ max ex (-ex) ∧ s8 = .float .f32 (tenF .f32 k) ∧ s16 = .int .i64 (k : Int)) (fun _ s16 => (max ex (-ex) - intOf s16).toNat)
  case atStart => exact ⟨0, by omega, rfl, rfl⟩
  case round =>
    obtain ⟨k, hk, rfl, rfl⟩ := hrel
    by_cases hlt : (k : Int) < max ex (-ex)
    · have hstep : ∀ w, (binOp .mul 33 (.float .f32 (tenF .f32 k)) (.float .f32 1092616192)).run Tryz.prog w = .ok (.float .f32 (tenF .f32 (k + 1))) w :=
        fun w => run_float_arith w .mul _ .f32 _ _ _ (HT.out k (by omega))
      go_wp2
      go_round
      case rel => exact ⟨k + 1, by omega, rfl, by go_num⟩
      case measure => simp [intOf]; omega
    · have hka : k = ex.natAbs := by omega
      have hd := HD.out
      have hm := HM.out
      rw [← hka] at hd hm
      have HK := Lib.hid hka
      clear hka HD HM
      by_cases h0 : ex < 0
      · have HB := Lib.hid (show readB .f32 n ex = (FloatKind.f32.format.div (floatOfInt .f32 (n : Int)) (tenF .f32 k)).getD 0 by unfold readB; rw [if_pos h0, HK.out])
        cases neg with
        | true =>
          have hng := neg32
          go_wp2
          go_ret
          exact ⟨by (rw [HF.out, HB.out]; rfl), rfl⟩
        | false =>
          go_wp2
          go_ret
          exact ⟨by (rw [HF.out, HB.out]; rfl), rfl⟩
      · have HB := Lib.hid (show readB .f32 n ex = (FloatKind.f32.format.mul (floatOfInt .f32 (n : Int)) (tenF .f32 k)).getD 0 by unfold readB; rw [if_neg h0, HK.out])
        cases neg with
        | true =>
          have hng := neg32
          go_wp2
          go_ret
          exact ⟨by (rw [HF.out, HB.out]; rfl), rfl⟩
        | false =>
          go_wp2
          go_ret
          exact ⟨by (rw [HF.out, HB.out]; rfl), rfl⟩

end Go.Proofs.YtihdnfhclocndaaGreatDoor
