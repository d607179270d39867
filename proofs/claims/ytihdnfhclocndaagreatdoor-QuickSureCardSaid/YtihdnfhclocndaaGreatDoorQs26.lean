/- numeral/quick: Double, Single, Fits, Whole (of a number above nought). numeral/dec: Make (of digits); strconv.FormatUint at base 10. -/
import Derived.Test.YtihdnfhclocndaaGreatDoorQs25
import Derived.Lib.ItoaMem
namespace Go.Proofs.YtihdnfhclocndaaGreatDoor
open Go.RowKit W

theorem askedQ_bd {l : List UInt8} {ex : Int} {whole power more n : Nat} {e : Int} (h : askedQ l ex whole power more = some (n, e)) : -(power : Int) ≤ e ∧ e ≤ power := by
  unfold askedQ at h
  split at h
  · split at h
    · cases h; omega
    · split at h
      · rename_i h1
        obtain ⟨_, _, h2, h3⟩ := h1
        cases ha : askLoop whole (ex - power).toNat (quickNum l).1 with
        | none => rw [ha] at h; cases h
        | some m => rw [ha] at h; cases h; omega
      · cases h
  · cases h

/-- What a reading by native floats answers. -/
def quickQ (k : FloatKind) (neg : Bool) : Option (Nat × Int) → Nat × Bool
  | none => (0, false)
  | some (n, e) => (readF k neg n e, true)

def ask64 (l : List UInt8) (ex : Int) : Option (Nat × Int) := askedQ l ex 9007199254740992 22 37
def ask32 (l : List UInt8) (ex : Int) : Option (Nat × Int) := askedQ l ex 16777216 10 17

set_option maxRecDepth 100000 in
theorem double64_any (neg : Bool) (s : ByteArray) (ex : Int) (w : World) (hG : Glob w) (hs : s.size ≤ 281474976710656) (e1 : -9223372036854775808 ≤ ex) (e2 : ex ≤ 9223372036854775807) :
    Calls Tryz.prog 18 #[.agg #[.bool neg, .string s, .int .i64 ex]] w fun e w' =>
      e = .returned (.tuple #[.float .f64 (quickQ .f64 neg (ask64 s.data.toList ex)).1, .bool (quickQ .f64 neg (ask64 s.data.toList ex)).2]) ∧ Below w.heap.size w w' := by
  have HO := Lib.hid (one_new w #[.bool neg, .string s, .int .i64 ex] 25)
  have TA := Lib.hid (asked_any neg s ex 9007199254740992 22 37 (w.alloc (.cells #[.bool neg, .string s, .int .i64 ex] 25)) (hG.under HO.out.below) hs (by omega) (by omega) (by omega) e1 e2)
  rw [show ((9007199254740992 : Nat) : Int) = 9007199254740992 from rfl, show ((22 : Nat) : Int) = 22 from rfl, show ((37 : Nat) : Int) = 37 from rfl, show askedQ s.data.toList ex 9007199254740992 22 37 = ask64 s.data.toList ex from rfl] at TA
  have HBD := Lib.hid (fun n e (h : ask64 s.data.toList ex = some (n, e)) => askedQ_bd h)
  clear hG
  cases hq : ask64 s.data.toList ex with
  | none =>
    rw [hq] at TA
    unfold askedV at TA
    clear hq
    go_enter Tryz.func18, Tryz.ntmps18
    go_wp2_with fail
    with_reducible refine TA.out.mono ?_
    rintro e w1 ⟨rfl, hb1⟩
    have HB := Lib.hid (HO.out.under hb1).below
    clear hb1
    go_wp2
    go_ret2
    exact ⟨rfl, HB.out⟩
  | some p =>
    obtain ⟨n, x⟩ := p
    obtain ⟨b1, b2⟩ := HBD.out n x hq
    rw [hq] at TA
    unfold askedV at TA
    have TR := Lib.hid (fun w => read64_any neg n x w b1 b2)
    clear hq
    go_enter Tryz.func18, Tryz.ntmps18
    go_wp2_with fail
    with_reducible refine TA.out.mono ?_
    rintro e w1 ⟨rfl, hb1⟩
    have HO1 := Lib.hid (HO.out.under hb1)
    have c0 : w1.cell? ⟨w.heap.size, 0, none⟩ = some (.bool neg) := HO1.out.c 0
    clear hb1
    go_wp2_with fail
    with_reducible refine (TR.out w1).mono ?_
    rintro e w' ⟨rfl, rfl⟩
    go_wp2
    go_ret2
    exact ⟨rfl, HO1.out.below⟩

set_option maxRecDepth 100000 in
theorem single32_any (neg : Bool) (s : ByteArray) (ex : Int) (w : World) (hG : Glob w) (hs : s.size ≤ 281474976710656) (e1 : -9223372036854775808 ≤ ex) (e2 : ex ≤ 9223372036854775807) :
    Calls Tryz.prog 19 #[.agg #[.bool neg, .string s, .int .i64 ex]] w fun e w' =>
      e = .returned (.tuple #[.float .f32 (quickQ .f32 neg (ask32 s.data.toList ex)).1, .bool (quickQ .f32 neg (ask32 s.data.toList ex)).2]) ∧ Below w.heap.size w w' := by
  have HO := Lib.hid (one_new w #[.bool neg, .string s, .int .i64 ex] 25)
  have TA := Lib.hid (asked_any neg s ex 16777216 10 17 (w.alloc (.cells #[.bool neg, .string s, .int .i64 ex] 25)) (hG.under HO.out.below) hs (by omega) (by omega) (by omega) e1 e2)
  rw [show ((16777216 : Nat) : Int) = 16777216 from rfl, show ((10 : Nat) : Int) = 10 from rfl, show ((17 : Nat) : Int) = 17 from rfl, show askedQ s.data.toList ex 16777216 10 17 = ask32 s.data.toList ex from rfl] at TA
  have HBD := Lib.hid (fun n e (h : ask32 s.data.toList ex = some (n, e)) => askedQ_bd h)
  clear hG
  cases hq : ask32 s.data.toList ex with
  | none =>
    rw [hq] at TA
    unfold askedV at TA
    clear hq
    go_enter Tryz.func19, Tryz.ntmps19
    go_wp2_with fail
    with_reducible refine TA.out.mono ?_
    rintro e w1 ⟨rfl, hb1⟩
    have HB := Lib.hid (HO.out.under hb1).below
    clear hb1
    go_wp2
    go_ret2
    exact ⟨rfl, HB.out⟩
  | some p =>
    obtain ⟨n, x⟩ := p
    obtain ⟨b1, b2⟩ := HBD.out n x hq
    rw [hq] at TA
    unfold askedV at TA
    have TR := Lib.hid (fun w => read32_any neg n x w b1 b2)
    clear hq
    go_enter Tryz.func19, Tryz.ntmps19
    go_wp2_with fail
    with_reducible refine TA.out.mono ?_
    rintro e w1 ⟨rfl, hb1⟩
    have HO1 := Lib.hid (HO.out.under hb1)
    have c0 : w1.cell? ⟨w.heap.size, 0, none⟩ = some (.bool neg) := HO1.out.c 0
    clear hb1
    go_wp2_with fail
    with_reducible refine (TR.out w1).mono ?_
    rintro e w' ⟨rfl, rfl⟩
    go_wp2
    go_ret2
    exact ⟨rfl, HO1.out.below⟩

set_option maxRecDepth 100000 in
theorem fits_any (neg : Bool) (s : ByteArray) (ex : Int) (w : World) (hG : Glob w) (hs : s.size ≤ 281474976710656) (e1 : -9223372036854775808 ≤ ex) (e2 : ex ≤ 9223372036854775807) :
    Calls Tryz.prog 22 #[.agg #[.bool neg, .string s, .int .i64 ex]] w fun e w' =>
      e = .returned (.bool (ask64 s.data.toList ex).isSome) ∧ Below w.heap.size w w' := by
  have HO := Lib.hid (one_new w #[.bool neg, .string s, .int .i64 ex] 25)
  have TA := Lib.hid (asked_any neg s ex 9007199254740992 22 37 (w.alloc (.cells #[.bool neg, .string s, .int .i64 ex] 25)) (hG.under HO.out.below) hs (by omega) (by omega) (by omega) e1 e2)
  rw [show ((9007199254740992 : Nat) : Int) = 9007199254740992 from rfl, show ((22 : Nat) : Int) = 22 from rfl, show ((37 : Nat) : Int) = 37 from rfl, show askedQ s.data.toList ex 9007199254740992 22 37 = ask64 s.data.toList ex from rfl] at TA
  clear hG
  cases hq : ask64 s.data.toList ex with
  | none =>
    rw [hq] at TA
    unfold askedV at TA
    clear hq
    go_enter Tryz.func22, Tryz.ntmps22
    go_wp2_with fail
    with_reducible refine TA.out.mono ?_
    rintro e w1 ⟨rfl, hb1⟩
    have HB := Lib.hid (HO.out.under hb1).below
    clear hb1
    go_wp2
    go_ret
    exact ⟨rfl, HB.out⟩
  | some p =>
    obtain ⟨n, x⟩ := p
    rw [hq] at TA
    unfold askedV at TA
    clear hq
    go_enter Tryz.func22, Tryz.ntmps22
    go_wp2_with fail
    with_reducible refine TA.out.mono ?_
    rintro e w1 ⟨rfl, hb1⟩
    have HB := Lib.hid (HO.out.under hb1).below
    clear hb1
    go_wp2
    go_ret
    exact ⟨rfl, HB.out⟩

set_option maxRecDepth 100000 in
theorem whole_pos (s : ByteArray) (n : Nat) (w : World) (hG : Glob w) (h0 : 0 < s.size) (hs : s.size ≤ 19) (hp : s[0] ≠ 43) (hn : quickNum s.data.toList = (n, true)) (hn0 : n ≠ 0) :
    Calls Tryz.prog 47 #[.string s] w fun e w' => e = .returned (.tuple #[.float .f64 (near64 n), .bool true]) ∧ Below w.heap.size w w' := by
  have TN := Lib.hid (number_any s w hG (by omega))
  have hlt : n < 18446744073709551616 := by have := quickNum_lt s.data.toList; rw [hn] at this; exact this
  rw [hn] at TN
  have HG := Lib.hid hG
  have hb : s.toList.isEmpty = false := by rw [empB, decide_eq_false (by omega)]
  have hs1 : ¬ (19 : Int) < (s.size : Int) := by omega
  have hb0 := byte_eq (b := s[0]) (n := 43) (by omega)
  rw [show ((43 : Nat) : Int) = 43 from rfl, show UInt8.ofNat 43 = 43 from rfl, decide_eq_false hp] at hb0
  clear hG hn hp
  go_enter Tryz.func47, Tryz.ntmps47
  go_wp2_with fail
  with_reducible refine TN.out.mono ?_
  rintro e w1 ⟨rfl, hb1⟩
  have TR := Lib.hid (near64_pos n w1 (HG.out.under hb1) hn0 hlt)
  have HB := Lib.hid hb1
  clear hb1 TN hn0
  go_wp2_with fail
  with_reducible refine TR.out.mono ?_
  rintro e w2 ⟨rfl, hb2⟩
  have HB2 := Lib.hid (HB.out.trans (hb2.mono HB.out.size))
  clear hb2
  go_wp2
  go_ret2
  exact ⟨rfl, HB2.out⟩

end Go.Proofs.YtihdnfhclocndaaGreatDoor
namespace Go.Proofs.YtihdnfhclocndaaGreatDoor
open Go.RowKit W Go.Sort

theorem quiet_flip {P : Program} {f : FuncId} {args : Array Value} {w : World} {v : Value} (h : Calls P f args w fun e w' => e = .returned v ∧ w' = w) : Calls P f args w fun e w' => e = .returned v ∧ w = w' :=
  h.mono fun _ _ ⟨a, b⟩ => ⟨a, b.symm⟩

theorem trimR_len (l : List UInt8) (c : UInt8) : (Lib.trimRightB l c).length ≤ l.length := by
  unfold Lib.trimRightB
  rw [List.length_reverse]
  exact Nat.le_trans (List.dropWhile_sublist _).length_le (by rw [List.length_reverse]; exact Nat.le_refl _)
theorem trimL_len (l : List UInt8) (c : UInt8) : (Lib.trimLeftB l c).length ≤ l.length := (List.dropWhile_sublist _).length_le

/-- The digits without noughts at either end. -/
def bareD (l : List UInt8) : List UInt8 := Lib.trimLeftB (Lib.trimRightB l 48) 48

set_option maxRecDepth 100000 in
set_option maxHeartbeats 1000000 in
theorem decMake_any (neg : Bool) (s : ByteArray) (ex : Int) (w : World) (hs : s.size ≤ 65536) (hd : allDig s.data.toList = true) (e1 : -1000000 ≤ ex) (e2 : ex ≤ 1000000) :
    Calls Tryz.prog 16 #[.bool neg, .string s, .int .i64 ex] w fun e w' =>
      e = .returned (.tuple #[.agg #[.bool neg, .string ⟨(bareD s.data.toList).toArray⟩, .int .i64 (if bareD s.data.toList = [] then 0 else ex + ((s.size - (Lib.trimRightB s.data.toList 48).length : Nat) : Int))], .int .i64 0]) ∧ Below w.heap.size w w' := by
  have HO := Lib.hid (one_new w #[.bool false, .string ⟨#[]⟩, .int .i64 0] 25)
  have TD := Lib.hid (fun w => digits_any s w (by unfold maxLen; omega))
  rw [hd] at TD
  have hl : s.data.toList.length = s.size := by simp
  have hr := trimR_len s.data.toList 48
  have TR := Lib.hid (fun w => quiet_flip (Tryz.strings_TrimRight_one s 48 (by decide) w (by omega)))
  have TL := Lib.hid (fun w => quiet_flip (Tryz.strings_TrimLeft_one ⟨(Lib.trimRightB s.data.toList 48).toArray⟩ 48 (by decide) w))
  rw [show (⟨(Lib.trimRightB s.data.toList 48).toArray⟩ : ByteArray).data.toList = Lib.trimRightB s.data.toList 48 by simp, show Lib.trimLeftB (Lib.trimRightB s.data.toList 48) 48 = bareD s.data.toList from rfl] at TL
  have hsz : (⟨(Lib.trimRightB s.data.toList 48).toArray⟩ : ByteArray).size = (Lib.trimRightB s.data.toList 48).length := by simp [ByteArray.size]
  have TF := Lib.hid (fun (z : Int) w (h1 : -1073741824 ≤ z) (h2 : z ≤ 1073741824) => show Calls Tryz.prog 52 #[.int .i64 z] w fun e w' => e = .returned (.bool false) ∧ w = w' from by
    have h := decFar_any z w
    rw [decide_eq_false (by omega), decide_eq_false (by omega)] at h
    exact h)
  have hemp := empB ⟨(bareD s.data.toList).toArray⟩
  rw [show (⟨(bareD s.data.toList).toArray⟩ : ByteArray).size = (bareD s.data.toList).length by simp [ByteArray.size]] at hemp
  rw [hl] at hr
  have hs1 : ¬ (65536 : Int) < (s.size : Int) := by omega
  clear hd hl
  generalize bareD s.data.toList = bd at *
  generalize (Lib.trimRightB s.data.toList 48).length = rl at *
  generalize (⟨(Lib.trimRightB s.data.toList 48).toArray⟩ : ByteArray) = rs at *
  subst hsz
  have f0 := HO.out.f 0
  have f1 := HO.out.f 1
  have f2 := HO.out.f 2
  have c0 : (w.alloc (.cells #[.bool false, .string ⟨#[]⟩, .int .i64 0] 25)).cell? ⟨w.heap.size, 0, none⟩ = some (.bool false) := HO.out.c 0
  have c1 : (w.alloc (.cells #[.bool false, .string ⟨#[]⟩, .int .i64 0] 25)).cell? ⟨w.heap.size, 1, none⟩ = some (.string ⟨#[]⟩) := HO.out.c 1
  have c2 : (w.alloc (.cells #[.bool false, .string ⟨#[]⟩, .int .i64 0] 25)).cell? ⟨w.heap.size, 2, none⟩ = some (.int .i64 0) := HO.out.c 2
  by_cases hb : bd = []
  · rw [if_pos hb]
    have hb1 : bd.isEmpty = true := by rw [hb]; rfl
    have HB := Lib.hid hb
    clear hemp hb
    go_enter Tryz.func16, Tryz.ntmps16
    go_wp2_with fail
    generalize w.alloc (.cells #[.bool false, .string ⟨#[]⟩, .int .i64 0] 25) = W0 at *
    with_reducible refine (TD.out W0).mono ?_
    rintro e w' ⟨rfl, rfl⟩
    go_wp2_with fail
    with_reducible refine (TR.out _).mono ?_
    rintro e w' ⟨rfl, rfl⟩
    go_wp2_with fail
    with_reducible refine (TL.out _).mono ?_
    rintro e w' ⟨rfl, rfl⟩
    clear TD TR TL TF
    go_wp2
    obtain ⟨q0, q1, q2⟩ := set3 (.bool neg) (.string ⟨#[]⟩) (.int .i64 0) c0 c1 c2
    refine bodyPost_ret (v := .tuple #[.agg #[.bool neg, .string ⟨bd.toArray⟩, .int .i64 0], .int .i64 0]) (by simp [results, Tryz.results16, go_sem, q0, q1, q2, HB.out]) rfl ?_
    exact ⟨rfl, ((HO.out.below.setCell (Nat.le_refl _) _).setCell (Nat.le_refl _) _).setCell (Nat.le_refl _) _⟩
  · rw [if_neg hb]
    have hb1 : bd.isEmpty = false := by
      cases h : bd with
      | nil => exact absurd h hb
      | cons _ _ => rfl
    have HB := Lib.hid hb
    have g1 : ¬ (1073741824 : Int) < ex := by omega
    have g2 : ¬ ex < (-2147483648 : Int) := by omega
    have HX := Lib.hid (show ((s.size - rs.size : Nat) : Int) = (s.size : Int) - (rs.size : Int) by omega)
    rw [HX.out]
    clear hemp hb
    go_enter Tryz.func16, Tryz.ntmps16
    go_wp2_with fail
    generalize w.alloc (.cells #[.bool false, .string ⟨#[]⟩, .int .i64 0] 25) = W0 at *
    with_reducible refine (TD.out W0).mono ?_
    rintro e w' ⟨rfl, rfl⟩
    go_wp2_with fail
    with_reducible refine (TR.out _).mono ?_
    rintro e w' ⟨rfl, rfl⟩
    go_wp2_with fail
    with_reducible refine (TL.out _).mono ?_
    rintro e w' ⟨rfl, rfl⟩
    have TF2 := Lib.hid (TF.out (ex + ((s.size : Int) - (rs.size : Int))) W0 (by omega) (by omega))
    go_wp2_with fail
    with_reducible refine TF2.out.mono ?_
    rintro e w' ⟨rfl, rfl⟩
    clear TD TR TL TF TF2
    go_wp2
    obtain ⟨q0, q1, q2⟩ := set3 (.bool neg) (.string ⟨bd.toArray⟩) (.int .i64 (ex + ((s.size : Int) - (rs.size : Int)))) c0 c1 c2
    refine bodyPost_ret (v := .tuple #[.agg #[.bool neg, .string ⟨bd.toArray⟩, .int .i64 (ex + ((s.size : Int) - (rs.size : Int)))], .int .i64 0]) (by simp [results, Tryz.results16, go_sem, q0, q1, q2]) rfl ?_
    exact ⟨rfl, ((HO.out.below.setCell (Nat.le_refl _) _).setCell (Nat.le_refl _) _).setCell (Nat.le_refl _) _⟩

theorem below_grow {w : World} (k : Nat) (os : Array Obj) : RowKit.Below w.heap.size w (Sort.grow (w.drewN k) os) := by
  refine ⟨rfl, rfl, rfl, ?_, fun j hj => ?_⟩
  · simp [Sort.grow]
  · show (w.heap ++ os)[j]? = w.heap[j]?
    exact Array.getElem?_append_left hj

theorem holds_zero0 (w : World) (T : TypeId) (nd : Nat) (hs : nd ≤ 24) : Holds (fun (b : UInt8) => Value.int .u8 (b.toNat : Int)) (w.alloc (.cells Lib.zeros24 T)) w.heap.size 0 (Array.replicate nd (0 : UInt8)) := fun j hj => by
  have hj' : j < nd := by simpa using hj
  refine ⟨?_, World.frozen?_alloc_new _ _ _ _⟩
  rw [World.cell?_alloc_new, Lib.zeros24_at _ (by omega), getElem!_pos _ j hj]
  simp

theorem fin_zero (w : World) (o : Obj) (dk : Array UInt8) (k : Nat) : ∃ os, (putRow (fun (b : UInt8) => Value.int .u8 (b.toNat : Int)) (w.alloc o) w.heap.size 0 dk).drewN k = Sort.grow (w.drewN k) os := by
  rw [alloc_eq_grow]
  obtain ⟨os', _, e⟩ := putRow_grow_new (fun (b : UInt8) => Value.int .u8 (b.toNat : Int)) w #[o] w.heap.size 0 dk (Nat.le_refl _)
  exact ⟨os', by rw [e]; rfl⟩

set_option maxRecDepth 100000 in
set_option maxHeartbeats 1000000 in
/-- internal/strconv.FormatUint at base 10. -/
theorem formatUint_in (u : Nat) (w : World) (hG : Glob w) (hu64 : u < 18446744073709551616) :
    Calls Tryz.prog 53 #[.int .u64 (u : Int), .int .i64 10] w fun e w' => e = .returned (.string ⟨(Lib.decDigits u).toArray⟩) ∧ RowKit.Below w.heap.size w w' := by
  by_cases hs : u < 100
  · have hs' : (u : Int) < 100 := by omega
    have hw : IntKind.i64.wrap (u : Int) = (u : Int) := by simp only [IntKind.wrap_i64]; omega
    have TS := Lib.hid (quiet_flip (Tryz.internal_strconv_small u hs w))
    clear hG
    go_enter Tryz.func53, Tryz.ntmps53
    go_wp2_with fail
    with_reducible refine TS.out.mono ?_
    rintro e w' ⟨rfl, rfl⟩
    go_wp2
    go_ret
    exact ⟨rfl, Below.refl _ _⟩
  · have hu1 : 1 ≤ u := by omega
    have hs' : ¬ (u : Int) < 100 := by omega
    have hnd20 : Lib.nDigits u ≤ 20 := by have := Lib.numDigits_eq u hu1 hu64; split at this <;> omega
    have hal : Tryz.prog.arrayLen 151 = 24 := by kernel_rfl
    have hsl : ∀ W, (Instr.sliceAt 151 (.pointer (some ⟨w.heap.size, 0, none⟩)) none (some (.int .i64 (Lib.nDigits u : Int))) none).run Tryz.prog W = .ok (.slice (some ⟨w.heap.size, 0, none⟩) (Lib.nDigits u) 24) W := fun W => by
      rw [run_sliceAt_array_h W 151 ⟨w.heap.size, 0, none⟩ (by kernel_rfl) .i64 (Lib.nDigits u : Int) (by omega) (by rw [hal]; omega)]
      have hel : ∀ W, (sizeOf (Tryz.prog.elem 151)).run Tryz.prog W = .ok 1 W := fun _ => by kernel_rfl
      rw [hel]
      simp [hal, slicedAt, Result.andThen, Addr.add]
    have hH0 := holds_zero0 w 151 (Lib.nDigits u) (by omega)
    have hfmt := Tryz.internal_strconv_formatBase10 w.heap.size 0 24 u (Array.replicate (Lib.nDigits u) 0) (w.alloc (.cells Lib.zeros24 151)) hH0 (by rw [Array.size_replicate]; exact Lib.lt_pow_nDigits u) hu64 (by rw [Array.size_replicate]; omega)
    rw [Array.size_replicate] at hfmt
    have TF := Lib.hid hfmt
    have TN := Lib.hid (quiet_flip (Tryz.internal_strconv_numDigits u hu1 hu64 (w.alloc (.cells Lib.zeros24 151)) (Lib.tabIs_alloc hG.pow10 _)))
    have HH0 := Lib.hid hH0
    unfold Lib.zeros24 at TF TN
    clear hH0 hal hfmt hG
    go_enter Tryz.func53, Tryz.ntmps53
    go_wp2_with fail
    with_reducible refine TN.out.mono ?_
    rintro e w' ⟨rfl, rfl⟩
    go_wp2_with fail
    with_reducible refine TF.out.mono ?_
    rintro e w1 ⟨rfl, k, v', dk, rfl, hF⟩
    have hcv : (convert 53 9 (.slice (some ⟨w.heap.size, 0, none⟩) (Lib.nDigits u) 24)).run Tryz.prog ((putRow (fun (b : UInt8) => Value.int .u8 (b.toNat : Int)) (w.alloc (.cells Lib.zeros24 151)) w.heap.size 0 dk).drewN k) =
        .ok (.string ⟨(Lib.decDigits u).toArray⟩) ((putRow (fun (b : UInt8) => Value.int .u8 (b.toNat : Int)) (w.alloc (.cells Lib.zeros24 151)) w.heap.size 0 dk).drewN k) := by
      have h := run_convert_bytes_back (P := Tryz.prog) ((putRow (fun (b : UInt8) => Value.int .u8 (b.toNat : Int)) (w.alloc (.cells Lib.zeros24 151)) w.heap.size 0 dk).drewN k) 53 9 5 ⟨w.heap.size, 0, none⟩ 24 (Lib.decDigits u) Tryz.underlying53 Tryz.underlying5 Tryz.underlying9 (fun j hj => by
        rw [Lib.row_is_numeral hF j hj, Lib.add_plain, World.cell?_drewN]
        exact cell?_putRow (fun (b : UInt8) => Value.int .u8 (b.toNat : Int)) _ w.heap.size 0 _ dk HH0.out (by rw [hF.size, Array.size_replicate]) j (by rw [hF.size]; rw [Lib.decDigits_length] at hj; exact hj))
      rw [Lib.decDigits_length] at h
      exact h
    have HB := Lib.hid (show RowKit.Below w.heap.size w ((putRow (fun (b : UInt8) => Value.int .u8 (b.toNat : Int)) (w.alloc (.cells Lib.zeros24 151)) w.heap.size 0 dk).drewN k) by
      obtain ⟨os, e⟩ := fin_zero w (.cells Lib.zeros24 151) dk k
      rw [e]
      exact below_grow k os)
    unfold Lib.zeros24 at hcv HB
    clear HH0 hF TF TN
    generalize (putRow (fun (b : UInt8) => Value.int .u8 (b.toNat : Int)) (w.alloc (.cells #[.int .u8 0, .int .u8 0, .int .u8 0, .int .u8 0, .int .u8 0, .int .u8 0, .int .u8 0, .int .u8 0, .int .u8 0, .int .u8 0, .int .u8 0, .int .u8 0, .int .u8 0, .int .u8 0, .int .u8 0, .int .u8 0, .int .u8 0, .int .u8 0, .int .u8 0, .int .u8 0, .int .u8 0, .int .u8 0, .int .u8 0, .int .u8 0] 151)) w.heap.size 0 dk).drewN k = W9 at *
    go_wp2
    go_ret
    exact ⟨rfl, HB.out⟩

set_option maxRecDepth 100000 in
/-- strconv.FormatUint at base 10. -/
theorem formatUint_any (u : Nat) (w : World) (hG : Glob w) (hu64 : u < 18446744073709551616) :
    Calls Tryz.prog 17 #[.int .u64 (u : Int), .int .i64 10] w fun e w' => e = .returned (.string ⟨(Lib.decDigits u).toArray⟩) ∧ RowKit.Below w.heap.size w w' := by
  have T := Lib.hid (formatUint_in u w hG hu64)
  clear hG
  go_enter Tryz.func17, Tryz.ntmps17
  go_wp2_with fail
  with_reducible refine T.out.mono ?_
  rintro e w1 ⟨rfl, hb⟩
  have HB := Lib.hid hb
  clear hb
  go_wp2
  go_ret
  exact ⟨rfl, HB.out⟩

end Go.Proofs.YtihdnfhclocndaaGreatDoor
