/- numeral/numerallaw14: QuickSure, the walk. -/
import Derived.Test.YtihdnfhclocndaaGreatDoorQs27
namespace Go.Proofs.YtihdnfhclocndaaGreatDoor
open Go.RowKit W

set_option maxRecDepth 100000 in
set_option maxHeartbeats 4000000 in
theorem quickSure_any (n : Nat) (ex : Int) (neg : Bool) (w : World) (hG : Glob w) (hn : n < 18446744073709551616) :
    Calls Tryz.prog 3 #[.int .u64 (n : Int), .int .i64 ex, .bool neg] w fun e w' => e = .returned (.bool true) ∧ Below w.heap.size w w' := by
  have TA := Lib.hid (alive14_any w hG)
  have HG := Lib.hid hG
  have h10 : 9 ≤ w.heap.size := hG.size
  obtain ⟨m, hm⟩ : ∃ m, m = n % 9007199254740993 := ⟨_, rfl⟩
  obtain ⟨k, hk⟩ : ∃ k, k = n % 16777217 := ⟨_, rfl⟩
  have em : (n : Int) % 9007199254740993 = (m : Int) := by omega
  have ek : (n : Int) % 16777217 = (k : Int) := by omega
  have m1 : m ≤ 9007199254740992 := by omega
  have k1 : k ≤ 16777216 := by omega
  obtain ⟨a, ha⟩ : ∃ a, ex.tmod 23 = a := ⟨_, rfl⟩
  obtain ⟨b, hb⟩ : ∃ b, ex.tmod 11 = b := ⟨_, rfl⟩
  have a1 : -22 ≤ a := by have := Int.lt_tmod_of_pos ex (show (0 : Int) < 23 by omega); omega
  have a2 : a ≤ 22 := by have := Int.tmod_lt_of_pos ex (show (0 : Int) < 23 by omega); omega
  have b1 : -10 ≤ b := by have := Int.lt_tmod_of_pos ex (show (0 : Int) < 11 by omega); omega
  have b2 : b ≤ 10 := by have := Int.tmod_lt_of_pos ex (show (0 : Int) < 11 by omega); omega
  have T1 := Lib.hid (fun w hG => formatUint_any m w hG (by omega))
  have T2 := Lib.hid (fun w => made_any neg m a w (by omega) a1 a2)
  have T3 := Lib.hid (fun w hG => formatUint_any k w hG (by omega))
  have T4 := Lib.hid (fun w => made_any neg k b w (by omega) (by omega) (by omega))
  obtain ⟨x1, x2⟩ := madeX_bd (m := m) (a := a) (p := 22) (by omega) (by omega) (by omega)
  obtain ⟨y1, y2⟩ := madeX_bd (m := k) (a := b) (p := 10) (by omega) (by omega) (by omega)
  have l1 := decDigits_len (m := m) (by omega)
  have l2 := decDigits_len (m := k) (by omega)
  have HA := Lib.hid (fun (h : madeX m a ≤ 22) => asked_some (l := Lib.decDigits m) (ex := madeX m a) (whole := 9007199254740992) (power := 22) (more := 37) (allDig_decDigits m) (by omega) (by rw [decVal_decDigits]; omega) (by omega) (fun h0 => if_pos h0) (by omega) (by omega) (by omega) (by omega))
  have HB := Lib.hid (fun (h : madeX k b ≤ 10) => asked_some (l := Lib.decDigits k) (ex := madeX k b) (whole := 16777216) (power := 10) (more := 17) (allDig_decDigits k) (by omega) (by rw [decVal_decDigits]; omega) (by omega) (fun h0 => if_pos h0) (by omega) (by omega) (by omega) (by omega))
  have d1 := bareD_len (Lib.decDigits m)
  have d2 := bareD_len (Lib.decDigits k)
  clear hG hm hk
  generalize bareD (Lib.decDigits m) = D1 at *
  generalize bareD (Lib.decDigits k) = D2 at *
  generalize madeX m a = X1 at *
  generalize madeX k b = X2 at *
  have TD1 := Lib.hid (fun neg w hG => double64_any neg ⟨D1.toArray⟩ X1 w hG (by simp [ByteArray.size]; omega) (by omega) (by omega))
  have TD2 := Lib.hid (fun neg w hG => single32_any neg ⟨D2.toArray⟩ X2 w hG (by simp [ByteArray.size]; omega) (by omega) (by omega))
  have TF := Lib.hid (fun neg w hG => fits_any neg ⟨D1.toArray⟩ X1 w hG (by simp [ByteArray.size]; omega) (by omega) (by omega))
  rw [show (⟨D1.toArray⟩ : ByteArray).data.toList = D1 by simp] at TD1 TF
  rw [show (⟨D2.toArray⟩ : ByteArray).data.toList = D2 by simp] at TD2
  go_enter Tryz.func3, Tryz.ntmps3
  go_wp2_with fail
  with_reducible refine TA.out.mono ?_
  rintro e w1 ⟨rfl, hb1⟩
  have HG1 := Lib.hid (HG.out.under hb1)
  have HB1 := Lib.hid hb1
  clear hb1 TA HG
  go_wp2_with fail
  with_reducible refine (T1.out w1 HG1.out).mono ?_
  rintro e w2 ⟨rfl, hb2⟩
  have HG2 := Lib.hid (HG1.out.under hb2)
  have HB2 := Lib.hid (HB1.out.trans (hb2.mono HB1.out.size))
  clear hb2 T1 HB1 HG1
  go_wp2_with fail
  with_reducible refine (T2.out w2).mono ?_
  rintro e w3 ⟨rfl, hb3⟩
  have HG3 := Lib.hid (HG2.out.under hb3)
  have HB3 := Lib.hid (HB2.out.trans (hb3.mono HB2.out.size))
  clear hb3 T2 HB2 HG2
  have HO := Lib.hid (one_new w3 #[.bool neg, .string ⟨D1.toArray⟩, .int .i64 X1] 25)
  have HG4 := Lib.hid (HG3.out.under HO.out.below)
  have HB4 := Lib.hid (HB3.out.trans (HO.out.below.mono HB3.out.size))
  have hz3 : w.heap.size ≤ w3.heap.size := HB3.out.size
  clear HB3 HG3
  go_wp2_with fail
  generalize w3.alloc (.cells #[.bool neg, .string ⟨D1.toArray⟩, .int .i64 X1] 25) = W4 at *
  have TF2 := Lib.hid (T3.out W4 HG4.out)
  with_reducible refine TF2.out.mono ?_
  rintro e w5 ⟨rfl, hb5⟩
  have HO5 := Lib.hid (HO.out.under hb5)
  have HG5 := Lib.hid (HG4.out.under hb5)
  have HB5 := Lib.hid (HB4.out.trans (hb5.mono HB4.out.size))
  clear hb5 TF2 T3 HO HG4 HB4
  go_wp2_with fail
  with_reducible refine (T4.out w5).mono ?_
  rintro e w6 ⟨rfl, hb6⟩
  have HO6 := Lib.hid (HO5.out.under hb6)
  have HG6 := Lib.hid (HG5.out.under hb6)
  have HB6 := Lib.hid (HB5.out.trans (hb6.mono HB5.out.size))
  clear hb6 T4 HO5 HG5 HB5
  have HP := Lib.hid (one_new w6 #[.bool neg, .string ⟨D2.toArray⟩, .int .i64 X2] 25)
  have HO7 := Lib.hid (HO6.out.under HP.out.below)
  have HG7 := Lib.hid (HG6.out.under HP.out.below)
  have HB7 := Lib.hid (HB6.out.trans (HP.out.below.mono HB6.out.size))
  have hz6 : w3.heap.size + 1 ≤ w6.heap.size := HO6.out.size
  have c0 : (w6.alloc (.cells #[.bool neg, .string ⟨D2.toArray⟩, .int .i64 X2] 25)).cell? ⟨w3.heap.size, 0, none⟩ = some (.bool neg) := HO7.out.c 0
  have c1 : (w6.alloc (.cells #[.bool neg, .string ⟨D2.toArray⟩, .int .i64 X2] 25)).cell? ⟨w3.heap.size, 1, none⟩ = some (.string ⟨D1.toArray⟩) := HO7.out.c 1
  have c2 : (w6.alloc (.cells #[.bool neg, .string ⟨D2.toArray⟩, .int .i64 X2] 25)).cell? ⟨w3.heap.size, 2, none⟩ = some (.int .i64 X1) := HO7.out.c 2
  have d0 : (w6.alloc (.cells #[.bool neg, .string ⟨D2.toArray⟩, .int .i64 X2] 25)).cell? ⟨w6.heap.size, 0, none⟩ = some (.bool neg) := HP.out.c 0
  have d1 : (w6.alloc (.cells #[.bool neg, .string ⟨D2.toArray⟩, .int .i64 X2] 25)).cell? ⟨w6.heap.size, 1, none⟩ = some (.string ⟨D2.toArray⟩) := HP.out.c 1
  have d2 : (w6.alloc (.cells #[.bool neg, .string ⟨D2.toArray⟩, .int .i64 X2] 25)).cell? ⟨w6.heap.size, 2, none⟩ = some (.int .i64 X2) := HP.out.c 2
  clear HO6 HG6 HB6
  by_cases hfar : 22 < X1 ∨ 10 < X2
  · by_cases hf1 : 22 < X1
    · clear hfar
      go_wp2
      go_ret
      exact ⟨rfl, HB7.out⟩
    · have hf2 : 10 < X2 := by omega
      clear hfar
      go_wp2
      go_ret
      exact ⟨rfl, HB7.out⟩
  · have hf1 : ¬ 22 < X1 := by omega
    have hf2 : ¬ 10 < X2 := by omega
    obtain ⟨⟨N, E⟩, hN⟩ := HA.out (by omega)
    obtain ⟨⟨M, F⟩, hM⟩ := HB.out (by omega)
    have hN' : ask64 D1 X1 = some (N, E) := hN
    have hM' : ask32 D2 X2 = some (M, F) := hM
    rw [hN', show (some (N, E)).isSome = true from rfl] at TF
    simp only [hN', quickQ_some] at TD1
    simp only [hM', quickQ_some] at TD2
    have hx64 := readF64_xor neg N E
    have hx32 := readF32_xor neg M F
    have hb64 := bits64
    have hb32 := bits32
    clear hfar hN hM hN' hM' HA HB
    go_wp2_with fail
    generalize w6.alloc (.cells #[.bool neg, .string ⟨D2.toArray⟩, .int .i64 X2] 25) = W7 at *
    with_reducible refine (TD1.out neg W7 HG7.out).mono ?_
    rintro e w8 ⟨rfl, hb8⟩
    have HO8 := Lib.hid (HO7.out.under hb8)
    have HP8 := Lib.hid (HP.out.under hb8)
    have HG8 := Lib.hid (HG7.out.under hb8)
    have HB8 := Lib.hid (HB7.out.trans (hb8.mono HB7.out.size))
    clear hb8 HO7 HP HG7 HB7 c0 c1 c2 d0 d1 d2
    have d0 : w8.cell? ⟨w6.heap.size, 0, none⟩ = some (.bool neg) := HP8.out.c 0
    have d1 : w8.cell? ⟨w6.heap.size, 1, none⟩ = some (.string ⟨D2.toArray⟩) := HP8.out.c 1
    have d2 : w8.cell? ⟨w6.heap.size, 2, none⟩ = some (.int .i64 X2) := HP8.out.c 2
    go_wp2_with fail
    with_reducible refine (TD2.out neg w8 HG8.out).mono ?_
    rintro e w9 ⟨rfl, hb9⟩
    have HO9 := Lib.hid (HO8.out.under hb9)
    have HP9 := Lib.hid (HP8.out.under hb9)
    have HG9 := Lib.hid (HG8.out.under hb9)
    have HB9 := Lib.hid (HB8.out.trans (hb9.mono HB8.out.size))
    clear hb9 HO8 HP8 HG8 HB8 d0 d1 d2
    have hne : w3.heap.size ≠ w6.heap.size := by omega
    have c0 : w9.cell? ⟨w3.heap.size, 0, none⟩ = some (.bool neg) := HO9.out.c 0
    have f0 : w9.frozen? ⟨w3.heap.size, 0, none⟩ = false := HO9.out.f 0
    have d0 : w9.cell? ⟨w6.heap.size, 0, none⟩ = some (.bool neg) := HP9.out.c 0
    have g0 : w9.frozen? ⟨w6.heap.size, 0, none⟩ = false := HP9.out.f 0
    have hlt3 : w3.heap.size < w9.heap.size := block_lt_of_cell c0
    have hlt6 : w6.heap.size < w9.heap.size := block_lt_of_cell d0
    obtain ⟨W10, HW⟩ : ∃ W10, W10 = (w9.setCell ⟨w3.heap.size, 0, none⟩ (.bool (!neg))).setCell ⟨w6.heap.size, 0, none⟩ (.bool (!neg)) := ⟨_, rfl⟩
    have x0 : W10.cell? ⟨w3.heap.size, 0, none⟩ = some (.bool (!neg)) := by
      rw [HW, World.cell?_setCell_other _ _ _ _ (fun e => hne (congrArg Addr.block e).symm)]; exact cell_same c0
    have x1' : W10.cell? ⟨w3.heap.size, 1, none⟩ = some (.string ⟨D1.toArray⟩) := by
      rw [HW, World.cell?_setCell_other _ _ _ _ (fun e => hne (congrArg Addr.block e).symm), cell_other (by omega)]; exact HO9.out.c 1
    have x2' : W10.cell? ⟨w3.heap.size, 2, none⟩ = some (.int .i64 X1) := by
      rw [HW, World.cell?_setCell_other _ _ _ _ (fun e => hne (congrArg Addr.block e).symm), cell_other (by omega)]; exact HO9.out.c 2
    have z0 : W10.cell? ⟨w6.heap.size, 0, none⟩ = some (.bool (!neg)) := by
      rw [HW]; exact cell_same (u := .bool neg) (by rw [World.cell?_setCell_other _ _ _ _ (fun e => hne (congrArg Addr.block e))]; exact d0)
    have z1 : W10.cell? ⟨w6.heap.size, 1, none⟩ = some (.string ⟨D2.toArray⟩) := by
      rw [HW, cell_other (by omega), World.cell?_setCell_other _ _ _ _ (fun e => hne (congrArg Addr.block e))]; exact HP9.out.c 1
    have z2 : W10.cell? ⟨w6.heap.size, 2, none⟩ = some (.int .i64 X2) := by
      rw [HW, cell_other (by omega), World.cell?_setCell_other _ _ _ _ (fun e => hne (congrArg Addr.block e))]; exact HP9.out.c 2
    have HB10 := Lib.hid (show Below w.heap.size w W10 by rw [HW]; exact (HB9.out.setCell (by show w.heap.size ≤ w3.heap.size; omega) _).setCell (by show w.heap.size ≤ w6.heap.size; omega) _)
    have HG10 := Lib.hid (show Glob W10 by
      rw [HW]
      exact HG9.out.below (B := w.heap.size) ((Below.refl _ _).setCell (by show w.heap.size ≤ w3.heap.size; omega) _ |>.setCell (by show w.heap.size ≤ w6.heap.size; omega) _) h10)
    have hsz10 : W10.heap.size = w9.heap.size := by rw [HW]; simp
    have hl3 : w3.heap.size < W10.heap.size := by omega
    have hl6 : w6.heap.size < W10.heap.size := by omega
    clear hsz10
    have HWH := Lib.hid HW
    clear HG9 HB9
    have p0 := x0
    have p1 := x1'
    have p2 := x2'
    rw [HW] at p0 p1 p2
    clear HW
    go_wp2_with fail
    rw [← HWH.out]
    clear p0 p1 p2
    with_reducible refine (TD1.out (!neg) W10 HG10.out).mono ?_
    rintro e w11 ⟨rfl, hb11⟩
    clear c0 f0 d0 g0 HO9 HP9
    have u0 : w11.cell? ⟨w6.heap.size, 0, none⟩ = some (.bool (!neg)) := (hb11.cell (p := ⟨w6.heap.size, 0, none⟩) hl6).trans z0
    have u1 : w11.cell? ⟨w6.heap.size, 1, none⟩ = some (.string ⟨D2.toArray⟩) := (hb11.cell (p := ⟨w6.heap.size, 1, none⟩) hl6).trans z1
    have u2 : w11.cell? ⟨w6.heap.size, 2, none⟩ = some (.int .i64 X2) := (hb11.cell (p := ⟨w6.heap.size, 2, none⟩) hl6).trans z2
    have v0 : w11.cell? ⟨w3.heap.size, 0, none⟩ = some (.bool (!neg)) := (hb11.cell (p := ⟨w3.heap.size, 0, none⟩) hl3).trans x0
    have v1 : w11.cell? ⟨w3.heap.size, 1, none⟩ = some (.string ⟨D1.toArray⟩) := (hb11.cell (p := ⟨w3.heap.size, 1, none⟩) hl3).trans x1'
    have v2 : w11.cell? ⟨w3.heap.size, 2, none⟩ = some (.int .i64 X1) := (hb11.cell (p := ⟨w3.heap.size, 2, none⟩) hl3).trans x2'
    have HG11 := Lib.hid (HG10.out.under hb11)
    have HB11 := Lib.hid (HB10.out.trans (hb11.mono HB10.out.size))
    have hl3' : w3.heap.size < w11.heap.size := block_lt_of_cell v0
    clear hb11 x0 x1' x2' z0 z1 z2 HG10 HB10 HWH hl3 hl6
    go_wp2_with fail
    with_reducible refine (TD2.out (!neg) w11 HG11.out).mono ?_
    rintro e w12 ⟨rfl, hb12⟩
    have t0 : w12.cell? ⟨w3.heap.size, 0, none⟩ = some (.bool (!neg)) := (hb12.cell (p := ⟨w3.heap.size, 0, none⟩) hl3').trans v0
    have t1 : w12.cell? ⟨w3.heap.size, 1, none⟩ = some (.string ⟨D1.toArray⟩) := (hb12.cell (p := ⟨w3.heap.size, 1, none⟩) hl3').trans v1
    have t2 : w12.cell? ⟨w3.heap.size, 2, none⟩ = some (.int .i64 X1) := (hb12.cell (p := ⟨w3.heap.size, 2, none⟩) hl3').trans v2
    have HG12 := Lib.hid (HG11.out.under hb12)
    have HB12 := Lib.hid (HB11.out.trans (hb12.mono HB11.out.size))
    clear hb12 u0 u1 u2 v0 v1 v2 HG11 HB11 TD1 TD2
    go_wp2_with fail
    with_reducible refine (TF.out (!neg) w12 HG12.out).mono ?_
    rintro e w13 ⟨rfl, hb13⟩
    have HB13 := Lib.hid (HB12.out.trans (hb13.mono HB12.out.size))
    clear hb13
    go_wp2
    go_ret
    exact ⟨rfl, HB13.out⟩

end Go.Proofs.YtihdnfhclocndaaGreatDoor
