/- numeral/round: Dyadic. -/
import Derived.Test.YtihdnfhclocndaaGreatDoorQs22
namespace Go.Proofs.YtihdnfhclocndaaGreatDoor
open Go.RowKit W

theorem quiet_sym {P : Program} {f : FuncId} {args : Array Value} {w : World} {v : Value} (h : Calls P f args w fun e w' => e = .returned v ∧ w = w') : Calls P f args w fun e w' => e = .returned v ∧ w' = w :=
  h.mono fun _ _ ⟨a, b⟩ => ⟨a, b.symm⟩

/-- Two pointers are stored into a block of their own: all numbers stay. -/
theorem IntAt.store2 {w : World} {g k : Nat} {z : Int} {t : TypeId} {us : Array Value} (h : IntAt 0 w g 0 z) (hb : w.heap[k]? = some (.cells us t (0, 0))) (ht : t ≠ tU32) (h2 : 1 < us.size) (hne : g ≠ k) (u v : Value) :
    IntAt 0 ((w.setCell ⟨k, 0, none⟩ u).setCell ⟨k, 1, none⟩ v) g 0 z :=
  h.grown (o2 := 0) ⟨by omega, us, t, hb, ht, h2⟩ (grown_set (grown_set (grown_refl w (some k)) _ _) _ _) hne

theorem set2 {W : World} {g : Nat} {u0 u1 : Value} (a b : Value) (h0 : W.cell? ⟨g, 0, none⟩ = some u0) (h1 : W.cell? ⟨g, 1, none⟩ = some u1) :
    ((W.setCell ⟨g, 0, none⟩ a).setCell ⟨g, 1, none⟩ b).cell? ⟨g, 0, none⟩ = some a ∧ ((W.setCell ⟨g, 0, none⟩ a).setCell ⟨g, 1, none⟩ b).cell? ⟨g, 1, none⟩ = some b := by
  refine ⟨?_, ?_⟩
  · rw [cell_other (by omega), cell_same h0]
  · rw [cell_same (u := u1)]
    rw [cell_other (by omega), h1]

theorem cell_far2 {W : World} {g h k : Nat} (hne : g ≠ h) (a b : Value) : ((W.setCell ⟨g, 0, none⟩ a).setCell ⟨g, 1, none⟩ b).cell? ⟨h, k, none⟩ = W.cell? ⟨h, k, none⟩ := by
  rw [World.cell?_setCell_other _ _ _ _ (fun e => hne (congrArg Addr.block e)), World.cell?_setCell_other _ _ _ _ (fun e => hne (congrArg Addr.block e))]

/-- A dyadic as a fraction. -/
def dyN (n : Nat) (ex : Int) : Nat := timesN n (nearI ex (nbits n))
def dyD (n : Nat) (ex : Int) : Nat := timesD 1 (nearI ex (nbits n))

theorem near_bd (ex : Int) {b : Nat} (h : b ≤ 1048576) : -1049776 ≤ nearI ex b ∧ nearI ex b ≤ 1049776 := by unfold nearI; omega

theorem dy_bits {n : Nat} (ex : Int) (h : nbits n ≤ 1048576) : nbits (dyN n ex) ≤ 2098352 ∧ nbits (dyD n ex) ≤ 2098352 := by
  have h1 := near_bd ex h
  have a := nbits_mul_pow (n := n) (k := (nearI ex (nbits n)).toNat)
  have b := nbits_mul_pow (n := 1) (k := (-nearI ex (nbits n)).toNat)
  have c : nbits 1 = 1 := rfl
  unfold dyN dyD timesN timesD
  omega

set_option maxRecDepth 100000 in
set_option maxHeartbeats 4000000 in
theorem dyadic_any (ex fr : Nat) (dn : Bool) (A : Option Addr) (n c : Nat) (dx : Int) (neg : Bool) (mode : Nat) (w : World) (hr : Rd w A (ofN n)) (x1 : 2 ≤ ex) (x2 : ex ≤ 11) (x3 : 1 ≤ fr) (x4 : fr ≤ 52) (hm : mode ≤ 4)
    (hl : (ofN n).length ≤ 16384) (hck : dyCheck dn (ofN n) dx = 0) (e1 : -1099511627776 ≤ dx) (e2 : dx ≤ 1099511627776) :
    Calls Tryz.prog 210 #[.agg #[.int .i64 (ex : Int), .int .i64 (fr : Int)], .agg #[.bool dn, .slice A (ofN n).length c, .int .i64 dx], .bool neg, .int .u8 (mode : Int)] w fun e w' =>
      e = .returned (.tuple #[.int .u64 (signedQ ex fr (dyN n dx) (dyD n dx) dn neg mode : Int), .int .u8 (signedFlags ex fr (dyN n dx) (dyD n dx) dn mode : Int), .int .i64 0]) ∧ Below w.heap.size w w' := by
  have HT := Lib.hid (two_new w #[.int .i64 (ex : Int), .int .i64 (fr : Int)] #[.bool dn, .slice A (ofN n).length c, .int .i64 dx] 52 55)
  have HR := Lib.hid (hr.below HT.out.below)
  have hnb := nbits_len hl
  have hm1 : (mode : Int) ≤ 4 := by omega
  obtain ⟨k1, k2⟩ := near_bd dx (b := nbits n) (by omega)
  have HDB := Lib.hid (dy_bits dx (n := n) (by omega))
  have hpos : 0 < dyD n dx := timesD_pos (by omega) _
  have TF := Lib.hid (formsCheck_any (ex : Int) (fr : Int) ((w.alloc (.cells #[.int .i64 (ex : Int), .int .i64 (fr : Int)] 52)).alloc (.cells #[.bool dn, .slice A (ofN n).length c, .int .i64 dx] 55)) ⟨by omega, by omega, by omega, by omega⟩)
  clear hr
  go_enter Tryz.func210, Tryz.ntmps210
  go_wp2_with fail
  generalize (w.alloc (.cells #[.int .i64 (ex : Int), .int .i64 (fr : Int)] 52)).alloc (.cells #[.bool dn, .slice A (ofN n).length c, .int .i64 dx] 55) = W0 at *
  with_reducible refine TF.out.mono ?_
  rintro e w1 ⟨rfl, hb1⟩
  have HT1 := Lib.hid (HT.out.under hb1)
  have HR1 := Lib.hid (HR.out.below hb1)
  clear hb1 TF HT HR
  have c0 : w1.cell? ⟨w.heap.size, 0, none⟩ = some (.int .i64 (ex : Int)) := HT1.out.c1 0
  have c1 : w1.cell? ⟨w.heap.size, 1, none⟩ = some (.int .i64 (fr : Int)) := HT1.out.c1 1
  have d0 : w1.cell? ⟨w.heap.size + 1, 0, none⟩ = some (.bool dn) := HT1.out.c2 0
  have d1 : w1.cell? ⟨w.heap.size + 1, 1, none⟩ = some (.slice A (ofN n).length c) := HT1.out.c2 1
  have d2 : w1.cell? ⟨w.heap.size + 1, 2, none⟩ = some (.int .i64 dx) := HT1.out.c2 2
  have TC := Lib.hid (exactCheck_any dn A (ofN n) c dx w1 HR1.out (small_ofN n) (by simp [maxLen]; omega) (by omega) (by omega))
  rw [hck] at TC
  go_wp2_with fail
  with_reducible refine TC.out.mono ?_
  rintro e w2 ⟨rfl, hb2⟩
  have HT2 := Lib.hid (HT1.out.under hb2)
  have HR2 := Lib.hid (HR1.out.below hb2)
  clear hb2 TC HT1 HR1 c0 c1 d0 d1 d2
  have d1 : w2.cell? ⟨w.heap.size + 1, 1, none⟩ = some (.slice A (ofN n).length c) := HT2.out.c2 1
  have TL := Lib.hid (large_any A (ofN n) c w2 HR2.out (small_ofN n) (by omega))
  rw [wv_ofN] at TL
  go_wp2_with fail
  with_reducible refine TL.out.mono ?_
  rintro e w3 ⟨g1, rfl, hb3, hg1, hi1⟩
  have HT3 := Lib.hid (HT2.out.under hb3)
  have TN := Lib.hid (newInt_any 1 w3 (by omega) (by omega))
  have hz3 := hb3.size
  have HI1 := Lib.hid hi1
  clear hb3 hi1 TL HT2 HR2 d1
  go_wp2_with fail
  with_reducible refine TN.out.mono ?_
  rintro e w4 ⟨g2, rfl, hb4, hg2, hi2⟩
  have HT4 := Lib.hid (HT3.out.under hb4)
  have HI4 := Lib.hid (HI1.out.under hb4)
  have hz4 := hb4.size
  have hl1 := HI1.out.lt
  have hl2 := hi2.lt
  have HI5 := Lib.hid hi2
  clear hb4 hi2 TN HT3 HI1
  have HO := Lib.hid (one_new w4 #[.pointer (some ⟨g1, 0, none⟩), .pointer (some ⟨g2, 0, none⟩)] 169)
  have HT5 := Lib.hid (HT4.out.under HO.out.below)
  have HN := Lib.hid (show IntAt 0 _ g1 0 (n : Int) from (HI4.out.under HO.out.below).mono (by omega))
  have HD := Lib.hid (show IntAt 0 _ g2 0 1 from (HI5.out.under HO.out.below).mono (by omega))
  go_wp2
  have hz5 := HO.out.size
  generalize w4.alloc (.cells #[.pointer (some ⟨g1, 0, none⟩), .pointer (some ⟨g2, 0, none⟩)] 169) = W5 at *
  have b0 : W5.drew.cell? ⟨w4.heap.size, 0, none⟩ = some (.pointer (some ⟨g1, 0, none⟩)) := HO.out.c 0
  have b1 : W5.drew.cell? ⟨w4.heap.size, 1, none⟩ = some (.pointer (some ⟨g2, 0, none⟩)) := HO.out.c 1
  have d2 : W5.drew.cell? ⟨w.heap.size + 1, 2, none⟩ = some (.int .i64 dx) := HT5.out.c2 2
  have TB := Lib.hid (quiet_sym (intBitLen_any 0 g1 0 (n : Int) W5.drew HN.out.drew (by rw [Int.natAbs_natCast]; omega)))
  have TNr := Lib.hid (quiet_sym (near_any dx (nbits n : Int) W5.drew (by omega) (by omega)))
  rw [Int.natAbs_natCast] at TB
  have TT := Lib.hid (times_any g1 g2 n 1 (nearI dx (nbits n)) W5.drew HN.out.drew HD.out.drew (by omega) (by omega) (by omega) (by have := length_ofN_le (n := 1) (k := 1) (by omega); omega))
  refine wp_region_calm_tail 7 (by kernel_rfl) (by kernel_rfl) (fun _ _ d _ _ h => by cases d <;> exact h) ?_
  simp only [List.take_succ_cons, List.take_zero, List.drop_succ_cons, List.drop_zero]
  rw [show ({ W5 with drawn := W5.drawn + 1 } : World) = W5.drew from rfl]
  have HO6 := Lib.hid (show W5.drew.heap[w4.heap.size]? = some (.cells #[.pointer (some ⟨g1, 0, none⟩), .pointer (some ⟨g2, 0, none⟩)] 169 (0, 0)) from HO.out.b1)
  have HT6 := Lib.hid (show Two w W5.drew _ _ _ _ from ⟨HT5.out.b1, HT5.out.b2, ⟨HT5.out.below.os, HT5.out.below.tape, HT5.out.below.output, HT5.out.below.size, HT5.out.below.block⟩, HT5.out.size⟩)
  have hz6 : w4.heap.size + 1 ≤ W5.drew.heap.size := hz5
  have HTS := Lib.hid (HT4.out.size)
  clear HO HT5 HN HD HT4 HI4 HI5 hz5
  generalize W5.drew = W6 at *
  iterate 5 still_step
  refine wpStill_step (fun K hK => ?_)
  go_simp
  refine ⟨_, TB.out, ?_⟩
  refine hK _ ?_
  clear hK K
  refine wpStill_step (fun K hK => ?_)
  go_simp
  refine ⟨_, TNr.out, ?_⟩
  refine hK _ ?_
  clear hK K
  refine wpStill_nil ?_
  clear TB TNr
  go_wp2_with fail
  with_reducible refine TT.out.mono ?_
  rintro e w7 ⟨p1, p2, rfl, hb7, hj1, hj2⟩
  have hbk : w7.heap[w4.heap.size]? = some (.cells #[.pointer (some ⟨g1, 0, none⟩), .pointer (some ⟨g2, 0, none⟩)] 169 (0, 0)) := (hb7.block _ (by omega)).trans HO6.out
  have hne1 : p1 ≠ w4.heap.size := by
    rintro rfl
    have h := hj1.2.1
    unfold World.cell? at h; rw [hbk] at h; cases h
  have hne2 : p2 ≠ w4.heap.size := by
    rintro rfl
    have h := hj2.2.1
    unfold World.cell? at h; rw [hbk] at h; cases h
  have HT7 := Lib.hid (HT6.out.under hb7)
  have f0 : w7.frozen? ⟨w4.heap.size, 0, none⟩ = false := frozen_of_row _ _ 0 _ _ hbk
  have f1 : w7.frozen? ⟨w4.heap.size, 1, none⟩ = false := frozen_of_row _ _ 1 _ _ hbk
  have b0 : w7.cell? ⟨w4.heap.size, 0, none⟩ = some (.pointer (some ⟨g1, 0, none⟩)) := by unfold World.cell?; rw [hbk]; rfl
  have b1 : w7.cell? ⟨w4.heap.size, 1, none⟩ = some (.pointer (some ⟨g2, 0, none⟩)) := by unfold World.cell?; rw [hbk]; rfl
  have HJ1 := Lib.hid (hj1.store2 hbk (by decide) (by simp) hne1 (.pointer (some ⟨p1, 0, none⟩)) (.pointer (some ⟨p2, 0, none⟩)))
  have HJ2 := Lib.hid (hj2.store2 hbk (by decide) (by simp) hne2 (.pointer (some ⟨p1, 0, none⟩)) (.pointer (some ⟨p2, 0, none⟩)))
  have TS := Lib.hid (signed_any p1 p2 (dyN n dx) (dyD n dx) ex fr dn neg mode _ HJ1.out HJ2.out hpos x1 x2 x3 x4 hm (by have := HDB.out; omega) (by have := HDB.out; omega))
  have hz7 : w.heap.size + 2 ≤ w4.heap.size := HTS.out
  obtain ⟨q0, q1⟩ := set2 (.pointer (some ⟨p1, 0, none⟩)) (.pointer (some ⟨p2, 0, none⟩)) b0 b1
  have c0 : ((w7.setCell ⟨w4.heap.size, 0, none⟩ (.pointer (some ⟨p1, 0, none⟩))).setCell ⟨w4.heap.size, 1, none⟩ (.pointer (some ⟨p2, 0, none⟩))).cell? ⟨w.heap.size, 0, none⟩ = some (.int .i64 (ex : Int)) :=
    (cell_far2 (by omega) _ _).trans (HT7.out.c1 0)
  have c1 : ((w7.setCell ⟨w4.heap.size, 0, none⟩ (.pointer (some ⟨p1, 0, none⟩))).setCell ⟨w4.heap.size, 1, none⟩ (.pointer (some ⟨p2, 0, none⟩))).cell? ⟨w.heap.size, 1, none⟩ = some (.int .i64 (fr : Int)) :=
    (cell_far2 (by omega) _ _).trans (HT7.out.c1 1)
  have d0 : ((w7.setCell ⟨w4.heap.size, 0, none⟩ (.pointer (some ⟨p1, 0, none⟩))).setCell ⟨w4.heap.size, 1, none⟩ (.pointer (some ⟨p2, 0, none⟩))).cell? ⟨w.heap.size + 1, 0, none⟩ = some (.bool dn) :=
    (cell_far2 (by omega) _ _).trans (HT7.out.c2 0)
  have HB8 := Lib.hid (show Below w.heap.size w ((w7.setCell ⟨w4.heap.size, 0, none⟩ (.pointer (some ⟨p1, 0, none⟩))).setCell ⟨w4.heap.size, 1, none⟩ (.pointer (some ⟨p2, 0, none⟩))) from (HT7.out.below.setCell (by show w.heap.size ≤ w4.heap.size; omega) _).setCell (by show w.heap.size ≤ w4.heap.size; omega) _)
  clear hb7 hj1 hj2 hne1 hne2 hbk TT HT6 HO6 HT7 HJ1 HJ2
  go_wp2_with fail
  generalize (w7.setCell ⟨w4.heap.size, 0, none⟩ (.pointer (some ⟨p1, 0, none⟩))).setCell ⟨w4.heap.size, 1, none⟩ (.pointer (some ⟨p2, 0, none⟩)) = W8 at *
  with_reducible refine TS.out.mono ?_
  rintro e w9 ⟨rfl, hb9⟩
  have HB9 := Lib.hid (HB8.out.trans (hb9.mono HB8.out.size))
  clear hb9 TS HB8
  go_wp2
  go_ret3
  exact ⟨rfl, HB9.out⟩

end Go.Proofs.YtihdnfhclocndaaGreatDoor
