/- numeral/big: numbers' methods: Mul, Lsh. numeral/big: numbers' methods: Or. numeral/nat: trimmed, Of, Check. numeral/nat: Check; numeral/exact: none, far. -/
import Derived.Test.YtihdnfhclocndaaGreatDoorQs15
import Derived.Handy
namespace Go.Proofs.YtihdnfhclocndaaGreatDoor
open Go.RowKit W

theorem sg_mul (x y : Int) : sg (!(decide (x < 0) == decide (y < 0))) (x.natAbs * y.natAbs) = x * y := by
  rcases (show x < 0 ∨ 0 ≤ x by omega) with h1 | h1 <;> rcases (show y < 0 ∨ 0 ≤ y by omega) with h2 | h2
  · rw [decide_eq_true h1, decide_eq_true h2]
    obtain ⟨n, rfl⟩ : ∃ n : Nat, x = -(n : Int) := ⟨x.natAbs, by omega⟩
    obtain ⟨m, rfl⟩ : ∃ m : Nat, y = -(m : Int) := ⟨y.natAbs, by omega⟩
    rw [Int.natAbs_neg, Int.natAbs_neg, Int.natAbs_natCast, Int.natAbs_natCast, Int.neg_mul_neg]
    rfl
  · rw [decide_eq_true h1, decide_eq_false (show ¬ y < 0 by omega)]
    obtain ⟨n, rfl⟩ : ∃ n : Nat, x = -(n : Int) := ⟨x.natAbs, by omega⟩
    obtain ⟨m, rfl⟩ : ∃ m : Nat, y = (m : Int) := ⟨y.natAbs, by omega⟩
    rw [Int.natAbs_neg, Int.natAbs_natCast, Int.natAbs_natCast, Int.neg_mul]
    rfl
  · rw [decide_eq_true h2, decide_eq_false (show ¬ x < 0 by omega)]
    obtain ⟨n, rfl⟩ : ∃ n : Nat, x = (n : Int) := ⟨x.natAbs, by omega⟩
    obtain ⟨m, rfl⟩ : ∃ m : Nat, y = -(m : Int) := ⟨y.natAbs, by omega⟩
    rw [Int.natAbs_neg, Int.natAbs_natCast, Int.natAbs_natCast, Int.mul_neg]
    rfl
  · rw [decide_eq_false (show ¬ y < 0 by omega), decide_eq_false (show ¬ x < 0 by omega)]
    obtain ⟨n, rfl⟩ : ∃ n : Nat, x = (n : Int) := ⟨x.natAbs, by omega⟩
    obtain ⟨m, rfl⟩ : ∃ m : Nat, y = (m : Int) := ⟨y.natAbs, by omega⟩
    rw [Int.natAbs_natCast, Int.natAbs_natCast]
    rfl

theorem sg_shl (x : Int) (n : Nat) : sg (decide (x < 0)) (x.natAbs * 2 ^ n) = x * 2 ^ n := by
  have h := sg_mul x (2 ^ n)
  have h1 : (2 : Int) ^ n = ((2 ^ n : Nat) : Int) := by simp
  have h2 : ¬ ((2 : Int) ^ n < 0) := by rw [h1]; exact Int.not_lt.2 (Int.natCast_nonneg _)
  have h3 : ((2 : Int) ^ n).natAbs = 2 ^ n := by rw [h1]; rfl
  rw [h3, decide_eq_false h2] at h
  rw [← h]
  cases decide (x < 0) <;> rfl

set_option maxRecDepth 100000 in
set_option maxHeartbeats 1000000 in
theorem intLsh_any (base g o gx ox : Nat) (x : Int) (n : Nat) (w : World) (hs : Spot base w g o) (hx : IntAt base w gx ox x) (hb : base ≤ w.heap.size)
    (hl : (ofN x.natAbs).length ≤ 274877906944) (hn : n ≤ 8796093022208) :
    Calls Tryz.prog 125 #[.pointer (some ⟨g, o, none⟩), .pointer (some ⟨gx, ox, none⟩), .int .u64 (n : Int)] w (SetsInt base w g o (x * 2 ^ n)) := by
  obtain ⟨A, c, c1, c2, hrd, hc, hm⟩ := hx.rd
  have hlt := hx.lt
  have T := Lib.hid (up_any A (ofN x.natAbs) c n w.drew hrd.drew (small_ofN _) (by omega) hn)
  rw [wv_ofN] at T
  have e1 : IntKind.i64.wrap (n : Int) = (n : Int) := by simp only [IntKind.wrap_i64]; omega
  have HS := Lib.hid hs
  have HZ := Lib.hid (sg_shl x n)
  clear hrd hx hs
  go_enter Tryz.func125, Tryz.ntmps125
  go_wp2
  refine wp_region_one_call 11 (fun w' => w'.cell? ⟨gx, ox, none⟩ = some (.bool (decide (x < 0))) ∧ w'.cell? ⟨gx, ox + 1, none⟩ = some (.slice A (ofN x.natAbs).length c)) (by kernel_rfl) (by kernel_rfl) (fun _ _ d _ _ h => by cases d <;> exact h) ⟨c1, c2⟩ rfl ?_
  simp only [List.take_succ_cons, List.take_zero, List.drop_succ_cons, List.drop_zero]
  repeat
    refine wpReads_cons ?_ (by rfl) ?_ ?_
    rotate_left 1
    · (rintro w' ⟨k1, k2⟩; go_simp; first | done | with_reducible rfl)
    try simp only [Act.put, List.setIfInBounds_toArray, List.set_cons_zero, List.set_cons_succ]
  refine wpReads_nil ?_
  intro K hK
  go_simp
  with_reducible refine T.out.mono ?_
  rintro e w1 ⟨A2, n2, rfl, hb1, hr1, k1, k2, k3⟩
  have c1' : w1.cell? ⟨gx, ox, none⟩ = _ := (hb1.cell (p := ⟨gx, ox, none⟩) hlt).trans c1
  have c2' : w1.cell? ⟨gx, ox + 1, none⟩ = _ := (hb1.cell (p := ⟨gx, ox + 1, none⟩) hlt).trans c2
  have S := Lib.hid (sets_new (base := base) (w := w.drew) HS.out.drew hb1 hr1 (small_ofN _) (decide (x < 0)) (x * 2 ^ n) (by rw [wv_ofN]; exact HZ.out) rfl hb)
  refine hK _ _ ⟨c1', c2'⟩ ?_
  clear hb1 hr1 k1 k2 k3 T hK
  go_wp2_with fail
  with_reducible refine S.out.mono ?_
  rintro e w2 ⟨rfl, hS⟩
  clear S
  go_wp2
  go_ret
  exact SetsInt.undrew ⟨rfl, hS⟩

set_option maxRecDepth 100000 in
set_option maxHeartbeats 1000000 in
theorem intMul_any (base g o gx ox gy oy : Nat) (x y : Int) (w : World) (hs : Spot base w g o) (hx : IntAt base w gx ox x) (hy : IntAt base w gy oy y) (hb : base ≤ w.heap.size)
    (hl : (ofN x.natAbs).length + (ofN y.natAbs).length ≤ 274877906944) :
    Calls Tryz.prog 111 #[.pointer (some ⟨g, o, none⟩), .pointer (some ⟨gx, ox, none⟩), .pointer (some ⟨gy, oy, none⟩)] w (SetsInt base w g o (x * y)) := by
  obtain ⟨A, c, c1, c2, hrd, hc, hm⟩ := hx.rd
  obtain ⟨A2, d, d1, d2, hrd2, hd, hm2⟩ := hy.rd
  have hlt := hx.lt
  have hlt2 := hy.lt
  have T := Lib.hid (mulWords_any A A2 (ofN x.natAbs) (ofN y.natAbs) c d w.drew hl hrd.drew hrd2.drew (norm_ofN _) (norm_ofN _) hc hd hm hm2)
  simp only [wv_ofN] at T
  have HS := Lib.hid hs
  have HZ := Lib.hid (sg_mul x y)
  clear hrd hrd2 hx hy hs hc hd hm hm2
  go_enter Tryz.func111, Tryz.ntmps111
  go_wp2
  refine wp_region_one_call 18 (fun w' => w'.cell? ⟨gx, ox, none⟩ = some (.bool (decide (x < 0))) ∧ w'.cell? ⟨gx, ox + 1, none⟩ = some (.slice A (ofN x.natAbs).length c) ∧
    w'.cell? ⟨gy, oy, none⟩ = some (.bool (decide (y < 0))) ∧ w'.cell? ⟨gy, oy + 1, none⟩ = some (.slice A2 (ofN y.natAbs).length d)) (by kernel_rfl) (by kernel_rfl) (fun _ _ d _ _ h => by cases d <;> exact h) ⟨c1, c2, d1, d2⟩ rfl ?_
  simp only [List.take_succ_cons, List.take_zero, List.drop_succ_cons, List.drop_zero]
  repeat
    refine wpReads_cons ?_ (by rfl) ?_ ?_
    rotate_left 1
    · (rintro w' ⟨k1, k2, k3, k4⟩; go_simp; first | done | with_reducible rfl)
    try simp only [Act.put, List.setIfInBounds_toArray, List.set_cons_zero, List.set_cons_succ]
  refine wpReads_nil ?_
  intro K hK
  go_simp
  with_reducible refine T.out.mono ?_
  rintro e w1 ⟨A3, n2, rfl, hb1, hr1, k1, k2, k3⟩
  have c1' : w1.cell? ⟨gx, ox, none⟩ = _ := (hb1.cell (p := ⟨gx, ox, none⟩) hlt).trans c1
  have c2' : w1.cell? ⟨gx, ox + 1, none⟩ = _ := (hb1.cell (p := ⟨gx, ox + 1, none⟩) hlt).trans c2
  have d1' : w1.cell? ⟨gy, oy, none⟩ = _ := (hb1.cell (p := ⟨gy, oy, none⟩) hlt2).trans d1
  have d2' : w1.cell? ⟨gy, oy + 1, none⟩ = _ := (hb1.cell (p := ⟨gy, oy + 1, none⟩) hlt2).trans d2
  have S := Lib.hid (sets_new (base := base) (w := w.drew) HS.out.drew hb1 hr1 (small_ofN _) (!(decide (x < 0) == decide (y < 0))) (x * y) (by rw [wv_ofN]; exact HZ.out) rfl hb)
  refine hK _ _ ⟨c1', c2', d1', d2'⟩ ?_
  clear hb1 hr1 k1 k2 k3 T hK
  go_wp2_with fail
  with_reducible refine S.out.mono ?_
  rintro e w2 ⟨rfl, hS⟩
  clear S
  go_wp2
  go_ret
  exact SetsInt.undrew ⟨rfl, hS⟩

end Go.Proofs.YtihdnfhclocndaaGreatDoor
namespace Go.Proofs.YtihdnfhclocndaaGreatDoor
open Go.RowKit W

theorem or_split (a A b B : Nat) (ha : a < 4294967296) (hb : b < 4294967296) : (a + 4294967296 * A) ||| (b + 4294967296 * B) = (a ||| b) + 4294967296 * (A ||| B) := by
  apply Nat.eq_of_testBit_eq
  intro j
  have hab : a ||| b < 2 ^ 32 := Nat.or_lt_two_pow (by omega) (by omega)
  rw [Nat.testBit_or, show a + 4294967296 * A = 2 ^ 32 * A + a by omega, show b + 4294967296 * B = 2 ^ 32 * B + b by omega, show (a ||| b) + 4294967296 * (A ||| B) = 2 ^ 32 * (A ||| B) + (a ||| b) by omega,
    Nat.testBit_two_pow_mul_add _ (by omega), Nat.testBit_two_pow_mul_add _ (by omega), Nat.testBit_two_pow_mul_add _ hab]
  split
  · rw [Nat.testBit_or]
  · rw [Nat.testBit_or]

theorem wv_or : ∀ (zs xs ys : List Nat), Small xs → Small ys → xs.length ≤ zs.length → ys.length ≤ zs.length → (∀ j, j < zs.length → nth zs j = nth xs j ||| nth ys j) → wv zs = wv xs ||| wv ys
  | [], xs, ys, _, _, h1, h2, _ => by
    obtain rfl := List.eq_nil_of_length_eq_zero (Nat.le_zero.1 h1)
    obtain rfl := List.eq_nil_of_length_eq_zero (Nat.le_zero.1 h2)
    rfl
  | z :: zs, xs, ys, s1, s2, h1, h2, h => by
    have hd : ∀ l : List Nat, wv l = nth l 0 + 4294967296 * wv l.tail := by
      intro l
      cases l with
      | nil => rfl
      | cons a l => rfl
    have ht : ∀ (l : List Nat) j, nth l.tail j = nth l (j + 1) := by
      intro l j
      cases l with
      | nil => rfl
      | cons a l => rfl
    have hsm : ∀ l : List Nat, Small l → Small l.tail := fun l hl x hx => hl x (List.mem_of_mem_tail hx)
    have ih := wv_or zs xs.tail ys.tail (hsm _ s1) (hsm _ s2) (by rw [List.length_tail]; simp at h1; omega) (by rw [List.length_tail]; simp at h2; omega)
      (fun j hj => by rw [ht, ht]; exact h (j + 1) (by simpa using hj))
    have h0 := h 0 (by simp)
    rw [hd xs, hd ys, or_split _ _ _ _ (nth_lt s1 0) (nth_lt s2 0), ← ih, ← h0]
    rfl

theorem nth_pad (xs : List Nat) (m j : Nat) : nth (xs ++ List.replicate m 0) j = nth xs j := by
  unfold nth
  rw [List.getD_eq_getElem?_getD, List.getD_eq_getElem?_getD]
  rcases Nat.lt_or_ge j xs.length with h | h
  · rw [List.getElem?_append_left h]
  · rw [List.getElem?_append_right h, List.getElem?_eq_none h, List.getElem?_replicate]
    split <;> rfl

theorem nth_set {xs : List Nat} {k j : Nat} (v : Nat) (h : j < xs.length) : nth (xs.set k v) j = if j = k then v else nth xs j := by
  unfold nth
  rw [List.getD_eq_getElem?_getD, List.getD_eq_getElem?_getD, List.getElem?_set]
  by_cases e : k = j
  · subst e
    simp [h]
  · rw [if_neg e, if_neg (fun h => e h.symm)]

set_option maxRecDepth 100000 in
set_option maxHeartbeats 1000000 in
theorem intOr_any (base g o gx ox gy oy : Nat) (x y : Int) (w : World) (hs : Spot base w g o) (hx : IntAt base w gx ox x) (hy : IntAt base w gy oy y) (hb : base ≤ w.heap.size)
    (hl : (ofN x.natAbs).length ≤ 274877906944) (hl2 : (ofN y.natAbs).length ≤ 274877906944) :
    Calls Tryz.prog 126 #[.pointer (some ⟨g, o, none⟩), .pointer (some ⟨gx, ox, none⟩), .pointer (some ⟨gy, oy, none⟩)] w (SetsInt base w g o ((x.natAbs ||| y.natAbs : Nat) : Int)) := by
  obtain ⟨A, c, c1, c2, hrd, hc, hm⟩ := hx.rd
  obtain ⟨A2, d, d1, d2, hrd2, hd, hm2⟩ := hy.rd
  have hlt := hx.lt
  have hlt2 := hy.lt
  have HS := Lib.hid hs
  have HR1 := Lib.hid hrd
  have HR2 := Lib.hid hrd2
  have sx := Lib.hid (small_ofN x.natAbs)
  have sy := Lib.hid (small_ofN y.natAbs)
  have HV := Lib.hid (fun zs hz1 hz2 h => (wv_or zs (ofN x.natAbs) (ofN y.natAbs) (small_ofN _) (small_ofN _) hz1 hz2 h).trans (by rw [wv_ofN, wv_ofN]))
  clear hx hy hs hrd hrd2
  generalize ofN x.natAbs = xs at *
  generalize ofN y.natAbs = ys at *
  obtain ⟨n, hn⟩ : ∃ n, n = max xs.length ys.length := ⟨_, rfl⟩
  have hmk : ∀ w : World, (Instr.makeSlice tU32s (.int .i64 (max (xs.length : Int) (ys.length : Int))) (.int .i64 (max (xs.length : Int) (ys.length : Int)))).run Tryz.prog w =
      .ok (.slice (some ⟨w.heap.size, 0, none⟩) n n) (w.alloc (.cells (u32l (List.replicate n 0)).toArray tU32)) := by
    intro w
    rw [show max (xs.length : Int) (ys.length : Int) = (n : Int) by omega]
    exact make_u32 w (n : Int) (by omega) (by omega)
  have hnx : xs.length ≤ n := by omega
  have hny : ys.length ≤ n := by omega
  have hnm : n ≤ 274877906944 := by omega
  clear hn
  go_enter Tryz.func126, Tryz.ntmps126
  go_wp2
  go_still_tail 11, (by kernel_rfl)
  change wpList _ _ _ _ _ w.drew
  have c2q : w.drew.cell? ⟨gx, ox + 1, none⟩ = _ := c2
  have d2q : w.drew.cell? ⟨gy, oy + 1, none⟩ = _ := d2
  have R1q := Lib.hid HR1.out.drew
  have R2q := Lib.hid HR2.out.drew
  have HSq := Lib.hid HS.out.drew
  have hltq : gx < w.drew.heap.size := hlt
  have hlt2q : gy < w.drew.heap.size := hlt2
  have hbq : base ≤ w.drew.heap.size := hb
  have HU := Lib.hid (fun e w' => @SetsInt.undrew base w g o ((x.natAbs ||| y.natAbs : Nat) : Int) e w')
  clear c1 c2 d1 d2 HR1 HR2 HS hlt hlt2 hb
  generalize w.drew = wd at *
  have hA := Lib.hid (fun hn => (R1q.out.keep (w' := wd.alloc (.cells (u32l (List.replicate n 0)).toArray tU32)) fun p hp => World.cell?_alloc_lt wd _ p hp).at_ hn)
  go_wp2_with (refine wpList_copy_splice rfl (.tmp 22) (.tmp 26) 42 42 rfl tU32 Tryz.underlying42 (by kernel_rfl) (some ⟨wd.heap.size, 0, none⟩) A n n xs.length c rfl rfl wd.heap.size 0 (u32l (List.replicate n 0)) tU32 ?c0 (u32l xs) ?c1 ?c2 ?c3 (oneCell_u32l xs) wd.heap.size wd ?c4 (Nat.le_refl _) ?_)
  case c0 => exact heap_alloc_new wd _
  case c1 => rw [length_u32l]; exact (Nat.min_eq_left hnx).symm
  case c2 => intro hn; exact hA.out hn
  case c3 => rw [length_u32l, length_u32l, List.length_replicate]; omega
  case c4 => exact (Below.refl _ _).alloc (Nat.le_refl _) _
  intro w1 hg hB
  have hL1 : Loc wd.heap.size w1 wd.heap.size n n (xs ++ List.replicate (n - xs.length) 0) := by
    have h := hg.out
    rw [splice_head xs xs _ hnx] at h
    have h5 := Loc.of_block (zs := xs ++ List.replicate (n - xs.length) 0) h (Nat.le_refl _) (small_pad sx.out _) (by simp; omega)
    have e : (xs ++ List.replicate (n - xs.length) 0).length = n := by simp; omega
    rwa [e] at h5
  have HB1 := Lib.hid hB
  have d2w : w1.cell? ⟨gy, oy + 1, none⟩ = _ := (hB.cell (p := ⟨gy, oy + 1, none⟩) hlt2q).trans d2q
  clear hg hB hA c2q
  go_wp2
  go_loopw [8, 9, 33] (fun _ _ i wr => ∃ (k : Nat) (zs : List Nat), k ≤ ys.length ∧ i = .int .i64 k ∧ Loc wd.heap.size wr wd.heap.size n n zs ∧ Below wd.heap.size wd wr ∧
      Hid (∀ j, j < n → nth zs j = if j < k then nth xs j ||| nth ys j else nth xs j)) (fun _ _ i _ => ys.length - (intOf i).toNat)
  case atStart =>
    refine ⟨0, _, by omega, rfl, hL1, HB1.out, ?_⟩
    intro j _
    rw [if_neg (by omega)]
    exact nth_pad xs _ j
  case round =>
    obtain ⟨k, zs, hk, rfl, hL, hB, hI⟩ := hrel
    by_cases hlt : k < ys.length
    · obtain ⟨b, o2, rfl, hy⟩ := (R2q.out.below hB) (by omega)
      have hy := hy k hlt
      have hz := hL.cell (k := k) (by omega)
      have hf := hL.frozen k
      have bz := nth_lt hL.small k
      have by' := nth_lt sy.out k
      have hor := u32_or_nat (nth zs k) (nth ys k) bz by'
      have hob : nth zs k ||| nth ys k < 4294967296 := Nat.or_lt_two_pow (n := 32) bz by'
      go_wp2
      go_roundw
      case rel =>
        refine ⟨k + 1, zs.set k (nth zs k ||| nth ys k), by omega, by go_num, hL.put k rfl hob, hB.setCell (Nat.le_refl _) _, ?_⟩
        intro j hj
        have h0 := hI.out j hj
        rw [nth_set _ (by rw [hL.len]; exact hj)]
        by_cases hjk : j = k
        · subst hjk
          rw [if_pos rfl, if_pos (by omega), h0, if_neg (by omega)]
        · rw [if_neg hjk, h0]
          by_cases h3 : j < k
          · rw [if_pos h3, if_pos (by omega)]
          · rw [if_neg h3, if_neg (by omega)]
      case measure => simp [intOf]; omega
    · obtain rfl : k = ys.length := by omega
      have hv : wv zs = x.natAbs ||| y.natAbs := HV.out zs (by rw [hL.len]; exact hnx) (by rw [hL.len]; exact hny) (fun j hj => by
        have hj' : j < n := by rw [← hL.len]; exact hj
        have h := hI.out j hj'
        rw [h]
        split
        · rfl
        · rename_i h3
          rw [nth_ge (xs := ys) (by omega), Nat.or_zero])
      have T := Lib.hid (trim_len (some ⟨wd.heap.size, 0, none⟩) zs n n wr hL.len hL.rd hL.small (Nat.le_refl _) (by simp [maxLen]; omega))
      have S := Lib.hid (sets_new (base := base) (w := wd) (n := tl zs) HSq.out hB hL.trim (small_ofN _) false ((x.natAbs ||| y.natAbs : Nat) : Int) (by rw [wv_ofN, sg_false, hv]) rfl hbq)
      clear hL hB hI hv
      go_wp2_with fail
      with_reducible refine T.out.mono ?_
      rintro e w' ⟨rfl, rfl⟩
      go_wp2_with fail
      with_reducible refine S.out.mono ?_
      rintro e w2 ⟨rfl, hS⟩
      clear S
      go_wp2
      go_ret
      exact HU.out _ _ ⟨rfl, hS⟩

end Go.Proofs.YtihdnfhclocndaaGreatDoor
namespace Go.Proofs.YtihdnfhclocndaaGreatDoor
open Go.RowKit W

/-- A whole number's value: its limbs. -/
def natV (A : Option Addr) (n : Nat) : Value := .agg #[.slice A (ofN n).length (ofN n).length]

/-- A function hands back a whole number. -/
def GivesNat (w : World) (n : Nat) (e : Ending) (w' : World) : Prop :=
  ∃ A, e = .returned (natV A n) ∧ Below w.heap.size w w' ∧ Rd w' A (ofN n)

/-- A store into a cell that holds no word leaves the words. -/
theorem Rd.store {w : World} {A : Option Addr} {xs : List Nat} (h : Rd w A xs) {p : Addr} {v : Value} (hc : w.cell? p = some v) (hv : ∀ k, v ≠ .int .u32 k) (u : Value) : Rd (w.setCell p u) A xs := by
  intro hn
  obtain ⟨b, o, rfl, hcell⟩ := h hn
  refine ⟨b, o, rfl, fun j hj => ?_⟩
  rw [World.cell?_setCell_other w _ _ u (fun e => by rw [e, hcell j hj] at hc; cases hc; exact hv _ rfl)]
  exact hcell j hj

set_option maxRecDepth 100000 in
theorem trimmed_any (A : Option Addr) (xs : List Nat) (c : Nat) (w : World) (h : Rd w A xs) (hs : Small xs) (hc : xs.length ≤ c) (hm : c ≤ maxLen) :
    Calls Tryz.prog 103 #[.slice A xs.length c] w (GivesNat w (wv xs)) := by
  unfold maxLen at hm
  have HS := Lib.hid hs
  have HT := Lib.hid h
  clear hs h
  go_enter Tryz.func103, Tryz.ntmps103
  go_wp2
  have HA := Lib.hid (HT.out.below ((Below.refl w.heap.size w).alloc (Nat.le_refl _) (.cells #[.slice none 0 0] 44)))
  have hB := Lib.hid ((Below.refl w.heap.size w).alloc (Nat.le_refl _) (.cells #[.slice none 0 0] 44))
  have hw2 : w.heap.size < (w.alloc (.cells #[.slice none 0 0] 44)).heap.size := by simp
  go_loop [3] (fun n => ∃ k : Nat, k ≤ xs.length ∧ Hid (∀ j, k ≤ j → nth xs j = 0) ∧ n = .int .i64 k) (fun n => (intOf n).toNat)
  case atStart => exact ⟨xs.length, Nat.le_refl _, fun j hj => nth_ge hj, rfl⟩
  case round =>
    obtain ⟨k, hk, hz, rfl⟩ := hrel
    by_cases h0 : 0 < k
    · obtain ⟨b, o, rfl, hcell⟩ := HA.out (by omega)
      have hx := hcell (k - 1) (by omega)
      have hc1 := hc
      clear hcell
      by_cases hv : nth xs (k - 1) = 0
      · have hv' : ((nth xs (k - 1) : Int) == 0) = true := by simp [hv]
        have HV := Lib.hid hv; clear hv
        go_wp2
        go_round
        case rel => exact ⟨k - 1, by omega, fun j hj => by
          rcases Nat.lt_or_ge j k with h1 | h1
          · have : j = k - 1 := by omega
            subst this; exact HV.out
          · exact hz.out j h1, by go_num⟩
        case measure => simp [intOf]; omega
      · have hv' : ((nth xs (k - 1) : Int) == 0) = false := by simp; omega
        have hk0 : ((k : Int) == 0) = false := by simp; omega
        have HE := Lib.hid (tl_eq HS.out hk hz.out (.inr (by unfold nth at hv; exact hv)))
        clear hv
        go_wp2
        go_returns
        have e : (ofN (wv xs)).length = k := HE.out
        have hb := (Below.refl w.heap.size w).alloc (Nat.le_refl _) (.cells #[.slice (some ⟨b, o, none⟩) k k] 44)
        exact ⟨some ⟨b, o, none⟩, by unfold natV; rw [e], hb, (HT.out.trimmed HS.out).below hb⟩
    · have e : k = 0 := by omega
      subst e
      have HE := Lib.hid (tl_eq HS.out hk hz.out (.inl rfl))
      go_wp2
      go_returns
      have e : (ofN (wv xs)).length = 0 := HE.out
      refine ⟨none, by unfold natV; rw [e], hB.out, ?_⟩
      rw [List.eq_nil_of_length_eq_zero e]
      exact Rd.nil _ _

set_option maxRecDepth 100000 in
theorem natOf_any (x : Nat) (w : World) (hx : x < 18446744073709551616) :
    Calls Tryz.prog 61 #[.int .u64 (x : Int)] w (GivesNat w x) := by
  have hL : ∀ w : World, Loc w.heap.size (w.alloc (.cells #[.int .u32 ((x : Int) % 4294967296), .int .u32 ((x : Int) / 4294967296)] tU32)) w.heap.size 2 2 [x % 4294967296, x / 4294967296] := by
    intro w
    refine Loc.of_block (zs := [x % 4294967296, x / 4294967296]) ?_ (Nat.le_refl _) (small_cons.2 ⟨by omega, small_cons.2 ⟨by omega, small_nil⟩⟩) (by simp)
    rw [heap_alloc_new]
    simp [u32l]
  have T := Lib.hid (trimmed_any _ _ 2 _ (hL (w.alloc (.cells #[.slice none 0 0] 44))).rd (hL (w.alloc (.cells #[.slice none 0 0] 44))).small (by simp) (by simp [maxLen]))
  have hv : wv [x % 4294967296, x / 4294967296] = x := by simp [wv]; omega
  rw [hv, show (w.alloc (.cells #[.slice none 0 0] 44)).heap.size = w.heap.size + 1 from by simp, show [x % 4294967296, x / 4294967296].length = 2 from rfl] at T
  clear hL hv
  obtain ⟨w0, hw0⟩ : ∃ w0, w0 = (w.alloc (.cells #[.slice none 0 0] 44)).alloc (.cells #[.int .u32 ((x : Int) % 4294967296), .int .u32 ((x : Int) / 4294967296)] tU32) := ⟨_, rfl⟩
  have hs0 : w0.heap.size = w.heap.size + 2 := by rw [hw0]; simp
  have hc0 : w0.cell? ⟨w.heap.size, 0, none⟩ = some (.slice none 0 0) := by
    rw [hw0, World.cell?_alloc_lt _ _ _ (by simp)]
    unfold World.cell?
    rw [show (w.alloc (.cells #[.slice none 0 0] 44)).heap[w.heap.size]? = _ from heap_alloc_new w _]
    rfl
  have hf0 : w0.frozen? ⟨w.heap.size, 0, none⟩ = false := by
    rw [hw0]
    refine frozen_of_row _ w.heap.size 0 #[.slice none 0 0] 44 ?_
    rw [show ((w.alloc (.cells #[.slice none 0 0] 44)).alloc (.cells #[.int .u32 ((x : Int) % 4294967296), .int .u32 ((x : Int) / 4294967296)] tU32)).heap[w.heap.size]? = (w.alloc (.cells #[.slice none 0 0] 44)).heap[w.heap.size]? from ((Below.refl _ _).alloc (Nat.le_refl _) _).block _ (by simp)]
    exact heap_alloc_new w _
  have hb0 : Below w.heap.size w w0 := by rw [hw0]; exact ((Below.refl _ _).alloc (Nat.le_refl _) _).alloc (by simp) _
  have HW := Lib.hid (show w0 = (w.alloc (.cells #[.slice none 0 0] 44)).alloc (.cells #[.int .u32 ((x : Int) % 4294967296), .int .u32 ((x : Int) / 4294967296)] tU32) from hw0)
  rw [← hw0] at T
  go_enter Tryz.func61, Tryz.ntmps61
  go_wp2_with fail
  rw [← hw0]
  clear hw0
  with_reducible refine T.out.mono ?_
  rintro e w1 ⟨A, rfl, hb, hr⟩
  have hc1 : w1.cell? ⟨w.heap.size, 0, none⟩ = some (.slice none 0 0) := (hb.cell (p := ⟨w.heap.size, 0, none⟩) (by rw [hs0]; simp)).trans hc0
  have hf1 : w1.frozen? ⟨w.heap.size, 0, none⟩ = false := (hb.frozen (p := ⟨w.heap.size, 0, none⟩) (by rw [hs0]; simp)).trans hf0
  have HB := Lib.hid (hb0.trans (hb.mono (by omega)))
  have HR := Lib.hid hr
  clear hb hr T hb0 hc0 hf0
  unfold natV
  go_wp2
  have hc2 := cell_same (v := .slice A (ofN x).length (ofN x).length) hc1
  refine bodyPost_ret (v := natV A x) (by simp [results, Tryz.results61, go_sem, hc2, natV]) rfl ?_
  exact ⟨A, rfl, HB.out.setCell (Nat.le_refl _) _, HR.out.store hc1 (by intro k h; cases h) _⟩

end Go.Proofs.YtihdnfhclocndaaGreatDoor
namespace Go.Proofs.YtihdnfhclocndaaGreatDoor
open Go.RowKit W

/-- What Check tells of limbs. -/
def natCheck (xs : List Nat) : Int := if 16384 < xs.length then 4 else if 0 < xs.length ∧ nth xs (xs.length - 1) = 0 then 10 else 0

set_option maxRecDepth 100000 in
theorem natCheck_any (A : Option Addr) (xs : List Nat) (c : Nat) (w : World) (h : Rd w A xs) (hs : Small xs) (hm : xs.length ≤ maxLen) :
    Calls Tryz.prog 98 #[.agg #[.slice A xs.length c]] w fun e w' => e = .returned (.int .i64 (natCheck xs)) ∧ Below w.heap.size w w' := by
  unfold maxLen at hm
  by_cases h1 : 16384 < xs.length
  · have e : natCheck xs = 4 := by unfold natCheck; rw [if_pos h1]
    rw [e]
    go_enter Tryz.func98, Tryz.ntmps98
    go_wp2
    go_ret
    exact ⟨rfl, (Below.refl _ _).alloc (Nat.le_refl _) _⟩
  · rcases Nat.eq_zero_or_pos xs.length with h0 | h0
    · have e : natCheck xs = 0 := by unfold natCheck; rw [if_neg h1, if_neg (by omega)]
      rw [e, h0]
      clear h
      go_enter Tryz.func98, Tryz.ntmps98
      go_wp2
      go_ret
      exact ⟨rfl, (Below.refl _ _).alloc (Nat.le_refl _) _⟩
    · have hal := h.below ((Below.refl w.heap.size w).alloc (Nat.le_refl _) (.cells #[.slice A xs.length c] 44))
      obtain ⟨b, o, rfl, hcell⟩ := hal h0
      have hx := hcell (xs.length - 1) (by omega)
      have bx := nth_lt hs (xs.length - 1)
      clear hcell hal h
      by_cases hv : nth xs (xs.length - 1) = 0
      · have e : natCheck xs = 10 := by unfold natCheck; rw [if_neg h1, if_pos ⟨h0, hv⟩]
        rw [e]
        have hv' : ((nth xs (xs.length - 1) : Int) == 0) = true := by simp [hv]
        have HV := Lib.hid hv; clear hv e
        go_enter Tryz.func98, Tryz.ntmps98
        go_wp2
        go_ret
        exact ⟨rfl, (Below.refl _ _).alloc (Nat.le_refl _) _⟩
      · have e : natCheck xs = 0 := by unfold natCheck; rw [if_neg h1, if_neg (fun h => hv h.2)]
        rw [e]
        have hv' : ((nth xs (xs.length - 1) : Int) == 0) = false := by simp; omega
        have HV := Lib.hid hv; clear hv e
        go_enter Tryz.func98, Tryz.ntmps98
        go_wp2
        go_ret
        exact ⟨rfl, (Below.refl _ _).alloc (Nat.le_refl _) _⟩

def noneB (n : Nat) : Bool := n == 0

set_option maxRecDepth 100000 in
theorem none_any (A : Option Addr) (n c : Nat) (w : World) :
    Calls Tryz.prog 142 #[.agg #[.slice A n c]] w fun e w' => e = .returned (.bool (decide (n = 0))) ∧ Below w.heap.size w w' := by
  by_cases h : n = 0
  · subst h
    go_enter Tryz.func142, Tryz.ntmps142
    go_wp2
    go_ret
    exact ⟨rfl, (Below.refl _ _).alloc (Nat.le_refl _) _⟩
  · have h' : ((n : Int) == 0) = false := by simpa using h
    rw [decide_eq_false h]
    go_enter Tryz.func142, Tryz.ntmps142
    go_wp2
    go_ret
    exact ⟨rfl, (Below.refl _ _).alloc (Nat.le_refl _) _⟩

end Go.Proofs.YtihdnfhclocndaaGreatDoor
