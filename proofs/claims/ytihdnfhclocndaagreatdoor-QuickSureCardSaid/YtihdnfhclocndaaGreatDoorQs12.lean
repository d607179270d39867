/- Plain arithmetic of words of 32 bits: the whole quotient. No program in sight. numeral/big: the words' functions: divWords. -/
import Derived.Test.YtihdnfhclocndaaGreatDoorQs10
import Derived.Test.YtihdnfhclocndaaGreatDoorQs11
namespace Go.Proofs.YtihdnfhclocndaaGreatDoor
namespace W

/-- How far what one divides by is moved. -/
theorem shift_top {ys : List Nat} {m : Nat} (hn : Norm ys) (hl : ys.length = m + 1) :
    nbits (nth ys m) ≤ 32 ∧ 1 ≤ nbits (nth ys m) ∧ (ofN (wv ys * 2 ^ (32 - nbits (nth ys m)))).length = m + 1 ∧
      2147483648 ≤ nth (ofN (wv ys * 2 ^ (32 - nbits (nth ys m)))) m := by
  have hb := nth_lt hn.1 m
  have ht : nth ys m ≠ 0 := by
    intro h0
    apply hn.2
    rw [List.getLast?_eq_getElem?, hl, Nat.add_sub_cancel, List.getElem?_eq_getElem (by omega), ← nth_get (by omega), h0]
  obtain ⟨h1, h2⟩ := nbits_ge ht
  have h3 := @nbits_lt (nth ys m)
  have h4 : nbits (nth ys m) ≤ 32 := by
    rcases Nat.lt_or_ge 32 (nbits (nth ys m)) with h | h
    · have := Nat.pow_le_pow_right (n := 2) (by omega) (show 32 ≤ nbits (nth ys m) - 1 by omega)
      omega
    · exact h
  obtain ⟨h5, h6⟩ := wv_top hn.1 hl
  generalize hS : 2 ^ (32 - nbits (nth ys m)) = S
  have e1 : 2 ^ nbits (nth ys m) * S = 4294967296 := by rw [← hS, ← Nat.pow_add, show nbits (nth ys m) + (32 - nbits (nth ys m)) = 32 from by omega]
  have e2 : 2 ^ (nbits (nth ys m) - 1) * S = 2147483648 := by rw [← hS, ← Nat.pow_add, show nbits (nth ys m) - 1 + (32 - nbits (nth ys m)) = 31 from by omega]
  have hSp : 0 < S := by rw [← hS]; exact Nat.pow_pos (by omega)
  -- the moved number
  have lo : 4294967296 ^ m * 2147483648 ≤ wv ys * S := by
    have a : 4294967296 ^ m * (2 ^ (nbits (nth ys m) - 1) * S) ≤ 4294967296 ^ m * (nth ys m * S) := Nat.mul_le_mul_left _ (Nat.mul_le_mul_right _ h1)
    have b : 4294967296 ^ m * nth ys m * S ≤ wv ys * S := Nat.mul_le_mul_right _ h5
    rw [e2] at a
    rw [Nat.mul_assoc] at b
    omega
  have hi : wv ys * S < 4294967296 ^ m * 4294967296 := by
    have a : wv ys * S < 4294967296 ^ m * (nth ys m + 1) * S := Nat.mul_lt_mul_of_pos_right h6 hSp
    have b : 4294967296 ^ m * ((nth ys m + 1) * S) ≤ 4294967296 ^ m * (2 ^ nbits (nth ys m) * S) := Nat.mul_le_mul_left _ (Nat.mul_le_mul_right _ h3)
    rw [e1] at b
    rw [Nat.mul_assoc] at a
    omega
  have hlen : (ofN (wv ys * S)).length = m + 1 := by
    have a := length_ofN_le (k := m + 1) (n := wv ys * S) (by rw [Nat.pow_succ]; exact hi)
    have b := le_length_ofN (k := m) (n := wv ys * S) (by
      have : 4294967296 ^ m * 1 ≤ 4294967296 ^ m * 2147483648 := Nat.mul_le_mul_left _ (by omega)
      omega)
    omega
  refine ⟨h4, h2, hlen, ?_⟩
  obtain ⟨k1, k2⟩ := wv_top (small_ofN (wv ys * S)) hlen
  rw [wv_ofN] at k2
  have : 4294967296 ^ m * 2147483648 < 4294967296 ^ m * (nth (ofN (wv ys * S)) m + 1) := by omega
  have := Nat.lt_of_mul_lt_mul_left this
  omega

theorem div_start {X zs vs : List Nat} {m S : Nat} (hsm : Small zs) (hx : Small X) (hS : S ≤ 2147483648) (hz : wv zs = wv X * S) (hv : vs.length = m + 1) (hvs : Small vs) (ht : 2147483648 ≤ nth vs m) (hlX : m + 1 ≤ X.length) (hlz : zs.length = X.length + 1) :
    wv (zs.drop (X.length - (m + 1) + 1)) < wv vs := by
  have hk : X.length - (m + 1) + 1 ≤ zs.length := by omega
  have h1 : wv (zs.drop (X.length - (m + 1) + 1)) = wv zs / 4294967296 ^ (X.length - (m + 1) + 1) := by
    rw [wv_take_drop zs _ hk, Nat.add_mul_div_left _ _ (Nat.pow_pos (by omega))]
    have := wv_lt (hsm.take (X.length - (m + 1) + 1))
    rw [List.length_take, Nat.min_eq_left hk] at this
    rw [Nat.div_eq_of_lt this]; simp
  obtain ⟨h2, _⟩ := wv_top hvs hv
  have h3 : 4294967296 ^ m * 2147483648 ≤ wv vs := Nat.le_trans (Nat.mul_le_mul_left _ ht) h2
  refine Nat.lt_of_lt_of_le ?_ h3
  rw [h1, hz]
  apply Nat.div_lt_of_lt_mul
  have h4 := wv_lt hx
  have e : 4294967296 ^ (X.length - (m + 1) + 1) * (4294967296 ^ m * 2147483648) = 4294967296 ^ X.length * 2147483648 := by
    rw [← Nat.mul_assoc, ← Nat.pow_add, show X.length - (m + 1) + 1 + m = X.length from by omega]
  rw [e]
  have hSp : wv X * S ≤ wv X * 2147483648 := Nat.mul_le_mul_left _ hS
  have : wv X * 2147483648 < 4294967296 ^ X.length * 2147483648 := Nat.mul_lt_mul_of_pos_right h4 (by omega)
  omega

theorem div_step {hd ds ds' qs : List Nat} {T V q k : Nat} (hk : hd.length + 1 = k) (hq : hd.length < qs.length) (hq1 : q = wv ds / V) (hds : wv ds' = wv ds % V)
    (h : T = wv (hd ++ ds) + V * (4294967296 ^ k * wv (qs.drop k))) : T = wv (hd ++ ds') + V * (4294967296 ^ hd.length * wv ((qs.set hd.length q).drop hd.length)) := by
  rw [wv_append] at h ⊢
  rw [drop_set_cons _ hq, wv_cons, hds, h, ← hk, Nat.pow_succ, hq1]
  have := Nat.div_add_mod (wv ds) V
  generalize wv ds / V = a at *
  generalize wv ds % V = b at *
  rw [← this]
  generalize 4294967296 ^ hd.length = p
  grind

theorem div_end {T Y S u q V : Nat} (hS : 0 < S) (hV : V = Y * S) (h : T * S = u + V * q) (hu : u < V) : q = T / Y ∧ u / S = T % Y := by
  have hY : 0 < Y := by
    rcases Nat.eq_zero_or_pos Y with h0 | h0
    · subst h0; omega
    · exact h0
  subst hV
  have h1 : T = u / S + Y * q ∧ u % S = 0 := by
    have e : T * S = u + Y * q * S := by rw [h]; grind
    have hm := Nat.div_add_mod u S
    have : u % S = 0 := by
      have h2 : (T * S) % S = (u + Y * q * S) % S := by rw [e]
      rw [Nat.mul_mod_left, Nat.add_mul_mod_self_right] at h2
      exact h2.symm
    refine ⟨?_, this⟩
    have h3 : (T * S) / S = (u + Y * q * S) / S := by rw [e]
    rw [Nat.mul_div_cancel _ hS, Nat.add_mul_div_right _ _ hS] at h3
    exact h3
  have h2 : u / S < Y := Nat.div_lt_of_lt_mul (by rw [Nat.mul_comm]; exact hu)
  rw [h1.1]
  refine ⟨?_, ?_⟩
  · rw [Nat.add_mul_div_left _ _ hY, Nat.div_eq_of_lt h2]; simp
  · rw [Nat.add_mul_mod_self_left, Nat.mod_eq_of_lt h2]

end W
end Go.Proofs.YtihdnfhclocndaaGreatDoor
namespace Go.Proofs.YtihdnfhclocndaaGreatDoor
open Go.RowKit W

theorem lz32 (x s : Nat) (w : World) (h : x < 4294967296) (hs : nbits x + s = 32) : Calls Tryz.prog 283 #[.int .u32 (x : Int)] w fun e w' => e = .returned (.int .i64 (s : Int)) ∧ w = w' :=
  (Tryz.bits_LeadingZeros32 (x : Int) w (by omega) (by omega)).mono fun e w' ⟨he, hw⟩ => ⟨by rw [he, Int.toNat_natCast, bitLen_nbits h]; congr 2; omega, hw.symm⟩

theorem Loc.other {base : Nat} {w : World} {g n m : Nat} {zs : List Nat} (h : Loc base w g n m zs) {g2 : Nat} (hne : g ≠ g2) (i : Nat) (v : Value) : Loc base (w.setCell ⟨g2, i, none⟩ v) g n m zs :=
  h.block (Below.heap_setCell _ _ _ _ hne)
theorem Loc.grown {base : Nat} {w w' : World} {g n m : Nat} {zs : List Nat} (h : Loc base w g n m zs) {g2 : Nat} (hg : w.grownBy w' (some g2)) (hne : g ≠ g2) : Loc base w' g n m zs :=
  h.block (hg.block g h.lt (by simpa using hne))
theorem Rd.other {w : World} {A : Option Addr} {xs : List Nat} (h : Rd w A xs) {g : Nat} (ho : Off A g) (i : Nat) (v : Value) : Rd (w.setCell ⟨g, i, none⟩ v) A xs :=
  h.grown (grown_set (grown_refl w (some g)) i v) ho

theorem Loc.heap {base : Nat} {w : World} {g n : Nat} {zs : List Nat} (h : Loc base w g n n zs) : w.heap[g]? = some (.cells (u32l zs).toArray tU32 (0, 0)) := by
  rcases h.2.2.2 with ⟨h', _⟩ | ⟨g', cap', cur, h', hb, hg, hnc, hcm, hcs, ht⟩
  · simp at h'
  · simp only [Value.slice.injEq, Option.some.injEq, Addr.mk.injEq, and_true, true_and] at h'
    obtain ⟨h1, h2⟩ := h'
    rw [h1, hg]
    rw [List.take_of_length_le (by rw [Array.length_toList, hcs]; omega)] at ht
    rw [← ht]

theorem splice_head (zs us : List Nat) (n : Nat) (h : us.length ≤ n) : splice (u32l (List.replicate n 0)) 0 (u32l us) = u32l (us ++ List.replicate (n - us.length) 0) := by
  unfold splice
  rw [List.take_zero, List.nil_append, Nat.zero_add, length_u32l]
  simp [u32l, List.drop_replicate]

theorem Rd.lowb {w w' : World} {b o B : Nat} {xs : List Nat} (h : Rd w (some ⟨b, o, none⟩) xs) (hb : b < B) (hB : Below B w w') : Rd w' (some ⟨b, o, none⟩) xs := by
  intro hn
  obtain ⟨b', o', e, hc⟩ := h hn
  simp only [Option.some.injEq, Addr.mk.injEq, and_true] at e
  obtain ⟨rfl, rfl⟩ := e
  exact ⟨b, o, rfl, fun j hj => by rw [hB.cell (p := ⟨b, o + j, none⟩) hb]; exact hc j hj⟩

theorem off_lt {b o g : Nat} (h : b < g) : Off (some ⟨b, o, none⟩) g := by
  intro p hp
  cases hp
  simp; omega

theorem small_pad {us : List Nat} (h : Small us) (k : Nat) : Small (us ++ List.replicate k 0) := small_append.2 ⟨h, small_replicate k⟩

theorem wv_pad (us : List Nat) (k : Nat) : wv (us ++ List.replicate k 0) = wv us := by rw [wv_append, wv_replicate]; simp

theorem figure_len (base g n m j l : Nat) (hd ds : List Nat) (A2 : Option Addr) (vs : List Nat) (cp c2 : Nat) (w : World) (hj : hd.length = j) (hl : vs.length + 1 = l) (hL0 : Loc base w g n m (hd ++ ds)) (h2 : Rd w A2 vs) (s2 : Small vs) (hoff : Off A2 g)
    (hm : n ≤ 1099511627776) (hv2 : 2 ≤ vs.length) (hdl : vs.length + 1 ≤ ds.length) (htop : 2147483648 ≤ nth vs (vs.length - 1)) (hlt : wv ds < 4294967296 * wv vs) :
    Calls Tryz.prog 284 #[.slice (some ⟨g, j, none⟩) l cp, .slice A2 vs.length c2] w fun e w' =>
      e = .returned (.int .u32 ((wv ds / wv vs : Nat) : Int)) ∧ w.grownBy w' (some g) ∧ ∃ ds', ds'.length = ds.length ∧ Loc base w' g n m (hd ++ ds') ∧ wv ds' = wv ds % wv vs := by
  subst hj; subst hl
  exact figure_any base g n m hd ds A2 vs cp c2 w hL0 h2 s2 hoff hm hv2 hdl htop hlt

theorem div_init1 {xs us vs : List Nat} {s : Nat} (hs : s ≤ 31) (sx : Small xs) (nu : Norm us) (nv : Norm vs) (eu : wv us = wv xs * 2 ^ s) (lu : us.length ≤ xs.length + 1) (hv : 2 ≤ vs.length) (hvx : vs.length ≤ xs.length) (ht : 2147483648 ≤ nth vs (vs.length - 1)) :
    Hid (wv ((us ++ List.replicate (xs.length + 1 - us.length) 0).drop (xs.length - vs.length + 1)) < wv vs) := by
  have h := div_start (X := xs) (zs := us ++ List.replicate (xs.length + 1 - us.length) 0) (m := vs.length - 1) (S := 2 ^ s) (small_pad nu.1 _) sx (two_pow_bd (by omega)).2 (by rw [wv_pad]; exact eu) (by omega) nv.1 ht (by omega) (by rw [List.length_append, List.length_replicate]; omega)
  rw [show vs.length - 1 + 1 = vs.length from by omega] at h
  exact h

theorem div_init2 {xs us vs : List Nat} {s k : Nat} (eu : wv us = wv xs * 2 ^ s) (n : Nat) (hn : n = xs.length - vs.length + 1) :
    Hid (wv xs * 2 ^ s = wv (us ++ List.replicate k 0) + wv vs * (4294967296 ^ n * wv ((List.replicate (xs.length - vs.length + 1) 0).drop n))) := by
  have e : wv ((List.replicate (xs.length - vs.length + 1) 0).drop n) = 0 := by rw [List.drop_replicate, wv_replicate]
  show _ = _
  rw [wv_pad, eu, e, Nat.mul_zero, Nat.mul_zero, Nat.add_zero]

theorem div_next {zs ds' vs qs : List Nat} {T q k : Nat} (hz : (zs.take (k - 1)).length = k - 1) (h0 : 0 < k) (hq : k - 1 < qs.length) (hq1 : q = wv (zs.drop (k - 1)) / wv vs) (hds : wv ds' = wv (zs.drop (k - 1)) % wv vs)
    (h : Hid (T = wv zs + wv vs * (4294967296 ^ k * wv (qs.drop k)))) : Hid (T = wv (zs.take (k - 1) ++ ds') + wv vs * (4294967296 ^ (k - 1) * wv ((qs.set (k - 1) q).drop (k - 1)))) := by
  have h1 := div_step (hd := zs.take (k - 1)) (ds := zs.drop (k - 1)) (ds' := ds') (qs := qs) (T := T) (V := wv vs) (q := q) (k := k) (by rw [hz]; omega) (by rw [hz]; exact hq) hq1 hds (by rw [List.take_append_drop]; exact h.out)
  rw [hz] at h1
  exact h1

theorem div_below {zs ds' vs : List Nat} {k : Nat} (hz : (zs.take (k - 1)).length = k - 1) (hV : 0 < wv vs) (hds : wv ds' = wv (zs.drop (k - 1)) % wv vs) : Hid (wv ((zs.take (k - 1) ++ ds').drop (k - 1)) < wv vs) := by
  have e : (zs.take (k - 1) ++ ds').drop (k - 1) = ds' := List.drop_left' hz
  show _ < _
  rw [e, hds]
  exact Nat.mod_lt _ hV

theorem div_fin {xs ys zs vs qs : List Nat} {s : Nat} (ev : wv vs = wv ys * 2 ^ s) (hlt : Hid (wv (zs.drop 0) < wv vs)) (hI : Hid (wv xs * 2 ^ s = wv zs + wv vs * (4294967296 ^ 0 * wv (qs.drop 0)))) (hs : Small vs) :
    wv qs = wv xs / wv ys ∧ wv (zs.take vs.length) / 2 ^ s = wv xs % wv ys := by
  have h1 := hlt.out
  have h2 := hI.out
  rw [List.drop_zero] at h1 h2
  rw [Nat.pow_zero, Nat.one_mul] at h2
  have h3 := div_end (Nat.pow_pos (by omega)) ev h2 h1
  have h4 : wv zs = wv (zs.take vs.length) := wv_head (drop_zero_of_lt (Nat.lt_trans h1 (wv_lt hs)))
  rw [← h4]
  exact h3

set_option maxRecDepth 100000 in
set_option maxHeartbeats 1000000 in
theorem div_long (A1 A2 : Option Addr) (xs ys : List Nat) (c1 c2 : Nat) (w : World) (h1 : Rd w A1 xs) (h2 : Rd w A2 ys) (s1 : Norm xs) (s2 : Norm ys)
    (hm : xs.length ≤ 274877906944) (hl : 2 ≤ ys.length) (hle : wv ys ≤ wv xs) :
    Calls Tryz.prog 246 #[.slice A1 xs.length c1, .slice A2 ys.length c2] w (Gives2 w (ofN (wv xs / wv ys)) (ofN (wv xs % wv ys))) := by
  have hly : ys.length ≤ xs.length := by
    rcases Nat.lt_or_ge xs.length ys.length with h | h
    · have := norm_length_lt s1.1 s2 h; omega
    · exact h
  obtain ⟨b, o, rfl, hy⟩ := h2 (by omega)
  have hy0 := hy (ys.length - 1) (by omega)
  have HC := Lib.hid (cmpWords_any A1 (some ⟨b, o, none⟩) xs ys c1 c2 w h1 h2 s1 s2 (by omega) (by omega))
  have hnlt : ¬ cmpI (wv xs) (wv ys) < 0 := by
    rcases Nat.eq_or_lt_of_le hle with h | h
    · rw [h, cmpI_eq]; omega
    · rw [cmpI_gt h]; omega
  generalize cmpI (wv xs) (wv ys) = cc at HC hnlt
  obtain ⟨t1, t2, t3, t4⟩ := shift_top s2 (show ys.length = (ys.length - 1) + 1 by omega)
  rw [show ys.length - 1 + 1 = ys.length from by omega] at t3
  have bt := nth_lt s2.1 (ys.length - 1)
  obtain ⟨s, hs⟩ : ∃ s, s = 32 - nbits (nth ys (ys.length - 1)) := ⟨_, rfl⟩
  have LZ := Lib.hid (fun wx => lz32 (nth ys (ys.length - 1)) s wx bt (by omega))
  rw [← hs] at t3 t4
  have hs31 : s ≤ 31 := by omega
  have hl1 : ((ys.length : Int) == 1) = false := by rw [beq_eq_false_iff_ne]; omega
  have HY := Lib.hid hy
  have sx : Small xs := s1.1
  have sy : Small ys := s2.1
  clear hy hs t1 t2
  -- what one divides by, moved
  obtain ⟨vs, hvs⟩ : ∃ vs, vs = ofN (wv ys * 2 ^ s) := ⟨_, rfl⟩
  have UV := Lib.hid (fun wx => up_any (some ⟨b, o, none⟩) ys c2 s wx)
  have nv : Norm vs := by rw [hvs]; exact norm_ofN _
  have ev : wv vs = wv ys * 2 ^ s := by rw [hvs, wv_ofN]
  rw [← hvs] at UV t3 t4
  have hvl : vs.length ≤ ys.length ∧ ys.length ≤ vs.length := by omega
  obtain ⟨hv1, hv2⟩ := hvl
  have t4' : 2147483648 ≤ nth vs (vs.length - 1) := by rw [t3]; exact t4
  -- what is divided, moved
  obtain ⟨us, hus⟩ : ∃ us, us = ofN (wv xs * 2 ^ s) := ⟨_, rfl⟩
  have UU := Lib.hid (fun wx => up_any A1 xs c1 s wx)
  have nu : Norm us := by rw [hus]; exact norm_ofN _
  have eu : wv us = wv xs * 2 ^ s := by rw [hus, wv_ofN]
  have lu : us.length ≤ xs.length + 1 := by
    rw [hus]
    apply length_ofN_le
    rw [Nat.pow_succ]
    have a := wv_lt s1.1
    have b : 2 ^ s ≤ 4294967296 := Nat.pow_le_pow_right (n := 2) (by omega) (show s ≤ 32 by omega)
    exact Nat.lt_of_lt_of_le (Nat.mul_lt_mul_of_pos_right a (Nat.pow_pos (by omega))) (Nat.mul_le_mul_left _ b)
  rw [← hus] at UU
  have EV := Lib.hid ev
  have EU := Lib.hid eu
  clear hvs hus ev eu t3 t4
  have hmk := fun w : World => make_u32 w ((xs.length : Int) + 1) (by omega) (by omega)
  have hmk2 := fun w : World => make_u32 w ((xs.length : Int) - (vs.length : Int) + 1) (by omega) (by omega)
  go_enter Tryz.func246, Tryz.ntmps246
  go_wp2_with fail
  with_reducible refine HC.out.mono ?_
  rintro e w' ⟨rfl, n, rfl⟩
  go_wp2_with fail
  with_reducible refine (LZ.out _).mono ?_
  rintro e w' ⟨rfl, rfl⟩
  have hRy : Rd (w.drewN n) (some ⟨b, o, none⟩) ys := h2
  go_wp2_with fail
  with_reducible refine (UV.out _ hRy sy (by omega) (by omega)).mono ?_
  rintro e w1 ⟨Av, cv, rfl, hb1, hR1, hcv1, hcv2, hRv⟩
  have hB1 : Below w.heap.size w w1 := (below_drewN (Below.refl _ _) n).trans hb1
  have hRx := h1.below hB1
  clear hb1 HC LZ UV
  have HB1 := Lib.hid hB1
  have hz1 := hB1.size
  obtain ⟨bv, ov, rfl, hcv⟩ := hRv (by omega)
  have hbv : bv < w1.heap.size := block_lt_of_cell (hcv 0 (by omega))
  clear hB1 hR1 hcv
  go_wp2_with fail
  have hL2 := Loc.new (base := w.heap.size) w1 hz1 (n := xs.length + 1) (by omega)
  have hB2 : Below w1.heap.size w1 (w1.alloc (.cells (u32l (List.replicate (xs.length + 1) 0)).toArray tU32)) := (Below.refl _ _).alloc (Nat.le_refl _) _
  have hRx2 := hRx.below hB2
  have hRv2 := hRv.below hB2
  have hz2 : w1.heap.size < (w1.alloc (.cells (u32l (List.replicate (xs.length + 1) 0)).toArray tU32)).heap.size := by simp
  have HB2 := Lib.hid (HB1.out.trans (hB2.mono hz1))
  generalize w1.alloc (.cells (u32l (List.replicate (xs.length + 1) 0)).toArray tU32) = w2 at *
  have HL2 := Lib.hid hL2
  have hgu : w.heap.size ≤ w1.heap.size := hz1
  generalize w1.heap.size = gu at *
  clear hB2 hRx hRv HB1 hL2
  with_reducible refine (UU.out _ hRx2 sx (by omega) (by omega)).mono ?_
  rintro e w3 ⟨Au, cu, rfl, hb3, hR3, hcu1, hcu2, hRu⟩
  have hL3 := HL2.out.below hb3 hz2
  have hRv3 := hRv2.below hb3
  have HB3 := Lib.hid (HB2.out.trans (hb3.mono (by omega)))
  have hz3 : gu < w3.heap.size := Nat.lt_of_lt_of_le hz2 hb3.size
  have HH := Lib.hid hL3.heap
  have hAu := Lib.hid (fun hn => hRu.at_ hn)
  clear hb3 hR3 HL2 hRx2 hRv2 HB2 UU hcu1 hcu2 hL3 hRu
  go_wp2_with (refine wpList_copy_splice rfl (.tmp 49) (.tmp 52) 42 42 rfl tU32 Tryz.underlying42 (by kernel_rfl) (some ⟨gu, 0, none⟩) Au (xs.length + 1) (xs.length + 1) us.length cu rfl rfl gu 0 (u32l (List.replicate (xs.length + 1) 0)) tU32 HH.out (u32l us) ?c1 ?c2 ?c3 (oneCell_u32l us) gu w3 (Below.refl _ _) (Nat.le_refl _) ?_)
  case c1 => rw [length_u32l]; exact (Nat.min_eq_left lu).symm
  case c2 => intro hn; exact hAu.out hn
  case c3 => rw [length_u32l, length_u32l, List.length_replicate]; omega
  intro w4 hg4 hB4
  have hRv4 := hRv3.lowb hbv hB4
  have hz4 : gu < w4.heap.size := Nat.lt_of_lt_of_le hz3 hB4.size
  have hL4 : Loc w.heap.size w4 gu (xs.length + 1) (xs.length + 1) (us ++ List.replicate (xs.length + 1 - us.length) 0) := by
    have h := hg4.out
    rw [splice_head xs us _ lu] at h
    have h5 := Loc.of_block (zs := us ++ List.replicate (xs.length + 1 - us.length) 0) h hgu (small_pad nu.1 _) (by simp; omega)
    have e : (us ++ List.replicate (xs.length + 1 - us.length) 0).length = xs.length + 1 := by simp; omega
    rwa [e] at h5
  have HB4 := Lib.hid (HB3.out.trans (hB4.mono hgu))
  have HL4 := Lib.hid hL4
  clear hRv3 hg4 hB4 HB3 HH hAu hL4
  go_wp2
  have hL5 := Loc.new (base := w.heap.size) w4 HB4.out.size (n := xs.length - vs.length + 1) (by omega)
  have hB5 : Below w4.heap.size w4 (w4.alloc (.cells (u32l (List.replicate (xs.length - vs.length + 1) 0)).toArray tU32)) := (Below.refl _ _).alloc (Nat.le_refl _) _
  have hRv5 := hRv4.below hB5
  have hLu5 := HL4.out.below hB5 hz4
  have HB5 := Lib.hid (HB4.out.trans (hB5.mono HB4.out.size))
  have hbq : bv < w4.heap.size := by omega
  have hgq : w.heap.size ≤ w4.heap.size := HB4.out.size
  have hz5 : w4.heap.size < (w4.alloc (.cells (u32l (List.replicate (xs.length - vs.length + 1) 0)).toArray tU32)).heap.size := by simp
  generalize w4.alloc (.cells (u32l (List.replicate (xs.length - vs.length + 1) 0)).toArray tU32) = w5 at *
  generalize w4.heap.size = gq at *
  have HLu5 := Lib.hid hLu5
  have HLq5 := Lib.hid hL5
  have hne : gu ≠ gq := by omega
  have HNE := Lib.hid hne
  clear hLu5 hL5 hB5 HB4 HL4 hRv4 hne
  have hvx : vs.length ≤ xs.length := by omega
  have S2 := Lib.hid (two_pow_bd (show s < 32 by omega)).2
  have Sp := Lib.hid (Nat.pow_pos (n := s) (show 0 < 2 by omega))
  have I1 := div_init1 hs31 sx nu nv EU.out lu (by omega) hvx t4'
  have I2 := div_init2 (k := xs.length + 1 - us.length) (vs := vs) EU.out _ rfl
  go_loopw [13] (fun i wr => ∃ (k : Nat) (zs qs : List Nat), k ≤ xs.length - vs.length + 1 ∧ i = .int .i64 ((k : Int) - 1) ∧
    Loc w.heap.size wr gu (xs.length + 1) (xs.length + 1) zs ∧ Loc w.heap.size wr gq (xs.length - vs.length + 1) (xs.length - vs.length + 1) qs ∧ Below w.heap.size w wr ∧ Rd wr (some ⟨bv, ov, none⟩) vs ∧
    Hid (wv (zs.drop k) < wv vs) ∧ Hid (wv xs * 2 ^ s = wv zs + wv vs * (4294967296 ^ k * wv (qs.drop k)))) (fun i _ => (intOf i + 1).toNat)
  case atStart =>
    exact ⟨xs.length - vs.length + 1, _, _, Nat.le_refl _, by go_num, HLu5.out, HLq5.out, HB5.out, hRv5, I1, I2⟩
  case round =>
    obtain ⟨k, zs, qs, hk, rfl, hLu, hLq, hB, hRv, hlt, hI⟩ := hrel
    by_cases h0 : 0 < k
    · have hzl := hLu.len
      have hql := hLq.len
      have hcq := hLq.cell (k := k - 1) (by omega)
      have hfq := hLq.frozen (k - 1)
      have hLu' : Loc w.heap.size wr gu (xs.length + 1) (xs.length + 1) (zs.take (k - 1) ++ zs.drop (k - 1)) := by rw [List.take_append_drop]; exact hLu
      have hlth : (zs.take (k - 1)).length = k - 1 := by rw [List.length_take]; omega
      have hlds : (zs.drop (k - 1)).length = xs.length + 1 - (k - 1) := by rw [List.length_drop, hzl]
      have hwd : wv (zs.drop (k - 1)) < 4294967296 * wv vs := by
        rw [wv_drop (by omega), show k - 1 + 1 = k from by omega]
        have a := nth_lt hLu.small (k - 1)
        have b := hlt.out
        have c : 4294967296 * (wv (zs.drop k) + 1) ≤ 4294967296 * wv vs := Nat.mul_le_mul_left _ b
        omega
      have HVp := Lib.hid (show 0 < wv vs by
        have := hlt.out
        rcases Nat.eq_zero_or_pos (wv vs) with h | h
        · rw [h] at this; omega
        · exact h)
      have F := Lib.hid (fun l hl => figure_len w.heap.size gu _ _ (k - 1) l (zs.take (k - 1)) (zs.drop (k - 1)) (some ⟨bv, ov, none⟩) vs (xs.length + 1 - (k - 1)) cv wr hlth hl hLu' hRv nv.1 (off_lt hbv) (by omega) (by omega) (by omega) t4' hwd)
      have hqb : wv (zs.drop (k - 1)) / wv vs < 4294967296 := Nat.div_lt_of_lt_mul (by rw [Nat.mul_comm]; exact hwd)
      obtain ⟨q, hq⟩ : ∃ q, q = wv (zs.drop (k - 1)) / wv vs := ⟨_, rfl⟩
      rw [← hq] at F hqb
      have HQ := Lib.hid hq
      have HP := Lib.hid (And.intro hlth (And.intro hlds (And.intro hzl hql)))
      have HLq := Lib.hid hLq
      have HB := Lib.hid hB
      have HRv := Lib.hid hRv
      have hqk : k - 1 < qs.length := by omega
      clear hlth hlds hzl hql hLu hLu' hwd hLq hB hRv hcq hfq hq
      go_wp2_with fail
      with_reducible refine (F.out _ (by omega)).mono ?_
      rintro e w6 ⟨rfl, hg6, ds', hdl, hL6, hv6⟩
      have hLq6 := HLq.out.grown hg6 (fun h => HNE.out h.symm)
      have hRv6 := HRv.out.grown hg6 (off_lt hbv)
      have HB6 := Lib.hid (grown_below HB.out hg6 HB.out.size hgu)
      have hcq := hLq6.cell (k := k - 1) (by omega)
      have hfq := hLq6.frozen (k - 1)
      have HL6 := Lib.hid hL6
      have HV6 := Lib.hid hv6
      clear hg6 hdl hL6 hv6 F
      go_wp2
      go_roundw
      case rel =>
        exact ⟨k - 1, zs.take (k - 1) ++ ds', qs.set (k - 1) q, by omega, by go_num, HL6.out.other HNE.out _ _, hLq6.put _ rfl hqb, HB6.out.setCell hgq _, hRv6.other (off_lt hbq) _ _,
          div_below HP.out.1 HVp.out HV6.out, div_next HP.out.1 h0 hqk HQ.out HV6.out hI⟩
      case measure => simp [intOf]; omega
    · obtain rfl : k = 0 := by omega
      have HF := Lib.hid (div_fin EV.out hlt hI nv.1)
      have T1 := Lib.hid (trim_len (some ⟨gq, 0, none⟩) qs (xs.length - vs.length + 1) (xs.length - vs.length + 1) wr.drew hLq.len hLq.rd.drew hLq.small (Nat.le_refl _) (by simp [maxLen]; omega))
      have T2 := Lib.hid (trim_head (A := some ⟨gu, 0, none⟩) (xs := zs) hLu.rd.drew hLu.small vs.length (xs.length + 1) (by have := hLu.len; omega) (by omega) (by simp [maxLen]; omega))
      have st : Small (zs.take vs.length) := hLu.small.take _
      have lt2 : (ofN (wv (zs.take vs.length))).length ≤ vs.length := length_ofN_le (by have := wv_lt st; rwa [List.length_take, Nat.min_eq_left (by have := hLu.len; omega)] at this)
      have T3 := Lib.hid (down_any (some ⟨gu, 0, none⟩) (ofN (wv (zs.take vs.length))) (xs.length + 1) s wr.drew ((hLu.rd.take _).trimmed st).drew (small_ofN _) (by omega) (by omega))
      rw [wv_ofN, HF.out.2] at T3
      have HRq := Lib.hid hLq.trim
      rw [HF.out.1] at HRq
      have HLq := Lib.hid hLq
      have HB := Lib.hid hB
      have hvn : (vs.length : Int) ≤ (xs.length : Int) + 1 := by omega
      clear hLu hLq hB hRv hlt hI st lt2
      go_wp2
      refine wp_region_still_tail 7 (by kernel_rfl) (by kernel_rfl) ?_
      simp only [List.take_succ_cons, List.take_zero, List.drop_succ_cons, List.drop_zero]
      repeat still_step
      still_call (T1.out.mono (fun _ _ h => ⟨h.1, h.2.symm⟩))
      repeat still_step
      still_call (T2.out.mono (fun _ _ h => ⟨h.1, h.2.symm⟩))
      repeat still_step
      refine wpStill_nil ?_
      change wpList _ _ _ _ _ wr.drew
      go_wp2_with fail
      with_reducible refine T3.out.mono ?_
      rintro e w7 ⟨Ad, cd, rfl, hb7, hR7, hcd1, hcd2, hrd7⟩
      have HB7 := Lib.hid (HB.out.trans ((Below.drew (Below.refl _ _)).trans (hb7.mono (by simpa using HB.out.size))))
      have HR7 := Lib.hid (hR7.lower (base' := w.heap.size) (by simpa using HB.out.size))
      have HRq7 := Lib.hid (Res.block (w := wr.drew) HRq.out hb7)
      clear hb7 hR7 hrd7
      go_wp2
      go_ret2
      exact Gives2.of HB7.out HRq7.out HR7.out

end Go.Proofs.YtihdnfhclocndaaGreatDoor
