/- numeral/big: the words' functions: figure. numeral/big: the words' functions: divWords, the plain cases. -/
import Derived.Test.YtihdnfhclocndaaGreatDoorQs6
import Derived.Test.YtihdnfhclocndaaGreatDoorQs10
import Derived.Deep.DeepCutAuto
import Derived.Deep.CutBlock
import Derived.Test.YtihdnfhclocndaaGreatDoorQs9
namespace Go.Proofs.YtihdnfhclocndaaGreatDoor
open Go.RowKit W

theorem nth_append_right (hd ds : List Nat) (i : Nat) : nth (hd ++ ds) (hd.length + i) = nth ds i := by
  unfold nth
  rw [List.getD_eq_getElem?_getD, List.getD_eq_getElem?_getD, List.getElem?_append_right (by omega), Nat.add_sub_cancel_left]

theorem Loc.cellR {base : Nat} {w : World} {g n m : Nat} {hd ds : List Nat} (h : Loc base w g n m (hd ++ ds)) {i : Nat} (hi : i < ds.length) :
    w.cell? ⟨g, hd.length + i, none⟩ = some (.int .u32 (nth ds i : Int)) := by
  rw [h.cell (k := hd.length + i) (by have := h.len; rw [List.length_append] at this; omega), nth_append_right]

theorem Loc.putR {base : Nat} {w : World} {g n m : Nat} {hd ds : List Nat} (h : Loc base w g n m (hd ++ ds)) (i : Nat) {z : Int} {v : Nat} (e : z = (v : Int)) (hv : v < 4294967296) :
    Loc base (w.setCell ⟨g, hd.length + i, none⟩ (.int .u32 z)) g n m (hd ++ ds.set i v) := by
  have := h.put (hd.length + i) e hv
  rwa [List.set_append_right _ _ (by omega), Nat.add_sub_cancel_left] at this

theorem Loc.smallR {base : Nat} {w : World} {g n m : Nat} {hd ds : List Nat} (h : Loc base w g n m (hd ++ ds)) : Small ds := (small_append.1 h.small).2

theorem grown_drewN {w w1 : World} {r : Option Nat} (h : w.grownBy w1 r) (k : Nat) : w.grownBy (w1.drewN k) r := grown_trans h ⟨rfl, rfl, rfl, Nat.le_refl _, fun _ _ _ => rfl⟩

theorem sub_word (x c b : Nat) (hx : x < 4294967296) (hc : c < 4294967296) (hb : b ≤ 1) :
    ∃ o d : Nat, o < 4294967296 ∧ d ≤ 1 ∧ x + d * 4294967296 = o + c + b ∧
      IntKind.u64.wrap (IntKind.u64.wrap ((x : Int) - c) - b) / 9223372036854775808 = (d : Int) ∧
      IntKind.u64.wrap (IntKind.u64.wrap ((x : Int) - c) - b) % 4294967296 = (o : Int) := by
  simp only [IntKind.wrap_u64]
  rcases Nat.lt_or_ge x (c + b) with h | h
  · exact ⟨x + 4294967296 - c - b, 1, by omega, by omega, by omega, by omega, by omega⟩
  · exact ⟨x - c - b, 0, by omega, by omega, by omega, by omega, by omega⟩

theorem mulsub_word (x P b : Nat) (hx : x < 4294967296) (hP : P < 18446744073709551616) (hb : b ≤ 1) (z : Int) (hz : z = (P : Int)) :
    ∃ o d : Nat, o < 4294967296 ∧ d ≤ 1 ∧ x + d * 4294967296 = o + P % 4294967296 + b ∧
      IntKind.u64.wrap (IntKind.u64.wrap ((x : Int) - bits BinOp.and IntKind.u64 z 4294967295) - b) / 9223372036854775808 = (d : Int) ∧
      IntKind.u64.wrap (IntKind.u64.wrap ((x : Int) - bits BinOp.and IntKind.u64 z 4294967295) - b) % 4294967296 = (o : Int) := by
  subst hz
  have e : bits BinOp.and IntKind.u64 (P : Int) 4294967295 = ((P % 4294967296 : Nat) : Int) := by
    have h := u64_and_nat P 4294967295 hP (by omega)
    rw [show ((4294967295 : Nat) : Int) = 4294967295 from rfl] at h
    rw [h, show (4294967295 : Nat) = 2 ^ 32 - 1 from rfl, Nat.and_two_pow_sub_one_eq_mod]
  rw [e]
  exact sub_word x (P % 4294967296) b hx (Nat.mod_lt _ (by omega)) hb

/-- Near enough: the figure or one more. -/
def Near (U V G : Nat) : Prop := U / V ≤ G ∧ G ≤ U / V + 1

set_option maxRecDepth 100000 in
set_option maxHeartbeats 1000000 in
theorem figure_any (base g n m : Nat) (hd ds : List Nat) (A2 : Option Addr) (vs : List Nat) (cp c2 : Nat) (w : World) (hL0 : Loc base w g n m (hd ++ ds)) (h2 : Rd w A2 vs) (s2 : Small vs) (hoff : Off A2 g)
    (hm : n ≤ 1099511627776) (hv2 : 2 ≤ vs.length) (hdl : vs.length + 1 ≤ ds.length) (htop : 2147483648 ≤ nth vs (vs.length - 1)) (hlt : wv ds < 4294967296 * wv vs) :
    Calls Tryz.prog 284 #[.slice (some ⟨g, hd.length, none⟩) (vs.length + 1) cp, .slice A2 vs.length c2] w fun e w' =>
      e = .returned (.int .u32 ((wv ds / wv vs : Nat) : Int)) ∧ w.grownBy w' (some g) ∧ ∃ ds', ds'.length = ds.length ∧ Loc base w' g n m (hd ++ ds') ∧ wv ds' = wv ds % wv vs := by
  obtain ⟨b, o, rfl, hy⟩ := h2 (by omega)
  have sd := hL0.smallR
  have hlen := hL0.len
  rw [List.length_append] at hlen
  have hnn : hd.length + ds.length ≤ 1099511627776 := by omega
  have KN := Lib.hid (kn_of (m := vs.length - 2) sd s2 (by omega) (by omega) (by rw [show vs.length - 2 + 1 = vs.length - 1 from by omega]; exact htop) hlt)
  rw [show vs.length - 2 + 1 = vs.length - 1 from by omega, show vs.length - 2 + 2 = vs.length from by omega] at KN
  have hv1 := hy (vs.length - 1) (by omega)
  have hv0 := hy (vs.length - 2) (by omega)
  have hu0 := hL0.cellR (i := vs.length) (by omega)
  have hu1 := hL0.cellR (i := vs.length - 1) (by omega)
  have hu2 := hL0.cellR (i := vs.length - 2) (by omega)
  have bv1 := nth_lt s2 (vs.length - 1)
  have bv0 := nth_lt s2 (vs.length - 2)
  have bu0 := nth_lt sd vs.length
  have bu1 := nth_lt sd (vs.length - 1)
  have bu2 := nth_lt sd (vs.length - 2)
  have hor := or_words _ _ bu0 bu1
  have HL0 := Lib.hid hL0
  have HY := Lib.hid hy
  have HLT := Lib.hid hlt
  clear hL0 hy hlen hlt
  go_enter Tryz.func284, Tryz.ntmps284
  go_wp2
  go_quiet (fail)
  go_upto_block 0 with fail
  have hv2l : 0 < vs.length := by omega
  generalize nth vs (vs.length - 1) = vt at *
  generalize nth vs (vs.length - 2) = v2 at *
  generalize hUT : nth ds vs.length * 4294967296 + nth ds (vs.length - 1) = UT at *
  have eUT : (nth ds vs.length : Int) * 4294967296 + (nth ds (vs.length - 1) : Int) = (UT : Int) := by rw [← hUT]; simp
  have bUT : UT < 18446744073709551616 := by omega
  rw [eUT]
  clear hor hUT bu0 bu1 hu0 hu1 hv1
  have EU := Lib.hid eUT
  clear eUT
  generalize nth ds (vs.length - 2) = u2 at *
  go_cut [8] (fun s8 wx => ∃ (G k : Nat), s8 = .int .u64 (G : Int) ∧ wx = w.drewN k ∧ G < 4294967296 ∧ Hid (Near (wv ds) (wv vs) G))
  case first =>
    go_wp2
    go_loopw [8, 9] (fun s8 s9 wr => ∃ (G R k : Nat), s8 = .int .u64 (G : Int) ∧ s9 = .int .u64 (R : Int) ∧ wr = w.drewN k ∧ R < 4294967296 ∧ G ≤ 8589934592 ∧
      Hid (G * vt + R = UT) ∧ Hid (wv ds / wv vs ≤ G)) (fun _ s9 _ => 4294967296 - (intOf s9).toNat)
    case atStart =>
      have hq := Nat.div_add_mod UT vt
      refine ⟨UT / vt, UT % vt, nq, congrArg (Value.int IntKind.u64) (by simp), congrArg (Value.int IntKind.u64) (by simp), rfl, ?_, ?_, ?_, KN.out.start⟩
      · have := Nat.mod_lt UT (show 0 < vt by omega); omega
      · have h1 : UT / vt ≤ UT / 2147483648 := Nat.div_le_div_left htop (by omega)
        omega
      · show _ + _ = _
        rw [Nat.mul_comm]; exact hq
    case round =>
      obtain ⟨G, R, k, rfl, rfl, rfl, hR, hG, hI, hq⟩ := hrel
      have hor2 := or_words R u2 hR bu2
      obtain ⟨p0, p1⟩ : 0 ≤ (G : Int) * (v2 : Int) ∧ (G : Int) * (v2 : Int) ≤ (G : Int) * 4294967296 := by
        have h := Nat.mul_le_mul_left G (Nat.le_of_lt bv0)
        have e : ((G * v2 : Nat) : Int) = (G : Int) * (v2 : Int) := by simp
        omega
      by_cases hg : 4294967296 ≤ G
      · have hg' : (4294967296 : Int) ≤ (G : Int) := by omega
        have hs := KN.out.step hI.out hq.out (.inl hg)
        obtain ⟨hs1, hs2, hs3⟩ := hs
        have HS := Lib.hid (And.intro hs2 hs3)
        clear hs2 hs3 hI hq
        go_wp2
        go_quiet (fail)
        by_cases hr : 4294967296 ≤ R + vt
        · have hr' : (4294967296 : Int) ≤ (R : Int) + (vt : Int) := by omega
          go_wp2
          go_meet
          have hb := KN.out.broke HS.out.1 hr
          exact ⟨G - 1, k + nq, by go_num, rfl, hb.1, HS.out.2, KN.out.near HS.out.1 hb.1 hb.2⟩
        · have hr' : ¬ ((4294967296 : Int) ≤ (R : Int) + (vt : Int)) := by omega
          go_wp2
          go_roundw
          case rel => exact ⟨G - 1, R + vt, k + nq, by go_num, by go_num, rfl, by omega, by omega, HS.out.1, HS.out.2⟩
          case measure => simp [intOf]; omega
      · have hg' : ¬ ((4294967296 : Int) ≤ (G : Int)) := by omega
        have hgd : decide ((4294967296 : Int) ≤ (G : Int)) = false := by simp; omega
        have eP : ((G * v2 : Nat) : Int) = (G : Int) * (v2 : Int) := by simp
        by_cases hc : R * 4294967296 + u2 < G * v2
        · have hc' : (R : Int) * 4294967296 + (u2 : Int) < (G : Int) * (v2 : Int) := by omega
          have hs := KN.out.step hI.out hq.out (.inr hc)
          clear eP
          obtain ⟨hs1, hs2, hs3⟩ := hs
          have HS := Lib.hid (And.intro hs2 hs3)
          clear hs2 hs3 hI hq
          go_wp2
          go_quiet (fail)
          by_cases hr : 4294967296 ≤ R + vt
          · have hr' : (4294967296 : Int) ≤ (R : Int) + (vt : Int) := by omega
            go_wp2
            go_meet
            have hb := KN.out.broke HS.out.1 hr
            exact ⟨G - 1, k + nq, by go_num, rfl, hb.1, HS.out.2, KN.out.near HS.out.1 hb.1 hb.2⟩
          · have hr' : ¬ ((4294967296 : Int) ≤ (R : Int) + (vt : Int)) := by omega
            go_wp2
            go_roundw
            case rel => exact ⟨G - 1, R + vt, k + nq, by go_num, by go_num, rfl, by omega, by omega, HS.out.1, HS.out.2⟩
            case measure => simp [intOf]; omega
        · have hc' : ¬ ((R : Int) * 4294967296 + (u2 : Int) < (G : Int) * (v2 : Int)) := by omega
          have hcd : decide ((R : Int) * 4294967296 + (u2 : Int) < (G : Int) * (v2 : Int)) = false := by simp only [decide_eq_false_iff_not]; exact hc'
          have HN := Lib.hid (KN.out.near hI.out (by omega) (by omega))
          clear eP hI
          go_wp2
          go_quiet (fail)
          clear p0 p1 hc' hor2
          go_wp2
          go_meet
          exact ⟨G, k + nq, rfl, by simp only [World.drewN_drewN], by omega, hq.out, HN.out⟩
  case rest =>
    obtain ⟨G, k, rfl, rfl, hG, hN⟩ := hcut
    clear hu2 hv0 KN EU
    go_wp2
    go_loopw [10, 11, 12, 13, 14] (fun c bo i _ _ wr => ∃ (l cr b1 : Nat) (es : List Nat), l ≤ vs.length ∧ i = .int .i64 l ∧ c = .int .u64 cr ∧ bo = .int .u64 b1 ∧ cr < 4294967296 ∧ b1 ≤ 1 ∧ es.length = ds.length ∧
      Loc base wr g n m (hd ++ es) ∧ w.grownBy wr (some g) ∧ Hid (∀ j, l ≤ j → nth es j = nth ds j) ∧
      Hid (wv (ds.take l) + 4294967296 ^ l * (cr + b1) = wv (es.take l) + G * wv (vs.take l))) (fun _ _ i _ _ _ => vs.length - (intOf i).toNat)
    case atStart => exact ⟨0, 0, 0, ds, by omega, rfl, rfl, rfl, by omega, by omega, rfl, HL0.out.drewN k, grown_drewN (grown_refl _ _) k, fun _ _ => rfl, by show _ + _ = _; simp [wv]⟩
    case round =>
      obtain ⟨l, cr, b1, es, hl, rfl, rfl, rfl, hcr, hb1, hel, hL, hGr, hS, hI⟩ := hrel
      have HE := Lib.hid hel; clear hel
      have hele : ds.length ≤ es.length := by rw [HE.out]; exact Nat.le_refl _
      by_cases hlt : l < vs.length
      · have hR := h2.grown hGr hoff
        obtain ⟨b', o', e', hy⟩ := hR (by omega)
        simp only [Option.some.injEq, Addr.mk.injEq, and_true] at e'
        obtain ⟨rfl, rfl⟩ := e'
        have hy := hy l hlt
        have hu := hL.cellR (i := l) (by omega)
        have hf := hL.frozen (hd.length + l)
        have bv := nth_lt s2 l
        have bu := nth_lt hL.smallR l
        have HS := Lib.hid (hS.out l (Nat.le_refl _))
        obtain ⟨p0, p1⟩ := mul_bd _ _ hG bv
        clear hR
        go_wp2
        go_roundw
        case rel =>
          have hP : G * nth vs l + cr < 18446744073709551616 := by have := mul_word_lt (o := 0) hG bv (by omega) hcr; omega
          obtain ⟨o1, d, ho, hd1, he, e1, e2⟩ := mulsub_word (nth es l) (G * nth vs l + cr) b1 bu hP hb1 ((G : Int) * (nth vs l : Int) + (cr : Int)) (by simp)
          refine ⟨l + 1, (G * nth vs l + cr) / 4294967296, d, es.set l o1, by omega, by go_num, congrArg (Value.int IntKind.u64) (by simp), by rw [e1], by omega, hd1, by rw [List.length_set]; exact HE.out, hL.putR l e2 ho, grown_set hGr _ _, ?_, ?_⟩
          · intro j hj
            rw [nth_set_ne _ (by omega)]
            exact hS.out j (by omega)
          · exact mulsub_place (by omega) hI.out (Nat.mod_add_div _ _) (by rw [← HS.out]; exact he)
        case measure => simp [intOf]; omega
      · obtain rfl : l = vs.length := by omega
        have hI' := hI.out
        rw [wv_take_all (xs := vs) (Nat.le_refl _)] at hI'
        have hu := hL.cellR (i := vs.length) (by omega)
        have hf := hL.frozen (hd.length + vs.length)
        have bu := nth_lt hL.smallR vs.length
        obtain ⟨o1, d, ho, hd1, he, e1, e2⟩ := sub_word (nth es vs.length) cr b1 bu hcr hb1
        have hlast := last_place (n := vs.length) (by omega) hI' (by rw [← hS.out _ (Nat.le_refl _)]; exact he)
        have hL2 := hL.putR vs.length e2 ho
        have hG2 := grown_set hGr (hd.length + vs.length) (.int .u32 (o1 : Int))
        rw [← e2] at hG2
        have hz : wv (ds.drop (vs.length + 1)) = 0 := drop_zero_of_lt (by
          have h3 := wv_lt s2
          have h4 := HLT.out
          rw [Nat.pow_succ]; omega)
        have hS2 : ∀ j, vs.length + 1 ≤ j → nth (es.set vs.length o1) j = nth ds j := fun j hj => by
          rw [nth_set_ne _ (by omega)]; exact hS.out j (by omega)
        have hd2 : (es.set vs.length o1).drop (vs.length + 1) = ds.drop (vs.length + 1) := drop_congr (by rw [List.length_set]; exact HE.out) hS2
        rw [← wv_head hz] at hlast
        have HX := Lib.hid (And.intro hlast (And.intro hz hd2))
        have HL2 := Lib.hid hL2
        have HG2 := Lib.hid hG2
        have HSM := Lib.hid hL2.smallR
        have E2 := Lib.hid e2
        clear hlast hz hd2 hS2 hL2 hG2 he hI' hI hS e2 hL hGr
        have hVp := Lib.hid (show 0 < wv vs by
          have h4 := HLT.out
          rcases Nat.eq_zero_or_pos (wv vs) with h0 | h0
          · rw [h0] at h4; omega
          · exact h0)
        rcases Nat.eq_zero_or_pos d with h0 | h0
        · subst h0
          have ht : (IntKind.u64.wrap (IntKind.u64.wrap ((nth es vs.length : Int) - (cr : Int)) - (b1 : Int)) / 9223372036854775808 == 0) = true := by rw [e1]; rfl
          clear e1
          have hfin : G = wv ds / wv vs ∧ wv (es.set vs.length o1) = wv ds % wv vs := by
            have h5 := figure_right hVp.out (by have := HX.out.1; rw [Nat.zero_mul, Nat.add_zero] at this; exact this) hN.out.1
            refine ⟨h5.1, ?_⟩
            rw [wv_head (by rw [HX.out.2.2]; exact HX.out.2.1)]
            exact h5.2
          have HF := Lib.hid hfin
          clear hfin
          go_wp2
          go_ret
          refine ⟨?_, HG2.out, es.set vs.length o1, by rw [List.length_set]; exact HE.out, ?_, HF.out.2⟩
          · rw [← HF.out.1]; rfl
          · have h6 := HL2.out
            exact h6
        · obtain rfl : d = 1 := by omega
          have ht : (IntKind.u64.wrap (IntKind.u64.wrap ((nth es vs.length : Int) - (cr : Int)) - (b1 : Int)) / 9223372036854775808 == 0) = false := by rw [e1]; rfl
          clear e1
          generalize es.set vs.length o1 = ES at HX HL2 HSM
          have hR1 := h2.grown HG2.out hoff
          go_wp2
          have HE2 := HL2.out.len
          rw [List.length_append] at HE2
          have HLE := Lib.hid (show ES.length = ds.length by have := HL0.out.len; rw [List.length_append] at this; omega)
          clear HE2
          generalize hW : wr.setCell _ _ = w5 at HL2 HG2 hR1 ⊢
          clear hW
          go_loopw [16, 17, 18] (fun c i _ wq => ∃ (l c1 : Nat) (fs : List Nat), l ≤ vs.length ∧ i = .int .i64 l ∧ c = .int .u64 c1 ∧ c1 ≤ 1 ∧ fs.length = ds.length ∧
            Loc base wq g n m (hd ++ fs) ∧ w.grownBy wq (some g) ∧ Hid (∀ j, l ≤ j → nth fs j = nth ES j) ∧
            Hid (wv (fs.take l) + c1 * 4294967296 ^ l = wv (ES.take l) + wv (vs.take l))) (fun _ i _ _ => vs.length - (intOf i).toNat)
          case atStart => exact ⟨0, 0, ES, by omega, rfl, rfl, by omega, HLE.out, HL2.out, HG2.out, fun _ _ => rfl, by show _ + _ = _; simp [wv]⟩
          case round =>
            obtain ⟨l, c1, fs, hl, rfl, rfl, hc1, hfl, hLf, hGf, hSf, hIf⟩ := hrel
            have HFL := Lib.hid hfl; clear hfl
            have hfle : ds.length ≤ fs.length := by rw [HFL.out]; exact Nat.le_refl _
            by_cases hlt : l < vs.length
            · have hR := h2.grown hGf hoff
              obtain ⟨b', o', e', hy⟩ := hR (by omega)
              simp only [Option.some.injEq, Addr.mk.injEq, and_true] at e'
              obtain ⟨rfl, rfl⟩ := e'
              have hy := hy l hlt
              have hu := hLf.cellR (i := l) (by omega)
              have hf := hLf.frozen (hd.length + l)
              have bv := nth_lt s2 l
              have bu := nth_lt hLf.smallR l
              have HS := Lib.hid (hSf.out l (Nat.le_refl _))
              clear hR
              go_wp2
              go_quiet (fail)
              go_wp2
              go_roundw
              case rel =>
                refine ⟨l + 1, (nth fs l + nth vs l + c1) / 4294967296, fs.set l ((nth fs l + nth vs l + c1) % 4294967296), by omega, by go_num, by go_num, by omega, by rw [List.length_set]; exact HFL.out, (hLf.drewN nq).putR l (by omega) (by omega), grown_set (grown_drewN hGf nq) _ _, ?_, ?_⟩
                · intro j hj
                  rw [nth_set_ne _ (by omega)]
                  exact hSf.out j (by omega)
                · exact add_place (by omega) hIf.out (by rw [← HS.out]; omega)
              case measure => simp [intOf]; omega
            · obtain rfl : l = vs.length := by omega
              have hu := hLf.cellR (i := vs.length) (by omega)
              have hf := hLf.frozen (hd.length + vs.length)
              have bu := nth_lt hLf.smallR vs.length
              have hS1 := hSf.out _ (Nat.le_refl _)
              have hI2 := hIf.out
              rw [wv_take_all (xs := vs) (Nat.le_refl _)] at hI2
              have h5 := figure_one (R := wv (ES.take (vs.length + 1))) (X := 4294967296 ^ (vs.length + 1)) (by have := HX.out.1; rw [Nat.one_mul] at this; exact this)
                (by have := wv_lt (HSM.out.take (vs.length + 1)); rw [List.length_take, Nat.min_eq_left (by have := HLE.out; omega)] at this; exact this) hN.out.1 hN.out.2
              have hQ : wv ds % wv vs < 4294967296 ^ vs.length := Nat.lt_trans (Nat.mod_lt _ hVp.out) (wv_lt s2)
              have h6 := add_back (n := vs.length) (o := (nth fs vs.length + c1) % 4294967296) (by omega) hLf.smallR hI2 h5.2 hQ hS1 rfl
              have hfin : wv (fs.set vs.length ((nth fs vs.length + c1) % 4294967296)) = wv ds % wv vs := by
                rw [wv_head (k := vs.length + 1), h6]
                rw [drop_congr (b := ds) (by rw [List.length_set]; exact HFL.out) (fun j hj => by
                  rw [nth_set_ne _ (by omega), hSf.out j (by omega)]
                  have h7 := HX.out.2.2
                  have e1 : nth ES j = nth (ES.drop (vs.length + 1)) (j - (vs.length + 1)) := by
                    unfold nth; rw [List.getD_eq_getElem?_getD, List.getD_eq_getElem?_getD, List.getElem?_drop, Nat.add_sub_cancel' hj]
                  have e2 : nth ds j = nth (ds.drop (vs.length + 1)) (j - (vs.length + 1)) := by
                    unfold nth; rw [List.getD_eq_getElem?_getD, List.getD_eq_getElem?_getD, List.getElem?_drop, Nat.add_sub_cancel' hj]
                  rw [e1, e2, h7])]
                exact HX.out.2.1
              have HF := Lib.hid (And.intro h5.1 hfin)
              have HLf := Lib.hid hLf
              have HGf := Lib.hid hGf
              clear h5 h6 hfin hI2 hS1 hQ hLf hGf hSf hIf
              have hGp : 1 ≤ G := by rw [HF.out.1]; exact Nat.le_add_left _ _
              go_wp2
              go_ret
              refine ⟨?_, grown_set HGf.out _ _, fs.set vs.length ((nth fs vs.length + c1) % 4294967296), by rw [List.length_set]; exact HFL.out, HLf.out.putR vs.length (by omega) (by omega), HF.out.2⟩
              have e : (G : Int) - 1 = ((wv ds / wv vs : Nat) : Int) := by rw [HF.out.1]; omega
              exact congrArg (fun z => Ending.returned (Value.int IntKind.u32 z)) e

end Go.Proofs.YtihdnfhclocndaaGreatDoor
namespace Go.Proofs.YtihdnfhclocndaaGreatDoor
open Go.RowKit W

/-- New words, twice. -/
def Gives2 (w : World) (xs ys : List Nat) (e : Ending) (w' : World) : Prop :=
  ∃ A c A2 c2, e = .returned (.tuple #[.slice A xs.length c, .slice A2 ys.length c2]) ∧ Below w.heap.size w w' ∧
    Res w.heap.size w' (.slice A xs.length c) xs ∧ xs.length ≤ c ∧ c ≤ maxLen ∧ Rd w' A xs ∧
    Res w.heap.size w' (.slice A2 ys.length c2) ys ∧ ys.length ≤ c2 ∧ c2 ≤ maxLen ∧ Rd w' A2 ys

theorem Gives2.of {w w' : World} {xs ys : List Nat} {v u : Value} (hb : Below w.heap.size w w') (h : Res w.heap.size w' v xs) (k : Res w.heap.size w' u ys) : Gives2 w xs ys (.returned (.tuple #[v, u])) w' := by
  obtain ⟨A, c, rfl, h1, h2, h3⟩ := h.form
  obtain ⟨A2, c2, rfl, k1, k2, k3⟩ := k.form
  exact ⟨A, c, A2, c2, rfl, hb, h, h1, h2, h3, k, k1, k2, k3⟩

theorem Res.nil (base : Nat) (w : World) : Res base w (.slice none 0 0) [] := ⟨rfl, .inl ⟨rfl, rfl⟩⟩

theorem Res.block {base : Nat} {w w' : World} {v : Value} {xs : List Nat} (h : Res base w v xs) (hb : Below w.heap.size w w') : Res base w' v xs := by
  refine ⟨h.1, ?_⟩
  rcases h.2 with h1 | ⟨g, cap, cur, hv, hbg, hg, r⟩
  · exact .inl h1
  · refine .inr ⟨g, cap, cur, hv, hbg, ?_, r⟩
    rw [hb.block g (Array.getElem?_eq_some_iff.1 hg).1]
    exact hg

theorem Res.lower {base base' : Nat} {w : World} {v : Value} {xs : List Nat} (h : Res base w v xs) (hb : base' ≤ base) : Res base' w v xs := by
  refine ⟨h.1, ?_⟩
  rcases h.2 with h1 | ⟨g, cap, cur, hv, hbg, r⟩
  · exact .inl h1
  · exact .inr ⟨g, cap, cur, hv, by omega, r⟩

set_option maxRecDepth 100000 in
set_option maxHeartbeats 400000 in
theorem div_less (A1 A2 : Option Addr) (xs ys : List Nat) (c1 c2 : Nat) (w : World) (h1 : Rd w A1 xs) (h2 : Rd w A2 ys) (s1 : Norm xs) (s2 : Norm ys)
    (hm : xs.length ≤ 549755813888) (hm2 : ys.length ≤ 549755813888) (hlt : wv xs < wv ys) :
    Calls Tryz.prog 246 #[.slice A1 xs.length c1, .slice A2 ys.length c2] w (Gives2 w (ofN (wv xs / wv ys)) (ofN (wv xs % wv ys))) := by
  have e1 : ofN (wv xs / wv ys) = [] := by rw [Nat.div_eq_of_lt hlt, ofN_zero]
  have e2 : ofN (wv xs % wv ys) = xs := by rw [Nat.mod_eq_of_lt hlt, ofN_wv s1]
  rw [e1, e2]
  have HC := Lib.hid (cmpWords_any A1 A2 xs ys c1 c2 w h1 h2 s1 s2 hm hm2)
  rw [cmpI_lt hlt] at HC
  clear e1 e2
  go_enter Tryz.func246, Tryz.ntmps246
  go_wp2_with fail
  with_reducible refine HC.out.mono ?_
  rintro e w' ⟨rfl, n, rfl⟩
  have HK := Lib.hid (copied_any A1 xs c1 (w.drewN n) h1 s1.1 hm)
  go_wp2_with fail
  with_reducible refine HK.out.mono ?_
  rintro e w1 ⟨rfl, hb, hL⟩
  have HB := Lib.hid hb
  have HL := Lib.hid hL
  clear hb hL
  go_wp2
  go_ret2
  exact Gives2.of ((below_drewN (Below.refl _ _) n).trans HB.out) (Res.nil _ _) HL.out.res

set_option maxRecDepth 100000 in
set_option maxHeartbeats 400000 in
theorem div_word (A1 A2 : Option Addr) (xs ys : List Nat) (c1 c2 : Nat) (w : World) (h1 : Rd w A1 xs) (h2 : Rd w A2 ys) (s1 : Norm xs) (s2 : Norm ys)
    (hm : xs.length ≤ 549755813888) (hl : ys.length = 1) (hle : wv ys ≤ wv xs) :
    Calls Tryz.prog 246 #[.slice A1 xs.length c1, .slice A2 ys.length c2] w (Gives2 w (ofN (wv xs / wv ys)) (ofN (wv xs % wv ys))) := by
  obtain ⟨d, rfl⟩ : ∃ d, ys = [d] := by
    match ys, hl with
    | [d], _ => exact ⟨d, rfl⟩
  have hd : d < 4294967296 := (small_cons.1 s2.1).1
  have hd0 : 0 < d := by
    rcases Nat.eq_zero_or_pos d with h0 | h0
    · subst h0; exact absurd rfl s2.2
    · exact h0
  have ev : wv [d] = d := by simp [wv]
  rw [ev] at hle ⊢
  obtain ⟨b, o, rfl, hy⟩ := h2 (by simp)
  have hy0 := hy 0 (by simp)
  rw [show nth [d] 0 = d from rfl] at hy0
  simp only [Nat.add_zero] at hy0
  have HC := Lib.hid (cmpWords_any A1 (some ⟨b, o, none⟩) xs [d] c1 c2 w h1 h2 s1 s2 hm (by simp))
  have hge : 0 ≤ cmpI (wv xs) (wv [d]) := by
    rw [ev]
    rcases Nat.eq_or_lt_of_le hle with h | h
    · rw [h, cmpI_eq]; omega
    · rw [cmpI_gt h]; omega
  have hnlt : ¬ cmpI (wv xs) (wv [d]) < 0 := by omega
  generalize cmpI (wv xs) (wv [d]) = cc at HC hge hnlt
  have HY := Lib.hid hy
  clear hy hl
  simp only [List.length_singleton] at HC ⊢
  go_enter Tryz.func246, Tryz.ntmps246
  go_wp2_with fail
  with_reducible refine HC.out.mono ?_
  rintro e w' ⟨rfl, n, rfl⟩
  have HK := Lib.hid (divSmall_any A1 xs c1 d (w.drewN n) h1 s1.1 hd0 hd hm)
  go_wp2_with fail
  with_reducible refine HK.out.mono ?_
  rintro e w1 ⟨A, c, rfl, hb, hR, hc1, hc2, hRd⟩
  have hB : Below w.heap.size w w1 := (below_drewN (Below.refl _ _) n).trans hb
  have hr := Nat.mod_lt (wv xs) hd0
  have HRM := Lib.hid (ofN_wv (xs := ofN (wv xs % d)) (norm_ofN _))
  have hL : Loc w.heap.size (w1.alloc (.cells #[.int .u32 ((wv xs % d : Nat) : Int)] tU32)) w1.heap.size 1 1 [wv xs % d] := by
    refine Loc.of_block (zs := [wv xs % d]) ?_ hB.size (small_cons.2 ⟨by omega, small_nil⟩) (by simp)
    rw [heap_alloc_new]
    simp [u32l]
  have hT := trim_len _ _ 1 1 _ rfl hL.rd hL.2.1 (by simp) (by simp [maxLen])
  have hv : wv [wv xs % d] = wv xs % d := by simp [wv]
  generalize wv xs % d = r at *
  have HV := Lib.hid hv
  have HL := Lib.hid hL
  have HB := Lib.hid hB
  have HR := Lib.hid hR
  have HT := Lib.hid hT
  have hs1 := hB.size
  clear hv hL hb hB hR hT HK
  go_wp2_with fail
  with_reducible refine HT.out.mono ?_
  rintro e w' ⟨rfl, rfl⟩
  go_wp2
  go_ret2
  have h := HL.out.trim
  rw [HV.out] at h
  exact Gives2.of (HB.out.alloc hs1 _) ((HR.out.block ((Below.refl _ _).alloc (Nat.le_refl _) _)).lower (Nat.le_refl _)) h

end Go.Proofs.YtihdnfhclocndaaGreatDoor
