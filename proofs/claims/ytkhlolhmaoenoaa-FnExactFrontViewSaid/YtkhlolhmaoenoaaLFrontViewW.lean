
/-
  The walk of the law FnExactFrontView; no condition beyond the size of the texts.
-/
import Derived.Test.YtkhlolhmaoenoaaViewT
import Derived.Test.YtkhlolhmaoenoaaIntSS
import Derived.Test.YtkhlolhmaoenoaaMarkT
import Derived.Test.YtkhlolhmaoenoaaTabLaw
import Derived.Deep.RegionHeld3
import Derived.Deep.Cut
namespace Go.Proofs.Ytkhlolhmaoenoaa
open Go.ChangeShapes Go.WideShapes Go.ChangeAt Go.RowKit Go.Deep Go.BigFrame
set_option linter.unusedVariables false
set_option linter.unusedSimpArgs false

set_option maxHeartbeats 2000000 in
set_option maxRecDepth 100000 in
theorem fnExactFrontView_walk (d f : Int) (A : Option Addr) (c : Nat) (ss : List ByteArray) (w : World) (hx : SRow w w.heap.size A ss) (hmx : ∀ s ∈ ss, s.size ≤ maxLen)
    (bd : -9223372036854775808 ≤ d ∧ d ≤ 9223372036854775807) (bf : -9223372036854775808 ≤ f ∧ f ≤ 9223372036854775807) :
    Calls Try.prog 4 #[.agg #[.int .i64 d, .int .i64 f, .slice A ss.length c]] w fun e w' => e = .returned (.bool true) ∧ Below w.heap.size w w' := by
  have hrr := szAll_cases ss 1048576 (by decide)
  have hsm' := szAll_small (ss := ss)
  have HZ := Lib.hid (fun w hx => szCard_any d f A c ss 1048576 w hx hmx (by decide) (by decide))
  have HA0 := Lib.hid (show CardAt w (w.alloc (.cells #[.int .i64 d, .int .i64 f, .slice A ss.length c] 24)) d f A c ss from ⟨by go_simp, by go_simp, by go_simp, hx.alloc (Nat.le_refl _) _, (Below.refl _ _).alloc (Nat.le_refl _) _, by simp⟩)
  have HV := Lib.hid (viewsOf_small depths depths_len d f ss)
  generalize szAll 1048576 ss = r at *
  by_cases hlen : 0 ≤ r
  case neg =>
    obtain rfl : r = -1 := by omega
    clear hsm' hmx hx
    go_enter Try.func4, Try.ntmps4
    go_wp2_with fail
    refine (HZ.out _ HA0.out.full).mono ?_
    rintro e w1 ⟨rfl, hb1⟩
    go_wp2_with fail
    go_ret
    exact ⟨rfl, below_thru HA0.out.below hb1⟩
  obtain ⟨hl2, hsm⟩ := hsm' hlen
  have hsz : ∀ s ∈ ss, s.size ≤ 4294967296 := fun s h => Nat.le_trans (hsm s h) (by decide)
  have HSP := Lib.hid (fun A c (u : World) hx => specFrontView_any d f A c ss u hx hsz)
  have HIM := Lib.hid (fun A c (u : World) hx => implFrontView_any d f A c ss u hx hsz)
  have HTC := Lib.hid (fun (u : World) hx => toCard_any d f A c ss u hx hl2)
  generalize viewsOf depths d f ss = V at *
  obtain ⟨hv1, hv2⟩ := HV.out
  clear hsm' hsm hsz hmx hx HV
  go_enter Try.func4, Try.ntmps4
  go_wp2_with fail
  refine (HZ.out _ HA0.out.full).mono ?_
  rintro e w1 ⟨rfl, hb1⟩
  have HA1 := Lib.hid (HA0.out.on hb1)
  obtain ⟨p0, p1, p2, prow, pb, plt⟩ := HA1.out
  clear hb1 HA0 prow pb
  go_wp2_with fail
  refine (HTC.out _ HA1.out.full).mono ?_
  rintro e w2 ⟨A2, c2, rfl, o2, b2⟩
  have HA2 := Lib.hid (HA1.out.on b2)
  have R2 := Lib.hid (SRow.of_own o2)
  clear o2 b2 HA1 p0 p1 p2 plt
  go_wp2_with fail
  refine (HSP.out _ _ _ R2.out).mono ?_
  rintro e w3 ⟨A3, c3, rfl, t3, b3⟩
  have HA3 := Lib.hid (HA2.out.on b3)
  obtain ⟨vs3, l3⟩ := Tab.lrow t3
  have L3 := Lib.hid l3
  have HAL := Lib.hid (show w.heap.size < w3.heap.size from HA3.out.lt)
  clear t3 l3 b3 R2 HA2 HSP
  obtain ⟨p0, p1, p2, prow, pb, plt⟩ := HA3.out
  clear prow pb
  go_wp2_with fail
  refine (HTC.out _ HA3.out.full).mono ?_
  rintro e w4 ⟨A4, c4, rfl, o4, b4⟩
  have HA5 := Lib.hid (HA3.out.on (below_alloc b4 (.cells #[.int .i64 d, .int .i64 f, .slice A4 ss.length c4] 26)))
  have HX5 := Lib.hid (CardAt.start (d := d) (f := f) (c := c4) (SRow.of_own o4))
  have L5 := Lib.hid (L3.out.below (below_alloc b4 (.cells #[.int .i64 d, .int .i64 f, .slice A4 ss.length c4] 26)))
  have O5 := Lib.hid (o4.alloc (.cells #[.int .i64 d, .int .i64 f, .slice A4 ss.length c4] 26))
  have s34 := b4.size
  have s45 : w4.heap.size < (w4.alloc (.cells #[.int .i64 d, .int .i64 f, .slice A4 ss.length c4] 26)).heap.size := by simp
  have OLT := Lib.hid (fun g hg => (o4.lt g hg).2)
  clear b4 o4 L3 HA3 p0 p1 p2 plt
  go_upto_region 7 with (fail)
  generalize w4.alloc (.cells #[.int .i64 d, .int .i64 f, .slice A4 ss.length c4] 26) = w5 at *
  obtain ⟨q0, q1, q2, qrow, qb, qlt⟩ := HX5.out
  clear qrow qb
  go_wp2_with fail
  refine (HIM.out _ _ _ HX5.out.full).mono ?_
  rintro e w6 ⟨A6, c6, rfl, t6, b6⟩
  have HA6 := Lib.hid (HA5.out.on b6)
  have HX6 := Lib.hid (HX5.out.on b6)
  have L6 := Lib.hid (L5.out.below (b6.mono (by omega)))
  have O6 := Lib.hid (own_on O5.out b6)
  have T6 := Lib.hid t6
  have s56 := b6.size
  clear t6 b6 L5 O5 HA5 HX5 q0 q1 q2 qlt
  obtain ⟨us6, l6⟩ := Tab.lrow T6.out
  have LG := Lib.hid l6
  clear l6
  go_wp2_with fail
  refine (eqIntSS_any A6 A3 c6 c3 us6 vs3 V V w6 LG.out (L6.out.more (by omega))).mono ?_
  rw [decide_eq_true rfl]
  rintro e w7 ⟨rfl, q7, hw7⟩
  have b7 : Below w6.heap.size w6 w7 := by rw [hw7]; exact below_drewN (Below.refl _ _) _
  have HA7 := Lib.hid (HA6.out.on b7)
  have HX7 := Lib.hid (HX6.out.on b7)
  have L7 := Lib.hid (L6.out.below (b7.mono (by omega)))
  have O7 := Lib.hid (own_on O6.out b7)
  have T7 := Lib.hid (T6.out.on b7)
  have s67 := b7.size
  clear b7 hw7 L6 O6 HA6 HX6 T6 LG
  obtain ⟨p0, p1, p2, prow, pb, plt⟩ := HA7.out
  obtain ⟨q0, q1, q2, qrow, qb, qlt⟩ := HX7.out
  have HXF := Lib.hid (show SRow w7 w7.heap.size A ss from HA7.out.full)
  have HYF := Lib.hid (show SRow w7 w7.heap.size A4 ss from HX7.out.full)
  clear prow pb qrow qb
  go_wp2_with fail
  go_region_held3 (fun w' => w'.cell? ⟨w.heap.size, 0, none⟩ = some (.int .i64 d) ∧ w'.cell? ⟨w.heap.size, 1, none⟩ = some (.int .i64 f) ∧ w'.cell? ⟨w.heap.size, 2, none⟩ = some (.slice A ss.length c) ∧ w'.cell? ⟨w4.heap.size, 0, none⟩ = some (.int .i64 d) ∧ w'.cell? ⟨w4.heap.size, 1, none⟩ = some (.int .i64 f) ∧ w'.cell? ⟨w4.heap.size, 2, none⟩ = some (.slice A4 ss.length c4))
    (first | go_keep | (go_split_ands; refine ⟨?_, ?_, ?_, ?_, ?_, ?_⟩ <;> (refine cell_on hb6 ?_; assumption)) | (go_split_ands; refine ⟨?_, ?_, ?_, ?_, ?_, ?_⟩ <;> (refine cell_on hb7 ?_; assumption)))
    ((first
      | (go_at_call 14; refine (HTC.out _ (HXF.out.drew)).mono ?_; rintro e w8 ⟨A8, c8, rfl, hown6, hb6⟩; have hr6 := Lib.hid (SRow.of_own hown6); clear hown6)
      | (go_at_call 16; refine (eqCard_any _ _ _ _ _ _ _ _ _ _ _ (SRow.on (w := w7.drew) HYF.out hb6) hr6.out).mono ?_; rw [decide_eq_true rfl]; rintro e w9 ⟨rfl, hb7⟩)))
  have b9 : Below w7.heap.size w7 w9 := below_thru (below_undrew9 hb6) hb7
  have HA9 := Lib.hid (HA7.out.on b9)
  have HX9 := Lib.hid (HX7.out.on b9)
  have L9 := Lib.hid (L7.out.below (b9.mono (by omega)))
  have O9 := Lib.hid (own_on O7.out b9)
  have T9 := Lib.hid (T7.out.on b9)
  have s79 := b9.size
  clear b9 hb6 hb7 hr6 p0 p1 p2 plt q0 q1 q2 qlt HXF HYF HA7 HX7 L7 O7 T7
  obtain ⟨q0, q1, q2, qrow, qb, qlt⟩ := HX9.out
  clear qrow qb
  go_wp2_with fail
  refine (markCard_any d f A4 c4 1 ss.length w3.heap.size _ w9 O9.out (by decide) (by decide) hl2).mono ?_
  rintro e w10 ⟨rfl, o10, g10⟩
  have hrA : ∀ g, (Value.slice A4 ss.length c4).ownBlock = some g → w3.heap.size ≤ g ∧ g < w4.heap.size := fun g hg => ⟨(O9.out.lt g hg).1, OLT.out g hg⟩
  have HA10 := Lib.hid (HA9.out.grown g10 (fun g hg => Nat.lt_of_lt_of_le HAL.out (hrA g hg).1))
  have L10 := Lib.hid (lrow_grown L9.out g10 (by omega) (fun g hg => (hrA g hg).1))
  have T10 := Lib.hid (T9.out.grownApart g10 (fun g hg => Nat.lt_trans (hrA g hg).2 s45))
  have s910 := g10.size
  clear o10 g10 q0 q1 q2 qlt HA9 HX9 L9 O9 T9
  obtain ⟨us10, l10⟩ := Tab.lrow T10.out
  have LG := Lib.hid l10
  clear l10
  have hnk : ¬ (((1 + ss.length : Nat) : Int) < 0) := by omega
  go_wp2_with fail
  refine (eqIntSS_any A6 A3 c6 c3 us10 vs3 V V w10 LG.out (L10.out.more (by omega))).mono ?_
  rw [decide_eq_true rfl]
  rintro e w11 ⟨rfl, q11, hw11⟩
  have b11 : Below w10.heap.size w10 w11 := by rw [hw11]; exact below_drewN (Below.refl _ _) _
  have HA11 := Lib.hid (HA10.out.on b11)
  have L11 := Lib.hid (L10.out.below (b11.mono (by omega)))
  have T11 := Lib.hid (T10.out.on b11)
  have s1011 := b11.size
  clear b11 hw11 HA10 L10 T10 LG
  go_wp2_with fail
  refine (markIntSS_any A6 c6 1 w5.heap.size V w11 T11.out (by decide) hv1 hv2).mono ?_
  rintro e w12 ⟨rfl, t12, b12⟩
  have HA12 := Lib.hid (HA11.out.on2 b12 (Nat.lt_of_lt_of_le HAL.out (by omega)))
  have L12 := Lib.hid (L11.out.below (b12.mono (by omega)))
  have s1112 := b12.size
  obtain ⟨us12, l12⟩ := Tab.lrow2 t12 (mkTab_len 1 V V.length)
  have M12 := Lib.hid l12
  clear t12 l12 b12 HA11 L11 T11
  go_wp2_with fail
  refine (heldIntSS_any A6 c6 1 us12 V w12 M12.out (by decide) hv1 hv2).mono ?_
  rintro e w13 ⟨rfl, q13, hw13⟩
  have b13 : Below w12.heap.size w12 w13 := by rw [hw13]; exact below_drewN (Below.refl _ _) _
  have HA13 := Lib.hid (HA12.out.on b13)
  have L13 := Lib.hid (L12.out.below (b13.mono (by omega)))
  have M13 := Lib.hid (M12.out.on b13)
  have s1213 := b13.size
  clear b13 hw13 HA12 L12 M12
  have hnq : ¬ (((1 + totS V V.length : Nat) : Int) < 0) := by omega
  obtain ⟨p0, p1, p2, prow, pb, plt⟩ := HA13.out
  clear prow pb
  go_wp2_with fail
  refine (HTC.out _ HA13.out.full).mono ?_
  rintro e w14 ⟨A14, c14, rfl, o14, b14⟩
  have HA14 := Lib.hid (HA13.out.on b14)
  have L14 := Lib.hid (L13.out.below (b14.mono (by omega)))
  have M14 := Lib.hid (M13.out.on b14)
  have R14 := Lib.hid (SRow.of_own o14)
  have s1314 := b14.size
  clear b14 o14 p0 p1 p2 plt HA13 L13 M13
  go_wp2_with fail
  refine (HIM.out _ _ _ R14.out).mono ?_
  rintro e w15 ⟨A15, c15, rfl, t15, b15⟩
  have HA15 := Lib.hid (HA14.out.on b15)
  have L15 := Lib.hid (L14.out.below (b15.mono (by omega)))
  have M15 := Lib.hid (M14.out.on b15)
  have s1415 := b15.size
  obtain ⟨us15, l15⟩ := Tab.lrow t15
  have LG := Lib.hid l15
  clear l15 t15 b15 HA14 L14 M14 R14
  go_wp2_with fail
  refine (eqIntSS_any A15 A3 c15 c3 us15 vs3 V V w15 LG.out (L15.out.more (by omega))).mono ?_
  rw [decide_eq_true rfl]
  rintro e w16 ⟨rfl, q16, hw16⟩
  have b16 : Below w15.heap.size w15 w16 := by rw [hw16]; exact below_drewN (Below.refl _ _) _
  have HA16 := Lib.hid (HA15.out.on b16)
  have M16 := Lib.hid (M15.out.on b16)
  clear b16 hw16 HA15 L15 M15 LG
  go_wp2_with fail
  refine (heldIntSS_any A6 c6 1 us12 V w16 M16.out (by decide) hv1 hv2).mono ?_
  rintro e w17 ⟨rfl, q17, hw17⟩
  have HB := Lib.hid (show Below w.heap.size w w17 by rw [hw17]; exact below_drewN HA16.out.below _)
  clear hw17
  go_wp2_with fail
  go_ret
  exact ⟨rfl, HB.out⟩

end Go.Proofs.Ytkhlolhmaoenoaa
