
/-
  The walk of the law FnAreas; no condition.
-/
import Derived.Test.YtkhlolhmaoenoaaDrawC
import Derived.Test.YtkhlolhmaoenoaaLawB
import Derived.Test.YtkhlolhmaoenoaaAreasP
import Derived.Test.YtkhlolhmaoenoaaViewsP
import Derived.Test.YtkhlolhmaoenoaaCounts
import Derived.Test.YtkhlolhmaoenoaaWays2
import Derived.Test.YtkhlolhmaoenoaaVolume
import Derived.Test.YtkhlolhmaoenoaaStr0
import Derived.BigRegion
namespace Go.Proofs.Ytkhlolhmaoenoaa
open Go.ChangeShapes Go.WideShapes Go.ChangeAt Go.RowKit Go.Deep Go.BigFrame
set_option linter.unusedVariables false
set_option linter.unusedSimpArgs false

/-- what the law says of the table -/
theorem table_law {d f : Nat} (hd : 1 ≤ d ∧ d ≤ 5) (hf : 1 ≤ f ∧ f ≤ 5) : (∀ k, k < (table d f).length → 1 ≤ (table d f).getD k 0 ∧ (table d f).getD k 0 = (table d f).getD ((table d f).length - 1 - k) 0) ∧ sumI (table d f) = countAbove (flat d f) ∧ countAbove (high d f) = 1 := by
  have h := tables_ok ⟨d, by omega⟩ ⟨f, by omega⟩ hd.1 hf.1
  simp only [tableOk, Bool.and_eq_true, decide_eq_true_eq, tableF_is] at h
  obtain ⟨h1, h2, h3, h4⟩ := h
  refine ⟨fun k hk => ⟨?_, ?_⟩, h3, h4⟩
  · have := List.all_eq_true.1 h2 ((table d f).getD k 0) (by
      rw [List.getD_eq_getElem?_getD, List.getElem?_eq_getElem hk]
      exact List.getElem_mem _)
    simpa using this
  · have e := congrArg (fun l : List Int => l.getD k 0) h1
    rw [← show (table d f).reverse.getD k 0 = (table d f).getD k 0 from e]
    rw [List.getD_eq_getElem?_getD, List.getD_eq_getElem?_getD, List.getElem?_reverse hk]

theorem room_law {l : List UInt8} {d f : Nat} (h : StripOf d f l) (hd : 1 ≤ d ∧ d ≤ 8) (hf : 1 ≤ f ∧ f ≤ 8) : 0 ≤ roomOf l ∧ roomOf l ≤ ((d * f : Nat) : Int) := by
  have hs := h.strip hd hf
  have e : roomOf l = sumI (hts l) := by rw [← hts_all hs]; exact if_pos hs
  have key : ∀ (zs : List Int) (D : Nat), (∀ z ∈ zs, 0 ≤ z ∧ z ≤ (D : Int)) → 0 ≤ zs.sum ∧ zs.sum ≤ ((D * zs.length : Nat) : Int) := by
    intro zs D
    induction zs with
    | nil => intro _; simp
    | cons z zs ih =>
      intro hz
      have a := hz z List.mem_cons_self
      have b := ih (fun y hy => hz y (List.mem_cons_of_mem _ hy))
      rw [List.sum_cons, List.length_cons, Nat.mul_add, Nat.mul_one]
      omega
  have k := key (hts l) (dn l) (hts_in l)
  rw [hts_len, h.1, h.2.1] at k
  rw [e]
  exact k

/-- what the law asks of a drawn strip -/
theorem one_area {l : List UInt8} {d f : Nat} (h : StripOf d f l) (hd : 1 ≤ d ∧ d ≤ 5) (hf : 1 ≤ f ∧ f ≤ 5) :
    ∃ (bF bH : Bool), 1 ≤ countAbove l ∧ countAbove l ≤ sumI (table d f) ∧ (countAbove l == sumI (table d f)) = bF ∧ ((bs l).toList == (bs (flat d f)).toList) = bF ∧ (countAbove l == 1) = bH ∧ ((bs l).toList == (bs (high d f)).toList) = bH := by
  obtain ⟨_, hS, hH⟩ := table_law hd hf
  obtain ⟨a1, a2, a3, a4⟩ := above_law h.1 h.2.1 h.2.2 (by omega) (by omega)
  rw [← hS] at a2 a3
  have hinj : ∀ {x y : List UInt8}, bs x = bs y → x = y := fun {x y} e => by
    have := congrArg (fun b : ByteArray => b.data.toList) e
    simpa [bs_list] using this
  refine ⟨decide (l = flat d f), decide (l = high d f), a1, a2, ?_, ?_, ?_, ?_⟩
  · by_cases e : l = flat d f
    · rw [decide_eq_true e, e, hS]; simp
    · rw [decide_eq_false e]
      have := a3 e
      simp
      omega
  · by_cases e : l = flat d f
    · rw [decide_eq_true e, e]; simp
    · rw [decide_eq_false e]
      exact txt_ne (fun x => e (hinj x))
  · by_cases e : l = high d f
    · rw [decide_eq_true e, e, hH]; rfl
    · rw [decide_eq_false e]
      have := a4 e
      simp
      omega
  · by_cases e : l = high d f
    · rw [decide_eq_true e, e]; simp
    · rw [decide_eq_false e]
      exact txt_ne (fun x => e (hinj x))


set_option maxHeartbeats 2000000 in
set_option maxRecDepth 100000 in
theorem fnAreas_walk (A : Option Addr) (c : Nat) (cs : List UInt8) (w : World) (h : BRow w w.heap.size A cs) :
    Calls Try.prog 10 #[.slice A cs.length c] w fun e w' => e = .returned (.bool true) ∧ Below w.heap.size w w' := by
  by_cases hbig : 1048576 < cs.length
  · have HB := Lib.hid (fun w => big_any A c cs w)
    rw [decide_eq_true hbig] at HB
    go_enter Try.func10, Try.ntmps10
    go_wp2_with fail
    refine (HB.out _).mono ?_
    rintro e w1 ⟨rfl, rfl⟩
    go_wp2_with fail
    go_ret
    exact ⟨rfl, Below.refl _ _⟩
  have HB := Lib.hid (fun w => big_any A c cs w)
  rw [decide_eq_false hbig] at HB
  have HBR := Lib.hid h
  clear h hbig
  go_enter Try.func10, Try.ntmps10
  go_wp2_with fail
  refine (HB.out _).mono ?_
  rintro e w0 ⟨rfl, rfl⟩
  go_wp2_with fail
  refine (DrawStrip_any A c cs _ HBR.out).mono ?_
  rintro e w1 ⟨d, f, l, hd, hf, hl, rfl, hb1⟩
  have hs := hl.strip (by omega) (by omega)
  have hsz : (bs l).size ≤ 4294967296 := by rw [hl.size]; omega
  obtain ⟨bF, bH, ha1, ha2, haF, hsF, haH, hsH⟩ := one_area hl hd hf
  obtain ⟨hr1, hr2⟩ := room_law hl (by omega) (by omega)
  obtain ⟨htb, htS, _⟩ := table_law hd hf
  have HDN := Lib.hid (fun w => specDownOf_any (bs l) w hsz)
  have HFW := Lib.hid (fun w => specForwardOf_any (bs l) w hsz)
  have HRU := Lib.hid (fun w => implRoomUnder_any (bs l) w hsz)
  have HCA := Lib.hid (fun w => implCountAbove_any (bs l) w hsz)
  rw [bs_list, downOf_yes hs, hl.1] at HDN
  rw [bs_list, forwardOf_yes hs, hl.2.1] at HFW
  rw [bs_list] at HRU HCA
  have HRT := Lib.hid (fun w => implRoomTable_any d f w)
  rw [show roomTable (d : Int) (f : Int) = table d f from if_pos (andI (inB_iff.2 (by omega)) (inB_iff.2 (by omega)))] at HRT
  have HCW := Lib.hid (fun (r : Nat) hr w => implCountWithRoom_any d f r w (by omega) (by omega) hr)
  have HCS := Lib.hid (fun w => implCountStrips_any d f w (by omega) (by omega))
  have HFL := Lib.hid (fun w => specFlatStrip_any d f w (by omega) (by omega))
  have HHI := Lib.hid (fun w => specHighStrip_any d f w (by omega) (by omega))
  have HTB := Lib.hid htb
  have HSW := Lib.hid (sum_wide (table d f) (table_in (by omega) (by omega)))
  have HST := Lib.hid (sum_take (table d f))
  have HTA := Lib.hid (List.take_length (l := table d f))
  have hNl := table_small (d := d) (f := f) (by omega) (by omega)
  have hND := table_len d f
  have hSb := HSW.out (table d f).length
  rw [HTA.out] at hSb
  have hm3 : (d : Int) * (f : Int) = ((d * f : Nat) : Int) := (Int.natCast_mul d f).symm
  have hD : d * f ≤ 64 := Nat.le_trans (Nat.mul_le_mul (show d ≤ 8 by omega) (show f ≤ 8 by omega)) (by decide)
  have HC6 := Lib.hid (fun w => show Calls Try.prog 59 #[.int .i64 2, .int .i64 2] w (fun e w' => e = .returned (.int .i64 6) ∧ Below w.heap.size w w') from by
    have h0 := implCountStrips_any 2 2 w (by decide) (by decide)
    rw [show sumI (table 2 2) = 6 from by rw [← tableF_is]; exact table22] at h0
    exact h0)
  generalize bs l = s at *
  generalize bs (flat d f) = sF at *
  generalize bs (high d f) = sH at *
  generalize countAbove l = a at *
  generalize roomOf l = n at *
  generalize table d f = T at *
  generalize d * f = D at *
  have eN : ((T.length : Int) == (D : Int) + 1) = true := by simp; omega
  have HB1 := Lib.hid hb1
  clear hs hsz hl htb htS hb1 hND
  go_wp2_with fail
  refine (HDN.out _).mono ?_
  rintro e w2 ⟨rfl, rfl⟩
  go_wp2_with fail
  refine (HFW.out _).mono ?_
  rintro e w2 ⟨rfl, rfl⟩
  go_wp2_with fail
  refine (HRT.out _).mono ?_
  rintro e w2 ⟨A2, c2, rfl, ho2, hb2⟩
  have HX := Lib.hid (IRow.of_own ho2)
  have HB2 := Lib.hid (below_thru HB1.out hb2)
  clear ho2 hb2 HB1
  go_wp2_with fail
  refine (HRU.out _).mono ?_
  rintro e w3 ⟨rfl, hb3⟩
  have HX3 := Lib.hid (HX.out.on hb3)
  have HB3 := Lib.hid (below_thru HB2.out hb3)
  clear hb3 HX HB2
  go_wp2_with fail
  go_loopw [8, 9] (fun sv kv wr => ∃ k : Nat, k ≤ T.length ∧ kv = .int .i64 k ∧ sv = .int .i64 (sumI (T.take k)) ∧ IRow wr wr.heap.size A2 T ∧ Below w0.heap.size w0 wr) (fun _ kv _ => T.length - (intOf kv).toNat)
  case atStart => exact ⟨0, Nat.zero_le _, rfl, rfl, HX3.out, HB3.out⟩
  case round =>
    obtain ⟨k, hk, rfl, rfl, hxr, hbr⟩ := hrel
    obtain ⟨wo, hwo⟩ : ∃ wo, wo = wr := ⟨_, rfl⟩
    subst hwo
    have HXR := Lib.hid hxr
    have HBB := Lib.hid hbr
    clear HX3 HB3 hxr hbr
    have hs1 := HSW.out k
    by_cases hlt : k < T.length
    · have hi : (k : Int) < (T.length : Int) := by omega
      obtain ⟨b1, o1, rfl, hb1, hc1⟩ := HXR.out.at_ hlt
      obtain ⟨b2, o2, e2, hb2, hc2⟩ := HXR.out.at_ (k := T.length - 1 - k) (by omega)
      obtain ⟨rfl, rfl⟩ : b1 = b2 ∧ o1 = o2 := by simpa using e2
      obtain ⟨ht1, ht2⟩ := HTB.out k hlt
      rw [← ht2] at hc2
      have hs2 := HSW.out (k + 1)
      have HSK := Lib.hid (HST.out k hlt)
      rw [HSK.out] at hs2
      have HCK := Lib.hid (fun w => HCW.out k hlt w)
      have hkm : (T.length : Int) - 1 - (k : Int) = ((T.length - 1 - k : Nat) : Int) := by omega
      have hk2 : ((T.length - 1 - k : Nat) : Int) < (T.length : Int) := by omega
      obtain ⟨k2, hk2'⟩ : ∃ k2, k2 = T.length - 1 - k := ⟨_, rfl⟩
      rw [← hk2'] at hkm hk2 hc2
      clear hk2' ht2 e2
      generalize T.getD k 0 = z at *
      generalize sumI (T.take k) = sm at *
      have hz1 : ¬ z < 1 := by omega
      have hz1' : decide (z < 1) = false := by simp; omega
      have hzz : (z != z) = false := by simp
      have q1 := InW.cell hb1 hc1
      have q2 := InW.cell hb1 hc2
      go_wp2_with fail
      refine wp_region_in (by kernel_rfl) (by kernel_rfl) ?_
      repeat (go_big_quiet_step (((go_at_call 56; refine (HCK.out _).mono ?_; rintro e w' ⟨rfl, hb⟩; exact ⟨rfl, ⟨_, below_thru (InW.on _) hb⟩, rfl⟩))))
      refine wpQuiet_nil ?_
      intro w2_ hw2_
      obtain ⟨⟨w7, hb7⟩, rfl⟩ := hw2_
      have HX7 := Lib.hid (HXR.out.on hb7)
      have HB7 := Lib.hid (below_thru HBB.out hb7)
      clear hb7 hc1 hc2 q1 q2 HXR HBB
      go_wp2_with fail
      go_roundw
      case rel => exact ⟨k + 1, by omega, by go_num, by rw [HSK.out], HX7.out, HB7.out⟩
      case measure => simp [intOf]; omega
    · obtain rfl : k = T.length := by omega
      rw [HTA.out]
      generalize sumI T = S at *
      have HBC := Lib.hid (show BRow wo wo.heap.size A cs from Row.more (Row.keep HBR.out (fun b o hlt => HBB.out.cell (p := ⟨b, o, none⟩) hlt)) HBB.out.size)
      clear hs1
      go_wp2_with fail
      refine (DrawCard_any A c cs _ HBC.out).mono ?_
      rintro e w5 ⟨d2, f2, ss, A', c', hd2, hf2, hl2, hss, rfl, ho5, hb5⟩
      obtain ⟨hok, hsm⟩ := drawn_ok hd2 hf2 hl2 hss
      have HM := Lib.hid (show ∀ s ∈ ss, s.size ≤ 4294967296 from fun s h => Nat.le_trans (hsm s h) (by decide))
      have HVO := Lib.hid (fun (w : World) hx => implVolumeOf_any d2 f2 A' c' ss w hx HM.out (by omega) (by omega))
      rw [show volumeOf d2 f2 ss = accS roomS ss ss.length from if_pos hok] at HVO
      have HAB := Lib.hid (accS_small (F := roomS) (ss := ss) (B := 256) (fun s _ => roomS_small s))
      have HAS := Lib.hid (accS_succ roomS ss)
      have HA := Lib.hid (CardAt.start (d := d2) (f := f2) (c := c') (SRow.of_own ho5))
      have HB5 := Lib.hid (below_thru HBB.out hb5)
      clear ho5 hb5 hss hok hsm HBC HXR HBB
      go_upto_region 16 with (fail)
      generalize w5.alloc (.cells #[.int .i64 d2, .int .i64 f2, .slice A' ss.length c'] 26) = w6 at *
      go_wp2_with fail
      go_loopw [11, 12] (fun vv kv wr => ∃ k : Nat, k ≤ ss.length ∧ kv = .int .i64 k ∧ vv = .int .i64 (accS roomS ss k) ∧ CardAt w5 wr d2 f2 A' c' ss) (fun _ kv _ => ss.length - (intOf kv).toNat)
      case atStart => exact ⟨0, Nat.zero_le _, rfl, rfl, HA.out⟩
      case round =>
        obtain ⟨k, hk, rfl, rfl, hca⟩ := hrel
        have HA6 := Lib.hid hca
        clear HA
        obtain ⟨p0, p1, p2, prow, pb, plt⟩ := hca
        clear prow pb plt
        have hv1 := HAB.out k hk
        by_cases hlt : k < ss.length
        · have hi : (k : Int) < (ss.length : Int) := by omega
          obtain ⟨b1, o1, rfl, hb1, hc1⟩ := HA6.out.at_ hlt
          have hv2 := HAB.out (k + 1) hlt
          have HVK := Lib.hid (HAS.out k hlt)
          rw [HVK.out] at hv2
          have hmk := HM.out _ (mem_getD hlt)
          have HRK := Lib.hid (fun w => show Calls Try.prog 57 #[.string (ss.getD k .empty)] w (fun e w' => e = .returned (.int .i64 (roomS (ss.getD k .empty))) ∧ Below w.heap.size w w') from specRoomUnder_any _ w hmk)
          generalize roomS (ss.getD k .empty) = rk at *
          generalize accS roomS ss k = vk at *
          generalize ss.getD k .empty = sk at *
          go_wp2_with fail
          refine (HRK.out _).mono ?_
          rintro e w8 ⟨rfl, hb8⟩
          have HA8 := Lib.hid (HA6.out.on hb8)
          clear hb8 HA6 p0 p1 p2 hc1
          go_wp2_with fail
          go_roundw
          case rel => exact ⟨k + 1, by omega, by go_num, by rw [HVK.out], HA8.out⟩
          case measure => simp [intOf]; omega
        · obtain rfl : k = ss.length := by omega
          generalize accS roomS ss ss.length = v at *
          have eS : (S == S) = true := by simp
          have ev : (v == v) = true := by simp
          have ebF : (bF == bF) = true := by simp
          have ebH : (bH == bH) = true := by simp
          go_wp2_with fail
          refine (HCA.out _).mono ?_
          rintro e w8 ⟨rfl, hb8⟩
          have HA8 := Lib.hid (HA6.out.on hb8)
          clear hb8 HA6 p0 p1 p2
          obtain ⟨p0, p1, p2, prow, pb, plt⟩ := HA8.out
          clear prow pb plt
          go_wp2_with fail
          refine (HCS.out _).mono ?_
          rintro e w9 ⟨rfl, hb9⟩
          have HA9 := Lib.hid (HA8.out.on hb9)
          clear hb9 HA8 p0 p1 p2
          obtain ⟨p0, p1, p2, prow, pb, plt⟩ := HA9.out
          clear prow pb plt
          go_wp2_with fail
          refine (HFL.out _).mono ?_
          rintro e w10 ⟨rfl, rfl⟩
          go_wp2_with fail
          refine (HHI.out _).mono ?_
          rintro e w10 ⟨rfl, rfl⟩
          go_wp2_with fail
          refine (HVO.out _ HA9.out.full).mono ?_
          rintro e w10 ⟨rfl, hb10⟩
          have HA10 := Lib.hid (HA9.out.on hb10)
          clear hb10 HA9 p0 p1 p2
          go_wp2_with fail
          refine (HC6.out _).mono ?_
          rintro e w11 ⟨rfl, hb11⟩
          have HFB := Lib.hid (below_thru HB5.out (below_thru HA10.out.below hb11))
          clear hb11
          go_wp2_with fail
          go_ret
          exact ⟨rfl, HFB.out⟩

end Go.Proofs.Ytkhlolhmaoenoaa
