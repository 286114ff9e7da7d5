
/-
  The walk of the law FnLayers; no condition.
-/
import Derived.Test.YtkhlolhmaoenoaaDrawC
import Derived.Test.YtkhlolhmaoenoaaLawB
import Derived.Test.YtkhlolhmaoenoaaLayersP
import Derived.Test.YtkhlolhmaoenoaaThickness
import Derived.Test.YtkhlolhmaoenoaaRoom
import Derived.Test.YtkhlolhmaoenoaaViewT
import Derived.BigRegion
namespace Go.Proofs.Ytkhlolhmaoenoaa
open Go.ChangeShapes Go.WideShapes Go.ChangeAt Go.RowKit Go.Deep Go.BigFrame
set_option linter.unusedVariables false
set_option linter.unusedSimpArgs false

theorem zeros_yes {zs : List Int} {k : Nat} (h : k < zs.length) (h2 : zs.getD k 0 = 0) : zeros (zs.take (k + 1)) = zeros (zs.take k) + 1 := by rw [zeros_take zs k h, if_pos h2]
theorem zeros_no {zs : List Int} {k : Nat} (h : k < zs.length) (h2 : ¬ zs.getD k 0 = 0) : zeros (zs.take (k + 1)) = zeros (zs.take k) := by rw [zeros_take zs k h, if_neg h2]; rfl
theorem topS_succ (F : ByteArray → Int) (ss : List ByteArray) (k : Nat) : topS F ss (k + 1) = max (topS F ss k) (F (ss.getD k .empty)) := rfl

/-- what the law asks of one strip -/
theorem one_layers {s : ByteArray} {d f : Nat} (h : StripOf d f s.data.toList) (hd : 1 ≤ d ∧ d ≤ 8) (hf : 1 ≤ f ∧ f ≤ 8) :
    ∃ (Z : List Int) (T : Int) (u : ByteArray), layers s.data.toList = Z ∧ thickS s = T ∧ Z.length = s.size ∧ s.size ≤ 16 ∧ sumI (Z.take s.size) = (s.size : Int) ∧ freePart s.data.toList = ((zeros (Z.take s.size) : Nat) : Int) ∧ thick s.data.toList = T ∧ mostP Z s.size = T ∧ 1 ≤ T ∧ T ≤ 16 ∧
      (∀ i, i ≤ s.size → 0 ≤ mostP Z i ∧ mostP Z i ≤ 16) ∧ (∀ z ∈ Z, -16 ≤ z ∧ z ≤ 16) ∧ bs (turnStrip s.data.toList) = u ∧ layers u.data.toList = Z ∧ u.size ≤ 4294967296 := by
  have hs := h.strip hd hf
  have hsz := h.2.2
  rw [size_list] at hsz
  obtain ⟨a1, a2, a3, a4, a5, a6⟩ := layers_law hs
  rw [size_list] at a1 a2 a4 a6
  have hz : ∀ z ∈ layers s.data.toList, 0 ≤ z ∧ z ≤ 16 := by
    intro z hz
    rw [layers_yes hs] at hz
    have := layP_small s.data.toList s.data.toList.length z hz
    rw [size_list] at this
    omega
  refine ⟨layers s.data.toList, thick s.data.toList, bs (turnStrip s.data.toList), rfl, rfl, a1, by omega, ?_, ?_, rfl, a4, a5, by omega, fun i hi => mostP_in _ 16 (by decide) (fun z h => (hz z h).2) i (by omega), fun z h => by have := hz z h; omega, rfl, ?_, ?_⟩
  · unfold sumI
    rw [List.take_of_length_le (by omega)]
    exact a2
  · rw [List.take_of_length_le (by omega)]
    exact a3
  · rw [bs_list]
    exact layers_turn hs
  · rw [bs_size, show turnStrip s.data.toList = turnL s.data.toList from if_pos hs, turn_len, size_list]
    omega

set_option maxHeartbeats 1000000 in
set_option maxRecDepth 100000 in
theorem fnLayers_walk (A : Option Addr) (c : Nat) (cs : List UInt8) (w : World) (h : BRow w w.heap.size A cs) :
    Calls Try.prog 9 #[.slice A cs.length c] w fun e w' => e = .returned (.bool true) ∧ Below w.heap.size w w' := by
  by_cases hbig : 1048576 < cs.length
  · have HB := Lib.hid (fun w => big_any A c cs w)
    rw [decide_eq_true hbig] at HB
    go_enter Try.func9, Try.ntmps9
    go_wp2_with fail
    refine (HB.out _).mono ?_
    rintro e w1 ⟨rfl, rfl⟩
    go_wp2_with fail
    go_ret
    exact ⟨rfl, Below.refl _ _⟩
  have HB := Lib.hid (fun w => big_any A c cs w)
  rw [decide_eq_false hbig] at HB
  have HBR := Lib.hid h
  clear h hbig
  go_enter Try.func9, Try.ntmps9
  go_wp2_with fail
  refine (HB.out _).mono ?_
  rintro e w0 ⟨rfl, rfl⟩
  go_wp2_with fail
  refine (DrawCard_any A c cs _ HBR.out).mono ?_
  rintro e w1 ⟨d, f, ss, A', c', hd, hf, hl, hss, rfl, ho, hb⟩
  obtain ⟨hok, hsm⟩ := drawn_ok hd hf hl hss
  have HS := Lib.hid (fun (k : Nat) (hk : k < ss.length) => one_layers (hss _ (mem_getD hk)) (by omega) (by omega))
  have HM := Lib.hid (show ∀ s ∈ ss, s.size ≤ 4294967296 from fun s h => Nat.le_trans (hsm s h) (by decide))
  have HB1 := Lib.hid hb
  have HBW := Lib.hid (below_thru hb (below_alloc (Below.refl _ _) (.cells #[.int .i64 d, .int .i64 f, .slice A' ss.length c'] 26)))
  have HA := Lib.hid (CardAt.start (d := d) (f := f) (c := c') (SRow.of_own ho))
  have hVY := viewsOf_yes (F := layers) hok
  have HVN := Lib.hid (show (viewsOf layers d f ss).length = ss.length by rw [hVY, List.length_map])
  have HVG := Lib.hid (fun (k : Nat) (hk : k < ss.length) => show (viewsOf layers d f ss).getD k [] = layers (ss.getD k .empty).data.toList by
    rw [hVY]
    simp [List.getD, hk])
  have HTB := Lib.hid (topS_small (F := thickS) (ss := ss) (B := 16) (by decide) (fun s h => by
    obtain ⟨i, hi, rfl⟩ := List.getElem_of_mem h
    have hh := HS.out i hi
    obtain ⟨Z, T, u, _, t, _, _, _, _, _, _, _, tb, _⟩ := hh
    rw [show ss[i] = ss.getD i .empty by simp [List.getD, hi], t]
    exact tb))
  have HTS := Lib.hid (topS_succ thickS ss)
  have HTK := Lib.hid (fun (sh : Int) (h : 1 ≤ sh ∧ sh ≤ 1000) => show thickness d f ss sh = (topS thickS ss ss.length + 2) * sh from if_pos (andI hok (inB_iff.2 h)))
  have HLT := Lib.hid (fun (w : World) hx => implLayerTable_any d f A' c' ss w hx HM.out)
  have HTH := Lib.hid (fun (sh : Int) (hsh : 1 ≤ sh ∧ sh ≤ 1000) (w : World) hx => implThickness_any d f A' c' ss sh w hx HM.out (by omega) (by omega) (by omega))
  have HHS := Lib.hid (fun w => specHighStrip_any d f w (by omega) (by omega))
  have HFH := Lib.hid (show freePart (high d f) = ((min d f : Nat) : Int) from free_high ⟨d, by omega⟩ ⟨f, by omega⟩ hd.1 hf.1)
  have HHZ := Lib.hid (show (bs (high d f)).size ≤ 4294967296 by rw [bs_size, (high_counts d f).2.2]; omega)
  clear hb ho hss hok hsm hVY
  go_upto_region 4 with (fail)
  generalize w1.alloc (.cells #[.int .i64 d, .int .i64 f, .slice A' ss.length c'] 26) = w2 at *
  generalize viewsOf layers d f ss = V at *
  obtain ⟨p0, p1, p2, prow, pb, plt⟩ := HA.out
  clear prow pb
  go_wp2_with fail
  refine (HLT.out _ HA.out.full).mono ?_
  rintro e w3 ⟨A3, c3, rfl, ht, hb3⟩
  have HA3 := Lib.hid (HA.out.on hb3)
  obtain ⟨us, hl3⟩ := Tab.lrow ht
  have HLR := Lib.hid hl3
  clear hb3 ht hl3 HA p0 p1 p2 plt
  rw [HVN.out]
  have hne : ((ss.length : Int) != (ss.length : Int)) = false := by simp
  obtain ⟨p0, p1, p2, prow, pb, plt⟩ := HA3.out
  clear prow pb p0 p1 plt
  go_wp2_with fail
  clear p2
  go_loopw [5, 6] (fun tv kv wr => ∃ k : Nat, k ≤ ss.length ∧ kv = .int .i64 k ∧ tv = .int .i64 (topS thickS ss k) ∧ CardAt w1 wr d f A' c' ss ∧ LRow wr wr.heap.size A3 us V) (fun _ kv _ => ss.length - (intOf kv).toNat)
  case atStart => exact ⟨0, Nat.zero_le _, rfl, rfl, HA3.out, HLR.out⟩
  case round =>
    obtain ⟨k, hk, rfl, rfl, hca, hlr⟩ := hrel
    obtain ⟨wo, hwo⟩ : ∃ wo, wo = wr := ⟨_, rfl⟩
    subst hwo
    have HA := Lib.hid hca
    have HL := Lib.hid hlr
    clear hlr HA3 HLR
    obtain ⟨p0, p1, p2, prow, pb, plt⟩ := hca
    clear prow pb plt
    by_cases hlt : k < ss.length
    · have hi : (k : Int) < (ss.length : Int) := by omega
      have htk := HTB.out k hk
      have HTSK := Lib.hid (HTS.out k)
      obtain ⟨Z, T, u, hZ, hT, hZl, hsz, hsum, hfree, hth, hmost, hT1, hT2, hmb, hzb, hu, hlu, husz⟩ := HS.out k hlt
      have HVK := Lib.hid ((HVG.out k hlt).trans hZ)
      have hmk := HM.out _ (mem_getD hlt)
      rw [hT] at HTSK
      have HL1 := Lib.hid (fun w => implLayersOf_any (ss.getD k .empty) w hmk)
      have HL2 := Lib.hid (fun w => implLayersOf_any u w husz)
      have HFP := Lib.hid (fun w => implFreePart_any (ss.getD k .empty) w hmk)
      have HTO := Lib.hid (fun w => implThickestOf_any (ss.getD k .empty) w hmk)
      have HTN := Lib.hid (fun w => specTurnStrip_any (ss.getD k .empty) w hmk)
      rw [hZ] at HL1
      rw [hlu] at HL2
      rw [hfree] at HFP
      rw [hth] at HTO
      rw [hu] at HTN
      obtain ⟨b1, o1, rfl, hb1, hc1⟩ := HA.out.at_ hlt
      generalize ss.getD k .empty = s at *
      generalize topS thickS ss k = tk at *
      have HZL := Lib.hid hZl
      have HSM := Lib.hid (sum_small Z hzb)
      have HST := Lib.hid (sum_take Z)
      have HSUM := Lib.hid hsum
      have HMOST := Lib.hid hmost
      have HMB := Lib.hid hmb
      have HZY := Lib.hid (fun k => @zeros_yes Z k)
      have HZN := Lib.hid (fun k => @zeros_no Z k)
      have HZE := Lib.hid (zeros_le Z)
      have HSI := Lib.hid (fun (A B : Option Addr) (c d : Nat) (w : World) (hx : IRow w w.heap.size A Z) (hy : IRow w w.heap.size B Z) => show Calls Try.prog 44 #[.slice A s.size c, .slice B s.size d] w (fun e w' => e = .returned (.bool true) ∧ ∃ k, w' = w.drewN k) from by
        have h0 := sameInts_any A B c d Z Z w hx hy
        rw [hZl, decide_eq_true rfl] at h0
        exact h0)
      clear hZ hT hZl hsum hfree hth hmost hmb hzb hu hlu husz hmk p0 p1
      go_wp2_with fail
      refine (HL1.out _).mono ?_
      rintro e w5 ⟨A5, c5, rfl, ho5, hb5⟩
      have HA5 := Lib.hid (HA.out.on hb5)
      have HLR5 := Lib.hid (HL.out.on hb5)
      have HX5 := Lib.hid (IRow.of_own ho5)
      clear ho5 hb5 HA HL p2 hc1
      rw [HZL.out]
      go_wp2_with fail
      go_loopw [9, 10, 11, 12] (fun sv fv mv iv wr => ∃ i : Nat, i ≤ s.size ∧ iv = .int .i64 i ∧ sv = .int .i64 (sumI (Z.take i)) ∧ fv = .int .i64 (zeros (Z.take i) : Nat) ∧ mv = .int .i64 (mostP Z i) ∧ wr = w5) (fun _ _ _ iv _ => s.size - (intOf iv).toNat)
      case atStart => exact ⟨0, Nat.zero_le _, rfl, rfl, rfl, rfl, rfl⟩
      case round =>
        obtain ⟨i, hi2, rfl, rfl, rfl, rfl, hq⟩ := hrel
        obtain rfl := hq
        by_cases hlt2 : i < s.size
        · have hii : (i : Int) < (s.size : Int) := by omega
          obtain ⟨b5, o5, rfl, hb5, hc5⟩ := HX5.out.at_ (k := i) (by rw [HZL.out]; exact hlt2)
          have hs1 := HSM.out i
          have hs2 := HSM.out (i + 1)
          have HSK := Lib.hid (HST.out i (by rw [HZL.out]; exact hlt2))
          rw [HSK.out] at hs2
          have hm1 := HMB.out i hi2
          have hm2 := HMB.out (i + 1) hlt2
          have hmx : mostP Z (i + 1) = max (mostP Z i) (Z.getD i 0) := rfl
          have HMX := Lib.hid hmx
          have hze := HZE.out i
          have HZ1 := Lib.hid (HZY.out i (by rw [HZL.out]; exact hlt2))
          have HZ0 := Lib.hid (HZN.out i (by rw [HZL.out]; exact hlt2))
          rw [hmx] at hm2
          clear hmx
          generalize Z.getD i 0 = z at *
          generalize sumI (Z.take i) = sm at *
          generalize zeros (Z.take i) = ze at *
          generalize mostP Z i = mo at *
          by_cases hz0 : z = 0
          · have hzb : (z == 0) = true := by rw [hz0]; rfl
            have HBT := Lib.hid (fun w => show Calls Try.prog 43 #[.bool true] w (fun e w' => e = .returned (.int .i64 1) ∧ w' = w) from btoi_any true w)
            have HZ2 := Lib.hid (HZ1.out hz0)
            clear hz0
            go_wp2_with fail
            refine (HBT.out _).mono ?_
            rintro e w6 ⟨rfl, rfl⟩
            go_wp2_with fail
            go_roundw
            case rel => exact ⟨i + 1, by omega, by go_num, by rw [HSK.out], by rw [HZ2.out]; go_num, by rw [HMX.out], by first | rfl | trivial⟩
            case measure => simp [intOf]; omega
          · have hzb : (z == 0) = false := by simpa using hz0
            have HBT := Lib.hid (fun w => show Calls Try.prog 43 #[.bool false] w (fun e w' => e = .returned (.int .i64 0) ∧ w' = w) from btoi_any false w)
            have HZ2 := Lib.hid (HZ0.out hz0)
            clear hz0
            go_wp2_with fail
            refine (HBT.out _).mono ?_
            rintro e w6 ⟨rfl, rfl⟩
            go_wp2_with fail
            go_roundw
            case rel => exact ⟨i + 1, by omega, by go_num, by rw [HSK.out], by rw [HZ2.out], by rw [HMX.out], by first | rfl | trivial⟩
            case measure => simp [intOf]; omega
        · obtain rfl : i = s.size := by omega
          rw [HSUM.out, HMOST.out]
          have hzz := HZE.out s.size
          generalize zeros (Z.take s.size) = ze at *
          obtain ⟨b7, o7, A7, c7, rfl, hb7, hc7, hr7⟩ := LRow.at_ HLR5.out (k := k) (by rw [HVN.out]; exact hlt)
          rw [HVK.out] at hc7 hr7
          rw [HZL.out] at hc7
          have HR7 := Lib.hid hr7
          have hT1' : ¬ T < 1 := by omega
          have e1 : ((s.size : Int) != (s.size : Int)) = false := by simp
          have e2 : ((ze : Int) != (ze : Int)) = false := by simp
          have e3 : (T != T) = false := by simp
          clear hr7
          go_wp2_with fail
          refine (HSI.out A5 A7 c5 c7 wr HX5.out HR7.out).mono ?_
          rintro e w7 ⟨rfl, q7, hw7⟩
          have b7 : Below wr.heap.size wr w7 := by rw [hw7]; exact below_drewN (Below.refl _ _) _
          have HA7 := Lib.hid (HA5.out.on b7)
          have HL7 := Lib.hid (HLR5.out.on b7)
          have HX7 := Lib.hid (HX5.out.on b7)
          clear b7 hw7 hc7 HA5 HLR5 HX5 HR7
          go_wp2_with fail
          refine (HFP.out _).mono ?_
          rintro e w8 ⟨rfl, b8⟩
          have HA8 := Lib.hid (HA7.out.on b8)
          have HL8 := Lib.hid (HL7.out.on b8)
          have HX8 := Lib.hid (HX7.out.on b8)
          clear b8 HA7 HL7 HX7
          go_wp2_with fail
          refine (HTO.out _).mono ?_
          rintro e w9 ⟨rfl, b9⟩
          have HA9 := Lib.hid (HA8.out.on b9)
          have HL9 := Lib.hid (HL8.out.on b9)
          have HX9 := Lib.hid (HX8.out.on b9)
          clear b9 HA8 HL8 HX8
          go_wp2_with fail
          refine (HTN.out _).mono ?_
          rintro e w10 ⟨rfl, rfl⟩
          go_wp2_with fail
          refine (HL2.out _).mono ?_
          rintro e w11 ⟨A11, c11, rfl, ho11, b11⟩
          have HA11 := Lib.hid (HA9.out.on b11)
          have HL11 := Lib.hid (HL9.out.on b11)
          have HX11 := Lib.hid (HX9.out.on b11)
          have HY11 := Lib.hid (IRow.of_own ho11)
          rw [HZL.out]
          clear b11 ho11 HA9 HL9 HX9
          go_wp2_with fail
          refine (HSI.out A11 A5 c11 c5 _ HY11.out HX11.out).mono ?_
          rintro e w12 ⟨rfl, q12, hw12⟩
          have b12 : Below w11.heap.size w11 w12 := by rw [hw12]; exact below_drewN (Below.refl _ _) _
          have HA12 := Lib.hid (HA11.out.on b12)
          have HL12 := Lib.hid (HL11.out.on b12)
          clear b12 hw12 HA11 HL11 HX11 HY11
          go_wp2_with fail
          go_roundw
          case rel => exact ⟨k + 1, by omega, by go_num, by rw [HTSK.out], HA12.out, HL12.out⟩
          case measure => simp [intOf]; omega
    · obtain rfl : k = ss.length := by omega
      have htk := HTB.out ss.length (Nat.le_refl _)
      have HTK1 := Lib.hid HTK.out
      have HBC := Lib.hid (show BRow wo wo.heap.size A cs from Row.more (Row.keep HBR.out (fun b o hlt => (below_thru HB1.out HA.out.below).cell (p := ⟨b, o, none⟩) hlt)) (below_thru HB1.out HA.out.below).size)
      have HBA := Lib.hid (below_thru HB1.out HA.out.below)
      have HAT := Lib.hid (fun w h => at_any A c cs 0 w h (by decide))
      generalize topS thickS ss ss.length = tk at *
      clear p0 p1 p2
      go_wp2_with fail
      refine (HAT.out _ HBC.out).mono ?_
      rintro e w4 ⟨⟨x, hx, rfl⟩, q4, hw4⟩
      have b4 : Below wo.heap.size wo w4 := by rw [hw4]; exact below_drewN (Below.refl _ _) _
      have HA4 := Lib.hid (HA.out.on b4)
      have HB4 := Lib.hid (show Below w0.heap.size w0 w4 by rw [hw4]; exact below_drewN HBA.out _)
      clear hw4 b4 HA HBC HBA
      obtain ⟨sh, hsh⟩ : ∃ sh : Int, sh = 1 + (x : Int) := ⟨_, rfl⟩
      have e1 : IntKind.i64.wrap (1 + (x : Int)) = sh := by rw [IntKind.wrap_i64]; omega
      have e1' : 1 + (x : Int) = sh := hsh.symm
      have hsh2 : 1 ≤ sh ∧ sh ≤ 256 := by omega
      clear hsh
      have HTC := Lib.hid (fun w hx => HTH.out sh (by omega) w hx)
      rw [HTK1.out sh (by omega)] at HTC
      have hmul : 0 ≤ (tk + 2) * sh ∧ (tk + 2) * sh ≤ 10000 := by
        refine ⟨Int.mul_nonneg (by omega) (by omega), Int.le_trans (Int.mul_le_mul (show tk + 2 ≤ 18 by omega) (show sh ≤ 256 by omega) (by omega) (by decide)) (by decide)⟩
      have hwm : IntKind.i64.wrap ((tk + 2) * sh) = (tk + 2) * sh := by rw [IntKind.wrap_i64]; omega
      obtain ⟨M, hM⟩ : ∃ M, (tk + 2) * sh = M := ⟨_, rfl⟩
      rw [hM] at HTC hmul
      have hwm : IntKind.i64.wrap ((tk + 2) * sh) = M := by rw [hwm]; exact hM
      have h64 : wrap64 M = M := IntWalk.wrap64_in M (by omega)
      have e9 : (M == M) = true := by simp
      have e10 : (min (d : Int) (f : Int) == min (d : Int) (f : Int)) = true := by simp
      have hmin : ((min d f : Nat) : Int) = min (d : Int) (f : Int) := by omega
      have HFC := Lib.hid (fun w => implFreePart_any (bs (high d f)) w HHZ.out)
      rw [bs_list, HFH.out, hmin] at HFC
      obtain ⟨p0, p1, p2, prow, pb, plt⟩ := HA4.out
      have q0 := InW.cell plt p0
      have q1 := InW.cell plt p1
      have q2 := InW.cell plt p2
      have HHC := Lib.hid HHS.out
      generalize bs (high d f) = hs at *
      clear prow pb plt hmul hmin
      go_wp2_with fail
      refine wp_region_in (by kernel_rfl) (by kernel_rfl) ?_
      repeat (go_big_quiet_step ((first | (go_at_call 49; refine (HTC.out _ (HA4.out.full.on (InW.on _))).mono ?_; rintro e w' ⟨rfl, hb⟩; exact ⟨rfl, ⟨_, below_thru (InW.on _) hb⟩, rfl⟩) | (go_at_call 50; refine (HHC.out _).mono ?_; rintro e w' ⟨rfl, rfl⟩; exact ⟨rfl, _, rfl⟩) | (go_at_call 45; refine (HFC.out _).mono ?_; rintro e w' ⟨rfl, hb⟩; exact ⟨rfl, ⟨_, below_thru (InW.on _) hb⟩, rfl⟩))))
      refine wpQuiet_nil ?_
      intro w2_ hw2_
      obtain ⟨⟨w6, hb6⟩, rfl⟩ := hw2_
      go_wp2_with fail
      go_ret
      exact ⟨rfl, below_thru HB4.out hb6⟩

end Go.Proofs.Ytkhlolhmaoenoaa
