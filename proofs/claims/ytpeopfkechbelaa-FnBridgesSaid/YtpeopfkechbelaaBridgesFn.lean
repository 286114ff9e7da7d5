
/-
  The walk of the law FnBridges; no condition.
-/
import Derived.Test.YtpeopfkechbelaaDrawB
import Derived.Test.YtpeopfkechbelaaLawB
import Derived.Test.YtpeopfkechbelaaBCount2
import Derived.Test.YtpeopfkechbelaaBridge3
import Derived.Test.YtpeopfkechbelaaBridgesP
import Derived.Test.YtpeopfkechbelaaStaysS
import Derived.Test.YtpeopfkechbelaaAbove2
import Derived.BigRegion
namespace Go.Proofs.Ytpeopfkechbelaa
open Go.ChangeShapes Go.WideShapes Go.ChangeAt Go.RowKit Go.Deep Go.BigFrame
set_option linter.unusedVariables false
set_option linter.unusedSimpArgs false

theorem roomOf_bound (l : List UInt8) : -256 ≤ roomOf l ∧ roomOf l ≤ 256 := by
  unfold roomOf
  by_cases h : isStrip l = true
  · rw [if_pos h]
    have a := sum_small _ (hP_small h) (hP l l.length).length
    rw [List.take_length] at a
    have b := isStrip_parts h
    have c : (hP l l.length).length = fw l := by rw [hts_all h]; exact hts_len l
    rw [c] at a
    omega
  · rw [if_neg h]; omega
theorem fd_bridge : bridgeOk (⟨#[100, 102]⟩ : ByteArray).data.toList 0 2 (⟨#[102, 100]⟩ : ByteArray).data.toList = true := by decide

theorem bridged_list {s st : ByteArray} {a b : Nat} (h : Upon s.data.toList a b st.data.toList) : (bridgedB s a b st).data.toList = withB s.data.toList a b st.data.toList := by
  have hl := h.le
  rw [size_list] at hl
  unfold bridgedB
  rw [if_pos h.ok]
  simp only [Int.toNat_natCast, ByteArray.data_append, Array.toList_append, ByteArray.toList_data_append, extract_list]
  unfold withB cutL
  rw [List.append_assoc, List.take_of_length_le (l := List.drop b s.data.toList) (by rw [List.length_drop, size_list]; exact Nat.le_refl _)]
  simp
theorem bridged_own {s st : ByteArray} {a b : Nat} (h : Upon s.data.toList a b st.data.toList) : bridgedB s a b (s.extract a b) = s := by
  have hl := h.le
  have e := h.own
  rw [← extract_list] at e
  apply ByteArray.ext
  apply Array.toList_inj.1
  rw [bridged_list e, extract_list]
  exact withB_own h

theorem bridged_facts {s st : ByteArray} {a b : Nat} (h : Upon s.data.toList a b st.data.toList) :
    (bridgedB s a b st).data.toList = withB s.data.toList a b st.data.toList ∧ (bridgedB s a b st).size = s.size ∧ isStrip (bridgedB s a b st).data.toList = true ∧ isAbove (bridgedB s a b st).data.toList s.data.toList = true := by
  have e := bridged_list h
  refine ⟨e, ?_, ?_, ?_⟩
  · rw [← size_list, e, (withB_counts h).2.2, size_list]
  · rw [e]; exact (sameFrame_parts (withB_frame h)).1
  · rw [e]; exact withB_above h
theorem part_of {s st : ByteArray} {a b : Nat} (h : st.data.toList = cutL s.data.toList a b) : st = s.extract a b := by
  apply ByteArray.ext
  apply Array.toList_inj.1
  rw [h, extract_list]
theorem bridged_room {s st : ByteArray} {a b : Nat} (h : Upon s.data.toList a b st.data.toList) :
    roomBetween s a b st = roomOf (bridgedB s a b st).data.toList - roomOf s.data.toList ∧ (0 < roomBetween s a b st ∨ st = s.extract a b) := by
  have e : roomBetween s a b st = areaOf s.data.toList (bridgedB s a b st).data.toList := if_pos h.ok
  obtain ⟨r1, r2⟩ := withB_room h
  rw [e, bridged_list h]
  exact ⟨r1, r2.imp id part_of⟩
theorem bridged_count {s st : ByteArray} {a b : Nat} (h : Upon s.data.toList a b st.data.toList) :
    1 ≤ bridgeCount s.data.toList a b ∧ (1 < bridgeCount s.data.toList a b ∨ st = s.extract a b) := by
  obtain ⟨r1, r2⟩ := bridges_two h
  exact ⟨r1, r2.imp id part_of⟩
set_option maxRecDepth 8000 in
set_option maxHeartbeats 1600000 in
theorem fnBridges_walk (A : Option Addr) (c : Nat) (cs : List UInt8) (w : World) (h : BRow w w.heap.size A cs) :
    Calls Try.prog 4 #[.slice A cs.length c] w fun e w' => e = .returned (.bool true) ∧ Below w.heap.size w w' := by
  by_cases hbig : 1048576 < cs.length
  · have HB := Lib.hid (fun w => big_any A c cs w)
    rw [decide_eq_true hbig] at HB
    go_enter Try.func4, Try.ntmps4
    go_wp2_with fail
    refine (HB.out _).mono ?_
    rintro e w1 ⟨rfl, rfl⟩
    go_wp2_with fail
    go_ret
    exact ⟨rfl, Below.refl _ _⟩
  have HB := Lib.hid (fun w => big_any A c cs w)
  rw [decide_eq_false hbig] at HB
  have HBR := Lib.hid h
  clear h hbig
  go_enter Try.func4, Try.ntmps4
  go_wp2_with fail
  refine (HB.out _).mono ?_
  rintro e w0 ⟨rfl, rfl⟩
  go_wp2_with fail
  refine (DrawBridgeOk_any A c cs _ HBR.out).mono ?_
  rintro e w1 ⟨s, fr, to, st, hs, hst, rfl, hb1⟩
  have HOK := Lib.hid (fun w => implBridgeOk_any s st fr to w (by omega) (by omega))
  have HSO := Lib.hid (fun w => specBridgeOk_any s st fr to w (by omega) (by omega))
  have HT := Lib.hid (fun w => implBridgedStrip_any s st fr to w (by omega) (by omega))
  have HR := Lib.hid (fun w => implRoomBetween_any s st fr to w (by omega) (by omega))
  have HL := Lib.hid (fun w => implIsLoose_any s st fr to w (by omega) (by omega))
  have HA2 := Lib.hid (br_made w1 fr to st)
  have HB2 := Lib.hid (below_alloc hb1 (.cells #[.int .i64 fr, .int .i64 to, .string st] 39))
  go_upto_region 4 with (fail)
  clear hb1 HBR HB
  generalize w1.alloc (.cells #[.int .i64 fr, .int .i64 to, .string st] 39) = w2 at *
  generalize w1.heap.size = blk at *
  obtain ⟨r0, r1, r2, rf⟩ := HA2.out
  cases hg : bridgeOk s.data.toList fr to st.data.toList
  · rw [show bridgedB s fr to st = .empty from if_neg (by rw [hg]; simp)] at HT
    rw [show roomBetween s fr to st = -1 from if_neg (by rw [hg]; simp)] at HR
    rw [show looseB s.data.toList fr to st.data.toList = false by unfold looseB; rw [hg]; rfl] at HL
    rw [hg] at HOK HSO
    have HFD := Lib.hid (fun w => show Calls Try.prog 20 #[.string ⟨#[100, 102]⟩, .agg #[.int .i64 0, .int .i64 2, .string ⟨#[102, 100]⟩]] w (fun e w' => e = .returned (.bool true) ∧ Below w.heap.size w w') from by
      have h0 := implBridgeOk_any ⟨#[100, 102]⟩ ⟨#[102, 100]⟩ 0 2 w (by decide) (by decide)
      rw [fd_bridge] at h0
      exact h0)
    clear hg
    go_wp2_with fail
    refine (HOK.out _).mono ?_
    rintro e w3 ⟨rfl, hb⟩
    have HA3 := Lib.hid (HA2.out.below hb)
    have HB3 := Lib.hid (below_thru HB2.out hb)
    clear hb r0 r1 r2 rf
    obtain ⟨r0, r1, r2, rf⟩ := HA3.out
    go_wp2_with fail
    refine (HT.out _).mono ?_
    rintro e w4 ⟨rfl, hb⟩
    have HA4 := Lib.hid (HA3.out.below hb)
    have HB4 := Lib.hid (below_thru HB3.out hb)
    clear hb r0 r1 r2 rf
    obtain ⟨r0, r1, r2, rf⟩ := HA4.out
    go_wp2_with fail
    refine (HR.out _).mono ?_
    rintro e w5 ⟨rfl, hb⟩
    have HA5 := Lib.hid (HA4.out.below hb)
    have HB5 := Lib.hid (below_thru HB4.out hb)
    clear hb r0 r1 r2 rf
    obtain ⟨r0, r1, r2, rf⟩ := HA5.out
    go_wp2_with fail
    refine (HL.out _).mono ?_
    rintro e w6 ⟨rfl, hb⟩
    have HA6 := Lib.hid (HA5.out.below hb)
    have HB6 := Lib.hid (below_thru HB5.out hb)
    clear hb r0 r1 r2 rf
    obtain ⟨r0, r1, r2, rf⟩ := HA6.out
    go_wp2_with fail
    refine (HSO.out _).mono ?_
    rintro e w7 ⟨rfl, hb⟩
    have HA7 := Lib.hid (HA6.out.below hb)
    have HB7 := Lib.hid (below_thru HB6.out hb)
    clear hb r0 r1 r2 rf
    obtain ⟨r0, r1, r2, rf⟩ := HA7.out
    go_wp2_with fail
    refine (HFD.out _).mono ?_
    rintro e w8 ⟨rfl, hb⟩
    have HA8 := Lib.hid (HA7.out.below hb)
    have HB8 := Lib.hid (below_thru HB7.out hb)
    clear hb r0 r1 r2 rf
    obtain ⟨r0, r1, r2, rf⟩ := HA8.out
    go_wp2_with fail
    go_ret
    exact ⟨rfl, HB8.out⟩
  · obtain ⟨a, b, rfl, rfl, hu⟩ := upon_of hg
    have hlt := hu.lt
    have hle := hu.le
    rw [size_list] at hle
    have HN := Lib.hid (fun w => implBridgeCount_any s a b w (by omega))
    rw [hg] at HOK HSO
    obtain ⟨hTl, hTs, hTi, hTab⟩ := bridged_facts hu
    obtain ⟨hrm, hrp⟩ := bridged_room hu
    obtain ⟨hn1, hnp⟩ := bridged_count hu
    have hbS := roomOf_bound s.data.toList
    have hbT := roomOf_bound (bridgedB s a b st).data.toList
    have hF := bridged_own hu
    have HFI := Lib.hid (fun w => show Calls Try.prog 21 #[.string s, .agg #[.int .i64 a, .int .i64 b, .string (s.extract a b)]] w (fun e w' => e = .returned (.string s) ∧ Below w.heap.size w w') from by
      have h0 := implBridgedStrip_any s (s.extract a b) a b w (by omega) (by rw [extract_size' (by omega) (by omega)]; omega)
      rw [hF] at h0
      exact h0)
    have hsi := hu.strip
    have hsl := run_sl s a b a b rfl rfl (by omega) (by omega)
    have HLN := Lib.hid (fun k h1 h2 e => loose_no hu (k := k) h1 h2 e)
    have HLY := Lib.hid (fun hno => loose_yes hu hno)
    rw [← hTl] at HLN HLY
    have HSX := Lib.hid (fun k w hk => specStripAt_any s k w (by omega) hk hsi)
    have HSY := Lib.hid (fun k w hk => specStripAt_any (bridgedB s a b st) k w (by omega) hk hTi)
    have HAB := Lib.hid (fun w => specIsAbove_any (bridgedB s a b st) s w (by omega) (by omega))
    rw [hTab] at HAB
    have HRT := Lib.hid (fun w => specRoomUnder_any (bridgedB s a b st) w (by omega))
    have HRS := Lib.hid (fun w => specRoomUnder_any s w (by omega))
    have HDO := Lib.hid (fun w => specDownOf_any s w (by omega))
    have HFO := Lib.hid (fun w => specForwardOf_any s w (by omega))
    rw [downOf_yes hsi] at HDO
    rw [forwardOf_yes hsi] at HFO
    obtain ⟨p1, p2, p3, p4, p5⟩ := isStrip_parts hsi
    rw [size_list] at p1
    have HST := Lib.hid (fun w => show Calls Try.prog 28 #[.string (bridgedB s a b st), .int .i64 ((dn s.data.toList : Int) + (fw s.data.toList : Int))] w (fun e w' => e = .returned (.bool true) ∧ ∃ q, w' = w.drewN q) from by
      have h0 := specStays_any (bridgedB s a b st) (dn s.data.toList + fw s.data.toList) w (by omega) hTi
      rw [Int.natCast_add] at h0
      exact h0)
    rw [hrm] at HR
    rw [hrm] at hrp
    clear hTl hTi hTab hF hsi hrm hu hg
    generalize bridgedB s a b st = T at *
    generalize looseB s.data.toList a b st.data.toList = lb at *
    generalize bridgeCount s.data.toList a b = n at *
    generalize roomOf s.data.toList = rS at *
    generalize roomOf T.data.toList = rT at *
    generalize dn s.data.toList = dS at *
    generalize fw s.data.toList = fS at *
    generalize s.extract a b = pt at *
    have hno0 : (rT - rS == rT - rS) = true := by simp
    have hn1' : decide ((1 : Int) ≤ n) = true := decide_eq_true hn1
    go_wp2_with fail
    refine (HOK.out _).mono ?_
    rintro e w3 ⟨rfl, hb⟩
    have HA3 := Lib.hid (HA2.out.below hb)
    have HB3 := Lib.hid (below_thru HB2.out hb)
    clear hb r0 r1 r2 rf
    obtain ⟨r0, r1, r2, rf⟩ := HA3.out
    go_wp2_with fail
    refine (HT.out _).mono ?_
    rintro e w4 ⟨rfl, hb⟩
    have HA4 := Lib.hid (HA3.out.below hb)
    have HB4 := Lib.hid (below_thru HB3.out hb)
    clear hb r0 r1 r2 rf
    obtain ⟨r0, r1, r2, rf⟩ := HA4.out
    go_wp2_with fail
    refine (HR.out _).mono ?_
    rintro e w5 ⟨rfl, hb⟩
    have HA5 := Lib.hid (HA4.out.below hb)
    have HB5 := Lib.hid (below_thru HB4.out hb)
    clear hb r0 r1 r2 rf
    obtain ⟨r0, r1, r2, rf⟩ := HA5.out
    go_wp2_with fail
    refine (HL.out _).mono ?_
    rintro e w6 ⟨rfl, hb⟩
    have HA6 := Lib.hid (HA5.out.below hb)
    have HB6 := Lib.hid (below_thru HB5.out hb)
    clear hb r0 r1 r2 rf
    obtain ⟨r0, r1, r2, rf⟩ := HA6.out
    go_wp2_with fail
    refine (HSO.out _).mono ?_
    rintro e w7 ⟨rfl, hb⟩
    have HA7 := Lib.hid (HA6.out.below hb)
    have HB7 := Lib.hid (below_thru HB6.out hb)
    clear hb r0 r1 r2 rf
    obtain ⟨r0, r1, r2, rf⟩ := HA7.out
    go_wp2_with fail
    refine (HN.out _).mono ?_
    rintro e w8 ⟨rfl, hb⟩
    have HA8 := Lib.hid (HA7.out.below hb)
    have HB8 := Lib.hid (below_thru HB7.out hb)
    clear hb r0 r1 r2 rf
    obtain ⟨r0, r1, r2, rf⟩ := HA8.out
    go_wp2_with fail
    go_loopw [10, 11] (fun tch i wr => ∃ (k : Nat) (t : Bool), a + 1 ≤ k ∧ k ≤ b ∧ i = .int .i64 k ∧ tch = .bool t ∧ (t = true → ∃ j, a + 1 ≤ j ∧ j < b ∧ fw (s.data.toList.take j) = fw (T.data.toList.take j)) ∧ (t = false → ∀ j, a + 1 ≤ j → j < k → ¬ fw (s.data.toList.take j) = fw (T.data.toList.take j)) ∧ BrAt wr blk a b st ∧ Below w0.heap.size w0 wr) (fun _ i _ => b - (intOf i).toNat)
    case atStart => exact ⟨a + 1, false, Nat.le_refl _, hlt, by go_num, rfl, nofun, fun _ j h1 h2 => absurd h2 (by omega), HA8.out, HB8.out⟩
    case round =>
      obtain ⟨k, t, hk1, hk2, rfl, rfl, ht1, ht2, hba, hbb⟩ := hrel
      obtain ⟨wo, hwo⟩ : ∃ wo, wo = wr := ⟨_, rfl⟩
      subst hwo
      have HT1 := Lib.hid ht1
      have HT2 := Lib.hid ht2
      have HBA := Lib.hid hba
      have HBB := Lib.hid hbb
      clear ht1 ht2 hba hbb r0 r1 r2 rf HA8 HB8
      obtain ⟨r0, r1, r2, rf⟩ := HBA.out
      by_cases hkb : k < b
      · have hi : (k : Int) < (b : Int) := by omega
        have HX := Lib.hid (fun w => HSX.out k w (by omega))
        have HY := Lib.hid (fun w => HSY.out k w (by omega))
        have HN1 := Lib.hid (show fw (s.data.toList.take k) = fw (T.data.toList.take k) → ∃ j, a + 1 ≤ j ∧ j < b ∧ fw (s.data.toList.take j) = fw (T.data.toList.take j) from fun e => ⟨k, hk1, hkb, e⟩)
        have HN2 := Lib.hid (show (∀ j, a + 1 ≤ j → j < k → ¬ fw (s.data.toList.take j) = fw (T.data.toList.take j)) → ¬ fw (s.data.toList.take k) = fw (T.data.toList.take k) → ∀ j, a + 1 ≤ j → j < k + 1 → ¬ fw (s.data.toList.take j) = fw (T.data.toList.take j) from fun h1 h2 j h3 h4 => by
          by_cases e : j = k
          · rw [e]; exact h2
          · exact h1 j h3 (by omega))
        generalize fw (s.data.toList.take k) = x at *
        generalize fw (T.data.toList.take k) = y at *
        generalize dn (s.data.toList.take k) = x2 at *
        generalize dn (T.data.toList.take k) = y2 at *
        go_wp2_with fail
        refine (HX.out _).mono ?_
        rintro e w9 ⟨rfl, q, hq⟩
        have b9 : Below wo.heap.size wo w9 := by rw [hq]; exact below_drewN (Below.refl _ _) _
        have HA9 := Lib.hid (HBA.out.below b9)
        have HB9 := Lib.hid (below_thru HBB.out b9)
        clear hq b9 r0 r1 r2 rf
        go_wp2_with fail
        refine (HY.out _).mono ?_
        rintro e w10 ⟨rfl, q, hq⟩
        have b10 : Below w9.heap.size w9 w10 := by rw [hq]; exact below_drewN (Below.refl _ _) _
        have HA10 := Lib.hid (HA9.out.below b10)
        have HB10 := Lib.hid (below_thru HB9.out b10)
        clear hq b10
        by_cases hxy : x = y
        · have he : ((x : Int) == (y : Int)) = true := by rw [hxy]; simp
          have hd := HN1.out hxy
          have HD := Lib.hid hd
          clear hd hxy HN1 HN2
          cases t
          · go_wp2_with fail
            go_roundw
            case rel => exact ⟨k + 1, true, by omega, by omega, by go_num, rfl, fun _ => HD.out, nofun, HA10.out, HB10.out⟩
            case measure => simp [intOf]; omega
          · go_wp2_with fail
            go_roundw
            case rel => exact ⟨k + 1, true, by omega, by omega, by go_num, rfl, fun _ => HD.out, nofun, HA10.out, HB10.out⟩
            case measure => simp [intOf]; omega
        · have he : ((x : Int) == (y : Int)) = false := by simp; omega
          have HXY := Lib.hid hxy
          clear hxy HN1
          cases t
          · go_wp2_with fail
            go_roundw
            case rel => exact ⟨k + 1, false, by omega, by omega, by go_num, rfl, nofun, fun _ => HN2.out (HT2.out (by trivial)) HXY.out, HA10.out, HB10.out⟩
            case measure => simp [intOf]; omega
          · go_wp2_with fail
            go_roundw
            case rel => exact ⟨k + 1, true, by omega, by omega, by go_num, rfl, fun _ => HT1.out (by trivial), nofun, HA10.out, HB10.out⟩
            case measure => simp [intOf]; omega
      · have hi : ¬ (k : Int) < (b : Int) := by omega
        have hkb2 : k = b := by omega
        have hlb : lb = !t := by
          cases t
          · exact HLY.out fun j h1 h2 => HT2.out rfl j h1 (by omega)
          · obtain ⟨j, h1, h2, h3⟩ := HT1.out rfl
            exact HLN.out j h1 h2 h3
        clear HT1 HT2 HLN HLY HSX HSY
        subst hlb
        go_wp2_with fail
        refine (HFI.out _).mono ?_
        rintro e w9 ⟨rfl, hb⟩
        have HA9 := Lib.hid (HBA.out.below hb)
        have HB9 := Lib.hid (below_thru HBB.out hb)
        clear hb r0 r1 r2 rf
        go_wp2_with fail
        refine (HAB.out _).mono ?_
        rintro e w10 ⟨rfl, rfl⟩
        go_wp2_with fail
        refine (HRT.out _).mono ?_
        rintro e w11 ⟨rfl, hb⟩
        have HA11 := Lib.hid (HA9.out.below hb)
        have HB11 := Lib.hid (below_thru HB9.out hb)
        clear hb
        go_wp2_with fail
        refine (HRS.out _).mono ?_
        rintro e w12 ⟨rfl, hb⟩
        have HA12 := Lib.hid (HA11.out.below hb)
        have HB12 := Lib.hid (below_thru HB11.out hb)
        clear hb
        have hll : ((!t) == (!t)) = true := beq_self_eq_true _
        have hge : (1 : Int) ≤ n := hn1
        go_wp2_with fail
        refine (HDO.out _).mono ?_
        rintro e w13 ⟨rfl, rfl⟩
        go_wp2_with fail
        refine (HFO.out _).mono ?_
        rintro e w13 ⟨rfl, rfl⟩
        go_wp2_with fail
        refine (HST.out _).mono ?_
        rintro e w13 ⟨rfl, q, hq⟩
        have b13 : Below w12.heap.size w12 w13 := by rw [hq]; exact below_drewN (Below.refl _ _) _
        have HA13 := Lib.hid (HA12.out.below b13)
        have HB13 := Lib.hid (below_thru HB12.out b13)
        clear b13 hq
        obtain ⟨r0, r1, r2, rf⟩ := HA13.out
        by_cases hsp : st = pt
        · subst hsp
          clear hrp hnp
          by_cases c1 : 0 < rT - rS
          · by_cases c2 : 1 < n
            · go_wp2_with fail
              go_ret
              exact ⟨rfl, HB13.out⟩
            · go_wp2_with fail
              go_ret
              exact ⟨rfl, HB13.out⟩
          · by_cases c2 : 1 < n
            · go_wp2_with fail
              go_ret
              exact ⟨rfl, HB13.out⟩
            · go_wp2_with fail
              go_ret
              exact ⟨rfl, HB13.out⟩
        · have hr1 : 0 < rT - rS := hrp.resolve_right hsp
          have hn2 : 1 < n := hnp.resolve_right hsp
          clear hrp hnp
          go_wp2_with fail
          go_ret
          exact ⟨rfl, HB13.out⟩

end Go.Proofs.Ytpeopfkechbelaa
