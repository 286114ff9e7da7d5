
/-
  The walk of the law FnFlips; no condition.
-/
import Derived.Test.YtpeopfkechbelaaDrawP
import Derived.Test.YtpeopfkechbelaaLawB
import Derived.Test.YtpeopfkechbelaaFlipsP
import Derived.Test.YtpeopfkechbelaaFolds
import Derived.Test.YtpeopfkechbelaaCountWays
import Derived.Test.YtpeopfkechbelaaWayUp
import Derived.Test.YtpeopfkechbelaaGhost
import Derived.Test.YtpeopfkechbelaaArea
import Derived.Deep.RegionLaw
import Derived.BigRegion
namespace Go.Proofs.Ytpeopfkechbelaa
open Go.ChangeShapes Go.WideShapes Go.ChangeAt Go.RowKit Go.Deep Go.BigFrame
set_option linter.unusedVariables false
set_option linter.unusedSimpArgs false

theorem has_yes (A : Option Addr) (c : Nat) (zs : List Int) (k : Int) (w : World) (hx : IRow w w.heap.size A zs) (hk : k ∈ zs) :
    Calls Try.prog 37 #[.slice A zs.length c, .int .i64 k] w fun e w' => e = .returned (.bool true) ∧ Below w.heap.size w w' := by
  have hm := hx.2.1
  unfold maxLen at hm
  obtain ⟨i1, hi1, hik⟩ := List.getElem_of_mem hk
  have hik' : zs.getD i1 0 = k := by simp [List.getD, hi1, hik]
  have HK := Lib.hid hik'
  clear hik hik'
  go_enter Try.func37, Try.ntmps37
  go_wp2_with fail
  go_loop [5] (fun iv => ∃ j : Nat, j ≤ i1 ∧ iv = .int .i64 j) (fun iv => zs.length - (intOf iv).toNat)
  case atStart => exact ⟨0, Nat.zero_le _, rfl⟩
  case round =>
    obtain ⟨j, hj, rfl⟩ := hrel
    have hi : (j : Int) < (zs.length : Int) := by omega
    obtain ⟨b, o, rfl, hb, hc⟩ := hx.at_ (k := j) (by omega)
    by_cases he : zs.getD j 0 = k
    · have hb1 : (zs.getD j 0 == k) = true := by simpa using he
      generalize zs.getD j 0 = z at *
      clear hx he
      go_wp2_with fail
      go_ret
      exact ⟨rfl, Below.refl _ _⟩
    · have hb1 : (zs.getD j 0 == k) = false := by simpa using he
      have hne : j ≠ i1 := fun e => he (by rw [e]; exact HK.out)
      have HN := Lib.hid hne
      generalize zs.getD j 0 = z at *
      clear hx he hne
      go_wp2_with fail
      go_round
      case rel => exact ⟨j + 1, by have := HN.out; omega, by go_num⟩
      case measure => simp [intOf]; omega

theorem roomOf_in (l : List UInt8) : -256 ≤ roomOf l ∧ roomOf l ≤ 256 := by
  unfold roomOf
  by_cases h : isStrip l = true
  · rw [if_pos h]
    have a := sum_small _ (hP_small h) (hP l l.length).length
    rw [List.take_length] at a
    have b := hP_len l l.length
    have p := isStrip_parts h
    omega
  · rw [if_neg h]; decide
theorem below_drew9 {w w' : World} (h : Below w.drew.heap.size w.drew w') : Below w.heap.size w w' := ⟨h.os, h.tape, h.output, h.size, h.block⟩
theorem two_ways : countWays [100, 100, 102, 102] [102, 102, 100, 100] = 2 := by decide +kernel
theorem df_up : foldAt 100 [100, 102] 1 = true := by decide +kernel

/-- what the law asks of the number of ways -/
theorem ways_law {S T : List UInt8} (ha : isAbove T S = true) : areaOf S T = (gap T S : Int) ∧ countWays S T = (if gap T S ≤ 12 then (nUp T S : Int) else 0) ∧ 1 ≤ nUp T S ∧ (gap T S ≤ 1 → nUp T S = 1) ∧ gap T S ≤ 1000 := by
  refine ⟨(area_above ha).1, ?_, nUp_pos _ _ ha (Nat.le_refl _), fun h => ?_, ?_⟩
  · unfold countWays
    by_cases g : gap T S ≤ 12
    · rw [if_pos ⟨ha, g⟩, if_pos g]
    · rw [if_neg (fun h => g h.2), if_neg g]
  · rcases Nat.lt_or_ge (gap T S) 1 with g | g
    · have := gap_zero ha (by omega)
      rw [this, nUp_self]
    · exact nUp_one ha (by omega)
  · have hp := isAbove_parts ha
    have a := isStrip_parts (sameFrame_parts hp.1).1
    have b := isStrip_parts (sameFrame_parts hp.1).2.1
    have c := gap_le (t := T) (s := S)
    have d : (S.length + 1) * T.length ≤ 17 * 16 := Nat.mul_le_mul (by omega) (by omega)
    omega

set_option maxHeartbeats 1000000 in
set_option maxRecDepth 100000 in

theorem fnFlips_walk (A : Option Addr) (c : Nat) (cs : List UInt8) (w : World) (h : BRow w w.heap.size A cs) :
    Calls Try.prog 5 #[.slice A cs.length c] w fun e w' => e = .returned (.bool true) ∧ Below w.heap.size w w' := by
  by_cases hbig : 1048576 < cs.length
  · have HB := Lib.hid (fun w => big_any A c cs w)
    rw [decide_eq_true hbig] at HB
    go_enter Try.func5, Try.ntmps5
    go_wp2_with fail
    refine (HB.out _).mono ?_
    rintro e w1 ⟨rfl, rfl⟩
    go_wp2_with fail
    go_ret
    exact ⟨rfl, Below.refl _ _⟩
  have HB := Lib.hid (fun w => big_any A c cs w)
  rw [decide_eq_false hbig] at HB
  have HBR := Lib.hid h
  clear h hbig
  go_enter Try.func5, Try.ntmps5
  go_wp2_with fail
  refine (HB.out _).mono ?_
  rintro e w0 ⟨rfl, rfl⟩
  go_wp2_with fail
  refine (DrawWayUp_any A c cs _ HBR.out).mono ?_
  rintro e w1 ⟨s, t, hs, ht, rfl, hb1⟩
  have HB1 := Lib.hid hb1
  have HWU := Lib.hid (fun w => implWayUp_any s t w (by omega) (by omega))
  have HAB := Lib.hid (fun w => specIsAbove_any t s w (by omega) (by omega))
  have HCW := Lib.hid (fun w => implCountWays_any s t w (by omega) (by omega))
  clear hb1
  cases hab : isAbove t.data.toList s.data.toList
  · have hw0 : wayUp s.data.toList t.data.toList = [] := if_neg (by rw [hab]; simp)
    have hc0 : countWays s.data.toList t.data.toList = 0 := if_neg (by rw [hab]; simp)
    rw [hw0] at HWU
    rw [hc0] at HCW
    rw [hab] at HAB
    have HCR := Lib.hid (fun w => show Calls Try.prog 34 #[.string ⟨#[100, 102]⟩, .int .i64 1] w (fun e w' => e = .returned (.bool true) ∧ ∃ q, w' = w.drewN q) from by
      have h0 := implCanRaise_any ⟨#[100, 102]⟩ 1 w (by decide)
      rw [show foldAt 100 (⟨#[100, 102]⟩ : ByteArray).data.toList 1 = true from df_up] at h0
      exact h0)
    clear hw0 hc0 hab
    go_wp2_with fail
    refine (HWU.out _).mono ?_
    rintro e w2 ⟨A2, c2, rfl, ho2, hb2⟩
    have HB2 := Lib.hid (below_thru HB1.out hb2)
    clear ho2 hb2
    go_wp2_with fail
    refine (HAB.out _).mono ?_
    rintro e w3 ⟨rfl, rfl⟩
    go_wp2_with fail
    refine (HCW.out _).mono ?_
    rintro e w3 ⟨rfl, hb3⟩
    have HB3 := Lib.hid (below_thru HB2.out hb3)
    clear hb3
    go_wp2_with fail
    refine (HCR.out _).mono ?_
    rintro e w4 ⟨rfl, q, hq⟩
    have HB4 := Lib.hid (show Below w0.heap.size w0 w4 by rw [hq]; exact below_drewN HB3.out _)
    clear hq
    go_wp2_with fail
    go_ret
    exact ⟨rfl, HB4.out⟩
  rw [hab] at HAB
  obtain ⟨harea, hcw, hn1, hn2, hgb⟩ := ways_law hab
  have HAR := Lib.hid (fun w => specAreaBetween_any s t w (by omega) (by omega))
  rw [harea] at HAR
  have hwy : wayUp s.data.toList t.data.toList = wayF (gap t.data.toList s.data.toList) t.data.toList s.data.toList := if_pos hab
  rw [hwy] at HWU
  have hF0 : Flip t.data.toList (wayF (gap t.data.toList s.data.toList) t.data.toList s.data.toList) (gap t.data.toList s.data.toList) 0 s := ⟨hab, rfl, rfl⟩
  have HF0 := Lib.hid hF0
  have hWl := wayF_len (t := t.data.toList) (gap t.data.toList s.data.toList) s.data.toList
  have hstrip : isStrip s.data.toList = true := (sameFrame_parts (isAbove_parts hab).1).2.1
  have hrl := raises_law hstrip
  have HRS := Lib.hid (fun w => implRaisesOf_any s w (by omega))
  have HCF := Lib.hid (fun w => specCountFolds_any s w (by omega) hstrip)
  have HCP := Lib.hid (fun w => specCountPeaks_any s w (by omega) hstrip)
  have hp := isStrip_parts hstrip
  rw [size_list] at hp hrl
  rw [hcw] at HCW
  generalize wayF (gap t.data.toList s.data.toList) t.data.toList s.data.toList = W at *
  generalize gap t.data.toList s.data.toList = n at *
  generalize nUp t.data.toList s.data.toList = N at *
  obtain ⟨C, hC⟩ : ∃ C : Int, (if n ≤ 12 then (N : Int) else 0) = C := ⟨_, rfl⟩
  rw [hC] at HCW
  clear harea hcw hwy hF0 hab
  go_wp2_with fail
  refine (HWU.out _).mono ?_
  rintro e w2 ⟨A2, c2, rfl, ho2, hb2⟩
  have HX2 := Lib.hid (IRow.of_own ho2)
  have HB2 := Lib.hid (below_thru HB1.out hb2)
  clear ho2 hb2 HB1
  go_wp2_with fail
  refine (HAB.out _).mono ?_
  rintro e w3 ⟨rfl, rfl⟩
  go_wp2_with fail
  refine (HAR.out _).mono ?_
  rintro e w3 ⟨rfl, hb3⟩
  have HX3 := Lib.hid (HX2.out.on hb3)
  have HB3 := Lib.hid (below_thru HB2.out hb3)
  clear hb3 HX2 HB2
  go_wp2_with fail
  go_loopw [7, 8] (fun xv kv wr => ∃ (k : Nat) (x : ByteArray), k ≤ W.length ∧ kv = .int .i64 k ∧ xv = .string x ∧ x.size ≤ 32 ∧ Flip t.data.toList W n k x ∧ IRow wr wr.heap.size A2 W ∧ Below w0.heap.size w0 wr) (fun _ kv _ => W.length - (intOf kv).toNat)
  case atStart => exact ⟨0, s, Nat.zero_le _, rfl, rfl, hs, HF0.out, HX3.out, HB3.out⟩
  case round =>
    obtain ⟨k, x, hk, rfl, rfl, hxz, hfl, hxr, hbr⟩ := hrel
    obtain ⟨wo, hwo⟩ : ∃ wo, wo = wr := ⟨_, rfl⟩
    subst hwo
    have HFL := Lib.hid hfl
    have HXR := Lib.hid hxr
    have HBB := Lib.hid hbr
    clear hfl hxr hbr HX3 HB3 HF0
    by_cases hlt : k < W.length
    · have hi : (k : Int) < (W.length : Int) := by omega
      obtain ⟨k0, hwk, hf1, hf2, hback, hmem, hroom, hyz, hkz, hnext⟩ := HFL.out.step hlt
      obtain ⟨b1, o1, rfl, hb1, hc1⟩ := HXR.out.at_ hlt
      rw [hwk] at hc1
      have HRA := Lib.hid (fun w => show Calls Try.prog 35 #[.string x, .int .i64 k0] w (fun e w' => e = .returned (.tuple #[.string (turnB x k0), .bool true]) ∧ ∃ q, w' = w.drewN q) from by
        have h0 := implRaiseAt_any x (k0 : Int) w (by omega)
        rw [if_pos hf1, hf1, Int.toNat_natCast] at h0
        exact h0)
      have HLA := Lib.hid (fun w => show Calls Try.prog 36 #[.string (turnB x k0), .int .i64 k0] w (fun e w' => e = .returned (.tuple #[.string x, .bool true]) ∧ ∃ q, w' = w.drewN q) from by
        have h0 := implLowerAt_any (turnB x k0) (k0 : Int) w (by omega)
        rw [if_pos hf2, hf2, Int.toNat_natCast, hback] at h0
        exact h0)
      have HCR := Lib.hid (fun w => show Calls Try.prog 34 #[.string x, .int .i64 k0] w (fun e w' => e = .returned (.bool true) ∧ Below w.heap.size w w') from by
        have h0 := implCanRaise_any x (k0 : Int) w (by omega)
        rw [hf1] at h0
        refine h0.mono ?_
        rintro e w' ⟨he, q, hq⟩
        exact ⟨he, by rw [hq]; exact below_drewN (Below.refl _ _) _⟩)
      have HRX := Lib.hid (fun w => implRaisesOf_any x w (by omega))
      have HHAS := Lib.hid (fun A c w hx => has_yes A c (raisesOf x.data.toList) (k0 : Int) w hx hmem)
      have HR1 := Lib.hid (fun w => show Calls Try.prog 16 #[.string (turnB x k0)] w (fun e w' => e = .returned (.int .i64 (roomOf x.data.toList + 1)) ∧ Below w.heap.size w w') from by
        have h0 := specRoomUnder_any (turnB x k0) w (by omega)
        rw [hroom] at h0
        exact h0)
      have HR0 := Lib.hid (fun w => specRoomUnder_any x w (by omega))
      have hrb : -256 ≤ roomOf x.data.toList ∧ roomOf x.data.toList ≤ 256 := roomOf_in _
      generalize raisesOf x.data.toList = rz at *
      generalize roomOf x.data.toList = rm at *
      have hyz2 : (turnB x k0).size ≤ 32 := by omega
      generalize turnB x k0 = y at *
      have HNX := Lib.hid hnext
      have hrr : (rm + 1 != rm + 1) = false := by simp
      clear hf1 hf2 hback hmem hroom hyz hkz hnext hwk
      go_wp2_with fail
      refine (HRA.out _).mono ?_
      rintro e w4 ⟨rfl, q4, hq4⟩
      have b4 : Below wo.heap.size wo w4 := by rw [hq4]; exact below_drewN (Below.refl _ _) _
      have hc4 : w4.cell? ⟨b1, o1 + k, none⟩ = some (.int .i64 k0) := by rw [hq4]; exact hc1
      have HX4 := Lib.hid (HXR.out.on b4)
      have HB4 := Lib.hid (below_thru HBB.out b4)
      clear hq4 b4 hc1 HXR HBB
      go_wp2_with fail
      refine (HLA.out _).mono ?_
      rintro e w5 ⟨rfl, q5, hq5⟩
      have b5 : Below w4.heap.size w4 w5 := by rw [hq5]; exact below_drewN (Below.refl _ _) _
      have hc5 : w5.cell? ⟨b1, o1 + k, none⟩ = some (.int .i64 k0) := by rw [hq5]; exact hc4
      have HX5 := Lib.hid (HX4.out.on b5)
      have HB5 := Lib.hid (below_thru HB4.out b5)
      have hlt5 : b1 < w5.heap.size := World.block_lt_of_cell? w5 _ hc5
      clear hq5 b5 hc4 HX4 HB4
      go_wp2_with fail
      apply wp_region_ghost (gs := [⟨22, 27, 90, .bool true, fun v u => ∃ A c, v = .slice A rz.length c ∧ IRow u u.heap.size A rz⟩]) (hl' := rfl)
      case hm => kernel_rfl
      case hB => kernel_rfl
      case hwalk =>
        intro C hC0 hC1 hC2
        simp only [virts, setOp]
        have hcc : ∀ u : InC C, u.val.cell? ⟨b1, o1 + k, none⟩ = some (.int .i64 k0) := fun u => cell_on (hC2 _ u.on) hc5
        repeat (go_big_quiet_step ((first
          | (with_reducible refine (HCR.out _).mono ?_; rintro e wA ⟨rfl, hbA⟩; exact ⟨rfl, ⟨_, hC1 _ _ (InC.on _) hbA⟩, rfl⟩)
          | (with_reducible refine (HR1.out _).mono ?_; rintro e wD ⟨rfl, hbD⟩; exact ⟨rfl, ⟨_, hC1 _ _ (InC.on _) hbD⟩, rfl⟩)
          | (with_reducible refine (HR0.out _).mono ?_; rintro e wE ⟨rfl, hbE⟩; exact ⟨rfl, ⟨_, hC1 _ _ (InC.on _) hbE⟩, rfl⟩))))
        exact wpQuiet_nil rfl
      case hok => kernel_rfl
      case hmark =>
        intro g hg
        obtain rfl := List.mem_singleton.1 hg
        rfl
      case hT =>
        intro g hg v u u' hT hb
        obtain rfl := List.mem_singleton.1 hg
        obtain ⟨A, c, e, hr⟩ := hT
        exact ⟨A, c, e, hr.on hb⟩
      case hk =>
        intro g hg o ho a1 w1 hs hb Q
        obtain rfl := List.mem_singleton.1 hg
        cases ho
        refine wp_call (f := 38) (vs := #[.string x]) rfl ?_ ?_ ((HRX.out w1).mono ?_) (fun v w' hR => ⟨v, rfl, hR⟩) _
        · have e1 : a1.eval (.tmp 89) = .string x := hs 89 (by simp [Op.operands, Call.operands])
          simp [e1]
        · kernel_rfl
        · rintro e w' ⟨AB, cB, rfl, hoB, hbB⟩
          exact ⟨_, rfl, hbB, _, _, rfl, IRow.of_own hoB⟩
      case hc =>
        intro g hg o ho a1 w1 hs hb hT Q
        obtain rfl := List.mem_singleton.1 hg
        cases ho
        obtain ⟨AB, cB, e, hr⟩ := hT
        refine wp_call (f := 37) (vs := #[.slice AB rz.length cB, .int .i64 k0]) rfl ?_ ?_ (R := fun v w' => v = .bool true ∧ Below w1.heap.size w1 w') ((HHAS.out _ _ w1 hr).mono ?_) (fun v w' hR => ⟨by rw [hR.1], hR.2⟩) _
        · have e1 : a1.eval (.tmp 94) = .int .i64 k0 := hs 94 (by simp [Op.operands, Call.operands]) (by simp)
          have e2 : a1.eval (.tmp 90) = .slice AB rz.length cB := e
          simp [e1, e2]
        · kernel_rfl
        · rintro e w' ⟨rfl, hbC⟩
          exact ⟨_, rfl, rfl, hbC⟩
      case hQ =>
        intro v w6 hb6
        simp only [putsG, List.foldl, Act.put, List.setIfInBounds_toArray, List.set_cons_succ, List.set_cons_zero]
        have HX6 := Lib.hid (HX5.out.on hb6)
        have HB6 := Lib.hid (below_thru HB5.out hb6)
        go_wp2_with fail
        go_roundw
        case rel => exact ⟨k + 1, y, by omega, by go_num, rfl, hyz2, HNX.out, HX6.out, HB6.out⟩
        case measure => simp [intOf]; omega
    · obtain ⟨hxe, hkn⟩ := HFL.out.done (by omega)
      have hxt : x = t := by rw [← bs_of x, hxe, bs_of]
      have hkW : k = W.length := by omega
      have hnW : n = W.length := by omega
      clear hkn hxe HFL
      subst hxt
      subst hnW
      subst hkW
      have hni : ¬ (W.length : Int) < (W.length : Int) := by omega
      obtain ⟨z1, hz1⟩ : ∃ z1, s.size = z1 + 1 := ⟨s.size - 1, by omega⟩
      have hg0 := at_get s 0 (by omega)
      have hgl := at_get s z1 (by omega)
      have hx0 : (((at_ s.data.toList 0).toNat : Int) == 102) = decide (at_ s.data.toList 0 = 102) := u8_eq _ 102
      have hxl : (((at_ s.data.toList z1).toNat : Int) == 100) = decide (at_ s.data.toList z1 = 100) := u8_eq _ 100
      have hRb : (raisesOf s.data.toList).length ≤ 100 := by rw [raises_cnt]; have := cntF_le 100 s.data.toList s.data.toList.length; rw [size_list] at this; rw [size_list]; omega
      have hPb : peaksOf s.data.toList ≤ 100 := by unfold peaksOf; have := cntF_le 102 s.data.toList s.data.toList.length; rw [size_list] at this; rw [size_list]; omega
      have HBT0 := Lib.hid (fun w => btoi_any (decide (at_ s.data.toList 0 = 102)) w)
      have HBTl := Lib.hid (fun w => btoi_any (decide (at_ s.data.toList z1 = 100)) w)
      have HC2 := Lib.hid (fun w => show Calls Try.prog 33 #[.string ⟨#[100, 100, 102, 102]⟩, .string ⟨#[102, 102, 100, 100]⟩] w (fun e w' => e = .returned (.int .i64 2) ∧ Below w.heap.size w w') from by
        have h0 := implCountWays_any ⟨#[100, 100, 102, 102]⟩ ⟨#[102, 102, 100, 100]⟩ w (by decide) (by decide)
        rw [show countWays (⟨#[100, 100, 102, 102]⟩ : ByteArray).data.toList (⟨#[102, 102, 100, 100]⟩ : ByteArray).data.toList = 2 from two_ways] at h0
        exact h0)
      have hrl2 : foldsOf s.data.toList = (raisesOf s.data.toList).length + peaksOf s.data.toList + (if decide (at_ s.data.toList 0 = 102) = true then 1 else 0) + (if decide (at_ s.data.toList z1 = 100) = true then 1 else 0) := by
        rw [hrl, show s.size - 1 = z1 by omega]
        unfold b1
        simp only [decide_eq_true_eq]
      have hv0 : (if decide (at_ s.data.toList 0 = 102) = true then 1 else 0) ≤ 1 := by split <;> omega
      have hvl : (if decide (at_ s.data.toList z1 = 100) = true then 1 else 0) ≤ 1 := by split <;> omega
      clear hrl
      generalize (if decide (at_ s.data.toList 0 = 102) = true then 1 else 0) = v0 at *
      generalize (if decide (at_ s.data.toList z1 = 100) = true then 1 else 0) = vl at *
      generalize decide (at_ s.data.toList 0 = 102) = b0 at *
      generalize decide (at_ s.data.toList z1 = 100) = bl at *
      generalize at_ s.data.toList 0 = y0 at *
      generalize at_ s.data.toList z1 = yl at *
      generalize foldsOf s.data.toList = fo at *
      generalize peaksOf s.data.toList = pk at *
      generalize raisesOf s.data.toList = rz at *
      have hfob : fo ≤ 300 := by omega
      have hfin : (fo : Int) - (pk : Int) - (v0 : Int) - (vl : Int) = (rz.length : Int) := by omega
      have hCs : ((12 < W.length ∧ (12 : Int) < (W.length : Int) ∧ 1 < W.length ∧ (1 : Int) < (W.length : Int)) ∧ C = 0) ∨ ((W.length ≤ 12 ∧ ¬ 12 < W.length ∧ ¬ (12 : Int) < (W.length : Int) ∧ decide ((12 : Int) < (W.length : Int)) = false) ∧ (1 < W.length ∧ (1 : Int) < (W.length : Int)) ∧ 1 ≤ C) ∨
          ((W.length ≤ 12 ∧ ¬ 12 < W.length ∧ ¬ (12 : Int) < (W.length : Int) ∧ decide ((12 : Int) < (W.length : Int)) = false) ∧ (¬ 1 < W.length ∧ ¬ (1 : Int) < (W.length : Int) ∧ decide ((1 : Int) < (W.length : Int)) = false) ∧ C = 1) := by
        by_cases h12 : W.length ≤ 12
        · rw [if_pos h12] at hC
          by_cases h1 : W.length ≤ 1
          · have := hn2 h1
            exact .inr (.inr ⟨⟨h12, by omega, by omega, decide_eq_false (by omega)⟩, ⟨by omega, by omega, decide_eq_false (by omega)⟩, by omega⟩)
          · exact .inr (.inl ⟨⟨h12, by omega, by omega, decide_eq_false (by omega)⟩, ⟨by omega, by omega⟩, by omega⟩)
        · rw [if_neg h12] at hC
          exact .inl ⟨⟨by omega, by omega, by omega, by omega⟩, hC.symm⟩
      have HR2 := Lib.hid hrl2
      have hwl : W.length ≤ 1000 := hgb
      clear hC hn1 hn2 hrl2
      go_wp2_with fail
      refine (HCW.out _).mono ?_
      rintro e w7 ⟨rfl, hb7⟩
      have HB7 := Lib.hid (below_thru HBB.out hb7)
      clear hb7
      go_wp2_with fail
      rcases hCs with ⟨⟨h12, h12', h1, h1'⟩, rfl⟩ | ⟨⟨h12, h13, h14, h15⟩, ⟨h1, h1'⟩, hC1'⟩ | ⟨⟨h12, h13, h14, h15⟩, ⟨h1, h1', h16⟩, rfl⟩
      all_goals
        apply wp_region_ghost (gs := [⟨35, 36, 145, .int .i64 rz.length, fun v u => ∃ A c, v = .slice A rz.length c⟩]) (hl' := rfl)
        case hm => kernel_rfl
        case hB => kernel_rfl
        case hwalk =>
          intro C hC0 hC1 hC2
          simp only [virts, setOp]
          repeat (go_big_quiet_step ((first
            | (with_reducible refine (HCF.out _).mono ?_; rintro e wA ⟨rfl, hbA⟩; exact ⟨rfl, ⟨_, hC1 _ _ (InC.on _) hbA⟩, rfl⟩)
            | (with_reducible refine (HCP.out _).mono ?_; rintro e wD ⟨rfl, hbD⟩; exact ⟨rfl, ⟨_, hC1 _ _ (InC.on _) hbD⟩, rfl⟩)
            | (with_reducible refine (HC2.out _).mono ?_; rintro e wD ⟨rfl, hbD⟩; exact ⟨rfl, ⟨_, hC1 _ _ (InC.on _) hbD⟩, rfl⟩)
            | (with_reducible refine (HBT0.out _).mono ?_; rintro e wD ⟨rfl, rfl⟩; exact ⟨rfl, _, rfl⟩)
            | (with_reducible refine (HBTl.out _).mono ?_; rintro e wE ⟨rfl, rfl⟩; exact ⟨rfl, _, rfl⟩))))
          exact wpQuiet_nil rfl
        case hok => kernel_rfl
        case hmark =>
          intro g hg
          obtain rfl := List.mem_singleton.1 hg
          rfl
        case hT =>
          intro g hg v u u' hT hb
          obtain rfl := List.mem_singleton.1 hg
          exact hT
        case hk =>
          intro g hg o ho a1 w1 hs hb Q
          obtain rfl := List.mem_singleton.1 hg
          cases ho
          refine wp_call (f := 38) (vs := #[.string s]) rfl ?_ ?_ ((HRS.out w1).mono ?_) (fun v w' hR => ⟨v, rfl, hR⟩) _
          · have e1 : a1.eval (.tmp 144) = .string s := hs 144 (by simp [Op.operands, Call.operands])
            simp [e1]
          · kernel_rfl
          · rintro e w' ⟨AB, cB, rfl, hoB, hbB⟩
            exact ⟨_, rfl, hbB, _, _, rfl⟩
        case hc =>
          intro g hg o ho a1 w1 hs hb hT Q
          obtain rfl := List.mem_singleton.1 hg
          cases ho
          obtain ⟨AB, cB, e⟩ := hT
          have e2 : a1.eval (.tmp 145) = .slice AB rz.length cB := e
          refine wp_len rfl e2 ?_ ⟨rfl, Below.refl _ _⟩ _
          kernel_rfl
        case hQ =>
          intro v w8 hb8
          simp only [putsG, List.foldl, Act.put, List.setIfInBounds_toArray, List.set_cons_succ, List.set_cons_zero]
          have HB8 := Lib.hid (below_thru HB7.out hb8)
          go_wp2_with fail
          go_ret
          exact ⟨rfl, HB8.out⟩

end Go.Proofs.Ytpeopfkechbelaa
