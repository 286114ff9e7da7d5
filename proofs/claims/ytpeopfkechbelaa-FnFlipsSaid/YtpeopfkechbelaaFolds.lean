
/-
  Contracts of the reference's CornersOf, CountFolds and CountPeaks at a strip; the condition: the text is a strip.
-/
import Derived.Test.YtpeopfkechbelaaFoldsP
import Derived.Test.YtpeopfkechbelaaRaises
import Derived.BigQuiet
namespace Go.Proofs.Ytpeopfkechbelaa
open Go.ChangeShapes Go.WideShapes Go.ChangeAt Go.RowKit Go.Deep Go.BigFrame
set_option linter.unusedVariables false
set_option linter.unusedSimpArgs false

theorem kP_cntK (l : List UInt8) : ∀ j, (kP (corner l) j).length = cntK l j := by
  intro j
  induction j with
  | zero => rfl
  | succ j ih =>
    cases h : corner l j
    · rw [kP_no h, ih]
      show cntK l j = cntK l j + _
      rw [if_neg (by rw [h]; simp)]
      rfl
    · rw [kP_yes h, List.length_append, ih]
      show cntK l j + 1 = cntK l j + _
      rw [if_pos h]
theorem cornersOf_cnt {l : List UInt8} (h : isStrip l = true) : (cornersOf l).length = cntK l l.length := by
  rw [show cornersOf l = kP (corner l) l.length from if_pos h, kP_cntK]
theorem corner_bit {l : List UInt8} {k : Nat} (h1 : 1 ≤ k) (h2 : k < l.length) : (((at_ l k).toNat : Int) != ((at_ l (k - 1)).toNat : Int)) = corner l k := by
  rw [corner_in (len := l.length) rfl h1 (by omega), u8_ne]
  congr 1
  exact decide_eq_decide.2 ⟨fun e => e.symm, fun e => e.symm⟩

set_option maxRecDepth 8000 in
theorem specCornersOf_any (s : ByteArray) (w : World) (hs : s.size ≤ 4294967296) (h : isStrip s.data.toList = true) : Calls Try.prog 80 #[.string s] w (NewInts w (cornersOf s.data.toList)) := by
  have hst := fun w => specIsStrip_any s w hs
  obtain ⟨i0, hi0, hz0, hz1, hz2⟩ := info_parts intInfo
  have hp := isStrip_parts h
  rw [show cornersOf s.data.toList = kP (corner s.data.toList) s.data.toList.length from if_pos h, size_list]
  rw [size_list] at hp
  rw [h] at hst
  obtain ⟨l, hl⟩ : ∃ l, l = s.data.toList := ⟨_, rfl⟩
  have hsz : l.length = s.size := by rw [hl, size_list]
  rw [← hl]
  have HB := Lib.hid (fun (k : Nat) (h1 : 1 ≤ k) (h2 : k < s.size) => corner_bit (l := l) h1 (by rw [hsz]; exact h2))
  have HK1 := Lib.hid (show kP (corner l) 1 = [] from by rw [kP_no (by simp [corner])]; rfl)
  have HL := Lib.hid hl
  have HST := Lib.hid hst
  have hs2 : 2 ≤ s.size := by omega
  clear hst h hl hsz hp
  go_enter Try.func80, Try.ntmps80
  go_wp2_with fail
  go_loopw [3, 4] (fun o i wr => ∃ j : Nat, ∃ zs : List Int, 1 ≤ j ∧ j ≤ s.size ∧ i = .int .i64 j ∧ zs = kP (corner l) j ∧ wr.ownsRow w.heap.size 3 1 o zs.length (zs.map (Value.int .i64)) ∧ Below w.heap.size w wr) (fun _ i _ => s.size - (intOf i).toNat)
  case atStart => exact ⟨1, [], Nat.le_refl _, by omega, rfl, HK1.out.symm, World.ownsRow_made w #[] 0 (Nat.le_refl _) (Nat.zero_le _) (by simp), (by repeat' (first | exact Below.refl _ _ | assumption | (refine Below.drew ?_) | (refine below_drewN ?_ _) | (refine below_thru ?_ (by assumption)) | (refine below_alloc ?_ _) | (refine Below.setCell ?_ (by first | omega | (simp; done) | (simp; omega)) _) | (refine Below.alloc ?_ (by first | omega | (simp; done) | (simp; omega)) _)))⟩
  case round =>
    obtain ⟨j, zs, hj1, hj, rfl, hzs, hown, hbr⟩ := hrel
    have hzl : zs.length ≤ j := by rw [hzs]; exact kP_len _ _
    by_cases hlt : j < s.size
    · obtain ⟨j', rfl⟩ : ∃ j', j = j' + 1 := ⟨j - 1, by omega⟩
      have hi : ((j' + 1 : Nat) : Int) < (s.size : Int) := by omega
      have hjm : ((j' + 1 : Nat) : Int) - 1 = (j' : Int) := by omega
      have hsz : w.heap.size ≤ wr.heap.size := hbr.size
      have H2 := Lib.hid hzs
      have H3 := Lib.hid hown
      have H4 := Lib.hid hbr
      have hb := HB.out (j' + 1) hj1 hlt
      have hlt2 : j' < s.size := by omega
      have hg1 := at_get s (j' + 1) hlt
      have hg2 := at_get s j' hlt2
      rw [← HL.out] at hg1 hg2
      rw [Nat.add_sub_cancel] at hb
      have HKY := Lib.hid (@kP_yes (corner l) (j' + 1))
      have HKN := Lib.hid (@kP_no (corner l) (j' + 1))
      generalize at_ l (j' + 1) = x at *
      generalize at_ l j' = y at *
      generalize corner l (j' + 1) = pj at *
      clear hown hbr hzs
      cases pj with
      | false =>
        have HN := Lib.hid (HKN.out (by first | rfl | trivial))
        go_wp2_with fail
        refine (HST.out _).mono ?_
        rintro e w1 ⟨rfl, rfl⟩
        go_wp2_with fail
        go_quiet (fail)
        go_wp2_with fail
        go_roundw
        case rel => exact ⟨j' + 1 + 1, zs, by omega, by omega, by go_num, by rw [HN.out, H2.out], own_drewN H3.out _, below_drewN H4.out _⟩
        case measure => simp [intOf]; omega
      | true =>
        have HN := Lib.hid (HKY.out (by first | rfl | trivial))
        go_wp2_with fail
        refine (HST.out _).mono ?_
        rintro e w1 ⟨rfl, rfl⟩
        go_wp2_with fail
        go_quiet (fail)
        have HO := Lib.hid (own_drewN H3.out nq)
        have HBB := Lib.hid (below_drewN H4.out nq)
        have hsz2 : w.heap.size ≤ (wr.drewN nq).heap.size := hsz
        generalize wr.drewN nq = wq at *
        go_wp2_with (at_builtin; refine wpList_append_own _ rfl _ _ 51 rfl w.heap.size 3 i0 (.int .i64 0) 1 8 Try.underlying51 hi0 hz0 hz1 hz2 rfl (by decide) _ _ _ rfl (HO.out.alloc _) ⟨wq.heap.size, 0, none⟩ 1 1 [.int .i64 (j' + 1 : Nat)] rfl rfl (news_one _ _ _) (one_one rfl) (by unfold maxLen; omega) (by omega) (by simp; omega) ?_; intro v1 w5 hown1 hgr1 _)
        have hb1 := below_app HBB.out HO.out hgr1
        go_wp2_with fail
        go_roundw
        case rel =>
          refine ⟨j' + 1 + 1, zs ++ [((j' + 1 : Nat) : Int)], by omega, by omega, by go_num, by rw [HN.out, H2.out], ?_, hb1⟩
          simpa using hown1
        case measure => simp [intOf]; omega
    · obtain rfl : j = s.size := by omega
      have HO := Lib.hid hown
      clear hown
      go_wp2_with fail
      go_ret
      subst hzs
      obtain ⟨A, c, e, _⟩ := Row.of_own HO.out
      subst e
      exact ⟨A, c, rfl, HO.out, hbr⟩

theorem specCountPeaks_any (s : ByteArray) (w : World) (hs : s.size ≤ 4294967296) (h : isStrip s.data.toList = true) : Calls Try.prog 40 #[.string s] w fun e w' => e = .returned (.int .i64 (peaksOf s.data.toList : Nat)) ∧ Below w.heap.size w w' := by
  have HST := Lib.hid (fun w => specIsStrip_any s w hs)
  rw [h] at HST
  have hp := isStrip_parts h
  rw [size_list] at hp
  have HM := Lib.hid (fun (k : Nat) w => specIsMountain_any s (k : Int) w hs)
  unfold peaksOf
  rw [size_list]
  generalize s.data.toList = l at *
  have H1 := Lib.hid (cntF_one 102 l)
  have HLE := Lib.hid (cntF_le 102 l)
  have HS := Lib.hid (fun j => show cntF 102 l (j + 1) = cntF 102 l j + if foldAt 102 l (j : Int) = true then 1 else 0 from rfl)
  have hs2 : 2 ≤ s.size ∧ s.size ≤ 16 := by omega
  clear h hp
  go_enter Try.func40, Try.ntmps40
  go_wp2_with fail
  refine (HST.out _).mono ?_
  rintro e w1 ⟨rfl, rfl⟩
  go_wp2_with fail
  go_loopw [3, 4] (fun nv i wr => ∃ j q : Nat, 1 ≤ j ∧ j ≤ s.size ∧ i = .int .i64 j ∧ nv = .int .i64 (cntF 102 l j : Nat) ∧ wr = w.drewN q) (fun _ i _ => s.size - (intOf i).toNat)
  case atStart => exact ⟨1, 0, Nat.le_refl _, by omega, rfl, by rw [H1.out]; rfl, rfl⟩
  case round =>
    obtain ⟨j, q, hj1, hj, rfl, rfl, hq⟩ := hrel
    have HQ := Lib.hid hq
    clear hq
    have hle := HLE.out j
    by_cases hlt : j < s.size
    · have hi : (j : Int) < (s.size : Int) := by omega
      have HMJ := Lib.hid (fun w => HM.out j w)
      have HSJ := Lib.hid (HS.out j)
      generalize cntF 102 l j = cnt at *
      cases hf : foldAt 102 l (j : Int)
      · rw [hf] at HMJ HSJ
        clear hf
        go_wp2_with fail
        refine (HMJ.out _).mono ?_
        rintro e w1 ⟨rfl, q1, hq1⟩
        have HQ1 := Lib.hid hq1
        clear hq1
        go_wp2_with fail
        go_roundw
        case rel => exact ⟨j + 1, q + q1, by omega, by omega, by go_num, by rw [HSJ.out]; rfl, by rw [HQ1.out, HQ.out, World.drewN_drewN]⟩
        case measure => simp [intOf]; omega
      · rw [hf] at HMJ HSJ
        clear hf
        go_wp2_with fail
        refine (HMJ.out _).mono ?_
        rintro e w1 ⟨rfl, q1, hq1⟩
        have HQ1 := Lib.hid hq1
        clear hq1
        go_wp2_with fail
        go_roundw
        case rel => exact ⟨j + 1, q + q1, by omega, by omega, by go_num, by rw [HSJ.out]; simp, by rw [HQ1.out, HQ.out, World.drewN_drewN]⟩
        case measure => simp [intOf]; omega
    · obtain rfl : j = s.size := by omega
      go_wp2_with fail
      go_ret
      exact ⟨rfl, by rw [HQ.out]; exact below_drewN (Below.refl _ _) _⟩

theorem specCountFolds_any (s : ByteArray) (w : World) (hs : s.size ≤ 4294967296) (h : isStrip s.data.toList = true) : Calls Try.prog 39 #[.string s] w fun e w' => e = .returned (.int .i64 (foldsOf s.data.toList : Nat)) ∧ Below w.heap.size w w' := by
  have HST := Lib.hid (fun w => specIsStrip_any s w hs)
  rw [h] at HST
  have hp := isStrip_parts h
  rw [size_list] at hp
  have HC := Lib.hid (fun w => specCornersOf_any s w hs h)
  have hcl := cornersOf_cnt h
  rw [size_list] at hcl
  have hle : cntK s.data.toList s.size ≤ 100 := by
    have := cornersOf_len s.data.toList
    rw [size_list] at this
    omega
  have hn4 : 0 < s.size := by omega
  have hg1 := at_get s 0 hn4
  obtain ⟨n1, hn1⟩ : ∃ n1, n1 + 1 = s.size := ⟨s.size - 1, by omega⟩
  have hn2 : (s.size : Int) - 1 = (n1 : Int) := by omega
  have hn3 : n1 < s.size := by omega
  unfold foldsOf
  rw [size_list]
  have hg2 := at_get s n1 hn3
  rw [show s.size - 1 = n1 by omega]
  generalize cornersOf s.data.toList = cs at *
  generalize cntK s.data.toList s.size = ck at *
  have HCL := Lib.hid hcl
  generalize at_ s.data.toList 0 = x at *
  generalize at_ s.data.toList n1 = y at *
  clear h hp hcl hn1
  have hx : ((x.toNat : Int) == 102) = decide (x = 102) := u8_eq x 102
  have hy : ((y.toNat : Int) == 100) = decide (y = 100) := u8_eq y 100
  have hb1 : b1 (x = 102) = if decide (x = 102) = true then 1 else 0 := by unfold b1; simp
  have hb2 : b1 (y = 100) = if decide (y = 100) = true then 1 else 0 := by unfold b1; simp
  rw [hb1, hb2]
  clear hb1 hb2
  generalize decide (x = 102) = bx at *
  generalize decide (y = 100) = by_ at *
  cases bx <;> cases by_
  all_goals
    go_enter Try.func39, Try.ntmps39
    go_wp2_with fail
    refine (HST.out _).mono ?_
    rintro e w1 ⟨rfl, rfl⟩
    go_wp2_with fail
    refine (HC.out _).mono ?_
    rintro e w2 ⟨A, c, rfl, ho, hb⟩
    rw [HCL.out]
    have HBB := Lib.hid hb
    clear ho hb
    go_wp2_with fail
    go_ret
    exact ⟨by first | rfl | (simp; done) | (simp; omega), HBB.out⟩

end Go.Proofs.Ytpeopfkechbelaa
