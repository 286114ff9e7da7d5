
/-
  Contracts of the cuts between two strips on both sides; no condition beyond the length of the texts.
-/
import Derived.Test.YtpeopfkechbelaaArea
import Derived.Test.YtpeopfkechbelaaAbove
import Derived.Deep.AppendLies
namespace Go.Proofs.Ytpeopfkechbelaa
open Go.ChangeShapes Go.WideShapes Go.ChangeAt Go.RowKit Go.Deep Go.BigFrame
set_option linter.unusedVariables false
set_option linter.unusedSimpArgs false

/-- the numbers below j that a test lets pass -/
def cP (p : Nat → Bool) (j : Nat) : List Int := ((List.range j).filter p).map fun k : Nat => (k : Int)
theorem cP_yes {p : Nat → Bool} {j : Nat} (h : p j = true) : cP p (j + 1) = cP p j ++ [(j : Int)] := by
  unfold cP
  rw [List.range_succ, List.filter_append, List.map_append]
  simp [h]
theorem cP_no {p : Nat → Bool} {j : Nat} (h : p j = false) : cP p (j + 1) = cP p j := by
  unfold cP
  rw [List.range_succ, List.filter_append, List.map_append]
  simp [h]
theorem cP_len (p : Nat → Bool) (j : Nat) : (cP p j).length ≤ j := by
  unfold cP
  rw [List.length_map]
  exact range_filter_le _ _

/-- the step k of two strips is not the same: other letters, or other places -/
def cutAt (l m : List UInt8) (k : Nat) : Bool := !(decide (at_ l k = at_ m k) && decide (fw (l.take k) = fw (m.take k)))
def cutsOf (l m : List UInt8) : List Int := if sameFrame l m = true then cP (cutAt l m) l.length else []
theorem cutsOf_len (l m : List UInt8) : (cutsOf l m).length ≤ l.length := by
  unfold cutsOf
  by_cases h : sameFrame l m = true
  · rw [if_pos h]; exact cP_len _ _
  · rw [if_neg h]; exact Nat.zero_le _

theorem isSameStep_any (s t : ByteArray) (k : Nat) (w : World) (hs : s.size ≤ 4294967296) (ht : t.size ≤ 4294967296) (hk : k < s.size) (hkt : k < t.size) :
    Calls Try.prog 82 #[.string s, .string t, .int .i64 k] w fun e w' => e = .returned (.bool (!cutAt s.data.toList t.data.toList k)) ∧ Below w.heap.size w w' := by
  have hg := at_get s k hk
  have hg2 := at_get t k hkt
  have HF1 := Lib.hid (fun w => forwards_any s k w hs (by omega))
  have HF2 := Lib.hid (fun w => forwards_any t k w ht (by omega))
  have hx := u8_eq (at_ s.data.toList k) (at_ t.data.toList k)
  have ha := fw_take_le s.data.toList k
  have hb := fw_take_le t.data.toList k
  unfold cutAt
  generalize at_ s.data.toList k = x at *
  generalize at_ t.data.toList k = y at *
  generalize fw (s.data.toList.take k) = a at *
  generalize fw (t.data.toList.take k) = b at *
  have hz : ((a : Int) == (b : Int)) = decide (a = b) := by
    by_cases e : a = b
    · subst e; simp
    · rw [decide_eq_false e]; simp; omega
  generalize decide (a = b) = bz at *
  cases he : decide (x = y)
  · rw [he] at hx
    have HE := Lib.hid he
    clear he
    go_enter Try.func82, Try.ntmps82
    go_wp2_with fail
    refine wp_region_in (by kernel_rfl) (by kernel_rfl) ?_
    repeat (go_big_quiet_step ((first | (go_at_call 56; with_reducible refine (HF1.out _).mono ?_; rintro e w' ⟨rfl, rfl⟩; exact ⟨rfl, _, rfl⟩) | (go_at_call 56; with_reducible refine (HF2.out _).mono ?_; rintro e w' ⟨rfl, rfl⟩; exact ⟨rfl, _, rfl⟩))))
    refine wpQuiet_nil ?_
    intro w2_ hw2_
    obtain ⟨⟨w2, hb2⟩, rfl⟩ := hw2_
    go_wp2_with fail
    go_ret
    exact ⟨rfl, hb2⟩
  · rw [he] at hx
    have HE := Lib.hid he
    clear he
    go_enter Try.func82, Try.ntmps82
    go_wp2_with fail
    refine wp_region_in (by kernel_rfl) (by kernel_rfl) ?_
    repeat (go_big_quiet_step ((first | (go_at_call 56; with_reducible refine (HF1.out _).mono ?_; rintro e w' ⟨rfl, rfl⟩; exact ⟨rfl, _, rfl⟩) | (go_at_call 56; with_reducible refine (HF2.out _).mono ?_; rintro e w' ⟨rfl, rfl⟩; exact ⟨rfl, _, rfl⟩))))
    refine wpQuiet_nil ?_
    intro w2_ hw2_
    obtain ⟨⟨w2, hb2⟩, rfl⟩ := hw2_
    go_wp2_with fail
    go_ret
    exact ⟨by simp, hb2⟩

theorem implCutsBetween_any (s t : ByteArray) (w : World) (hs : s.size ≤ 4294967296) (ht : t.size ≤ 4294967296) :
    Calls Try.prog 42 #[.string s, .string t] w (NewInts w (cutsOf s.data.toList t.data.toList)) := by
  have HST := Lib.hid (fun w => implSameFrame_any s t w hs ht)
  cases h : sameFrame s.data.toList t.data.toList
  · rw [show cutsOf s.data.toList t.data.toList = [] from if_neg (by rw [h]; decide)]
    rw [h] at HST
    clear h
    go_enter Try.func42, Try.ntmps42
    go_wp2_with fail
    refine (HST.out _).mono ?_
    rintro e w1 ⟨rfl, rfl⟩
    go_wp2_with fail
    go_ret
    exact newInts_nil _
  obtain ⟨i0, hi0, hz0, hz1, hz2⟩ := info_parts intInfo
  rw [show cutsOf s.data.toList t.data.toList = cP (cutAt s.data.toList t.data.toList) s.data.toList.length from if_pos h, size_list]
  rw [h] at HST
  have hlen := sameFrame_len h
  rw [size_list, size_list] at hlen
  have HC := Lib.hid (fun (k : Nat) w (hk : k < s.size) => isSameStep_any s t k w hs ht hk (by omega))
  generalize cutAt s.data.toList t.data.toList = p at *
  clear h hlen
  go_enter Try.func42, Try.ntmps42
  go_wp2_with fail
  refine (HST.out _).mono ?_
  rintro e w1 ⟨rfl, rfl⟩
  go_wp2_with fail
  go_loopw [5, 14] (fun o i wr => ∃ j : Nat, ∃ zs : List Int, j ≤ s.size ∧ i = .int .i64 j ∧ zs = cP p j ∧ wr.ownsRow w.heap.size 3 1 o zs.length (zs.map (Value.int .i64)) ∧ Below w.heap.size w wr) (fun _ i _ => s.size - (intOf i).toNat)
  case atStart => exact ⟨0, [], by omega, rfl, rfl, World.ownsRow_made w #[] 0 (Nat.le_refl _) (Nat.zero_le _) (by simp), (by repeat' (first | exact Below.refl _ _ | assumption | (refine Below.drew ?_) | (refine below_drewN ?_ _) | (refine below_thru ?_ (by assumption)) | (refine below_alloc ?_ _) | (refine Below.setCell ?_ (by first | omega | (simp; done) | (simp; omega)) _) | (refine Below.alloc ?_ (by first | omega | (simp; done) | (simp; omega)) _)))⟩
  case round =>
    obtain ⟨j, zs, hj, rfl, hzs, hown, hbr⟩ := hrel
    have hzl : zs.length ≤ j := by rw [hzs]; exact cP_len p _
    by_cases hlt : j < s.size
    · have hsz : w.heap.size ≤ wr.heap.size := hbr.size
      have H2 := Lib.hid hzs
      have H3 := Lib.hid hown
      have H4 := Lib.hid hbr
      have HCJ := Lib.hid (fun w => HC.out j w hlt)
      clear hown hbr hzs
      cases hpj : p j
      · rw [hpj] at HCJ
        have HN := Lib.hid (cP_no hpj)
        clear hpj
        go_wp2_with fail
        refine (HCJ.out _).mono ?_
        rintro e w1 ⟨rfl, hb1⟩
        have HB1 := Lib.hid hb1
        clear hb1
        go_wp2_with fail
        go_roundw
        case rel => exact ⟨j + 1, zs, by omega, by go_num, by rw [HN.out, H2.out], own_on H3.out HB1.out, below_thru H4.out HB1.out⟩
        case measure => simp [intOf]; omega
      · rw [hpj] at HCJ
        have HN := Lib.hid (cP_yes hpj)
        clear hpj
        go_wp2_with fail
        refine (HCJ.out _).mono ?_
        rintro e wq ⟨rfl, hb1⟩
        have HO := Lib.hid (own_on H3.out hb1)
        have HB := Lib.hid (below_thru H4.out hb1)
        have hsz2 : w.heap.size ≤ wq.heap.size := HB.out.size
        clear hb1
        go_wp2_with (at_builtin; refine wpList_append_own _ rfl _ _ 51 rfl w.heap.size 3 i0 (.int .i64 0) 1 8 Try.underlying51 hi0 hz0 hz1 hz2 rfl (by decide) _ _ _ rfl (HO.out.alloc _) ⟨wq.heap.size, 0, none⟩ 1 1 [.int .i64 j] rfl rfl (news_one _ _ _) (one_one rfl) (by unfold maxLen; omega) (by omega) (by simp; omega) ?_; intro v1 w1 hown1 hgr1 _)
        have hb1 := below_app HB.out HO.out hgr1
        go_wp2_with fail
        go_roundw
        case rel =>
          refine ⟨j + 1, zs ++ [(j : Int)], by omega, by go_num, by rw [HN.out, H2.out], ?_, hb1⟩
          simpa using hown1
        case measure => simp [intOf]; omega
    · obtain rfl : j = s.size := by omega
      have HO := Lib.hid hown
      clear hown
      go_wp2_with fail
      go_ret
      subst hzs
      obtain ⟨A, c, e, _⟩ := Row.of_own HO.out
      subst e
      exact ⟨A, c, rfl, HO.out, hbr⟩

theorem cut_parts (l m : List UInt8) (k : Nat) : cutAt l m k = (!decide (at_ l k = at_ m k) || !decide (fw (l.take k) = fw (m.take k))) := by
  unfold cutAt
  rw [Bool.not_and]

set_option maxRecDepth 4000 in
theorem specCutsBetween_any (s t : ByteArray) (w : World) (hs : s.size ≤ 4294967296) (ht : t.size ≤ 4294967296) (h : sameFrame s.data.toList t.data.toList = true) :
    Calls Try.prog 47 #[.string s, .string t] w (NewInts w (cutsOf s.data.toList t.data.toList)) := by
  have HST := Lib.hid (fun w => specSameFrame_any s t w hs ht)
  obtain ⟨i0, hi0, hz0, hz1, hz2⟩ := info_parts intInfo
  rw [show cutsOf s.data.toList t.data.toList = cP (cutAt s.data.toList t.data.toList) s.data.toList.length from if_pos h, size_list]
  rw [h] at HST
  have hlen := sameFrame_len h
  rw [size_list, size_list] at hlen
  have HCP := Lib.hid (cut_parts s.data.toList t.data.toList)
  have HFS := Lib.hid (fun k hk => fw_take s.data.toList k hk)
  have HFT := Lib.hid (fun k hk => fw_take t.data.toList k hk)
  have HLS := Lib.hid (size_list s)
  have HLT := Lib.hid (size_list t)
  have HLE := Lib.hid hlen
  clear h hlen
  generalize cutAt s.data.toList t.data.toList = p at *
  go_enter Try.func47, Try.ntmps47
  go_wp2_with fail
  go_loopw [5, 6, 7, 8] (fun o f g i wr => ∃ j : Nat, ∃ zs : List Int, j ≤ s.size ∧ i = .int .i64 j ∧ f = .int .i64 (fw (s.data.toList.take j)) ∧ g = .int .i64 (fw (t.data.toList.take j)) ∧ zs = cP p j ∧ wr.ownsRow w.heap.size 3 1 o zs.length (zs.map (Value.int .i64)) ∧ Below w.heap.size w wr) (fun _ _ _ i _ => s.size - (intOf i).toNat)
  case atStart => exact ⟨0, [], by omega, rfl, rfl, rfl, rfl, World.ownsRow_made w #[] 0 (Nat.le_refl _) (Nat.zero_le _) (by simp), (by repeat' (first | exact Below.refl _ _ | assumption | (refine Below.drew ?_) | (refine below_drewN ?_ _) | (refine below_thru ?_ (by assumption)) | (refine below_alloc ?_ _) | (refine Below.setCell ?_ (by first | omega | (simp; done) | (simp; omega)) _) | (refine Below.alloc ?_ (by first | omega | (simp; done) | (simp; omega)) _)))⟩
  case round =>
    obtain ⟨j, zs, hj, rfl, rfl, rfl, hzs, hown, hbr⟩ := hrel
    have hzl : zs.length ≤ j := by rw [hzs]; exact cP_len _ _
    by_cases hlt : j < s.size
    · have hi : (j : Int) < (s.size : Int) := by omega
      have hltt : j < t.size := by rw [← HLE.out]; exact hlt
      have hg := at_get s j hlt
      have hg2 := at_get t j hltt
      have HS1 := Lib.hid (HFS.out j (by rw [HLS.out]; exact hlt))
      have HT1 := Lib.hid (HFT.out j (by rw [HLT.out]; exact hltt))
      have hpj := HCP.out j
      have ha := fw_take_le s.data.toList j
      have hb := fw_take_le t.data.toList j
      have hsz : w.heap.size ≤ wr.heap.size := hbr.size
      have HO := Lib.hid hown.drew
      have HB := Lib.hid hbr.drew
      have HY := Lib.hid (fun h => cP_yes (p := p) (j := j) h)
      have HN := Lib.hid (fun h => cP_no (p := p) (j := j) h)
      have H2 := Lib.hid hzs
      clear hzs hown hbr
      generalize at_ s.data.toList j = x at *
      generalize at_ t.data.toList j = y at *
      have hxy := u8_ne x y
      have hx2 : ((x.toNat : Int) == 102) = decide (x = 102) := u8_eq x 102
      have hy2 : ((y.toNat : Int) == 102) = decide (y = 102) := u8_eq y 102
      have HS2 := Lib.hid (show fw (s.data.toList.take (j + 1)) = fw (s.data.toList.take j) + (if decide (x = 102) = true then 1 else 0) from by rw [HS1.out]; simp)
      have HT2 := Lib.hid (show fw (t.data.toList.take (j + 1)) = fw (t.data.toList.take j) + (if decide (y = 102) = true then 1 else 0) from by rw [HT1.out]; simp)
      generalize fw (s.data.toList.take j) = a at *
      generalize fw (t.data.toList.take j) = b at *
      have hz : ((a : Int) != (b : Int)) = !decide (a = b) := by
        by_cases e : a = b
        · subst e; simp
        · rw [decide_eq_false e]; simp; omega
      generalize decide (x = y) = dxy at *
      generalize decide (a = b) = dab at *
      generalize decide (x = 102) = dx at *
      generalize decide (y = 102) = dy at *
      clear HS1 HT1 HCP HFS HFT
      have HPJ := Lib.hid hpj
      clear hpj
      cases dxy
      · rw [Bool.not_false] at hxy
        have HNX := Lib.hid (HY.out (by rw [HPJ.out]; rfl))
        clear HY HN HPJ
        cases dx <;> cases dy
        all_goals
          go_wp2_with fail
          refine (HST.out _).mono ?_
          rintro e w1 ⟨rfl, rfl⟩
          go_wp2_with fail
          go_region
          clear hxy hz
          have hsz2 : w.heap.size ≤ wr.drew.heap.size := hsz
          generalize wr.drew = wq at *
          go_wp2_with (at_builtin; refine wpList_append_lies _ rfl _ _ 51 rfl w.heap.size 3 i0 (.int .i64 0) 1 8 Try.underlying51 hi0 hz0 hz1 hz2 rfl (by decide) _ _ _ rfl (HO.out.alloc _) ⟨wq.heap.size, 0, none⟩ 1 1 [.int .i64 j] rfl rfl (news_one _ _ _) (one_one rfl) (by decide) (by unfold maxLen; omega) (by omega) (by simp; omega) _ rfl ?_; intro g1 c1 w1 hown1 hgr1 hat1 hlt1)
          have hb1 := below_app HB.out HO.out hgr1
          have HO1 := Lib.hid hown1
          have HB1 := Lib.hid hb1
          clear hown1 hb1 hgr1 hat1 hlt1 HO HB
          go_wp2_with fail
          go_roundw
          case rel =>
            refine ⟨j + 1, zs ++ [(j : Int)], by omega, by go_num, by rw [HS2.out]; simp, by rw [HT2.out]; simp, by rw [HNX.out, H2.out], ?_, HB1.out⟩
            simpa using HO1.out
          case measure => simp [intOf]; omega
      · rw [Bool.not_true] at hxy
        cases dab
        · rw [Bool.not_false] at hz
          have HNX := Lib.hid (HY.out (by rw [HPJ.out]; rfl))
          clear HY HN HPJ
          cases dx <;> cases dy
          all_goals
            go_wp2_with fail
            refine (HST.out _).mono ?_
            rintro e w1 ⟨rfl, rfl⟩
            go_wp2_with fail
            go_region
            clear hxy hz
            have hsz2 : w.heap.size ≤ wr.drew.heap.size := hsz
            generalize wr.drew = wq at *
            go_wp2_with (at_builtin; refine wpList_append_lies _ rfl _ _ 51 rfl w.heap.size 3 i0 (.int .i64 0) 1 8 Try.underlying51 hi0 hz0 hz1 hz2 rfl (by decide) _ _ _ rfl (HO.out.alloc _) ⟨wq.heap.size, 0, none⟩ 1 1 [.int .i64 j] rfl rfl (news_one _ _ _) (one_one rfl) (by decide) (by unfold maxLen; omega) (by omega) (by simp; omega) _ rfl ?_; intro g1 c1 w1 hown1 hgr1 hat1 hlt1)
            have hb1 := below_app HB.out HO.out hgr1
            have HO1 := Lib.hid hown1
            have HB1 := Lib.hid hb1
            clear hown1 hb1 hgr1 hat1 hlt1 HO HB
            go_wp2_with fail
            go_roundw
            case rel =>
              refine ⟨j + 1, zs ++ [(j : Int)], by omega, by go_num, by rw [HS2.out]; simp, by rw [HT2.out]; simp, by rw [HNX.out, H2.out], ?_, HB1.out⟩
              simpa using HO1.out
            case measure => simp [intOf]; omega
        · rw [Bool.not_true] at hz
          have HNX := Lib.hid (HN.out (by rw [HPJ.out]; rfl))
          clear HY HN HPJ
          cases dx <;> cases dy
          all_goals
            go_wp2_with fail
            refine (HST.out _).mono ?_
            rintro e w1 ⟨rfl, rfl⟩
            go_wp2_with fail
            go_region
            clear hxy hz
            have hsz2 : w.heap.size ≤ wr.drew.heap.size := hsz
            generalize wr.drew = wq at *
            go_wp2_with fail
            go_roundw
            case rel => exact ⟨j + 1, zs, by omega, by go_num, by rw [HS2.out]; simp, by rw [HT2.out]; simp, by rw [HNX.out, H2.out], HO.out, HB.out⟩
            case measure => simp [intOf]; omega
    · obtain rfl : j = s.size := by omega
      have HO := Lib.hid hown
      have HB := Lib.hid hbr
      have H2 := Lib.hid hzs
      clear hown hbr hzs HCP HFS HFT
      generalize fw (s.data.toList.take s.size) = a at *
      generalize fw (t.data.toList.take s.size) = b at *
      go_wp2_with fail
      go_ret
      rw [← H2.out]
      obtain ⟨A, c, e, _⟩ := Row.of_own HO.out
      subst e
      exact ⟨A, c, rfl, HO.out, HB.out⟩

end Go.Proofs.Ytpeopfkechbelaa
