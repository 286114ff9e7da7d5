
/-
  Contracts of HeightsOf and DepthsOf on both sides; no condition beyond the length of the text.
-/
import Derived.Test.YtpeopfkechbelaaCorner
import Derived.Test.YtpeopfkechbelaaInts0
namespace Go.Proofs.Ytpeopfkechbelaa
open Go.ChangeShapes Go.WideShapes Go.ChangeAt Go.RowKit Go.Deep Go.BigFrame
set_option linter.unusedVariables false

/-- the heights of the steps forward among the first j letters -/
def hP (l : List UInt8) (j : Nat) : List Int := ((List.range j).filter fun i => decide (at_ l i = 102)).map fun i : Nat => (dn l : Int) - ((i : Int) - fw (l.take i))
/-- the steps forward ahead of each step down among the first j letters -/
def dP (l : List UInt8) (j : Nat) : List Int := ((List.range j).filter fun i => decide (at_ l i = 100)).map fun i : Nat => (fw (l.take i) : Int)
def heights (l : List UInt8) : List Int := if isStrip l = true then hP l l.length else []
def depths (l : List UInt8) : List Int := if isStrip l = true then dP l l.length else []

theorem hP_yes {l : List UInt8} {j : Nat} (h : at_ l j = 102) : hP l (j + 1) = hP l j ++ [(dn l : Int) - ((j : Int) - fw (l.take j))] := by
  unfold hP
  rw [List.range_succ, List.filter_append, List.map_append]
  simp [h]
theorem hP_no {l : List UInt8} {j : Nat} (h : ¬ at_ l j = 102) : hP l (j + 1) = hP l j := by
  unfold hP
  rw [List.range_succ, List.filter_append, List.map_append]
  simp [h]
theorem dP_yes {l : List UInt8} {j : Nat} (h : at_ l j = 100) : dP l (j + 1) = dP l j ++ [(fw (l.take j) : Int)] := by
  unfold dP
  rw [List.range_succ, List.filter_append, List.map_append]
  simp [h]
theorem dP_no {l : List UInt8} {j : Nat} (h : ¬ at_ l j = 100) : dP l (j + 1) = dP l j := by
  unfold dP
  rw [List.range_succ, List.filter_append, List.map_append]
  simp [h]
theorem range_filter_le (p : Nat → Bool) (j : Nat) : ((List.range j).filter p).length ≤ j := by
  have := List.length_filter_le p (List.range j)
  simpa using this
theorem hP_len (l : List UInt8) (j : Nat) : (hP l j).length ≤ j := by
  unfold hP
  rw [List.length_map]
  exact range_filter_le _ _
theorem dP_len (l : List UInt8) (j : Nat) : (dP l j).length ≤ j := by
  unfold dP
  rw [List.length_map]
  exact range_filter_le _ _
theorem fw_take_le (l : List UInt8) (j : Nat) : fw (l.take j) ≤ j := Nat.le_trans (fw_le _) (List.length_take_le _ _)

theorem l07Heights_any (s : ByteArray) (w : World) (hs : s.size ≤ 4294967296) : Calls Try.prog 63 #[.string s] w (NewInts w (hP s.data.toList s.size)) := by
  obtain ⟨i0, hi0, hz0, hz1, hz2⟩ := info_parts intInfo
  obtain ⟨l, hl⟩ : ∃ l, l = s.data.toList := ⟨_, rfl⟩
  have hsz : l.length = s.size := by rw [hl, size_list]
  have hcn := fun w => l02Count_any s 100 w hs
  rw [cn_dn] at hcn
  rw [← hl] at hcn ⊢
  have hdl := dn_le l
  rw [hsz] at hdl
  have HL := Lib.hid hl
  have HZ := Lib.hid hsz
  have HC := Lib.hid hcn
  have HD := Lib.hid (fun j (h : j < l.length) => fw_take l j h)
  clear hl hsz hcn
  obtain ⟨d, hd⟩ : ∃ d, d = dn l := ⟨_, rfl⟩
  rw [← hd] at HC hdl
  have HY := Lib.hid (fun j (h : at_ l j = 102) => hP_yes h)
  rw [← hd] at HY
  clear hd
  go_enter Try.func63, Try.ntmps63
  go_wp2_with fail
  refine (HC.out _).mono ?_
  rintro e w' ⟨rfl, rfl⟩
  go_wp2_with fail
  go_loopw [3, 4, 5] (fun o u i wr => ∃ j : Nat, ∃ zs : List Int, j ≤ s.size ∧ i = .int .i64 j ∧ zs = hP l j ∧ u = .int .i64 ((d : Int) - ((j : Int) - fw (l.take j))) ∧ wr.ownsRow w.heap.size 3 1 o zs.length (zs.map (Value.int .i64)) ∧ Below w.heap.size w wr) (fun _ _ i _ => s.size - (intOf i).toNat)
  case atStart => exact ⟨0, [], Nat.zero_le _, rfl, rfl, by simp [fw], World.ownsRow_made w #[] 0 (Nat.le_refl _) (Nat.zero_le _) (by simp), (by repeat' (first | exact Below.refl _ _ | assumption | (refine Below.drew ?_) | (refine below_drewN ?_ _) | (refine below_thru ?_ (by assumption)) | (refine below_alloc ?_ _) | (refine Below.setCell ?_ (by first | omega | (simp; done) | (simp; omega)) _) | (refine Below.alloc ?_ (by first | omega | (simp; done) | (simp; omega)) _)))⟩
  case round =>
    obtain ⟨j, zs, hj, rfl, hzs, rfl, hown, hbr⟩ := hrel
    have hfj := fw_take_le l j
    by_cases hlt : j < s.size
    · have hjl : j < l.length := by rw [HZ.out]; exact hlt
      have hg := at_get s j hlt
      rw [← HL.out] at hg
      have hzl : zs.length ≤ j := by rw [hzs]; exact hP_len l j
      have HF := Lib.hid (HD.out j hjl)
      have HR := Lib.hid (HY.out j)
      have HN := Lib.hid (fun h => hP_no (l := l) (j := j) h)
      have hsz : w.heap.size ≤ wr.heap.size := hbr.size
      have H2 := Lib.hid hzs
      have H3 := Lib.hid hown
      have H4 := Lib.hid hbr
      clear hown hbr hzs
      generalize fw (l.take j) = f at *
      generalize at_ l j = c at *
      by_cases h1 : c = 102
      · have hb : ((c.toNat : Int) == 102) = true := by rw [h1]; rfl
        have H1 := Lib.hid h1
        clear h1
        go_wp2_with (at_builtin; refine wpList_append_own _ rfl _ _ 51 rfl w.heap.size 3 i0 (.int .i64 0) 1 8 Try.underlying51 hi0 hz0 hz1 hz2 rfl (by decide) _ _ _ rfl (H3.out.alloc _) ⟨wr.heap.size, 0, none⟩ 1 1 [.int .i64 ((d : Int) - ((j : Int) - f))] rfl rfl (news_one _ _ _) (one_one rfl) (by unfold maxLen; omega) (by omega) (by simp; omega) ?_; intro v1 w1 hown1 hgr1 _)
        have hb1 := below_app H4.out H3.out hgr1
        go_wp2_with fail
        go_roundw
        case rel =>
          refine ⟨j + 1, zs ++ [(d : Int) - ((j : Int) - f)], by omega, by go_num, ?_, ?_, ?_, hb1⟩
          · rw [HR.out H1.out, H2.out]
          · rw [HF.out, if_pos H1.out]; exact congrArg (Value.int .i64) (by omega)
          · simpa using hown1
        case measure => simp [intOf]; omega
      · have hb : ((c.toNat : Int) == 102) = false := by rw [show (102 : Int) = ((102 : UInt8).toNat : Int) from rfl, u8_eq]; simp [h1]
        have H1 := Lib.hid h1
        clear h1
        go_wp2_with fail
        go_roundw
        case rel =>
          refine ⟨j + 1, zs, by omega, by go_num, ?_, ?_, H3.out, H4.out⟩
          · rw [HN.out H1.out, H2.out]
          · rw [HF.out, if_neg H1.out]; exact congrArg (Value.int .i64) (by omega)
        case measure => simp [intOf]; omega
    · obtain rfl : j = s.size := by omega
      have HO := Lib.hid hown
      clear hown
      go_wp2_with fail
      go_ret
      subst hzs
      obtain ⟨A, c, e, _⟩ := Row.of_own HO.out
      subst e
      exact ⟨A, c, rfl, HO.out, hbr⟩

theorem heights_yes {l : List UInt8} (h : isStrip l = true) : heights l = hP l l.length := if_pos h
theorem heights_no {l : List UInt8} (h : isStrip l = false) : heights l = [] := if_neg (by rw [h]; simp)
theorem depths_yes {l : List UInt8} (h : isStrip l = true) : depths l = dP l l.length := if_pos h
theorem depths_no {l : List UInt8} (h : isStrip l = false) : depths l = [] := if_neg (by rw [h]; simp)
theorem heights_len (l : List UInt8) : (heights l).length ≤ l.length := by
  unfold heights
  by_cases h : isStrip l = true
  · rw [if_pos h]; exact hP_len l _
  · rw [if_neg h]; exact Nat.zero_le _
theorem depths_len (l : List UInt8) : (depths l).length ≤ l.length := by
  unfold depths
  by_cases h : isStrip l = true
  · rw [if_pos h]; exact dP_len l _
  · rw [if_neg h]; exact Nat.zero_le _
theorem newInts_nil (w : World) : NewInts w [] (.returned (.slice none 0 0)) w := ⟨none, 0, rfl, World.ownsRow_nil _ _ _ _, Below.refl _ _⟩

theorem implHeightsOf_any (s : ByteArray) (w : World) (hs : s.size ≤ 4294967296) : Calls Try.prog 83 #[.string s] w (NewInts w (heights s.data.toList)) := by
  by_cases h : isStrip s.data.toList = true
  · rw [heights_yes h, size_list]
    obtain ⟨i0, hi0, hz0, hz1, hz2⟩ := info_parts intInfo
    obtain ⟨l, hl⟩ : ∃ l, l = s.data.toList := ⟨_, rfl⟩
    have hsz : l.length = s.size := by rw [hl, size_list]
    have hcn := fun w => implDownOf_any s w hs
    rw [downOf_yes h] at hcn
    have hst := fun w => implIsStrip_any s w hs
    rw [h] at hst
    rw [← hl] at hcn ⊢
    have hdl := dn_le l
    rw [hsz] at hdl
    have HL := Lib.hid hl
    have HZ := Lib.hid hsz
    have HC := Lib.hid hcn
    have HS := Lib.hid hst
    have HD := Lib.hid (fun j (h : j < l.length) => fw_take l j h)
    clear hl hsz hcn hst h
    obtain ⟨d, hd⟩ : ∃ d, d = dn l := ⟨_, rfl⟩
    rw [← hd] at HC hdl
    have HY := Lib.hid (fun j (h : at_ l j = 102) => hP_yes h)
    rw [← hd] at HY
    clear hd
    go_enter Try.func83, Try.ntmps83
    go_wp2_with fail
    refine (HS.out _).mono ?_
    rintro e w' ⟨rfl, rfl⟩
    go_wp2_with fail
    refine (HC.out _).mono ?_
    rintro e w' ⟨rfl, rfl⟩
    go_wp2_with fail
    go_loopw [3, 4, 14] (fun o u i wr => ∃ j : Nat, ∃ zs : List Int, j ≤ s.size ∧ i = .int .i64 j ∧ zs = hP l j ∧ u = .int .i64 ((d : Int) - ((j : Int) - fw (l.take j))) ∧ wr.ownsRow w.heap.size 3 1 o zs.length (zs.map (Value.int .i64)) ∧ Below w.heap.size w wr) (fun _ _ i _ => s.size - (intOf i).toNat)
    case atStart => exact ⟨0, [], Nat.zero_le _, rfl, rfl, by simp [fw], World.ownsRow_made w #[] 0 (Nat.le_refl _) (Nat.zero_le _) (by simp), (by repeat' (first | exact Below.refl _ _ | assumption | (refine Below.drew ?_) | (refine below_drewN ?_ _) | (refine below_thru ?_ (by assumption)) | (refine below_alloc ?_ _) | (refine Below.setCell ?_ (by first | omega | (simp; done) | (simp; omega)) _) | (refine Below.alloc ?_ (by first | omega | (simp; done) | (simp; omega)) _)))⟩
    case round =>
      obtain ⟨j, zs, hj, rfl, hzs, rfl, hown, hbr⟩ := hrel
      have hfj := fw_take_le l j
      by_cases hlt : j < s.size
      · have hjl : j < l.length := by rw [HZ.out]; exact hlt
        have hg := at_get s j hlt
        rw [← HL.out] at hg
        have hzl : zs.length ≤ j := by rw [hzs]; exact hP_len l j
        have HF := Lib.hid (HD.out j hjl)
        have HR := Lib.hid (HY.out j)
        have HN := Lib.hid (fun h => hP_no (l := l) (j := j) h)
        have hsz : w.heap.size ≤ wr.heap.size := hbr.size
        have H2 := Lib.hid hzs
        have H3 := Lib.hid hown
        have H4 := Lib.hid hbr
        clear hown hbr hzs
        generalize fw (l.take j) = f at *
        generalize at_ l j = c at *
        by_cases h1 : c = 102
        · have hb : ((c.toNat : Int) == 102) = true := by rw [h1]; rfl
          have H1 := Lib.hid h1
          clear h1
          go_wp2_with (at_builtin; refine wpList_append_own _ rfl _ _ 51 rfl w.heap.size 3 i0 (.int .i64 0) 1 8 Try.underlying51 hi0 hz0 hz1 hz2 rfl (by decide) _ _ _ rfl (H3.out.alloc _) ⟨wr.heap.size, 0, none⟩ 1 1 [.int .i64 ((d : Int) - ((j : Int) - f))] rfl rfl (news_one _ _ _) (one_one rfl) (by unfold maxLen; omega) (by omega) (by simp; omega) ?_; intro v1 w1 hown1 hgr1 _)
          have hb1 := below_app H4.out H3.out hgr1
          go_wp2_with fail
          go_roundw
          case rel =>
            refine ⟨j + 1, zs ++ [(d : Int) - ((j : Int) - f)], by omega, by go_num, ?_, ?_, ?_, hb1⟩
            · rw [HR.out H1.out, H2.out]
            · rw [HF.out, if_pos H1.out]; exact congrArg (Value.int .i64) (by omega)
            · simpa using hown1
          case measure => simp [intOf]; omega
        · have hb : ((c.toNat : Int) == 102) = false := by rw [show (102 : Int) = ((102 : UInt8).toNat : Int) from rfl, u8_eq]; simp [h1]
          have H1 := Lib.hid h1
          clear h1
          go_wp2_with fail
          go_roundw
          case rel =>
            refine ⟨j + 1, zs, by omega, by go_num, ?_, ?_, H3.out, H4.out⟩
            · rw [HN.out H1.out, H2.out]
            · rw [HF.out, if_neg H1.out]; exact congrArg (Value.int .i64) (by omega)
          case measure => simp [intOf]; omega
      · obtain rfl : j = s.size := by omega
        have HO := Lib.hid hown
        clear hown
        go_wp2_with fail
        go_ret
        subst hzs
        obtain ⟨A, c, e, _⟩ := Row.of_own HO.out
        subst e
        exact ⟨A, c, rfl, HO.out, hbr⟩
  · have h' : isStrip s.data.toList = false := by simpa using h
    rw [heights_no h']
    go_enter Try.func83, Try.ntmps83
    go_wp2_with fail
    refine (implIsStrip_any _ _ hs).mono ?_
    rw [h']
    rintro e w1 ⟨rfl, rfl⟩
    go_wp2_with fail
    go_ret
    exact newInts_nil _

end Go.Proofs.Ytpeopfkechbelaa
