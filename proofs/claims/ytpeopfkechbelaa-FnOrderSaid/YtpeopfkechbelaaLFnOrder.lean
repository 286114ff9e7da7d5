
/-
  The law FnOrder returns true at every input and leaves its argument as it was; no condition.
-/
import Derived.Test.YtpeopfkechbelaaDrawO
import Derived.Test.YtpeopfkechbelaaLawB
import Derived.Test.YtpeopfkechbelaaVolume
import Derived.Test.YtpeopfkechbelaaArgB
import Derived.BigRegion
import Derived.Deep.Cut
import Derived.Deep.CutRange
namespace Go.Proofs.Ytpeopfkechbelaa
open Go.ChangeShapes Go.WideShapes Go.ChangeAt Go.RowKit Go.Deep Go.BigFrame
set_option linter.unusedVariables false
set_option linter.unusedSimpArgs false

theorem StripOf.frame {d f : Nat} {l m : List UInt8} (h : StripOf d f l) (k : StripOf d f m) (hd : 1 ≤ d ∧ d ≤ 8) (hf : 1 ≤ f ∧ f ≤ 8) : sameFrame l m = true := by
  simp only [sameFrame, Bool.and_eq_true, decide_eq_true_eq]
  exact ⟨h.strip hd hf, k.strip hd hf, by rw [h.1, k.1], by rw [h.2.1, k.2.1]⟩
theorem StripOf.mix_ {d f : Nat} {l m : List UInt8} (up : Bool) (h : StripOf d f l) (k : StripOf d f m) (hd : 1 ≤ d ∧ d ≤ 8) (hf : 1 ≤ f ∧ f ≤ 8) : StripOf d f (mix up l m) := by
  have a := h.frame k hd hf
  obtain ⟨_, _, e1, e2⟩ := sameFrame_parts (mix_frame (up := up) a)
  exact ⟨by rw [← e1]; exact h.1, by rw [← e2]; exact h.2.1, by rw [mix_len a]; exact h.2.2⟩
section
variable {d f : Nat} {ss tt : List ByteArray}
theorem zip_strips (up : Bool) (hd : 1 ≤ d ∧ d ≤ 8) (hf : 1 ≤ f ∧ f ≤ 8) (hs : ∀ s ∈ ss, StripOf d f s.data.toList) (ht : ∀ s ∈ tt, StripOf d f s.data.toList) : ∀ k, k ≤ ss.length → k ≤ tt.length → ∀ x ∈ zipS up ss tt k, StripOf d f x.data.toList := by
  intro k
  induction k with
  | zero => intro _ _ x hx; simp [zipS] at hx
  | succ k ih =>
    intro h1 h2 x hx
    rcases List.mem_append.1 hx with h | h
    · exact ih (by omega) (by omega) x h
    · rw [List.mem_singleton.1 h, bs_list]
      exact StripOf.mix_ up (hs _ (mem_getD (by omega))) (ht _ (mem_getD (by omega))) hd hf
theorem zip_vol (hd : 1 ≤ d ∧ d ≤ 8) (hf : 1 ≤ f ∧ f ≤ 8) (hs : ∀ s ∈ ss, StripOf d f s.data.toList) (ht : ∀ s ∈ tt, StripOf d f s.data.toList) : ∀ k, k ≤ ss.length → k ≤ tt.length →
    accS roomS (zipS true ss tt k) k + accS roomS (zipS false ss tt k) k = accS roomS ss k + accS roomS tt k := by
  have ea : ∀ up k, accS roomS (zipS up ss tt k) k = ((zipS up ss tt k).map roomS).sum := fun up k => by
    unfold accS
    rw [List.take_of_length_le (by rw [zipS_len]; exact Nat.le_refl _)]
  intro k
  rw [ea, ea]
  induction k with
  | zero => intro _ _; rfl
  | succ k ih =>
    intro h1 h2
    have := ih (by omega) (by omega)
    have a := hs _ (mem_getD (ss := ss) (k := k) (by omega))
    have b := ht _ (mem_getD (ss := tt) (k := k) (by omega))
    obtain ⟨l1, _⟩ := lat_rooms (a.frame b hd hf)
    rw [accS_succ _ _ _ (by omega), accS_succ _ _ _ (by omega)]
    have e : ∀ up, ((zipS up ss tt (k + 1)).map roomS).sum = ((zipS up ss tt k).map roomS).sum + roomS (bs (mix up (ss.getD k .empty).data.toList (tt.getD k .empty).data.toList)) := fun up => by
      show ((zipS up ss tt k ++ [_]).map roomS).sum = _
      rw [List.map_append, List.sum_append]
      simp
    rw [e, e]
    have r : ∀ l, roomS (bs l) = roomOf l := fun l => by unfold roomS; rw [bs_list]
    rw [r, r]
    have q : ∀ s : ByteArray, roomS s = roomOf s.data.toList := fun s => rfl
    rw [q, q]
    omega
theorem roomOf_bound2 (l : List UInt8) : -256 ≤ roomOf l ∧ roomOf l ≤ 256 := by
  have := roomS_small (bs l)
  unfold roomS at this
  rw [bs_list] at this
  exact this
/-- a list of strips of one frame is a valid card -/
theorem strips_ok (hd : 1 ≤ d ∧ d ≤ 8) (hf : 1 ≤ f ∧ f ≤ 8) (hl : 1 ≤ ss.length ∧ ss.length ≤ 10) (hs : ∀ s ∈ ss, StripOf d f s.data.toList) : cardOk d f ss = true ∧ (∀ s ∈ ss, s.size ≤ 16) := by
  refine ⟨andI (inB_iff.2 (by omega)) (andI (inB_iff.2 (by omega)) (andI (inB_iff.2 (by omega)) (List.all_eq_true.2 fun s h => ?_))), fun s h => ?_⟩
  · have a := hs s h
    have b := a.strip hd hf
    refine inFrame_yes ?_ ?_
    · rw [downOf_yes b, a.1]
    · rw [forwardOf_yes b, a.2.1]
  · have a := (hs s h).2.2
    rw [size_list] at a
    omega
theorem vol_yes (h : cardOk d f ss = true) : volumeOf d f ss = accS roomS ss ss.length := if_pos h
end

set_option maxRecDepth 8000 in
set_option maxHeartbeats 2000000 in
theorem fnOrder_walk (A : Option Addr) (c : Nat) (cs : List UInt8) (w : World) (h : BRow w w.heap.size A cs) :
    Calls Try.prog 3 #[.slice A cs.length c] w fun e w' => e = .returned (.bool true) ∧ Below w.heap.size w w' := by
  by_cases hbig : 1048576 < cs.length
  · have HB := Lib.hid (fun w => big_any A c cs w)
    rw [decide_eq_true hbig] at HB
    go_enter Try.func3, Try.ntmps3
    go_wp2_with fail
    refine (HB.out _).mono ?_
    rintro e w1 ⟨rfl, rfl⟩
    go_wp2_with fail
    go_ret
    exact ⟨rfl, Below.refl _ _⟩
  have HB := Lib.hid (fun w => big_any A c cs w)
  rw [decide_eq_false hbig] at HB
  have HBR := Lib.hid h
  clear h hbig
  go_enter Try.func3, Try.ntmps3
  go_wp2_with fail
  refine (HB.out _).mono ?_
  rintro e w0 ⟨rfl, rfl⟩
  go_wp2_with fail
  refine (DrawThree_any A c cs _ HBR.out).mono ?_
  rintro e w1 ⟨d, f, r, s, t, hd, hf, hr, hs, ht, rfl, hb1⟩
  have HB1 := Lib.hid hb1
  have HC1 := Lib.hid (show BRow w1 w1.heap.size A cs from Row.more (Row.below HBR.out hb1) hb1.size)
  have zr : r.size ≤ 16 := by have := hr.2.2; rw [size_list] at this; omega
  have zs : s.size ≤ 16 := by have := hs.2.2; rw [size_list] at this; omega
  have zt : t.size ≤ 16 := by have := ht.2.2; rw [size_list] at this; omega
  have hst := hs.frame ht (by omega) (by omega)
  have hrs := hr.frame hs (by omega) (by omega)
  have hrt := hr.frame ht (by omega) (by omega)
  obtain ⟨a1, a2, a3, a4, a5, a6, a7, a8⟩ := lat_one hst
  obtain ⟨l1, l2⟩ := lat_two hst hrs
  obtain ⟨m1, m2⟩ := lat_rooms hst
  have hsame := lat_same hst
  have zu : ∀ up, (bs (mix up s.data.toList t.data.toList)).size ≤ 16 := fun up => by rw [bs_size, mix_len hst, size_list]; exact zs
  have z1 : (bs (mix false r.data.toList s.data.toList)).size ≤ 16 := by rw [bs_size, mix_len hrs, size_list]; exact zr
  have z2 : (bs (mix false r.data.toList t.data.toList)).size ≤ 16 := by rw [bs_size, mix_len hrt, size_list]; exact zr
  have HU := Lib.hid (fun w => implUpperOf_any s t w (by omega) (by omega))
  have HL := Lib.hid (fun w => implLowerOf_any s t w (by omega) (by omega))
  have HU2 := Lib.hid (fun w => implUpperOf_any t s w (by omega) (by omega))
  have HL2 := Lib.hid (fun w => implLowerOf_any t s w (by omega) (by omega))
  rw [a5] at HU2
  rw [a6] at HL2
  have HUL := Lib.hid (fun w => implUpperOf_any s (bs (mix false s.data.toList t.data.toList)) w (by omega) (by have := zu false; omega))
  rw [bs_list, a7, bs_of] at HUL
  have HLU := Lib.hid (fun w => implLowerOf_any s (bs (mix true s.data.toList t.data.toList)) w (by omega) (by have := zu true; omega))
  rw [bs_list, a8, bs_of] at HLU
  have HI1 := Lib.hid (fun w => implIsAbove_any (bs (mix true s.data.toList t.data.toList)) s w (by have := zu true; omega) (by omega))
  have HI2 := Lib.hid (fun w => implIsAbove_any (bs (mix true s.data.toList t.data.toList)) t w (by have := zu true; omega) (by omega))
  have HI3 := Lib.hid (fun w => implIsAbove_any s (bs (mix false s.data.toList t.data.toList)) w (by omega) (by have := zu false; omega))
  have HI4 := Lib.hid (fun w => implIsAbove_any t (bs (mix false s.data.toList t.data.toList)) w (by omega) (by have := zu false; omega))
  rw [bs_list, a1] at HI1
  rw [bs_list, a2] at HI2
  rw [bs_list, a3] at HI3
  rw [bs_list, a4] at HI4
  have HRU := Lib.hid (fun w => implLowerOf_any r (bs (mix true s.data.toList t.data.toList)) w (by omega) (by have := zu true; omega))
  have HRS := Lib.hid (fun w => implLowerOf_any r s w (by omega) (by omega))
  have HRT := Lib.hid (fun w => implLowerOf_any r t w (by omega) (by omega))
  have HRR := Lib.hid (fun w => implUpperOf_any (bs (mix false r.data.toList s.data.toList)) (bs (mix false r.data.toList t.data.toList)) w (by omega) (by omega))
  rw [bs_list, l1] at HRU
  rw [bs_list, bs_list] at HRR
  have HJ1 := Lib.hid (fun w => implIsAbove_any r s w (by omega) (by omega))
  have HJ2 := Lib.hid (fun w => implIsAbove_any r t w (by omega) (by omega))
  have HJ3 := Lib.hid (fun w => implIsAbove_any r (bs (mix true s.data.toList t.data.toList)) w (by omega) (by have := zu true; omega))
  rw [bs_list] at HJ3
  have HRM1 := Lib.hid (fun w => specRoomUnder_any (bs (mix true s.data.toList t.data.toList)) w (by have := zu true; omega))
  have HRM2 := Lib.hid (fun w => specRoomUnder_any (bs (mix false s.data.toList t.data.toList)) w (by have := zu false; omega))
  have HRM3 := Lib.hid (fun w => specRoomUnder_any s w (by omega))
  have HRM4 := Lib.hid (fun w => specRoomUnder_any t w (by omega))
  rw [bs_list] at HRM1 HRM2
  have HAR := Lib.hid (fun w => specAreaBetween_any s t w (by omega) (by omega))
  rw [m2] at HAR
  have HK1 := Lib.hid (fun w => implAreComparable_any s (bs (mix true s.data.toList t.data.toList)) w (by omega) (by have := zu true; omega))
  rw [bs_list, a1, Bool.or_true] at HK1
  have HK2 := Lib.hid (fun w => implAreComparable_any s t w (by omega) (by omega))
  rw [hsame] at HK2
  have hb1' := roomOf_bound2 (mix true s.data.toList t.data.toList)
  have hb2' := roomOf_bound2 (mix false s.data.toList t.data.toList)
  have hb3' := roomOf_bound2 s.data.toList
  have hb4' := roomOf_bound2 t.data.toList
  have hus : decide (mix true s.data.toList t.data.toList = s.data.toList) = decide (bs (mix true s.data.toList t.data.toList) = s) := by
    by_cases e : mix true s.data.toList t.data.toList = s.data.toList
    · rw [decide_eq_true e, decide_eq_true (by rw [e, bs_of])]
    · rw [decide_eq_false e, decide_eq_false (fun h => e ((bs_list _).symm.trans (congrArg (fun z : ByteArray => z.data.toList) h)))]
  have hut : decide (mix true s.data.toList t.data.toList = t.data.toList) = decide (bs (mix true s.data.toList t.data.toList) = t) := by
    by_cases e : mix true s.data.toList t.data.toList = t.data.toList
    · rw [decide_eq_true e, decide_eq_true (by rw [e, bs_of])]
    · rw [decide_eq_false e, decide_eq_false (fun h => e ((bs_list _).symm.trans (congrArg (fun z : ByteArray => z.data.toList) h)))]
  rw [hus, hut] at HK2
  have HJJ := Lib.hid l2
  have HM1 := Lib.hid m1
  clear hr hs ht hb1 hst hrs hrt a1 a2 a3 a4 a5 a6 a7 a8 l1 l2 m1 m2 hsame zu z1 z2 hus hut
  generalize bs (mix true s.data.toList t.data.toList) = u at *
  generalize bs (mix false s.data.toList t.data.toList) = l at *
  generalize roomOf (mix true s.data.toList t.data.toList) = ru at *
  generalize roomOf (mix false s.data.toList t.data.toList) = rl at *
  generalize roomOf s.data.toList = rs at *
  generalize roomOf t.data.toList = rt at *
  generalize bs (mix true (mix false r.data.toList s.data.toList) (mix false r.data.toList t.data.toList)) = x at *
  generalize bs (mix false r.data.toList s.data.toList) = p at *
  generalize bs (mix false r.data.toList t.data.toList) = q at *
  generalize isAbove r.data.toList s.data.toList = j1 at *
  generalize isAbove r.data.toList t.data.toList = j2 at *
  generalize isAbove r.data.toList (mix true s.data.toList t.data.toList) = j3 at *
  go_wp2_with fail
  refine (HU.out _).mono ?_
  rintro e w2 ⟨rfl, rfl⟩
  go_wp2_with fail
  refine (HL.out _).mono ?_
  rintro e w2 ⟨rfl, rfl⟩
  go_wp2_with fail
  refine (HI1.out _).mono ?_
  rintro e w2 ⟨rfl, rfl⟩
  go_wp2_with fail
  refine (HI2.out _).mono ?_
  rintro e w2 ⟨rfl, rfl⟩
  go_wp2_with fail
  refine (HI3.out _).mono ?_
  rintro e w2 ⟨rfl, rfl⟩
  go_wp2_with fail
  refine (HI4.out _).mono ?_
  rintro e w2 ⟨rfl, rfl⟩
  go_wp2_with fail
  refine (HU2.out _).mono ?_
  rintro e w2 ⟨rfl, rfl⟩
  go_wp2_with fail
  refine (HL2.out _).mono ?_
  rintro e w2 ⟨rfl, rfl⟩
  go_wp2_with fail
  refine (HUL.out _).mono ?_
  rintro e w2 ⟨rfl, rfl⟩
  go_wp2_with fail
  refine (HLU.out _).mono ?_
  rintro e w2 ⟨rfl, rfl⟩
  go_upto_region 8 with (fail)
  go_cut [104] from 78 to 104 (fun v wx => v = .bool false ∧ wx = w1)
  case first =>
    go_wp2_with fail
    refine (HRU.out _).mono ?_
    rintro e w2 ⟨rfl, rfl⟩
    go_wp2_with fail
    refine (HRS.out _).mono ?_
    rintro e w2 ⟨rfl, rfl⟩
    go_wp2_with fail
    refine (HRT.out _).mono ?_
    rintro e w2 ⟨rfl, rfl⟩
    go_wp2_with fail
    refine (HRR.out _).mono ?_
    rintro e w2 ⟨rfl, rfl⟩
    go_wp2_with fail
    refine (HJ1.out _).mono ?_
    rintro e w2 ⟨rfl, rfl⟩
    cases j1
    · go_wp2_with fail
      go_meet
      case rel => exact ⟨rfl, rfl⟩
    · go_wp2_with fail
      refine (HJ2.out _).mono ?_
      rintro e w2 ⟨rfl, rfl⟩
      cases j2
      · go_wp2_with fail
        go_meet
        case rel => exact ⟨rfl, rfl⟩
      · have hj3 : j3 = true := HJJ.out (by trivial) (by trivial)
        subst hj3
        go_wp2_with fail
        refine (HJ3.out _).mono ?_
        rintro e w2 ⟨rfl, rfl⟩
        go_wp2_with fail
        go_meet
        case rel => exact ⟨rfl, rfl⟩
  case rest =>
    obtain ⟨rfl, rfl⟩ := hcut
    clear HU HL HU2 HL2 HUL HLU HI1 HI2 HI3 HI4 HRU HRS HRT HRR HJ1 HJ2 HJ3 HJJ
    go_wp2_with fail
    refine (DrawCards_any A c cs _ HC1.out).mono ?_
    rintro e w2 ⟨dd, ff, n, ss, tt, A1, A2, c1, c2, hdd, hff, hn, hsl, htl, hss, htt, rfl, hx, hy, hb2⟩
    obtain ⟨k1, g1⟩ := strips_ok (d := dd) (f := ff) (ss := ss) (by omega) (by omega) (by omega) hss
    obtain ⟨k2, g2⟩ := strips_ok (d := dd) (f := ff) (ss := tt) (by omega) (by omega) (by omega) htt
    have hzU := zip_strips true (ss := ss) (tt := tt) (d := dd) (f := ff) (by omega) (by omega) hss htt n (by omega) (by omega)
    have hzD := zip_strips false (ss := ss) (tt := tt) (d := dd) (f := ff) (by omega) (by omega) hss htt n (by omega) (by omega)
    have hvol := zip_vol (ss := ss) (tt := tt) (d := dd) (f := ff) (by omega) (by omega) hss htt n (by omega) (by omega)
    have lU := zipS_len true ss tt n
    have lD := zipS_len false ss tt n
    obtain ⟨k3, g3⟩ := strips_ok (d := dd) (f := ff) (ss := zipS true ss tt n) (by omega) (by omega) (by omega) hzU
    obtain ⟨k4, g4⟩ := strips_ok (d := dd) (f := ff) (ss := zipS false ss tt n) (by omega) (by omega) (by omega) hzD
    have small : ∀ xs : List ByteArray, -1536 ≤ accS roomS xs n ∧ accS roomS xs n ≤ 1536 := fun xs => by
      by_cases e : n ≤ xs.length
      · have := accS_small (F := roomS) (ss := xs) (B := 256) (fun s _ => roomS_small s) n e
        omega
      · have h2 : accS roomS xs n = accS roomS xs xs.length := by unfold accS; rw [List.take_of_length_le (by omega), List.take_length]
        have := accS_small (F := roomS) (ss := xs) (B := 256) (fun s _ => roomS_small s) xs.length (Nat.le_refl _)
        rw [h2]
        omega
    have v1 := small ss
    have v2 := small tt
    have v3 := small (zipS true ss tt n)
    have v4 := small (zipS false ss tt n)
    have HV1 := Lib.hid (fun w h => specVolumeOf_any dd ff A1 c1 ss w h (fun s hs => by have := g1 s hs; omega) (by omega) (by omega))
    have HV2 := Lib.hid (fun w h => specVolumeOf_any dd ff A2 c2 tt w h (fun s hs => by have := g2 s hs; omega) (by omega) (by omega))
    have HV3 := Lib.hid (fun A c w h => specVolumeOf_any dd ff A c (zipS true ss tt n) w h (fun s hs => by have := g3 s hs; omega) (by omega) (by omega))
    have HV4 := Lib.hid (fun A c w h => specVolumeOf_any dd ff A c (zipS false ss tt n) w h (fun s hs => by have := g4 s hs; omega) (by omega) (by omega))
    rw [vol_yes k1, hsl] at HV1
    rw [vol_yes k2, htl] at HV2
    rw [vol_yes k3, lU] at HV3
    rw [vol_yes k4, lD] at HV4
    have HUC := Lib.hid (fun w hx hy => implUpperCard_any dd ff A1 A2 c1 c2 n ss tt w hx hy hsl htl k1 k2 (fun s hs => by have := g1 s hs; omega) (fun s hs => by have := g2 s hs; omega))
    have HLC := Lib.hid (fun w hx hy => implLowerCard_any dd ff A1 A2 c1 c2 n ss tt w hx hy hsl htl k1 k2 (fun s hs => by have := g1 s hs; omega) (fun s hs => by have := g2 s hs; omega))
    have HX2 := Lib.hid hx
    have HY2 := Lib.hid hy
    have HB2 := Lib.hid (below_thru HB1.out hb2)
    have HVOL := Lib.hid hvol
    have HSL := Lib.hid hsl
    have HTL := Lib.hid htl
    have HLU := Lib.hid lU
    have HLD := Lib.hid lD
    clear hss htt hzU hzD hvol lU lD k1 k2 k3 k4 g1 g2 g3 g4 small hx hy hb2 hsl htl
    generalize hzu : zipS true ss tt n = uu at *
    generalize hzv : zipS false ss tt n = vv at *
    have HZU := Lib.hid hzu
    have HZV := Lib.hid hzv
    clear hzu hzv
    go_upto_region 11 with (fail)
    have HB3 := Lib.hid (below_alloc (below_alloc HB2.out (.cells #[.int .i64 dd, .int .i64 ff, .slice A1 n c1] 30)) (.cells #[.int .i64 dd, .int .i64 ff, .slice A2 n c2] 30))
    have HX3 := Lib.hid (show CAt ((w2.alloc (.cells #[.int .i64 dd, .int .i64 ff, .slice A1 n c1] 30)).alloc (.cells #[.int .i64 dd, .int .i64 ff, .slice A2 n c2] 30)) w2.heap.size w2.heap.size dd ff A1 c1 n ss from
      ⟨by go_simp, by go_simp, by go_simp, Row.alloc (Row.alloc HX2.out (Nat.le_refl _) _) (by simp) _, HSL.out, by simp; omega⟩)
    have HY3 := Lib.hid (show CAt ((w2.alloc (.cells #[.int .i64 dd, .int .i64 ff, .slice A1 n c1] 30)).alloc (.cells #[.int .i64 dd, .int .i64 ff, .slice A2 n c2] 30)) (w2.heap.size + 1) w2.heap.size dd ff A2 c2 n tt from
      ⟨by go_simp, by go_simp, by go_simp, Row.alloc (Row.alloc HY2.out (Nat.le_refl _) _) (by simp) _, HTL.out, by simp; omega⟩)
    generalize (w2.alloc (.cells #[.int .i64 dd, .int .i64 ff, .slice A1 n c1] 30)).alloc (.cells #[.int .i64 dd, .int .i64 ff, .slice A2 n c2] 30) = w3 at *
    generalize w2.heap.size = o8 at *
    clear HX2 HY2 HB2
    obtain ⟨x0, x1, x2, _, _, _⟩ := HX3.out
    obtain ⟨y0, y1, y2, _, _, _⟩ := HY3.out
    go_wp2_with fail
    refine (HUC.out _ HX3.out.full HY3.out.full).mono ?_
    rintro e w4 ⟨A3, c3, rfl, ho4, hb4⟩
    have HX4 := Lib.hid (HX3.out.on hb4)
    have HY4 := Lib.hid (HY3.out.on hb4)
    have HB4 := Lib.hid (below_thru HB3.out hb4)
    have hu4 : SRow w4 w4.heap.size A3 uu := by
      rw [HZU.out, ← HLU.out] at ho4
      exact SRow.of_own ho4
    have HU4 := Lib.hid hu4
    clear hb4 ho4 hu4 x0 x1 x2 y0 y1 y2 HX3 HY3 HB3 HUC
    go_upto_region 12 with (fail)
    have HX5 := Lib.hid (HX4.out.on (below_alloc (Below.refl _ _) (.cells #[.int .i64 dd, .int .i64 ff, .slice A3 n c3] 30)))
    have HY5 := Lib.hid (HY4.out.on (below_alloc (Below.refl _ _) (.cells #[.int .i64 dd, .int .i64 ff, .slice A3 n c3] 30)))
    have HB5 := Lib.hid (below_alloc HB4.out (.cells #[.int .i64 dd, .int .i64 ff, .slice A3 n c3] 30))
    have HU5 := Lib.hid (show CAt (w4.alloc (.cells #[.int .i64 dd, .int .i64 ff, .slice A3 n c3] 30)) w4.heap.size w4.heap.size dd ff A3 c3 n uu from
      ⟨by go_simp, by go_simp, by go_simp, Row.alloc HU4.out (Nat.le_refl _) _, HLU.out, by simp⟩)
    generalize w4.alloc (.cells #[.int .i64 dd, .int .i64 ff, .slice A3 n c3] 30) = w5 at *
    generalize w4.heap.size = o10 at *
    clear HX4 HY4 HB4 HU4
    obtain ⟨x0, x1, x2, _, _, _⟩ := HX5.out
    obtain ⟨y0, y1, y2, _, _, _⟩ := HY5.out
    go_wp2_with fail
    refine (HLC.out _ HX5.out.full HY5.out.full).mono ?_
    rintro e w6 ⟨A4, c4, rfl, ho6, hb6⟩
    have HX6 := Lib.hid (HX5.out.on hb6)
    have HY6 := Lib.hid (HY5.out.on hb6)
    have HU6 := Lib.hid (HU5.out.on hb6)
    have HB6 := Lib.hid (below_thru HB5.out hb6)
    have hv6 : SRow w6 w6.heap.size A4 vv := by
      rw [HZV.out, ← HLD.out] at ho6
      exact SRow.of_own ho6
    have HV6 := Lib.hid hv6
    clear hb6 ho6 hv6 x0 x1 x2 y0 y1 y2 HX5 HY5 HU5 HB5 HLC
    go_upto_region 13 with (fail)
    have HX7 := Lib.hid (HX6.out.on (below_alloc (Below.refl _ _) (.cells #[.int .i64 dd, .int .i64 ff, .slice A4 n c4] 30)))
    have HY7 := Lib.hid (HY6.out.on (below_alloc (Below.refl _ _) (.cells #[.int .i64 dd, .int .i64 ff, .slice A4 n c4] 30)))
    have HU7 := Lib.hid (HU6.out.on (below_alloc (Below.refl _ _) (.cells #[.int .i64 dd, .int .i64 ff, .slice A4 n c4] 30)))
    have HB7 := Lib.hid (below_alloc HB6.out (.cells #[.int .i64 dd, .int .i64 ff, .slice A4 n c4] 30))
    have HV7 := Lib.hid (show CAt (w6.alloc (.cells #[.int .i64 dd, .int .i64 ff, .slice A4 n c4] 30)) w6.heap.size w6.heap.size dd ff A4 c4 n vv from
      ⟨by go_simp, by go_simp, by go_simp, Row.alloc HV6.out (Nat.le_refl _) _, HLD.out, by simp⟩)
    generalize w6.alloc (.cells #[.int .i64 dd, .int .i64 ff, .slice A4 n c4] 30) = w7 at *
    generalize w6.heap.size = o12 at *
    clear HX6 HY6 HB6 HU6 HV6
    have x0 := InW.cell HX7.out.lt HX7.out.c0
    have x1 := InW.cell HX7.out.lt HX7.out.c1
    have x2 := InW.cell HX7.out.lt HX7.out.c2
    have y0 := InW.cell HY7.out.lt HY7.out.c0
    have y1 := InW.cell HY7.out.lt HY7.out.c1
    have y2 := InW.cell HY7.out.lt HY7.out.c2
    have u0 := InW.cell HU7.out.lt HU7.out.c0
    have u1 := InW.cell HU7.out.lt HU7.out.c1
    have u2 := InW.cell HU7.out.lt HU7.out.c2
    have t0 := InW.cell HV7.out.lt HV7.out.c0
    have t1 := InW.cell HV7.out.lt HV7.out.c1
    have t2 := InW.cell HV7.out.lt HV7.out.c2
    have hq1 : (accS roomS uu n + accS roomS vv n == accS roomS ss n + accS roomS tt n) = true := by rw [HVOL.out]; simp
    have hq2 : (ru + rl == rs + rt) = true := by rw [HM1.out]; simp
    have hq3 : (ru - rl == ru - rl) = true := by simp
    have HV3 := Lib.hid (fun w h => HV3.out A3 c3 w h)
    have HV4 := Lib.hid (fun w h => HV4.out A4 c4 w h)
    generalize accS roomS uu n = b3 at *
    generalize accS roomS vv n = b4 at *
    generalize accS roomS ss n = b1 at *
    generalize accS roomS tt n = b2 at *
    have HSX := Lib.hid (fun u : InW w7 => show SRow u.val u.val.heap.size A1 ss from Row.on HX7.out.full u.on)
    have HSY := Lib.hid (fun u : InW w7 => show SRow u.val u.val.heap.size A2 tt from Row.on HY7.out.full u.on)
    have HSU := Lib.hid (fun u : InW w7 => show SRow u.val u.val.heap.size A3 uu from Row.on HU7.out.full u.on)
    have HSV := Lib.hid (fun u : InW w7 => show SRow u.val u.val.heap.size A4 vv from Row.on HV7.out.full u.on)
    by_cases e1 : u = s
    · have he1 : (u.toList == s.toList) = true := by rw [e1]; exact beq_self_eq_true _
      rw [decide_eq_true e1, Bool.true_or] at HK2
      clear e1
      clear HX7 HY7 HU7 HV7
      go_wp2_with fail
      refine wp_region_in (by kernel_rfl) (by kernel_rfl) ?_
      repeat (go_big_quiet_step ((first | (go_at_call 15; with_reducible refine (HV1.out _ (HSX.out _)).mono ?_; rintro e w' ⟨rfl, hb⟩; exact ⟨rfl, ⟨_, below_thru (InW.on _) hb⟩, rfl⟩) | (go_at_call 15; with_reducible refine (HV2.out _ (HSY.out _)).mono ?_; rintro e w' ⟨rfl, hb⟩; exact ⟨rfl, ⟨_, below_thru (InW.on _) hb⟩, rfl⟩) | (go_at_call 15; with_reducible refine (HV3.out _ (HSU.out _)).mono ?_; rintro e w' ⟨rfl, hb⟩; exact ⟨rfl, ⟨_, below_thru (InW.on _) hb⟩, rfl⟩) | (go_at_call 15; with_reducible refine (HV4.out _ (HSV.out _)).mono ?_; rintro e w' ⟨rfl, hb⟩; exact ⟨rfl, ⟨_, below_thru (InW.on _) hb⟩, rfl⟩) | (go_at_call 16; with_reducible refine (HRM1.out _).mono ?_; rintro e w' ⟨rfl, hb⟩; exact ⟨rfl, ⟨_, below_thru (InW.on _) hb⟩, rfl⟩) | (go_at_call 16; with_reducible refine (HRM2.out _).mono ?_; rintro e w' ⟨rfl, hb⟩; exact ⟨rfl, ⟨_, below_thru (InW.on _) hb⟩, rfl⟩) | (go_at_call 16; with_reducible refine (HRM3.out _).mono ?_; rintro e w' ⟨rfl, hb⟩; exact ⟨rfl, ⟨_, below_thru (InW.on _) hb⟩, rfl⟩) | (go_at_call 16; with_reducible refine (HRM4.out _).mono ?_; rintro e w' ⟨rfl, hb⟩; exact ⟨rfl, ⟨_, below_thru (InW.on _) hb⟩, rfl⟩) | (go_at_call 17; with_reducible refine (HAR.out _).mono ?_; rintro e w' ⟨rfl, hb⟩; exact ⟨rfl, ⟨_, below_thru (InW.on _) hb⟩, rfl⟩) | (go_at_call 18; with_reducible refine (HK1.out _).mono ?_; rintro e w' ⟨rfl, rfl⟩; exact ⟨rfl, _, rfl⟩) | (go_at_call 18; with_reducible refine (HK2.out _).mono ?_; rintro e w' ⟨rfl, rfl⟩; exact ⟨rfl, _, rfl⟩))))
      refine wpQuiet_nil ?_
      intro w2_ hw2_
      obtain ⟨⟨w8, hb8⟩, rfl⟩ := hw2_
      go_wp2_with fail
      go_ret
      exact ⟨rfl, below_thru HB7.out hb8⟩
    · have he1 : (u.toList == s.toList) = false := txt_ne e1
      by_cases e2 : u = t
      · have he2 : (u.toList == t.toList) = true := by rw [e2]; exact beq_self_eq_true _
        rw [decide_eq_false e1, decide_eq_true e2, Bool.or_true] at HK2
        clear e1 e2
        clear HX7 HY7 HU7 HV7
        go_wp2_with fail
        refine wp_region_in (by kernel_rfl) (by kernel_rfl) ?_
        repeat (go_big_quiet_step ((first | (go_at_call 15; with_reducible refine (HV1.out _ (HSX.out _)).mono ?_; rintro e w' ⟨rfl, hb⟩; exact ⟨rfl, ⟨_, below_thru (InW.on _) hb⟩, rfl⟩) | (go_at_call 15; with_reducible refine (HV2.out _ (HSY.out _)).mono ?_; rintro e w' ⟨rfl, hb⟩; exact ⟨rfl, ⟨_, below_thru (InW.on _) hb⟩, rfl⟩) | (go_at_call 15; with_reducible refine (HV3.out _ (HSU.out _)).mono ?_; rintro e w' ⟨rfl, hb⟩; exact ⟨rfl, ⟨_, below_thru (InW.on _) hb⟩, rfl⟩) | (go_at_call 15; with_reducible refine (HV4.out _ (HSV.out _)).mono ?_; rintro e w' ⟨rfl, hb⟩; exact ⟨rfl, ⟨_, below_thru (InW.on _) hb⟩, rfl⟩) | (go_at_call 16; with_reducible refine (HRM1.out _).mono ?_; rintro e w' ⟨rfl, hb⟩; exact ⟨rfl, ⟨_, below_thru (InW.on _) hb⟩, rfl⟩) | (go_at_call 16; with_reducible refine (HRM2.out _).mono ?_; rintro e w' ⟨rfl, hb⟩; exact ⟨rfl, ⟨_, below_thru (InW.on _) hb⟩, rfl⟩) | (go_at_call 16; with_reducible refine (HRM3.out _).mono ?_; rintro e w' ⟨rfl, hb⟩; exact ⟨rfl, ⟨_, below_thru (InW.on _) hb⟩, rfl⟩) | (go_at_call 16; with_reducible refine (HRM4.out _).mono ?_; rintro e w' ⟨rfl, hb⟩; exact ⟨rfl, ⟨_, below_thru (InW.on _) hb⟩, rfl⟩) | (go_at_call 17; with_reducible refine (HAR.out _).mono ?_; rintro e w' ⟨rfl, hb⟩; exact ⟨rfl, ⟨_, below_thru (InW.on _) hb⟩, rfl⟩) | (go_at_call 18; with_reducible refine (HK1.out _).mono ?_; rintro e w' ⟨rfl, rfl⟩; exact ⟨rfl, _, rfl⟩) | (go_at_call 18; with_reducible refine (HK2.out _).mono ?_; rintro e w' ⟨rfl, rfl⟩; exact ⟨rfl, _, rfl⟩))))
        refine wpQuiet_nil ?_
        intro w2_ hw2_
        obtain ⟨⟨w8, hb8⟩, rfl⟩ := hw2_
        go_wp2_with fail
        go_ret
        exact ⟨rfl, below_thru HB7.out hb8⟩
      · have he2 : (u.toList == t.toList) = false := txt_ne e2
        rw [decide_eq_false e1, decide_eq_false e2, Bool.or_false] at HK2
        clear e1 e2
        clear HX7 HY7 HU7 HV7
        go_wp2_with fail
        refine wp_region_in (by kernel_rfl) (by kernel_rfl) ?_
        repeat (go_big_quiet_step ((first | (go_at_call 15; with_reducible refine (HV1.out _ (HSX.out _)).mono ?_; rintro e w' ⟨rfl, hb⟩; exact ⟨rfl, ⟨_, below_thru (InW.on _) hb⟩, rfl⟩) | (go_at_call 15; with_reducible refine (HV2.out _ (HSY.out _)).mono ?_; rintro e w' ⟨rfl, hb⟩; exact ⟨rfl, ⟨_, below_thru (InW.on _) hb⟩, rfl⟩) | (go_at_call 15; with_reducible refine (HV3.out _ (HSU.out _)).mono ?_; rintro e w' ⟨rfl, hb⟩; exact ⟨rfl, ⟨_, below_thru (InW.on _) hb⟩, rfl⟩) | (go_at_call 15; with_reducible refine (HV4.out _ (HSV.out _)).mono ?_; rintro e w' ⟨rfl, hb⟩; exact ⟨rfl, ⟨_, below_thru (InW.on _) hb⟩, rfl⟩) | (go_at_call 16; with_reducible refine (HRM1.out _).mono ?_; rintro e w' ⟨rfl, hb⟩; exact ⟨rfl, ⟨_, below_thru (InW.on _) hb⟩, rfl⟩) | (go_at_call 16; with_reducible refine (HRM2.out _).mono ?_; rintro e w' ⟨rfl, hb⟩; exact ⟨rfl, ⟨_, below_thru (InW.on _) hb⟩, rfl⟩) | (go_at_call 16; with_reducible refine (HRM3.out _).mono ?_; rintro e w' ⟨rfl, hb⟩; exact ⟨rfl, ⟨_, below_thru (InW.on _) hb⟩, rfl⟩) | (go_at_call 16; with_reducible refine (HRM4.out _).mono ?_; rintro e w' ⟨rfl, hb⟩; exact ⟨rfl, ⟨_, below_thru (InW.on _) hb⟩, rfl⟩) | (go_at_call 17; with_reducible refine (HAR.out _).mono ?_; rintro e w' ⟨rfl, hb⟩; exact ⟨rfl, ⟨_, below_thru (InW.on _) hb⟩, rfl⟩) | (go_at_call 18; with_reducible refine (HK1.out _).mono ?_; rintro e w' ⟨rfl, rfl⟩; exact ⟨rfl, _, rfl⟩) | (go_at_call 18; with_reducible refine (HK2.out _).mono ?_; rintro e w' ⟨rfl, rfl⟩; exact ⟨rfl, _, rfl⟩))))
        refine wpQuiet_nil ?_
        intro w2_ hw2_
        obtain ⟨⟨w8, hb8⟩, rfl⟩ := hw2_
        go_wp2_with fail
        go_ret
        exact ⟨rfl, below_thru HB7.out hb8⟩

namespace fnOrder
set_option maxRecDepth 100000 in
theorem lifted (os : Os) (started : os.Started) (H : Type) (enc : TypeId × Value → H) :
    ReturnsInHanded {} Try.checked os 3 .any (Rows.fnOrderSpec.pre6 enc Try.prog Try.f3 Rows.fnOrderRow.domain false) (Rows.fnOrderSpec.post enc Try.prog Try.f3 false true false false) := by
  refine returnsInHanded_of_change (C := Try.checked) own started (by kernel_rfl) Try.func3
    (ChangeSpec.witness6 (enc := enc) (C := Try.checked) false ⟨#[], #[.slice none 0 0], []⟩ 8 (by kernel_rfl) (by kernel_rfl) (by kernel_rfl) (by kernel_rfl)) ?_
  intro W base args ds gs before hval0 hW hcnd _
  have hval : ∀ (j : Nat) t v, Try.f3.params[j]? = some t → args[j]? = some v → Value.okWide Try.prog W .any base t v := hval0
  have hW' := hW
  obtain ⟨p, q, hA0, hV, rfl, hfz, hnd⟩ := hW
  have hA : DataW.TrodAll enc Try.prog W 0 (fun _ => true) true Try.f3.params.toList args.toList ds p := hA0
  rw [Try.params3] at hA hval
  obtain ⟨v0, vs0, d0, ds0, p0, q0, hargs, rfl, rfl, h0, r0⟩ := trodAll_cons hA
  obtain ⟨rfl, rfl, rfl⟩ := trodAll_nil r0
  obtain rfl : args = #[v0] := by cases args; simp_all
  obtain ⟨A0, cp0, bs0, rfl, hz0⟩ := brow_of_arg Try.underlying22 Try.underlying5 (by kernel_rfl) (hval 0 22 v0 rfl rfl) h0
  clear hA0 hval0
  refine (fnOrder_walk A0 cp0 bs0 W hz0).mono fun e W' ⟨he, hg⟩ => ?_
  subst he
  exact ⟨_, rfl, law_post laidOut (by kernel_rfl) rfl (by kernel_rfl) Try.underlying4 rfl rfl rfl hW' hg⟩
theorem closed : joinedFacts Try.prog 3 Try.f3 Rows.fnOrderSpec Rows.fnOrderRow = true := by
  unfold joinedFacts
  repeat' (with_reducible refine andI ?_ ?_)
  all_goals (first | (with_reducible exact laidOut) | (with_reducible exact mayEnter) | (rw [liftsFinal]; rfl) | (rw [make_is]; rfl) | (as_aux_lemma => kernel_rfl))
theorem over : Rows.fnOrderRow.holds Try.pinned (OpenSpec.ofChange Rows.fnOrderSpec) :=
  OpenClaim.holds_of_wide 3 Try.f3 rfl rfl rfl rfl rfl rfl rfl ⟨rfl, rfl, rfl, rfl, rfl⟩ rfl rfl rfl rfl rfl (by kernel_rfl) Try.func3 closed
    (of_decide_eq_true (by kernel_rfl)) (by unfold Func.isWrapper; first | (rw [if_pos (by decide +kernel)]; kernel_rfl) | (rw [if_neg (by decide +kernel)]; exact ⟨rfl, rfl⟩))
    (fun os started H enc _ => lifted os started H enc)
/-- THE STATEMENT -/
theorem proved : Rows.FnOrderSaid := over
#print axioms proved
end fnOrder

end Go.Proofs.Ytpeopfkechbelaa
