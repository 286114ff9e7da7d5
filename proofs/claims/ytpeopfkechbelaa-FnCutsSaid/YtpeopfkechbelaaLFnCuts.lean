
/-
  The law FnCuts returns true at every input and leaves its argument as it was; no condition.
-/
import Derived.Test.YtpeopfkechbelaaDraw3
import Derived.Test.YtpeopfkechbelaaLawB
import Derived.Test.YtpeopfkechbelaaCutsP
import Derived.Test.YtpeopfkechbelaaCutL
import Derived.Test.YtpeopfkechbelaaArgB
import Derived.BigRegion
import Derived.Deep.Cut
namespace Go.Proofs.Ytpeopfkechbelaa
open Go.ChangeShapes Go.WideShapes Go.ChangeAt Go.RowKit Go.Deep Go.BigFrame
set_option linter.unusedVariables false
set_option linter.unusedSimpArgs false

theorem has_yes (A : Option Addr) (c : Nat) (zs : List Int) (k : Int) (w : World) (hx : IRow w w.heap.size A zs) (hk : k ∈ zs) :
    Calls Try.prog 37 #[.slice A zs.length c, .int .i64 k] w fun e w' => e = .returned (.bool true) ∧ Below w.heap.size w w' := by
  have hm := hx.2.1
  unfold maxLen at hm
  obtain ⟨i1, hi1, hik⟩ := List.getElem_of_mem hk
  have hik' : zs.getD i1 0 = k := by simp [List.getD, hi1, hik]
  have HK := Lib.hid hik'
  clear hik hik'
  go_enter Try.func37, Try.ntmps37
  go_wp2_with fail
  go_loop [5] (fun iv => ∃ j : Nat, j ≤ i1 ∧ iv = .int .i64 j) (fun iv => zs.length - (intOf iv).toNat)
  case atStart => exact ⟨0, Nat.zero_le _, rfl⟩
  case round =>
    obtain ⟨j, hj, rfl⟩ := hrel
    have hi : (j : Int) < (zs.length : Int) := by omega
    obtain ⟨b, o, rfl, hb, hc⟩ := hx.at_ (k := j) (by omega)
    by_cases he : zs.getD j 0 = k
    · have hb1 : (zs.getD j 0 == k) = true := by simpa using he
      generalize zs.getD j 0 = z at *
      clear hx he
      go_wp2_with fail
      go_ret
      exact ⟨rfl, Below.refl _ _⟩
    · have hb1 : (zs.getD j 0 == k) = false := by simpa using he
      have hne : j ≠ i1 := fun e => he (by rw [e]; exact HK.out)
      have HN := Lib.hid hne
      generalize zs.getD j 0 = z at *
      clear hx he hne
      go_wp2_with fail
      go_round
      case rel => exact ⟨j + 1, by have := HN.out; omega, by go_num⟩
      case measure => simp [intOf]; omega
theorem has_no (A : Option Addr) (c : Nat) (zs : List Int) (k : Int) (w : World) (hx : IRow w w.heap.size A zs) (hk : ¬ k ∈ zs) :
    Calls Try.prog 37 #[.slice A zs.length c, .int .i64 k] w fun e w' => e = .returned (.bool false) ∧ Below w.heap.size w w' := by
  have hm := hx.2.1
  unfold maxLen at hm
  have HK := Lib.hid (fun j (h : j < zs.length) => show ¬ zs.getD j 0 = k from fun e => hk (by rw [← e, List.getD_eq_getElem?_getD, List.getElem?_eq_getElem h]; exact List.getElem_mem _))
  clear hk
  go_enter Try.func37, Try.ntmps37
  go_wp2_with fail
  go_loop [5] (fun iv => ∃ j : Nat, j ≤ zs.length ∧ iv = .int .i64 j) (fun iv => zs.length - (intOf iv).toNat)
  case atStart => exact ⟨0, Nat.zero_le _, rfl⟩
  case round =>
    obtain ⟨j, hj, rfl⟩ := hrel
    by_cases hlt : j < zs.length
    · have hi : (j : Int) < (zs.length : Int) := by omega
      obtain ⟨b, o, rfl, hb, hc⟩ := hx.at_ (k := j) (by omega)
      have he := HK.out j hlt
      have hb1 : (zs.getD j 0 == k) = false := by simpa using he
      generalize zs.getD j 0 = z at *
      clear hx he
      go_wp2_with fail
      go_round
      case rel => exact ⟨j + 1, by omega, by go_num⟩
      case measure => simp [intOf]; omega
    · obtain rfl : j = zs.length := by omega
      clear hx
      go_wp2_with fail
      go_ret
      exact ⟨rfl, Below.refl _ _⟩

theorem StripOf.frame {d f : Nat} {l m : List UInt8} (h : StripOf d f l) (k : StripOf d f m) (hd : 1 ≤ d ∧ d ≤ 8) (hf : 1 ≤ f ∧ f ≤ 8) : sameFrame l m = true := by
  simp only [sameFrame, Bool.and_eq_true, decide_eq_true_eq]
  exact ⟨h.strip hd hf, k.strip hd hf, by rw [h.1, k.1], by rw [h.2.1, k.2.1]⟩

theorem strips_ok {d f : Nat} {ss : List ByteArray} (hd : 1 ≤ d ∧ d ≤ 8) (hf : 1 ≤ f ∧ f ≤ 8) (hl : 1 ≤ ss.length ∧ ss.length ≤ 10) (hs : ∀ s ∈ ss, StripOf d f s.data.toList) : cardOk d f ss = true ∧ (∀ s ∈ ss, s.size ≤ 16) := by
  refine ⟨andI (inB_iff.2 (by omega)) (andI (inB_iff.2 (by omega)) (andI (inB_iff.2 (by omega)) (List.all_eq_true.2 fun s h => ?_))), fun s h => ?_⟩
  · have a := hs s h
    have b := a.strip hd hf
    refine inFrame_yes ?_ ?_
    · rw [downOf_yes b, a.1]
    · rw [forwardOf_yes b, a.2.1]
  · have a := (hs s h).2.2
    rw [size_list] at a
    omega

set_option maxRecDepth 8000 in
set_option maxHeartbeats 2000000 in
theorem fnCuts_walk (A : Option Addr) (c : Nat) (cs : List UInt8) (w : World) (h : BRow w w.heap.size A cs) :
    Calls Try.prog 6 #[.slice A cs.length c] w fun e w' => e = .returned (.bool true) ∧ Below w.heap.size w w' := by
  by_cases hbig : 1048576 < cs.length
  · have HB := Lib.hid (fun w => big_any A c cs w)
    rw [decide_eq_true hbig] at HB
    go_enter Try.func6, Try.ntmps6
    go_wp2_with fail
    refine (HB.out _).mono ?_
    rintro e w1 ⟨rfl, rfl⟩
    go_wp2_with fail
    go_ret
    exact ⟨rfl, Below.refl _ _⟩
  have HB := Lib.hid (fun w => big_any A c cs w)
  rw [decide_eq_false hbig] at HB
  have HBR := Lib.hid h
  clear h hbig
  go_enter Try.func6, Try.ntmps6
  go_wp2_with fail
  refine (HB.out _).mono ?_
  rintro e w0 ⟨rfl, rfl⟩
  go_wp2_with fail
  refine (DrawThree_any A c cs _ HBR.out).mono ?_
  rintro e w1 ⟨d, f, r, s, t, hd, hf, hr, hs, ht, rfl, hb1⟩
  have HB1 := Lib.hid hb1
  have zr : r.size ≤ 16 := by have := hr.2.2; rw [size_list] at this; omega
  have zs : s.size ≤ 16 := by have := hs.2.2; rw [size_list] at this; omega
  have zt : t.size ≤ 16 := by have := ht.2.2; rw [size_list] at this; omega
  have hst := hs.frame ht (by omega) (by omega)
  have hrs := hr.frame hs (by omega) (by omega)
  have hrt := hr.frame ht (by omega) (by omega)
  have HRF := Lib.hid hr
  have HSF := Lib.hid hs
  have HTF := Lib.hid ht
  have HRS := Lib.hid hrs
  obtain ⟨e1, e2, e3, e4, e5, e6⟩ := cuts_law hst
  have e7 := area_tri hrs hst
  have e8 := area_small hst
  have e9 := area_small hrs
  have e10 := area_small hrt
  have e11 := (cuts_law hrs).2.2.1
  have e12 := (cuts_law hrt).2.2.1
  have HRUNS := Lib.hid (cuts_runs s.data.toList t.data.toList)
  have HMEM := Lib.hid (fun z (h : z ∈ cutsOf s.data.toList t.data.toList) => show 0 ≤ z ∧ z ≤ 16 from by have := cutsOf_mem h; rw [size_list] at this; omega)
  have hcl : (cutsOf s.data.toList t.data.toList).length ≤ 16 := by have := cutsOf_len s.data.toList t.data.toList; rw [size_list] at this; omega
  have hgl := runsTo_len (cutsOf s.data.toList t.data.toList) (cutsOf s.data.toList t.data.toList).length
  have HCB := Lib.hid (fun w => implCutsBetween_any s t w (by omega) (by omega))
  have HCT := Lib.hid (fun w => implCutsBetween_any t s w (by omega) (by omega))
  rw [e1] at HCT
  have HCR := Lib.hid (fun w => implCutRuns_any s t w (by omega) (by omega))
  have HA1 := Lib.hid (fun w => implAreaBetween_any s t w (by omega) (by omega))
  have HA2 := Lib.hid (fun w => implAreaBetween_any t s w (by omega) (by omega))
  rw [e2] at HA2
  have HA3 := Lib.hid (fun w => implAreaBetween_any r t w (by omega) (by omega))
  have HA4 := Lib.hid (fun w => implAreaBetween_any r s w (by omega) (by omega))
  have HE4 := Lib.hid e4
  have HE5 := Lib.hid e5
  have HDN := Lib.hid (fun w => specDownOf_any s w (by omega))
  have HFW := Lib.hid (fun w => specForwardOf_any s w (by omega))
  rw [downOf_yes (hs.strip (by omega) (by omega)), hs.1] at HDN
  rw [forwardOf_yes (hs.strip (by omega) (by omega)), hs.2.1] at HFW
  have hsz : s.size = d + f := by have := hs.2.2; rw [size_list] at this; exact this
  have hok : cardOk d f [r, s, t] = true := (strips_ok (by omega) (by omega) (by simp) (fun x hx => by
    rcases List.mem_cons.1 hx with rfl | hx
    · exact hr
    · rcases List.mem_cons.1 hx with rfl | hx
      · exact hs
      · rw [List.mem_singleton.1 hx]; exact ht)).1
  have hm3 : ∀ x ∈ [r, s, t], x.size ≤ 4294967296 := fun x hx => by
    rcases List.mem_cons.1 hx with rfl | hx
    · omega
    · rcases List.mem_cons.1 hx with rfl | hx
      · omega
      · rw [List.mem_singleton.1 hx]; omega
  obtain ⟨N, hN⟩ : ∃ N, N = cutsTo [r, s, t] ([r, s, t].length - 1) := ⟨_, rfl⟩
  have hN2 : N = (cutsOf r.data.toList s.data.toList).length + (cutsOf s.data.toList t.data.toList).length := by rw [hN]; simp [cutsTo, cutsK]
  have HCL := Lib.hid (fun A c w h => show Calls Try.prog 46 #[.agg #[.int .i64 d, .int .i64 f, .slice A 3 c]] w (fun e w' => e = .returned (.int .i64 (N : Int)) ∧ Below w.heap.size w w') from by
    have h0 := implCutLength_any d f A c [r, s, t] w h hm3 hok
    rw [← hN] at h0
    exact h0)
  have HFE := Lib.hid (fun A c w h => show Calls Try.prog 48 #[.agg #[.int .i64 d, .int .i64 f, .slice A 3 c]] w (fun e w' => e = .returned (.int .i64 (2 * (N : Int) + 2 * ((d : Int) + (f : Int)))) ∧ Below w.heap.size w w') from by
    have h0 := implFreeEdges_any d f A c [r, s, t] w h hm3 hok
    rw [← hN] at h0
    exact h0)
  have HSZ := Lib.hid hsz
  have HCRS := Lib.hid (fun w => specCutsBetween_any r s w (by omega) (by omega) hrs)
  have HNN := Lib.hid hN2
  have hrl : (cutsOf r.data.toList s.data.toList).length ≤ 16 := by have := cutsOf_len r.data.toList s.data.toList; rw [size_list] at this; omega
  clear hr hs ht hb1 hst hrs hrt e1 e2 e4 e5 hok hm3 hsz hN hN2
  generalize runsTo (cutsOf s.data.toList t.data.toList) (cutsOf s.data.toList t.data.toList).length = gs at *
  generalize cutsOf s.data.toList t.data.toList = ls at *
  generalize cutsOf r.data.toList s.data.toList = lr at *
  generalize areaOf s.data.toList t.data.toList = a at *
  generalize areaOf r.data.toList t.data.toList = a3 at *
  generalize areaOf r.data.toList s.data.toList = a4 at *
  go_wp2_with fail
  refine (HCB.out _).mono ?_
  rintro e w2 ⟨Al, cl, rfl, ho2, hb2⟩
  have HX2 := Lib.hid (IRow.of_own ho2)
  have HB2 := Lib.hid (below_thru HB1.out hb2)
  clear ho2 hb2 HB1
  go_wp2_with fail
  refine (HA1.out _).mono ?_
  rintro e w3 ⟨rfl, hb3⟩
  have HX3 := Lib.hid (HX2.out.on hb3)
  have HB3 := Lib.hid (below_thru HB2.out hb3)
  clear hb3 HX2 HB2
  go_wp2_with fail
  refine (HCR.out _).mono ?_
  rintro e w4 ⟨Ag, cg, rfl, ht4, hb4⟩
  obtain ⟨vs, hlr⟩ := ht4.lrow
  have HG4 := Lib.hid hlr
  have HX4 := Lib.hid (HX3.out.on hb4)
  have HB4 := Lib.hid (below_thru HB3.out hb4)
  clear hb4 ht4 hlr HX3 HB3
  have HSS := Lib.hid (sumR_small (B := 16) (xss := gs) (fun i hi => by
    obtain ⟨a, b, q0, q1, q2, q3, q4⟩ := HRUNS.out.pair i hi
    exact ⟨a, b, q0, q1, (HMEM.out a q2).1, (HMEM.out b q3).2⟩))
  go_wp2_with fail
  go_loopw [9, 10] (fun sv kv wr => ∃ k : Nat, k ≤ gs.length ∧ kv = .int .i64 k ∧ sv = .int .i64 (sumR gs k) ∧ IRow wr wr.heap.size Al ls ∧ LRow wr wr.heap.size Ag vs gs ∧ Below w0.heap.size w0 wr) (fun _ kv _ => gs.length - (intOf kv).toNat)
  case atStart => exact ⟨0, Nat.zero_le _, rfl, rfl, HX4.out, HG4.out, HB4.out⟩
  case round =>
    obtain ⟨k, hk, rfl, rfl, hx, hg, hbr⟩ := hrel
    have HX := Lib.hid hx
    have HG := Lib.hid hg
    have HBW := Lib.hid hbr
    clear hx hg hbr HX4 HG4 HB4
    obtain ⟨s1, s2⟩ := HSS.out k hk
    by_cases hlt : k < gs.length
    · have hi : (k : Int) < (gs.length : Int) := by omega
      obtain ⟨x, y, q0, q1, q2, q3, q4⟩ := HRUNS.out.pair k hlt
      have bx := HMEM.out x q2
      have by_ := HMEM.out y q3
      have HSU := Lib.hid (show sumR gs (k + 1) = sumR gs k + y - x + 1 from by rw [sumR_succ, q0]; rfl)
      obtain ⟨b1, o1, Ak, ck, rfl, hb1, hc1, hir⟩ := HG.out.at_ hlt
      rw [q0] at hc1 hir
      obtain ⟨b2, o2, rfl, hb2, hc2⟩ := hir.at_ (k := 0) (by simp)
      obtain ⟨b3, o3, e3', hb3, hc3⟩ := hir.at_ (k := 1) (by simp)
      obtain ⟨rfl, rfl⟩ : b2 = b3 ∧ o2 = o3 := by simpa using e3'
      simp only [List.length_cons, List.length_nil, List.getD_cons_zero, List.getD_cons_succ, Nat.add_zero] at hc1 hc2 hc3
      have n1 := InW.cell hb1 hc1
      have n2 := InW.cell hb2 hc2
      have n3 := InW.cell hb2 hc3
      have HXI := Lib.hid (fun u : InW wr => HX.out.on u.on)
      have HY := Lib.hid (fun A c w h => has_yes A c ls x w h q2)
      have HN := Lib.hid (fun A c w h => has_no A c ls (y + 1) w h q4)
      have hxy : decide (y < x) = false := decide_eq_false (by omega)
      clear hir q0 q2 q3 q4 e3'
      generalize sumR gs k = sm at *
      go_wp2_with fail
      refine wp_region_in (by kernel_rfl) (by kernel_rfl) ?_
      repeat (go_big_quiet_step ((first | (go_at_call 37; with_reducible refine (HY.out _ _ _ (HXI.out _)).mono ?_; rintro e w' ⟨rfl, hb⟩; exact ⟨rfl, ⟨_, below_thru (InW.on _) hb⟩, rfl⟩) | (go_at_call 37; with_reducible refine (HN.out _ _ _ (HXI.out _)).mono ?_; rintro e w' ⟨rfl, hb⟩; exact ⟨rfl, ⟨_, below_thru (InW.on _) hb⟩, rfl⟩))))
      refine wpQuiet_nil ?_
      intro w2_ hw2_
      obtain ⟨⟨w5, hb5⟩, rfl⟩ := hw2_
      have m1 := InW.cell (Nat.lt_of_lt_of_le hb1 hb5.size) (cell_on hb5 hc1)
      have m2 := InW.cell (Nat.lt_of_lt_of_le hb2 hb5.size) (cell_on hb5 hc2)
      have m3 := InW.cell (Nat.lt_of_lt_of_le hb2 hb5.size) (cell_on hb5 hc3)
      have HX5 := Lib.hid (HX.out.on hb5)
      have HG5 := Lib.hid (HG.out.on hb5)
      have HB5 := Lib.hid (below_thru HBW.out hb5)
      clear n1 n2 n3 hc1 hc2 hc3 hb1 hb2 hb3 hb5 HXI HY HN HX HG HBW
      go_wp2_with fail
      refine wp_region_in (by kernel_rfl) (by kernel_rfl) ?_
      repeat (go_big_quiet_step ((fail)))
      refine wpQuiet_nil ?_
      intro w2_ hw2_
      obtain ⟨⟨w6, hb6⟩, rfl⟩ := hw2_
      have HX6 := Lib.hid (HX5.out.on hb6)
      have HG6 := Lib.hid (HG5.out.on hb6)
      have HB6 := Lib.hid (below_thru HB5.out hb6)
      clear m1 m2 m3 hb6 HX5 HG5 HB5
      go_wp2_with fail
      go_roundw
      case rel => exact ⟨k + 1, by omega, by go_num, by rw [HSU.out], HX6.out, HG6.out, HB6.out⟩
      case measure => simp [intOf]; omega
    · obtain rfl : k = gs.length := by omega
      have hsum := HRUNS.out.sum
      rw [hsum]
      rw [hsum] at s1 s2
      clear hsum HSS HRUNS HMEM hlt
      have HSI := Lib.hid (fun A B c d w hx hy => sameInts_any A B c d ls ls w hx hy)
      rw [decide_eq_true rfl] at HSI
      have hg1 : decide (2 * a < (ls.length : Int)) = false := decide_eq_false (by omega)
      have hg2 : decide (a4 + a < a3) = false := decide_eq_false (by omega)
      have hg3 : decide (a < 0) = false := decide_eq_false (by omega)
      have hcase : ((s.toList == t.toList) = true ∧ (a == 0) = true ∧ ((ls.length : Int) == 0) = true) ∨ ((s.toList == t.toList) = false ∧ (a == 0) = false ∧ ((ls.length : Int) == 0) = false) := by
        by_cases e : s = t
        · left
          have a0 := HE4.out.2 (congrArg (fun z : ByteArray => z.data.toList) e)
          have l0 := HE5.out.2 (congrArg (fun z : ByteArray => z.data.toList) e)
          refine ⟨by rw [e]; exact beq_self_eq_true _, by rw [a0]; rfl, by rw [l0]; rfl⟩
        · right
          have hne : ¬ s.data.toList = t.data.toList := fun h => e ((bs_of s).symm.trans ((congrArg bs h).trans (bs_of t)))
          have a0 : ¬ a = 0 := fun h => hne (HE4.out.1 h)
          have l0 : ¬ ls = [] := fun h => hne (HE5.out.1 h)
          have l1 : ls.length ≠ 0 := fun h => l0 (List.length_eq_zero_iff.1 h)
          exact ⟨txt_ne e, by simpa using a0, by simpa using l0⟩
      go_wp2_with fail
      refine (HCT.out _).mono ?_
      rintro e w5 ⟨At, ct, rfl, ho5, hb5⟩
      have HT5 := Lib.hid (IRow.of_own ho5)
      have HX5 := Lib.hid (HX.out.on hb5)
      have HB5 := Lib.hid (below_thru HBW.out hb5)
      clear ho5 hb5 HX HBW HG
      go_wp2_with fail
      refine (HSI.out _ _ _ _ w5 HX5.out HT5.out).mono ?_
      rintro e w6 ⟨rfl, q6, hq6⟩
      have HB6 := Lib.hid (show Below w0.heap.size w0 w6 from by rw [hq6]; exact below_drewN HB5.out _)
      clear hq6 HT5 HX5 HB5
      go_wp2_with fail
      refine (HA2.out _).mono ?_
      rintro e w7 ⟨rfl, hb7⟩
      have HB7 := Lib.hid (below_thru HB6.out hb7)
      clear hb7 HB6
      rcases hcase with ⟨hst1, ha0, hl0⟩ | ⟨hst1, ha0, hl0⟩
      all_goals
        go_wp2_with fail
        refine (HA3.out _).mono ?_
        rintro e w8 ⟨rfl, hb8⟩
        have HB8 := Lib.hid (below_thru HB7.out hb8)
        clear hb8 HB7
        go_wp2_with fail
        refine (HA4.out _).mono ?_
        rintro e w9 ⟨rfl, hb9⟩
        have HB9 := Lib.hid (below_thru HB8.out hb9)
        clear hb9 HB8
        clear hst1 ha0 hl0
        go_wp2_with fail
        refine (HDN.out _).mono ?_
        rintro e w10 ⟨rfl, rfl⟩
        go_wp2_with fail
        refine (HFW.out _).mono ?_
        rintro e w10 ⟨rfl, rfl⟩
        go_upto_region 17 with (fail)
        have HSR := Lib.hid (show SRow ((w9.alloc (.cells #[.string r, .string s, .string t] 9)).alloc (.cells #[.int .i64 d, .int .i64 f, .slice (some ⟨w9.heap.size, 0, none⟩) 3 3] 30)) ((w9.alloc (.cells #[.string r, .string s, .string t] 9)).alloc (.cells #[.int .i64 d, .int .i64 f, .slice (some ⟨w9.heap.size, 0, none⟩) 3 3] 30)).heap.size (some ⟨w9.heap.size, 0, none⟩) [r, s, t] from
          SRow.of_own (base := w9.heap.size) (c := 3) (e := 9) ((World.ownsRow_lit w9 #[.string r, .string s, .string t] 3 (Nat.le_refl _) (by decide) rfl).alloc _))
        have p0 : ((w9.alloc (.cells #[.string r, .string s, .string t] 9)).alloc (.cells #[.int .i64 d, .int .i64 f, .slice (some ⟨w9.heap.size, 0, none⟩) 3 3] 30)).cell? ⟨w9.heap.size + 1, 0, none⟩ = some (.int .i64 d) := by go_simp
        have p1 : ((w9.alloc (.cells #[.string r, .string s, .string t] 9)).alloc (.cells #[.int .i64 d, .int .i64 f, .slice (some ⟨w9.heap.size, 0, none⟩) 3 3] 30)).cell? ⟨w9.heap.size + 1, 1, none⟩ = some (.int .i64 f) := by go_simp
        have p2 : ((w9.alloc (.cells #[.string r, .string s, .string t] 9)).alloc (.cells #[.int .i64 d, .int .i64 f, .slice (some ⟨w9.heap.size, 0, none⟩) 3 3] 30)).cell? ⟨w9.heap.size + 1, 2, none⟩ = some (.slice (some ⟨w9.heap.size, 0, none⟩) 3 3) := by go_simp
        have HB10 := Lib.hid (below_alloc (below_alloc HB9.out (.cells #[.string r, .string s, .string t] 9)) (.cells #[.int .i64 d, .int .i64 f, .slice (some ⟨w9.heap.size, 0, none⟩) 3 3] 30))
        have hNb : N ≤ 32 := by have := HNN.out; omega
        have hq1 : ((N : Int) == (ls.length : Int) + (lr.length : Int)) = true := by have := HNN.out; simp; omega
        have hq2 : (2 * (N : Int) + 2 * ((d : Int) + (f : Int)) == 2 * (N : Int) + 2 * (s.size : Int)) = true := by have := HSZ.out; simp; omega
        generalize (w9.alloc (.cells #[.string r, .string s, .string t] 9)).alloc (.cells #[.int .i64 d, .int .i64 f, .slice (some ⟨w9.heap.size, 0, none⟩) 3 3] 30) = w10 at *
        generalize w9.heap.size = o9 at *
        clear HB9
        go_wp2_with fail
        refine (HCL.out _ _ _ HSR.out).mono ?_
        rintro e w11 ⟨rfl, hb11⟩
        have HSR2 := Lib.hid (HSR.out.on hb11)
        have HB11 := Lib.hid (below_thru HB10.out hb11)
        have r0 := cell_on hb11 p0
        have r1 := cell_on hb11 p1
        have r2 := cell_on hb11 p2
        clear p0 p1 p2 hb11 HSR HB10
        go_wp2_with fail
        refine (HCRS.out _).mono ?_
        rintro e w12 ⟨Ar, cr, rfl, ho12, hb12⟩
        have HSR3 := Lib.hid (HSR2.out.on hb12)
        have HB12 := Lib.hid (below_thru HB11.out hb12)
        have p0 := cell_on hb12 r0
        have p1 := cell_on hb12 r1
        have p2 := cell_on hb12 r2
        clear r0 r1 r2 hb12 ho12 HSR2 HB11
        go_wp2_with fail
        refine (HFE.out _ _ _ HSR3.out).mono ?_
        rintro e w13 ⟨rfl, hb13⟩
        have HB13 := Lib.hid (below_thru HB12.out hb13)
        clear p0 p1 p2 hb13 HSR3 HB12
        go_wp2_with fail
        go_ret
        exact ⟨rfl, HB13.out⟩

namespace fnCuts
set_option maxRecDepth 100000 in
theorem lifted (os : Os) (started : os.Started) (H : Type) (enc : TypeId × Value → H) :
    ReturnsInHanded {} Try.checked os 6 .any (Rows.fnCutsSpec.pre6 enc Try.prog Try.f6 Rows.fnCutsRow.domain false) (Rows.fnCutsSpec.post enc Try.prog Try.f6 false true false false) := by
  refine returnsInHanded_of_change (C := Try.checked) own started (by kernel_rfl) Try.func6
    (ChangeSpec.witness6 (enc := enc) (C := Try.checked) false ⟨#[], #[.slice none 0 0], []⟩ 8 (by kernel_rfl) (by kernel_rfl) (by kernel_rfl) (by kernel_rfl)) ?_
  intro W base args ds gs before hval0 hW hcnd _
  have hval : ∀ (j : Nat) t v, Try.f6.params[j]? = some t → args[j]? = some v → Value.okWide Try.prog W .any base t v := hval0
  have hW' := hW
  obtain ⟨p, q, hA0, hV, rfl, hfz, hnd⟩ := hW
  have hA : DataW.TrodAll enc Try.prog W 0 (fun _ => true) true Try.f6.params.toList args.toList ds p := hA0
  rw [Try.params6] at hA hval
  obtain ⟨v0, vs0, d0, ds0, p0, q0, hargs, rfl, rfl, h0, r0⟩ := trodAll_cons hA
  obtain ⟨rfl, rfl, rfl⟩ := trodAll_nil r0
  obtain rfl : args = #[v0] := by cases args; simp_all
  obtain ⟨A0, cp0, bs0, rfl, hz0⟩ := brow_of_arg Try.underlying22 Try.underlying5 (by kernel_rfl) (hval 0 22 v0 rfl rfl) h0
  clear hA0 hval0
  refine (fnCuts_walk A0 cp0 bs0 W hz0).mono fun e W' ⟨he, hg⟩ => ?_
  subst he
  exact ⟨_, rfl, law_post laidOut (by kernel_rfl) rfl (by kernel_rfl) Try.underlying4 rfl rfl rfl hW' hg⟩
theorem closed : joinedFacts Try.prog 6 Try.f6 Rows.fnCutsSpec Rows.fnCutsRow = true := by
  unfold joinedFacts
  repeat' (with_reducible refine andI ?_ ?_)
  all_goals (first | (with_reducible exact laidOut) | (with_reducible exact mayEnter) | (rw [liftsFinal]; rfl) | (rw [make_is]; rfl) | (as_aux_lemma => kernel_rfl))
theorem over : Rows.fnCutsRow.holds Try.pinned (OpenSpec.ofChange Rows.fnCutsSpec) :=
  OpenClaim.holds_of_wide 6 Try.f6 rfl rfl rfl rfl rfl rfl rfl ⟨rfl, rfl, rfl, rfl, rfl⟩ rfl rfl rfl rfl rfl (by kernel_rfl) Try.func6 closed
    (of_decide_eq_true (by kernel_rfl)) (by unfold Func.isWrapper; first | (rw [if_pos (by decide +kernel)]; kernel_rfl) | (rw [if_neg (by decide +kernel)]; exact ⟨rfl, rfl⟩))
    (fun os started H enc _ => lifted os started H enc)
/-- THE STATEMENT -/
theorem proved : Rows.FnCutsSaid := over
#print axioms proved
end fnCuts

end Go.Proofs.Ytpeopfkechbelaa
