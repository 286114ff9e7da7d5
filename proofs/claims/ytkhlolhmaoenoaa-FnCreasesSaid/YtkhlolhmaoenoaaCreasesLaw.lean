
/-
  The walk of the law FnCreases; no condition.
-/
import Derived.Test.YtkhlolhmaoenoaaDrawC
import Derived.Test.YtkhlolhmaoenoaaLawB
import Derived.Test.YtkhlolhmaoenoaaFolds
import Derived.Test.YtkhlolhmaoenoaaRead2
import Derived.Test.YtkhlolhmaoenoaaUncut
import Derived.Test.YtkhlolhmaoenoaaStr0
import Derived.BigRegion
namespace Go.Proofs.Ytkhlolhmaoenoaa
open Go.ChangeShapes Go.WideShapes Go.ChangeAt Go.RowKit Go.Deep Go.BigFrame
set_option linter.unusedVariables false
set_option linter.unusedSimpArgs false

theorem uncut_is {d f : Int} {ss : List ByteArray} {k : Nat} (h : cardOk d f ss = true) (hk : k + 1 < ss.length) : uncut d f ss (k : Int) = decide (ss.getD k .empty = ss.getD (k + 1) .empty) := by
  unfold uncut
  rw [h, show inB (k : Int) 0 ((ss.length : Int) - 2) = true from inB_iff.2 (by omega), Int.toNat_natCast]
  rfl
theorem text_cut (L : List UInt8) (i : Nat) (h : i < L.length) : (bs L).extract i (i + 1) = bs [at_ L i] := by
  apply ByteArray.ext
  apply Array.toList_inj.1
  simp only [ByteArray.data_extract, Array.toList_extract, List.extract_eq_take_drop]
  show (L.drop i).take (i + 1 - i) = [at_ L i]
  rw [show i + 1 - i = 1 by omega, List.drop_eq_getElem_cons h, List.take_succ_cons, List.take_zero]
  simp [at_, List.getD, h]
def pkS (s : ByteArray) : Int := (peaksOf s.data.toList : Nat)
def fdS (s : ByteArray) : Int := (foldsOf s.data.toList : Nat)

/-- what the law asks of one strip -/
theorem one_creases {s : ByteArray} {d f : Nat} (h : StripOf d f s.data.toList) (hd : 1 ≤ d ∧ d ≤ 8) (hf : 1 ≤ f ∧ f ≤ 8) :
    isStrip s.data.toList = true ∧ s.size = d + f ∧ cntS 1 s = pkS s ∧ cntS 2 s = pkS s + 1 ∧ fdS s = 2 * pkS s + 1 ∧ 0 ≤ pkS s ∧ pkS s ≤ 16 ∧ readCr (bs (ctext s.data.toList)) d f = s ∧ (bs (ctext s.data.toList)).size = s.size + 1 := by
  have hs := h.strip hd hf
  have hsz := h.2.2
  have a := creases_law hs
  have b := cntF_le 102 s.data.toList s.data.toList.length
  have c := readCr_ctext hs
  rw [h.1, h.2.1, bs_of] at c
  unfold peaksOf at a
  rw [size_list] at hsz a b
  refine ⟨hs, hsz, ?_, ?_, ?_, ?_, ?_, c, ?_⟩
  · unfold cntS pkS peaksOf
    rw [a.1, size_list]
  · unfold cntS pkS peaksOf
    rw [a.2.1, size_list]
    rfl
  · unfold fdS pkS peaksOf
    rw [a.2.2, size_list]
    omega
  · unfold pkS
    omega
  · unfold pkS peaksOf
    rw [size_list]
    omega
  · rw [bs_size, ctext_len, size_list]

theorem accS_congr {F G : ByteArray → Int} {ss : List ByteArray} (h : ∀ s ∈ ss, F s = G s) : ∀ k, k ≤ ss.length → accS F ss k = accS G ss k := by
  intro k
  induction k with
  | zero => intro _; rfl
  | succ k ih =>
    intro hk
    rw [accS_succ F ss k (by omega), accS_succ G ss k (by omega), ih (by omega), h _ (mem_getD (by omega))]
theorem accS_lin {F G : ByteArray → Int} {ss : List ByteArray} (a b : Int) (h : ∀ s ∈ ss, F s = a * G s + b) : ∀ k : Nat, k ≤ ss.length → accS F ss k = a * accS G ss k + b * (k : Int) := by
  intro k
  induction k with
  | zero => intro _; simp [accS]
  | succ k ih =>
    intro hk
    rw [accS_succ F ss k (by omega), accS_succ G ss k (by omega), ih (by omega), h _ (mem_getD (by omega)), Int.natCast_add, Int.mul_add, Int.mul_add]
    simp
    omega

set_option maxHeartbeats 2000000 in
set_option maxRecDepth 100000 in
theorem fnCreases_walk (A : Option Addr) (c : Nat) (cs : List UInt8) (w : World) (h : BRow w w.heap.size A cs) :
    Calls Try.prog 8 #[.slice A cs.length c] w fun e w' => e = .returned (.bool true) ∧ Below w.heap.size w w' := by
  by_cases hbig : 1048576 < cs.length
  · have HB := Lib.hid (fun w => big_any A c cs w)
    rw [decide_eq_true hbig] at HB
    go_enter Try.func8, Try.ntmps8
    go_wp2_with fail
    refine (HB.out _).mono ?_
    rintro e w1 ⟨rfl, rfl⟩
    go_wp2_with fail
    go_ret
    exact ⟨rfl, Below.refl _ _⟩
  have HB := Lib.hid (fun w => big_any A c cs w)
  rw [decide_eq_false hbig] at HB
  have HBR := Lib.hid h
  clear h hbig
  go_enter Try.func8, Try.ntmps8
  go_wp2_with fail
  refine (HB.out _).mono ?_
  rintro e w0 ⟨rfl, rfl⟩
  go_wp2_with fail
  refine (DrawCard_any A c cs _ HBR.out).mono ?_
  rintro e w1 ⟨d, f, ss, A', c', hd, hf, hl, hss, rfl, ho, hb⟩
  obtain ⟨hok, hsm⟩ := drawn_ok hd hf hl hss
  have HS := Lib.hid (fun (k : Nat) (hk : k < ss.length) => one_creases (hss _ (mem_getD hk)) (by omega) (by omega))
  have hone : ∀ s ∈ ss, cntS 1 s = pkS s ∧ cntS 2 s = 1 * pkS s + 1 ∧ fdS s = 2 * pkS s + 1 ∧ -16 ≤ pkS s ∧ pkS s ≤ 16 := fun s h => by
    have a := one_creases (hss s h) (by omega) (by omega)
    omega
  have HM := Lib.hid (show ∀ s ∈ ss, s.size ≤ 4294967296 from fun s h => Nat.le_trans (hsm s h) (by decide))
  have HBW := Lib.hid hb
  have HA := Lib.hid (CardAt.start (d := d) (f := f) (c := c') (SRow.of_own ho))
  have hc1 : countCr 1 d f ss = accS pkS ss ss.length := (show countCr 1 d f ss = accS (cntS 1) ss ss.length from if_pos hok).trans (accS_congr (fun s h => (hone s h).1) _ (Nat.le_refl _))
  have hc2 : countCr 2 d f ss = accS pkS ss ss.length + (ss.length : Int) := by
    rw [show countCr 2 d f ss = accS (cntS 2) ss ss.length from if_pos hok, accS_lin 1 1 (fun s h => (hone s h).2.1) _ (Nat.le_refl _)]
    omega
  have hfd : accS fdS ss ss.length = 2 * accS pkS ss ss.length + (ss.length : Int) := by
    rw [accS_lin 2 1 (fun s h => (hone s h).2.2.1) _ (Nat.le_refl _)]
    omega
  have HPB := Lib.hid (accS_small (F := pkS) (ss := ss) (B := 16) (fun s h => ⟨(hone s h).2.2.2.1, (hone s h).2.2.2.2⟩))
  have HFB := Lib.hid (accS_small (F := fdS) (ss := ss) (B := 33) (fun s h => by have := hone s h; have := one_creases (hss s h) (by omega) (by omega); omega))
  have HPS := Lib.hid (accS_succ pkS ss)
  have HFS := Lib.hid (accS_succ fdS ss)
  have HCC := Lib.hid (fun (w : World) hx => implCountCreases_any d f A' c' ss w hx HM.out (by omega) (by omega))
  rw [hc1, hc2] at HCC
  have HFD := Lib.hid hfd
  have HCT := Lib.hid (fun (k : Nat) (hk : k < ss.length) (w : World) hx => show Calls Try.prog 36 #[.agg #[.int .i64 d, .int .i64 f, .slice A' ss.length c'], .int .i64 k] w (fun e w' => e = .returned (.string (bs (ctext (ss.getD k .empty).data.toList))) ∧ Below w.heap.size w w') from by
    have h0 := implCreaseText_any d f A' c' ss (k : Int) w hx HM.out (by omega) (by omega) (by omega)
    rw [show creaseText d f ss (k : Int) = ctext (ss.getD k .empty).data.toList from if_pos (andI hok (inB_iff.2 (by omega)))] at h0
    exact h0)
  have HCA := Lib.hid (fun (k i : Nat) (hk : k < ss.length) (hi : i ≤ d + f) (w : World) hx => show Calls Try.prog 41 #[.agg #[.int .i64 d, .int .i64 f, .slice A' ss.length c'], .int .i64 k, .int .i64 i] w (fun e w' => e = .returned (.int .i64 (crease (ss.getD k .empty).data.toList i)) ∧ Below w.heap.size w w') from by
    have h0 := implCreaseAt_any d f A' c' ss (k : Int) (i : Int) w hx HM.out (by omega) (by omega) (by omega) (by omega)
    rw [show creaseAt d f ss (k : Int) (i : Int) = crease (ss.getD k .empty).data.toList i from if_pos (andI hok (andI (inB_iff.2 (by omega)) (inB_iff.2 (by omega))))] at h0
    exact h0)
  have HUC := Lib.hid (fun (k : Nat) (hk : k + 1 < ss.length) (w : World) hx => show Calls Try.prog 40 #[.agg #[.int .i64 d, .int .i64 f, .slice A' ss.length c'], .int .i64 k] w (fun e w' => e = .returned (.bool (decide (ss.getD k .empty = ss.getD (k + 1) .empty))) ∧ Below w.heap.size w w') from by
    have h0 := implIsUncut_any d f A' c' ss (k : Int) w hx HM.out (by omega) (by omega) (by omega)
    rw [uncut_is hok (by omega)] at h0
    exact h0)
  have HRD := Lib.hid (fun w => implReadCreases_any (bs [46, 46]) 1 1 w (by rw [bs_size]; decide) (by decide) (by decide))
  rw [readCr_dots] at HRD
  clear hb ho hss hok hsm hone hc1 hc2 hfd
  go_upto_region 4 with (fail)
  generalize w1.alloc (.cells #[.int .i64 d, .int .i64 f, .slice A' ss.length c'] 26) = w2 at *
  obtain ⟨p0, p1, p2, prow, pb, plt⟩ := HA.out
  clear prow pb
  go_wp2_with fail
  refine (HCC.out _ HA.out.full).mono ?_
  rintro e w3 ⟨rfl, hb3⟩
  have HA3 := Lib.hid (HA.out.on hb3)
  clear hb3 HA p0 p1 p2 plt
  go_wp2_with fail
  go_loopw [6, 7, 8] (fun pv fv kv wr => ∃ k : Nat, k ≤ ss.length ∧ kv = .int .i64 k ∧ pv = .int .i64 (accS pkS ss k) ∧ fv = .int .i64 (accS fdS ss k) ∧ CardAt w1 wr d f A' c' ss) (fun _ _ kv _ => ss.length - (intOf kv).toNat)
  case atStart => exact ⟨0, Nat.zero_le _, rfl, rfl, rfl, HA3.out⟩
  case round =>
    obtain ⟨k, hk, rfl, rfl, rfl, hca⟩ := hrel
    obtain ⟨wo, hwo⟩ : ∃ wo, wo = wr := ⟨_, rfl⟩
    subst hwo
    have HA := Lib.hid hca
    clear HA3
    obtain ⟨p0, p1, p2, prow, pb, plt⟩ := hca
    clear prow pb plt
    have hpb := HPB.out k hk
    have hfb := HFB.out k hk
    by_cases hlt : k < ss.length
    · have hi : (k : Int) < (ss.length : Int) := by omega
      obtain ⟨hst, hsz, ha1, ha2, ha3, hP0, hP1, hrc, hTz⟩ := HS.out k hlt
      clear ha1 ha2 ha3
      have hpb2 := HPB.out (k + 1) hlt
      have hfb2 := HFB.out (k + 1) hlt
      have HPK := Lib.hid (HPS.out k hlt)
      have HFK := Lib.hid (HFS.out k hlt)
      rw [HPK.out] at hpb2
      rw [HFK.out] at hfb2
      have hmk := HM.out _ (mem_getD hlt)
      have HTX := Lib.hid (fun w hx => HCT.out k hlt w hx)
      have HCK := Lib.hid (fun (i : Nat) hi w hx => HCA.out k i hlt hi w hx)
      have HPC := Lib.hid (fun w => show Calls Try.prog 37 #[.string (ss.getD k .empty)] w (fun e w' => e = .returned (.int .i64 (pkS (ss.getD k .empty))) ∧ Below w.heap.size w w') from specCountPeaks_any _ w hmk hst)
      have HFC := Lib.hid (fun w => show Calls Try.prog 38 #[.string (ss.getD k .empty)] w (fun e w' => e = .returned (.int .i64 (fdS (ss.getD k .empty))) ∧ Below w.heap.size w w') from specCountFolds_any _ w hmk hst)
      have HRC := Lib.hid (fun w => implReadCreases_any (bs (ctext (ss.getD k .empty).data.toList)) d f w (by omega) (by omega) (by omega))
      rw [hrc] at HRC
      have HCUT := Lib.hid (fun (i : Nat) (h : i ≤ (ss.getD k .empty).size) => show (bs (ctext (ss.getD k .empty).data.toList)).extract i (i + 1) = bs [cl (crease (ss.getD k .empty).data.toList i)] from by
        rw [text_cut _ i (by rw [ctext_len, size_list]; omega), ctext_at _ i (by rw [size_list]; exact h)])
      have HCI := Lib.hid (fun (i : Nat) => crease_in (ss.getD k .empty).data.toList i)
      obtain ⟨b1, o1, rfl, hb1, hc1⟩ := HA.out.at_ hlt
      have HPREV := Lib.hid (fun (h : 0 < k) (wx : World) (hx : CardAt w1 wx d f (some ⟨b1, o1, none⟩) c' ss) => show wx.cell? ⟨b1, o1 + (k - 1), none⟩ = some (.string (ss.getD (k - 1) .empty)) from by
        obtain ⟨b2, o2, e2, _, h2⟩ := hx.at_ (k := k - 1) (by omega)
        obtain ⟨rfl, rfl⟩ : b1 = b2 ∧ o1 = o2 := by simpa using e2
        exact h2)
      have HUK := Lib.hid (fun (h : 0 < k) (w : World) hx => show Calls Try.prog 40 #[.agg #[.int .i64 d, .int .i64 f, .slice (some ⟨b1, o1, none⟩) ss.length c'], .int .i64 (k - 1 : Nat)] w (fun e w' => e = .returned (.bool (decide (ss.getD (k - 1) .empty = ss.getD k .empty))) ∧ Below w.heap.size w w') from by
        have h0 := HUC.out (k - 1) (by omega) w hx
        rw [show k - 1 + 1 = k by omega] at h0
        exact h0)
      generalize hT : bs (ctext (ss.getD k .empty).data.toList) = T at *
      generalize ss.getD (k - 1) .empty = sp at *
      generalize ss.getD k .empty = s at *
      generalize accS pkS ss k = pk at *
      generalize accS fdS ss k = fk at *
      generalize hPs : pkS s = P at *
      generalize hFs : fdS s = F at *
      clear hT hPs hFs hst hrc hmk
      go_wp2_with fail
      refine (HTX.out _ HA.out.full).mono ?_
      rintro e w4 ⟨rfl, hb4⟩
      have HA4 := Lib.hid (HA.out.on hb4)
      clear hb4 HA p0 p1 p2 hc1
      go_wp2_with fail
      refine (HPC.out _).mono ?_
      rintro e w5 ⟨rfl, hb5⟩
      have HA5 := Lib.hid (HA4.out.on hb5)
      clear hb5 HA4
      go_wp2_with fail
      refine (HFC.out _).mono ?_
      rintro e w6 ⟨rfl, hb6⟩
      have HA6 := Lib.hid (HA5.out.on hb6)
      clear hb6 HA5
      obtain ⟨p0, p1, p2, prow, pb, plt⟩ := HA6.out
      have q0 := InW.cell plt p0
      have q1 := InW.cell plt p1
      have q2 := InW.cell plt p2
      clear prow pb
      have hTs : ((T.size : Int) != (s.size : Int) + 1) = false := by rw [hTz]; simp
      have HTZ := Lib.hid hTz
      have HSZ := Lib.hid hsz
      have hs100 : s.size ≤ 100 := by omega
      have hT100 : T.size ≤ 100 := by omega
      clear hTz hsz
      by_cases h0 : k = 0
      · have hk0 : ¬ (0 : Int) < (k : Int) := by omega
        have hkn : ¬ 0 < k := by omega
        have hkn' : decide (0 < k) = false := by simp; omega
        clear HPREV HUK h0
        go_wp2_with fail
        refine wp_region_in (by kernel_rfl) (by kernel_rfl) ?_
        repeat (go_big_quiet_step ((first | (go_at_call 39; refine (HRC.out _).mono ?_; rintro e w' ⟨rfl, hb⟩; exact ⟨rfl, ⟨_, below_thru (InW.on _) hb⟩, rfl⟩))))
        refine wpQuiet_nil ?_
        intro w2_ hw2_
        obtain ⟨⟨w7, hb7⟩, rfl⟩ := hw2_
        have HA7 := Lib.hid (HA6.out.on hb7)
        clear hb7 HA6 p0 p1 p2 plt q0 q1 q2
        go_wp2_with fail
        go_loopw [11] (fun iv wr => ∃ i : Nat, i ≤ T.size ∧ iv = .int .i64 i ∧ CardAt w1 wr d f (some ⟨b1, o1, none⟩) c' ss) (fun iv _ => T.size - (intOf iv).toNat)
        case atStart => exact ⟨0, Nat.zero_le _, rfl, HA7.out⟩
        case round =>
          obtain ⟨i, hi2, rfl, hca2⟩ := hrel
          have HA8 := Lib.hid hca2
          obtain ⟨p0, p1, p2, prow, pb, plt⟩ := hca2
          clear prow pb plt HA7
          by_cases hlt2 : i < T.size
          · have hii : (i : Int) < (T.size : Int) := by omega
            have HCKI := Lib.hid (fun w hx => HCK.out i (by have a := HTZ.out; have b := HSZ.out; omega) w hx)
            have hcut := HCUT.out i (by have a := HTZ.out; omega)
            have hxb := HCI.out i
            have hlet := fun W => run_letter (crease s.data.toList i) hxb W
            have hsl := fun W => run_sl T (i : Int) ((i : Int) + 1) i (i + 1) rfl (by omega) (by omega) (by omega) W
            rw [hcut] at hsl
            generalize crease s.data.toList (i : Int) = x at *
            obtain ⟨u, hu⟩ : ∃ u, u = bs [cl x] := ⟨_, rfl⟩
            rw [← hu] at hsl hlet
            clear hcut hu
            have hx0 : ¬ x < 0 := by omega
            have hx2 : ¬ 2 < x := by omega
            have hx0' : decide (x < 0) = false := by simp; omega
            have hx2' : decide (2 < x) = false := by simp; omega
            go_wp2_with fail
            refine (HCKI.out _ HA8.out.full).mono ?_
            rintro e w8 ⟨rfl, hb8⟩
            have HA9 := Lib.hid (HA8.out.on hb8)
            clear hb8 HA8 p0 p1 p2
            go_wp2_with fail
            go_quiet (fail)
            have HA10 := Lib.hid (HA9.out.drewN nq)
            go_wp2_with fail
            go_roundw
            case rel => exact ⟨i + 1, by omega, by go_num, HA10.out⟩
            case measure => simp [intOf]; omega
          · obtain rfl : i = T.size := by omega
            clear p0 p1 p2
            go_wp2_with fail
            go_roundw
            case rel => exact ⟨k + 1, by omega, by go_num, by rw [HPK.out], by rw [HFK.out], HA8.out⟩
            case measure => simp [intOf]; omega
      · have hk0 : (0 : Int) < (k : Int) := by omega
        have hkn : 0 < k := by omega
        have hkn' : decide (0 < k) = true := by simp; omega
        have hkm : (k : Int) - 1 = ((k - 1 : Nat) : Int) := by omega
        have hk1 : ((k - 1 : Nat) : Int) < (ss.length : Int) := by omega
        have HUKK := Lib.hid (fun w hx => HUK.out (by omega) w hx)
        have q3 := InW.cell (Nat.lt_trans hb1 plt) (HPREV.out (by omega) _ HA6.out)
        clear HPREV HUK
        obtain ⟨k', hk'⟩ : ∃ k', k' = k - 1 := ⟨_, rfl⟩
        rw [← hk'] at hkm hk1 HUKK q3
        clear hk'
        by_cases he : sp = s
        · rw [decide_eq_true he] at HUKK
          subst he
          go_wp2_with fail
          refine wp_region_in (by kernel_rfl) (by kernel_rfl) ?_
          repeat (go_big_quiet_step ((first | (go_at_call 39; refine (HRC.out _).mono ?_; rintro e w' ⟨rfl, hb⟩; exact ⟨rfl, ⟨_, below_thru (InW.on _) hb⟩, rfl⟩) | (go_at_call 40; refine (HUKK.out _ (HA6.out.full.on (InW.on _))).mono ?_; rintro e w' ⟨rfl, hb⟩; exact ⟨rfl, ⟨_, below_thru (InW.on _) hb⟩, rfl⟩))))
          refine wpQuiet_nil ?_
          intro w2_ hw2_
          obtain ⟨⟨w7, hb7⟩, rfl⟩ := hw2_
          have HA7 := Lib.hid (HA6.out.on hb7)
          clear hb7 HA6 p0 p1 p2 plt q0 q1 q2 q3
          go_wp2_with fail
          go_loopw [11] (fun iv wr => ∃ i : Nat, i ≤ T.size ∧ iv = .int .i64 i ∧ CardAt w1 wr d f (some ⟨b1, o1, none⟩) c' ss) (fun iv _ => T.size - (intOf iv).toNat)
          case atStart => exact ⟨0, Nat.zero_le _, rfl, HA7.out⟩
          case round =>
            obtain ⟨i, hi2, rfl, hca2⟩ := hrel
            have HA8 := Lib.hid hca2
            obtain ⟨p0, p1, p2, prow, pb, plt⟩ := hca2
            clear prow pb plt HA7
            by_cases hlt2 : i < T.size
            · have hii : (i : Int) < (T.size : Int) := by omega
              have HCKI := Lib.hid (fun w hx => HCK.out i (by have a := HTZ.out; have b := HSZ.out; omega) w hx)
              have hcut := HCUT.out i (by have a := HTZ.out; omega)
              have hxb := HCI.out i
              have hlet := fun W => run_letter (crease sp.data.toList i) hxb W
              have hsl := fun W => run_sl T (i : Int) ((i : Int) + 1) i (i + 1) rfl (by omega) (by omega) (by omega) W
              rw [hcut] at hsl
              generalize crease sp.data.toList (i : Int) = x at *
              obtain ⟨u, hu⟩ : ∃ u, u = bs [cl x] := ⟨_, rfl⟩
              rw [← hu] at hsl hlet
              clear hcut hu
              have hx0 : ¬ x < 0 := by omega
              have hx2 : ¬ 2 < x := by omega
              have hx0' : decide (x < 0) = false := by simp; omega
              have hx2' : decide (2 < x) = false := by simp; omega
              go_wp2_with fail
              refine (HCKI.out _ HA8.out.full).mono ?_
              rintro e w8 ⟨rfl, hb8⟩
              have HA9 := Lib.hid (HA8.out.on hb8)
              clear hb8 HA8 p0 p1 p2
              go_wp2_with fail
              go_quiet (fail)
              have HA10 := Lib.hid (HA9.out.drewN nq)
              go_wp2_with fail
              go_roundw
              case rel => exact ⟨i + 1, by omega, by go_num, HA10.out⟩
              case measure => simp [intOf]; omega
            · obtain rfl : i = T.size := by omega
              clear p0 p1 p2
              go_wp2_with fail
              go_roundw
              case rel => exact ⟨k + 1, by omega, by go_num, by rw [HPK.out], by rw [HFK.out], HA8.out⟩
              case measure => simp [intOf]; omega
        · rw [decide_eq_false he] at HUKK
          have hse := txt_ne (s := s) (t := sp) (fun e => he e.symm)
          go_wp2_with fail
          refine wp_region_in (by kernel_rfl) (by kernel_rfl) ?_
          repeat (go_big_quiet_step ((first | (go_at_call 39; refine (HRC.out _).mono ?_; rintro e w' ⟨rfl, hb⟩; exact ⟨rfl, ⟨_, below_thru (InW.on _) hb⟩, rfl⟩) | (go_at_call 40; refine (HUKK.out _ (HA6.out.full.on (InW.on _))).mono ?_; rintro e w' ⟨rfl, hb⟩; exact ⟨rfl, ⟨_, below_thru (InW.on _) hb⟩, rfl⟩))))
          refine wpQuiet_nil ?_
          intro w2_ hw2_
          obtain ⟨⟨w7, hb7⟩, rfl⟩ := hw2_
          have HA7 := Lib.hid (HA6.out.on hb7)
          clear hb7 HA6 p0 p1 p2 plt q0 q1 q2 q3
          go_wp2_with fail
          go_loopw [11] (fun iv wr => ∃ i : Nat, i ≤ T.size ∧ iv = .int .i64 i ∧ CardAt w1 wr d f (some ⟨b1, o1, none⟩) c' ss) (fun iv _ => T.size - (intOf iv).toNat)
          case atStart => exact ⟨0, Nat.zero_le _, rfl, HA7.out⟩
          case round =>
            obtain ⟨i, hi2, rfl, hca2⟩ := hrel
            have HA8 := Lib.hid hca2
            obtain ⟨p0, p1, p2, prow, pb, plt⟩ := hca2
            clear prow pb plt HA7
            by_cases hlt2 : i < T.size
            · have hii : (i : Int) < (T.size : Int) := by omega
              have HCKI := Lib.hid (fun w hx => HCK.out i (by have a := HTZ.out; have b := HSZ.out; omega) w hx)
              have hcut := HCUT.out i (by have a := HTZ.out; omega)
              have hxb := HCI.out i
              have hlet := fun W => run_letter (crease s.data.toList i) hxb W
              have hsl := fun W => run_sl T (i : Int) ((i : Int) + 1) i (i + 1) rfl (by omega) (by omega) (by omega) W
              rw [hcut] at hsl
              generalize crease s.data.toList (i : Int) = x at *
              obtain ⟨u, hu⟩ : ∃ u, u = bs [cl x] := ⟨_, rfl⟩
              rw [← hu] at hsl hlet
              clear hcut hu
              have hx0 : ¬ x < 0 := by omega
              have hx2 : ¬ 2 < x := by omega
              have hx0' : decide (x < 0) = false := by simp; omega
              have hx2' : decide (2 < x) = false := by simp; omega
              go_wp2_with fail
              refine (HCKI.out _ HA8.out.full).mono ?_
              rintro e w8 ⟨rfl, hb8⟩
              have HA9 := Lib.hid (HA8.out.on hb8)
              clear hb8 HA8 p0 p1 p2
              go_wp2_with fail
              go_quiet (fail)
              have HA10 := Lib.hid (HA9.out.drewN nq)
              go_wp2_with fail
              go_roundw
              case rel => exact ⟨i + 1, by omega, by go_num, HA10.out⟩
              case measure => simp [intOf]; omega
            · obtain rfl : i = T.size := by omega
              clear p0 p1 p2
              go_wp2_with fail
              go_roundw
              case rel => exact ⟨k + 1, by omega, by go_num, by rw [HPK.out], by rw [HFK.out], HA8.out⟩
              case measure => simp [intOf]; omega
    · obtain rfl : k = ss.length := by omega
      have hfd : accS fdS ss ss.length = accS pkS ss ss.length + (accS pkS ss ss.length + (ss.length : Int)) := by rw [HFD.out]; omega
      rw [hfd]
      have HRD2 := Lib.hid (fun w => show Calls Try.prog 39 #[.string ⟨#[46, 46]⟩, .int .i64 1, .int .i64 1] w (fun e w' => e = .returned (.string ⟨#[]⟩) ∧ Below w.heap.size w w') from HRD.out w)
      generalize accS pkS ss ss.length = pk at *
      generalize accS fdS ss ss.length = fk at *
      have hlen := hl
      have q2 := InW.cell HA.out.lt p2
      have e1 : (pk == pk) = true := by simp
      have e2 : (pk + (pk + (ss.length : Int)) == pk + (pk + (ss.length : Int))) = true := by simp
      have e3 : (pk + (ss.length : Int) == pk + (ss.length : Int)) = true := by simp
      have HBB := Lib.hid (below_thru HBW.out HA.out.below)
      clear p0 p1 hfd hfb
      go_wp2_with fail
      refine (HRD2.out _).mono ?_
      rintro e w7 ⟨rfl, hb7⟩
      go_wp2_with fail
      go_ret
      exact ⟨rfl, below_thru HBB.out hb7⟩

end Go.Proofs.Ytkhlolhmaoenoaa
