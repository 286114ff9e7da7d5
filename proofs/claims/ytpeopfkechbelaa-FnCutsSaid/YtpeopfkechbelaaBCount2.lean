
/-
  The contracts of the program's BridgeCount; no condition beyond the length of the text.
-/
import Derived.Test.YtpeopfkechbelaaWays
import Derived.Test.YtpeopfkechbelaaBCount
namespace Go.Proofs.Ytpeopfkechbelaa
open Go.ChangeShapes Go.WideShapes Go.ChangeAt Go.RowKit Go.Deep Go.BigFrame
set_option linter.unusedVariables false


set_option maxHeartbeats 400000 in
set_option maxRecDepth 8000 in
theorem implPathsAbove_any (s : ByteArray) (w : World) (hp1 : dn s.data.toList + fw s.data.toList = s.size) (hp3 : dn s.data.toList ≤ 8) (hp5 : fw s.data.toList ≤ 8) : Calls Try.prog 72 #[.string s] w fun e w' => e = .returned (.int .i64 (pathsAbove s.data.toList)) ∧ Below w.heap.size w w' := by
  obtain ⟨i0, hi0, hz0, hz1, hz2⟩ := info_parts intInfo
  have hs : s.size ≤ 4294967296 := by omega
  have hfo := fun k w (hk : k ≤ s.size) => forwards_any s k w hs hk
  have hcf := fun w => Try.strings_Count_one s 102 w
  rw [show Lib.countByte s.data.toList 102 = fw s.data.toList from rfl] at hcf
  unfold pathsAbove
  rw [size_list]
  obtain ⟨l, hl⟩ : ∃ l, l = s.data.toList := ⟨_, rfl⟩
  have hsz : l.length = s.size := by rw [hl, size_list]
  rw [← hl] at hcf hfo hp1 hp3 hp5 ⊢
  have hpm : s.size ≤ 16 := by omega
  have HL := Lib.hid hl
  have HZ := Lib.hid hsz
  have HF := Lib.hid hcf
  have HFO := Lib.hid hfo
  clear hcf hfo hl hsz
  generalize dn l = d at *
  obtain ⟨f, hff⟩ : ∃ f, f = fw l := ⟨_, rfl⟩
  rw [← hff] at HF hp1 hp5 ⊢
  obtain ⟨m, hm⟩ : ∃ m, m = f + 1 := ⟨_, rfl⟩
  have hmi : (f : Int) + 1 = (m : Int) := by omega
  have hdi : (s.size : Int) - (f : Int) = (d : Int) := by omega
  have HFF := Lib.hid hff
  have hmb : m ≤ 9 := by omega
  have hmp : 0 < m := by omega
  have HM := Lib.hid hm
  clear hff hm
  go_enter Try.func72, Try.ntmps72
  go_wp2_with fail
  refine (HF.out _).mono ?_
  rintro e w1 ⟨rfl, hw⟩
  have hw2 := hw.symm
  subst hw2
  go_wp2_with (at_make; refine wpList_make_full _ rfl (.tmp 11) (.tmp 11) 51 rfl w.heap.size 3 i0 (.int .i64 0) 1 Try.underlying51 hi0 hz0 hz1 .i64 .i64 _ _ m rfl rfl rfl rfl (by rw [hz2]; omega) (by unfold maxLen; omega) (Nat.le_refl _) ?_)
  intro w1 hown hgr
  have hb1 : Below w.heap.size w w1 := (Below.refl _ _).grown hgr (Nat.le_refl _) (by simp)
  rw [made_list] at hown
  have hown2 : w1.ownsRow w.heap.size 3 1 (.slice (some ⟨w.heap.size, 0, none⟩) m m) m ((List.replicate m (0 : Int)).map (Value.int .i64)) := by simpa using hown
  have hc0 := owned_cell hown2 0 hmp
  have hf0 := hown2.frozenAt 0
  have HO := Lib.hid hown2
  have HB := Lib.hid hb1
  clear hown hown2 hb1 hgr
  go_wp2_with fail
  go_loopw [4, 5] (fun ws i wr => ∃ k g : Nat, k ≤ s.size ∧ i = .int .i64 (k + 1 : Nat) ∧ ws = .slice (some ⟨g, 0, none⟩) m m ∧ wr.ownsRow w.heap.size 3 1 (.slice (some ⟨g, 0, none⟩) m m) m ((part m (rowF l d k) m).map (Value.int .i64)) ∧ Below w.heap.size w wr) (fun _ i _ => s.size + 1 - (intOf i).toNat)
  case atStart => exact ⟨0, w.heap.size, Nat.zero_le _, rfl, rfl, by
    have := (HO.out.stored 0 (.int .i64 1)).1
    have e := part_first l d m f (by omega) (by rw [HM.out]; exact Nat.le_refl _)
    rw [map_set_int, e, ← HM.out] at this
    exact this, HB.out.setCell (Nat.le_refl _) _⟩
  case round =>
    obtain ⟨k, g, hk, rfl, rfl, hown, hbr⟩ := hrel
    by_cases hlt : k < s.size
    · have hki : (k : Int) + 1 ≤ (s.size : Int) := by omega
      obtain ⟨L1, hL1⟩ : ∃ L1, L1 = fw (l.take (k + 1)) := ⟨_, rfl⟩
      have hL1k : L1 ≤ k + 1 := by rw [hL1]; exact fw_take_le l _
      have HFK := Lib.hid (fun w => HFO.out (k + 1) w (by omega))
      rw [← hL1] at HFK
      have H3 := Lib.hid hown
      have H4 := Lib.hid hbr
      have HL1 := Lib.hid hL1
      clear hown hbr HO HB hc0 hf0 hL1
      have hsz : w.heap.size ≤ wr.heap.size := H4.out.size
      have hgl := (H3.out.lt g rfl).2
      go_wp2_with (at_make; refine wpList_make_full _ rfl (.tmp 22) (.tmp 22) 51 rfl wr.heap.size 3 i0 (.int .i64 0) 1 Try.underlying51 hi0 hz0 hz1 .i64 .i64 _ _ m rfl rfl rfl rfl (by rw [hz2]; omega) (by unfold maxLen; omega) (Nat.le_refl _) ?_)
      intro w2 hown2 hgr2
      have hb2 : Below wr.heap.size wr w2 := (Below.refl _ _).grown hgr2 (Nat.le_refl _) (by simp)
      rw [made_list] at hown2
      have hown3 : w2.ownsRow wr.heap.size 3 1 (.slice (some ⟨wr.heap.size, 0, none⟩) m m) m ((part m (rowF l d (k + 1)) 0).map (Value.int .i64)) := by rw [part_zero]; simpa using hown2
      have HO2 := Lib.hid hown3
      have HB2 := Lib.hid hb2
      clear hown2 hown3 hb2 hgr2
      go_wp2_with fail
      obtain ⟨wo, hwo⟩ : ∃ wo, wo = wr := ⟨wr, rfl⟩
      subst hwo
      go_loopw [26] (fun x wi => ∃ j : Nat, j ≤ m ∧ x = .int .i64 j ∧ wi.ownsRow wo.heap.size 3 1 (.slice (some ⟨wo.heap.size, 0, none⟩) m m) m ((part m (rowF l d (k + 1)) j).map (Value.int .i64)) ∧ Below wo.heap.size wo wi) (fun x _ => m - (intOf x).toNat)
      case atStart => exact ⟨0, Nat.zero_le _, rfl, HO2.out, HB2.out⟩
      case round =>
        obtain ⟨j, hj, rfl, howi, hbi⟩ := hrel
        by_cases hjm : j < m
        · have hjf : (j : Int) < (m : Int) := by omega
          have hjm2 : j < m := hjm
          have ej := part_get (m := m) (F := rowF l d k) (j := m) hjm2 hjm
          have cj := cell_on hbi (owned_cell H3.out j hjm2)
          rw [ej] at cj
          have vj := rowF_16 l d k j (by omega)
          have cn := owned_cell howi j hjm2
          have fn := howi.frozenAt j
          have H5 := Lib.hid howi
          have H6 := Lib.hid hbi
          have HY := Lib.hid (fun h1 h2 => rowF_yes (l := l) (d := d) (k := k) (x := j) h1 h2)
          have HN := Lib.hid (fun h => rowF_no (l := l) (d := d) (k := k) (x := j) h)
          rw [← HL1.out] at HY HN
          generalize (part m (rowF l d (k + 1)) j).getD j 0 = u at *
          have HP := Lib.hid (part_set (m := m) (F := rowF l d (k + 1)) hjm2)
          have HK := Lib.hid (fun h => part_skip (m := m) (F := rowF l d (k + 1)) (j := j) h)
          by_cases hc1 : (j : Int) < (L1 : Int)
          · clear cj cn fn howi hbi ej
            go_wp2_with fail
            refine (HFK.out _).mono ?_
            rintro e w3 ⟨rfl, rfl⟩
            go_wp2_with fail
            go_roundw
            case rel => exact ⟨j + 1, by omega, by go_num, by rw [← HK.out (HN.out (by omega))]; exact H5.out, H6.out⟩
            case measure => simp [intOf]; omega
          · by_cases hc2 : (d : Int) < (k : Int) + 1 - (j : Int)
            · clear cj cn fn howi hbi ej
              go_wp2_with fail
              refine (HFK.out _).mono ?_
              rintro e w3 ⟨rfl, rfl⟩
              go_wp2_with fail
              go_roundw
              case rel => exact ⟨j + 1, by omega, by go_num, by rw [← HK.out (HN.out (by omega))]; exact H5.out, H6.out⟩
              case measure => simp [intOf]; omega
            · by_cases hj0 : j = 0
              · have hjp : ¬ (0 : Int) < (j : Int) := by omega
                generalize rowF l d k j = v at *
                have HJ0 := Lib.hid hj0
                clear howi hbi ej hj0
                go_wp2_with fail
                refine (HFK.out _).mono ?_
                rintro e w3 ⟨rfl, rfl⟩
                go_wp2_with fail
                go_roundw
                case rel =>
                  have s1 := (H5.out.stored j (.int .i64 v)).1
                  have e := HY.out (by omega) (by omega)
                  rw [if_pos HJ0.out, Int.add_zero] at e
                  rw [map_set_int, ← e, HP.out] at s1
                  exact ⟨j + 1, by omega, by go_num, by rw [← e]; exact s1, H6.out.setCell (Nat.le_refl _) _⟩
                case measure => simp [intOf]; omega
              · have hjp : (0 : Int) < (j : Int) := by omega
                obtain ⟨jp, hjp2⟩ : ∃ jp, jp = j - 1 := ⟨_, rfl⟩
                rw [← hjp2] at HY
                have ej1 := part_get (m := m) (F := rowF l d k) (j := m) (x := jp) (by omega) (by omega)
                have cj1 := cell_on hbi (owned_cell H3.out jp (by omega))
                rw [ej1] at cj1
                have vj1 := rowF_16 l d k jp (by omega)
                have hj1 : (j : Int) - 1 = (jp : Int) := by omega
                have hjp3 : jp < m := by omega
                have HJ := Lib.hid hjp2
                have HJ0 := Lib.hid hj0
                clear hjp2
                generalize rowF l d k j = v at *
                generalize rowF l d k jp = v1 at *
                clear howi hbi ej ej1
                have s1 := Lib.hid (H5.out.stored j (.int .i64 v)).1
                have b1 := Lib.hid (H6.out.setCell (p := ⟨wo.heap.size, j, none⟩) (Nat.le_refl _) (.int .i64 v))
                have k1 := Lib.hid ((World.cell?_setCell_other wr ⟨wo.heap.size, j, none⟩ ⟨g, jp, none⟩ (.int .i64 v) (fun e => absurd (congrArg Addr.block e) (by simp only; omega))).trans cj1)
                have k2 := Lib.hid (World.cell?_setCell_same wr ⟨wo.heap.size, j, none⟩ (.int .i64 v) cn)
                have k3 := Lib.hid ((World.frozen?_setCell wr ⟨wo.heap.size, j, none⟩ ⟨wo.heap.size, j, none⟩ (.int .i64 v)).trans fn)
                go_wp2_with fail
                refine (HFK.out _).mono ?_
                rintro e w3 ⟨rfl, rfl⟩
                go_wp2_with fail
                clear cj cn cj1 fn
                generalize hwz : wr.setCell ⟨wo.heap.size, j, none⟩ (.int .i64 v) = wz at *
                have c1 := k1.out
                have c2 := k2.out
                have c3 := k3.out
                clear hwz k1 k2 k3
                go_region
                go_wp2_with fail
                go_roundw
                case rel =>
                  have s2 := (s1.out.stored j (.int .i64 (v + v1))).1
                  have e := HY.out (by omega) (by omega)
                  rw [if_neg HJ0.out] at e
                  have e2 : ((((part m (rowF l d (k + 1)) j).map (Value.int .i64)).set j (.int .i64 v)).set j (.int .i64 (v + v1))) = (part m (rowF l d (k + 1)) (j + 1)).map (Value.int .i64) := by
                    rw [List.set_set, map_set_int, ← e, HP.out]
                  rw [e2] at s2
                  exact ⟨j + 1, by omega, by go_num, s2.drew, (b1.out.setCell (Nat.le_refl _) _).drew⟩
                case measure => simp [intOf]; omega
        · have hjf : ¬ (j : Int) < (m : Int) := by omega
          have hjm2 : j = m := by omega
          have H5 := Lib.hid howi
          have H6 := Lib.hid hbi
          have HJM := Lib.hid hjm2
          clear howi hbi hjm hjm2
          go_wp2_with fail
          go_roundw
          case rel =>
            refine ⟨k + 1, wo.heap.size, by omega, by go_num, rfl, ?_, below_thru H4.out H6.out⟩
            have := H5.out
            rw [HJM.out] at this
            exact own_mono this hsz
          case measure => simp [intOf]; omega
    · have hks : k = s.size := by omega
      have hfm2 : f < m := by rw [HM.out]; exact Nat.lt_succ_self f
      have cf := owned_cell hown f hfm2
      rw [part_get hfm2 hfm2, hks] at cf
      have hfi : (f : Int) < (m : Int) := by omega
      have hki : ¬ (k : Int) + 1 ≤ (s.size : Int) := by omega
      clear hown HO HB hc0 hf0
      go_wp2_with fail
      go_ret
      exact ⟨rfl, hbr⟩


theorem isGlued_any (s : ByteArray) (fr to : Int) (w : World) (hs : s.size ≤ 4294967296) : Calls Try.prog 67 #[.string s, .int .i64 fr, .int .i64 to] w fun e w' => e = .returned (.bool (glued s.data.toList fr to)) ∧ w = w' := by
  have hst := fun w => implIsStrip_any s w hs
  have hg : glued s.data.toList fr to = (isStrip s.data.toList && (decide (0 ≤ fr) && (decide (fr < to) && decide (to ≤ (s.size : Int))))) := by unfold glued; rw [size_list]
  rw [hg]
  have HST := Lib.hid hst
  clear hg hst
  generalize isStrip s.data.toList = b at *
  cases b
  · go_enter Try.func67, Try.ntmps67
    go_wp2_with fail
    refine (HST.out _).mono ?_
    rintro e w1 ⟨rfl, rfl⟩
    go_wp2_with fail
    go_ret
    exact ⟨rfl, rfl⟩
  by_cases h1 : 0 ≤ fr
  case neg =>
    have e1 : decide (0 ≤ fr) = false := by simpa using h1
    rw [e1]
    go_enter Try.func67, Try.ntmps67
    go_wp2_with fail
    refine (HST.out _).mono ?_
    rintro e w1 ⟨rfl, rfl⟩
    go_wp2_with fail
    go_ret
    exact ⟨rfl, rfl⟩
  by_cases h2 : fr < to
  case neg =>
    have e1 : decide (0 ≤ fr) = true := by simpa using h1
    have e2 : decide (fr < to) = false := by simpa using h2
    rw [e1, e2]
    go_enter Try.func67, Try.ntmps67
    go_wp2_with fail
    refine (HST.out _).mono ?_
    rintro e w1 ⟨rfl, rfl⟩
    go_wp2_with fail
    go_ret
    exact ⟨rfl, rfl⟩
  have e1 : decide (0 ≤ fr) = true := by simpa using h1
  have e2 : decide (fr < to) = true := by simpa using h2
  rw [e1, e2]
  go_enter Try.func67, Try.ntmps67
  go_wp2_with fail
  refine (HST.out _).mono ?_
  rintro e w1 ⟨rfl, rfl⟩
  go_wp2_with fail
  go_ret
  exact ⟨rfl, rfl⟩

theorem implBridgeCount_any (s : ByteArray) (fr to : Int) (w : World) (hs : s.size ≤ 4294967296) : Calls Try.prog 25 #[.string s, .int .i64 fr, .int .i64 to] w fun e w' => e = .returned (.int .i64 (bridgeCount s.data.toList fr to)) ∧ Below w.heap.size w w' := by
  by_cases hg : glued s.data.toList fr to = true
  · obtain ⟨h, g1, g2, g3⟩ := glued_parts hg
    rw [size_list] at g3
    obtain ⟨a, rfl⟩ := Int.eq_ofNat_of_zero_le g1
    obtain ⟨b, rfl⟩ := Int.eq_ofNat_of_zero_le (show 0 ≤ to by omega)
    rw [show bridgeCount s.data.toList (a : Int) (b : Int) = pathsAbove (cutL s.data.toList a b) from if_pos hg]
    have hcn := cutL_counts (a := a) (b := b) h (by omega) (by rw [size_list]; omega)
    have hsl := run_sl s a b a b rfl rfl (by omega) (by omega)
    have hps : (s.extract a b).size = b - a := extract_size' (by omega) (by omega)
    rw [← extract_list] at hcn ⊢
    have HP := Lib.hid (fun w => implPathsAbove_any (s.extract a b) w (by omega) (by omega) (by omega))
    have HG := Lib.hid (fun w => hg ▸ isGlued_any s (a : Int) (b : Int) w hs)
    generalize s.extract a b = p at *
    clear hcn hps hg
    go_enter Try.func25, Try.ntmps25
    go_wp2_with fail
    refine (HG.out _).mono ?_
    rintro e w1 ⟨rfl, rfl⟩
    go_wp2_with fail
    refine (HP.out _).mono ?_
    rintro e w1 ⟨rfl, hb⟩
    go_wp2_with fail
    go_ret
    exact ⟨rfl, (by repeat' (first | exact Below.refl _ _ | assumption | (refine Below.drew ?_) | (refine below_drewN ?_ _) | (refine below_thru ?_ (by assumption)) | (refine below_alloc ?_ _) | (refine Below.setCell ?_ (by first | omega | (simp; done) | (simp; omega)) _) | (refine Below.alloc ?_ (by first | omega | (simp; done) | (simp; omega)) _)))⟩
  · have hg' : glued s.data.toList fr to = false := by simpa using hg
    rw [show bridgeCount s.data.toList fr to = 0 from if_neg hg]
    have HG := Lib.hid (fun w => hg' ▸ isGlued_any s fr to w hs)
    clear hg hg'
    go_enter Try.func25, Try.ntmps25
    go_wp2_with fail
    refine (HG.out _).mono ?_
    rintro e w1 ⟨rfl, rfl⟩
    go_wp2_with fail
    go_ret
    exact ⟨rfl, (by repeat' (first | exact Below.refl _ _ | assumption | (refine Below.drew ?_) | (refine below_drewN ?_ _) | (refine below_thru ?_ (by assumption)) | (refine below_alloc ?_ _) | (refine Below.setCell ?_ (by first | omega | (simp; done) | (simp; omega)) _) | (refine Below.alloc ?_ (by first | omega | (simp; done) | (simp; omega)) _)))⟩

end Go.Proofs.Ytpeopfkechbelaa
