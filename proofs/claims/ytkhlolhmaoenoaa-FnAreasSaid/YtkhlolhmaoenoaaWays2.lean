
/-
  The contract of the program's CountAbove; no condition beyond the length of the text.
-/
import Derived.Test.YtkhlolhmaoenoaaWays
namespace Go.Proofs.Ytkhlolhmaoenoaa
open Go.ChangeShapes Go.WideShapes Go.ChangeAt Go.RowKit Go.Deep Go.BigFrame
set_option linter.unusedVariables false

set_option maxRecDepth 8000 in
theorem implCountAbove_any (s : ByteArray) (w : World) (hs : s.size ≤ 4294967296) : Calls Try.prog 58 #[.string s] w fun e w' => e = .returned (.int .i64 (countAbove s.data.toList)) ∧ Below w.heap.size w w' := by
  have hst := fun w => implIsStrip_any s w hs
  by_cases h : isStrip s.data.toList = true
  case neg =>
    have h' : isStrip s.data.toList = false := by simpa using h
    rw [show countAbove s.data.toList = 0 from if_neg h]
    rw [h'] at hst
    clear h h'
    go_enter Try.func58, Try.ntmps58
    go_wp2_with fail
    refine (hst _).mono ?_
    rintro e w1 ⟨rfl, rfl⟩
    go_wp2_with fail
    go_ret
    exact ⟨rfl, (by repeat' (first | exact Below.refl _ _ | assumption | (refine Below.drew ?_) | (refine below_drewN ?_ _) | (refine below_thru ?_ (by assumption)) | (refine below_alloc ?_ _) | (refine Below.setCell ?_ (by first | omega | (simp; done) | (simp; omega)) _) | (refine Below.alloc ?_ (by first | omega | (simp; done) | (simp; omega)) _)))⟩
  obtain ⟨i0, hi0, hz0, hz1, hz2⟩ := info_parts intInfo
  rw [show countAbove s.data.toList = pathsAbove s.data.toList from if_pos h]
  have hd := fun w => implDownOf_any s w hs
  have hf := fun w => implForwardOf_any s w hs
  have hfo := fun k w (hk : k ≤ s.size) => forwards_any s k w hs hk
  rw [downOf_yes h] at hd
  rw [forwardOf_yes h] at hf
  rw [h] at hst
  have hp := isStrip_parts h
  unfold pathsAbove
  rw [size_list] at hp ⊢
  obtain ⟨l, hl⟩ : ∃ l, l = s.data.toList := ⟨_, rfl⟩
  have hsz : l.length = s.size := by rw [hl, size_list]
  rw [← hl] at hd hf hfo hp ⊢
  have HL := Lib.hid hl
  have HZ := Lib.hid hsz
  have HST := Lib.hid hst
  have HD := Lib.hid hd
  have HF := Lib.hid hf
  have HFO := Lib.hid hfo
  clear hst hd hf hfo hl hsz h
  obtain ⟨hp1, hp2, hp3, hp4, hp5⟩ := hp
  generalize dn l = d at *
  obtain ⟨f, hff⟩ : ∃ f, f = fw l := ⟨_, rfl⟩
  rw [← hff] at HF hp1 hp4 hp5 ⊢
  obtain ⟨m, hm⟩ : ∃ m, m = f + 2 := ⟨_, rfl⟩
  have hmi : (f : Int) + 2 = (m : Int) := by omega
  have HFF := Lib.hid hff
  have hmb : m ≤ 10 := by omega
  have hmp : 0 < m := by omega
  have hfm : f + 1 ≤ m := by omega
  clear hff hm
  go_enter Try.func58, Try.ntmps58
  go_wp2_with fail
  refine (HST.out _).mono ?_
  rintro e w1 ⟨rfl, rfl⟩
  go_wp2_with fail
  refine (HF.out _).mono ?_
  rintro e w1 ⟨rfl, rfl⟩
  go_wp2_with (at_make; refine wpList_make_full _ rfl (.tmp 14) (.tmp 14) 51 rfl w.heap.size 3 i0 (.int .i64 0) 1 Try.underlying51 hi0 hz0 hz1 .i64 .i64 _ _ m rfl rfl rfl rfl (by rw [hz2]; omega) (by unfold maxLen; omega) (Nat.le_refl _) ?_)
  intro w1 hown hgr
  have hb1 : Below w.heap.size w w1 := (Below.refl _ _).grown hgr (Nat.le_refl _) (by simp)
  rw [made_list] at hown
  have hown2 : w1.ownsRow w.heap.size 3 1 (.slice (some ⟨w.heap.size, 0, none⟩) m m) m ((List.replicate m (0 : Int)).map (Value.int .i64)) := by simpa using hown
  have hc0 := owned_cell hown2 0 hmp
  have hf0 := hown2.frozenAt 0
  have HO := Lib.hid hown2
  have HB := Lib.hid hb1
  clear hown hown2 hb1 hgr
  go_wp2_with fail
  go_loopw [4, 5] (fun ws i wr => ∃ k g : Nat, k ≤ s.size ∧ i = .int .i64 (k + 1 : Nat) ∧ ws = .slice (some ⟨g, 0, none⟩) m m ∧ wr.ownsRow w.heap.size 3 1 (.slice (some ⟨g, 0, none⟩) m m) m ((part m (rowF l d k) (f + 1)).map (Value.int .i64)) ∧ Below w.heap.size w wr) (fun _ i _ => s.size + 1 - (intOf i).toNat)
  case atStart => exact ⟨0, w.heap.size, Nat.zero_le _, rfl, rfl, by
    have := (HO.out.stored 0 (.int .i64 1)).1
    have e := part_first l d m f (by omega) hfm
    rw [map_set_int, e] at this
    exact this, HB.out.setCell (Nat.le_refl _) _⟩
  case round =>
    obtain ⟨k, g, hk, rfl, rfl, hown, hbr⟩ := hrel
    by_cases hlt : k < s.size
    · have hki : (k : Int) + 1 ≤ (s.size : Int) := by omega
      obtain ⟨L1, hL1⟩ : ∃ L1, L1 = fw (l.take (k + 1)) := ⟨_, rfl⟩
      have hL1k : L1 ≤ k + 1 := by rw [hL1]; exact fw_take_le l _
      have HFK := Lib.hid (fun w => HFO.out (k + 1) w (by omega))
      rw [← hL1] at HFK
      have H3 := Lib.hid hown
      have H4 := Lib.hid hbr
      have HL1 := Lib.hid hL1
      clear hown hbr HO HB hc0 hf0 hL1
      have hsz : w.heap.size ≤ wr.heap.size := H4.out.size
      have hgl := (H3.out.lt g rfl).2
      go_wp2_with (at_make; refine wpList_make_full _ rfl (.tmp 25) (.tmp 25) 51 rfl wr.heap.size 3 i0 (.int .i64 0) 1 Try.underlying51 hi0 hz0 hz1 .i64 .i64 _ _ m rfl rfl rfl rfl (by rw [hz2]; omega) (by unfold maxLen; omega) (Nat.le_refl _) ?_)
      intro w2 hown2 hgr2
      have hb2 : Below wr.heap.size wr w2 := (Below.refl _ _).grown hgr2 (Nat.le_refl _) (by simp)
      rw [made_list] at hown2
      have hown3 : w2.ownsRow wr.heap.size 3 1 (.slice (some ⟨wr.heap.size, 0, none⟩) m m) m ((part m (rowF l d (k + 1)) 0).map (Value.int .i64)) := by rw [part_zero]; simpa using hown2
      have HO2 := Lib.hid hown3
      have HB2 := Lib.hid hb2
      clear hown2 hown3 hb2 hgr2
      go_wp2_with fail
      obtain ⟨wo, hwo⟩ : ∃ wo, wo = wr := ⟨wr, rfl⟩
      subst hwo
      go_loopw [29] (fun x wi => ∃ j : Nat, j ≤ f + 1 ∧ x = .int .i64 j ∧ wi.ownsRow wo.heap.size 3 1 (.slice (some ⟨wo.heap.size, 0, none⟩) m m) m ((part m (rowF l d (k + 1)) j).map (Value.int .i64)) ∧ Below wo.heap.size wo wi) (fun x _ => f + 1 - (intOf x).toNat)
      case atStart => exact ⟨0, Nat.zero_le _, rfl, HO2.out, HB2.out⟩
      case round =>
        obtain ⟨j, hj, rfl, howi, hbi⟩ := hrel
        by_cases hjm : j < f + 1
        · have hjf : (j : Int) < (f : Int) + 1 := by omega
          have hjm2 : j < m := by omega
          have ej := part_get (m := m) (F := rowF l d k) (j := f + 1) hjm2 hjm
          have cj := cell_on hbi (owned_cell H3.out j hjm2)
          rw [ej] at cj
          have vj := rowF_16 l d k j (by omega)
          have cn := owned_cell howi j hjm2
          have fn := howi.frozenAt j
          have H5 := Lib.hid howi
          have H6 := Lib.hid hbi
          have HY := Lib.hid (fun h1 h2 => rowF_yes (l := l) (d := d) (k := k) (x := j) h1 h2)
          have HN := Lib.hid (fun h => rowF_no (l := l) (d := d) (k := k) (x := j) h)
          rw [← HL1.out] at HY HN
          generalize (part m (rowF l d (k + 1)) j).getD j 0 = u at *
          have HP := Lib.hid (part_set (m := m) (F := rowF l d (k + 1)) hjm2)
          have HK := Lib.hid (fun h => part_skip (m := m) (F := rowF l d (k + 1)) (j := j) h)
          by_cases hc1 : (j : Int) < (L1 : Int)
          · clear cj cn fn howi hbi ej
            go_wp2_with fail
            refine (HFK.out _).mono ?_
            rintro e w3 ⟨rfl, rfl⟩
            go_wp2_with fail
            go_roundw
            case rel => exact ⟨j + 1, by omega, by go_num, by rw [← HK.out (HN.out (by omega))]; exact H5.out, H6.out⟩
            case measure => simp [intOf]; omega
          · by_cases hc2 : (d : Int) < (k : Int) + 1 - (j : Int)
            · clear cj cn fn howi hbi ej
              go_wp2_with fail
              refine (HFK.out _).mono ?_
              rintro e w3 ⟨rfl, rfl⟩
              go_wp2_with fail
              refine (HD.out _).mono ?_
              rintro e w3 ⟨rfl, rfl⟩
              go_wp2_with fail
              go_roundw
              case rel => exact ⟨j + 1, by omega, by go_num, by rw [← HK.out (HN.out (by omega))]; exact H5.out, H6.out⟩
              case measure => simp [intOf]; omega
            · by_cases hj0 : j = 0
              · have hjp : ¬ (0 : Int) < (j : Int) := by omega
                generalize rowF l d k j = v at *
                have HJ0 := Lib.hid hj0
                clear howi hbi ej hj0
                go_wp2_with fail
                refine (HFK.out _).mono ?_
                rintro e w3 ⟨rfl, rfl⟩
                go_wp2_with fail
                refine (HD.out _).mono ?_
                rintro e w3 ⟨rfl, rfl⟩
                go_wp2_with fail
                go_roundw
                case rel =>
                  have s1 := (H5.out.stored j (.int .i64 v)).1
                  have e := HY.out (by omega) (by omega)
                  rw [if_pos HJ0.out, Int.add_zero] at e
                  rw [map_set_int, ← e, HP.out] at s1
                  exact ⟨j + 1, by omega, by go_num, by rw [← e]; exact s1, H6.out.setCell (Nat.le_refl _) _⟩
                case measure => simp [intOf]; omega
              · have hjp : (0 : Int) < (j : Int) := by omega
                obtain ⟨jp, hjp2⟩ : ∃ jp, jp = j - 1 := ⟨_, rfl⟩
                rw [← hjp2] at HY
                have ej1 := part_get (m := m) (F := rowF l d k) (j := f + 1) (x := jp) (by omega) (by omega)
                have cj1 := cell_on hbi (owned_cell H3.out jp (by omega))
                rw [ej1] at cj1
                have vj1 := rowF_16 l d k jp (by omega)
                have hj1 : (j : Int) - 1 = (jp : Int) := by omega
                have hjp3 : jp < m := by omega
                have HJ := Lib.hid hjp2
                have HJ0 := Lib.hid hj0
                clear hjp2
                generalize rowF l d k j = v at *
                generalize rowF l d k jp = v1 at *
                clear howi hbi ej ej1
                have s1 := Lib.hid (H5.out.stored j (.int .i64 v)).1
                have b1 := Lib.hid (H6.out.setCell (p := ⟨wo.heap.size, j, none⟩) (Nat.le_refl _) (.int .i64 v))
                have k1 := Lib.hid ((World.cell?_setCell_other wr ⟨wo.heap.size, j, none⟩ ⟨g, jp, none⟩ (.int .i64 v) (fun e => absurd (congrArg Addr.block e) (by simp only; omega))).trans cj1)
                have k2 := Lib.hid (World.cell?_setCell_same wr ⟨wo.heap.size, j, none⟩ (.int .i64 v) cn)
                have k3 := Lib.hid ((World.frozen?_setCell wr ⟨wo.heap.size, j, none⟩ ⟨wo.heap.size, j, none⟩ (.int .i64 v)).trans fn)
                go_wp2_with fail
                refine (HFK.out _).mono ?_
                rintro e w3 ⟨rfl, rfl⟩
                go_wp2_with fail
                refine (HD.out _).mono ?_
                rintro e w3 ⟨rfl, rfl⟩
                go_wp2_with fail
                clear cj cn cj1 fn
                generalize hwz : wr.setCell ⟨wo.heap.size, j, none⟩ (.int .i64 v) = wz at *
                have c1 := k1.out
                have c2 := k2.out
                have c3 := k3.out
                clear hwz k1 k2 k3
                go_region
                go_wp2_with fail
                go_roundw
                case rel =>
                  have s2 := (s1.out.stored j (.int .i64 (v + v1))).1
                  have e := HY.out (by omega) (by omega)
                  rw [if_neg HJ0.out] at e
                  have e2 : ((((part m (rowF l d (k + 1)) j).map (Value.int .i64)).set j (.int .i64 v)).set j (.int .i64 (v + v1))) = (part m (rowF l d (k + 1)) (j + 1)).map (Value.int .i64) := by
                    rw [List.set_set, map_set_int, ← e, HP.out]
                  rw [e2] at s2
                  exact ⟨j + 1, by omega, by go_num, s2.drew, (b1.out.setCell (Nat.le_refl _) _).drew⟩
                case measure => simp [intOf]; omega
        · have hjf : ¬ (j : Int) < (f : Int) + 1 := by omega
          have hjm2 : j = f + 1 := by omega
          have H5 := Lib.hid howi
          have H6 := Lib.hid hbi
          have HJM := Lib.hid hjm2
          clear howi hbi hjm hjm2
          go_wp2_with fail
          go_roundw
          case rel =>
            refine ⟨k + 1, wo.heap.size, by omega, by go_num, rfl, ?_, below_thru H4.out H6.out⟩
            have := H5.out
            rw [HJM.out] at this
            exact own_mono this hsz
          case measure => simp [intOf]; omega
    · have hks : k = s.size := by omega
      have hfm2 : f < m := by omega
      have cf := owned_cell hown f hfm2
      rw [part_get hfm2 (Nat.lt_succ_self f), hks] at cf
      have hfi : (f : Int) < (m : Int) := by omega
      have hki : ¬ (k : Int) + 1 ≤ (s.size : Int) := by omega
      clear hown HO HB hc0 hf0
      go_wp2_with fail
      go_ret
      exact ⟨rfl, hbr⟩

end Go.Proofs.Ytkhlolhmaoenoaa
