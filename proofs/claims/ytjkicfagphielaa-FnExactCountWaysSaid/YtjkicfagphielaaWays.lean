
/-
  Contracts of CountAbove on both sides; no condition beyond the length of the text.
-/
import Derived.Test.YtjkicfagphielaaWaysP
import Derived.BigRegion
namespace Go.Proofs.Ytjkicfagphielaa
open Go.ChangeShapes Go.WideShapes Go.ChangeAt Go.RowKit Go.Deep Go.BigFrame
set_option linter.unusedVariables false

theorem owned_cell {w : World} {base g c n : Nat} {e : TypeId} {zs : List Int} (h : w.ownsRow base e 1 (.slice (some ⟨g, 0, none⟩) n c) n (zs.map (Value.int .i64))) (x : Nat) (hx : x < n) : w.cell? ⟨g, x, none⟩ = some (.int .i64 (zs.getD x 0)) := by
  have hl : zs.length = n := by have := h.1; simpa using this
  rw [h.cellAt x (by omega), List.getElem?_map, List.getD_eq_getElem?_getD, List.getElem?_eq_getElem (by omega)]
  rfl

set_option maxRecDepth 8000 in
theorem specCountAbove_any (s : ByteArray) (w : World) (hs : s.size ≤ 4294967296) : Calls Try.prog 63 #[.string s] w fun e w' => e = .returned (.int .i64 (countAbove s.data.toList)) ∧ Below w.heap.size w w' := by
  have hst := fun w => specIsStrip_any s w hs
  by_cases h : isStrip s.data.toList = true
  case neg =>
    have h' : isStrip s.data.toList = false := by simpa using h
    rw [show countAbove s.data.toList = 0 from if_neg h]
    rw [h'] at hst
    clear h h'
    go_enter Try.func63, Try.ntmps63
    go_wp2_with fail
    refine (hst _).mono ?_
    rintro e w1 ⟨rfl, rfl⟩
    go_wp2_with fail
    go_ret
    exact ⟨rfl, (by repeat' (first | exact Below.refl _ _ | assumption | (refine Below.drew ?_) | (refine below_drewN ?_ _) | (refine below_thru ?_ (by assumption)) | (refine below_alloc ?_ _) | (refine Below.setCell ?_ (by first | omega | (simp; done) | (simp; omega)) _) | (refine Below.alloc ?_ (by first | omega | (simp; done) | (simp; omega)) _)))⟩
  obtain ⟨i0, hi0, hz0, hz1, hz2⟩ := info_parts intInfo
  rw [show countAbove s.data.toList = pathsAbove s.data.toList from if_pos h]
  have hd := fun w => specDownOf_any s w hs
  have hf := fun w => specForwardOf_any s w hs
  rw [downOf_yes h] at hd
  rw [forwardOf_yes h] at hf
  rw [h] at hst
  have hp := isStrip_parts h
  unfold pathsAbove
  rw [size_list] at hp ⊢
  obtain ⟨l, hl⟩ : ∃ l, l = s.data.toList := ⟨_, rfl⟩
  have hsz : l.length = s.size := by rw [hl, size_list]
  rw [← hl] at hd hf hp ⊢
  have HL := Lib.hid hl
  have HZ := Lib.hid hsz
  have HST := Lib.hid hst
  have HD := Lib.hid hd
  have HF := Lib.hid hf
  clear hst hd hf hl hsz h
  obtain ⟨hp1, hp2, hp3, hp4, hp5⟩ := hp
  generalize dn l = d at *
  obtain ⟨f, hff⟩ : ∃ f, f = fw l := ⟨_, rfl⟩
  rw [← hff] at HF hp1 hp4 hp5 ⊢
  obtain ⟨m, hm⟩ : ∃ m, m = f + 1 := ⟨_, rfl⟩
  have hmi : (f : Int) + 1 = (m : Int) := by omega
  have HFF := Lib.hid hff
  have hmb : m ≤ 9 := by omega
  have hmp : 0 < m := by omega
  have HM := Lib.hid hm
  clear hff hm
  go_enter Try.func63, Try.ntmps63
  go_wp2_with fail
  refine (HST.out _).mono ?_
  rintro e w1 ⟨rfl, rfl⟩
  go_wp2_with fail
  refine (HD.out _).mono ?_
  rintro e w1 ⟨rfl, rfl⟩
  go_wp2_with fail
  refine (HF.out _).mono ?_
  rintro e w1 ⟨rfl, rfl⟩
  go_wp2_with (at_make; refine wpList_make_full _ rfl (.tmp 19) (.tmp 19) 27 rfl w.heap.size 3 i0 (.int .i64 0) 1 Try.underlying27 hi0 hz0 hz1 .i64 .i64 _ _ m rfl rfl rfl rfl (by rw [hz2]; omega) (by unfold maxLen; omega) (Nat.le_refl _) ?_)
  intro w1 hown hgr
  have hb1 : Below w.heap.size w w1 := (Below.refl _ _).grown hgr (Nat.le_refl _) (by simp)
  rw [made_list] at hown
  have hown2 : w1.ownsRow w.heap.size 3 1 (.slice (some ⟨w.heap.size, 0, none⟩) m m) m ((List.replicate m (0 : Int)).map (Value.int .i64)) := by simpa using hown
  have hc0 := owned_cell hown2 0 hmp
  have hf0 := hown2.frozenAt 0
  have HO := Lib.hid hown2
  have HB := Lib.hid hb1
  clear hown hown2 hb1 hgr
  go_wp2_with fail
  go_loopw [5, 6, 7] (fun ws le i wr => ∃ k g : Nat, k ≤ s.size ∧ i = .int .i64 k ∧ le = .int .i64 (fw (l.take k)) ∧ ws = .slice (some ⟨g, 0, none⟩) m m ∧ wr.ownsRow w.heap.size 3 1 (.slice (some ⟨g, 0, none⟩) m m) m ((part m (rowF l d k) m).map (Value.int .i64)) ∧ Below w.heap.size w wr) (fun _ _ i _ => s.size - (intOf i).toNat)
  case atStart => exact ⟨0, w.heap.size, Nat.zero_le _, rfl, rfl, rfl, by
    have := (HO.out.stored 0 (.int .i64 1)).1
    have e := part_first l d m f (by omega) (by rw [HM.out]; exact Nat.le_refl _)
    rw [map_set_int, e, ← HM.out] at this
    exact this, HB.out.setCell (Nat.le_refl _) _⟩
  case round =>
    obtain ⟨k, g, hk, rfl, rfl, rfl, hown, hbr⟩ := hrel
    have hlk := fw_take_le l k
    by_cases hlt : k < s.size
    · have hkl : k < l.length := by rw [HZ.out]; exact hlt
      have hg := at_get s k hlt
      rw [← HL.out] at hg
      have hFW := fw_take l k hkl
      obtain ⟨L1, hL1⟩ : ∃ L1, L1 = fw (l.take (k + 1)) := ⟨_, rfl⟩
      rw [← hL1] at hFW
      have H3 := Lib.hid hown
      have H4 := Lib.hid hbr
      have HL1 := Lib.hid hL1
      clear hown hbr HO HB hc0 hf0 hL1
      generalize fw (l.take k) = L0 at *
      generalize at_ l k = c at *
      have hsz : w.heap.size ≤ wr.heap.size := H4.out.size
      by_cases h1 : c = 102
      · have hb : ((c.toNat : Int) == 102) = true := by rw [h1]; rfl
        rw [if_pos h1] at hFW
        have hLi : (L0 : Int) + 1 = (L1 : Int) := by omega
        have HFW := Lib.hid hFW
        clear hFW h1
        go_wp2_with (at_make; refine wpList_make_full _ rfl (.tmp 36) (.tmp 36) 27 rfl wr.heap.size 3 i0 (.int .i64 0) 1 Try.underlying27 hi0 hz0 hz1 .i64 .i64 _ _ m rfl rfl rfl rfl (by rw [hz2]; omega) (by unfold maxLen; omega) (Nat.le_refl _) ?_)
        intro w2 hown2 hgr2
        have hb2 : Below wr.heap.size wr w2 := (Below.refl _ _).grown hgr2 (Nat.le_refl _) (by simp)
        rw [made_list] at hown2
        have hown3 : w2.ownsRow wr.heap.size 3 1 (.slice (some ⟨wr.heap.size, 0, none⟩) m m) m ((part m (rowF l d (k + 1)) 0).map (Value.int .i64)) := by rw [part_zero]; simpa using hown2
        have HO2 := Lib.hid hown3
        have HB2 := Lib.hid hb2
        clear hown2 hown3 hb2 hgr2
        go_wp2_with fail
        obtain ⟨wo, hwo⟩ : ∃ wo, wo = wr := ⟨wr, rfl⟩
        subst hwo
        go_loopw [9, 10] (fun x n wi => ∃ j : Nat, j ≤ m ∧ x = .int .i64 j ∧ wi.ownsRow wo.heap.size 3 1 (.slice (some ⟨wo.heap.size, 0, none⟩) m m) m ((part m (rowF l d (k + 1)) j).map (Value.int .i64)) ∧ Below wo.heap.size wo wi) (fun x _ _ => m - (intOf x).toNat)
        case atStart => exact ⟨0, Nat.zero_le _, rfl, HO2.out, HB2.out⟩
        case round =>
          obtain ⟨j, hj, rfl, howi, hbi⟩ := hrel
          by_cases hjm : j < m
          · have hjf : (j : Int) ≤ (f : Int) := by omega
            have ej := part_get (m := m) (F := rowF l d k) (j := m) hjm hjm
            have cj := cell_on hbi (owned_cell H3.out j hjm)
            rw [ej] at cj
            have vj := rowF_16 l d k j (by omega)
            have cn := owned_cell howi j hjm
            have fn := howi.frozenAt j
            have H5 := Lib.hid howi
            have H6 := Lib.hid hbi
            have HY := Lib.hid (fun h1 h2 => rowF_yes (l := l) (d := d) (k := k) (x := j) h1 h2)
            have HN := Lib.hid (fun h => rowF_no (l := l) (d := d) (k := k) (x := j) h)
            rw [← HL1.out] at HY HN
            generalize (part m (rowF l d (k + 1)) j).getD j 0 = u at *
            have HP := Lib.hid (part_set (m := m) (F := rowF l d (k + 1)) hjm)
            have HK := Lib.hid (fun h => part_skip (m := m) (F := rowF l d (k + 1)) (j := j) h)
            by_cases hj0 : j = 0
            · have hjp : ¬ (0 : Int) < (j : Int) := by omega
              generalize rowF l d k j = v at *
              have HJ0 := Lib.hid hj0
              clear howi hbi ej hj0
              by_cases hc1 : (L1 : Int) ≤ (j : Int)
              · exfalso; omega
              · go_wp2_with fail
                go_roundw
                case rel => exact ⟨j + 1, by omega, by go_num, by rw [← HK.out (HN.out (by omega))]; exact H5.out, H6.out⟩
                case measure => simp [intOf]; omega
            · have hjp : (0 : Int) < (j : Int) := by omega
              obtain ⟨jp, hjp2⟩ : ∃ jp, jp = j - 1 := ⟨_, rfl⟩
              rw [← hjp2] at HY
              have ej1 := part_get (m := m) (F := rowF l d k) (j := m) (x := jp) (by omega) (by omega)
              have cj1 := cell_on hbi (owned_cell H3.out jp (by omega))
              rw [ej1] at cj1
              have vj1 := rowF_16 l d k jp (by omega)
              have hj1 : (j : Int) - 1 = (jp : Int) := by omega
              have hjp3 : jp < m := by omega
              have HJ := Lib.hid hjp2
              have HJ0 := Lib.hid hj0
              clear hjp2
              generalize rowF l d k j = v at *
              generalize rowF l d k jp = v1 at *
              clear howi hbi ej ej1
              by_cases hc1 : (L1 : Int) ≤ (j : Int)
              · by_cases hc2 : (k : Int) + 1 - (j : Int) ≤ (d : Int)
                · go_wp2_with fail
                  go_roundw
                  case rel =>
                    have s1 := (H5.out.stored j (.int .i64 (v + v1))).1
                    have e := HY.out (by omega) (by omega)
                    rw [if_neg HJ0.out] at e
                    rw [map_set_int, ← e, HP.out] at s1
                    exact ⟨j + 1, by omega, by go_num, by rw [← e]; exact s1, H6.out.setCell (Nat.le_refl _) _⟩
                  case measure => simp [intOf]; omega
                · go_wp2_with fail
                  go_roundw
                  case rel => exact ⟨j + 1, by omega, by go_num, by rw [← HK.out (HN.out (by omega))]; exact H5.out, H6.out⟩
                  case measure => simp [intOf]; omega
              · go_wp2_with fail
                go_roundw
                case rel => exact ⟨j + 1, by omega, by go_num, by rw [← HK.out (HN.out (by omega))]; exact H5.out, H6.out⟩
                case measure => simp [intOf]; omega
          · have hjf : ¬ (j : Int) ≤ (f : Int) := by omega
            have hjm2 : j = m := by omega
            have H5 := Lib.hid howi
            have H6 := Lib.hid hbi
            have HJM := Lib.hid hjm2
            clear howi hbi hjm hjm2
            go_wp2_with fail
            go_roundw
            case rel =>
              refine ⟨k + 1, wo.heap.size, by omega, by go_num, by rw [← HL1.out], rfl, ?_, below_thru H4.out H6.out⟩
              have := H5.out
              rw [HJM.out] at this
              exact own_mono this hsz
            case measure => simp [intOf]; omega
      · have hb : ((c.toNat : Int) == 102) = false := by rw [show (102 : Int) = ((102 : UInt8).toNat : Int) from rfl, u8_eq]; simp [h1]
        rw [if_neg h1, Nat.add_zero] at hFW
        have hlk1 : L1 ≤ k := by omega
        subst hFW
        clear h1
        go_wp2_with (at_make; refine wpList_make_full _ rfl (.tmp 36) (.tmp 36) 27 rfl wr.heap.size 3 i0 (.int .i64 0) 1 Try.underlying27 hi0 hz0 hz1 .i64 .i64 _ _ m rfl rfl rfl rfl (by rw [hz2]; omega) (by unfold maxLen; omega) (Nat.le_refl _) ?_)
        intro w2 hown2 hgr2
        have hb2 : Below wr.heap.size wr w2 := (Below.refl _ _).grown hgr2 (Nat.le_refl _) (by simp)
        rw [made_list] at hown2
        have hown3 : w2.ownsRow wr.heap.size 3 1 (.slice (some ⟨wr.heap.size, 0, none⟩) m m) m ((part m (rowF l d (k + 1)) 0).map (Value.int .i64)) := by rw [part_zero]; simpa using hown2
        have HO2 := Lib.hid hown3
        have HB2 := Lib.hid hb2
        clear hown2 hown3 hb2 hgr2
        go_wp2_with fail
        obtain ⟨wo, hwo⟩ : ∃ wo, wo = wr := ⟨wr, rfl⟩
        subst hwo
        go_loopw [9, 10] (fun x n wi => ∃ j : Nat, j ≤ m ∧ x = .int .i64 j ∧ wi.ownsRow wo.heap.size 3 1 (.slice (some ⟨wo.heap.size, 0, none⟩) m m) m ((part m (rowF l d (k + 1)) j).map (Value.int .i64)) ∧ Below wo.heap.size wo wi) (fun x _ _ => m - (intOf x).toNat)
        case atStart => exact ⟨0, Nat.zero_le _, rfl, HO2.out, HB2.out⟩
        case round =>
          obtain ⟨j, hj, rfl, howi, hbi⟩ := hrel
          by_cases hjm : j < m
          · have hjf : (j : Int) ≤ (f : Int) := by omega
            have ej := part_get (m := m) (F := rowF l d k) (j := m) hjm hjm
            have cj := cell_on hbi (owned_cell H3.out j hjm)
            rw [ej] at cj
            have vj := rowF_16 l d k j (by omega)
            have cn := owned_cell howi j hjm
            have fn := howi.frozenAt j
            have H5 := Lib.hid howi
            have H6 := Lib.hid hbi
            have HY := Lib.hid (fun h1 h2 => rowF_yes (l := l) (d := d) (k := k) (x := j) h1 h2)
            have HN := Lib.hid (fun h => rowF_no (l := l) (d := d) (k := k) (x := j) h)
            rw [← HL1.out] at HY HN
            generalize (part m (rowF l d (k + 1)) j).getD j 0 = u at *
            have HP := Lib.hid (part_set (m := m) (F := rowF l d (k + 1)) hjm)
            have HK := Lib.hid (fun h => part_skip (m := m) (F := rowF l d (k + 1)) (j := j) h)
            by_cases hj0 : j = 0
            · have hjp : ¬ (0 : Int) < (j : Int) := by omega
              generalize rowF l d k j = v at *
              have HJ0 := Lib.hid hj0
              clear howi hbi ej hj0
              by_cases hc1 : (L1 : Int) ≤ (j : Int)
              · by_cases hc2 : (k : Int) + 1 - (j : Int) ≤ (d : Int)
                · go_wp2_with fail
                  go_roundw
                  case rel =>
                    have s1 := (H5.out.stored j (.int .i64 v)).1
                    have e := HY.out (by omega) (by omega)
                    rw [if_pos HJ0.out, Int.add_zero] at e
                    rw [map_set_int, ← e, HP.out] at s1
                    exact ⟨j + 1, by omega, by go_num, by rw [← e]; exact s1, H6.out.setCell (Nat.le_refl _) _⟩
                  case measure => simp [intOf]; omega
                · go_wp2_with fail
                  go_roundw
                  case rel => exact ⟨j + 1, by omega, by go_num, by rw [← HK.out (HN.out (by omega))]; exact H5.out, H6.out⟩
                  case measure => simp [intOf]; omega
              · go_wp2_with fail
                go_roundw
                case rel => exact ⟨j + 1, by omega, by go_num, by rw [← HK.out (HN.out (by omega))]; exact H5.out, H6.out⟩
                case measure => simp [intOf]; omega
            · have hjp : (0 : Int) < (j : Int) := by omega
              obtain ⟨jp, hjp2⟩ : ∃ jp, jp = j - 1 := ⟨_, rfl⟩
              rw [← hjp2] at HY
              have ej1 := part_get (m := m) (F := rowF l d k) (j := m) (x := jp) (by omega) (by omega)
              have cj1 := cell_on hbi (owned_cell H3.out jp (by omega))
              rw [ej1] at cj1
              have vj1 := rowF_16 l d k jp (by omega)
              have hj1 : (j : Int) - 1 = (jp : Int) := by omega
              have hjp3 : jp < m := by omega
              have HJ := Lib.hid hjp2
              have HJ0 := Lib.hid hj0
              clear hjp2
              generalize rowF l d k j = v at *
              generalize rowF l d k jp = v1 at *
              clear howi hbi ej ej1
              by_cases hc1 : (L1 : Int) ≤ (j : Int)
              · by_cases hc2 : (k : Int) + 1 - (j : Int) ≤ (d : Int)
                · go_wp2_with fail
                  go_roundw
                  case rel =>
                    have s1 := (H5.out.stored j (.int .i64 (v + v1))).1
                    have e := HY.out (by omega) (by omega)
                    rw [if_neg HJ0.out] at e
                    rw [map_set_int, ← e, HP.out] at s1
                    exact ⟨j + 1, by omega, by go_num, by rw [← e]; exact s1, H6.out.setCell (Nat.le_refl _) _⟩
                  case measure => simp [intOf]; omega
                · go_wp2_with fail
                  go_roundw
                  case rel => exact ⟨j + 1, by omega, by go_num, by rw [← HK.out (HN.out (by omega))]; exact H5.out, H6.out⟩
                  case measure => simp [intOf]; omega
              · go_wp2_with fail
                go_roundw
                case rel => exact ⟨j + 1, by omega, by go_num, by rw [← HK.out (HN.out (by omega))]; exact H5.out, H6.out⟩
                case measure => simp [intOf]; omega
          · have hjf : ¬ (j : Int) ≤ (f : Int) := by omega
            have hjm2 : j = m := by omega
            have H5 := Lib.hid howi
            have H6 := Lib.hid hbi
            have HJM := Lib.hid hjm2
            clear howi hbi hjm hjm2
            go_wp2_with fail
            go_roundw
            case rel =>
              refine ⟨k + 1, wo.heap.size, by omega, by go_num, by rw [← HL1.out], rfl, ?_, below_thru H4.out H6.out⟩
              have := H5.out
              rw [HJM.out] at this
              exact own_mono this hsz
            case measure => simp [intOf]; omega
    · have hks : k = s.size := by omega
      have hfm : f < m := by rw [HM.out]; exact Nat.lt_succ_self f
      have cf := owned_cell hown f hfm
      rw [part_get hfm hfm, hks] at cf
      have hfi : (f : Int) < (m : Int) := by omega
      clear hown HO HB hc0 hf0
      go_wp2_with fail
      go_ret
      exact ⟨rfl, hbr⟩

end Go.Proofs.Ytjkicfagphielaa
