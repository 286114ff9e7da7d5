
/-
  Contracts of TopView, FrontView and LayerTable on both sides; no condition beyond the size of the texts.
-/
import Derived.Test.YtkhlolhmaoenoaaTabs
import Derived.Test.YtkhlolhmaoenoaaViews
import Derived.Test.YtkhlolhmaoenoaaLayers
import Derived.Test.YtkhlolhmaoenoaaCardAt
namespace Go.Proofs.Ytkhlolhmaoenoaa
open Go.ChangeShapes Go.WideShapes Go.ChangeAt Go.RowKit Go.Deep Go.BigFrame
set_option linter.unusedVariables false
set_option linter.unusedSimpArgs false

/-- what a view tells of all strips of a valid card -/
def viewsOf (F : List UInt8 → List Int) (d f : Int) (ss : List ByteArray) : List (List Int) := if cardOk d f ss = true then ss.map (fun s => F s.data.toList) else []
theorem viewsOf_yes {F : List UInt8 → List Int} {d f : Int} {ss : List ByteArray} (h : cardOk d f ss = true) : viewsOf F d f ss = ss.map (fun s => F s.data.toList) := if_pos h
theorem viewsOf_no {F : List UInt8 → List Int} {d f : Int} {ss : List ByteArray} (h : cardOk d f ss = false) : viewsOf F d f ss = [] := if_neg (by rw [h]; simp)
theorem views_take (F : List UInt8 → List Int) (ss : List ByteArray) (k : Nat) (h : k < ss.length) : (ss.take (k + 1)).map (fun s => F s.data.toList) = (ss.take k).map (fun s => F s.data.toList) ++ [F (ss.getD k .empty).data.toList] := by
  rw [take_snoc_getD ss k .empty h, List.map_append]
  rfl
theorem CardAt.grown {w wr w' : World} {d f : Int} {A : Option Addr} {c : Nat} {ss : List ByteArray} {row : Option Nat} (h : CardAt w wr d f A c ss) (hg : wr.grownBy w' row) (hr : ∀ g, row = some g → w.heap.size < g) : CardAt w w' d f A c ss := by
  have hk : ∀ b, b ≤ w.heap.size → w'.heap[b]? = wr.heap[b]? := fun b hb => hg.block b (Nat.lt_of_le_of_lt hb h.lt) (fun e => by have := hr b e.symm; omega)
  have h0 := hk _ (Nat.le_refl _)
  exact ⟨(World.cell?_of_block h0).trans h.c0, (World.cell?_of_block h0).trans h.c1, (World.cell?_of_block h0).trans h.c2, Row.keep h.row (fun b o hl => World.cell?_of_block (hk b (Nat.le_of_lt hl))),
    h.below.grown hg (Nat.le_of_lt h.lt) (fun g e => Nat.le_of_lt (hr g e)), Nat.lt_of_lt_of_le h.lt hg.size⟩
theorem views_len (F : List UInt8 → List Int) (ss : List ByteArray) (k : Nat) (h : k ≤ ss.length) : ((ss.take k).map (fun s => F s.data.toList)).length = k := by simp; omega

set_option maxRecDepth 8000 in
theorem viewsTopView_any (d f : Int) (A : Option Addr) (c : Nat) (ss : List ByteArray) (w : World) (hx : SRow w w.heap.size A ss) (hm : ∀ s ∈ ss, s.size ≤ 4294967296) :
    Calls Try.prog 75 #[.agg #[.int .i64 d, .int .i64 f, .slice A ss.length c], .func (.func 62) #[] #[]] w (NewTab w (viewsOf heights d f ss)) := by
  have HC := Lib.hid (fun w hx => implCardOk_any d f A c ss w hx hm)
  have HST := Lib.hid (CardAt.start (d := d) (f := f) (c := c) hx)
  obtain ⟨i0, hi0, hz0, hz1, hz2⟩ := info_parts rowInfo
  cases h : cardOk d f ss
  · rw [viewsOf_no h]
    rw [h] at HC
    clear h hx
    go_enter Try.func75, Try.ntmps75
    go_wp2_with fail
    refine (HC.out _ HST.out.full).mono ?_
    rintro e w1 ⟨rfl, hb⟩
    go_wp2_with fail
    go_ret
    exact ⟨none, 0, rfl, ⟨[], World.ownsRow_nil _ _ _ _, Kids.nil_ _ _ _⟩, below_thru HST.out.below hb⟩
  rw [viewsOf_yes h]
  rw [h] at HC
  have hlen := (cardOk_parts h).2.2.1
  have HVL := Lib.hid (views_len heights ss)
  have HVT := Lib.hid (views_take heights ss)
  have HFN := Lib.hid (fun (k : Nat) w (hk : k < ss.length) => implHeightsOf_any (ss.getD k .empty) w (hm _ (mem_getD hk)))
  clear h
  go_enter Try.func75, Try.ntmps75
  go_wp2_with fail
  refine (HC.out _ HST.out.full).mono ?_
  rintro e w1 ⟨rfl, hb⟩
  have HCA := Lib.hid (HST.out.on hb)
  obtain ⟨p0, p1, p2, prow, pb, plt⟩ := HCA.out
  have HW0 := Lib.hid (show Below w.heap.size w (w1.alloc (.cells #[] 51)) from below_alloc HCA.out.below _)
  have HT0 := Lib.hid (show Tab (w1.alloc (.cells #[] 51)) w.heap.size (.slice (some ⟨w1.heap.size, 0, none⟩) 0 0) 0 [] from ⟨[], own_mono (World.ownsRow_made w1 #[] 0 (Nat.le_refl _) (Nat.zero_le _) (by simp)) HCA.out.below.size, Kids.nil_ _ _ _⟩)
  have HX := Lib.hid hx
  clear prow pb hx hb
  go_wp2_with fail
  clear p0 p1 p2 plt
  go_loopw [5, 15] (fun tv kv wr => ∃ k : Nat, k ≤ ss.length ∧ kv = .int .i64 k ∧ Tab wr w.heap.size tv k ((ss.take k).map (fun s => heights s.data.toList)) ∧ Below w.heap.size w wr) (fun _ kv _ => ss.length - (intOf kv).toNat)
  case atStart => exact ⟨0, Nat.zero_le _, rfl, HT0.out, HW0.out⟩
  case round =>
    obtain ⟨k, hk, rfl, htab, hbr⟩ := hrel
    have HT := Lib.hid htab
    have HB := Lib.hid hbr
    clear HT0 HW0 htab hbr
    by_cases hlt : k < ss.length
    · obtain ⟨b1, o1, rfl, hb1, hc1⟩ := (HX.out.below HB.out).at_ hlt
      have HFK := Lib.hid (fun w => HFN.out k w hlt)
      have HVK := Lib.hid (HVT.out k hlt)
      generalize ss.getD k .empty = v at *
      have hi : (k : Int) < (ss.length : Int) := by omega
      go_wp2_with fail
      refine (HFK.out _).mono ?_
      rintro e w2 ⟨Ak, ck, rfl, hn, hb2⟩
      obtain ⟨vs, ho, hkd⟩ := HT.out
      have HO := Lib.hid (own_on ho hb2)
      have HN := Lib.hid hn
      have HB2 := Lib.hid hb2
      have HO0 := Lib.hid ho
      have HKD := Lib.hid hkd
      have hsz : w.heap.size ≤ wr.heap.size := HB.out.size
      have hsz2 : w.heap.size ≤ w2.heap.size := Nat.le_trans hsz hb2.size
      clear hn hb2 ho hkd hc1
      generalize heights v.data.toList = ys at *
      go_wp2_with (at_builtin; refine wpList_append_lies _ rfl _ _ 32 rfl w.heap.size 51 i0 (.slice none 0 0) 1 24 Try.underlying32 hi0 hz0 hz1 hz2 rfl (by decide) _ _ _ rfl (HO.out.alloc _) ⟨w2.heap.size, 0, none⟩ 1 1 [.slice Ak ys.length ck] rfl rfl (news_one _ _ _) (one_one rfl) (by decide) (by unfold maxLen; omega) (by omega) (by simp; omega) _ rfl ?_; intro g1 c1 w3 hown1 hgr1 hat1 hlt1)
      have htb := tab_step (gl1 := _) rfl HO0.out HKD.out HN.out HB2.out hsz hown1 (grown_trans (World.grownBy_alloc _ _ _) hgr1) hat1 (by simp)
      have hb4 : Below w.heap.size w w3 := below_app (below_thru HB.out HB2.out) HO.out hgr1
      have HTB := Lib.hid htb
      have HB4 := Lib.hid hb4
      clear hown1 hgr1 hat1 htb hb4 HO HO0 HKD HN HB2 HT HB
      go_wp2_with fail
      go_roundw
      case rel => exact ⟨k + 1, by omega, by go_num, by rw [HVK.out]; exact HTB.out, HB4.out⟩
      case measure => simp [intOf]; omega
    · obtain rfl : k = ss.length := by omega
      rw [List.take_length] at HT
      go_wp2_with fail
      go_ret
      obtain ⟨vs, ho, hkd⟩ := HT.out
      obtain ⟨A9, c9, e9, _⟩ := own_slice9 ho
      subst e9
      exact ⟨A9, c9, by rw [List.length_map]; rfl, by rw [List.length_map]; exact HT.out, HB.out⟩

theorem implTopView_any (d f : Int) (A : Option Addr) (c : Nat) (ss : List ByteArray) (w : World) (hx : SRow w w.heap.size A ss) (hm : ∀ s ∈ ss, s.size ≤ 4294967296) :
    Calls Try.prog 25 #[.agg #[.int .i64 d, .int .i64 f, .slice A ss.length c]] w (NewTab w (viewsOf heights d f ss)) := by
  have HV := Lib.hid (fun w hx => viewsTopView_any d f A c ss w hx hm)
  have HST := Lib.hid (CardAt.start (d := d) (f := f) (c := c) hx)
  have hsz : w.heap.size ≤ (w.alloc (.cells #[.int .i64 d, .int .i64 f, .slice A ss.length c] 26)).heap.size := HST.out.below.size
  generalize viewsOf heights d f ss = xss at *
  clear hx
  go_enter Try.func25, Try.ntmps25
  go_wp2_with fail
  refine (HV.out _ HST.out.full).mono ?_
  rintro e w1 ⟨A1, c1, rfl, ht, hb⟩
  go_wp2_with fail
  go_ret
  exact ⟨A1, c1, rfl, ht.mono hsz, below_thru HST.out.below hb⟩

set_option maxRecDepth 8000 in
theorem specTopView_any (d f : Int) (A : Option Addr) (c : Nat) (ss : List ByteArray) (w : World) (hx : SRow w w.heap.size A ss) (hm : ∀ s ∈ ss, s.size ≤ 4294967296) :
    Calls Try.prog 24 #[.agg #[.int .i64 d, .int .i64 f, .slice A ss.length c]] w (NewTab w (viewsOf heights d f ss)) := by
  have HC := Lib.hid (fun w hx => specCardOk_any d f A c ss w hx hm)
  have HST := Lib.hid (CardAt.start (d := d) (f := f) (c := c) hx)
  obtain ⟨i0, hi0, hz0, hz1, hz2⟩ := info_parts rowInfo
  have hmx := hx.2.1
  unfold maxLen at hmx
  have hsz0 : w.heap.size ≤ (w.alloc (.cells #[.int .i64 d, .int .i64 f, .slice A ss.length c] 26)).heap.size := HST.out.below.size
  have HCA := Lib.hid (show CardAt w ((w.alloc (.cells #[.int .i64 d, .int .i64 f, .slice A ss.length c] 26)).alloc (.cells #[] 51)) d f A c ss from HST.out.on ((Below.refl _ _).alloc (Nat.le_refl _) _))
  have HT0 := Lib.hid (show Tab ((w.alloc (.cells #[.int .i64 d, .int .i64 f, .slice A ss.length c] 26)).alloc (.cells #[] 51)) (w.heap.size + 1) (.slice (some ⟨(w.alloc (.cells #[.int .i64 d, .int .i64 f, .slice A ss.length c] 26)).heap.size, 0, none⟩) 0 0) 0 [] from ⟨[], own_mono (World.ownsRow_made _ #[] 0 (Nat.le_refl _) (Nat.zero_le _) (by simp)) (by simp), Kids.nil_ _ _ _⟩)
  cases h : cardOk d f ss
  · rw [viewsOf_no h]
    rw [h] at HC
    clear h hx
    go_enter Try.func24, Try.ntmps24
    go_wp2_with fail
    go_loopw [3, 4] (fun tv kv wr => kv = .int .i64 (0 : Int) ∧ tv = .slice (some ⟨w.heap.size + 1, 0, none⟩) 0 0 ∧ CardAt w wr d f A c ss ∧ Tab wr w.heap.size (.slice (some ⟨w.heap.size + 1, 0, none⟩) 0 0) 0 []) (fun _ _ _ => 0)
    case atStart => exact ⟨rfl, by simp, HCA.out, by simpa using (HT0.out.mono (Nat.le_succ _))⟩
    case round =>
      obtain ⟨rfl, rfl, hca, htab⟩ := hrel
      have HA := Lib.hid hca
      have HT := Lib.hid htab
      obtain ⟨p0, p1, p2, prow, pb, plt⟩ := hca
      clear HCA HT0 htab prow pb
      by_cases hlt : 0 < ss.length
      · have hi : (0 : Int) < (ss.length : Int) := by omega
        go_wp2_with fail
        refine (HC.out _ HA.out.full).mono ?_
        rintro e w1 ⟨rfl, hb⟩
        have HA1 := Lib.hid (HA.out.on hb)
        have HT1 := Lib.hid (HT.out.on hb)
        clear hb
        go_wp2_with fail
        go_ret
        exact ⟨_, _, rfl, HT1.out, HA1.out.below⟩
      · have hi : ¬ (0 : Int) < (ss.length : Int) := by omega
        go_wp2_with fail
        go_ret
        exact ⟨_, _, rfl, HT.out, HA.out.below⟩
  rw [viewsOf_yes h]
  rw [h] at HC
  have hlen := (cardOk_parts h).2.2.1
  have HVL := Lib.hid (views_len heights ss)
  have HVT := Lib.hid (views_take heights ss)
  have HFN := Lib.hid (fun (k : Nat) w (hk : k < ss.length) => show Calls Try.prog 79 #[.string (ss.getD k .empty)] w (NewInts w (heights (ss.getD k .empty).data.toList)) from by have h0 := l07Heights_any (ss.getD k .empty) w (hm _ (mem_getD hk)); rw [← size_list] at h0; rw [show heights (ss.getD k .empty).data.toList = hP (ss.getD k .empty).data.toList (ss.getD k .empty).data.toList.length from if_pos (cardOk_strip h (mem_getD hk)).1]; exact h0)
  clear h hx
  go_enter Try.func24, Try.ntmps24
  go_wp2_with fail
  go_loopw [3, 4] (fun tv kv wr => ∃ k : Nat, k ≤ ss.length ∧ kv = .int .i64 k ∧ Tab wr (w.heap.size + 1) tv k ((ss.take k).map (fun s => heights s.data.toList)) ∧ CardAt w wr d f A c ss) (fun _ kv _ => ss.length - (intOf kv).toNat)
  case atStart => exact ⟨0, Nat.zero_le _, rfl, by simpa using HT0.out, HCA.out⟩
  case round =>
    obtain ⟨k, hk, rfl, htab, hca⟩ := hrel
    have HT := Lib.hid htab
    have HA := Lib.hid hca
    obtain ⟨p0, p1, p2, prow, pb, plt⟩ := hca
    clear HCA HT0 htab prow pb
    by_cases hlt : k < ss.length
    · have hi : (k : Int) < (ss.length : Int) := by omega
      have HFK := Lib.hid (fun w => HFN.out k w hlt)
      have HVK := Lib.hid (HVT.out k hlt)
      go_wp2_with fail
      refine (HC.out _ HA.out.full).mono ?_
      rintro e w1 ⟨rfl, hb⟩
      have HA1 := Lib.hid (HA.out.on hb)
      have HT1 := Lib.hid (HT.out.on hb)
      clear hb HT HA p0 p1 p2 plt
      obtain ⟨p0, p1, p2, prow, pb, plt⟩ := HA1.out
      obtain ⟨b1, o1, rfl, hb1, hc1⟩ := HA1.out.at_ hlt
      clear prow pb
      generalize ss.getD k .empty = v at *
      go_wp2_with fail
      refine (HFK.out _).mono ?_
      rintro e w2 ⟨Ak, ck, rfl, hn, hb2⟩
      obtain ⟨vs, ho, hkd⟩ := HT1.out
      have HA2 := Lib.hid (HA1.out.on hb2)
      have HO := Lib.hid (own_on ho hb2)
      have HN := Lib.hid hn
      have HB2 := Lib.hid hb2
      have HO0 := Lib.hid ho
      have HKD := Lib.hid hkd
      have hsz : w.heap.size + 1 ≤ w1.heap.size := HA1.out.lt
      have hsz2 : w.heap.size + 1 ≤ w2.heap.size := Nat.le_trans hsz hb2.size
      have HAP := Lib.hid (show ∀ g, u3.ownBlock = some g → w.heap.size < g from fun g hg => (ho.lt g hg).1)
      clear hn hb2 ho hkd hc1 p0 p1 p2 plt
      generalize heights v.data.toList = ys at *
      go_wp2_with (at_builtin; refine wpList_append_lies _ rfl _ _ 32 rfl (w.heap.size + 1) 51 i0 (.slice none 0 0) 1 24 Try.underlying32 hi0 hz0 hz1 hz2 rfl (by decide) _ _ _ rfl (HO.out.alloc _) ⟨w2.heap.size, 0, none⟩ 1 1 [.slice Ak ys.length ck] rfl rfl (news_one _ _ _) (one_one rfl) (by decide) (by unfold maxLen; omega) (by omega) (by simp; omega) _ rfl ?_; intro g1 c1 w3 hown1 hgr1 hat1 hlt1)
      have htb := tab_step (gl1 := _) rfl HO0.out HKD.out HN.out HB2.out hsz hown1 (grown_trans (World.grownBy_alloc _ _ _) hgr1) hat1 (by simp)
      have HA3 := Lib.hid (HA2.out.grown (grown_trans (World.grownBy_alloc _ _ _) hgr1) HAP.out)
      have HTB := Lib.hid htb
      clear hown1 hgr1 hat1 htb HO HO0 HKD HN HB2 HT1 HA1 HA2
      go_wp2_with fail
      go_roundw
      case rel => exact ⟨k + 1, by omega, by go_num, by rw [HVK.out]; exact HTB.out, HA3.out⟩
      case measure => simp [intOf]; omega
    · obtain rfl : k = ss.length := by omega
      rw [List.take_length] at HT
      go_wp2_with fail
      go_ret
      obtain ⟨vs, ho, hkd⟩ := HT.out
      obtain ⟨A9, c9, e9, _⟩ := own_slice9 ho
      subst e9
      exact ⟨A9, c9, by rw [List.length_map]; rfl, by rw [List.length_map]; exact HT.out.mono (Nat.le_succ _), HA.out.below⟩

set_option maxRecDepth 8000 in
theorem viewsFrontView_any (d f : Int) (A : Option Addr) (c : Nat) (ss : List ByteArray) (w : World) (hx : SRow w w.heap.size A ss) (hm : ∀ s ∈ ss, s.size ≤ 4294967296) :
    Calls Try.prog 75 #[.agg #[.int .i64 d, .int .i64 f, .slice A ss.length c], .func (.func 63) #[] #[]] w (NewTab w (viewsOf depths d f ss)) := by
  have HC := Lib.hid (fun w hx => implCardOk_any d f A c ss w hx hm)
  have HST := Lib.hid (CardAt.start (d := d) (f := f) (c := c) hx)
  obtain ⟨i0, hi0, hz0, hz1, hz2⟩ := info_parts rowInfo
  cases h : cardOk d f ss
  · rw [viewsOf_no h]
    rw [h] at HC
    clear h hx
    go_enter Try.func75, Try.ntmps75
    go_wp2_with fail
    refine (HC.out _ HST.out.full).mono ?_
    rintro e w1 ⟨rfl, hb⟩
    go_wp2_with fail
    go_ret
    exact ⟨none, 0, rfl, ⟨[], World.ownsRow_nil _ _ _ _, Kids.nil_ _ _ _⟩, below_thru HST.out.below hb⟩
  rw [viewsOf_yes h]
  rw [h] at HC
  have hlen := (cardOk_parts h).2.2.1
  have HVL := Lib.hid (views_len depths ss)
  have HVT := Lib.hid (views_take depths ss)
  have HFN := Lib.hid (fun (k : Nat) w (hk : k < ss.length) => implDepthsOf_any (ss.getD k .empty) w (hm _ (mem_getD hk)))
  clear h
  go_enter Try.func75, Try.ntmps75
  go_wp2_with fail
  refine (HC.out _ HST.out.full).mono ?_
  rintro e w1 ⟨rfl, hb⟩
  have HCA := Lib.hid (HST.out.on hb)
  obtain ⟨p0, p1, p2, prow, pb, plt⟩ := HCA.out
  have HW0 := Lib.hid (show Below w.heap.size w (w1.alloc (.cells #[] 51)) from below_alloc HCA.out.below _)
  have HT0 := Lib.hid (show Tab (w1.alloc (.cells #[] 51)) w.heap.size (.slice (some ⟨w1.heap.size, 0, none⟩) 0 0) 0 [] from ⟨[], own_mono (World.ownsRow_made w1 #[] 0 (Nat.le_refl _) (Nat.zero_le _) (by simp)) HCA.out.below.size, Kids.nil_ _ _ _⟩)
  have HX := Lib.hid hx
  clear prow pb hx hb
  go_wp2_with fail
  clear p0 p1 p2 plt
  go_loopw [5, 15] (fun tv kv wr => ∃ k : Nat, k ≤ ss.length ∧ kv = .int .i64 k ∧ Tab wr w.heap.size tv k ((ss.take k).map (fun s => depths s.data.toList)) ∧ Below w.heap.size w wr) (fun _ kv _ => ss.length - (intOf kv).toNat)
  case atStart => exact ⟨0, Nat.zero_le _, rfl, HT0.out, HW0.out⟩
  case round =>
    obtain ⟨k, hk, rfl, htab, hbr⟩ := hrel
    have HT := Lib.hid htab
    have HB := Lib.hid hbr
    clear HT0 HW0 htab hbr
    by_cases hlt : k < ss.length
    · obtain ⟨b1, o1, rfl, hb1, hc1⟩ := (HX.out.below HB.out).at_ hlt
      have HFK := Lib.hid (fun w => HFN.out k w hlt)
      have HVK := Lib.hid (HVT.out k hlt)
      generalize ss.getD k .empty = v at *
      have hi : (k : Int) < (ss.length : Int) := by omega
      go_wp2_with fail
      refine (HFK.out _).mono ?_
      rintro e w2 ⟨Ak, ck, rfl, hn, hb2⟩
      obtain ⟨vs, ho, hkd⟩ := HT.out
      have HO := Lib.hid (own_on ho hb2)
      have HN := Lib.hid hn
      have HB2 := Lib.hid hb2
      have HO0 := Lib.hid ho
      have HKD := Lib.hid hkd
      have hsz : w.heap.size ≤ wr.heap.size := HB.out.size
      have hsz2 : w.heap.size ≤ w2.heap.size := Nat.le_trans hsz hb2.size
      clear hn hb2 ho hkd hc1
      generalize depths v.data.toList = ys at *
      go_wp2_with (at_builtin; refine wpList_append_lies _ rfl _ _ 32 rfl w.heap.size 51 i0 (.slice none 0 0) 1 24 Try.underlying32 hi0 hz0 hz1 hz2 rfl (by decide) _ _ _ rfl (HO.out.alloc _) ⟨w2.heap.size, 0, none⟩ 1 1 [.slice Ak ys.length ck] rfl rfl (news_one _ _ _) (one_one rfl) (by decide) (by unfold maxLen; omega) (by omega) (by simp; omega) _ rfl ?_; intro g1 c1 w3 hown1 hgr1 hat1 hlt1)
      have htb := tab_step (gl1 := _) rfl HO0.out HKD.out HN.out HB2.out hsz hown1 (grown_trans (World.grownBy_alloc _ _ _) hgr1) hat1 (by simp)
      have hb4 : Below w.heap.size w w3 := below_app (below_thru HB.out HB2.out) HO.out hgr1
      have HTB := Lib.hid htb
      have HB4 := Lib.hid hb4
      clear hown1 hgr1 hat1 htb hb4 HO HO0 HKD HN HB2 HT HB
      go_wp2_with fail
      go_roundw
      case rel => exact ⟨k + 1, by omega, by go_num, by rw [HVK.out]; exact HTB.out, HB4.out⟩
      case measure => simp [intOf]; omega
    · obtain rfl : k = ss.length := by omega
      rw [List.take_length] at HT
      go_wp2_with fail
      go_ret
      obtain ⟨vs, ho, hkd⟩ := HT.out
      obtain ⟨A9, c9, e9, _⟩ := own_slice9 ho
      subst e9
      exact ⟨A9, c9, by rw [List.length_map]; rfl, by rw [List.length_map]; exact HT.out, HB.out⟩

theorem implFrontView_any (d f : Int) (A : Option Addr) (c : Nat) (ss : List ByteArray) (w : World) (hx : SRow w w.heap.size A ss) (hm : ∀ s ∈ ss, s.size ≤ 4294967296) :
    Calls Try.prog 20 #[.agg #[.int .i64 d, .int .i64 f, .slice A ss.length c]] w (NewTab w (viewsOf depths d f ss)) := by
  have HV := Lib.hid (fun w hx => viewsFrontView_any d f A c ss w hx hm)
  have HST := Lib.hid (CardAt.start (d := d) (f := f) (c := c) hx)
  have hsz : w.heap.size ≤ (w.alloc (.cells #[.int .i64 d, .int .i64 f, .slice A ss.length c] 26)).heap.size := HST.out.below.size
  generalize viewsOf depths d f ss = xss at *
  clear hx
  go_enter Try.func20, Try.ntmps20
  go_wp2_with fail
  refine (HV.out _ HST.out.full).mono ?_
  rintro e w1 ⟨A1, c1, rfl, ht, hb⟩
  go_wp2_with fail
  go_ret
  exact ⟨A1, c1, rfl, ht.mono hsz, below_thru HST.out.below hb⟩

set_option maxRecDepth 8000 in
theorem specFrontView_any (d f : Int) (A : Option Addr) (c : Nat) (ss : List ByteArray) (w : World) (hx : SRow w w.heap.size A ss) (hm : ∀ s ∈ ss, s.size ≤ 4294967296) :
    Calls Try.prog 19 #[.agg #[.int .i64 d, .int .i64 f, .slice A ss.length c]] w (NewTab w (viewsOf depths d f ss)) := by
  have HC := Lib.hid (fun w hx => specCardOk_any d f A c ss w hx hm)
  have HST := Lib.hid (CardAt.start (d := d) (f := f) (c := c) hx)
  obtain ⟨i0, hi0, hz0, hz1, hz2⟩ := info_parts rowInfo
  have hmx := hx.2.1
  unfold maxLen at hmx
  have hsz0 : w.heap.size ≤ (w.alloc (.cells #[.int .i64 d, .int .i64 f, .slice A ss.length c] 26)).heap.size := HST.out.below.size
  have HCA := Lib.hid (show CardAt w ((w.alloc (.cells #[.int .i64 d, .int .i64 f, .slice A ss.length c] 26)).alloc (.cells #[] 51)) d f A c ss from HST.out.on ((Below.refl _ _).alloc (Nat.le_refl _) _))
  have HT0 := Lib.hid (show Tab ((w.alloc (.cells #[.int .i64 d, .int .i64 f, .slice A ss.length c] 26)).alloc (.cells #[] 51)) (w.heap.size + 1) (.slice (some ⟨(w.alloc (.cells #[.int .i64 d, .int .i64 f, .slice A ss.length c] 26)).heap.size, 0, none⟩) 0 0) 0 [] from ⟨[], own_mono (World.ownsRow_made _ #[] 0 (Nat.le_refl _) (Nat.zero_le _) (by simp)) (by simp), Kids.nil_ _ _ _⟩)
  cases h : cardOk d f ss
  · rw [viewsOf_no h]
    rw [h] at HC
    clear h hx
    go_enter Try.func19, Try.ntmps19
    go_wp2_with fail
    go_loopw [3, 4] (fun tv kv wr => kv = .int .i64 (0 : Int) ∧ tv = .slice (some ⟨w.heap.size + 1, 0, none⟩) 0 0 ∧ CardAt w wr d f A c ss ∧ Tab wr w.heap.size (.slice (some ⟨w.heap.size + 1, 0, none⟩) 0 0) 0 []) (fun _ _ _ => 0)
    case atStart => exact ⟨rfl, by simp, HCA.out, by simpa using (HT0.out.mono (Nat.le_succ _))⟩
    case round =>
      obtain ⟨rfl, rfl, hca, htab⟩ := hrel
      have HA := Lib.hid hca
      have HT := Lib.hid htab
      obtain ⟨p0, p1, p2, prow, pb, plt⟩ := hca
      clear HCA HT0 htab prow pb
      by_cases hlt : 0 < ss.length
      · have hi : (0 : Int) < (ss.length : Int) := by omega
        go_wp2_with fail
        refine (HC.out _ HA.out.full).mono ?_
        rintro e w1 ⟨rfl, hb⟩
        have HA1 := Lib.hid (HA.out.on hb)
        have HT1 := Lib.hid (HT.out.on hb)
        clear hb
        go_wp2_with fail
        go_ret
        exact ⟨_, _, rfl, HT1.out, HA1.out.below⟩
      · have hi : ¬ (0 : Int) < (ss.length : Int) := by omega
        go_wp2_with fail
        go_ret
        exact ⟨_, _, rfl, HT.out, HA.out.below⟩
  rw [viewsOf_yes h]
  rw [h] at HC
  have hlen := (cardOk_parts h).2.2.1
  have HVL := Lib.hid (views_len depths ss)
  have HVT := Lib.hid (views_take depths ss)
  have HFN := Lib.hid (fun (k : Nat) w (hk : k < ss.length) => specDepthsOf_any (ss.getD k .empty) w (hm _ (mem_getD hk)))
  clear h hx
  go_enter Try.func19, Try.ntmps19
  go_wp2_with fail
  go_loopw [3, 4] (fun tv kv wr => ∃ k : Nat, k ≤ ss.length ∧ kv = .int .i64 k ∧ Tab wr (w.heap.size + 1) tv k ((ss.take k).map (fun s => depths s.data.toList)) ∧ CardAt w wr d f A c ss) (fun _ kv _ => ss.length - (intOf kv).toNat)
  case atStart => exact ⟨0, Nat.zero_le _, rfl, by simpa using HT0.out, HCA.out⟩
  case round =>
    obtain ⟨k, hk, rfl, htab, hca⟩ := hrel
    have HT := Lib.hid htab
    have HA := Lib.hid hca
    obtain ⟨p0, p1, p2, prow, pb, plt⟩ := hca
    clear HCA HT0 htab prow pb
    by_cases hlt : k < ss.length
    · have hi : (k : Int) < (ss.length : Int) := by omega
      have HFK := Lib.hid (fun w => HFN.out k w hlt)
      have HVK := Lib.hid (HVT.out k hlt)
      go_wp2_with fail
      refine (HC.out _ HA.out.full).mono ?_
      rintro e w1 ⟨rfl, hb⟩
      have HA1 := Lib.hid (HA.out.on hb)
      have HT1 := Lib.hid (HT.out.on hb)
      clear hb HT HA p0 p1 p2 plt
      obtain ⟨p0, p1, p2, prow, pb, plt⟩ := HA1.out
      obtain ⟨b1, o1, rfl, hb1, hc1⟩ := HA1.out.at_ hlt
      clear prow pb
      generalize ss.getD k .empty = v at *
      go_wp2_with fail
      refine (HFK.out _).mono ?_
      rintro e w2 ⟨Ak, ck, rfl, hn, hb2⟩
      obtain ⟨vs, ho, hkd⟩ := HT1.out
      have HA2 := Lib.hid (HA1.out.on hb2)
      have HO := Lib.hid (own_on ho hb2)
      have HN := Lib.hid hn
      have HB2 := Lib.hid hb2
      have HO0 := Lib.hid ho
      have HKD := Lib.hid hkd
      have hsz : w.heap.size + 1 ≤ w1.heap.size := HA1.out.lt
      have hsz2 : w.heap.size + 1 ≤ w2.heap.size := Nat.le_trans hsz hb2.size
      have HAP := Lib.hid (show ∀ g, u3.ownBlock = some g → w.heap.size < g from fun g hg => (ho.lt g hg).1)
      clear hn hb2 ho hkd hc1 p0 p1 p2 plt
      generalize depths v.data.toList = ys at *
      go_wp2_with (at_builtin; refine wpList_append_lies _ rfl _ _ 32 rfl (w.heap.size + 1) 51 i0 (.slice none 0 0) 1 24 Try.underlying32 hi0 hz0 hz1 hz2 rfl (by decide) _ _ _ rfl (HO.out.alloc _) ⟨w2.heap.size, 0, none⟩ 1 1 [.slice Ak ys.length ck] rfl rfl (news_one _ _ _) (one_one rfl) (by decide) (by unfold maxLen; omega) (by omega) (by simp; omega) _ rfl ?_; intro g1 c1 w3 hown1 hgr1 hat1 hlt1)
      have htb := tab_step (gl1 := _) rfl HO0.out HKD.out HN.out HB2.out hsz hown1 (grown_trans (World.grownBy_alloc _ _ _) hgr1) hat1 (by simp)
      have HA3 := Lib.hid (HA2.out.grown (grown_trans (World.grownBy_alloc _ _ _) hgr1) HAP.out)
      have HTB := Lib.hid htb
      clear hown1 hgr1 hat1 htb HO HO0 HKD HN HB2 HT1 HA1 HA2
      go_wp2_with fail
      go_roundw
      case rel => exact ⟨k + 1, by omega, by go_num, by rw [HVK.out]; exact HTB.out, HA3.out⟩
      case measure => simp [intOf]; omega
    · obtain rfl : k = ss.length := by omega
      rw [List.take_length] at HT
      go_wp2_with fail
      go_ret
      obtain ⟨vs, ho, hkd⟩ := HT.out
      obtain ⟨A9, c9, e9, _⟩ := own_slice9 ho
      subst e9
      exact ⟨A9, c9, by rw [List.length_map]; rfl, by rw [List.length_map]; exact HT.out.mono (Nat.le_succ _), HA.out.below⟩

set_option maxRecDepth 8000 in
theorem viewsLayerTable_any (d f : Int) (A : Option Addr) (c : Nat) (ss : List ByteArray) (w : World) (hx : SRow w w.heap.size A ss) (hm : ∀ s ∈ ss, s.size ≤ 4294967296) :
    Calls Try.prog 75 #[.agg #[.int .i64 d, .int .i64 f, .slice A ss.length c], .func (.func 42) #[] #[]] w (NewTab w (viewsOf layers d f ss)) := by
  have HC := Lib.hid (fun w hx => implCardOk_any d f A c ss w hx hm)
  have HST := Lib.hid (CardAt.start (d := d) (f := f) (c := c) hx)
  obtain ⟨i0, hi0, hz0, hz1, hz2⟩ := info_parts rowInfo
  cases h : cardOk d f ss
  · rw [viewsOf_no h]
    rw [h] at HC
    clear h hx
    go_enter Try.func75, Try.ntmps75
    go_wp2_with fail
    refine (HC.out _ HST.out.full).mono ?_
    rintro e w1 ⟨rfl, hb⟩
    go_wp2_with fail
    go_ret
    exact ⟨none, 0, rfl, ⟨[], World.ownsRow_nil _ _ _ _, Kids.nil_ _ _ _⟩, below_thru HST.out.below hb⟩
  rw [viewsOf_yes h]
  rw [h] at HC
  have hlen := (cardOk_parts h).2.2.1
  have HVL := Lib.hid (views_len layers ss)
  have HVT := Lib.hid (views_take layers ss)
  have HFN := Lib.hid (fun (k : Nat) w (hk : k < ss.length) => implLayersOf_any (ss.getD k .empty) w (hm _ (mem_getD hk)))
  clear h
  go_enter Try.func75, Try.ntmps75
  go_wp2_with fail
  refine (HC.out _ HST.out.full).mono ?_
  rintro e w1 ⟨rfl, hb⟩
  have HCA := Lib.hid (HST.out.on hb)
  obtain ⟨p0, p1, p2, prow, pb, plt⟩ := HCA.out
  have HW0 := Lib.hid (show Below w.heap.size w (w1.alloc (.cells #[] 51)) from below_alloc HCA.out.below _)
  have HT0 := Lib.hid (show Tab (w1.alloc (.cells #[] 51)) w.heap.size (.slice (some ⟨w1.heap.size, 0, none⟩) 0 0) 0 [] from ⟨[], own_mono (World.ownsRow_made w1 #[] 0 (Nat.le_refl _) (Nat.zero_le _) (by simp)) HCA.out.below.size, Kids.nil_ _ _ _⟩)
  have HX := Lib.hid hx
  clear prow pb hx hb
  go_wp2_with fail
  clear p0 p1 p2 plt
  go_loopw [5, 15] (fun tv kv wr => ∃ k : Nat, k ≤ ss.length ∧ kv = .int .i64 k ∧ Tab wr w.heap.size tv k ((ss.take k).map (fun s => layers s.data.toList)) ∧ Below w.heap.size w wr) (fun _ kv _ => ss.length - (intOf kv).toNat)
  case atStart => exact ⟨0, Nat.zero_le _, rfl, HT0.out, HW0.out⟩
  case round =>
    obtain ⟨k, hk, rfl, htab, hbr⟩ := hrel
    have HT := Lib.hid htab
    have HB := Lib.hid hbr
    clear HT0 HW0 htab hbr
    by_cases hlt : k < ss.length
    · obtain ⟨b1, o1, rfl, hb1, hc1⟩ := (HX.out.below HB.out).at_ hlt
      have HFK := Lib.hid (fun w => HFN.out k w hlt)
      have HVK := Lib.hid (HVT.out k hlt)
      generalize ss.getD k .empty = v at *
      have hi : (k : Int) < (ss.length : Int) := by omega
      go_wp2_with fail
      refine (HFK.out _).mono ?_
      rintro e w2 ⟨Ak, ck, rfl, hn, hb2⟩
      obtain ⟨vs, ho, hkd⟩ := HT.out
      have HO := Lib.hid (own_on ho hb2)
      have HN := Lib.hid hn
      have HB2 := Lib.hid hb2
      have HO0 := Lib.hid ho
      have HKD := Lib.hid hkd
      have hsz : w.heap.size ≤ wr.heap.size := HB.out.size
      have hsz2 : w.heap.size ≤ w2.heap.size := Nat.le_trans hsz hb2.size
      clear hn hb2 ho hkd hc1
      generalize layers v.data.toList = ys at *
      go_wp2_with (at_builtin; refine wpList_append_lies _ rfl _ _ 32 rfl w.heap.size 51 i0 (.slice none 0 0) 1 24 Try.underlying32 hi0 hz0 hz1 hz2 rfl (by decide) _ _ _ rfl (HO.out.alloc _) ⟨w2.heap.size, 0, none⟩ 1 1 [.slice Ak ys.length ck] rfl rfl (news_one _ _ _) (one_one rfl) (by decide) (by unfold maxLen; omega) (by omega) (by simp; omega) _ rfl ?_; intro g1 c1 w3 hown1 hgr1 hat1 hlt1)
      have htb := tab_step (gl1 := _) rfl HO0.out HKD.out HN.out HB2.out hsz hown1 (grown_trans (World.grownBy_alloc _ _ _) hgr1) hat1 (by simp)
      have hb4 : Below w.heap.size w w3 := below_app (below_thru HB.out HB2.out) HO.out hgr1
      have HTB := Lib.hid htb
      have HB4 := Lib.hid hb4
      clear hown1 hgr1 hat1 htb hb4 HO HO0 HKD HN HB2 HT HB
      go_wp2_with fail
      go_roundw
      case rel => exact ⟨k + 1, by omega, by go_num, by rw [HVK.out]; exact HTB.out, HB4.out⟩
      case measure => simp [intOf]; omega
    · obtain rfl : k = ss.length := by omega
      rw [List.take_length] at HT
      go_wp2_with fail
      go_ret
      obtain ⟨vs, ho, hkd⟩ := HT.out
      obtain ⟨A9, c9, e9, _⟩ := own_slice9 ho
      subst e9
      exact ⟨A9, c9, by rw [List.length_map]; rfl, by rw [List.length_map]; exact HT.out, HB.out⟩

theorem implLayerTable_any (d f : Int) (A : Option Addr) (c : Nat) (ss : List ByteArray) (w : World) (hx : SRow w w.heap.size A ss) (hm : ∀ s ∈ ss, s.size ≤ 4294967296) :
    Calls Try.prog 27 #[.agg #[.int .i64 d, .int .i64 f, .slice A ss.length c]] w (NewTab w (viewsOf layers d f ss)) := by
  have HV := Lib.hid (fun w hx => viewsLayerTable_any d f A c ss w hx hm)
  have HST := Lib.hid (CardAt.start (d := d) (f := f) (c := c) hx)
  have hsz : w.heap.size ≤ (w.alloc (.cells #[.int .i64 d, .int .i64 f, .slice A ss.length c] 26)).heap.size := HST.out.below.size
  generalize viewsOf layers d f ss = xss at *
  clear hx
  go_enter Try.func27, Try.ntmps27
  go_wp2_with fail
  refine (HV.out _ HST.out.full).mono ?_
  rintro e w1 ⟨A1, c1, rfl, ht, hb⟩
  go_wp2_with fail
  go_ret
  exact ⟨A1, c1, rfl, ht.mono hsz, below_thru HST.out.below hb⟩

set_option maxRecDepth 8000 in
theorem specLayerTable_any (d f : Int) (A : Option Addr) (c : Nat) (ss : List ByteArray) (w : World) (hx : SRow w w.heap.size A ss) (hm : ∀ s ∈ ss, s.size ≤ 4294967296) :
    Calls Try.prog 26 #[.agg #[.int .i64 d, .int .i64 f, .slice A ss.length c]] w (NewTab w (viewsOf layers d f ss)) := by
  have HC := Lib.hid (fun w hx => specCardOk_any d f A c ss w hx hm)
  have HST := Lib.hid (CardAt.start (d := d) (f := f) (c := c) hx)
  obtain ⟨i0, hi0, hz0, hz1, hz2⟩ := info_parts rowInfo
  have hmx := hx.2.1
  unfold maxLen at hmx
  have hsz0 : w.heap.size ≤ (w.alloc (.cells #[.int .i64 d, .int .i64 f, .slice A ss.length c] 26)).heap.size := HST.out.below.size
  have HCA := Lib.hid (show CardAt w ((w.alloc (.cells #[.int .i64 d, .int .i64 f, .slice A ss.length c] 26)).alloc (.cells #[] 51)) d f A c ss from HST.out.on ((Below.refl _ _).alloc (Nat.le_refl _) _))
  have HT0 := Lib.hid (show Tab ((w.alloc (.cells #[.int .i64 d, .int .i64 f, .slice A ss.length c] 26)).alloc (.cells #[] 51)) (w.heap.size + 1) (.slice (some ⟨(w.alloc (.cells #[.int .i64 d, .int .i64 f, .slice A ss.length c] 26)).heap.size, 0, none⟩) 0 0) 0 [] from ⟨[], own_mono (World.ownsRow_made _ #[] 0 (Nat.le_refl _) (Nat.zero_le _) (by simp)) (by simp), Kids.nil_ _ _ _⟩)
  cases h : cardOk d f ss
  · rw [viewsOf_no h]
    rw [h] at HC
    clear h hx
    go_enter Try.func26, Try.ntmps26
    go_wp2_with fail
    go_loopw [3, 4] (fun tv kv wr => kv = .int .i64 (0 : Int) ∧ tv = .slice (some ⟨w.heap.size + 1, 0, none⟩) 0 0 ∧ CardAt w wr d f A c ss ∧ Tab wr w.heap.size (.slice (some ⟨w.heap.size + 1, 0, none⟩) 0 0) 0 []) (fun _ _ _ => 0)
    case atStart => exact ⟨rfl, by simp, HCA.out, by simpa using (HT0.out.mono (Nat.le_succ _))⟩
    case round =>
      obtain ⟨rfl, rfl, hca, htab⟩ := hrel
      have HA := Lib.hid hca
      have HT := Lib.hid htab
      obtain ⟨p0, p1, p2, prow, pb, plt⟩ := hca
      clear HCA HT0 htab prow pb
      by_cases hlt : 0 < ss.length
      · have hi : (0 : Int) < (ss.length : Int) := by omega
        go_wp2_with fail
        refine (HC.out _ HA.out.full).mono ?_
        rintro e w1 ⟨rfl, hb⟩
        have HA1 := Lib.hid (HA.out.on hb)
        have HT1 := Lib.hid (HT.out.on hb)
        clear hb
        go_wp2_with fail
        go_ret
        exact ⟨_, _, rfl, HT1.out, HA1.out.below⟩
      · have hi : ¬ (0 : Int) < (ss.length : Int) := by omega
        go_wp2_with fail
        go_ret
        exact ⟨_, _, rfl, HT.out, HA.out.below⟩
  rw [viewsOf_yes h]
  rw [h] at HC
  have hlen := (cardOk_parts h).2.2.1
  have HVL := Lib.hid (views_len layers ss)
  have HVT := Lib.hid (views_take layers ss)
  have HFN := Lib.hid (fun (k : Nat) w (hk : k < ss.length) => specLayersOf_any (ss.getD k .empty) w (hm _ (mem_getD hk)))
  clear h hx
  go_enter Try.func26, Try.ntmps26
  go_wp2_with fail
  go_loopw [3, 4] (fun tv kv wr => ∃ k : Nat, k ≤ ss.length ∧ kv = .int .i64 k ∧ Tab wr (w.heap.size + 1) tv k ((ss.take k).map (fun s => layers s.data.toList)) ∧ CardAt w wr d f A c ss) (fun _ kv _ => ss.length - (intOf kv).toNat)
  case atStart => exact ⟨0, Nat.zero_le _, rfl, by simpa using HT0.out, HCA.out⟩
  case round =>
    obtain ⟨k, hk, rfl, htab, hca⟩ := hrel
    have HT := Lib.hid htab
    have HA := Lib.hid hca
    obtain ⟨p0, p1, p2, prow, pb, plt⟩ := hca
    clear HCA HT0 htab prow pb
    by_cases hlt : k < ss.length
    · have hi : (k : Int) < (ss.length : Int) := by omega
      have HFK := Lib.hid (fun w => HFN.out k w hlt)
      have HVK := Lib.hid (HVT.out k hlt)
      go_wp2_with fail
      refine (HC.out _ HA.out.full).mono ?_
      rintro e w1 ⟨rfl, hb⟩
      have HA1 := Lib.hid (HA.out.on hb)
      have HT1 := Lib.hid (HT.out.on hb)
      clear hb HT HA p0 p1 p2 plt
      obtain ⟨p0, p1, p2, prow, pb, plt⟩ := HA1.out
      obtain ⟨b1, o1, rfl, hb1, hc1⟩ := HA1.out.at_ hlt
      clear prow pb
      generalize ss.getD k .empty = v at *
      go_wp2_with fail
      refine (HFK.out _).mono ?_
      rintro e w2 ⟨Ak, ck, rfl, hn, hb2⟩
      obtain ⟨vs, ho, hkd⟩ := HT1.out
      have HA2 := Lib.hid (HA1.out.on hb2)
      have HO := Lib.hid (own_on ho hb2)
      have HN := Lib.hid hn
      have HB2 := Lib.hid hb2
      have HO0 := Lib.hid ho
      have HKD := Lib.hid hkd
      have hsz : w.heap.size + 1 ≤ w1.heap.size := HA1.out.lt
      have hsz2 : w.heap.size + 1 ≤ w2.heap.size := Nat.le_trans hsz hb2.size
      have HAP := Lib.hid (show ∀ g, u3.ownBlock = some g → w.heap.size < g from fun g hg => (ho.lt g hg).1)
      clear hn hb2 ho hkd hc1 p0 p1 p2 plt
      generalize layers v.data.toList = ys at *
      go_wp2_with (at_builtin; refine wpList_append_lies _ rfl _ _ 32 rfl (w.heap.size + 1) 51 i0 (.slice none 0 0) 1 24 Try.underlying32 hi0 hz0 hz1 hz2 rfl (by decide) _ _ _ rfl (HO.out.alloc _) ⟨w2.heap.size, 0, none⟩ 1 1 [.slice Ak ys.length ck] rfl rfl (news_one _ _ _) (one_one rfl) (by decide) (by unfold maxLen; omega) (by omega) (by simp; omega) _ rfl ?_; intro g1 c1 w3 hown1 hgr1 hat1 hlt1)
      have htb := tab_step (gl1 := _) rfl HO0.out HKD.out HN.out HB2.out hsz hown1 (grown_trans (World.grownBy_alloc _ _ _) hgr1) hat1 (by simp)
      have HA3 := Lib.hid (HA2.out.grown (grown_trans (World.grownBy_alloc _ _ _) hgr1) HAP.out)
      have HTB := Lib.hid htb
      clear hown1 hgr1 hat1 htb HO HO0 HKD HN HB2 HT1 HA1 HA2
      go_wp2_with fail
      go_roundw
      case rel => exact ⟨k + 1, by omega, by go_num, by rw [HVK.out]; exact HTB.out, HA3.out⟩
      case measure => simp [intOf]; omega
    · obtain rfl : k = ss.length := by omega
      rw [List.take_length] at HT
      go_wp2_with fail
      go_ret
      obtain ⟨vs, ho, hkd⟩ := HT.out
      obtain ⟨A9, c9, e9, _⟩ := own_slice9 ho
      subst e9
      exact ⟨A9, c9, by rw [List.length_map]; rfl, by rw [List.length_map]; exact HT.out.mono (Nat.le_succ _), HA.out.below⟩

end Go.Proofs.Ytkhlolhmaoenoaa
