
/-
  Contracts of TopView, FrontView and LayerTable on both sides; no condition beyond the size of the texts.
-/
import Derived.Test.YtjdelolfbnaiaaaTabs
import Derived.Test.YtjdelolfbnaiaaaViews
import Derived.Test.YtjdelolfbnaiaaaLayers
import Derived.Test.YtjdelolfbnaiaaaCardAt
namespace Go.Proofs.Ytjdelolfbnaiaaa
open Go.ChangeShapes Go.WideShapes Go.ChangeAt Go.RowKit Go.Deep Go.BigFrame
set_option linter.unusedVariables false
set_option linter.unusedSimpArgs false

/-- what a view tells of all strips of a valid card -/
def viewsOf (F : List UInt8 → List Int) (d f : Int) (ss : List ByteArray) : List (List Int) := if cardOk d f ss = true then ss.map (fun s => F s.data.toList) else []
theorem viewsOf_yes {F : List UInt8 → List Int} {d f : Int} {ss : List ByteArray} (h : cardOk d f ss = true) : viewsOf F d f ss = ss.map (fun s => F s.data.toList) := if_pos h
theorem viewsOf_no {F : List UInt8 → List Int} {d f : Int} {ss : List ByteArray} (h : cardOk d f ss = false) : viewsOf F d f ss = [] := if_neg (by rw [h]; simp)
theorem views_take (F : List UInt8 → List Int) (ss : List ByteArray) (k : Nat) (h : k < ss.length) : (ss.take (k + 1)).map (fun s => F s.data.toList) = (ss.take k).map (fun s => F s.data.toList) ++ [F (ss.getD k .empty).data.toList] := by
  rw [take_snoc_getD ss k .empty h, List.map_append]
  rfl
theorem CardAt.grown {w wr w' : World} {d f : Int} {A : Option Addr} {c : Nat} {ss : List ByteArray} {row : Option Nat} (h : CardAt w wr d f A c ss) (hg : wr.grownBy w' row) (hr : ∀ g, row = some g → w.heap.size < g) : CardAt w w' d f A c ss := by
  have hk : ∀ b, b ≤ w.heap.size → w'.heap[b]? = wr.heap[b]? := fun b hb => hg.block b (Nat.lt_of_le_of_lt hb h.lt) (fun e => by have := hr b e.symm; omega)
  have h0 := hk _ (Nat.le_refl _)
  exact ⟨(World.cell?_of_block h0).trans h.c0, (World.cell?_of_block h0).trans h.c1, (World.cell?_of_block h0).trans h.c2, Row.keep h.row (fun b o hl => World.cell?_of_block (hk b (Nat.le_of_lt hl))),
    h.below.grown hg (Nat.le_of_lt h.lt) (fun g e => Nat.le_of_lt (hr g e)), Nat.lt_of_lt_of_le h.lt hg.size⟩
theorem views_len (F : List UInt8 → List Int) (ss : List ByteArray) (k : Nat) (h : k ≤ ss.length) : ((ss.take k).map (fun s => F s.data.toList)).length = k := by simp; omega

set_option maxRecDepth 8000 in
theorem viewsTopView_any (d f : Int) (A : Option Addr) (c : Nat) (ss : List ByteArray) (w : World) (hx : SRow w w.heap.size A ss) (hm : ∀ s ∈ ss, s.size ≤ 4294967296) :
    Calls Try.prog 69 #[.agg #[.int .i64 d, .int .i64 f, .slice A ss.length c], .func (.func 70) #[] #[]] w (NewTab w (viewsOf heights d f ss)) := by
  have HC := Lib.hid (fun w hx => implCardOk_any d f A c ss w hx hm)
  have HST := Lib.hid (CardAt.start (d := d) (f := f) (c := c) hx)
  obtain ⟨i0, hi0, hz0, hz1, hz2⟩ := info_parts rowInfo
  cases h : cardOk d f ss
  · rw [viewsOf_no h]
    rw [h] at HC
    clear h hx
    go_enter Try.func69, Try.ntmps69
    go_wp2_with fail
    refine (HC.out _ HST.out.full).mono ?_
    rintro e w1 ⟨rfl, hb⟩
    go_wp2_with fail
    go_ret
    exact ⟨none, 0, rfl, ⟨[], World.ownsRow_nil _ _ _ _, Kids.nil_ _ _ _⟩, below_thru HST.out.below hb⟩
  rw [viewsOf_yes h]
  rw [h] at HC
  have hlen := (cardOk_parts h).2.2.1
  have HVL := Lib.hid (views_len heights ss)
  have HVT := Lib.hid (views_take heights ss)
  have HFN := Lib.hid (fun (k : Nat) w (hk : k < ss.length) => implHeightsOf_any (ss.getD k .empty) w (hm _ (mem_getD hk)))
  clear h
  go_enter Try.func69, Try.ntmps69
  go_wp2_with fail
  refine (HC.out _ HST.out.full).mono ?_
  rintro e w1 ⟨rfl, hb⟩
  have HCA := Lib.hid (HST.out.on hb)
  obtain ⟨p0, p1, p2, prow, pb, plt⟩ := HCA.out
  have HW0 := Lib.hid (show Below w.heap.size w (w1.alloc (.cells #[] 58)) from below_alloc HCA.out.below _)
  have HT0 := Lib.hid (show Tab (w1.alloc (.cells #[] 58)) w.heap.size (.slice (some ⟨w1.heap.size, 0, none⟩) 0 0) 0 [] from ⟨[], own_mono (World.ownsRow_made w1 #[] 0 (Nat.le_refl _) (Nat.zero_le _) (by simp)) HCA.out.below.size, Kids.nil_ _ _ _⟩)
  have HX := Lib.hid hx
  clear prow pb hx hb
  go_wp2_with fail
  clear p0 p1 p2 plt
  go_loopw [5, 15] (fun tv kv wr => ∃ k : Nat, k ≤ ss.length ∧ kv = .int .i64 k ∧ Tab wr w.heap.size tv k ((ss.take k).map (fun s => heights s.data.toList)) ∧ Below w.heap.size w wr) (fun _ kv _ => ss.length - (intOf kv).toNat)
  case atStart => exact ⟨0, Nat.zero_le _, rfl, HT0.out, HW0.out⟩
  case round =>
    obtain ⟨k, hk, rfl, htab, hbr⟩ := hrel
    have HT := Lib.hid htab
    have HB := Lib.hid hbr
    clear HT0 HW0 htab hbr
    by_cases hlt : k < ss.length
    · obtain ⟨b1, o1, rfl, hb1, hc1⟩ := (HX.out.below HB.out).at_ hlt
      have HFK := Lib.hid (fun w => HFN.out k w hlt)
      have HVK := Lib.hid (HVT.out k hlt)
      generalize ss.getD k .empty = v at *
      have hi : (k : Int) < (ss.length : Int) := by omega
      go_wp2_with fail
      refine (HFK.out _).mono ?_
      rintro e w2 ⟨Ak, ck, rfl, hn, hb2⟩
      obtain ⟨vs, ho, hkd⟩ := HT.out
      have HO := Lib.hid (own_on ho hb2)
      have HN := Lib.hid hn
      have HB2 := Lib.hid hb2
      have HO0 := Lib.hid ho
      have HKD := Lib.hid hkd
      have hsz : w.heap.size ≤ wr.heap.size := HB.out.size
      have hsz2 : w.heap.size ≤ w2.heap.size := Nat.le_trans hsz hb2.size
      clear hn hb2 ho hkd hc1
      generalize heights v.data.toList = ys at *
      go_wp2_with (at_builtin; refine wpList_append_lies _ rfl _ _ 60 rfl w.heap.size 58 i0 (.slice none 0 0) 1 24 Try.underlying60 hi0 hz0 hz1 hz2 rfl (by decide) _ _ _ rfl (HO.out.alloc _) ⟨w2.heap.size, 0, none⟩ 1 1 [.slice Ak ys.length ck] rfl rfl (news_one _ _ _) (one_one rfl) (by decide) (by unfold maxLen; omega) (by omega) (by simp; omega) _ rfl ?_; intro g1 c1 w3 hown1 hgr1 hat1 hlt1)
      have htb := tab_step (gl1 := _) rfl HO0.out HKD.out HN.out HB2.out hsz hown1 (grown_trans (World.grownBy_alloc _ _ _) hgr1) hat1 (by simp)
      have hb4 : Below w.heap.size w w3 := below_app (below_thru HB.out HB2.out) HO.out hgr1
      have HTB := Lib.hid htb
      have HB4 := Lib.hid hb4
      clear hown1 hgr1 hat1 htb hb4 HO HO0 HKD HN HB2 HT HB
      go_wp2_with fail
      go_roundw
      case rel => exact ⟨k + 1, by omega, by go_num, by rw [HVK.out]; exact HTB.out, HB4.out⟩
      case measure => simp [intOf]; omega
    · obtain rfl : k = ss.length := by omega
      rw [List.take_length] at HT
      go_wp2_with fail
      go_ret
      obtain ⟨vs, ho, hkd⟩ := HT.out
      obtain ⟨A9, c9, e9, _⟩ := own_slice9 ho
      subst e9
      exact ⟨A9, c9, by rw [List.length_map]; rfl, by rw [List.length_map]; exact HT.out, HB.out⟩

theorem implTopView_any (d f : Int) (A : Option Addr) (c : Nat) (ss : List ByteArray) (w : World) (hx : SRow w w.heap.size A ss) (hm : ∀ s ∈ ss, s.size ≤ 4294967296) :
    Calls Try.prog 55 #[.agg #[.int .i64 d, .int .i64 f, .slice A ss.length c]] w (NewTab w (viewsOf heights d f ss)) := by
  have HV := Lib.hid (fun w hx => viewsTopView_any d f A c ss w hx hm)
  have HST := Lib.hid (CardAt.start (d := d) (f := f) (c := c) hx)
  have hsz : w.heap.size ≤ (w.alloc (.cells #[.int .i64 d, .int .i64 f, .slice A ss.length c] 27)).heap.size := HST.out.below.size
  generalize viewsOf heights d f ss = xss at *
  clear hx
  go_enter Try.func55, Try.ntmps55
  go_wp2_with fail
  refine (HV.out _ HST.out.full).mono ?_
  rintro e w1 ⟨A1, c1, rfl, ht, hb⟩
  go_wp2_with fail
  go_ret
  exact ⟨A1, c1, rfl, ht.mono hsz, below_thru HST.out.below hb⟩

set_option maxRecDepth 8000 in
theorem viewsLayerTable_any (d f : Int) (A : Option Addr) (c : Nat) (ss : List ByteArray) (w : World) (hx : SRow w w.heap.size A ss) (hm : ∀ s ∈ ss, s.size ≤ 4294967296) :
    Calls Try.prog 69 #[.agg #[.int .i64 d, .int .i64 f, .slice A ss.length c], .func (.func 73) #[] #[]] w (NewTab w (viewsOf layers d f ss)) := by
  have HC := Lib.hid (fun w hx => implCardOk_any d f A c ss w hx hm)
  have HST := Lib.hid (CardAt.start (d := d) (f := f) (c := c) hx)
  obtain ⟨i0, hi0, hz0, hz1, hz2⟩ := info_parts rowInfo
  cases h : cardOk d f ss
  · rw [viewsOf_no h]
    rw [h] at HC
    clear h hx
    go_enter Try.func69, Try.ntmps69
    go_wp2_with fail
    refine (HC.out _ HST.out.full).mono ?_
    rintro e w1 ⟨rfl, hb⟩
    go_wp2_with fail
    go_ret
    exact ⟨none, 0, rfl, ⟨[], World.ownsRow_nil _ _ _ _, Kids.nil_ _ _ _⟩, below_thru HST.out.below hb⟩
  rw [viewsOf_yes h]
  rw [h] at HC
  have hlen := (cardOk_parts h).2.2.1
  have HVL := Lib.hid (views_len layers ss)
  have HVT := Lib.hid (views_take layers ss)
  have HFN := Lib.hid (fun (k : Nat) w (hk : k < ss.length) => implLayersOf_any (ss.getD k .empty) w (hm _ (mem_getD hk)))
  clear h
  go_enter Try.func69, Try.ntmps69
  go_wp2_with fail
  refine (HC.out _ HST.out.full).mono ?_
  rintro e w1 ⟨rfl, hb⟩
  have HCA := Lib.hid (HST.out.on hb)
  obtain ⟨p0, p1, p2, prow, pb, plt⟩ := HCA.out
  have HW0 := Lib.hid (show Below w.heap.size w (w1.alloc (.cells #[] 58)) from below_alloc HCA.out.below _)
  have HT0 := Lib.hid (show Tab (w1.alloc (.cells #[] 58)) w.heap.size (.slice (some ⟨w1.heap.size, 0, none⟩) 0 0) 0 [] from ⟨[], own_mono (World.ownsRow_made w1 #[] 0 (Nat.le_refl _) (Nat.zero_le _) (by simp)) HCA.out.below.size, Kids.nil_ _ _ _⟩)
  have HX := Lib.hid hx
  clear prow pb hx hb
  go_wp2_with fail
  clear p0 p1 p2 plt
  go_loopw [5, 15] (fun tv kv wr => ∃ k : Nat, k ≤ ss.length ∧ kv = .int .i64 k ∧ Tab wr w.heap.size tv k ((ss.take k).map (fun s => layers s.data.toList)) ∧ Below w.heap.size w wr) (fun _ kv _ => ss.length - (intOf kv).toNat)
  case atStart => exact ⟨0, Nat.zero_le _, rfl, HT0.out, HW0.out⟩
  case round =>
    obtain ⟨k, hk, rfl, htab, hbr⟩ := hrel
    have HT := Lib.hid htab
    have HB := Lib.hid hbr
    clear HT0 HW0 htab hbr
    by_cases hlt : k < ss.length
    · obtain ⟨b1, o1, rfl, hb1, hc1⟩ := (HX.out.below HB.out).at_ hlt
      have HFK := Lib.hid (fun w => HFN.out k w hlt)
      have HVK := Lib.hid (HVT.out k hlt)
      generalize ss.getD k .empty = v at *
      have hi : (k : Int) < (ss.length : Int) := by omega
      go_wp2_with fail
      refine (HFK.out _).mono ?_
      rintro e w2 ⟨Ak, ck, rfl, hn, hb2⟩
      obtain ⟨vs, ho, hkd⟩ := HT.out
      have HO := Lib.hid (own_on ho hb2)
      have HN := Lib.hid hn
      have HB2 := Lib.hid hb2
      have HO0 := Lib.hid ho
      have HKD := Lib.hid hkd
      have hsz : w.heap.size ≤ wr.heap.size := HB.out.size
      have hsz2 : w.heap.size ≤ w2.heap.size := Nat.le_trans hsz hb2.size
      clear hn hb2 ho hkd hc1
      generalize layers v.data.toList = ys at *
      go_wp2_with (at_builtin; refine wpList_append_lies _ rfl _ _ 60 rfl w.heap.size 58 i0 (.slice none 0 0) 1 24 Try.underlying60 hi0 hz0 hz1 hz2 rfl (by decide) _ _ _ rfl (HO.out.alloc _) ⟨w2.heap.size, 0, none⟩ 1 1 [.slice Ak ys.length ck] rfl rfl (news_one _ _ _) (one_one rfl) (by decide) (by unfold maxLen; omega) (by omega) (by simp; omega) _ rfl ?_; intro g1 c1 w3 hown1 hgr1 hat1 hlt1)
      have htb := tab_step (gl1 := _) rfl HO0.out HKD.out HN.out HB2.out hsz hown1 (grown_trans (World.grownBy_alloc _ _ _) hgr1) hat1 (by simp)
      have hb4 : Below w.heap.size w w3 := below_app (below_thru HB.out HB2.out) HO.out hgr1
      have HTB := Lib.hid htb
      have HB4 := Lib.hid hb4
      clear hown1 hgr1 hat1 htb hb4 HO HO0 HKD HN HB2 HT HB
      go_wp2_with fail
      go_roundw
      case rel => exact ⟨k + 1, by omega, by go_num, by rw [HVK.out]; exact HTB.out, HB4.out⟩
      case measure => simp [intOf]; omega
    · obtain rfl : k = ss.length := by omega
      rw [List.take_length] at HT
      go_wp2_with fail
      go_ret
      obtain ⟨vs, ho, hkd⟩ := HT.out
      obtain ⟨A9, c9, e9, _⟩ := own_slice9 ho
      subst e9
      exact ⟨A9, c9, by rw [List.length_map]; rfl, by rw [List.length_map]; exact HT.out, HB.out⟩

end Go.Proofs.Ytjdelolfbnaiaaa
