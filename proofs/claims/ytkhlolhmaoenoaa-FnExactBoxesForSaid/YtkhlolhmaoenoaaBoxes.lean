
/-
  Contracts of BoxesFor on both sides; no condition beyond the size of the texts.
-/
import Derived.Test.YtkhlolhmaoenoaaWayUp
import Derived.Test.YtkhlolhmaoenoaaCardAt
import Derived.Test.YtkhlolhmaoenoaaFlat
import Derived.Test.YtkhlolhmaoenoaaTabs
import Derived.Test.YtkhlolhmaoenoaaBoxM
import Derived.Test.YtkhlolhmaoenoaaTurnC
import Derived.Deep.AppendLies
import Derived.Deep.RegionLaw
import Derived.Deep.RegionHeld3
namespace Go.Proofs.Ytkhlolhmaoenoaa
open Go.ChangeShapes Go.WideShapes Go.ChangeAt Go.RowKit Go.Deep Go.BigFrame
set_option linter.unusedVariables false
set_option linter.unusedSimpArgs false

theorem boxInfo : (Try.prog.info? 72).map (fun i => (i.zero, i.size, i.bytes)) = some (some (.agg #[.int .i64 0, .int .i64 0, .int .i64 0]), 3, 24) := by kernel_rfl
theorem repeatF_rep (c : Nat) : (⟨(Lib.repeatL (⟨#[102]⟩ : ByteArray).data.toList c).toArray⟩ : ByteArray) = bs (repF c) := by
  have h : Lib.repeatL (⟨#[102]⟩ : ByteArray).data.toList c = repF c := by
    induction c with
    | zero => rfl
    | succ c ih =>
      unfold Lib.repeatL
      rw [ih]
      rfl
  rw [h]
  rfl
theorem repeatF_any (c : Nat) (w : World) (hc : c ≤ 4294967296) : Calls Try.prog 107 #[.string ⟨#[102]⟩, .int .i64 c] w fun e w' => e = .returned (.string (bs (repF c))) ∧ Below w.heap.size w w' := by
  rw [← repeatF_rep]
  have h1 : (⟨#[102]⟩ : ByteArray).size = 1 := rfl
  exact Try.strings_Repeat ⟨#[102]⟩ c w (by omega) (by rw [h1]; omega)
theorem implFlatStrip_any (d f : Nat) (w : World) (hd : 1 ≤ d ∧ d ≤ 8) (hf : 1 ≤ f ∧ f ≤ 8) : Calls Try.prog 83 #[.int .i64 d, .int .i64 f] w fun e w' => e = .returned (.string (bs (flat d f))) ∧ Below w.heap.size w w' := by
  have H1 := Lib.hid (fun w => isSteps_any d w)
  have H2 := Lib.hid (fun w => isSteps_any f w)
  rw [show inB (d : Int) 1 8 = true from inB_iff.2 (by omega)] at H1
  rw [show inB (f : Int) 1 8 = true from inB_iff.2 (by omega)] at H2
  have HD := Lib.hid (fun w => repeat_any d w (by omega))
  have HG := Lib.hid (fun w => repeatF_any f w (by omega))
  have hz1 : (bs (rep d)).size ≤ 8 := by rw [bs_size, rep_len]; omega
  have hz2 : (bs (repF f)).size ≤ 8 := by rw [bs_size, repF_len]; omega
  have he : bs (flat d f) = bs (rep d) ++ bs (repF f) := (bs_app _ _).symm
  rw [he]
  clear he
  generalize bs (rep d) = u at *
  generalize bs (repF f) = v at *
  go_enter Try.func83, Try.ntmps83
  go_wp2_with fail
  refine (H1.out _).mono ?_
  rintro e w1 ⟨rfl, rfl⟩
  go_wp2_with fail
  refine (H2.out _).mono ?_
  rintro e w1 ⟨rfl, rfl⟩
  go_wp2_with fail
  refine (HD.out _).mono ?_
  rintro e w2 ⟨rfl, hb2⟩
  have HB2 := Lib.hid hb2
  clear hb2
  go_wp2_with fail
  refine (HG.out _).mono ?_
  rintro e w3 ⟨rfl, hb3⟩
  have HB3 := Lib.hid (below_thru HB2.out hb3)
  clear hb3
  go_wp2_with fail
  go_ret
  exact ⟨rfl, HB3.out⟩

/-- the boxes of one strip -/
def boxRow (j : Nat) (zs : List Int) : List (Int × Int × Int) := zs.map fun z => ((j : Int), (j : Int), z)
/-- the boxes of the first k strips -/
def boxesP (W : List (List Int)) : Nat → List (Int × Int × Int)
  | 0 => []
  | k + 1 => boxesP W k ++ boxRow k (W.getD k [])
theorem cells3_app (a b : List (Int × Int × Int)) : cells3 (a ++ b) = cells3 a ++ cells3 b := List.flatMap_append
theorem boxRow_snoc (j : Nat) (zs : List Int) (i : Nat) (h : i < zs.length) : boxRow j (zs.take (i + 1)) = boxRow j (zs.take i) ++ [((j : Int), (j : Int), zs.getD i 0)] := by
  unfold boxRow
  rw [take_snoc_getD zs i 0 h, List.map_append]
  rfl
theorem boxRow_len (j : Nat) (zs : List Int) : (boxRow j zs).length = zs.length := by simp [boxRow]
theorem boxesP_len (W : List (List Int)) (M : Nat) (h : ∀ k, (W.getD k []).length ≤ M) : ∀ k, (boxesP W k).length ≤ M * k := by
  intro k
  induction k with
  | zero => exact Nat.le_refl _
  | succ k ih =>
    show (boxesP W k ++ boxRow k (W.getD k [])).length ≤ _
    rw [List.length_append, boxRow_len, Nat.mul_succ]
    have := h k
    omega
theorem news_three (w : World) (a b c : Value) (t : TypeId) : ∀ (j : Nat) (u : Value), [a, b, c][j]? = some u → (w.alloc (.cells #[a, b, c] t)).cell? ((⟨w.heap.size, 0, none⟩ : Addr).add j) = some u :=
  World.news_of_block (w := w.alloc (.cells #[a, b, c] t)) (B := w.heap.size) (cs := #[a, b, c]) (t := t) (fr := (0, 0)) (by show (w.heap.push _)[w.heap.size]? = _; simp)
theorem one_three (x y z : Int) : ∀ u ∈ [Value.int .i64 x, .int .i64 y, .int .i64 z], u.oneCell' = true := by
  intro u hu
  simp only [List.mem_cons, List.not_mem_nil, or_false] at hu
  rcases hu with rfl | rfl | rfl <;> rfl

/-- the ways up of all strips of a card -/
def waysOf (d f : Int) (ss : List ByteArray) : List (List Int) := ss.map fun s => wayUp (flat d.toNat f.toNat) s.data.toList
theorem waysOf_get (d f : Int) (ss : List ByteArray) (k : Nat) (h : k < ss.length) : (waysOf d f ss).getD k [] = wayUp (flat d.toNat f.toNat) (ss.getD k .empty).data.toList := by
  simp [waysOf, List.getD, h]
theorem wayUp_300 (s t : List UInt8) : (wayUp s t).length ≤ 300 := by
  unfold wayUp
  by_cases h : isAbove t s = true
  · rw [if_pos h]
    have hp := isAbove_parts h
    have a := isStrip_parts (sameFrame_parts hp.1).1
    have b := isStrip_parts (sameFrame_parts hp.1).2.1
    have c := gap_le (t := t) (s := s)
    have d : (s.length + 1) * t.length ≤ 17 * 16 := Nat.mul_le_mul (by omega) (by omega)
    have e := wayF_len (t := t) (gap t s) s
    omega
  · rw [if_neg h]
    exact Nat.zero_le _
def boxesFor (d f : Int) (ss : List ByteArray) : List (Int × Int × Int) := if cardOk d f ss = true then boxesP (waysOf d f ss) ss.length else []
theorem boxes_facts (d f : Int) (ss : List ByteArray) : (∀ k, ((waysOf d f ss).getD k []).length ≤ 300) := by
  intro k
  by_cases h : k < ss.length
  · rw [waysOf_get d f ss k h]; exact wayUp_300 _ _
  · have : (waysOf d f ss).getD k [] = [] := by
      rw [List.getD_eq_getElem?_getD, List.getElem?_eq_none (by simp [waysOf]; omega)]
      rfl
    rw [this]
    exact Nat.zero_le _
/-- new boxes of the call's own, and a word -/
def NewBoxes (w : World) (ts : List (Int × Int × Int)) (b : Bool) (e : Ending) (w' : World) : Prop :=
  ∃ A c, e = .returned (.tuple #[.slice A ts.length c, .bool b]) ∧ w'.ownsRow w.heap.size 72 3 (.slice A ts.length c) ts.length (cells3 ts) ∧ Below w.heap.size w w'

set_option maxHeartbeats 1000000 in
set_option maxRecDepth 8000 in
theorem implBoxesFor_any (d f : Int) (A : Option Addr) (c : Nat) (ss : List ByteArray) (w : World) (hx : SRow w w.heap.size A ss) (hm : ∀ s ∈ ss, s.size ≤ 4294967296) :
    Calls Try.prog 29 #[.agg #[.int .i64 d, .int .i64 f, .slice A ss.length c]] w (NewBoxes w (boxesFor d f ss) (cardOk d f ss)) := by
  have HC := Lib.hid (fun w hx => implCardOk_any d f A c ss w hx hm)
  have HST := Lib.hid (CardAt.start (d := d) (f := f) (c := c) hx)
  cases h : cardOk d f ss
  · rw [show boxesFor d f ss = [] from if_neg (by rw [h]; simp)]
    rw [h] at HC
    clear h hx
    go_enter Try.func29, Try.ntmps29
    go_wp2_with fail
    refine (HC.out _ HST.out.full).mono ?_
    rintro e w1 ⟨rfl, hb⟩
    go_wp2_with fail
    go_ret2
    exact ⟨none, 0, rfl, World.ownsRow_nil _ _ _ _, below_thru HST.out.below hb⟩
  rw [show boxesFor d f ss = boxesP (waysOf d f ss) ss.length from if_pos h]
  rw [h] at HC
  obtain ⟨⟨d1, d2⟩, ⟨f1, f2⟩, hlen, _⟩ := cardOk_parts h
  obtain ⟨dn_, rfl⟩ := Int.eq_ofNat_of_zero_le (show 0 ≤ d by omega)
  obtain ⟨fn_, rfl⟩ := Int.eq_ofNat_of_zero_le (show 0 ≤ f by omega)
  obtain ⟨i0, hi0, hz0, hz1, hz2⟩ := info_parts boxInfo
  have HFL := Lib.hid (fun w => implFlatStrip_any dn_ fn_ w (by omega) (by omega))
  have hfz : (bs (flat dn_ fn_)).size ≤ 4294967296 := by rw [bs_size, (flat_counts dn_ fn_).2.2]; omega
  have HWU := Lib.hid (fun (k : Nat) (hk : k < ss.length) w => show Calls Try.prog 82 #[.string (bs (flat dn_ fn_)), .string (ss.getD k .empty)] w (NewInts w ((waysOf dn_ fn_ ss).getD k [])) from by
    have h0 := implWayUp_any (bs (flat dn_ fn_)) (ss.getD k .empty) w hfz (hm _ (mem_getD hk))
    rw [bs_list] at h0
    rw [waysOf_get _ _ ss k hk]
    exact h0)
  have HWL := Lib.hid (boxes_facts (dn_ : Int) (fn_ : Int) ss)
  have HBL := Lib.hid (boxesP_len (waysOf dn_ fn_ ss) 300 (boxes_facts _ _ _))
  have HBS := Lib.hid (fun k => show boxesP (waysOf dn_ fn_ ss) (k + 1) = boxesP (waysOf dn_ fn_ ss) k ++ boxRow k ((waysOf dn_ fn_ ss).getD k []) from rfl)
  generalize waysOf dn_ fn_ ss = W at *
  generalize bs (flat dn_ fn_) = fl at *
  clear h hx hfz
  go_enter Try.func29, Try.ntmps29
  go_wp2_with fail
  refine (HC.out _ HST.out.full).mono ?_
  rintro e w1 ⟨rfl, hb⟩
  have HCA := Lib.hid ((HST.out.on hb).on (below_alloc (Below.refl _ _) (.cells #[] 72)))
  have HO0 := Lib.hid (show (w1.alloc (.cells #[] 72)).ownsRow (w.heap.size + 1) 72 3 (.slice (some ⟨w1.heap.size, 0, none⟩) 0 0) 0 [] from own_mono (World.ownsRow_made w1 #[] 0 (Nat.le_refl _) (Nat.zero_le _) (by simp)) (HST.out.on hb).lt)
  obtain ⟨p0, p1, p2, prow, pb, plt⟩ := HST.out.on hb
  clear prow pb p0 p1 hb HST
  go_wp2_with fail
  clear p2 plt
  go_loopw [4, 16] (fun ov kv wr => ∃ k : Nat, ∃ ts, k ≤ ss.length ∧ kv = .int .i64 k ∧ ts = boxesP W k ∧ wr.ownsRow (w.heap.size + 1) 72 3 ov ts.length (cells3 ts) ∧ CardAt w wr dn_ fn_ A c ss) (fun _ kv _ => ss.length - (intOf kv).toNat)
  case atStart => exact ⟨0, [], Nat.zero_le _, rfl, rfl, HO0.out, HCA.out⟩
  case round =>
    obtain ⟨k, ts, hk, rfl, hts, hown, hca⟩ := hrel
    obtain ⟨wo, hwo⟩ : ∃ wo, wo = wr := ⟨_, rfl⟩
    subst hwo
    have HT := Lib.hid hts
    have HO := Lib.hid hown
    have HA := Lib.hid hca
    obtain ⟨p0, p1, p2, prow, pb, plt⟩ := hca
    have htl := HBL.out k
    rw [← hts] at htl
    clear HCA HO0 hown prow pb hts
    by_cases hlt : k < ss.length
    · have hi : (k : Int) < (ss.length : Int) := by omega
      have HWK := Lib.hid (fun w => HWU.out k hlt w)
      have hzl := HWL.out k
      have HSK := Lib.hid (HBS.out k)
      obtain ⟨b1, o1, rfl, hb1, hc1⟩ := HA.out.at_ hlt
      generalize W.getD k [] = Z at *
      generalize ss.getD k .empty = s at *
      have HRS := Lib.hid (fun i h => boxRow_snoc k Z i h)
      have HRT := Lib.hid (List.take_length (l := Z))
      clear p2
      go_wp2_with fail
      refine (HFL.out _).mono ?_
      rintro e w2 ⟨rfl, hb2⟩
      have HA2 := Lib.hid (HA.out.on hb2)
      have HO2 := Lib.hid (own_on HO.out hb2)
      clear hb2 HA HO p0 p1 hc1 plt
      go_wp2_with fail
      refine (HWK.out _).mono ?_
      rintro e w3 ⟨A3, c3, rfl, ho3, hb3⟩
      have HA3 := Lib.hid (HA2.out.on hb3)
      have HO3 := Lib.hid (own_on HO2.out hb3)
      have HH3 := Lib.hid (Held.of_own ho3)
      have HOF := Lib.hid (show Off u4 w2.heap.size w3.heap.size from fun g hg => .inl (HO2.out.lt g hg).2)
      have hs2 : w.heap.size + 1 ≤ w2.heap.size := HA2.out.lt
      have hs3 : w2.heap.size ≤ w3.heap.size := hb3.size
      clear ho3 hb3 HA2 HO2
      go_wp2_with fail
      go_loopw [4, 29] (fun ov iv wr => ∃ i : Nat, ∃ us : List (Int × Int × Int), i ≤ Z.length ∧ iv = .int .i64 i ∧ us = boxesP W k ++ boxRow k (Z.take i) ∧ us.length = ts.length + i ∧ wr.ownsRow (w.heap.size + 1) 72 3 ov us.length (cells3 us) ∧ Off ov w2.heap.size w3.heap.size ∧ Held wr A3 w2.heap.size w3.heap.size Z ∧ w3.heap.size ≤ wr.heap.size ∧ CardAt w wr dn_ fn_ (some ⟨b1, o1, none⟩) c ss) (fun _ iv _ => Z.length - (intOf iv).toNat)
      case atStart => exact ⟨0, ts, Nat.zero_le _, rfl, by rw [HT.out]; simp [boxRow], rfl, HO3.out, HOF.out, HH3.out, Nat.le_refl _, HA3.out⟩
      case round =>
        obtain ⟨i, us, hi2, rfl, hus, hul, hown, hoff, hheld, hsz, hca⟩ := hrel
        have HU := Lib.hid hus
        have HUL := Lib.hid hul
        have HO := Lib.hid hown
        have HOFF := Lib.hid hoff
        have HH := Lib.hid hheld
        have HA := Lib.hid hca
        have hul2 : us.length ≤ 4000 := by omega
        clear HO3 HOF HH3 HA3 hus hul hown hoff hca
        by_cases hlt2 : i < Z.length
        · have hii : (i : Int) < (Z.length : Int) := by omega
          obtain ⟨b5, o5, rfl, hb5, hb6, hcc⟩ := hheld (by omega)
          have hc5 := hcc i hlt2
          have HRI := Lib.hid (HRS.out i hlt2)
          generalize Z.getD i 0 = z at *
          have hsz2 : w.heap.size + 1 ≤ wr.heap.size := by omega
          have hzw := hzl
          clear hcc hheld
          go_wp2_with (at_builtin; refine wpList_append_lies _ rfl _ _ 36 rfl (w.heap.size + 1) 72 i0 (.agg #[.int .i64 0, .int .i64 0, .int .i64 0]) 3 24 Try.underlying36 hi0 hz0 hz1 hz2 rfl (by decide) _ _ _ rfl (HO.out.alloc _) ⟨wr.heap.size, 0, none⟩ 1 1 [.int .i64 k, .int .i64 k, .int .i64 z] rfl rfl (news_three _ _ _ _ _) (one_three _ _ _) (by decide) (by unfold maxLen; omega) (by omega) (by simp; omega) _ rfl ?_; intro g1 c1 w5 hown1 hgr1 hat1 hlt1)
          have hg5 := grown_trans (World.grownBy_alloc wr (.cells #[.int .i64 k, .int .i64 k, .int .i64 z] 72) _) hgr1
          have HA5 := Lib.hid (HA.out.grownR hg5 (fun g hg => by have := (HO.out.lt g hg).1; omega))
          have HH5 := Lib.hid (HH.out.grown hg5 hsz (fun g hg => HOFF.out g hg))
          have HOFF5 := Lib.hid (HOFF.out.next (n := us.length + 1) (c := c1) hat1 (by simp; omega))
          have hs5 : w3.heap.size ≤ w5.heap.size := by have := hg5.size; omega
          have HO5 := Lib.hid hown1
          clear hg5 hgr1 hat1 hlt1 hown1 hc5
          go_wp2_with fail
          go_roundw
          case rel =>
            refine ⟨i + 1, us ++ [((k : Int), (k : Int), z)], by omega, by go_num, by rw [HRI.out, HU.out, List.append_assoc], by rw [List.length_append, HUL.out]; simp; omega, ?_, ?_, HH5.out, hs5, HA5.out⟩
            · rw [List.length_append, cells3_app]
              exact HO5.out
            · exact HOFF5.out
          case measure => simp [intOf]; omega
        · obtain rfl : i = Z.length := by omega
          clear hheld
          go_wp2_with fail
          go_roundw
          case rel => exact ⟨k + 1, us, by omega, by go_num, by rw [HSK.out, HU.out, HRT.out], HO.out, HA.out⟩
          case measure => simp [intOf]; omega
    · obtain rfl : k = ss.length := by omega
      go_wp2_with fail
      go_ret2
      obtain ⟨A9, c9, e9, _⟩ := own_slice9 HO.out
      have ht := HT.out
      subst ht
      subst e9
      exact ⟨A9, c9, rfl, own_mono HO.out (Nat.le_succ _), HA.out.below⟩


set_option maxHeartbeats 1000000 in
set_option maxRecDepth 8000 in
theorem specBoxesFor_any (d f : Int) (A : Option Addr) (c : Nat) (ss : List ByteArray) (w : World) (hx : SRow w w.heap.size A ss) (hm : ∀ s ∈ ss, s.size ≤ 4294967296) :
    Calls Try.prog 28 #[.agg #[.int .i64 d, .int .i64 f, .slice A ss.length c]] w (NewBoxes w (boxesFor d f ss) (cardOk d f ss)) := by
  have HC := Lib.hid (fun w hx => specCardOk_any d f A c ss w hx hm)
  have HST := Lib.hid (CardAt.start (d := d) (f := f) (c := c) hx)
  cases h : cardOk d f ss
  · rw [show boxesFor d f ss = [] from if_neg (by rw [h]; simp)]
    rw [h] at HC
    clear h hx
    have HCA := Lib.hid (HST.out.on (below_alloc (Below.refl _ _) (.cells #[] 72)))
    have HO0 := Lib.hid (show ((w.alloc (.cells #[.int .i64 d, .int .i64 f, .slice A ss.length c] 26)).alloc (.cells #[] 72)).ownsRow w.heap.size 72 3 (.slice (some ⟨w.heap.size + 1, 0, none⟩) 0 0) 0 [] from own_mono (by simpa using World.ownsRow_made (w.alloc (.cells #[.int .i64 d, .int .i64 f, .slice A ss.length c] 26)) #[] 0 (Nat.le_refl _) (Nat.zero_le _) (by simp)) (Nat.le_succ _))
    go_enter Try.func28, Try.ntmps28
    go_wp2_with fail
    refine (HC.out _ HCA.out.full).mono ?_
    rintro e w1 ⟨rfl, hb⟩
    go_wp2_with fail
    go_ret2
    exact ⟨_, _, rfl, own_on HO0.out hb, below_thru HCA.out.below hb⟩
  rw [show boxesFor d f ss = boxesP (waysOf d f ss) ss.length from if_pos h]
  rw [h] at HC
  obtain ⟨⟨d1, d2⟩, ⟨f1, f2⟩, hlen, _⟩ := cardOk_parts h
  obtain ⟨dn_, rfl⟩ := Int.eq_ofNat_of_zero_le (show 0 ≤ d by omega)
  obtain ⟨fn_, rfl⟩ := Int.eq_ofNat_of_zero_le (show 0 ≤ f by omega)
  obtain ⟨i0, hi0, hz0, hz1, hz2⟩ := info_parts boxInfo
  have HFL := Lib.hid (fun w => specFlatStrip_any dn_ fn_ w (by omega) (by omega))
  have hfz : (bs (flat dn_ fn_)).size ≤ 4294967296 := by rw [bs_size, (flat_counts dn_ fn_).2.2]; omega
  have HWU := Lib.hid (fun (k : Nat) (hk : k < ss.length) w => show Calls Try.prog 81 #[.string (bs (flat dn_ fn_)), .string (ss.getD k .empty)] w (NewInts w ((waysOf dn_ fn_ ss).getD k [])) from by
    have h0 := specWayUp_any (bs (flat dn_ fn_)) (ss.getD k .empty) w hfz (hm _ (mem_getD hk))
    rw [bs_list] at h0
    rw [waysOf_get _ _ ss k hk]
    exact h0)
  have HWL := Lib.hid (boxes_facts (dn_ : Int) (fn_ : Int) ss)
  have HBL := Lib.hid (boxesP_len (waysOf dn_ fn_ ss) 300 (boxes_facts _ _ _))
  have HBS := Lib.hid (fun k => show boxesP (waysOf dn_ fn_ ss) (k + 1) = boxesP (waysOf dn_ fn_ ss) k ++ boxRow k ((waysOf dn_ fn_ ss).getD k []) from rfl)
  generalize waysOf dn_ fn_ ss = W at *
  generalize bs (flat dn_ fn_) = fl at *
  clear h hx hfz
  have HC0 := Lib.hid (HST.out.on (below_alloc (Below.refl _ _) (.cells #[] 72)))
  have HOA := Lib.hid (show ((w.alloc (.cells #[.int .i64 dn_, .int .i64 fn_, .slice A ss.length c] 26)).alloc (.cells #[] 72)).ownsRow (w.heap.size + 1) 72 3 (.slice (some ⟨w.heap.size + 1, 0, none⟩) 0 0) 0 [] from by simpa using World.ownsRow_made (w.alloc (.cells #[.int .i64 dn_, .int .i64 fn_, .slice A ss.length c] 26)) #[] 0 (Nat.le_refl _) (Nat.zero_le _) (by simp))
  go_enter Try.func28, Try.ntmps28
  go_wp2_with fail
  refine (HC.out _ HC0.out.full).mono ?_
  rintro e w1 ⟨rfl, hb⟩
  have HCA := Lib.hid (HC0.out.on hb)
  have HO0 := Lib.hid (own_on HOA.out hb)
  clear hb HST HC0 HOA
  go_wp2_with fail
  go_loopw [4, 5] (fun ov kv wr => ∃ k : Nat, ∃ ts, k ≤ ss.length ∧ kv = .int .i64 k ∧ ts = boxesP W k ∧ wr.ownsRow (w.heap.size + 1) 72 3 ov ts.length (cells3 ts) ∧ CardAt w wr dn_ fn_ A c ss) (fun _ kv _ => ss.length - (intOf kv).toNat)
  case atStart => exact ⟨0, [], Nat.zero_le _, rfl, rfl, HO0.out, HCA.out⟩
  case round =>
    obtain ⟨k, ts, hk, rfl, hts, hown, hca⟩ := hrel
    obtain ⟨wo, hwo⟩ : ∃ wo, wo = wr := ⟨_, rfl⟩
    subst hwo
    have HT := Lib.hid hts
    have HO := Lib.hid hown
    have HA := Lib.hid hca
    obtain ⟨p0, p1, p2, prow, pb, plt⟩ := hca
    have htl := HBL.out k
    rw [← hts] at htl
    clear HCA HO0 hown prow pb hts
    by_cases hlt : k < ss.length
    · have hi : (k : Int) < (ss.length : Int) := by omega
      have HWK := Lib.hid (fun w => HWU.out k hlt w)
      have hzl := HWL.out k
      have HSK := Lib.hid (HBS.out k)
      obtain ⟨b1, o1, rfl, hb1, hc1⟩ := HA.out.at_ hlt
      generalize W.getD k [] = Z at *
      generalize ss.getD k .empty = s at *
      have HRS := Lib.hid (fun i h => boxRow_snoc k Z i h)
      have HRT := Lib.hid (List.take_length (l := Z))
      go_wp2_with fail
      go_region_held3 (fun w' => w'.cell? ⟨w.heap.size, 0, none⟩ = some (.int .i64 dn_) ∧ w'.cell? ⟨w.heap.size, 1, none⟩ = some (.int .i64 fn_) ∧ w'.cell? ⟨w.heap.size, 2, none⟩ = some (.slice (some ⟨b1, o1, none⟩) ss.length c) ∧ w'.cell? ⟨b1, o1 + k, none⟩ = some (.string s))
        (first | go_keep | (go_split_ands; refine ⟨?_, ?_, ?_, ?_⟩ <;> (refine cell_on hb3 ?_; assumption)))
        ((first
          | (go_at_call 60; refine (HFL.out _).mono ?_; rintro e wF ⟨rfl, rfl⟩)
          | (go_at_call 81; refine (HWK.out _).mono ?_; rintro e w3 ⟨A3, c3, rfl, ho3, hb3⟩)))
      obtain ⟨w2, hw2⟩ : ∃ w2, w2 = wo := ⟨_, rfl⟩
      have hb3 : Below w2.heap.size w2 w3 := by rw [hw2]; exact ⟨hb3.os, hb3.tape, hb3.output, hb3.size, hb3.block⟩
      have ho3 : w3.ownsRow w2.heap.size 3 1 (.slice A3 Z.length c3) Z.length (Z.map (Value.int .i64)) := by rw [hw2]; exact ho3
      rw [← hw2] at HA HO
      have HA3 := Lib.hid (HA.out.on hb3)
      have HO3 := Lib.hid (own_on HO.out hb3)
      have HH3 := Lib.hid (Held.of_own ho3)
      have HOF := Lib.hid (show Off u4 w2.heap.size w3.heap.size from fun g hg => .inl (HO.out.lt g hg).2)
      have hs2 : w.heap.size + 1 ≤ w2.heap.size := HA.out.lt
      have hs3 : w2.heap.size ≤ w3.heap.size := hb3.size
      clear ho3 hb3 HA HO p0 p1 p2 hc1 plt hw2
      go_wp2_with fail
      go_loopw [4, 7] (fun ov iv wr => ∃ i : Nat, ∃ us : List (Int × Int × Int), i ≤ Z.length ∧ iv = .int .i64 i ∧ us = boxesP W k ++ boxRow k (Z.take i) ∧ us.length = ts.length + i ∧ wr.ownsRow (w.heap.size + 1) 72 3 ov us.length (cells3 us) ∧ Off ov w2.heap.size w3.heap.size ∧ Held wr A3 w2.heap.size w3.heap.size Z ∧ w3.heap.size ≤ wr.heap.size ∧ CardAt w wr dn_ fn_ (some ⟨b1, o1, none⟩) c ss) (fun _ iv _ => Z.length - (intOf iv).toNat)
      case atStart => exact ⟨0, ts, Nat.zero_le _, rfl, by rw [HT.out]; simp [boxRow], rfl, HO3.out, HOF.out, HH3.out, Nat.le_refl _, HA3.out⟩
      case round =>
        obtain ⟨i, us, hi2, rfl, hus, hul, hown, hoff, hheld, hsz, hca⟩ := hrel
        have HU := Lib.hid hus
        have HUL := Lib.hid hul
        have HO := Lib.hid hown
        have HOFF := Lib.hid hoff
        have HH := Lib.hid hheld
        have HA := Lib.hid hca
        have hul2 : us.length ≤ 4000 := by omega
        clear HO3 HOF HH3 HA3 hus hul hown hoff hca
        by_cases hlt2 : i < Z.length
        · have hii : (i : Int) < (Z.length : Int) := by omega
          obtain ⟨b5, o5, rfl, hb5, hb6, hcc⟩ := hheld (by omega)
          have hc5 := hcc i hlt2
          have HRI := Lib.hid (HRS.out i hlt2)
          generalize Z.getD i 0 = z at *
          have hsz2 : w.heap.size + 1 ≤ wr.heap.size := by omega
          have hzw := hzl
          clear hcc hheld
          go_wp2_with (at_builtin; refine wpList_append_lies _ rfl _ _ 36 rfl (w.heap.size + 1) 72 i0 (.agg #[.int .i64 0, .int .i64 0, .int .i64 0]) 3 24 Try.underlying36 hi0 hz0 hz1 hz2 rfl (by decide) _ _ _ rfl (HO.out.alloc _) ⟨wr.heap.size, 0, none⟩ 1 1 [.int .i64 k, .int .i64 k, .int .i64 z] rfl rfl (news_three _ _ _ _ _) (one_three _ _ _) (by decide) (by unfold maxLen; omega) (by omega) (by simp; omega) _ rfl ?_; intro g1 c1 w5 hown1 hgr1 hat1 hlt1)
          have hg5 := grown_trans (World.grownBy_alloc wr (.cells #[.int .i64 k, .int .i64 k, .int .i64 z] 72) _) hgr1
          have HA5 := Lib.hid (HA.out.grownR hg5 (fun g hg => by have := (HO.out.lt g hg).1; omega))
          have HH5 := Lib.hid (HH.out.grown hg5 hsz (fun g hg => HOFF.out g hg))
          have HOFF5 := Lib.hid (HOFF.out.next (n := us.length + 1) (c := c1) hat1 (by simp; omega))
          have hs5 : w3.heap.size ≤ w5.heap.size := by have := hg5.size; omega
          have HO5 := Lib.hid hown1
          clear hg5 hgr1 hat1 hlt1 hown1 hc5
          go_wp2_with fail
          go_roundw
          case rel =>
            refine ⟨i + 1, us ++ [((k : Int), (k : Int), z)], by omega, by go_num, by rw [HRI.out, HU.out, List.append_assoc], by rw [List.length_append, HUL.out]; simp; omega, ?_, ?_, HH5.out, hs5, HA5.out⟩
            · rw [List.length_append, cells3_app]
              exact HO5.out
            · exact HOFF5.out
          case measure => simp [intOf]; omega
        · obtain rfl : i = Z.length := by omega
          clear hheld
          go_wp2_with fail
          go_roundw
          case rel => exact ⟨k + 1, us, by omega, by go_num, by rw [HSK.out, HU.out, HRT.out], HO.out, HA.out⟩
          case measure => simp [intOf]; omega
    · obtain rfl : k = ss.length := by omega
      go_wp2_with fail
      go_ret2
      obtain ⟨A9, c9, e9, _⟩ := own_slice9 HO.out
      have ht := HT.out
      subst ht
      subst e9
      exact ⟨A9, c9, rfl, own_mono HO.out (Nat.le_succ _), HA.out.below⟩


end Go.Proofs.Ytkhlolhmaoenoaa
