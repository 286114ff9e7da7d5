
/-
  The contract of the program's countWays, with the map of what is known; no condition beyond the length of the texts.
-/
import Derived.Test.YtpeopfkechbelaaCountWaysP
import Derived.Test.YtpeopfkechbelaaWayUp
import Derived.Maps.OwnSet
namespace Go.Proofs.Ytpeopfkechbelaa
open Go.ChangeShapes Go.WideShapes Go.ChangeAt Go.RowKit Go.Deep Go.BigFrame Go.Maps Go.WideMaps
set_option linter.unusedVariables false
set_option linter.unusedSimpArgs false

theorem strLaw : Keyed Try.prog 9 := string_keyed Try.underlying9
theorem zeroInt (w : World) : (zeroValue 3).run Try.prog w = .ok (.int .i64 0) w := by kernel_rfl

/-- what the map says is true -/
def Good (T : List UInt8) (D : DataW Unit) : Prop := ∀ l : List UInt8, Maps.has D (.string l) = true → D.atKey (.string l) (.lit (.int .i64 0)) = .lit (.int .i64 (nUp T l))
/-- block b is a map of n entries at most that says what is true -/
def KMap (w : World) (b n : Nat) (T : List UInt8) : Prop := ∃ D : DataW Unit, w.ownsMap Try.prog 9 (plainElem Try.prog 3) b n D ∧ Good T D

theorem KMap.grown {w w' : World} {b n : Nat} {T : List UInt8} {row : Option Nat} (h : KMap w b n T) (hg : w.grownBy w' row) (hr : some b ≠ row) : KMap w' b n T := by
  obtain ⟨D, h1, h2⟩ := h
  exact ⟨D, h1.kept hg hr, h2⟩
theorem KMap.mono {w : World} {b n m : Nat} {T : List UInt8} (h : KMap w b n T) (hn : n ≤ m) : KMap w b m T := by
  obtain ⟨D, h1, h2⟩ := h
  exact ⟨D, h1.mono hn, h2⟩
theorem KMap.lt {w : World} {b n : Nat} {T : List UInt8} (h : KMap w b n T) : b < w.heap.size := by
  obtain ⟨D, h1, h2⟩ := h
  exact h1.lt
theorem good_empty (T : List UInt8) : Good T (.map []) := fun l h => by simp [Maps.has] at h
theorem good_put { T l : List UInt8} {D : DataW Unit} (h : Good T D) (hm : IsMap D) : Good T (D.put (.string l) (.lit (.int .i64 (nUp T l)))) := by
  intro m hm2
  by_cases e : m = l
  · subst e
    exact atKey_put_same hm (by simp [WideAt.IsKeyLit]) _ _
  · have hne : (Lit.string m) ≠ (Lit.string l) := fun x => e (by simpa using x)
    rw [has_put_other hne] at hm2
    rw [atKey_put_other hne]
    exact h m hm2

/-- the ways behind the first raises -/
def accZ (T l : List UInt8) (zs : List Int) : Nat := (zs.map fun z => if up T l z.toNat = true then nUp T (swp l z.toNat) else 0).sum
theorem accZ_take (T l : List UInt8) (zs : List Int) (j : Nat) (h : j < zs.length) : accZ T l (zs.take (j + 1)) = accZ T l (zs.take j) + if up T l (zs.getD j 0).toNat = true then nUp T (swp l (zs.getD j 0).toNat) else 0 := by
  unfold accZ
  rw [take_snoc_getD zs j 0 h, List.map_append, List.sum_append]
  simp
theorem accZ_le (T l : List UInt8) (zs : List Int) (j : Nat) : accZ T l (zs.take j) ≤ accZ T l zs := by
  have e : accZ T l zs = accZ T l (zs.take j) + accZ T l (zs.drop j) := by
    unfold accZ
    rw [← List.sum_append, ← List.map_append, List.take_append_drop]
  omega
theorem sum_filter (u p : Nat → Bool) (f : Nat → Nat) (h : ∀ k, u k = true → p k = true) : ∀ ks : List Nat, ((ks.filter u).map f).sum = ((ks.filter p).map fun k => if u k = true then f k else 0).sum := by
  intro ks
  induction ks with
  | nil => rfl
  | cons k ks ih =>
    cases hu : u k with
    | true =>
      have hp := h k hu
      rw [List.filter_cons_of_pos hu, List.filter_cons_of_pos hp]
      simp [hu, ih]
    | false =>
      rw [List.filter_cons_of_neg (by rw [hu]; decide)]
      cases hp : p k with
      | true =>
        rw [List.filter_cons_of_pos hp]
        simp [hu, ih]
      | false =>
        rw [List.filter_cons_of_neg (by rw [hp]; decide)]
        exact ih
theorem accZ_all { T l : List UInt8} (ha : isAbove T l = true) (hne : l ≠ T) : accZ T l (raisesOf l) = nUp T l := by
  rw [nUp_step ha hne, sum_filter (up T l) (fun k => foldAt 100 l (k : Int)) (fun k => nUp T (swp l k)) (fun k h => by simp only [up, Bool.and_eq_true] at h; exact h.1)]
  unfold accZ raisesOf kP
  rw [List.map_map]
  rfl

set_option maxRecDepth 100000 in
theorem countWays_any (t : ByteArray) (ht : t.size ≤ 4294967296) : ∀ (g : Nat) (s : ByteArray) (b n : Nat) (w : World), isAbove t.data.toList s.data.toList = true → gap t.data.toList s.data.toList ≤ g → g ≤ 12 → KMap w b n t.data.toList → n + 17 ^ (g + 1) ≤ 4611686018427387904 →
    Calls Try.prog 76 #[.string s, .string t, .map (some b)] w fun e w' => e = .returned (.int .i64 (nUp t.data.toList s.data.toList : Nat)) ∧ KMap w' b (n + 17 ^ (g + 1)) t.data.toList ∧ w.grownBy w' (some b) := by
  intro g
  induction g with
  | zero =>
    intro s b n w ha hg _ hk hn
    have e : s = t := list_bytes (gap_zero ha (by omega))
    subst e
    rw [nUp_self]
    have HK := Lib.hid (hk.mono (m := n + 17 ^ (0 + 1)) (Nat.le_add_right _ _))
    clear hk ha hg
    go_enter Try.func76, Try.ntmps76
    go_wp2_with fail
    go_ret
    exact ⟨rfl, HK.out, World.grownBy.refl _ _⟩
  | succ g ih =>
    intro s b n w ha hg h12 hk hn
    by_cases e : s = t
    · subst e
      rw [nUp_self]
      have HK := Lib.hid (hk.mono (m := n + 17 ^ (g + 1 + 1)) (Nat.le_add_right _ _))
      clear hk ha hg
      go_enter Try.func76, Try.ntmps76
      go_wp2_with fail
      go_ret
      exact ⟨rfl, HK.out, World.grownBy.refl _ _⟩
    have hne := str_ne e
    have hneL : s.data.toList ≠ t.data.toList := fun x => e (list_bytes x)
    have hs16 : s.size ≤ 16 := by
      have h1 := isStrip_parts (sameFrame_parts (isAbove_parts ha).1).2.1
      rw [size_list] at h1
      omega
    have hs : s.size ≤ 4294967296 := by omega
    have hkey : keyOf Try.prog 9 (.string s) = some (.string s.data.toList) := keyOf_string_mk Try.underlying9 (by unfold maxLen; omega)
    have hbl := hk.lt
    obtain ⟨D, hown, hgood⟩ := hk
    cases hh : Maps.has D (.string s.data.toList) with
    | true =>
      have hat0 := hgood _ hh
      have HK := Lib.hid (KMap.mono (m := n + 17 ^ (g + 1 + 1)) ⟨D, hown, hgood⟩ (Nat.le_add_right _ _))
      have HAT := Lib.hid hat0
      have HO := Lib.hid hown
      clear hat0 hown hgood ha hg hneL
      go_enter Try.func76, Try.ntmps76
      go_wp2_with (at_lookup; refine wpList_lookup_own_ok_int _ rfl _ _ 81 rfl 9 3 .i64 strLaw Try.underlying81 Try.underlying3 (zeroInt _) b n D rfl HO.out _ _ rfl hkey ?_; intro c hat hwc; rw [hh])
      have ec : c = (nUp t.data.toList s.data.toList : Int) := by
        have := hat.symm.trans HAT.out
        simpa using this
      subst ec
      clear hat hwc HAT
      go_wp2_with fail
      go_ret
      exact ⟨rfl, HK.out, World.grownBy.refl _ _⟩
    | false =>
      have hrl := raisesOf_len s.data.toList
      rw [size_list] at hrl
      have hall := accZ_all ha hneL
      have hle := accZ_le t.data.toList s.data.toList (raisesOf s.data.toList)
      have htk := accZ_take t.data.toList s.data.toList (raisesOf s.data.toList)
      have hbef := fun j => kP_before (p := fun k => foldAt 100 s.data.toList (k : Int)) s.data.toList.length j
      have hrs := fun w => implRaisesOf_any s w hs
      have hbig : nUp t.data.toList s.data.toList ≤ 8 ^ 12 := nUp_le 12 s.data.toList ha (by omega)
      have hbig2 : nUp t.data.toList s.data.toList ≤ 281474976710656 := Nat.le_trans hbig (by decide)
      have hgu := fun k => gap_up (k := k) ha
      rw [show kP (fun k => foldAt 100 s.data.toList (k : Int)) s.data.toList.length = raisesOf s.data.toList from rfl] at hbef
      have hU := fun (k : Nat) w (h1 : 1 ≤ k) (h2 : k + 1 ≤ s.size) => turnedAt_any s k w hs h1 h2
      have hA := fun x w (h : x.size = s.size) => implIsAbove_any t x w ht (by omega)
      obtain ⟨rs, hrsd⟩ : ∃ rs, rs = raisesOf s.data.toList := ⟨_, rfl⟩
      rw [← hrsd] at hrl hall hle htk hbef hrs
      have hpow : 17 ^ (g + 1 + 1) = 17 ^ (g + 1) * 16 + 17 ^ (g + 1) := by rw [Nat.pow_succ, Nat.mul_succ]
      have hpos : 1 ≤ 17 ^ (g + 1) := Nat.one_le_pow _ _ (by decide)
      generalize 17 ^ (g + 1 + 1) = p2 at *
      generalize 17 ^ (g + 1) = p1 at *
      have HKM := Lib.hid (show KMap w b n t.data.toList from ⟨D, hown, hgood⟩)
      have HALL := Lib.hid hall
      have HLE := Lib.hid hle
      have HTK := Lib.hid htk
      have HBE := Lib.hid hbef
      have HRS := Lib.hid hrs
      have HGU := Lib.hid hgu
      have HU := Lib.hid hU
      have HA := Lib.hid hA
      have IH := Lib.hid ih
      have HO := Lib.hid hown
      have HPW := Lib.hid hpow
      clear hall hle htk hbef hrs hgu hU hA ih hown hgood hbig hneL ha hrsd hpow
      go_enter Try.func76, Try.ntmps76
      go_wp2_with (at_lookup; refine wpList_lookup_own_ok_int _ rfl _ _ 81 rfl 9 3 .i64 strLaw Try.underlying81 Try.underlying3 (zeroInt _) b n D rfl HO.out _ _ rfl hkey ?_; intro c hat hwc; rw [hh]; clear hat hwc)
      go_wp2_with fail
      refine (HRS.out _).mono ?_
      rintro e w1 ⟨A, c1, rfl, hor, hbo⟩
      have hheld := Lib.hid (Held.of_own hor)
      have HG1 := Lib.hid (grown_of_below hbo (some b))
      have HK1 := Lib.hid (HKM.out.grown (grown_of_below hbo none) (by simp))
      have hsz1 : w.heap.size ≤ w1.heap.size := hbo.size
      clear hor hbo
      go_wp2_with fail
      have hrl16 : rs.length ≤ 16 := by omega
      go_loopw [9, 27] (fun nv iv wr => ∃ (j m : Nat), j ≤ rs.length ∧ iv = .int .i64 j ∧ nv = .int .i64 (accZ t.data.toList s.data.toList (rs.take j) : Nat) ∧ KMap wr b m t.data.toList ∧ m ≤ n + j * p1 ∧ Held wr A w.heap.size w1.heap.size rs ∧ w.grownBy wr (some b) ∧ w1.heap.size ≤ wr.heap.size) (fun _ iv _ => rs.length - (intOf iv).toNat)
      case atStart => exact ⟨0, n, Nat.zero_le _, rfl, rfl, HK1.out, by omega, hheld.out, HG1.out, Nat.le_refl _⟩
      case round =>
        obtain ⟨j, m, hj, rfl, rfl, hkm, hmn, hhl, hgr, hszr⟩ := hrel
        have HKR := Lib.hid hkm
        have HGR := Lib.hid hgr
        have HHL := Lib.hid hhl
        have hlej := HLE.out j
        rw [HALL.out] at hlej
        by_cases hjl : j < rs.length
        · obtain ⟨b1, o1, rfl, _, _, hcc⟩ := hhl (by omega)
          have hc1 := hcc j hjl
          obtain ⟨k, hk1, hk2, hk3, hk4⟩ := HBE.out j hjl
          have hvp := valley_parts hk3
          have hk5 : k + 1 ≤ s.size := by rw [← size_list]; omega
          rw [hk1] at hc1
          have hUk := fun w => HU.out k w hvp.2.1 hk5
          have hturn := turnB_list s k hvp.2.1 (by omega)
          have hts := turnB_size s k hvp.2.1 (by omega)
          have hAj := fun w => HA.out (turnB s k) w hts
          rw [hturn] at hAj
          have hupj := up_fold (t := t.data.toList) hk3
          have htk2 := HTK.out j hjl
          rw [hk1, Int.toNat_natCast] at htk2
          have hle1 := HLE.out (j + 1)
          rw [HALL.out] at hle1
          have hji : (j : Int) < (rs.length : Int) := by omega
          have hjp : j * p1 ≤ 15 * p1 := Nat.mul_le_mul_right _ (by omega)
          have hjs : (j + 1) * p1 = j * p1 + p1 := Nat.succ_mul _ _
          have HUK := Lib.hid hUk
          cases hu : isAbove t.data.toList (swp s.data.toList k)
          · rw [hu] at hAj hupj
            rw [hupj, if_neg (by decide), Nat.add_zero] at htk2
            have HT2 := Lib.hid htk2
            have HAJ := Lib.hid hAj
            have hmj : m ≤ n + (j + 1) * p1 := by omega
            have HMJ := Lib.hid hmj
            clear hUk hturn hts hAj hupj hu hk1 hk3 hk4 hvp hkm hgr hhl hcc htk2 hle1 hjs hmj
            generalize accZ t.data.toList s.data.toList (rs.take j) = acc at *
            go_wp2_with fail
            refine (HUK.out _).mono ?_
            rintro e w2 ⟨rfl, q2, rfl⟩
            go_wp2_with fail
            refine (HAJ.out _).mono ?_
            rintro e w2 ⟨rfl, rfl⟩
            go_wp2_with fail
            go_roundw
            case rel => exact ⟨j + 1, m, by omega, by go_num, by rw [HT2.out]; rfl, HKR.out.grown (grown_of_below (below_drewN (Below.refl _ _) q2) none) (by simp), HMJ.out, HHL.out.drewN q2, grown_trans HGR.out (grown_of_below (below_drewN (Below.refl _ _) q2) (some b)), hszr⟩
            case measure => simp [intOf]; omega
          · rw [hu] at hAj hupj
            rw [hupj, if_pos rfl] at htk2
            have hgk := HGU.out k hupj
            have hIH := fun w h => IH.out (turnB s k) b m w (by rw [hturn]; exact hu) (by rw [hturn]; omega) (by omega) h (by have := HPW.out; omega)
            rw [hturn] at hIH
            have hmj : m + p1 ≤ n + (j + 1) * p1 := by omega
            have hsum : accZ t.data.toList s.data.toList (rs.take j) + nUp t.data.toList (swp s.data.toList k) ≤ 281474976710656 := by omega
            have HT2 := Lib.hid htk2
            have HAJ := Lib.hid hAj
            have HIH := Lib.hid hIH
            have HMJ := Lib.hid hmj
            clear hUk hturn hts hAj hupj hu hk1 hk3 hk4 hvp hkm hgr hhl hcc htk2 hle1 hjs hgk hIH hmj
            generalize accZ t.data.toList s.data.toList (rs.take j) = acc at *
            generalize nUp t.data.toList (swp s.data.toList k) = y at *
            go_wp2_with fail
            refine (HUK.out _).mono ?_
            rintro e w2 ⟨rfl, q2, rfl⟩
            go_wp2_with fail
            refine (HAJ.out _).mono ?_
            rintro e w2 ⟨rfl, rfl⟩
            go_wp2_with fail
            refine (HIH.out _ (HKR.out.grown (grown_of_below (below_drewN (Below.refl _ _) q2) none) (by simp))).mono ?_
            rintro e w3 ⟨rfl, hkm3, hg3⟩
            have HK3 := Lib.hid hkm3
            have HG3 := Lib.hid hg3
            have hsz3 : w1.heap.size ≤ w3.heap.size := by have := hg3.size; simp at this; omega
            clear hkm3 hg3
            go_wp2_with fail
            go_roundw
            case rel =>
              refine ⟨j + 1, m + p1, by omega, by go_num, by rw [HT2.out]; go_num, HK3.out, HMJ.out, (HHL.out.drewN q2).grown HG3.out hszr (fun g hg => by
                have e : b = g := by simpa using hg
                omega), grown_trans HGR.out (grown_trans (grown_of_below (below_drewN (Below.refl _ _) q2) (some b)) HG3.out), hsz3⟩
            case measure => simp [intOf]; omega
        · have hjr : j = rs.length := by omega
          have hjp : j * p1 ≤ 16 * p1 := Nat.mul_le_mul_right _ (by omega)
          have hm1 : m + 1 ≤ n + p2 := by have := HPW.out; omega
          have hacc : accZ t.data.toList s.data.toList (rs.take j) = nUp t.data.toList s.data.toList := by rw [hjr, List.take_length]; exact HALL.out
          rw [hacc]
          have hwf : (Lit.int .i64 (nUp t.data.toList s.data.toList : Nat)).wf = true := WalkArith.wf_i64 (by omega)
          obtain ⟨D2, hown2, hgood2⟩ := hkm
          have HO2 := Lib.hid hown2
          have HGD := Lib.hid (good_put (l := s.data.toList) hgood2 hown2.isMap)
          clear hown2 hgood2 hgr hhl hacc
          go_wp2_with (at_mapUpdate; refine wpList_mapUpdate_own _ rfl _ _ _ 81 rfl 9 3 strLaw Try.underlying81 _ b m _ rfl HO2.out (by unfold maxLen; omega) _ _ _ rfl rfl hkey _ [] (plainElem_int Try.underlying3 hwf) ?_; intro w4 hown4 hgr4)
          have HK4 := Lib.hid (KMap.mono (m := n + p2) ⟨_, hown4, HGD.out⟩ hm1)
          have HG4 := Lib.hid (grown_trans HGR.out hgr4)
          clear hown4 hgr4
          go_wp2_with fail
          go_ret
          exact ⟨rfl, HK4.out, HG4.out⟩

theorem implCountWays_any (s t : ByteArray) (w : World) (hs : s.size ≤ 4294967296) (ht : t.size ≤ 4294967296) : Calls Try.prog 33 #[.string s, .string t] w fun e w' => e = .returned (.int .i64 (countWays s.data.toList t.data.toList)) ∧ Below w.heap.size w w' := by
  have hab := fun w => implIsAbove_any t s w ht hs
  by_cases ha : isAbove t.data.toList s.data.toList = true
  case neg =>
    have ha' : isAbove t.data.toList s.data.toList = false := by simpa using ha
    rw [show countWays s.data.toList t.data.toList = 0 from if_neg (fun h => ha h.1)]
    rw [ha'] at hab
    clear ha ha'
    go_enter Try.func33, Try.ntmps33
    go_wp2_with fail
    refine (hab _).mono ?_
    rintro e w1 ⟨rfl, rfl⟩
    go_wp2_with fail
    go_ret
    exact ⟨rfl, (by repeat' (first | exact Below.refl _ _ | assumption | (refine Below.drew ?_) | (refine below_drewN ?_ _) | (refine below_thru ?_ (by assumption)) | (refine below_alloc ?_ _) | (refine Below.setCell ?_ (by first | omega | (simp; done) | (simp; omega)) _) | (refine Below.alloc ?_ (by first | omega | (simp; done) | (simp; omega)) _)))⟩
  rw [ha] at hab
  have har := fun w => implAreaBetween_any s t w hs ht
  rw [(area_above ha).1] at har
  have HAB := Lib.hid hab
  have HAR := Lib.hid har
  by_cases h12 : gap t.data.toList s.data.toList ≤ 12
  case neg =>
    rw [show countWays s.data.toList t.data.toList = 0 from if_neg (fun h => h12 h.2)]
    have hgi : (12 : Int) < (gap t.data.toList s.data.toList : Int) := by omega
    clear hab har ha
    generalize gap t.data.toList s.data.toList = g at *
    go_enter Try.func33, Try.ntmps33
    go_wp2_with fail
    refine (HAB.out _).mono ?_
    rintro e w1 ⟨rfl, rfl⟩
    go_wp2_with fail
    refine (HAR.out _).mono ?_
    rintro e w1 ⟨rfl, hb⟩
    go_wp2_with fail
    go_ret
    exact ⟨rfl, (by repeat' (first | exact Below.refl _ _ | assumption | (refine Below.drew ?_) | (refine below_drewN ?_ _) | (refine below_thru ?_ (by assumption)) | (refine below_alloc ?_ _) | (refine Below.setCell ?_ (by first | omega | (simp; done) | (simp; omega)) _) | (refine Below.alloc ?_ (by first | omega | (simp; done) | (simp; omega)) _)))⟩
  rw [show countWays s.data.toList t.data.toList = (nUp t.data.toList s.data.toList : Int) from if_pos ⟨ha, h12⟩]
  have HC := Lib.hid (fun b w h => countWays_any t ht 12 s b 0 w ha h12 (Nat.le_refl _) h (by decide))
  have hgi : (gap t.data.toList s.data.toList : Int) ≤ 12 := by omega
  have hmm := @run_makeMap Try.prog
  clear hab har ha h12
  generalize gap t.data.toList s.data.toList = g at *
  go_enter Try.func33, Try.ntmps33
  go_wp2_with fail
  refine (HAB.out _).mono ?_
  rintro e w1 ⟨rfl, rfl⟩
  go_wp2_with fail
  refine (HAR.out _).mono ?_
  rintro e w1 ⟨rfl, hb⟩
  go_wp2_with fail
  refine (HC.out _ _ ⟨.map [], World.ownsMap_made _ _ _ _, good_empty _⟩).mono ?_
  rintro e w2 ⟨rfl, _, hg⟩
  go_wp2_with fail
  go_ret
  exact ⟨rfl, (below_alloc hb _).grown hg (by have := hb.size; simp; omega) (fun k hk => by have e : w1.heap.size = k := by simpa using hk
                                                                                            have := hb.size; omega)⟩

end Go.Proofs.Ytpeopfkechbelaa
