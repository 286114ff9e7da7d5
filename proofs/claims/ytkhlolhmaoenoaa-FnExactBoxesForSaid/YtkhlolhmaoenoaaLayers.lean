
/-
  Contracts of LayersOf, ThickestOf and FreePart on both sides; no condition beyond the length of the text.
-/
import Derived.Test.YtkhlolhmaoenoaaViews
import Derived.OwnWalk
namespace Go.Proofs.Ytkhlolhmaoenoaa
open Go.ChangeShapes Go.WideShapes Go.ChangeAt Go.RowKit Go.Deep Go.BigFrame
set_option linter.unusedVariables false

/-- the place of a strip behind k steps, where the card is closed -/
def posn (l : List UInt8) (k : Nat) : Int := (fw (l.take k) : Int) + ((dn l : Int) - ((k : Int) - fw (l.take k)))
/-- the place of the step k -/
def low (l : List UInt8) (k : Nat) : Nat := (min (posn l k) (posn l (k + 1))).toNat

theorem strip_take {l : List UInt8} (h : isStrip l = true) : ∀ k, k ≤ l.length → dn (l.take k) + fw (l.take k) = k := by
  intro k
  induction k with
  | zero => intro _; rfl
  | succ k ih =>
    intro hk
    have h0 := ih (by omega)
    have h1 := dn_take l k (by omega)
    have h2 := fw_take l k (by omega)
    by_cases c1 : at_ l k = 100
    · rw [if_pos c1] at h1
      rw [if_neg (by rw [c1]; decide)] at h2
      omega
    · by_cases c2 : at_ l k = 102
      · rw [if_neg c1] at h1
        rw [if_pos c2] at h2
        omega
      · have := other_letter l k (by omega) c1 c2
        rw [h] at this
        exact absurd this (by simp)
theorem posn_in {l : List UInt8} (h : isStrip l = true) (k : Nat) (hk : k ≤ l.length) : 0 ≤ posn l k ∧ posn l k ≤ l.length := by
  have h0 := strip_take h k hk
  have h1 : dn (l.take k) ≤ dn l := (List.take_sublist k l).count_le _
  have h2 : fw (l.take k) ≤ fw l := (List.take_sublist k l).count_le _
  have h3 := (isStrip_parts h).1
  unfold posn
  omega
theorem posn_f {l : List UInt8} {k : Nat} (hk : k < l.length) (c : at_ l k = 102) : posn l (k + 1) = posn l k + 1 := by
  have h2 := fw_take l k hk
  rw [if_pos c] at h2
  unfold posn
  omega
theorem posn_d {l : List UInt8} {k : Nat} (hk : k < l.length) (c : ¬ at_ l k = 102) : posn l (k + 1) = posn l k - 1 := by
  have h2 := fw_take l k hk
  rw [if_neg c] at h2
  unfold posn
  omega
theorem low_is {l : List UInt8} (h : isStrip l = true) {k : Nat} (hk : k < l.length) : min (posn l k) (posn l (k + 1)) = (low l k : Int) ∧ low l k < l.length := by
  have h1 := posn_in h k (by omega)
  have h2 := posn_in h (k + 1) (by omega)
  unfold low
  by_cases c : at_ l k = 102
  · have := posn_f hk c
    omega
  · have := posn_d hk c
    omega

/-- the layers behind k steps -/
def layP (l : List UInt8) : Nat → List Int
  | 0 => List.replicate l.length 0
  | k + 1 => (layP l k).set (low l k) ((layP l k).getD (low l k) 0 + 1)
theorem layP_len (l : List UInt8) (k : Nat) : (layP l k).length = l.length := by
  induction k with
  | zero => simp [layP]
  | succ k ih => simp [layP, ih]
theorem layP_small (l : List UInt8) (k : Nat) : ∀ z ∈ layP l k, 0 ≤ z ∧ z ≤ (k : Int) := by
  induction k with
  | zero =>
    intro z hz
    have := (List.mem_replicate.1 hz).2
    omega
  | succ k ih =>
    intro z hz
    rcases List.mem_or_eq_of_mem_set hz with h | h
    · have := ih z h
      omega
    · by_cases hl : low l k < (layP l k).length
      · have := ih _ (List.getElem_mem hl)
        rw [List.getD_eq_getElem?_getD, List.getElem?_eq_getElem hl] at h
        simp only [Option.getD_some] at h
        omega
      · rw [List.getD_eq_getElem?_getD, List.getElem?_eq_none (by omega)] at h
        simp only [Option.getD_none] at h
        omega
def layers (l : List UInt8) : List Int := if isStrip l = true then layP l l.length else []
theorem layers_yes {l : List UInt8} (h : isStrip l = true) : layers l = layP l l.length := if_pos h
theorem layers_no {l : List UInt8} (h : isStrip l = false) : layers l = [] := if_neg (by rw [h]; simp)
theorem layers_len (l : List UInt8) : (layers l).length ≤ l.length := by
  unfold layers
  by_cases h : isStrip l = true
  · rw [if_pos h, layP_len]; exact Nat.le_refl _
  · rw [if_neg h]; exact Nat.zero_le _

theorem implStripAt_any (s : ByteArray) (k : Nat) (w : World) (hs : s.size ≤ 4294967296) (hk : k ≤ s.size) (h : isStrip s.data.toList = true) :
    Calls Try.prog 121 #[.string s, .int .i64 k] w fun e w' => e = .returned (.tuple #[.int .i64 (fw (s.data.toList.take k)), .int .i64 ((k : Int) - fw (s.data.toList.take k)), .bool true]) ∧ w = w' := by
  have c1 := fun w => implIsStrip_any s w hs
  rw [h] at c1
  have c2 := fun w => forwards_any s k w hs hk
  have c3 := fun w => within_is (n := k) (lo := 0) (hi := s.size) (b := true) (inB_iff.2 ⟨by omega, by omega⟩) w
  have hle := fw_take_le s.data.toList k
  have C1 := Lib.hid c1
  have C2 := Lib.hid c2
  have C3 := Lib.hid c3
  clear c1 c2 c3 h
  generalize fw (s.data.toList.take k) = f at *
  go_enter Try.func121, Try.ntmps121
  go_wp2_with fail
  refine (C1.out _).mono ?_
  rintro e w1 ⟨rfl, rfl⟩
  go_wp2_with fail
  refine (C3.out _).mono ?_
  rintro e w1 ⟨rfl, rfl⟩
  go_wp2_with fail
  refine (C2.out _).mono ?_
  rintro e w1 ⟨rfl, rfl⟩
  go_wp2_with fail
  refine (C2.out _).mono ?_
  rintro e w1 ⟨rfl, rfl⟩
  go_wp2_with fail
  go_ret3
  exact ⟨rfl, rfl⟩

theorem implPlace0_any (s : ByteArray) (k : Nat) (w : World) (hs : s.size ≤ 4294967296) (hk : k ≤ s.size) (h : isStrip s.data.toList = true) :
    Calls Try.prog 97 #[.string s, .int .i64 k, .int .i64 0] w fun e w' => e = .returned (.tuple #[.int .i64 (posn s.data.toList k), .int .i64 0, .bool true]) ∧ w = w' := by
  have c1 := fun w => implStripAt_any s k w hs hk h
  have c2 := fun w => implDownOf_any s w hs
  rw [downOf_yes h] at c2
  have c3 := fun w => within_is (n := 0) (lo := 0) (hi := 2) (b := true) rfl w
  have hle := fw_take_le s.data.toList k
  have hdl := dn_le s.data.toList
  rw [size_list] at hdl
  unfold posn
  generalize fw (s.data.toList.take k) = f at *
  generalize dn s.data.toList = d at *
  have C1 := Lib.hid c1
  have C2 := Lib.hid c2
  have C3 := Lib.hid c3
  clear c1 c2 c3 h
  go_enter Try.func97, Try.ntmps97
  go_wp2_with fail
  refine (C1.out _).mono ?_
  rintro e w1 ⟨rfl, rfl⟩
  go_wp2_with fail
  refine (C3.out _).mono ?_
  rintro e w1 ⟨rfl, rfl⟩
  go_wp2_with fail
  refine (C2.out _).mono ?_
  rintro e w1 ⟨rfl, rfl⟩
  go_wp2_with fail
  go_ret3
  exact ⟨rfl, rfl⟩

theorem map_set_int (L : List Int) (i : Nat) (v : Int) : (L.map (Value.int .i64)).set i (.int .i64 v) = (L.set i v).map (Value.int .i64) := by rw [List.map_set]

theorem made_list (v : Value) (n : Nat) : (madeCells #[v] n).toList = List.replicate n v := by
  unfold madeCells
  rw [Array.toList_map]
  have h : (fun x : Nat => #[v][x % #[v].size]!) = fun _ => v := by
    funext x
    simp [Nat.mod_one]
  rw [h]
  simp [List.map_const']

theorem specLayersOf_any (s : ByteArray) (w : World) (hs : s.size ≤ 4294967296) : Calls Try.prog 80 #[.string s] w (NewInts w (layers s.data.toList)) := by
  have hst := fun w => specIsStrip_any s w hs
  by_cases h : isStrip s.data.toList = true
  · rw [layers_yes h, size_list]
    obtain ⟨i0, hi0, hz0, hz1, hz2⟩ := info_parts intInfo
    obtain ⟨l, hl⟩ : ∃ l, l = s.data.toList := ⟨_, rfl⟩
    have hsz : l.length = s.size := by rw [hl, size_list]
    have hcn := fun w => l02Count_any s 100 w hs
    rw [cn_dn] at hcn
    rw [h] at hst
    rw [← hl] at hcn h ⊢
    have hln := (isStrip_parts h).1
    have hle : s.size ≤ 16 := by have := isStrip_parts h; omega
    have HL := Lib.hid hl
    have HZ := Lib.hid hsz
    have HC := Lib.hid hcn
    have HST := Lib.hid hst
    have HS := Lib.hid h
    have HOT := Lib.hid (fun k (hk : k < l.length) (h1 : ¬ at_ l k = 100) => by
      by_cases h2 : at_ l k = 102
      · exact h2
      · have := other_letter l k hk h1 h2
        rw [h] at this
        exact absurd this (by simp))
    have HP0 := Lib.hid (show posn l 0 = (dn l : Int) by unfold posn; simp [fw])
    clear hl hsz hcn hst h hln
    go_enter Try.func80, Try.ntmps80
    go_wp2_with fail
    refine (HST.out _).mono ?_
    rintro e w1 ⟨rfl, rfl⟩
    go_wp2_with (at_make; refine wpList_make_full _ rfl (.tmp 11) (.tmp 11) 51 rfl w.heap.size 3 i0 (.int .i64 0) 1 Try.underlying51 hi0 hz0 hz1 .i64 .i64 _ _ s.size rfl rfl rfl rfl (by rw [hz2]; omega) (by unfold maxLen; omega) (Nat.le_refl _) ?_)
    intro w1 hown hgr
    have hb1 : Below w.heap.size w w1 := (Below.refl _ _).grown hgr (Nat.le_refl _) (by simp)
    have HO := Lib.hid hown
    have HB := Lib.hid hb1
    clear hown hb1 hgr
    go_wp2_with fail
    refine (HC.out _).mono ?_
    rintro e w2 ⟨rfl, rfl⟩
    rw [← HP0.out]
    go_wp2_with fail
    go_loopw [4, 5] (fun u i wr => ∃ j : Nat, j ≤ s.size ∧ i = .int .i64 j ∧ u = .int .i64 (posn l j) ∧ wr.ownsRow w.heap.size 3 1 (.slice (some ⟨w.heap.size, 0, none⟩) s.size s.size) s.size ((layP l j).map (Value.int .i64)) ∧ Below w.heap.size w wr) (fun _ i _ => s.size - (intOf i).toNat)
    case atStart => exact ⟨0, Nat.zero_le _, rfl, rfl, by have := HO.out; rw [made_list] at this; simpa [layP, HZ.out] using this, HB.out⟩
    case round =>
      obtain ⟨j, hj, rfl, rfl, hown, hbr⟩ := hrel
      by_cases hlt : j < s.size
      · have hjl : j < l.length := by rw [HZ.out]; exact hlt
        have hg := at_get s j hlt
        rw [← HL.out] at hg
        obtain ⟨hlow, hlo⟩ := low_is HS.out hjl
        have hpo := posn_in HS.out j (by omega)
        rw [HZ.out] at hlo hpo
        have hyl := layP_len l j
        rw [HZ.out] at hyl
        have hsm := layP_small l j
        have hcell := hown.cellAt (low l j) (by omega)
        have hf2 := hown.frozenAt (low l j)
        have hv : ((layP l j).map (Value.int .i64))[low l j]? = some (.int .i64 ((layP l j).getD (low l j) 0)) := by
          rw [List.getElem?_map, List.getD_eq_getElem?_getD, List.getElem?_eq_getElem (by omega)]
          rfl
        rw [hv] at hcell
        have hv2 : 0 ≤ (layP l j).getD (low l j) 0 ∧ (layP l j).getD (low l j) 0 ≤ (j : Int) := by
          rw [List.getD_eq_getElem?_getD, List.getElem?_eq_getElem (by omega)]
          exact hsm _ (List.getElem_mem _)
        have HR := Lib.hid (show (layP l j).set (low l j) ((layP l j).getD (low l j) 0 + 1) = layP l (j + 1) from rfl)
        have H3 := Lib.hid hown
        have H4 := Lib.hid hbr
        have HPF := Lib.hid (fun h => posn_f (l := l) hjl h)
        have HPD := Lib.hid (fun h => posn_d (l := l) hjl h)
        have hpf := fun h => posn_f (l := l) hjl h
        have hpd := fun h => posn_d (l := l) hjl h
        have HLW := Lib.hid hlow
        clear hown hbr hv hsm hyl HO HB
        generalize (layP l j).getD (low l j) 0 = v at *
        generalize low l j = lo at *
        generalize hc : at_ l j = c at *
        have HC2 := Lib.hid hc
        clear hc
        generalize hp1 : posn l (j + 1) = p1 at *
        have HP1 := Lib.hid hp1
        clear hp1
        generalize posn l j = p at *
        by_cases h1 : c = 100
        · have hb : ((c.toNat : Int) == 100) = true := by rw [h1]; rfl
          have e1 := hpd (by rw [h1]; decide)
          have e2 : p - 1 = (lo : Int) := by omega
          have e3 : p = (lo : Int) + 1 := by omega
          subst e3
          have E1 := Lib.hid e1
          clear hpf hpd h1 e1 hlow e2
          go_wp2_with fail
          go_roundw
          case rel =>
            obtain ⟨s1, s2⟩ := H3.out.stored lo (.int .i64 (v + 1))
            refine ⟨j + 1, by omega, by go_num, by rw [HP1.out, E1.out]; exact congrArg (Value.int .i64) (by omega), ?_, H4.out.setCell (Nat.le_refl _) _⟩
            rw [← HR.out, ← map_set_int]
            exact s1
          case measure => simp [intOf]; omega
        · have h2 := HOT.out j hjl (by rw [HC2.out]; exact h1)
          rw [HC2.out] at h2
          have hb : ((c.toNat : Int) == 100) = false := by rw [h2]; rfl
          have e1 := hpf h2
          have e3 : p = (lo : Int) := by omega
          subst e3
          have E1 := Lib.hid e1
          clear hpf hpd h1 h2 e1 hlow
          go_wp2_with fail
          go_roundw
          case rel =>
            obtain ⟨s1, s2⟩ := H3.out.stored lo (.int .i64 (v + 1))
            refine ⟨j + 1, by omega, by go_num, by rw [HP1.out, E1.out], ?_, H4.out.setCell (Nat.le_refl _) _⟩
            rw [← HR.out, ← map_set_int]
            exact s1
          case measure => simp [intOf]; omega
      · obtain rfl : j = s.size := by omega
        go_wp2_with fail
        go_ret
        have hl := layP_len l s.size
        rw [HZ.out] at hl
        generalize layP l s.size = zs at *
        exact ⟨some ⟨w.heap.size, 0, none⟩, s.size, by rw [hl]; rfl, by rw [hl]; exact hown, hbr⟩
  · have h' : isStrip s.data.toList = false := by simpa using h
    rw [layers_no h']
    rw [h'] at hst
    go_enter Try.func80, Try.ntmps80
    go_wp2_with fail
    refine (hst _).mono ?_
    rintro e w1 ⟨rfl, rfl⟩
    go_wp2_with fail
    go_ret
    exact ⟨_, _, rfl, World.ownsRow_made w #[] 0 (Nat.le_refl _) (Nat.zero_le _) (by simp), (by repeat' (first | exact Below.refl _ _ | assumption | (refine Below.drew ?_) | (refine below_drewN ?_ _) | (refine below_thru ?_ (by assumption)) | (refine below_alloc ?_ _) | (refine Below.setCell ?_ (by first | omega | (simp; done) | (simp; omega)) _) | (refine Below.alloc ?_ (by first | omega | (simp; done) | (simp; omega)) _)))⟩

theorem implLayersOf_any (s : ByteArray) (w : World) (hs : s.size ≤ 4294967296) : Calls Try.prog 42 #[.string s] w (NewInts w (layers s.data.toList)) := by
  have hst := fun w => implIsStrip_any s w hs
  by_cases h : isStrip s.data.toList = true
  · rw [layers_yes h, size_list]
    obtain ⟨i0, hi0, hz0, hz1, hz2⟩ := info_parts intInfo
    obtain ⟨l, hl⟩ : ∃ l, l = s.data.toList := ⟨_, rfl⟩
    have hsz : l.length = s.size := by rw [hl, size_list]
    have hcn := fun k w (hk : k ≤ s.size) => implPlace0_any s k w hs hk h
    rw [h] at hst
    rw [← hl] at hcn h ⊢
    have hle : s.size ≤ 16 := by have := isStrip_parts h; omega
    have HL := Lib.hid hl
    have HZ := Lib.hid hsz
    have HC := Lib.hid hcn
    have HST := Lib.hid hst
    have HS := Lib.hid h
    clear hl hsz hcn hst h
    go_enter Try.func42, Try.ntmps42
    go_wp2_with fail
    refine (HST.out _).mono ?_
    rintro e w1 ⟨rfl, rfl⟩
    go_wp2_with (at_make; refine wpList_make_full _ rfl (.tmp 15) (.tmp 15) 51 rfl w.heap.size 3 i0 (.int .i64 0) 1 Try.underlying51 hi0 hz0 hz1 .i64 .i64 _ _ s.size rfl rfl rfl rfl (by rw [hz2]; omega) (by unfold maxLen; omega) (Nat.le_refl _) ?_)
    intro w1 hown hgr
    have hb1 : Below w.heap.size w w1 := (Below.refl _ _).grown hgr (Nat.le_refl _) (by simp)
    have HO := Lib.hid hown
    have HB := Lib.hid hb1
    clear hown hb1 hgr
    go_wp2_with fail
    go_loopw [19] (fun i wr => ∃ j : Nat, j ≤ s.size ∧ i = .int .i64 j ∧ wr.ownsRow w.heap.size 3 1 (.slice (some ⟨w.heap.size, 0, none⟩) s.size s.size) s.size ((layP l j).map (Value.int .i64)) ∧ Below w.heap.size w wr) (fun i _ => s.size - (intOf i).toNat)
    case atStart => exact ⟨0, Nat.zero_le _, rfl, by have := HO.out; rw [made_list] at this; simpa [layP, HZ.out] using this, HB.out⟩
    case round =>
      obtain ⟨j, hj, rfl, hown, hbr⟩ := hrel
      by_cases hlt : j < s.size
      · have hjl : j < l.length := by rw [HZ.out]; exact hlt
        have hg := at_get s j hlt
        rw [← HL.out] at hg
        obtain ⟨hlow, hlo⟩ := low_is HS.out hjl
        have hpo := posn_in HS.out j (by omega)
        rw [HZ.out] at hlo hpo
        have hyl := layP_len l j
        rw [HZ.out] at hyl
        have hsm := layP_small l j
        have hcell := hown.cellAt (low l j) (by omega)
        have hf2 := hown.frozenAt (low l j)
        have hv : ((layP l j).map (Value.int .i64))[low l j]? = some (.int .i64 ((layP l j).getD (low l j) 0)) := by
          rw [List.getElem?_map, List.getD_eq_getElem?_getD, List.getElem?_eq_getElem (by omega)]
          rfl
        rw [hv] at hcell
        have hv2 : 0 ≤ (layP l j).getD (low l j) 0 ∧ (layP l j).getD (low l j) 0 ≤ (j : Int) := by
          rw [List.getD_eq_getElem?_getD, List.getElem?_eq_getElem (by omega)]
          exact hsm _ (List.getElem_mem _)
        have HR := Lib.hid (show (layP l j).set (low l j) ((layP l j).getD (low l j) 0 + 1) = layP l (j + 1) from rfl)
        have H3 := Lib.hid hown
        have H4 := Lib.hid hbr
        have HLW := Lib.hid hlow
        have HCA := Lib.hid (fun w => HC.out j w (by omega))
        have HCB := Lib.hid (fun w => HC.out (j + 1) w (by omega))
        clear hown hbr hv hsm hyl HO HB
        generalize (layP l j).getD (low l j) 0 = v at *
        generalize low l j = lo at *
        generalize posn l (j + 1) = p1 at *
        generalize posn l j = p at *
        clear hlow
        go_wp2_with fail
        refine (HCA.out _).mono ?_
        rintro e w2 ⟨rfl, rfl⟩
        go_wp2_with fail
        refine (HCB.out _).mono ?_
        rintro e w2 ⟨rfl, rfl⟩
        have hlow := HLW.out
        go_wp2_with fail
        go_roundw
        case rel =>
          obtain ⟨s1, s2⟩ := H3.out.stored lo (.int .i64 (v + 1))
          refine ⟨j + 1, by omega, by go_num, ?_, H4.out.setCell (Nat.le_refl _) _⟩
          rw [← HR.out, ← map_set_int]
          exact s1
        case measure => simp [intOf]; omega
      · obtain rfl : j = s.size := by omega
        go_wp2_with fail
        go_ret
        have hl := layP_len l s.size
        rw [HZ.out] at hl
        generalize layP l s.size = zs at *
        exact ⟨some ⟨w.heap.size, 0, none⟩, s.size, by rw [hl]; rfl, by rw [hl]; exact hown, hbr⟩
  · have h' : isStrip s.data.toList = false := by simpa using h
    rw [layers_no h']
    rw [h'] at hst
    go_enter Try.func42, Try.ntmps42
    go_wp2_with fail
    refine (hst _).mono ?_
    rintro e w1 ⟨rfl, rfl⟩
    go_wp2_with fail
    go_ret
    exact newInts_nil _

end Go.Proofs.Ytkhlolhmaoenoaa
