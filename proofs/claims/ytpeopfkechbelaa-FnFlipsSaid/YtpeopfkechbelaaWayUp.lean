
/-
  The contracts of WayUp on both sides; no condition beyond the length of the texts.
-/
import Derived.Test.YtpeopfkechbelaaWayP
import Derived.Test.YtpeopfkechbelaaAbove2
import Derived.Test.YtpeopfkechbelaaRaises
namespace Go.Proofs.Ytpeopfkechbelaa
open Go.ChangeShapes Go.WideShapes Go.ChangeAt Go.RowKit Go.Deep Go.BigFrame
set_option linter.unusedVariables false
set_option linter.unusedSimpArgs false

/-- the text that a value is -/
def txt (v : Value) : ByteArray := match v with | .string s => s | _ => .empty

theorem up_zero (t s : List UInt8) : up t s 0 = false := by
  cases h : up t s 0 with
  | false => rfl
  | true =>
    exfalso
    simp only [up, Bool.and_eq_true] at h
    have := (valley_parts h.1).2.1
    omega
theorem up_no_fold { t s : List UInt8} {k : Nat} (h : foldAt 100 s (k : Int) = false) : up t s k = false := by unfold up; rw [h]; rfl
theorem up_fold { t s : List UInt8} {k : Nat} (h : foldAt 100 s (k : Int) = true) : up t s k = isAbove t (swp s k) := by unfold up; rw [h]; rfl
theorem no_next {p : Nat → Bool} {j : Nat} (h : ∀ i, i < j → p i = false) (hj : p j = false) : ∀ i, i < j + 1 → p i = false := fun i hi => by
  by_cases e : i < j
  · exact h i e
  · obtain rfl : i = j := by omega
    exact hj
theorem str_ne {s t : ByteArray} (h : ¬ s = t) : (s.toList == t.toList) = false := by
  cases e : (s.toList == t.toList) with
  | false => rfl
  | true =>
    exfalso
    apply h
    have e2 := eq_of_beq e
    rw [Lib.toList_data, Lib.toList_data] at e2
    rw [← bs_of s, ← bs_of t, e2]
theorem list_bytes {s t : ByteArray} (h : s.data.toList = t.data.toList) : s = t := by rw [← bs_of s, ← bs_of t, h]

/-- what the outer round's end needs, where the step at j is taken -/
theorem way_next { t : List UInt8} {sc : ByteArray} {zs W : List Int} {j : Nat} (ha : isAbove t sc.data.toList = true) (hj : j < sc.size) (hno : ∀ i, i < j → up t sc.data.toList i = false) (hu : up t sc.data.toList j = true)
    (hW : zs ++ wayF (gap t sc.data.toList) t sc.data.toList = W) :
    (turnB sc j).size = sc.size ∧ isAbove t (turnB sc j).data.toList = true ∧ (zs ++ [(j : Int)]) ++ wayF (gap t (turnB sc j).data.toList) t (turnB sc j).data.toList = W ∧ gap t (turnB sc j).data.toList < gap t sc.data.toList := by
  have hu' := hu
  simp only [up, Bool.and_eq_true] at hu'
  have h1 := (valley_parts hu'.1).2.1
  have e := turnB_list sc j h1 hj
  have hf := firstUp_is (t := t) (s := sc.data.toList) (by rw [size_list]; exact hj) hu hno
  have g := gap_up ha hu
  rw [wayF_step ha hf hu] at hW
  rw [e]
  refine ⟨turnB_size sc j h1 hj, hu'.2, ?_, by omega⟩
  rw [List.append_assoc]
  exact hW

theorem wayUp_small {s t : List UInt8} (h : isAbove t s = true) : gap t s ≤ 272 := by
  obtain ⟨hf, _⟩ := isAbove_parts h
  have a := isStrip_parts (sameFrame_parts hf).1
  have b := isStrip_parts (sameFrame_parts hf).2.1
  have e := sameFrame_len hf
  have g := gap_le (t := t) (s := s)
  have : (s.length + 1) * t.length ≤ 17 * 16 := Nat.mul_le_mul (by omega) (by omega)
  omega

theorem getD_left (a b : List Int) (j : Nat) (h : j < a.length) : (a ++ b).getD j 0 = a.getD j 0 := by
  simp [List.getD, List.getElem?_append_left h]
theorem kP_has {p : Nat → Bool} {n i : Nat} (h : i < n) (hp : p i = true) : ∃ j, j < (kP p n).length ∧ (kP p n).getD j 0 = (i : Int) := by
  have hm : (i : Int) ∈ kP p n := List.mem_map.2 ⟨i, List.mem_filter.2 ⟨List.mem_range.2 h, hp⟩, rfl⟩
  obtain ⟨j, hj, e⟩ := List.getElem_of_mem hm
  exact ⟨j, hj, by simpa [List.getD, hj] using e⟩
theorem kP_before {p : Nat → Bool} : ∀ n j, j < (kP p n).length → ∃ k : Nat, (kP p n).getD j 0 = (k : Int) ∧ k < n ∧ p k = true ∧ ∀ i, i < k → p i = true → ∃ j', j' < j ∧ (kP p n).getD j' 0 = (i : Int) := by
  intro n
  induction n with
  | zero => intro j h; exact absurd h (by simp [kP])
  | succ n ih =>
    intro j h
    cases hp : p n with
    | false =>
      rw [kP_no hp] at h ⊢
      obtain ⟨k, h1, h2, h3, h4⟩ := ih j h
      exact ⟨k, h1, by omega, h3, h4⟩
    | true =>
      rw [kP_yes hp] at h ⊢
      by_cases hj : j < (kP p n).length
      · obtain ⟨k, h1, h2, h3, h4⟩ := ih j hj
        refine ⟨k, by rw [getD_left _ _ _ hj]; exact h1, by omega, h3, fun i hi hpi => ?_⟩
        obtain ⟨j', h5, h6⟩ := h4 i hi hpi
        exact ⟨j', h5, by rw [getD_left _ _ _ (by omega)]; exact h6⟩
      · have e : j = (kP p n).length := by rw [List.length_append] at h; simp at h; omega
        refine ⟨n, ?_, Nat.lt_succ_self n, hp, fun i hi hpi => ?_⟩
        · rw [e]; simp [List.getD]
        · obtain ⟨j', h5, h6⟩ := kP_has hi hpi
          exact ⟨j', by omega, by rw [getD_left _ _ _ h5]; exact h6⟩

set_option maxRecDepth 8000 in
theorem implWayUp_any (s t : ByteArray) (w : World) (hs : s.size ≤ 4294967296) (ht : t.size ≤ 4294967296) : Calls Try.prog 32 #[.string s, .string t] w (NewInts w (wayUp s.data.toList t.data.toList)) := by
  obtain ⟨i0, hi0, hz0, hz1, hz2⟩ := info_parts intInfo
  have hab := fun w => implIsAbove_any t s w ht hs
  by_cases ha : isAbove t.data.toList s.data.toList = true
  case neg =>
    have ha' : isAbove t.data.toList s.data.toList = false := by simpa using ha
    rw [show wayUp s.data.toList t.data.toList = [] from if_neg ha]
    rw [ha'] at hab
    clear ha ha'
    go_enter Try.func32, Try.ntmps32
    go_wp2_with fail
    refine (hab _).mono ?_
    rintro e w1 ⟨rfl, rfl⟩
    go_wp2_with fail
    go_ret
    exact newInts_nil _
  rw [show wayUp s.data.toList t.data.toList = wayF (gap t.data.toList s.data.toList) t.data.toList s.data.toList from if_pos ha]
  rw [ha] at hab
  have hW0 := wayF_len (t := t.data.toList) (gap t.data.toList s.data.toList) s.data.toList
  have hWs := wayUp_small ha
  have htl := isStrip_parts (sameFrame_parts (isAbove_parts ha).1).1
  have hls := sameFrame_len (isAbove_parts ha).1
  rw [size_list, size_list] at hls
  rw [size_list] at htl
  have hn16 : s.size ≤ 16 := by omega
  clear htl
  obtain ⟨W, hW⟩ : ∃ W, W = wayF (gap t.data.toList s.data.toList) t.data.toList s.data.toList := ⟨_, rfl⟩
  rw [← hW] at hW0 ⊢
  have hWl : W.length ≤ 272 := by omega
  have hA := fun sc w (h : sc.size = s.size) => implIsAbove_any t sc w ht (by omega)
  have hR := fun sc w (h : sc.size = s.size) => implRaisesOf_any sc w (by omega)
  have hU := fun sc (k : Nat) w (h : sc.size = s.size) (h1 : 1 ≤ k) (h2 : k + 1 ≤ sc.size) => turnedAt_any sc k w (by omega) h1 h2
  obtain ⟨T, hT⟩ : ∃ T, T = t.data.toList := ⟨_, rfl⟩
  rw [← hT] at ha hW hA
  have H0 := Lib.hid ha
  have HW := Lib.hid hW
  have HA := Lib.hid hA
  have HR := Lib.hid hR
  have HU := Lib.hid hU
  have HT := Lib.hid hT
  have HAB := Lib.hid hab
  clear hab ha hW hA hR hU hT hW0 hWs hls
  go_enter Try.func32, Try.ntmps32
  go_wp2_with fail
  refine (HAB.out _).mono ?_
  rintro e w1 ⟨rfl, rfl⟩
  go_wp2_with fail
  go_loopw [0, 5] (fun sv o wr => ∃ (sc : ByteArray) (zs : List Int), sv = .string sc ∧ sc.size = s.size ∧ isAbove T sc.data.toList = true ∧ zs ++ wayF (gap T sc.data.toList) T sc.data.toList = W ∧ wr.ownsRow w.heap.size 3 1 o zs.length (zs.map (Value.int .i64)) ∧ Below w.heap.size w wr) (fun sv _ _ => gap T (txt sv).data.toList)
  case atStart => exact ⟨s, [], rfl, rfl, H0.out, by rw [HW.out]; rfl, World.ownsRow_made w #[] 0 (Nat.le_refl _) (Nat.zero_le _) (by simp), (by repeat' (first | exact Below.refl _ _ | assumption | (refine Below.drew ?_) | (refine below_drewN ?_ _) | (refine below_thru ?_ (by assumption)) | (refine below_alloc ?_ _) | (refine Below.setCell ?_ (by first | omega | (simp; done) | (simp; omega)) _) | (refine Below.alloc ?_ (by first | omega | (simp; done) | (simp; omega)) _)))⟩
  case round =>
    obtain ⟨sc, zs, rfl, hscz, hab, hzW, hown, hbr⟩ := hrel
    have hzl : zs.length ≤ 272 := by rw [← hzW, List.length_append] at hWl; omega
    have hsz : w.heap.size ≤ wr.heap.size := hbr.size
    have H1 := Lib.hid hscz
    have H2 := Lib.hid hab
    have H3 := Lib.hid hzW
    have H4 := Lib.hid hown
    have H5 := Lib.hid hbr
    by_cases heq : sc = t
    · subst heq
      have hzz : zs = W := by
        rw [← HT.out, gap_self] at hzW
        simpa [wayF] using hzW
      subst hzz
      clear hscz hab hzW hown hbr
      go_wp2_with fail
      go_ret
      obtain ⟨A, c, e, _⟩ := Row.of_own H4.out
      subst e
      exact ⟨A, c, rfl, H4.out, H5.out⟩
    · have hne := str_ne heq
      have hne2 : sc.data.toList ≠ T := fun e => heq (list_bytes (by rw [e, HT.out]))
      obtain ⟨kk, hkk, hup⟩ := up_some hab hne2
      have HUP : Hid ((∀ i, i < sc.data.toList.length → up T sc.data.toList i = false) → False) := Lib.hid (fun h => by have := h kk hkk; rw [hup] at this; exact absurd this (by decide))
      have hsc16 : sc.size ≤ 16 := by omega
      have HRS := Lib.hid (fun w => HR.out sc w hscz)
      have hbef := fun j => kP_before (p := fun k => foldAt 100 sc.data.toList (k : Int)) sc.data.toList.length j
      have hhas := fun i => kP_has (p := fun k => foldAt 100 sc.data.toList (k : Int)) (n := sc.data.toList.length) (i := i)
      obtain ⟨rs, hrs⟩ : ∃ rs, rs = raisesOf sc.data.toList := ⟨_, rfl⟩
      have hrl : rs.length ≤ 16 := by have := raisesOf_len sc.data.toList; rw [size_list] at this; rw [hrs]; omega
      rw [← hrs] at HRS
      rw [show kP (fun k => foldAt 100 sc.data.toList (k : Int)) sc.data.toList.length = rs from hrs.symm] at hbef hhas
      have HBE := Lib.hid hbef
      have HHA := Lib.hid hhas
      clear hscz hab hzW hown hbr hup hkk heq hne2 hbef hhas hrs
      go_wp2_with fail
      refine (HRS.out _).mono ?_
      rintro e wo ⟨A, c, rfl, hor, hbo⟩
      have hrow := IRow.of_own hor
      have HO4 := Lib.hid (own_on H4.out hbo)
      have HB5 := Lib.hid (below_thru H5.out hbo)
      have hszo : w.heap.size ≤ wo.heap.size := by have := hbo.size; omega
      have HRW := Lib.hid hrow
      clear hor hbo hrow
      go_wp2_with fail
      go_loopw [0, 5, 20] (fun sv ov kv wi => ∃ j q : Nat, sv = .string sc ∧ wo.ownsRow w.heap.size 3 1 ov zs.length (zs.map (Value.int .i64)) ∧ j ≤ rs.length ∧ kv = .int .i64 j ∧ (∀ i, i < j → up T sc.data.toList (rs.getD i 0).toNat = false) ∧ wi = wo.drewN q) (fun _ _ kv _ => rs.length - (intOf kv).toNat)
      case atStart => exact ⟨0, 0, rfl, HO4.out, Nat.zero_le _, rfl, fun i hi => by omega, rfl⟩
      case round =>
        obtain ⟨j, q, rfl, hown, hj2, rfl, hno, rfl⟩ := hrel
        have HN := Lib.hid hno
        clear HO4
        have H4 := Lib.hid hown
        clear hno hown
        by_cases hjl : j < rs.length
        · obtain ⟨b1, o1, rfl, hb1, hc1⟩ := HRW.out.at_ (k := j) hjl
          obtain ⟨k, hk1, hk2, hk3, hk4⟩ := HBE.out j hjl
          have hvp := valley_parts hk3
          have hk5 : k + 1 ≤ sc.size := by rw [← size_list]; omega
          rw [hk1] at hc1
          have hUk := fun w => HU.out sc k w H1.out hvp.2.1 hk5
          have hturn := turnB_list sc k hvp.2.1 (by omega)
          have hts := turnB_size sc k hvp.2.1 (by omega)
          have hAj := fun w => HA.out (turnB sc k) w (by rw [hts]; exact H1.out)
          rw [hturn] at hAj
          have hupj := up_fold (t := T) hk3
          have HUK := Lib.hid hUk
          have hji : (j : Int) < (rs.length : Int) := by omega
          cases hu : isAbove T (swp sc.data.toList k)
          · rw [hu] at hAj hupj
            have HF := Lib.hid (no_next (p := fun i => up T sc.data.toList (rs.getD i 0).toNat) HN.out (by show up T sc.data.toList (rs.getD j 0).toNat = false; rw [hk1, Int.toNat_natCast]; exact hupj))
            have HAJ := Lib.hid hAj
            clear hUk hturn hts hAj hupj hu hk1 hk3 hk4 hvp
            go_wp2_with fail
            refine (HUK.out _).mono ?_
            rintro e w2 ⟨rfl, q2, rfl⟩
            go_wp2_with fail
            refine (HAJ.out _).mono ?_
            rintro e w2 ⟨rfl, rfl⟩
            go_wp2_with fail
            go_roundw
            case rel => exact ⟨j + 1, q + q2, rfl, H4.out, by omega, by go_num, HF.out, rfl⟩
            case measure => simp [intOf]; omega
          · rw [hu] at hAj hupj
            have hfirst : ∀ i, i < k → up T sc.data.toList i = false := fun i hi => by
              cases hf : foldAt 100 sc.data.toList (i : Int) with
              | false => exact up_no_fold hf
              | true =>
                obtain ⟨j', h5, h6⟩ := hk4 i hi hf
                have := HN.out j' h5
                rw [h6, Int.toNat_natCast] at this
                exact this
            have HX := Lib.hid (way_next H2.out (by omega) hfirst hupj H3.out)
            have HAJ := Lib.hid hAj
            clear hUk hturn hts hAj hupj hu hk1 hk3 hk4 hvp hfirst
            go_wp2_with fail
            refine (HUK.out _).mono ?_
            rintro e w2 ⟨rfl, q2, rfl⟩
            go_wp2_with fail
            refine (HAJ.out _).mono ?_
            rintro e w2 ⟨rfl, rfl⟩
            have HO3 := Lib.hid (own_drewN H4.out (q + q2))
            have HB4 := Lib.hid (below_drewN HB5.out (q + q2))
            have hsz2 : w.heap.size ≤ (wo.drewN (q + q2)).heap.size := hszo
            clear hc1
            generalize wo.drewN (q + q2) = wq at *
            generalize turnB sc k = xx at *
            go_wp2_with (at_builtin; refine wpList_append_own _ rfl _ _ 51 rfl w.heap.size 3 i0 (.int .i64 0) 1 8 Try.underlying51 hi0 hz0 hz1 hz2 rfl (by decide) _ _ _ rfl (HO3.out.alloc _) ⟨wq.heap.size, 0, none⟩ 1 1 [.int .i64 k] rfl rfl (news_one _ _ _) (one_one rfl) (by unfold maxLen; omega) (by omega) (by simp; omega) ?_; intro v1 w1 hown1 hgr1 _)
            have hb1 := below_app HB4.out HO3.out hgr1
            have HW1 := Lib.hid hown1
            have HB1 := Lib.hid hb1
            clear hown1 hb1 hgr1
            go_wp2_with fail
            go_roundw
            case rel =>
              obtain ⟨x1, x2, x3, x4⟩ := HX.out
              exact ⟨xx, zs ++ [(k : Int)], rfl, x1.trans H1.out, x2, x3, by simpa using HW1.out, HB1.out⟩
            case measure => exact HX.out.2.2.2
        · refine (HUP.out fun i hi => ?_).elim
          cases hf : foldAt 100 sc.data.toList (i : Int) with
          | false => exact up_no_fold hf
          | true =>
            obtain ⟨j', h5, h6⟩ := HHA.out i hi hf
            have := HN.out j' (by omega)
            rw [h6, Int.toNat_natCast] at this
            exact this

end Go.Proofs.Ytpeopfkechbelaa
