
/-
  Contracts of the laws' own functions on slices of texts (size, copy, equal, mark, held); no condition.
-/
import Derived.Test.YtkhlolhmaoenoaaInts0
import Derived.Test.YtkhlolhmaoenoaaStr0
namespace Go.Proofs.Ytkhlolhmaoenoaa
open Go.ChangeShapes Go.WideShapes Go.ChangeAt Go.RowKit Go.Deep
set_option linter.unusedVariables false
set_option linter.unusedSimpArgs false

/-- what is left of a size behind the texts, -1 where it does not suffice -/
def szs : Int → List ByteArray → Int
  | left, [] => left
  | left, s :: t => if left - (s.size : Int) < 0 then -1 else szs (left - s.size) t
def szAll (left : Int) (ss : List ByteArray) : Int := if left - (ss.length : Int) < 0 then -1 else szs (left - ss.length) ss
theorem szs_le : ∀ (ss : List ByteArray) (left : Int), -1 ≤ left → szs left ss ≤ left ∧ -1 ≤ szs left ss := by
  intro ss
  induction ss with
  | nil => intro left h; exact ⟨Int.le_refl _, h⟩
  | cons s t ih =>
    intro left h
    unfold szs
    by_cases a : left - (s.size : Int) < 0
    · rw [if_pos a]; omega
    · rw [if_neg a]
      have := ih (left - (s.size : Int)) (by omega)
      omega
theorem szs_small : ∀ (ss : List ByteArray) (left : Int), left ≤ 1048576 → 0 ≤ szs left ss → ∀ s ∈ ss, s.size ≤ 1048576 := by
  intro ss
  induction ss with
  | nil => intro left _ _ s h; exact absurd h (by simp)
  | cons s t ih =>
    intro left hl h x hx
    unfold szs at h
    by_cases a : left - (s.size : Int) < 0
    · rw [if_pos a] at h; omega
    · rw [if_neg a] at h
      rcases List.mem_cons.1 hx with rfl | hx
      · omega
      · exact ih _ (by omega) h x hx
theorem szAll_small {ss : List ByteArray} (h : 0 ≤ szAll 1048576 ss) : ss.length ≤ 1048576 ∧ ∀ s ∈ ss, s.size ≤ 1048576 := by
  unfold szAll at h
  by_cases a : 1048576 - (ss.length : Int) < 0
  · rw [if_pos a] at h; omega
  · rw [if_neg a] at h
    exact ⟨by omega, szs_small ss _ (by omega) h⟩
theorem szAll_cases (ss : List ByteArray) (left : Int) (h : 0 ≤ left) : 0 ≤ szAll left ss ∨ szAll left ss = -1 := by
  unfold szAll
  by_cases a : left - (ss.length : Int) < 0
  · rw [if_pos a]; omega
  · rw [if_neg a]
    have := (szs_le ss (left - (ss.length : Int)) (by omega)).2
    omega
theorem szs_drop_yes {ss : List ByteArray} {k : Nat} {left : Int} (hk : k < ss.length) (h : ¬ left - ((ss.getD k .empty).size : Int) < 0) : szs left (ss.drop k) = szs (left - ((ss.getD k .empty).size : Int)) (ss.drop (k + 1)) := by
  rw [List.drop_eq_getElem_cons hk]
  have e : ss.getD k .empty = ss[k] := by simp [List.getD, hk]
  rw [e] at h ⊢
  exact if_neg h
theorem szs_drop_no {ss : List ByteArray} {k : Nat} {left : Int} (hk : k < ss.length) (h : left - ((ss.getD k .empty).size : Int) < 0) : szs left (ss.drop k) = -1 := by
  rw [List.drop_eq_getElem_cons hk]
  have e : ss.getD k .empty = ss[k] := by simp [List.getD, hk]
  rw [e] at h
  exact if_pos h

theorem szStringS_any (A : Option Addr) (c : Nat) (ss : List ByteArray) (left : Int) (w : World) (hx : SRow w w.heap.size A ss) (hm : ∀ s ∈ ss, s.size ≤ maxLen) (h0 : 0 ≤ left) (h1 : left ≤ 1048576) :
    Calls Try.prog 66 #[.slice A ss.length c, .int .i64 left] w fun e w' => e = .returned (.int .i64 (szAll left ss)) ∧ ∃ q, w' = w.drewN q := by
  have hmx := hx.2.1
  unfold maxLen at hmx
  generalize hl : ss.length = n at *
  have HL := Lib.hid hl
  by_cases h : left - (n : Int) < 0
  · have e : szAll left ss = -1 := by unfold szAll; rw [hl]; exact if_pos h
    rw [e]
    clear hl e
    go_enter Try.func66, Try.ntmps66
    go_wp2_with fail
    go_ret
    exact ⟨rfl, 0, rfl⟩
  · have e : szAll left ss = szs (left - n) ss := by unfold szAll; rw [hl]; exact if_neg h
    rw [e]
    clear hl e
    go_enter Try.func66, Try.ntmps66
    go_wp2_with fail
    go_loopw [1, 5] (fun l i wr => ∃ (k : Nat) (lf : Int), k ≤ n ∧ i = .int .i64 k ∧ l = .int .i64 lf ∧ 0 ≤ lf ∧ lf ≤ 1048576 ∧ szs lf (ss.drop k) = szs (left - n) ss ∧ ∃ q, wr = w.drewN q) (fun _ i _ => n - (intOf i).toNat)
    case atStart => exact ⟨0, left - n, Nat.zero_le _, rfl, rfl, by omega, by omega, rfl, 0, rfl⟩
    case round =>
      obtain ⟨k, lf, hk, rfl, rfl, hl0, hl1, hs, q, rfl⟩ := hrel
      by_cases hlt : k < n
      · obtain ⟨b1, o1, rfl, hb1, hc1⟩ := hx.at_ (k := k) (by rw [HL.out]; exact hlt)
        have hy := szs_drop_yes (left := lf) (ss := ss) (k := k) (by rw [HL.out]; exact hlt)
        have hn := szs_drop_no (left := lf) (ss := ss) (k := k) (by rw [HL.out]; exact hlt)
        have hsm : (ss.getD k .empty).size ≤ maxLen := hm _ (by
          have : k < ss.length := by rw [HL.out]; exact hlt
          simp [List.getD, this])
        unfold maxLen at hsm
        generalize ss.getD k .empty = s at *
        have HY := Lib.hid hy
        have HN := Lib.hid hn
        have HS := Lib.hid hs
        have hi : (k : Int) < (n : Int) := by omega
        clear hy hn hs hx hm
        by_cases hb : lf - (s.size : Int) < 0
        · go_wp2_with fail
          go_ret
          refine ⟨?_, _, rfl⟩
          rw [← HS.out, HN.out hb]
          rfl
        · go_wp2_with fail
          go_roundw
          case rel => exact ⟨k + 1, lf - (s.size : Int), by omega, by go_num, rfl, by omega, by omega, by rw [← HS.out, HY.out hb], _, rfl⟩
          case measure => simp [intOf]; omega
      · obtain rfl : k = n := by omega
        have e : ss.drop k = [] := List.drop_eq_nil_of_le (by rw [HL.out]; exact Nat.le_refl _)
        rw [e] at hs
        have HS := Lib.hid hs
        clear hs e hx hm
        go_wp2_with fail
        go_ret
        refine ⟨?_, q, rfl⟩
        rw [← HS.out]
        rfl

/-- a new slice of texts of the call's own -/
def NewStrs (w : World) (ss : List ByteArray) (e : Ending) (w' : World) : Prop :=
  ∃ A c, e = .returned (.slice A ss.length c) ∧ w'.ownsRow w.heap.size 9 1 (.slice A ss.length c) ss.length (ss.map Value.string) ∧ Below w.heap.size w w'

theorem strInfo : (Try.prog.info? 9).map (fun i => (i.zero, i.size, i.bytes)) = some (some (.string .empty), 1, 16) := by kernel_rfl

theorem toStringS_any (A : Option Addr) (c : Nat) (xs : List ByteArray) (w : World) (hx : SRow w w.heap.size A xs) (hn : xs.length ≤ 1048576) :
    Calls Try.prog 68 #[.slice A xs.length c] w (NewStrs w xs) := by
  obtain ⟨i0, hi0, hz0, hz1, hz2⟩ := info_parts strInfo
  generalize hl : xs.length = n at *
  have HL := Lib.hid hl
  clear hl
  go_enter Try.func68, Try.ntmps68
  go_wp2_with (at_make; refine wpList_make_full _ rfl (.tmp 6) (.tmp 6) 22 rfl w.heap.size 9 i0 (.string .empty) 1 Try.underlying22 hi0 hz0 hz1 .i64 .i64 _ _ n rfl rfl rfl rfl (by rw [hz2]; omega) (by unfold maxLen; omega) (Nat.le_refl _) ?_)
  intro w1 hown hgr
  have hb1 : Below w.heap.size w w1 := (Below.refl _ _).grown hgr (Nat.le_refl _) (by simp)
  go_wp2_with fail
  have HO := Lib.hid hown
  have HB := Lib.hid hb1
  clear hown hb1 hgr
  go_loopw [4] (fun i wr => ∃ j : Nat, ∃ ys : List Value, j ≤ n ∧ i = .int .i64 j ∧ wr.ownsRow w.heap.size 9 1 (.slice (some ⟨w.heap.size, 0, none⟩) n n) n ys ∧ ys.take j = (xs.map Value.string).take j ∧ Below w.heap.size w wr) (fun i _ => n - (intOf i).toNat)
  case atStart => exact ⟨0, _, Nat.zero_le _, rfl, HO.out, rfl, HB.out⟩
  case round =>
    obtain ⟨j, ys, hj, rfl, hown, hts, hbr⟩ := hrel
    by_cases hlt : j < n
    · obtain ⟨b1, o1, rfl, hb1, hc1⟩ := (hx.below hbr).at_ (k := j) (by rw [HL.out]; exact hlt)
      generalize hv : xs.getD j .empty = v at *
      have HV := Lib.hid hv
      have hyl : ys.length = n := by have := hown.1; omega
      have hc2 := hown.cellAt j (by omega)
      have hf2 := hown.frozenAt j
      rw [List.getElem?_eq_getElem (by omega)] at hc2
      generalize ys[j]'(by omega) = u at hc2
      have hi : (j : Int) < (n : Int) := by omega
      have H1 := Lib.hid hts
      have H2 := Lib.hid hyl
      have H3 := Lib.hid hown
      have H4 := Lib.hid hbr
      clear hts hyl hown hbr hv hx HO HB
      go_wp2
      go_roundw
      case rel =>
        obtain ⟨s1, s2⟩ := H3.out.stored j (.string v)
        refine ⟨j + 1, _, by omega, by go_num, s1, ?_, H4.out.setCell (Nat.le_refl _) _⟩
        rw [take_set_snoc ys j _ (by rw [H2.out]; exact hlt), H1.out, take_snoc_getD _ j (.string .empty) (by rw [List.length_map, HL.out]; exact hlt)]
        have hl : j < xs.length := by rw [HL.out]; exact hlt
        rw [← HV.out]
        simp [List.getD, hl]
      case measure => simp [intOf]; omega
    · obtain rfl : j = n := by omega
      clear HO HB
      go_wp2
      go_ret
      have e1 : ys = xs.map Value.string := by
        have h1 : ys.length = j := by have := hown.1; omega
        rw [List.take_of_length_le (by omega), List.take_of_length_le (by rw [List.length_map, HL.out]; exact Nat.le_refl _)] at hts
        exact hts
      rw [e1] at hown
      have hl := HL.out
      subst hl
      exact ⟨_, _, rfl, hown, hbr⟩

theorem eqStringS_any (A B : Option Addr) (c d : Nat) (xs ys : List ByteArray) (w : World) (hx : SRow w w.heap.size A xs) (hy : SRow w w.heap.size B ys) :
    Calls Try.prog 71 #[.slice A xs.length c, .slice B ys.length d] w fun e w' => e = .returned (.bool (decide (xs = ys))) ∧ ∃ k, w' = w.drewN k := by
  by_cases hl : xs.length = ys.length
  · have hm := hx.2.1
    unfold maxLen at hm
    have hbl : ((xs.length : Int) != (ys.length : Int)) = false := by simp [hl]
    generalize hn : xs.length = n at *
    have hyn : ys.length = n := hl.symm
    rw [hyn] at hbl ⊢
    have HX := Lib.hid hn
    have HY := Lib.hid hyn
    clear hn hyn hl
    go_enter Try.func71, Try.ntmps71
    go_wp2
    go_loopw [5] (fun i wr => ∃ k : Nat, k ≤ n ∧ i = .int .i64 k ∧ xs.take k = ys.take k ∧ ∃ q, wr = w.drewN q) (fun i _ => n - (intOf i).toNat)
    case atStart => exact ⟨0, Nat.zero_le _, rfl, rfl, 0, rfl⟩
    case round =>
      obtain ⟨k, hk, rfl, ht, q, rfl⟩ := hrel
      by_cases hlt : k < n
      · obtain ⟨b1, o1, rfl, hb1, hc1⟩ := hx.at_ (k := k) (by rw [HX.out]; exact hlt)
        obtain ⟨b2, o2, rfl, hb2, hc2⟩ := hy.at_ (k := k) (by rw [HY.out]; exact hlt)
        have e1 := take_snoc_getD xs k .empty (by rw [HX.out]; exact hlt)
        have e2 := take_snoc_getD ys k .empty (by rw [HY.out]; exact hlt)
        generalize hv : xs.getD k .empty = v at *
        generalize hu : ys.getD k .empty = u at *
        have HV := Lib.hid hv
        have HU := Lib.hid hu
        have HT := Lib.hid ht
        have HE1 := Lib.hid e1
        have HE2 := Lib.hid e2
        clear hv hu ht hx hy e1 e2
        have hi : (k : Int) < (n : Int) := by omega
        by_cases huv : v = u
        · subst huv
          go_wp2_with fail
          go_quiet (fail)
          go_wp2_with fail
          go_roundw
          case rel => exact ⟨k + 1, by omega, by go_num, by rw [HE1.out, HE2.out, HT.out], _, rfl⟩
          case measure => simp [intOf]; omega
        · have hne := txt_ne huv
          have hne' : decide (xs = ys) = false := by
            rw [decide_eq_false_iff_not]
            intro e
            apply huv
            rw [← HV.out, ← HU.out, e]
          have HD := Lib.hid hne'
          clear hne' huv
          go_wp2_with fail
          go_quiet (fail)
          go_wp2_with fail
          go_ret
          exact ⟨by rw [HD.out]; rfl, _, World.drewN_drewN w _ _⟩
      · obtain rfl : k = n := by omega
        have e1 := List.take_of_length_le (l := xs) (i := k) (by rw [HX.out]; exact Nat.le_refl _)
        have e2 := List.take_of_length_le (l := ys) (i := k) (by rw [HY.out]; exact Nat.le_refl _)
        rw [e1, e2] at ht
        have HT := Lib.hid ht
        clear e1 e2 ht
        go_wp2
        go_ret
        exact ⟨by rw [decide_eq_true HT.out]; rfl, q, rfl⟩
  · have hbl : ((xs.length : Int) != (ys.length : Int)) = true := by simp; omega
    have hne : decide (xs = ys) = false := by simp; intro e; exact hl (by rw [e])
    rw [hne]
    clear hne
    go_enter Try.func71, Try.ntmps71
    go_wp2
    go_ret
    exact ⟨rfl, 0, rfl⟩

end Go.Proofs.Ytkhlolhmaoenoaa
