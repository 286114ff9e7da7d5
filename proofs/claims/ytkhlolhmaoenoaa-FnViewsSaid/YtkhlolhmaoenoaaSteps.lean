
/-
  Contracts of CountSteps on both sides; no condition beyond the size of the texts.
-/
import Derived.Test.YtkhlolhmaoenoaaViewT
import Derived.BigQuiet
namespace Go.Proofs.Ytkhlolhmaoenoaa
open Go.ChangeShapes Go.WideShapes Go.ChangeAt Go.RowKit Go.Deep Go.BigFrame
set_option linter.unusedVariables false
set_option linter.unusedSimpArgs false

/-- how many of the first i numbers differ -/
def diffP (xs ys : List Int) : Nat → Nat
  | 0 => 0
  | i + 1 => diffP xs ys i + if xs.getD i 0 = ys.getD i 0 then 0 else 1
theorem diffP_le (xs ys : List Int) : ∀ i, diffP xs ys i ≤ i := by
  intro i
  induction i with
  | zero => exact Nat.le_refl _
  | succ i ih =>
    show diffP xs ys i + _ ≤ i + 1
    by_cases h : xs.getD i 0 = ys.getD i 0
    · rw [if_pos h]; omega
    · rw [if_neg h]; omega
theorem diffP_same {xs ys : List Int} {i : Nat} (h : xs.getD i 0 = ys.getD i 0) : diffP xs ys (i + 1) = diffP xs ys i := by
  show diffP xs ys i + _ = _
  rw [if_pos h]; rfl
theorem diffP_not {xs ys : List Int} {i : Nat} (h : ¬ xs.getD i 0 = ys.getD i 0) : diffP xs ys (i + 1) = diffP xs ys i + 1 := by
  show diffP xs ys i + _ = _
  rw [if_neg h]
/-- the steps between the first k rows -/
def stepsP (xss : List (List Int)) : Nat → Nat
  | 0 => 0
  | k + 1 => stepsP xss k + if k = 0 then 0 else diffP (xss.getD (k - 1) []) (xss.getD k []) (xss.getD k []).length
theorem stepsP_one (xss : List (List Int)) : stepsP xss 1 = 0 := rfl
theorem stepsP_succ (xss : List (List Int)) (k : Nat) (h : 1 ≤ k) : stepsP xss (k + 1) = stepsP xss k + diffP (xss.getD (k - 1) []) (xss.getD k []) (xss.getD k []).length := by
  show stepsP xss k + _ = _
  rw [if_neg (by omega)]
theorem stepsP_le (xss : List (List Int)) (hm : ∀ x ∈ xss, x.length ≤ 16) : ∀ k, k ≤ xss.length → stepsP xss k ≤ 16 * k := by
  intro k
  induction k with
  | zero => intro _; exact Nat.le_refl _
  | succ k ih =>
    intro hk
    have a := ih (by omega)
    have b := diffP_le (xss.getD (k - 1) []) (xss.getD k []) (xss.getD k []).length
    have c : (xss.getD k []).length ≤ 16 := by
      rw [List.getD_eq_getElem?_getD, List.getElem?_eq_getElem (by omega)]
      exact hm _ (List.getElem_mem _)
    show stepsP xss k + _ ≤ _
    by_cases h : k = 0
    · rw [if_pos h]; omega
    · rw [if_neg h]; omega
theorem hP_count (l : List UInt8) : ∀ j, j ≤ l.length → (hP l j).length = fw (l.take j) := by
  intro j
  induction j with
  | zero => intro _; rfl
  | succ j ih =>
    intro hj
    rw [fw_take l j (by omega)]
    by_cases a : at_ l j = 102
    · rw [hP_yes a, if_pos a, List.length_append, ih (by omega)]; rfl
    · rw [hP_no a, if_neg a, ih (by omega)]; rfl
theorem heights_count {l : List UInt8} (h : isStrip l = true) : (heights l).length = fw l := by
  rw [heights_yes h, hP_count l l.length (Nat.le_refl _), List.take_length]
theorem views_get (F : List UInt8 → List Int) (ss : List ByteArray) (k : Nat) (h : k < ss.length) : (ss.map (fun s => F s.data.toList)).getD k [] = F (ss.getD k .empty).data.toList := by
  simp [List.getD, h]

def countSteps (d f : Int) (ss : List ByteArray) : Int := if cardOk d f ss = true then (stepsP (viewsOf heights d f ss) ss.length : Int) else -1

/-- the facts of the rows of a valid card -/
theorem steps_facts {d f : Int} {ss : List ByteArray} (h : cardOk d f ss = true) : ∃ m : Nat, m ≤ 8 ∧ (viewsOf heights d f ss).length = ss.length ∧ (∀ k, k < ss.length → ((viewsOf heights d f ss).getD k []).length = m) ∧ (∀ k, k ≤ ss.length → stepsP (viewsOf heights d f ss) k ≤ 160) := by
  have hp := cardOk_parts h
  refine ⟨f.toNat, by omega, ?_, fun k hk => ?_, fun k hk => ?_⟩
  · rw [viewsOf_yes h, List.length_map]
  · rw [viewsOf_yes h, views_get _ _ _ hk]
    have a := cardOk_strip h (mem_getD hk)
    rw [heights_count a.1]
    omega
  · have hl : (viewsOf heights d f ss).length = ss.length := by rw [viewsOf_yes h, List.length_map]
    have := stepsP_le (viewsOf heights d f ss) (fun x hx => by
      rw [viewsOf_yes h] at hx
      obtain ⟨s, hs, rfl⟩ := List.mem_map.1 hx
      have a := cardOk_strip h hs
      rw [heights_count a.1]
      omega) k (by omega)
    omega

set_option maxHeartbeats 1000000 in
set_option maxRecDepth 8000 in
theorem implCountSteps_any (d f : Int) (A : Option Addr) (c : Nat) (ss : List ByteArray) (w : World) (hx : SRow w w.heap.size A ss) (hm : ∀ s ∈ ss, s.size ≤ 4294967296)
    (bd : -9223372036854775808 ≤ d ∧ d ≤ 9223372036854775807) (bf : -9223372036854775808 ≤ f ∧ f ≤ 9223372036854775807) :
    Calls Try.prog 65 #[.agg #[.int .i64 d, .int .i64 f, .slice A ss.length c]] w fun e w' => e = .returned (.int .i64 (countSteps d f ss)) ∧ Below w.heap.size w w' := by
  have HC := Lib.hid (fun w hx => implCardOk_any d f A c ss w hx hm)
  have HV := Lib.hid (fun w hx => implTopView_any d f A c ss w hx hm)
  have HST := Lib.hid (CardAt.start (d := d) (f := f) (c := c) hx)
  cases h : cardOk d f ss
  · rw [show countSteps d f ss = -1 from if_neg (by rw [h]; simp)]
    rw [h] at HC
    clear h hx
    go_enter Try.func65, Try.ntmps65
    go_wp2_with fail
    refine (HC.out _ HST.out.full).mono ?_
    rintro e w1 ⟨rfl, hb⟩
    go_wp2_with fail
    go_ret
    exact ⟨rfl, below_thru HST.out.below hb⟩
  rw [show countSteps d f ss = (stepsP (viewsOf heights d f ss) ss.length : Int) from if_pos h]
  rw [h] at HC
  have hlen := (cardOk_parts h).2.2.1
  obtain ⟨m, hm8, hvl, hrow, hsb⟩ := steps_facts h
  generalize viewsOf heights d f ss = V at *
  have HROW := Lib.hid hrow
  have HSB := Lib.hid hsb
  have HSU := Lib.hid (stepsP_succ V)
  have HS1 := Lib.hid (stepsP_one V)
  have HN := Lib.hid hvl
  clear h hx hrow hsb hvl
  go_enter Try.func65, Try.ntmps65
  go_wp2_with fail
  refine (HC.out _ HST.out.full).mono ?_
  rintro e w1 ⟨rfl, hb⟩
  have HCA := Lib.hid (HST.out.on hb)
  obtain ⟨p0, p1, p2, prow, pb, plt⟩ := HCA.out
  clear prow pb hb
  go_wp2_with fail
  refine (HV.out _ HCA.out.full).mono ?_
  rintro e w2 ⟨A2, c2, rfl, ht, hb2⟩
  have HB2 := Lib.hid (below_thru HCA.out.below hb2)
  obtain ⟨us, hl2⟩ := Tab.lrow ht
  have HL := Lib.hid hl2
  clear ht hl2 hb2 p0 p1 p2 plt
  rw [HN.out]
  go_wp2_with fail
  go_loopw [3, 5] (fun nv kv wr => ∃ k q : Nat, 1 ≤ k ∧ k ≤ ss.length ∧ kv = .int .i64 k ∧ nv = .int .i64 (stepsP V k : Nat) ∧ wr = w2.drewN q) (fun _ kv _ => ss.length - (intOf kv).toNat)
  case atStart => exact ⟨1, 0, Nat.le_refl _, hlen.1, rfl, by rw [HS1.out]; rfl, rfl⟩
  case round =>
    obtain ⟨k, q, hk1, hk, rfl, rfl, hq⟩ := hrel
    obtain ⟨wo, hwo⟩ : ∃ wo, wo = wr := ⟨_, rfl⟩
    subst hwo
    have HQ := Lib.hid hq
    have HLR := Lib.hid (show LRow wo wo.heap.size A2 us V by rw [hq]; exact HL.out.drewN q)
    clear hq
    by_cases hlt : k < ss.length
    · have hi : (k : Int) < (ss.length : Int) := by omega
      obtain ⟨b1, o1, A3, c3, rfl, hb1, hc1, hr1⟩ := LRow.at_ HLR.out (k := k) (by rw [HN.out]; exact hlt)
      obtain ⟨b2, o2, A4, c4, e4, hb4, hc4, hr4⟩ := LRow.at_ HLR.out (k := k - 1) (by rw [HN.out]; omega)
      obtain ⟨rfl, rfl⟩ : b1 = b2 ∧ o1 = o2 := by simpa using e4
      have l1 := HROW.out k hlt
      have l2 := HROW.out (k - 1) (by omega)
      have HSK := Lib.hid (HSU.out k hk1)
      have HBK := HSB.out k (by omega)
      rw [l1] at hc1 HSK
      rw [l2] at hc4
      have HD := Lib.hid (diffP_le (V.getD (k - 1) []) (V.getD k []))
      have HDS := Lib.hid (fun i => @diffP_same (V.getD (k - 1) []) (V.getD k []) i)
      have HDN := Lib.hid (fun i => @diffP_not (V.getD (k - 1) []) (V.getD k []) i)
      generalize V.getD k [] = Y at *
      generalize V.getD (k - 1) [] = X at *
      generalize stepsP V k = a at *
      have HY := Lib.hid hr1
      have HX := Lib.hid hr4
      have HL1 := Lib.hid l1
      have HL2 := Lib.hid l2
      have hk2 : (k : Int) - 1 = ((k - 1 : Nat) : Int) := by omega
      obtain ⟨k', hk'⟩ : ∃ k', k' = k - 1 := ⟨_, rfl⟩
      rw [← hk'] at hk2 hc4
      have hk3 : (k' : Int) < (ss.length : Int) := by omega
      have HK' := Lib.hid hk'
      clear hr1 hr4 l1 l2 hk' e4
      go_wp2_with fail
      go_loopw [3, 24] (fun nv iv wr => ∃ i q2 : Nat, i ≤ m ∧ iv = .int .i64 i ∧ nv = .int .i64 (a + diffP X Y i : Nat) ∧ wr = wo.drewN q2) (fun _ iv _ => m - (intOf iv).toNat)
      case atStart => exact ⟨0, 0, Nat.zero_le _, rfl, rfl, rfl⟩
      case round =>
        obtain ⟨i, q2, hi2, rfl, rfl, hq2⟩ := hrel
        have HQ2 := Lib.hid hq2
        by_cases hlt2 : i < m
        · have hii : (i : Int) < (m : Int) := by omega
          obtain ⟨b5, o5, rfl, hb5, hc5⟩ := HY.out.at_ (k := i) (by rw [HL1.out]; exact hlt2)
          obtain ⟨b6, o6, rfl, hb6, hc6⟩ := HX.out.at_ (k := i) (by rw [HL2.out]; exact hlt2)
          have hd := HD.out i
          have HS := Lib.hid (HDS.out i)
          have HNN := Lib.hid (HDN.out i)
          have d1 : wr.cell? ⟨b5, o5 + i, none⟩ = some (.int .i64 (Y.getD i 0)) := by rw [hq2]; exact hc5
          have d2 : wr.cell? ⟨b6, o6 + i, none⟩ = some (.int .i64 (X.getD i 0)) := by rw [hq2]; exact hc6
          have d3 : wr.cell? ⟨b1, o1 + k', none⟩ = some (.slice (some ⟨b6, o6, none⟩) m c4) := by rw [hq2]; exact hc4
          generalize Y.getD i 0 = y at *
          generalize X.getD i 0 = x at *
          generalize diffP X Y i = dd at *
          clear hq2 hc5 hc6 hc4 hc1
          by_cases he : x = y
          · have hne : (y != x) = false := by rw [he]; simp
            have HE := Lib.hid (HS.out he)
            clear he
            go_wp2_with fail
            go_roundw
            case rel => exact ⟨i + 1, q2, by omega, by go_num, by rw [HE.out], HQ2.out⟩
            case measure => simp [intOf]; omega
          · have hne : (y != x) = true := by simp; exact fun e => he e.symm
            have HE := Lib.hid (HNN.out he)
            clear he
            go_wp2_with fail
            go_roundw
            case rel => exact ⟨i + 1, q2, by omega, by go_num, by rw [HE.out]; go_num, HQ2.out⟩
            case measure => simp [intOf]; omega
        · obtain rfl : i = m := by omega
          clear hq2 hc1 hc4
          go_wp2_with fail
          go_roundw
          case rel => exact ⟨k + 1, q + q2, by omega, by omega, by go_num, by rw [HSK.out], by rw [HQ2.out, HQ.out, World.drewN_drewN]⟩
          case measure => simp [intOf]; omega
    · obtain rfl : k = ss.length := by omega
      go_wp2_with fail
      go_ret
      exact ⟨rfl, by rw [HQ.out]; exact below_drewN HB2.out _⟩

end Go.Proofs.Ytkhlolhmaoenoaa
