
/-
  Contracts of the laws' own functions on slices of slices of ints (equal, mark, held); no condition.
-/
import Derived.Test.YtkhlolhmaoenoaaTabs
import Derived.Test.YtkhlolhmaoenoaaInts
import Derived.BigQuiet
namespace Go.Proofs.Ytkhlolhmaoenoaa
open Go.ChangeShapes Go.WideShapes Go.ChangeAt Go.RowKit Go.Deep Go.BigFrame
set_option linter.unusedVariables false
set_option linter.unusedSimpArgs false

theorem quiet_more {P : Program} {f : FuncId} {args : Array Value} {w : World} {n : Nat} {v : Value}
    (h : Calls P f args (w.drewN n) fun e w' => e = .returned v ∧ ∃ k, w' = (w.drewN n).drewN k) : Calls P f args (w.drewN n) fun e w'' => e = .returned v ∧ ∃ m, w'' = w.drewN m :=
  h.mono fun _ _ ⟨he, k, hk⟩ => ⟨he, n + k, by rw [hk, World.drewN_drewN]⟩

theorem LRow.row_ {w : World} {B : Nat} {A : Option Addr} {vs : List Value} {xss : List (List Int)} (h : LRow w B A vs xss) {k : Nat} (hk : k < xss.length) :
    ∃ b off Ak ck, A = some ⟨b, off, none⟩ ∧ b < B ∧ w.cell? ⟨b, off + k, none⟩ = some (.slice Ak (xss.getD k []).length ck) ∧ IRow w B Ak (xss.getD k []) := h.at_ hk

theorem eqIntSS_any (A B : Option Addr) (c d : Nat) (vs us : List Value) (xss yss : List (List Int)) (w : World) (hx : LRow w w.heap.size A vs xss) (hy : LRow w w.heap.size B us yss) :
    Calls Try.prog 21 #[.slice A xss.length c, .slice B yss.length d] w fun e w' => e = .returned (.bool (decide (xss = yss))) ∧ ∃ k, w' = w.drewN k := by
  by_cases hl : xss.length = yss.length
  · have hm := hx.1.2.1
    unfold maxLen at hm
    have hbl : ((xss.length : Int) != (yss.length : Int)) = false := by simp [hl]
    generalize hn : xss.length = n at *
    have hyn : yss.length = n := hl.symm
    rw [hyn] at hbl ⊢
    have HX := Lib.hid hn
    have HY := Lib.hid hyn
    clear hn hyn hl
    go_enter Try.func21, Try.ntmps21
    go_wp2_with fail
    go_loopw [5] (fun i wr => ∃ k : Nat, k ≤ n ∧ i = .int .i64 k ∧ xss.take k = yss.take k ∧ ∃ q, wr = w.drewN q) (fun i _ => n - (intOf i).toNat)
    case atStart => exact ⟨0, Nat.zero_le _, rfl, rfl, 0, rfl⟩
    case round =>
      obtain ⟨k, hk, rfl, ht, q, hq⟩ := hrel
      have hx1 : LRow wr wr.heap.size A vs xss := by rw [hq]; exact hx.drewN q
      have hy1 : LRow wr wr.heap.size B us yss := by rw [hq]; exact hy.drewN q
      have HQ := Lib.hid hq
      clear hq hx hy
      by_cases hlt : k < n
      · obtain ⟨b1, o1, A1, c1, rfl, hb1, hc1, hr1⟩ := hx1.at_ (k := k) (by rw [HX.out]; exact hlt)
        obtain ⟨b2, o2, A2, c2, rfl, hb2, hc2, hr2⟩ := hy1.at_ (k := k) (by rw [HY.out]; exact hlt)
        have HE1 := Lib.hid (take_snoc_getD xss k [] (by rw [HX.out]; exact hlt))
        have HE2 := Lib.hid (take_snoc_getD yss k [] (by rw [HY.out]; exact hlt))
        have HEQ := Lib.hid (fun m => quiet_more (n := m) (eqIntS_any A1 A2 c1 c2 (xss.getD k []) (yss.getD k []) (wr.drewN m) (hr1.drewN m) (hr2.drewN m)))
        have HNE := Lib.hid (show ¬ xss.getD k [] = yss.getD k [] → ¬ xss = yss from fun h e => h (by rw [e]))
        generalize xss.getD k [] = xs at *
        generalize yss.getD k [] = ys at *
        have HT := Lib.hid ht
        clear ht hx1 hy1 hr1 hr2
        have hi : (k : Int) < (n : Int) := by omega
        by_cases huv : xs = ys
        · have HV := Lib.hid huv
          rw [decide_eq_true huv] at HEQ
          clear huv
          go_wp2_with fail
          go_quiet ((go_at_call 76; exact HEQ.out _))
          go_wp2_with fail
          go_roundw
          case rel => exact ⟨k + 1, by omega, by go_num, by rw [HE1.out, HE2.out, HT.out, HV.out], q + nq, by rw [HQ.out, World.drewN_drewN]⟩
          case measure => simp [intOf]; omega
        · have HD := Lib.hid (decide_eq_false (HNE.out huv))
          rw [decide_eq_false huv] at HEQ
          clear huv
          go_wp2_with fail
          go_quiet ((go_at_call 76; exact HEQ.out _))
          go_wp2_with fail
          go_ret
          exact ⟨by rw [HD.out]; rfl, q + nq, by rw [HQ.out, World.drewN_drewN]⟩
      · obtain rfl : k = n := by omega
        have e1 := List.take_of_length_le (l := xss) (i := k) (by rw [HX.out]; exact Nat.le_refl _)
        have e2 := List.take_of_length_le (l := yss) (i := k) (by rw [HY.out]; exact Nat.le_refl _)
        rw [e1, e2] at ht
        have HT := Lib.hid ht
        clear e1 e2 ht
        go_wp2_with fail
        go_ret
        exact ⟨by rw [decide_eq_true HT.out]; rfl, q, HQ.out⟩
  · have hbl : ((xss.length : Int) != (yss.length : Int)) = true := by simp; omega
    have hne : decide (xss = yss) = false := by simp; intro e; exact hl (by rw [e])
    rw [hne]
    clear hne
    go_enter Try.func21, Try.ntmps21
    go_wp2_with fail
    go_ret
    exact ⟨rfl, 0, rfl⟩

/-- how many numbers the first rows have -/
def totS (xss : List (List Int)) (i : Nat) : Nat := ((xss.take i).map List.length).sum
theorem totS_succ (xss : List (List Int)) (i : Nat) (h : i < xss.length) : totS xss (i + 1) = totS xss i + (xss.getD i []).length := by
  unfold totS
  rw [take_snoc_getD xss i [] h, List.map_append, List.sum_append]
  simp
theorem totS_le (xss : List (List Int)) (i : Nat) (h : i ≤ xss.length) : totS xss i ≤ totS xss xss.length := by
  have key : ∀ m, m ≤ xss.length → i ≤ m → totS xss i ≤ totS xss m := by
    intro m
    induction m with
    | zero => intro _ hm; have : i = 0 := by omega
              subst this; exact Nat.le_refl _
    | succ m ih =>
      intro h1 h2
      by_cases e : i = m + 1
      · rw [e]; exact Nat.le_refl _
      · have := ih (by omega) (by omega)
        rw [totS_succ xss m (by omega)]
        omega
  exact key _ (Nat.le_refl _) h
/-- row i marked -/
def mkRow (k : Nat) (xss : List (List Int)) (i : Nat) : List Int := marks (k + totS xss i) (xss.getD i []).length
/-- the first j rows marked -/
def mkTab (k : Nat) (xss : List (List Int)) (j : Nat) : List (List Int) := (List.range xss.length).map fun i => if i < j then mkRow k xss i else xss.getD i []
theorem mkTab_len (k : Nat) (xss : List (List Int)) (j : Nat) : (mkTab k xss j).length = xss.length := by simp [mkTab]
theorem mkTab_at (k : Nat) (xss : List (List Int)) (j i : Nat) (h : i < xss.length) : (mkTab k xss j).getD i [] = if i < j then mkRow k xss i else xss.getD i [] := by simp [mkTab, List.getD, h]
theorem mkTab_zero (k : Nat) (xss : List (List Int)) : mkTab k xss 0 = xss := by
  apply List.ext_getElem (by simp [mkTab])
  intro i h1 h2
  simp [mkTab, List.getD, h2]
theorem mkTab_set (k : Nat) (xss : List (List Int)) (j : Nat) (h : j < xss.length) : (mkTab k xss j).set j (mkRow k xss j) = mkTab k xss (j + 1) := by
  apply List.ext_getElem (by simp [mkTab])
  intro i h1 h2
  have hi : i < xss.length := by simpa [mkTab] using h2
  rw [List.getElem_set]
  by_cases e : j = i
  · subst e
    rw [if_pos rfl]
    simp [mkTab]
  · rw [if_neg e]
    simp only [mkTab, List.getElem_map, List.getElem_range]
    by_cases a : i < j
    · rw [if_pos a, if_pos (by omega)]
    · rw [if_neg a, if_neg (by omega)]
theorem mkRow_len (k : Nat) (xss : List (List Int)) (i : Nat) : (mkRow k xss i).length = (xss.getD i []).length := marks_length _ _

/-- one row is written anew, in its own place -/
theorem Kids.put {w w' : World} {base : Nat} {o : Option Nat} {vs : List Value} {xss : List (List Int)} {j : Nat} {ys : List Int} {A : Option Addr} {c : Nat} (h : Kids w base o vs xss) (hj : j < xss.length) (he : vs.getD j undef = .slice A (xss.getD j []).length c)
    (hy : ys.length = (xss.getD j []).length) (hown : w'.ownsRow base 3 1 (.slice A (xss.getD j []).length c) (xss.getD j []).length (ys.map (Value.int .i64))) (hg : w.grownBy w' (Value.slice A (xss.getD j []).length c).ownBlock) :
    Kids w' base o vs (xss.set j ys) := by
  refine ⟨by rw [List.length_set]; exact h.len, fun i hi => ?_, fun i i' h1 h2 => h.apart i i' h1 (by simpa using h2), fun i hi => h.out i (by simpa using hi)⟩
  have hi' : i < xss.length := by simpa using hi
  by_cases e : j = i
  · subst e
    have e2 : (xss.set j ys).getD j [] = ys := by simp [List.getD, hj]
    rw [e2, hy]
    exact ⟨A, c, he, hown⟩
  · have e2 : (xss.set j ys).getD i [] = xss.getD i [] := by simp [List.getD, e]
    rw [e2]
    obtain ⟨A', c', e3, r⟩ := h.row i hi'
    refine ⟨A', c', e3, r.kept hg ?_⟩
    cases hv : (Value.slice A' (xss.getD i []).length c').ownBlock with
    | none => exact .inl rfl
    | some g =>
      refine .inr (fun e4 => ?_)
      rw [← he] at e4
      rw [← e3] at hv
      rcases Nat.lt_or_gt_of_ne e with h5 | h5
      · exact h.apart j i h5 hi' g e4.symm hv
      · exact h.apart i j h5 hj g hv e4.symm

set_option maxHeartbeats 1000000 in
set_option maxRecDepth 100000 in
theorem markIntSS_any (A : Option Addr) (c k : Nat) (B : Nat) (xss : List (List Int)) (w : World) (hx : Tab w B (.slice A xss.length c) xss.length xss) (hk : k ≤ 1048576) (hn : totS xss xss.length ≤ 1048576) (hl : xss.length ≤ 1048576) :
    Calls Try.prog 22 #[.slice A xss.length c, .int .i64 k] w fun e w' => e = .returned (.int .i64 (k + totS xss xss.length : Nat)) ∧ Tab w' B (.slice A xss.length c) xss.length (mkTab k xss xss.length) ∧ Below B w w' := by
  obtain ⟨vs, ho, hkd⟩ := hx
  have hB0 : 0 < xss.length → B ≤ w.heap.size := fun h0 => by
    rcases ho.2 with ⟨_, h1⟩ | ⟨g, cap, cur, e, hb, hg, _⟩
    · omega
    · have := (ho.lt g (by rw [e]; rfl)); omega
  have HO := Lib.hid ho
  have HK := Lib.hid hkd
  have HT := Lib.hid (fun i h => totS_succ xss i h)
  have HLE := Lib.hid (fun i h => totS_le xss i h)
  have HS := Lib.hid (fun j h => mkTab_set k xss j h)
  have HL := Lib.hid (mkTab_len k xss)
  have HA := Lib.hid (mkTab_at k xss)
  have HZ := Lib.hid (mkTab_zero k xss)
  have HRL := Lib.hid (mkRow_len k xss)
  clear ho hkd
  go_enter Try.func22, Try.ntmps22
  go_wp2_with fail
  go_loopw [1, 5] (fun kk i wr => ∃ j : Nat, j ≤ xss.length ∧ i = .int .i64 j ∧ kk = .int .i64 (k + totS xss j : Nat) ∧ wr.ownsRow B 51 1 (.slice A xss.length c) xss.length vs ∧ Kids wr B (Value.slice A xss.length c).ownBlock vs (mkTab k xss j) ∧ Below B w wr) (fun _ i _ => xss.length - (intOf i).toNat)
  case atStart => exact ⟨0, Nat.zero_le _, rfl, rfl, HO.out, by rw [HZ.out]; exact HK.out, Below.refl _ _⟩
  case round =>
    obtain ⟨j, hj, rfl, rfl, hown, hkids, hbr⟩ := hrel
    have HOW := Lib.hid hown
    have HKI := Lib.hid hkids
    have HBR := Lib.hid hbr
    by_cases hlt : j < xss.length
    · have hi : (j : Int) < (xss.length : Int) := by omega
      obtain ⟨g, hA⟩ : ∃ g, A = some ⟨g, 0, none⟩ := by
        rcases hown.2 with ⟨_, h1⟩ | ⟨g, cap, cur, e, _⟩
        · omega
        · simp at e; exact ⟨g, e.1⟩
      subst hA
      obtain ⟨Aj, cj, hej, rj⟩ := hkids.row j (by rw [HL.out]; exact hlt)
      have ea := HA.out j j hlt
      rw [if_neg (by omega)] at ea
      rw [ea] at hej rj
      have hcell := hown.cellAt j (by omega)
      have hvl : vs.length = xss.length := by have := hown.1; omega
      have hvj : vs[j]? = some (.slice Aj (xss.getD j []).length cj) := by
        have : vs.getD j undef = vs[j]'(by omega) := by simp [List.getD, show j < vs.length by omega]
        rw [List.getElem?_eq_getElem (by omega), ← this, hej]
      rw [hvj] at hcell
      have ht := HT.out j hlt
      have hle := HLE.out (j + 1) (by omega)
      have HMK := Lib.hid (fun ww hx => markIntS_any Aj cj (k + totS xss j) (xss.getD j []).length B ((xss.getD j []).map (Value.int .i64)) ww hx (by omega) (by omega))
      have hrl : mkRow k xss j = marks (k + totS xss j) (xss.getD j []).length := rfl
      have HRJ := Lib.hid rj
      have HEJ := Lib.hid (And.intro ea hej)
      have HTS := Lib.hid ht
      have HRW := Lib.hid hrl
      have hot : (Value.slice (some ⟨g, 0, none⟩) xss.length c).ownBlock = some g := rfl
      have HOUT := Lib.hid (fun gg hgg => hkids.out j (by rw [HL.out]; exact hlt) gg hgg)
      have HLL := Lib.hid (HRL.out j)
      clear hown hkids hbr hvj ea rj hrl hot hej ht
      generalize (xss.getD j []).length = L at *
      generalize totS xss j = T at *
      have hb1 : k + T + L ≤ 4194304 := by have := HTS.out; omega
      clear hle
      go_wp2_with fail
      refine (HMK.out _ HRJ.out).mono ?_
      rintro e w2 ⟨rfl, hom, hgr⟩
      have hlo : ∀ gg, (Value.slice Aj L cj).ownBlock = some gg → B ≤ gg := fun gg hgg => (HRJ.out.lt gg hgg).1
      have HO2 := Lib.hid (HOW.out.kept hgr (by
        refine .inr (fun e => ?_)
        have h5 := HOUT.out g (by rw [HEJ.out.2]; exact e.symm)
        exact h5 rfl))
      have hk2 := Kids.put (j := j) (ys := mkRow k xss j) (A := Aj) (c := cj) HKI.out (by rw [HL.out]; exact hlt) (by rw [HEJ.out.1, ← HRL.out j, HLL.out]; exact HEJ.out.2) (by rw [HEJ.out.1]; exact HRL.out j) (by rw [HEJ.out.1, ← HRL.out j, HLL.out, HRW.out]; exact hom) (by rw [HEJ.out.1, ← HRL.out j, HLL.out]; exact hgr)
      rw [HS.out j hlt] at hk2
      have HK2 := Lib.hid hk2
      have HB2 := Lib.hid (HBR.out.grown hgr (Nat.le_trans (hB0 (by omega)) HBR.out.size) hlo)
      clear hom hgr hk2 hlo hcell
      go_wp2_with fail
      go_roundw
      case rel => exact ⟨j + 1, by omega, by go_num, by rw [HTS.out]; exact congrArg (Value.int .i64) (by omega), HO2.out, HK2.out, HB2.out⟩
      case measure => simp [intOf]; omega
    · obtain rfl : j = xss.length := by omega
      clear hown hkids hbr
      go_wp2_with fail
      go_ret
      exact ⟨rfl, ⟨vs, HOW.out, HKI.out⟩, HBR.out⟩

set_option maxHeartbeats 1000000 in
set_option maxRecDepth 100000 in
theorem heldIntSS_any (A : Option Addr) (c k : Nat) (vs : List Value) (xss : List (List Int)) (w : World) (hx : LRow w w.heap.size A vs (mkTab k xss xss.length)) (hk : k ≤ 1048576) (hn : totS xss xss.length ≤ 1048576) (hl : xss.length ≤ 1048576) :
    Calls Try.prog 23 #[.slice A xss.length c, .int .i64 k] w fun e w' => e = .returned (.int .i64 (k + totS xss xss.length : Nat)) ∧ ∃ q, w' = w.drewN q := by
  have HT := Lib.hid (fun i h => totS_succ xss i h)
  have HLE := Lib.hid (fun i h => totS_le xss i h)
  have HL := Lib.hid (mkTab_len k xss)
  have HA := Lib.hid (mkTab_at k xss)
  go_enter Try.func23, Try.ntmps23
  go_wp2_with fail
  go_loopw [1, 5] (fun kk i wr => ∃ j : Nat, j ≤ xss.length ∧ i = .int .i64 j ∧ kk = .int .i64 (k + totS xss j : Nat) ∧ ∃ q, wr = w.drewN q) (fun _ i _ => xss.length - (intOf i).toNat)
  case atStart => exact ⟨0, Nat.zero_le _, rfl, rfl, 0, rfl⟩
  case round =>
    obtain ⟨j, hj, rfl, rfl, q, rfl⟩ := hrel
    by_cases hlt : j < xss.length
    · have hi : (j : Int) < (xss.length : Int) := by omega
      obtain ⟨b1, o1, A1, c1, rfl, hb1, hc1, hr1⟩ := hx.at_ (k := j) (by rw [HL.out]; exact hlt)
      rw [HA.out xss.length j hlt, if_pos hlt] at hc1 hr1
      have hle := HLE.out (j + 1) (by omega)
      have ht := HT.out j hlt
      rw [mkRow_len] at hc1
      have HH := Lib.hid (fun m => heldIntS_any A1 c1 (k + totS xss j) (xss.getD j []).length (w.drewN m) (hr1.drewN m) (by omega) (by omega))
      have HTS := Lib.hid ht
      clear hx hr1 ht
      generalize (xss.getD j []).length = L at *
      generalize totS xss j = T at *
      have hb1 : k + T + L ≤ 4194304 := by have := HTS.out; omega
      have hnn : ¬ (((k + T + L : Nat) : Int) < 0) := by omega
      clear hle
      go_wp2_with fail
      refine (HH.out _).mono ?_
      rintro e w2 ⟨rfl, q2, rfl⟩
      go_wp2_with fail
      go_roundw
      case rel => exact ⟨j + 1, by omega, by go_num, by rw [HTS.out]; exact congrArg (Value.int .i64) (by omega), _, rfl⟩
      case measure => simp [intOf]; omega
    · obtain rfl : j = xss.length := by omega
      clear hx
      go_wp2_with fail
      go_ret
      exact ⟨rfl, q, rfl⟩

end Go.Proofs.Ytkhlolhmaoenoaa
