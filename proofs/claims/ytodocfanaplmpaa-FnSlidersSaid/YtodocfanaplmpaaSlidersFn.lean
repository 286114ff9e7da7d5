
/-
  The walk of the law FnSliders; no condition.
-/
import Derived.Test.YtodocfanaplmpaaDrawL
import Derived.Test.YtodocfanaplmpaaLawB
import Derived.Test.YtodocfanaplmpaaPullI
import Derived.Test.YtodocfanaplmpaaLinksS
import Derived.Test.YtodocfanaplmpaaSlidersP
import Derived.Test.YtodocfanaplmpaaTail
import Derived.Test.YtodocfanaplmpaaGhost2
import Derived.BigRegion
import Derived.Deep.Cut
import Derived.Deep.CutRange
namespace Go.Proofs.Ytodocfanaplmpaa
open Go.ChangeShapes Go.WideShapes Go.ChangeAt Go.RowKit Go.Deep Go.BigFrame
set_option linter.unusedVariables false
set_option linter.unusedSimpArgs false

/-- the number at place 0 -/
def at0 (cs : List UInt8) : Nat := if cs.length = 0 then 0 else (cs.getD (1 % cs.length) 0).toNat
theorem at0_lt (cs : List UInt8) : at0 cs < 256 := by
  unfold at0
  by_cases h : cs.length = 0
  · rw [if_pos h]; decide
  · rw [if_neg h]; exact UInt8.toNat_lt _
theorem at0_any (A : Option Addr) (c : Nat) (cs : List UInt8) (w : World) (h : BRow w w.heap.size A cs) :
    Calls Try.prog 24 #[.slice A cs.length c, .int .i64 0] w fun e w' => e = .returned (.int .i64 (at0 cs)) ∧ ∃ q, w' = w.drewN q := by
  have hm := h.2.1
  unfold maxLen at hm
  unfold at0
  by_cases h0 : cs.length = 0
  · rw [if_pos h0, h0]
    go_enter Try.func24, Try.ntmps24
    go_wp2_with fail
    go_ret
    exact ⟨rfl, 0, rfl⟩
  · rw [if_neg h0]
    have hlt : 1 % cs.length < cs.length := Nat.mod_lt _ (by omega)
    obtain ⟨b, off, rfl, hb, hc⟩ := h.at_ hlt
    generalize hx : (cs.getD (1 % cs.length) 0) = x at *
    have hx2 := x.toNat_lt
    have h1 : ¬ (cs.length : Int) = 0 := by omega
    have h2 : (1 : Int) % (cs.length : Int) = ((1 % cs.length : Nat) : Int) := by rw [Int.natCast_emod]; rfl
    have h3 : Int.tmod 1 (cs.length : Int) = ((1 % cs.length : Nat) : Int) := by
      rw [Int.tmod_eq_emod_of_nonneg (by omega)]; exact h2
    have h4 : ((1 % cs.length : Nat) : Int) < (cs.length : Int) := by omega
    clear hx h
    generalize 1 % cs.length = k at *
    generalize x.toNat = xn at *
    go_enter Try.func24, Try.ntmps24
    go_wp2_with fail
    go_ret
    exact ⟨rfl, 0, rfl⟩

theorem slAll_snoc (ts : List (Int × Int × Int)) (i : Nat) (h : i < ts.length) : slAll (ts.take (i + 1)) = (slAll (ts.take i) && slOk (ts.getD i (0, 0, 0)).1 (ts.getD i (0, 0, 0)).2.1 (ts.getD i (0, 0, 0)).2.2) := by
  unfold slAll
  rw [take_snoc_getD ts i (0, 0, 0) h, List.all_append]
  simp

theorem any_snocL (ls : List (Int × Int × Int)) (p : Int × Int × Int → Bool) (j : Nat) (h : j < ls.length) : (ls.take (j + 1)).any p = ((ls.take j).any p || p (ls.getD j (0, 0, 0))) := by
  rw [take_snoc_getD ls j (0, 0, 0) h, List.any_append]
  simp

/-- a literal of structs, just made -/
theorem trow_made (w : World) (xs : List (Int × Int × Int)) (t : TypeId) (hm : xs.length ≤ 1000) : TRow (w.alloc (.cells (cells3 xs).toArray t)) (w.alloc (.cells (cells3 xs).toArray t)).heap.size (some ⟨w.heap.size, 0, none⟩) xs := by
  refine ⟨cells3_length xs, by unfold maxLen; omega, fun hn => ⟨w.heap.size, 0, rfl, by simp, fun j hj => ?_⟩⟩
  go_simp

set_option maxRecDepth 8000 in
set_option maxHeartbeats 4000000 in
theorem fnSliders_walk (A : Option Addr) (c : Nat) (cs : List UInt8) (w : World) (h : BRow w w.heap.size A cs) :
    Calls Try.prog 5 #[.slice A cs.length c] w fun e w' => e = .returned (.bool true) ∧ Below w.heap.size w w' := by
  by_cases hbig : 1048576 < cs.length
  · have HB := Lib.hid (fun w => big_any A c cs w)
    rw [decide_eq_true hbig] at HB
    go_enter Try.func5, Try.ntmps5
    go_wp2_with fail
    refine (HB.out _).mono ?_
    rintro e w1 ⟨rfl, rfl⟩
    go_wp2_with fail
    go_ret
    exact ⟨rfl, Below.refl _ _⟩
  have HB := Lib.hid (fun w => big_any A c cs w)
  rw [decide_eq_false hbig] at HB
  have HBR := Lib.hid h
  clear h hbig
  go_enter Try.func5, Try.ntmps5
  go_wp2_with fail
  refine (HB.out _).mono ?_
  rintro e w0 ⟨rfl, rfl⟩
  go_wp2_with fail
  refine (DrawPullAll_any A c cs _ HBR.out).mono ?_
  rintro e w1 ⟨ts, ls, A1, A2, c1, c2, k, b, hl, hl2, rfl, ho1, ho2, hb1⟩
  have HX1 := Lib.hid (TRow.of_own ho1)
  have HY1 := Lib.hid (TRow.of_own ho2)
  have HB1 := Lib.hid hb1
  obtain ⟨A1', c1', hA1, hspot⟩ := own_slice ho1
  have hA1e : A1 = A1' := by simpa using (Value.slice.inj hA1).1
  subst hA1e
  have HPA := Lib.hid (fun w hx hy => implPullAll_any A1 A2 c1 c2 ts ls k b w hx hy hspot (by omega))
  have HLK := Lib.hid (fun w hy => specLinksOk_any (ts.length : Int) A2 c2 ls w hy)
  have hrl := pull_len ts ls k b
  have HKP := Lib.hid (fun hc i hi => pull_keeps (ts := ts) (ls := ls) (k := k) (b := b) hc (i := i) hi)
  have HPZ := Lib.hid (fun (hz : b = 0) (hc : pullCan ts ls k b = true) => show pullRes ts ls k b = ts from by subst hz; exact pull_zero hc)
  have HRL := Lib.hid hrl
  clear hA1 ho1 ho2 hb1 hrl
  go_wp2_with fail
  refine (HPA.out _ HX1.out HY1.out).mono ?_
  rintro e w2 ⟨A3, c3, rfl, ho3, hb2⟩
  rw [← HRL.out] at ho3
  have HZ2 := Lib.hid (TRow.of_own ho3)
  have HX2 := Lib.hid (HX1.out.on hb2)
  have HY2 := Lib.hid (HY1.out.on hb2)
  have HB2 := Lib.hid (below_thru HB1.out hb2)
  clear ho3 hb2 HX1 HY1 HB1 HPA
  go_wp2_with fail
  refine (HLK.out _ HY2.out).mono ?_
  rintro e w3 ⟨rfl, hb3⟩
  have HX3 := Lib.hid (HX2.out.on hb3)
  have HY3 := Lib.hid (HY2.out.on hb3)
  have HZ3 := Lib.hid (HZ2.out.on hb3)
  have HB3 := Lib.hid (below_thru HB2.out hb3)
  clear hb3 HX2 HY2 HZ2 HB2 HLK
  obtain ⟨LK, hLK⟩ : ∃ LK, LK = linksOk (ts.length : Int) ls := ⟨_, rfl⟩
  have hcan : pullCan ts ls k b = (LK && (slAll ts && (inB k 0 ((ts.length : Int) - 1) && inB b (-100) 100))) := by rw [hLK]; rfl
  rw [← hLK]
  have HCAN := Lib.hid hcan
  clear hLK hcan
  generalize pullCan ts ls k b = can at *
  generalize pullRes ts ls k b = rs at *
  go_wp2_with fail
  go_loopw [9, 10] (fun gv iv wr => ∃ (i : Nat) (G : Bool), i ≤ ts.length ∧ iv = .int .i64 i ∧ gv = .bool G ∧ G = (LK && slAll (ts.take i)) ∧ TRow wr wr.heap.size A1 ts ∧ TRow wr wr.heap.size A2 ls ∧ TRow wr wr.heap.size A3 rs ∧ Below w0.heap.size w0 wr) (fun _ iv _ => ts.length - (intOf iv).toNat)
  case atStart => exact ⟨0, LK, Nat.zero_le _, rfl, rfl, by simp [slAll], HX3.out, HY3.out, HZ3.out, HB3.out⟩
  case round =>
    obtain ⟨i, G, hi1, rfl, rfl, hG, hx, hy, hz, hbb⟩ := hrel
    obtain ⟨wo, hwo⟩ : ∃ wo, wo = wr := ⟨_, rfl⟩
    subst hwo
    have HG := Lib.hid hG
    have HX := Lib.hid hx
    have HY := Lib.hid hy
    have HZ := Lib.hid hz
    have HBB := Lib.hid hbb
    clear hG hx hy hz hbb HX3 HY3 HZ3 HB3
    by_cases hlt : i < ts.length
    · have hi : (i : Int) < (ts.length : Int) := by omega
      obtain ⟨b5, o5, rfl, hb5, q1, q2, q3⟩ := HX.out.at_ hlt
      have HSN := Lib.hid (slAll_snoc ts i hlt)
      generalize hv : ts.getD i (0, 0, 0) = v at *
      obtain ⟨v1, v2, v3⟩ := v
      have HOK := Lib.hid (fun w => specSliderOk_any v1 v2 v3 w)
      clear hv
      cases G
      · clear q1 q2 q3
        go_wp2_with fail
        go_roundw
        case rel => exact ⟨i + 1, false, by omega, by go_num, rfl, by rw [HSN.out, ← Bool.and_assoc, ← HG.out, Bool.false_and], HX.out, HY.out, HZ.out, HBB.out⟩
        case measure => simp [intOf]; omega
      · go_wp2_with fail
        refine (HOK.out _).mono ?_
        rintro e w6 ⟨rfl, hw6⟩
        have hb6 : Below wo.heap.size wo w6 := by rw [← hw6]; exact below_alloc (Below.refl _ _) _
        have HX6 := Lib.hid (HX.out.on hb6)
        have HY6 := Lib.hid (HY.out.on hb6)
        have HZ6 := Lib.hid (HZ.out.on hb6)
        have HB6 := Lib.hid (below_thru HBB.out hb6)
        have HG6 := Lib.hid (show slOk v1 v2 v3 = (LK && slAll (ts.take (i + 1))) by rw [HSN.out, ← Bool.and_assoc, ← HG.out, Bool.true_and])
        clear hw6 hb6 q1 q2 q3
        generalize slOk v1 v2 v3 = ok1 at *
        go_wp2_with fail
        go_roundw
        case rel => exact ⟨i + 1, ok1, by omega, by go_num, rfl, HG6.out, HX6.out, HY6.out, HZ6.out, HB6.out⟩
        case measure => simp [intOf]; omega
    · obtain rfl : i = ts.length := by omega
      have hGG := HG.out
      rw [List.take_length] at hGG
      clear HG
      have hne : ¬ ((ts.length : Int) != (ts.length : Int)) = true := by simp
      go_upto_region 10 with (fail)
      go_cut [80] from 53 to 80 (fun x wx => x = .bool false ∧ wx = wo)
      case first =>
        clear hne
        cases G
        · have hcf : can = false := by rw [HCAN.out, ← Bool.and_assoc, ← hGG, Bool.false_and]
          clear HCAN hGG
          subst hcf
          go_wp2_with fail
          go_meet
          case rel => exact ⟨rfl, rfl⟩
        · have hct : can = (inB k 0 ((ts.length : Int) - 1) && inB b (-100) 100) := by rw [HCAN.out, ← Bool.and_assoc, ← hGG, Bool.true_and]
          clear HCAN hGG
          by_cases k0 : 0 ≤ k
          · by_cases k1 : k < (ts.length : Int)
            · by_cases b0 : -100 ≤ b
              · by_cases b1 : b ≤ 100
                · have hcf : can = true := by rw [hct]; simp [inB]; omega
                  subst hcf
                  clear hct
                  go_wp2_with fail
                  go_meet
                  case rel => exact ⟨rfl, rfl⟩
                · have hcf : can = false := by rw [hct]; simp [inB]; omega
                  subst hcf
                  clear hct
                  go_wp2_with fail
                  go_meet
                  case rel => exact ⟨rfl, rfl⟩
              · have hcf : can = false := by rw [hct]; simp [inB]; omega
                subst hcf
                clear hct
                go_wp2_with fail
                go_meet
                case rel => exact ⟨rfl, rfl⟩
            · have hcf : can = false := by rw [hct]; simp [inB]; omega
              subst hcf
              clear hct
              go_wp2_with fail
              go_meet
              case rel => exact ⟨rfl, rfl⟩
          · have hcf : can = false := by rw [hct]; simp [inB]; omega
            subst hcf
            clear hct
            go_wp2_with fail
            go_meet
            case rel => exact ⟨rfl, rfl⟩
      case rest =>
        obtain ⟨rfl, rfl⟩ := hcut
        clear hGG
        have HCK := Lib.hid (show can = true → 0 ≤ k ∧ k < (ts.length : Int) from fun hc => by
          have h := HCAN.out
          rw [hc] at h
          have h2 : inB k 0 ((ts.length : Int) - 1) = true := by
            have := h.symm
            simp only [Bool.and_eq_true] at this
            exact this.2.2.1
          simp only [inB, Bool.and_eq_true, decide_eq_true_eq] at h2
          omega)
        clear HCAN
        go_wp2_with fail
        go_loopw [11, 12, 13] (fun iv lv jv wr => ∃ i : Nat, i ≤ ts.length ∧ iv = .int .i64 i ∧ TRow wr wr.heap.size A1 ts ∧ TRow wr wr.heap.size A2 ls ∧ TRow wr wr.heap.size A3 rs ∧ Below w0.heap.size w0 wr) (fun iv _ _ _ => ts.length - (intOf iv).toNat)
        case atStart => exact ⟨0, Nat.zero_le _, rfl, HX.out, HY.out, HZ.out, HBB.out⟩
        case round =>
          obtain ⟨i, hi1, rfl, hx, hy, hz, hbb⟩ := hrel
          obtain ⟨wo, hwo⟩ : ∃ wo, wo = wr := ⟨_, rfl⟩
          subst hwo
          clear HX HY HZ HBB
          have HX := Lib.hid hx
          have HY := Lib.hid hy
          have HZ := Lib.hid hz
          have HBB := Lib.hid hbb
          clear hx hy hz hbb
          go_upto_region 13 with (fail)
          go_cut [87] from 81 to 87 (fun x wx => x = .bool (decide (i < ts.length) && can) ∧ wx = wo)
          case first =>
            clear HKP HPZ HCK
            by_cases hlt : i < ts.length
            · have hi : (i : Int) < (ts.length : Int) := by omega
              cases can
              · go_wp2_with fail
                go_meet
                case rel => exact ⟨by simp, rfl⟩
              · go_wp2_with fail
                go_meet
                case rel => exact ⟨by simp [hlt], rfl⟩
            · have hi : ¬ (i : Int) < (ts.length : Int) := by omega
              go_wp2_with fail
              go_meet
              case rel => exact ⟨by simp [hlt], rfl⟩
          case rest =>
            obtain ⟨rfl, rfl⟩ := hcut
            cases hE : (decide (i < ts.length) && can)
            · clear hE
              go_upto_region 22 with (fail)
              have HBC := Lib.hid (show BRow wc wc.heap.size A cs from Row.more (Row.below HBR.out HBB.out) HBB.out.size)
              clear HX HY HZ HKP HPZ HCK HRL HBR
              go_wp2_with fail
              refine (DrawSliders_any A c cs _ HBC.out).mono ?_
              rintro e w5 ⟨ss, A4, c4, hsl, hss, rfl, ho5, hb5⟩
              have HB5 := Lib.hid (below_thru HBB.out hb5)
              have HC5 := Lib.hid (show BRow w5 w5.heap.size A cs from Row.more (Row.below HBC.out hb5) hb5.size)
              have HS5 := Lib.hid (TRow.of_own ho5)
              obtain ⟨⟨lo, hi, now⟩, sr, rfl⟩ : ∃ t0 tr, ss = t0 :: tr := by
                cases ss with
                | nil => simp at hsl
                | cons a b => exact ⟨a, b, rfl⟩
              have hin : -8 ≤ lo ∧ lo ≤ now ∧ now ≤ hi ∧ hi ≤ 20 := hss (lo, hi, now) (by simp)
              obtain ⟨b9, o9, rfl, hb9, q1, q2, q3⟩ := HS5.out.at_ (k := 0) (by simp)
              obtain ⟨m, hm⟩ : ∃ m, m = ((lo, hi, now) :: sr).length := ⟨_, rfl⟩
              rw [← hm] at hsl
              rw [← hm]
              have hm0 : (0 : Int) < (m : Int) := by omega
              simp only [List.getD_cons_zero, Nat.zero_mul, Nat.add_zero] at q1 q2 q3
              clear hss ho5 hb5 HBC HBB HS5 hm
              go_upto_region 23 with (fail)
              obtain ⟨hpl1, hpl2⟩ := slPull_any hin (b := (at0 cs : Int) - 100) (by have := at0_lt cs; omega)
              obtain ⟨hy1, hz1, hsp⟩ := spent_two hin
              have hav := at0_lt cs
              have HAT := Lib.hid (fun w h => show Calls Try.prog 24 #[.slice A cs.length c, .int .i64 0] w (fun e w' => e = .returned (.int .i64 (at0 cs)) ∧ Below w.heap.size w w') from (at0_any A c cs w h).mono fun e w' ⟨h1, q, hq⟩ => ⟨h1, by rw [hq]; exact below_drewN (Below.refl _ _) _⟩)
              generalize at0 cs = av at *
              have HPX := Lib.hid (fun w => implPullSlider_any lo hi now ((av : Int) - 100) w)
              have HPY := Lib.hid (fun w => implPullSlider_any lo hi now 1000 w)
              have HPW := Lib.hid (fun w => implPullSlider_any lo hi now (-1000) w)
              rw [hy1] at HPY
              rw [hz1] at HPW
              generalize slPull lo hi now ((av : Int) - 100) = xv at *
              have HPL1 := Lib.hid hpl1
              have HPL2 := Lib.hid hpl2
              clear hpl1 hpl2 hy1 hz1
              apply wp_region_ghost_last (gs := [⟨7, 8, 15, undef, fun v u => ∃ B, v = .pointer (some ⟨B, 0, none⟩) ∧ w5.heap.size ≤ B ∧ At3 u B 0 0 0⟩]) (n := 8) (hl1 := rfl) (hl' := rfl) (ho := rfl) (hg := rfl) (hd := rfl) (hn := rfl)
              case hm => kernel_rfl
              case hb => kernel_rfl
              case hb1 => kernel_rfl
              case hlast => kernel_rfl
              case hok => kernel_rfl
              case hB => kernel_rfl
              case hwalk =>
                intro C hC0 hC1 hC2
                simp only [virts, setOp, List.set_cons_succ, List.set_cons_zero, idle, List.getElem_toArray, List.getElem_cons_succ, List.getElem_cons_zero]
                have g1 : ∀ u : InC C, u.val.cell? ⟨b9, o9, none⟩ = some (.int .i64 lo) := fun u => cell_on (hC2 _ u.on) q1
                have g2 : ∀ u : InC C, u.val.cell? ⟨b9, o9 + 1, none⟩ = some (.int .i64 hi) := fun u => cell_on (hC2 _ u.on) q2
                have g3 : ∀ u : InC C, u.val.cell? ⟨b9, o9 + 2, none⟩ = some (.int .i64 now) := fun u => cell_on (hC2 _ u.on) q3
                have HCU := Lib.hid (fun u : InC C => show BRow u.val u.val.heap.size A cs from Row.more (Row.below HC5.out (hC2 _ u.on)) (hC2 _ u.on).size)
                repeat (go_big_quiet_step ((first
                  | (with_reducible refine (HAT.out _ (HCU.out _)).mono ?_; rintro e wA ⟨rfl, hbA⟩; exact ⟨rfl, ⟨_, hC1 _ _ (InC.on _) hbA⟩, rfl⟩)
                  | (with_reducible refine (HPX.out _).mono ?_; rintro e wD ⟨rfl, hbD⟩; exact ⟨rfl, ⟨_, hC1 _ _ (InC.on _) hbD⟩, rfl⟩))))
                exact wpQuiet_nil rfl
              case hmark =>
                intro g hg
                obtain rfl := List.mem_singleton.1 hg
                rfl
              case hT =>
                intro g hg v u u' hT hb
                obtain rfl := List.mem_singleton.1 hg
                obtain ⟨B, e, h1, h2⟩ := hT
                exact ⟨B, e, h1, h2.below hb⟩
              case hk =>
                intro g hg o ho a1 w1 hs hb Q
                obtain rfl := List.mem_singleton.1 hg
                cases ho
                unfold Oper.wp
                go_simp
                exact ⟨_, rfl, below_alloc (Below.refl _ _) _, w1.heap.size, rfl, hb.size, at3_made w1 0 0 0 43⟩
              case hc =>
                intro g hg o ho a1 w1 hs hb hT Q
                obtain rfl := List.mem_singleton.1 hg
                cases ho
                unfold Oper.wp
                go_simp
                exact ⟨rfl, Below.refl _ _⟩
              case hQ =>
                intro v w6 hb6 hTT
                obtain ⟨B, hv, hB, h3⟩ := hTT _ (List.mem_singleton.2 rfl)
                simp only [putsG, List.foldl, Act.put, List.setIfInBounds_toArray, List.set_cons_succ, List.set_cons_zero, List.getElem_toArray, List.getElem_cons_succ, List.getElem_cons_zero]
                simp only [] at hv
                rw [hv]
                have HB6 := Lib.hid (below_thru HB5.out hb6)
                have t1 := cell_on hb6 q1
                have t2 := cell_on hb6 q2
                have t3 := cell_on hb6 q3
                obtain ⟨r0, r1, r2, rf⟩ := h3
                have f0 := rf 0
                have f1 := rf 1
                have f2 := rf 2
                go_upto_region 24 with (fail)
                have hpb : w5.heap.size ≤ (⟨B, 0, none⟩ : Addr).block ∧ w5.heap.size ≤ (⟨B, 1, none⟩ : Addr).block ∧ w5.heap.size ≤ (⟨B, 2, none⟩ : Addr).block := ⟨hB, hB, hB⟩
                have HX7 := Lib.hid (((At3.mk r0 r1 r2 rf).put0 lo).put1 hi |>.put2 xv)
                have HB7 := Lib.hid (((hb6.setCell (p := ⟨B, 0, none⟩) hB (.int .i64 lo)).setCell (p := ⟨B, 1, none⟩) hB (.int .i64 hi)).setCell (p := ⟨B, 2, none⟩) hB (.int .i64 xv))
                generalize ((w6.setCell ⟨B, 0, none⟩ (.int .i64 lo)).setCell ⟨B, 1, none⟩ (.int .i64 hi)).setCell ⟨B, 2, none⟩ (.int .i64 xv) = w7 at *
                clear r0 r1 r2 rf f0 f1 f2 t1 t2 t3 hpb hb6 HB6 hTT hv
                have t1 := cell_on HB7.out q1
                have t2 := cell_on HB7.out q2
                have t3 := cell_on HB7.out q3
                go_wp2_with fail
                refine (HPY.out _).mono ?_
                rintro e w8 ⟨rfl, hb8⟩
                have HX8 := Lib.hid (HX7.out.below hb8)
                have HB8 := Lib.hid (below_thru HB7.out hb8)
                clear hb8 HX7 HB7 t1 t2 t3
                go_upto_region 25 with (fail)
                have HX9 := Lib.hid (HX8.out.below (below_alloc (Below.refl _ _) (.cells #[.int .i64 lo, .int .i64 hi, .int .i64 hi] 43)))
                have HY9 := Lib.hid (at3_made w8 lo hi hi 43)
                have HB9 := Lib.hid (below_alloc HB8.out (.cells #[.int .i64 lo, .int .i64 hi, .int .i64 hi] 43))
                generalize w8.alloc (.cells #[.int .i64 lo, .int .i64 hi, .int .i64 hi] 43) = w9 at *
                generalize w8.heap.size = B2 at *
                clear HX8 HB8
                have t1 := cell_on HB9.out q1
                have t2 := cell_on HB9.out q2
                have t3 := cell_on HB9.out q3
                go_wp2_with fail
                refine (HPW.out _).mono ?_
                rintro e wA ⟨rfl, hbA⟩
                have HXA := Lib.hid (HX9.out.below hbA)
                have HYA := Lib.hid (HY9.out.below hbA)
                have HBA := Lib.hid (below_thru HB9.out hbA)
                clear hbA HX9 HY9 HB9 t1 t2 t3
                go_upto_region 26 with (fail)
                have HX10 := Lib.hid (HXA.out.below (below_alloc (Below.refl _ _) (.cells #[.int .i64 lo, .int .i64 hi, .int .i64 lo] 43)))
                have HY10 := Lib.hid (HYA.out.below (below_alloc (Below.refl _ _) (.cells #[.int .i64 lo, .int .i64 hi, .int .i64 lo] 43)))
                have HZ10 := Lib.hid (at3_made wA lo hi lo 43)
                have HB10 := Lib.hid (below_alloc HBA.out (.cells #[.int .i64 lo, .int .i64 hi, .int .i64 lo] 43))
                generalize wA.alloc (.cells #[.int .i64 lo, .int .i64 hi, .int .i64 lo] 43) = w10 at *
                generalize wA.heap.size = B3 at *
                clear HXA HYA HBA
                have HC10 := Lib.hid (show BRow w10 w10.heap.size A cs from Row.more (Row.below HC5.out HB10.out) HB10.out.size)
                have HB11 := Lib.hid (below_thru HB5.out HB10.out)
                have t1 := cell_on HB10.out q1
                have t2 := cell_on HB10.out q2
                have t3 := cell_on HB10.out q3
                have HSO := Lib.hid (fun w => implSliderOk_any lo hi xv w)
                have hxe : (xv == if lo < if now + (av : Int) - 100 < hi then now + (av : Int) - 100 else hi then if now + (av : Int) - 100 < hi then now + (av : Int) - 100 else hi else lo) = true := by
                  have hx := HPL1.out
                  by_cases h1 : now + (av : Int) - 100 < hi
                  · rw [if_pos h1]
                    by_cases h2 : lo < now + (av : Int) - 100
                    · rw [if_pos h2]; exact beq_iff_eq.2 (by omega)
                    · rw [if_neg h2]; exact beq_iff_eq.2 (by omega)
                  · rw [if_neg h1]
                    by_cases h2 : lo < hi
                    · rw [if_pos h2]; exact beq_iff_eq.2 (by omega)
                    · rw [if_neg h2]; exact beq_iff_eq.2 (by omega)
                rw [HPL2.out] at HSO
                have HSP := Lib.hid (fun Aa cc w hx => implIsSpent_any Aa cc [(lo, hi, hi), (lo, hi, lo)] w hx)
                rw [hsp] at HSP
                have HLO := Lib.hid (fun Aa cc w hx => implLinksOk_any 2 Aa cc [(0, 1, -1)] w hx)
                rw [link_one] at HLO
                clear HB10 HC5 HB5 HPX HPY HPW HPL1 HPL2 hsp
                apply wp_region_ghost (gs := [⟨46, 47, 236, .bool true, fun v u => ∃ Aa cc, v = .slice Aa 2 cc ∧ TRow u u.heap.size Aa [(lo, hi, hi), (lo, hi, lo)]⟩, ⟨51, 52, 241, .bool true, fun v u => ∃ Aa cc, v = .slice Aa 1 cc ∧ TRow u u.heap.size Aa [(0, 1, -1)]⟩]) (hl' := rfl)
                case hm => kernel_rfl
                case hB => kernel_rfl
                case hok => kernel_rfl
                case hwalk =>
                  intro C hC0 hC1 hC2
                  simp only [virts, setOp]
                  have g1 : ∀ u : InC C, u.val.cell? ⟨b9, o9, none⟩ = some (.int .i64 lo) := fun u => cell_on (hC2 _ u.on) t1
                  have g2 : ∀ u : InC C, u.val.cell? ⟨b9, o9 + 1, none⟩ = some (.int .i64 hi) := fun u => cell_on (hC2 _ u.on) t2
                  have g3 : ∀ u : InC C, u.val.cell? ⟨b9, o9 + 2, none⟩ = some (.int .i64 now) := fun u => cell_on (hC2 _ u.on) t3
                  have x1 : ∀ u : InC C, u.val.cell? ⟨B, 0, none⟩ = some (.int .i64 lo) := fun u => cell_on (hC2 _ u.on) HX10.out.c0
                  have x2 : ∀ u : InC C, u.val.cell? ⟨B, 1, none⟩ = some (.int .i64 hi) := fun u => cell_on (hC2 _ u.on) HX10.out.c1
                  have x3 : ∀ u : InC C, u.val.cell? ⟨B, 2, none⟩ = some (.int .i64 xv) := fun u => cell_on (hC2 _ u.on) HX10.out.c2
                  have y1 : ∀ u : InC C, u.val.cell? ⟨B2, 0, none⟩ = some (.int .i64 lo) := fun u => cell_on (hC2 _ u.on) HY10.out.c0
                  have y2 : ∀ u : InC C, u.val.cell? ⟨B2, 1, none⟩ = some (.int .i64 hi) := fun u => cell_on (hC2 _ u.on) HY10.out.c1
                  have y3 : ∀ u : InC C, u.val.cell? ⟨B2, 2, none⟩ = some (.int .i64 hi) := fun u => cell_on (hC2 _ u.on) HY10.out.c2
                  have z1 : ∀ u : InC C, u.val.cell? ⟨B3, 0, none⟩ = some (.int .i64 lo) := fun u => cell_on (hC2 _ u.on) HZ10.out.c0
                  have z2 : ∀ u : InC C, u.val.cell? ⟨B3, 1, none⟩ = some (.int .i64 hi) := fun u => cell_on (hC2 _ u.on) HZ10.out.c1
                  have z3 : ∀ u : InC C, u.val.cell? ⟨B3, 2, none⟩ = some (.int .i64 lo) := fun u => cell_on (hC2 _ u.on) HZ10.out.c2
                  have HCU := Lib.hid (fun u : InC C => show BRow u.val u.val.heap.size A cs from Row.more (Row.below HC10.out (hC2 _ u.on)) (hC2 _ u.on).size)
                  repeat (go_big_quiet_step ((first
                    | (with_reducible refine (HAT.out _ (HCU.out _)).mono ?_; rintro e wA ⟨rfl, hbA⟩; exact ⟨rfl, ⟨_, hC1 _ _ (InC.on _) hbA⟩, rfl⟩)
                    | (with_reducible refine (HSO.out _).mono ?_; rintro e wD ⟨rfl, rfl⟩; exact ⟨rfl, ⟨_, hC1 _ _ (InC.on _) (below_alloc (Below.refl _ _) _)⟩, rfl⟩))))
                  exact wpQuiet_nil rfl
                case hmark =>
                  intro g hg
                  rcases List.mem_cons.1 hg with rfl | hg
                  · rfl
                  · obtain rfl := List.mem_singleton.1 hg
                    rfl
                case hT =>
                  intro g hg v u u' hT hb
                  rcases List.mem_cons.1 hg with rfl | hg
                  · obtain ⟨Aa, cc, e, hr⟩ := hT
                    exact ⟨Aa, cc, e, hr.on hb⟩
                  · obtain rfl := List.mem_singleton.1 hg
                    obtain ⟨Aa, cc, e, hr⟩ := hT
                    exact ⟨Aa, cc, e, hr.on hb⟩
                case hk =>
                  intro g hg o ho a1 w1 hs hb Q
                  rcases List.mem_cons.1 hg with rfl | hg
                  · cases ho
                    have e1 : a1.eval (.tmp 234) = .agg #[.int .i64 lo, .int .i64 hi, .int .i64 hi] := hs 234 (by simp [Op.operands])
                    have e2 : a1.eval (.tmp 235) = .agg #[.int .i64 lo, .int .i64 hi, .int .i64 lo] := hs 235 (by simp [Op.operands])
                    have e3 : a1.tmps[234]?.getD undef = .agg #[.int .i64 lo, .int .i64 hi, .int .i64 hi] := by simpa [Act.eval] using e1
                    have e4 : a1.tmps[235]?.getD undef = .agg #[.int .i64 lo, .int .i64 hi, .int .i64 lo] := by simpa [Act.eval] using e2
                    unfold Oper.wp
                    go_simp
                    exact ⟨_, rfl, below_alloc (Below.refl _ _) _, _, ⟨_, rfl⟩, by have ht := trow_made w1 [(lo, hi, hi), (lo, hi, lo)] 43 (by simp); simpa [cells3] using ht⟩
                  · obtain rfl := List.mem_singleton.1 hg
                    cases ho
                    have e1 : a1.eval (.tmp 240) = .agg #[.int .i64 0, .int .i64 1, .int .i64 (-1)] := hs 240 (by simp [Op.operands])
                    have e3 : a1.tmps[240]?.getD undef = .agg #[.int .i64 0, .int .i64 1, .int .i64 (-1)] := by simpa [Act.eval] using e1
                    unfold Oper.wp
                    go_simp
                    exact ⟨_, rfl, below_alloc (Below.refl _ _) _, _, ⟨_, rfl⟩, by have ht := trow_made w1 [(0, 1, -1)] 45 (by simp); simpa [cells3] using ht⟩
                case hc =>
                  intro g hg o ho a1 w1 hs hb hT Q
                  rcases List.mem_cons.1 hg with rfl | hg
                  · cases ho
                    obtain ⟨Aa, cc, e, hr⟩ := hT
                    refine wp_call (f := 25) (vs := #[.slice Aa 2 cc]) rfl ?_ ?_ (R := fun v w' => v = .bool true ∧ Below w1.heap.size w1 w') ((HSP.out _ _ w1 hr).mono ?_) (fun v w' hR => ⟨by rw [hR.1], hR.2⟩) _
                    · have e2 : a1.eval (.tmp 236) = .slice Aa 2 cc := e
                      simp [e2]
                    · kernel_rfl
                    · rintro e w' ⟨rfl, hbC⟩
                      exact ⟨_, rfl, rfl, hbC⟩
                  · obtain rfl := List.mem_singleton.1 hg
                    cases ho
                    obtain ⟨Aa, cc, e, hr⟩ := hT
                    refine wp_call (f := 15) (vs := #[.int .i64 2, .slice Aa 1 cc]) rfl ?_ ?_ (R := fun v w' => v = .bool true ∧ Below w1.heap.size w1 w') ((HLO.out _ _ w1 hr).mono ?_) (fun v w' hR => ⟨by rw [hR.1], hR.2⟩) _
                    · have e2 : a1.eval (.tmp 241) = .slice Aa 1 cc := e
                      simp [e2]
                      rfl
                    · kernel_rfl
                    · rintro e w' ⟨rfl, hbC⟩
                      exact ⟨_, rfl, rfl, hbC⟩
                case hQ =>
                  intro v w12 hb12
                  simp only [putsG, List.foldl, Act.put, List.setIfInBounds_toArray, List.set_cons_succ, List.set_cons_zero]
                  have HB12 := Lib.hid (below_thru HB11.out hb12)
                  go_wp2_with fail
                  all_goals
                    go_ret
                    exact ⟨rfl, HB12.out⟩
            · simp only [Bool.and_eq_true, decide_eq_true_eq] at hE
              obtain ⟨hlt, hct⟩ := hE
              subst hct
              have hi : (i : Int) < (ts.length : Int) := by omega
              obtain ⟨hp1, hp2, hp3, hp4⟩ := HKP.out rfl i hlt
              have hkk := HCK.out rfl
              have HZR := Lib.hid (fun hz => HPZ.out hz rfl)
              obtain ⟨b5, o5, rfl, hb5, q1, q2, q3⟩ := HX.out.at_ hlt
              obtain ⟨b6, o6, rfl, hb6, r1, r2, r3⟩ := HZ.out.at_ (k := i) (by rw [HRL.out]; exact hlt)
              have HEQ := Lib.hid (show b = 0 → rs.getD i (0, 0, 0) = ts.getD i (0, 0, 0) from fun hz => by rw [HZR.out hz])
              generalize hv : ts.getD i (0, 0, 0) = v at *
              generalize hu : rs.getD i (0, 0, 0) = u at *
              obtain ⟨v1, v2, v3⟩ := v
              obtain ⟨p1, p2, p3⟩ := u
              obtain rfl : p1 = v1 := hp2
              obtain rfl : p2 = v2 := hp3
              have HOK := Lib.hid (fun w => implSliderOk_any p1 p2 p3 w)
              have hp1' : slOk p1 p2 p3 = true := hp1
              rw [hp1'] at HOK
              have HUN := Lib.hid (show linkedTo k ls i = false → p3 = v3 from fun h => by have := hp4 h; simpa using this)
              have HE3 := Lib.hid (show b = 0 → p3 = v3 from fun h => by have := HEQ.out h; simpa using this)
              clear hp1 hp1' hp4 HEQ HZR hv hu HPZ HKP HCK
              go_upto_region 16 with (fail)
              go_wp2_with fail
              go_loopw [12, 13] (fun lv jv wr => ∃ (j : Nat) (L : Bool), j ≤ ls.length ∧ jv = .int .i64 j ∧ lv = .bool L ∧ L = (((i : Int) == k) || (ls.take j).any fun l => decide (l.2.1 = (i : Int))) ∧ wr = wc) (fun _ jv _ => ls.length - (intOf jv).toNat)
              case atStart => exact ⟨0, _, Nat.zero_le _, rfl, rfl, by simp, rfl⟩
              case round =>
                obtain ⟨j, L, hj1, rfl, rfl, hL, rfl⟩ := hrel
                have HL := Lib.hid hL
                clear hL
                by_cases hlj : j < ls.length
                · have hji : (j : Int) < (ls.length : Int) := by omega
                  have HSN := Lib.hid (any_snocL ls (fun l => decide (l.2.1 = (i : Int))) j hlj)
                  cases L
                  · obtain ⟨b7, o7, rfl, hb7, s1, s2, s3⟩ := HY.out.at_ hlj
                    generalize ls.getD j (0, 0, 0) = z at *
                    obtain ⟨z1, z2, z3⟩ := z
                    by_cases hz : z2 = (i : Int)
                    · have he : (z2 == (i : Int)) = true := by rw [hz]; simp
                      have HN := Lib.hid (show true = (((i : Int) == k) || (ls.take (j + 1)).any fun l => decide (l.2.1 = (i : Int))) by rw [HSN.out, decide_eq_true hz]; simp)
                      clear hz HSN HL
                      go_wp2_with fail
                      go_roundw
                      case rel => exact ⟨j + 1, true, by omega, by go_num, rfl, HN.out, by trivial⟩
                      case measure => simp [intOf]; omega
                    · have he : (z2 == (i : Int)) = false := by simp [hz]
                      have HN := Lib.hid (show false = (((i : Int) == k) || (ls.take (j + 1)).any fun l => decide (l.2.1 = (i : Int))) by rw [HSN.out, decide_eq_false hz, Bool.or_false]; exact HL.out)
                      clear hz HSN HL
                      go_wp2_with fail
                      go_roundw
                      case rel => exact ⟨j + 1, false, by omega, by go_num, rfl, HN.out, by trivial⟩
                      case measure => simp [intOf]; omega
                  · have HN := Lib.hid (show true = (((i : Int) == k) || (ls.take (j + 1)).any fun l => decide (l.2.1 = (i : Int))) by rw [HSN.out, ← Bool.or_assoc, ← HL.out, Bool.true_or])
                    clear HSN HL
                    go_wp2_with fail
                    go_roundw
                    case rel => exact ⟨j + 1, true, by omega, by go_num, rfl, HN.out, by trivial⟩
                    case measure => simp [intOf]; omega
                · obtain rfl : j = ls.length := by omega
                  have hLL := HL.out
                  rw [List.take_length] at hLL
                  have HUL := Lib.hid (show L = false → p3 = v3 from fun h => HUN.out (by
                    rw [h] at hLL
                    have h2 : ((i : Int) == k) = decide ((i : Int) = k) := by by_cases e : (i : Int) = k <;> simp [e]
                    unfold linkedTo
                    rw [← h2]
                    exact hLL.symm))
                  clear hLL HL HUN
                  go_upto_region 20 with (fail)
                  have d1 := InW.cell hb5 q1
                  have d2 := InW.cell hb5 q2
                  have d3 := InW.cell hb5 q3
                  have e1 := InW.cell hb6 r1
                  have e2 := InW.cell hb6 r2
                  have e3 := InW.cell hb6 r3
                  have hn1 : (p1 != p1) = false := by simp
                  have hn2 : (p2 != p2) = false := by simp
                  clear q1 q2 q3 r1 r2 r3
                  cases L
                  · obtain rfl : p3 = v3 := HUL.out (by trivial)
                    have hn3 : (p3 != p3) = false := by simp
                    clear HE3
                    by_cases hb0 : b = 0
                    · have hb0' : (b == 0) = true := by simp [hb0]
                      clear hb0
                      refine wp_region_in (by kernel_rfl) (by kernel_rfl) ?_
                      repeat (go_big_quiet_step ((go_at_call 21; refine (HOK.out _).mono ?_; rintro e w' ⟨rfl, rfl⟩; exact ⟨rfl, ⟨_, below_alloc (InW.on _) _⟩, rfl⟩)))
                      refine wpQuiet_nil ?_
                      intro w2_ hw2_
                      obtain ⟨⟨w8, hb8⟩, rfl⟩ := hw2_
                      have HX8 := Lib.hid (HX.out.on hb8)
                      have HY8 := Lib.hid (HY.out.on hb8)
                      have HZ8 := Lib.hid (HZ.out.on hb8)
                      have HB8 := Lib.hid (below_thru HBB.out hb8)
                      clear hb8 d1 d2 d3 e1 e2 e3
                      go_wp2_with fail
                      go_roundw
                      case rel => exact ⟨i + 1, by omega, by go_num, HX8.out, HY8.out, HZ8.out, HB8.out⟩
                      case measure => simp [intOf]; omega
                    · have hb0' : (b == 0) = false := by simp [hb0]
                      clear hb0
                      refine wp_region_in (by kernel_rfl) (by kernel_rfl) ?_
                      repeat (go_big_quiet_step ((go_at_call 21; refine (HOK.out _).mono ?_; rintro e w' ⟨rfl, rfl⟩; exact ⟨rfl, ⟨_, below_alloc (InW.on _) _⟩, rfl⟩)))
                      refine wpQuiet_nil ?_
                      intro w2_ hw2_
                      obtain ⟨⟨w8, hb8⟩, rfl⟩ := hw2_
                      have HX8 := Lib.hid (HX.out.on hb8)
                      have HY8 := Lib.hid (HY.out.on hb8)
                      have HZ8 := Lib.hid (HZ.out.on hb8)
                      have HB8 := Lib.hid (below_thru HBB.out hb8)
                      clear hb8 d1 d2 d3 e1 e2 e3
                      go_wp2_with fail
                      go_roundw
                      case rel => exact ⟨i + 1, by omega, by go_num, HX8.out, HY8.out, HZ8.out, HB8.out⟩
                      case measure => simp [intOf]; omega
                  · by_cases hb0 : b = 0
                    · obtain rfl : p3 = v3 := HE3.out hb0
                      have hb0' : (b == 0) = true := by simp [hb0]
                      clear hb0
                      refine wp_region_in (by kernel_rfl) (by kernel_rfl) ?_
                      repeat (go_big_quiet_step ((go_at_call 21; refine (HOK.out _).mono ?_; rintro e w' ⟨rfl, rfl⟩; exact ⟨rfl, ⟨_, below_alloc (InW.on _) _⟩, rfl⟩)))
                      refine wpQuiet_nil ?_
                      intro w2_ hw2_
                      obtain ⟨⟨w8, hb8⟩, rfl⟩ := hw2_
                      have HX8 := Lib.hid (HX.out.on hb8)
                      have HY8 := Lib.hid (HY.out.on hb8)
                      have HZ8 := Lib.hid (HZ.out.on hb8)
                      have HB8 := Lib.hid (below_thru HBB.out hb8)
                      clear hb8 d1 d2 d3 e1 e2 e3
                      go_wp2_with fail
                      go_roundw
                      case rel => exact ⟨i + 1, by omega, by go_num, HX8.out, HY8.out, HZ8.out, HB8.out⟩
                      case measure => simp [intOf]; omega
                    · have hb0' : (b == 0) = false := by simp [hb0]
                      clear hb0 HE3
                      refine wp_region_in (by kernel_rfl) (by kernel_rfl) ?_
                      repeat (go_big_quiet_step ((go_at_call 21; refine (HOK.out _).mono ?_; rintro e w' ⟨rfl, rfl⟩; exact ⟨rfl, ⟨_, below_alloc (InW.on _) _⟩, rfl⟩)))
                      refine wpQuiet_nil ?_
                      intro w2_ hw2_
                      obtain ⟨⟨w8, hb8⟩, rfl⟩ := hw2_
                      have HX8 := Lib.hid (HX.out.on hb8)
                      have HY8 := Lib.hid (HY.out.on hb8)
                      have HZ8 := Lib.hid (HZ.out.on hb8)
                      have HB8 := Lib.hid (below_thru HBB.out hb8)
                      clear hb8 d1 d2 d3 e1 e2 e3
                      go_wp2_with fail
                      go_roundw
                      case rel => exact ⟨i + 1, by omega, by go_num, HX8.out, HY8.out, HZ8.out, HB8.out⟩
                      case measure => simp [intOf]; omega

end Go.Proofs.Ytodocfanaplmpaa
