
/-
  Contract of the program's PullAll; no condition beyond the sizes of its slices.
-/
import Derived.Test.YtodocfanaplmpaaPullK
import Derived.Test.YtodocfanaplmpaaLinksW
import Derived.Test.YtodocfanaplmpaaRooms
import Derived.Deep.LoopGhost
import Derived.StillTailTactics
namespace Go.Proofs.Ytodocfanaplmpaa
open Go.ChangeShapes Go.WideShapes Go.ChangeAt Go.RowKit Go.Deep Go.BigFrame
set_option linter.unusedVariables false
set_option linter.unusedSimpArgs false

/-- what PullAll returns -/
def NewPull (w : World) (ts ls : List (Int × Int × Int)) (k b : Int) (e : Ending) (w' : World) : Prop :=
  ∃ A c, e = .returned (.tuple #[.slice A ts.length c, .bool (pullCan ts ls k b)]) ∧ w'.ownsRow w.heap.size 43 3 (.slice A ts.length c) ts.length (cells3 (pullRes ts ls k b)) ∧ Below w.heap.size w w'

set_option maxHeartbeats 2000000 in
set_option maxRecDepth 100000 in
theorem implPullAll_any (A B : Option Addr) (c d : Nat) (ts ls : List (Int × Int × Int)) (k b : Int) (w : World) (hx : TRow w w.heap.size A ts) (hy : TRow w w.heap.size B ls)
    (hs : ∀ a, A = some a → a.spot = none) (hn : ts.length ≤ 1048576) :
    Calls Try.prog 19 #[.slice A ts.length c, .slice B ls.length d, .int .i64 k, .int .i64 b] w (NewPull w ts ls k b) := by
  have HCL := Lib.hid (fun w hx => clone_any A c ts w hx hn hs)
  have HLK := Lib.hid (fun w hy => implLinksOk_any (ts.length : Int) B d ls w hy)
  have HAR := Lib.hid (fun w hx => areSliders_any A c ts w hx)
  have HWK := Lib.hid (fun w => within_any k 0 ((ts.length : Int) - 1) w)
  have HWB := Lib.hid (fun w => within_any b (-100) 100 w)
  have HX := Lib.hid hx
  have HY := Lib.hid hy
  clear hs
  by_cases hc : pullCan ts ls k b = true
  case neg =>
    have hcf : pullCan ts ls k b = false := by simpa using hc
    have HE : Hid (pullRes ts ls k b = ts) := if_neg hc
    have HR : Hid (∀ A c w', w'.ownsRow w.heap.size 43 3 (.slice A ts.length c) ts.length (cells3 ts) → Below w.heap.size w w' → NewPull w ts ls k b (.returned (.tuple #[.slice A ts.length c, .bool false])) w') :=
      fun A c w' h1 h2 => ⟨A, c, by rw [hcf], by rw [HE.out]; exact h1, h2⟩
    generalize NewPull w ts ls k b = POST at *
    clear hx hy hc
    cases h1 : linksOk (ts.length : Int) ls
    · rw [h1] at HLK
      clear h1 hcf
      go_enter Try.func19, Try.ntmps19
      go_wp2_with fail
      refine (HCL.out _ HX.out).mono ?_
      rintro e w1 ⟨A1, c1, rfl, hown, hb1⟩
      have HO := Lib.hid (hown.alloc (.cells #[.slice A1 ts.length c1] 36))
      have HB := Lib.hid (below_alloc hb1 (.cells #[.slice A1 ts.length c1] 36))
      have cp : (w1.alloc (.cells #[.slice A1 ts.length c1] 36)).cell? ⟨w1.heap.size, 0, none⟩ = some (.slice A1 ts.length c1) := by go_simp
      have hgs : w1.heap.size < (w1.alloc (.cells #[.slice A1 ts.length c1] 36)).heap.size := by simp
      have hws : w.heap.size ≤ w1.heap.size := hb1.size
      have HNE := Lib.hid (show (Value.slice A1 ts.length c1).ownBlock ≠ some w1.heap.size from fun e => by have := hown.lt _ e; omega)
      clear hown hb1
      go_upto_region 2 with (fail)
      generalize hgp : w1.heap.size = gp at *
      generalize w1.alloc (.cells #[.slice A1 ts.length c1] 36) = wz at *
      clear hgp
      go_wp2_with fail
      refine (HLK.out _ (TRow.more (HY.out.below HB.out) HB.out.size)).mono ?_
      rintro e w2 ⟨rfl, hb2⟩
      have cp2 := cell_on hb2 cp
      have HO2 := Lib.hid (own_on HO.out hb2)
      have HB2 := Lib.hid (below_thru HB.out hb2)
      have hg2 : gp < w2.heap.size := Nat.lt_of_lt_of_le hgs hb2.size
      clear hb2 HO HB cp hgs
      go_wp2_with fail
      exact HR.out _ _ _ HO2.out HB2.out
    rw [h1] at HLK
    cases h2 : slAll ts
    · rw [h2] at HAR
      clear h1 h2 hcf
      go_enter Try.func19, Try.ntmps19
      go_wp2_with fail
      refine (HCL.out _ HX.out).mono ?_
      rintro e w1 ⟨A1, c1, rfl, hown, hb1⟩
      have HO := Lib.hid (hown.alloc (.cells #[.slice A1 ts.length c1] 36))
      have HB := Lib.hid (below_alloc hb1 (.cells #[.slice A1 ts.length c1] 36))
      have cp : (w1.alloc (.cells #[.slice A1 ts.length c1] 36)).cell? ⟨w1.heap.size, 0, none⟩ = some (.slice A1 ts.length c1) := by go_simp
      have hgs : w1.heap.size < (w1.alloc (.cells #[.slice A1 ts.length c1] 36)).heap.size := by simp
      have hws : w.heap.size ≤ w1.heap.size := hb1.size
      have HNE := Lib.hid (show (Value.slice A1 ts.length c1).ownBlock ≠ some w1.heap.size from fun e => by have := hown.lt _ e; omega)
      clear hown hb1
      go_upto_region 2 with (fail)
      generalize hgp : w1.heap.size = gp at *
      generalize w1.alloc (.cells #[.slice A1 ts.length c1] 36) = wz at *
      clear hgp
      go_wp2_with fail
      refine (HLK.out _ (TRow.more (HY.out.below HB.out) HB.out.size)).mono ?_
      rintro e w2 ⟨rfl, hb2⟩
      have cp2 := cell_on hb2 cp
      have HO2 := Lib.hid (own_on HO.out hb2)
      have HB2 := Lib.hid (below_thru HB.out hb2)
      have hg2 : gp < w2.heap.size := Nat.lt_of_lt_of_le hgs hb2.size
      clear hb2 HO HB cp hgs
      go_wp2_with fail
      refine (HAR.out _ (TRow.more (HX.out.below HB2.out) HB2.out.size)).mono ?_
      rintro e w3 ⟨rfl, hb3⟩
      have cp3 := cell_on hb3 cp2
      have HO3 := Lib.hid (own_on HO2.out hb3)
      have HB3 := Lib.hid (below_thru HB2.out hb3)
      have hg3 : gp < w3.heap.size := Nat.lt_of_lt_of_le hg2 hb3.size
      clear hb3 HO2 HB2 cp2 hg2
      go_wp2_with fail
      exact HR.out _ _ _ HO3.out HB3.out
    rw [h2] at HAR
    cases h3 : inB k 0 ((ts.length : Int) - 1)
    · rw [h3] at HWK
      clear h1 h2 h3 hcf
      go_enter Try.func19, Try.ntmps19
      go_wp2_with fail
      refine (HCL.out _ HX.out).mono ?_
      rintro e w1 ⟨A1, c1, rfl, hown, hb1⟩
      have HO := Lib.hid (hown.alloc (.cells #[.slice A1 ts.length c1] 36))
      have HB := Lib.hid (below_alloc hb1 (.cells #[.slice A1 ts.length c1] 36))
      have cp : (w1.alloc (.cells #[.slice A1 ts.length c1] 36)).cell? ⟨w1.heap.size, 0, none⟩ = some (.slice A1 ts.length c1) := by go_simp
      have hgs : w1.heap.size < (w1.alloc (.cells #[.slice A1 ts.length c1] 36)).heap.size := by simp
      have hws : w.heap.size ≤ w1.heap.size := hb1.size
      have HNE := Lib.hid (show (Value.slice A1 ts.length c1).ownBlock ≠ some w1.heap.size from fun e => by have := hown.lt _ e; omega)
      clear hown hb1
      go_upto_region 2 with (fail)
      generalize hgp : w1.heap.size = gp at *
      generalize w1.alloc (.cells #[.slice A1 ts.length c1] 36) = wz at *
      clear hgp
      go_wp2_with fail
      refine (HLK.out _ (TRow.more (HY.out.below HB.out) HB.out.size)).mono ?_
      rintro e w2 ⟨rfl, hb2⟩
      have cp2 := cell_on hb2 cp
      have HO2 := Lib.hid (own_on HO.out hb2)
      have HB2 := Lib.hid (below_thru HB.out hb2)
      have hg2 : gp < w2.heap.size := Nat.lt_of_lt_of_le hgs hb2.size
      clear hb2 HO HB cp hgs
      go_wp2_with fail
      refine (HAR.out _ (TRow.more (HX.out.below HB2.out) HB2.out.size)).mono ?_
      rintro e w3 ⟨rfl, hb3⟩
      have cp3 := cell_on hb3 cp2
      have HO3 := Lib.hid (own_on HO2.out hb3)
      have HB3 := Lib.hid (below_thru HB2.out hb3)
      have hg3 : gp < w3.heap.size := Nat.lt_of_lt_of_le hg2 hb3.size
      clear hb3 HO2 HB2 cp2 hg2
      go_wp2_with fail
      refine (HWK.out _).mono ?_
      rintro e w4 ⟨rfl, rfl⟩
      go_wp2_with fail
      exact HR.out _ _ _ HO3.out HB3.out
    rw [h3] at HWK
    cases h4 : inB b (-100) 100
    · rw [h4] at HWB
      clear h1 h2 h3 h4 hcf
      go_enter Try.func19, Try.ntmps19
      go_wp2_with fail
      refine (HCL.out _ HX.out).mono ?_
      rintro e w1 ⟨A1, c1, rfl, hown, hb1⟩
      have HO := Lib.hid (hown.alloc (.cells #[.slice A1 ts.length c1] 36))
      have HB := Lib.hid (below_alloc hb1 (.cells #[.slice A1 ts.length c1] 36))
      have cp : (w1.alloc (.cells #[.slice A1 ts.length c1] 36)).cell? ⟨w1.heap.size, 0, none⟩ = some (.slice A1 ts.length c1) := by go_simp
      have hgs : w1.heap.size < (w1.alloc (.cells #[.slice A1 ts.length c1] 36)).heap.size := by simp
      have hws : w.heap.size ≤ w1.heap.size := hb1.size
      have HNE := Lib.hid (show (Value.slice A1 ts.length c1).ownBlock ≠ some w1.heap.size from fun e => by have := hown.lt _ e; omega)
      clear hown hb1
      go_upto_region 2 with (fail)
      generalize hgp : w1.heap.size = gp at *
      generalize w1.alloc (.cells #[.slice A1 ts.length c1] 36) = wz at *
      clear hgp
      go_wp2_with fail
      refine (HLK.out _ (TRow.more (HY.out.below HB.out) HB.out.size)).mono ?_
      rintro e w2 ⟨rfl, hb2⟩
      have cp2 := cell_on hb2 cp
      have HO2 := Lib.hid (own_on HO.out hb2)
      have HB2 := Lib.hid (below_thru HB.out hb2)
      have hg2 : gp < w2.heap.size := Nat.lt_of_lt_of_le hgs hb2.size
      clear hb2 HO HB cp hgs
      go_wp2_with fail
      refine (HAR.out _ (TRow.more (HX.out.below HB2.out) HB2.out.size)).mono ?_
      rintro e w3 ⟨rfl, hb3⟩
      have cp3 := cell_on hb3 cp2
      have HO3 := Lib.hid (own_on HO2.out hb3)
      have HB3 := Lib.hid (below_thru HB2.out hb3)
      have hg3 : gp < w3.heap.size := Nat.lt_of_lt_of_le hg2 hb3.size
      clear hb3 HO2 HB2 cp2 hg2
      go_wp2_with fail
      refine (HWK.out _).mono ?_
      rintro e w4 ⟨rfl, rfl⟩
      go_wp2_with fail
      refine (HWB.out _).mono ?_
      rintro e w4 ⟨rfl, rfl⟩
      go_wp2_with fail
      exact HR.out _ _ _ HO3.out HB3.out
    exact absurd hcf (by unfold pullCan; rw [h1, h2, h3, h4]; decide)
  obtain ⟨h1, h2, h3, h4⟩ : linksOk (ts.length : Int) ls = true ∧ slAll ts = true ∧ inB k 0 ((ts.length : Int) - 1) = true ∧ inB b (-100) 100 = true := by
    have h := hc
    unfold pullCan at h
    simpa only [Bool.and_eq_true] using h
  have HE : Hid (pullRes ts ls k b = (pullOut ts ls k.toNat b).1) := if_pos hc
  have HR : Hid (∀ A c w', w'.ownsRow w.heap.size 43 3 (.slice A ts.length c) ts.length (cells3 (pullOut ts ls k.toNat b).1) → Below w.heap.size w w' → NewPull w ts ls k b (.returned (.tuple #[.slice A ts.length c, .bool true])) w') :=
    fun A c w' h1 h2 => ⟨A, c, by rw [hc], by rw [HE.out]; exact h1, h2⟩
  generalize NewPull w ts ls k b = POST at *
  rw [h1] at HLK
  rw [h2] at HAR
  rw [h3] at HWK
  rw [h4] at HWB
  clear hx hy hc HE
  obtain ⟨k, rfl⟩ : ∃ m : Nat, k = (m : Int) := ⟨k.toNat, by have := inB_iff.1 h3; omega⟩
  have hkn : k < ts.length := by have := inB_iff.1 h3; omega
  have hbb := inB_iff.1 h4
  have hLI : LkIn ts.length ls ∧ acyc (edge ls) ts.length = true := by
    have h := h1
    unfold linksOk at h
    simp only [Bool.and_eq_true] at h
    exact ⟨LkIn.of h.2.2.1, by have := h.2.2.2; rwa [Int.toNat_natCast] at this⟩
  have hyl : ls.length ≤ 12 := by
    have h := h1
    unfold linksOk at h
    simp only [Bool.and_eq_true, decide_eq_true_eq] at h
    exact h.2.1
  rw [Int.toNat_natCast] at HR
  unfold pullOut at HR
  have HLI := Lib.hid hLI
  have HSA := Lib.hid h2
  clear h1 h2 h3 h4 hLI
  obtain ⟨j0, hj0, jz0, jz1, jz2⟩ := info_parts intInfo
  go_enter Try.func19, Try.ntmps19
  go_wp2_with fail
  refine (HCL.out _ HX.out).mono ?_
  rintro e w1 ⟨A1, c1, rfl, hown, hb1⟩
  have HO := Lib.hid (hown.alloc (.cells #[.slice A1 ts.length c1] 36))
  have HB := Lib.hid (below_alloc hb1 (.cells #[.slice A1 ts.length c1] 36))
  have cp : (w1.alloc (.cells #[.slice A1 ts.length c1] 36)).cell? ⟨w1.heap.size, 0, none⟩ = some (.slice A1 ts.length c1) := by go_simp
  have hgs : w1.heap.size < (w1.alloc (.cells #[.slice A1 ts.length c1] 36)).heap.size := by simp
  have hws : w.heap.size ≤ w1.heap.size := hb1.size
  have HNE := Lib.hid (show (Value.slice A1 ts.length c1).ownBlock ≠ some w1.heap.size from fun e => by have := hown.lt _ e; omega)
  clear hown hb1
  go_upto_region 2 with (fail)
  generalize hgp : w1.heap.size = gp at *
  generalize w1.alloc (.cells #[.slice A1 ts.length c1] 36) = wz at *
  clear hgp
  go_wp2_with fail
  refine (HLK.out _ (TRow.more (HY.out.below HB.out) HB.out.size)).mono ?_
  rintro e w2 ⟨rfl, hb2⟩
  have cp2 := cell_on hb2 cp
  have HO2 := Lib.hid (own_on HO.out hb2)
  have HB2 := Lib.hid (below_thru HB.out hb2)
  have hg2 : gp < w2.heap.size := Nat.lt_of_lt_of_le hgs hb2.size
  clear hb2 HO HB cp hgs
  go_wp2_with fail
  refine (HAR.out _ (TRow.more (HX.out.below HB2.out) HB2.out.size)).mono ?_
  rintro e w3 ⟨rfl, hb3⟩
  have cp3 := cell_on hb3 cp2
  have HO3 := Lib.hid (own_on HO2.out hb3)
  have HB3 := Lib.hid (below_thru HB2.out hb3)
  have hg3 : gp < w3.heap.size := Nat.lt_of_lt_of_le hg2 hb3.size
  clear hb3 HO2 HB2 cp2 hg2
  go_wp2_with fail
  refine (HWK.out _).mono ?_
  rintro e w4 ⟨rfl, rfl⟩
  go_wp2_with fail
  refine (HWB.out _).mono ?_
  rintro e w4 ⟨rfl, rfl⟩
  go_wp2_with (at_make; refine wpList_make_full _ rfl (.tmp 43) (.tmp 43) 22 rfl w.heap.size 3 j0 (.int .i64 0) 1 Try.underlying22 hj0 jz0 jz1 .i64 .i64 _ _ ts.length rfl rfl rfl rfl (by rw [jz2]; omega) (by unfold maxLen; omega) HB3.out.size ?_)
  intro w5 hown5 hgr5
  obtain ⟨ob, rfl⟩ : ∃ ob, A1 = some ⟨ob, 0, none⟩ := by
    obtain ⟨A9, c9, e9, h9⟩ := own_slice HO3.out
    rcases HO3.out.2 with ⟨e, h0⟩ | ⟨g, cap, cur, e, _⟩
    · omega
    · simp only [Value.slice.injEq] at e
      exact ⟨g, e.1⟩
  have hob := HO3.out.lt ob rfl
  have hbo : w.heap.size ≤ ob := hob.1
  have hbi : w.heap.size ≤ w3.heap.size := HB3.out.size
  have hib := hown5.lt w3.heap.size rfl
  have hsg : w3.heap.size ≤ w5.heap.size := hgr5.size
  have hobg : ob ≠ gp := fun e => HNE.out (by rw [e]; rfl)
  have hown5' : w5.ownsRow w.heap.size 3 1 (.slice (some ⟨w3.heap.size, 0, none⟩) ts.length ts.length) ts.length ((zeros ts.length).map (Value.int .i64)) := by
    rw [made_list'] at hown5
    simpa [zeros] using hown5
  have HP := Lib.hid (show PSt w5 w.heap.size gp ob ts.length c1 w3.heap.size ts.length (ts, zeros ts.length) from
    ⟨(World.cell?_of_block (hgr5.block gp hg3 (by simp))).trans cp3, own_of_block HO3.out (hgr5.block ob hob.2 (by simp)), hown5', rfl, zeros_len _, by omega, fun e => hobg e.symm, by omega⟩)
  have HB5 := Lib.hid (show Below w.heap.size w w5 from HB3.out.grown hgr5 HB3.out.size (fun k h => absurd h (by simp)))
  have hz0 := zeros_at ts.length k
  have hok := slAll_at HSA.out hkn
  have HPL := Lib.hid (fun ww hp => pull_any w.heap.size gp ob ts.length c1 w3.heap.size ts.length (ts, zeros ts.length) k b ww hp hkn hn hok (by rw [hz0]; omega))
  have HRI := Lib.hid (RdInv.start (ls := ls) HSA.out hkn b)
  have hki : (k : Int) < (ts.length : Int) := by omega
  clear hown5 hown5' hgr5 cp3 HO3 HB3 hob hib hz0 hok hg3
  generalize hst : pull1 (ts, zeros ts.length) k b = st0 at *
  clear hst
  go_wp2_with fail
  refine (HPL.out _ HP.out).mono ?_
  rintro e w6 ⟨rfl, hp6, ht6⟩
  have HB6 := Lib.hid (HB5.out.trans (ht6.below HB5.out.size hbo hbi))
  have HP6 := Lib.hid hp6
  clear HP HPL HB5 hp6 ht6
  go_wp2_with fail
  go_loopg [11] (ts.length + 1) (fun gk mv wr => ∃ (r ib ci : Nat), gk + r = ts.length + 1 ∧ mv = .slice (some ⟨ib, 0, none⟩) ts.length ci ∧ Aside (PSt wr w.heap.size gp ob ts.length c1 ib ci (roundsN ls st0 r)) ∧ Aside (Below w.heap.size w wr))
  case atStart => exact ⟨0, _, _, by omega, rfl, HP6.out, HB6.out⟩
  case round =>
    obtain ⟨r, ib, ci, hgr, rfl, hpr, hbr⟩ := hrel
    have HPR := Lib.hid hpr.out
    have HBR := Lib.hid hbr.out
    clear hpr hbr HP6 HB6
    have HRr := Lib.hid (HRI.out.rounds HLI.out.1 HLI.out.2 r)
    have hrow := IRow.of_own (show wr.ownsRow w.heap.size 3 1 (.slice (some ⟨ib, 0, none⟩) (roundsN ls st0 r).2.length ci) (roundsN ls st0 r).2.length ((roundsN ls st0 r).2.map (Value.int .i64)) from by rw [HPR.out.l2]; exact HPR.out.i)
    have hct := containsInt_any _ ci _ wr hrow
    rw [HPR.out.l2] at hct
    have HCT := Lib.hid hct
    clear hrow hct
    cases hmv : (roundsN ls st0 r).2.any movesI
    · rw [hmv] at HCT
      have hrest := rounds_rest HRI.out HLI.out.1 HLI.out.2 (r := r) (fun i _ => any_rest hmv i)
      have hfin := (hrest (ts.length + 1 - r)).1
      clear hrest
      rw [show r + (ts.length + 1 - r) = ts.length + 1 by omega] at hfin
      have HF := Lib.hid hfin
      have hgl := World.block_lt_of_cell? wr _ HPR.out.p
      have cpr := HPR.out.p
      clear hfin hmv
      go_wp2_with fail
      refine (HCT.out).mono ?_
      rintro e w7 ⟨rfl, rfl⟩
      go_wp2_with fail
      exact HR.out _ _ _ (by rw [HF.out]; exact HPR.out.o) HBR.out
    · rw [hmv] at HCT
      have hfew := rounds_few HRr.out hmv
      clear hmv
      go_wp2_with fail
      refine (HCT.out).mono ?_
      rintro e w7 ⟨rfl, rfl⟩
      go_wp2_with (at_make; refine wpList_make_full _ rfl (.tmp 54) (.tmp 54) 22 rfl w.heap.size 3 j0 (.int .i64 0) 1 Try.underlying22 hj0 jz0 jz1 .i64 .i64 _ _ ts.length rfl rfl rfl rfl (by rw [jz2]; omega) (by unfold maxLen; omega) HBR.out.size ?_)
      intro w7 hown7 hgr7
      have hib := HPR.out.i.lt ib rfl
      have hob := HPR.out.o.lt ob rfl
      have hgp : gp < wr.heap.size := World.block_lt_of_cell? wr _ HPR.out.p
      have hio : ib ≠ ob := fun e => HPR.out.ne e.symm
      have hnx : roundsN ls st0 (r + 1) = round1 ls (roundsN ls st0 r) := rfl
      have hl1 := HPR.out.l1
      have hsa := HRr.out.all
      have hown7' : w7.ownsRow w.heap.size 3 1 (.slice (some ⟨wr.heap.size, 0, none⟩) ts.length ts.length) ts.length ((zeros (roundsN ls st0 r).1.length).map (Value.int .i64)) := by
        rw [made_list'] at hown7
        rw [hl1]
        simpa [zeros] using hown7
      have HP7 := Lib.hid (show PSt w7 w.heap.size gp ob ts.length c1 wr.heap.size ts.length ((roundsN ls st0 r).1, zeros (roundsN ls st0 r).1.length) from
        ⟨(World.cell?_of_block (hgr7.block gp hgp (by simp))).trans HPR.out.p, own_of_block HPR.out.o (hgr7.block ob hob.2 (by simp)), hown7', hl1, by rw [zeros_len]; exact hl1, by omega, HPR.out.g1, by omega⟩)
      have HM7 := Lib.hid (own_of_block HPR.out.i (hgr7.block ib hib.2 (by simp)))
      have HB7 := Lib.hid (show Below w.heap.size w w7 from HBR.out.grown hgr7 HBR.out.size (fun k h => absurd h (by simp)))
      have HSI := Lib.hid (SlInv.start hsa)
      have hshort := HRr.out.short
      have hLK := HLI.out.1
      rw [← hl1] at hLK
      have HSH := Lib.hid hshort
      have HNX := Lib.hid hnx
      have HLK2 := Lib.hid hLK
      have HL1 := Lib.hid hl1
      have HSA2 := Lib.hid hsa
      have hbn : w.heap.size ≤ wr.heap.size := HBR.out.size
      have hin : ib ≠ wr.heap.size := by omega
      have hbo2 : w.heap.size ≤ ob := hob.1
      clear hown7 hown7' hgr7 hib hob hgp hnx hl1 hsa hshort hLK HPR HBR HCT HRr
      generalize roundsN ls st0 r = sr at *
      generalize wr.heap.size = nb at *
      go_wp2_with fail
      go_loopw [58] (fun pv wx => ∃ p : Nat, p ≤ ls.length ∧ pv = .int .i64 p ∧ PSt wx w.heap.size gp ob ts.length c1 nb ts.length ((ls.take p).foldl (linkPull sr.2) (sr.1, zeros sr.1.length)) ∧ SlInv sr.1 ((ls.take p).foldl (linkPull sr.2) (sr.1, zeros sr.1.length)) ∧ wx.ownsRow w.heap.size 3 1 (.slice (some ⟨ib, 0, none⟩) ts.length ci) ts.length (sr.2.map (Value.int .i64)) ∧ Below w.heap.size w wx) (fun pv _ => ls.length - (intOf pv).toNat)
      case atStart => exact ⟨0, Nat.zero_le _, rfl, HP7.out, HSI.out, HM7.out, HB7.out⟩
      case round =>
        obtain ⟨p, hp, rfl, hps, hsi, hmo, hbx⟩ := hrel
        have HPS := Lib.hid hps
        have HSV := Lib.hid hsi
        have HMO := Lib.hid hmo
        have HBX := Lib.hid hbx
        clear HP7 HSI HM7 HB7 hps hsi hmo hbx
        by_cases hlt : p < ls.length
        · have hpi : (p : Int) < (ls.length : Int) := by omega
          obtain ⟨bA, oA, rfl, hbA, l1, l2, l3⟩ := (HY.out.below HBX.out).at_ hlt
          have hlk := HLK2.out (ls.getD p (0, 0, 0)) (by simp [List.getD, hlt])
          have hst : (ls.take (p + 1)).foldl (linkPull sr.2) (sr.1, zeros sr.1.length) = linkPull sr.2 ((ls.take p).foldl (linkPull sr.2) (sr.1, zeros sr.1.length)) (ls.getD p (0, 0, 0)) := by
            rw [take_snoc_getD ls p (0, 0, 0) hlt, List.foldl_append]
            rfl
          rw [HL1.out] at hlk
          have HST := Lib.hid hst
          clear hst
          generalize (ls.take p).foldl (linkPull sr.2) (sr.1, zeros sr.1.length) = st at *
          generalize ls.getD p (0, 0, 0) = v at *
          obtain ⟨v1, v2, v3⟩ := v
          dsimp only at hlk l1 l2 l3
          obtain ⟨a, rfl⟩ : ∃ m : Nat, v1 = (m : Int) := ⟨v1.toNat, by omega⟩
          obtain ⟨z, rfl⟩ : ∃ m : Nat, v2 = (m : Int) := ⟨v2.toNat, by omega⟩
          have ha : a < ts.length := by omega
          have hz : z < ts.length := by omega
          have hsl := HL1.out
          have hok := HSV.out.ok z (by omega)
          have hsh := HSV.out.short HSA2.out (i := z) (by omega)
          have HSV2 := Lib.hid (HSV.out.pull (i := z) (by omega) (v3 * sr.2.getD a 0))
          obtain ⟨q, hq⟩ : ∃ q, v3 * sr.2.getD a 0 = q := ⟨_, rfl⟩
          have hmc := ((HMO.out.alloc (.cells #[.int .i64 (a : Int), .int .i64 (z : Int), .int .i64 v3] 45)).cellAt a (by omega))
          have hml : a < sr.2.length := by have := HMO.out.1; simp at this; omega
          rw [show (sr.2.map (Value.int .i64))[a]? = some (.int .i64 (sr.2.getD a 0)) from by simp [List.getD, hml]] at hmc
          have hms := HSH.out a ha
          have hqb : -200 ≤ q ∧ q ≤ 200 := by
            rw [← hq]
            rcases hlk.2.2.2.2 with e | e <;> rw [e] <;> omega
          have HCALL := Lib.hid (fun ww hp => pull_any w.heap.size gp ob ts.length c1 nb ts.length st z q ww hp hz hn hok (by omega))
          have HE : Hid (linkPull sr.2 st ((a : Int), (z : Int), v3) = pull1 st z q) := by
            show pull1 st (z : Int).toNat (v3 * sr.2.getD (a : Int).toNat 0) = _
            rw [Int.toNat_natCast, Int.toNat_natCast, hq]
          rw [hq] at HSV2
          generalize sr.2.getD a 0 = mval at *
          have hzi : (z : Int) < (ts.length : Int) := by omega
          have hai : (a : Int) < (ts.length : Int) := by omega
          have HPA := Lib.hid (HPS.out.on (below_alloc (Below.refl wr.heap.size wr) (.cells #[.int .i64 (a : Int), .int .i64 (z : Int), .int .i64 v3] 45)))
          clear hok hsh hlk hsl hml
          have cl0 : (wr.alloc (.cells #[.int .i64 (a : Int), .int .i64 (z : Int), .int .i64 v3] 45)).cell? ⟨wr.heap.size, 0, none⟩ = some (.int .i64 (a : Int)) := by go_simp
          have cl1 : (wr.alloc (.cells #[.int .i64 (a : Int), .int .i64 (z : Int), .int .i64 v3] 45)).cell? ⟨wr.heap.size, 1, none⟩ = some (.int .i64 (z : Int)) := by go_simp
          have cl2 : (wr.alloc (.cells #[.int .i64 (a : Int), .int .i64 (z : Int), .int .i64 v3] 45)).cell? ⟨wr.heap.size, 2, none⟩ = some (.int .i64 v3) := by go_simp
          have HMA := Lib.hid (HMO.out.alloc (.cells #[.int .i64 (a : Int), .int .i64 (z : Int), .int .i64 v3] 45))
          have HBA := Lib.hid (below_alloc HBX.out (.cells #[.int .i64 (a : Int), .int .i64 (z : Int), .int .i64 v3] 45))
          clear HPS HSV HMO HBX
          go_wp2_with fail
          generalize wr.heap.size = lb at *
          generalize wr.alloc (.cells #[.int .i64 (a : Int), .int .i64 (z : Int), .int .i64 v3] 45) = wa at *
          go_still_tail 12, (by kernel_rfl)
          go_wp2_with fail
          refine (HCALL.out _ HPA.out.drew).mono ?_
          rintro e w8 ⟨rfl, hp8, ht8⟩
          have HP8 := Lib.hid hp8
          have HM8 := Lib.hid (ht8.own (w := wa.drew) HMA.out hio hin)
          have HB8 := Lib.hid ((show Below w.heap.size w wa.drew from HBA.out.drew).trans (ht8.below (show w.heap.size ≤ wa.drew.heap.size from HBA.out.size) hbo2 hbn))
          clear hp8 ht8 HPA HMA HBA hmc cl0 cl1 cl2 l1 l2 l3 HCALL
          go_wp2_with fail
          go_roundw
          case rel => exact ⟨p + 1, by omega, by go_num, by rw [HST.out, HE.out]; exact HP8.out, by rw [HST.out, HE.out]; exact HSV2.out, HM8.out, HB8.out⟩
          case measure => simp [intOf]; omega
        · have hpe : p = ls.length := by omega
          have hpi : ¬ (p : Int) < (ls.length : Int) := by omega
          rw [hpe, List.take_length] at HPS HSV
          clear hpe
          go_wp2_with fail
          go_roundg (gk - 1)
          case measure => omega
          case rel => exact ⟨r + 1, nb, _, by omega, rfl, by rw [HNX.out]; exact HPS.out, HBX.out⟩

end Go.Proofs.Ytodocfanaplmpaa
