
/-
  Contract of the reference's PullAll; no condition beyond the sizes of its slices.
-/
import Derived.Test.YtodocfanaplmpaaPullI
import Derived.Test.YtodocfanaplmpaaLinksS
import Derived.Test.YtodocfanaplmpaaTail
namespace Go.Proofs.Ytodocfanaplmpaa
open Go.ChangeShapes Go.WideShapes Go.ChangeAt Go.RowKit Go.Deep Go.BigFrame
set_option linter.unusedVariables false
set_option linter.unusedSimpArgs false

/-- out lies in block ob, what moved in block ib -/
structure QSt (w : World) (base ob n c ib ci : Nat) (st : SlSt) : Prop where
  o : w.ownsRow base 43 3 (.slice (some ⟨ob, 0, none⟩) n c) n (cells3 st.1)
  i : w.ownsRow base 3 1 (.slice (some ⟨ib, 0, none⟩) n ci) n (st.2.map (Value.int .i64))
  l1 : st.1.length = n
  l2 : st.2.length = n
  ne : ob ≠ ib
theorem QSt.on {w w' : World} {base ob n c ib ci : Nat} {st : SlSt} (h : QSt w base ob n c ib ci st) (hb : Below w.heap.size w w') : QSt w' base ob n c ib ci st :=
  ⟨own_on h.o hb, own_on h.i hb, h.l1, h.l2, h.ne⟩
theorem QSt.drew {w : World} {base ob n c ib ci : Nat} {st : SlSt} (h : QSt w base ob n c ib ci st) : QSt w.drew base ob n c ib ci st := ⟨h.o, h.i, h.l1, h.l2, h.ne⟩
theorem QSt.put3 {w : World} {base ob n c ib ci : Nat} {st : SlSt} (h : QSt w base ob n c ib ci st) {i : Nat} (hi : i < n) (x y z : Int) :
    QSt (((w.setCell ⟨ob, i * 3, none⟩ (.int .i64 x)).setCell ⟨ob, i * 3 + 1, none⟩ (.int .i64 y)).setCell ⟨ob, i * 3 + 2, none⟩ (.int .i64 z)) base ob n c ib ci (st.1.set i (x, y, z), st.2) := by
  refine ⟨?_, ?_, by rw [List.length_set]; exact h.l1, h.l2, h.ne⟩
  · have := (((h.o.stored (i * 3) (.int .i64 x)).1.stored (i * 3 + 1) (.int .i64 y)).1.stored (i * 3 + 2) (.int .i64 z)).1
    rw [cells3_set _ _ (by rw [h.l1]; exact hi)]
    exact this
  · have hn : ib ≠ ob := fun e => h.ne e.symm
    exact own_far (own_far (own_far h.i (p := ⟨ob, i * 3, none⟩) hn (.int .i64 x)) (p := ⟨ob, i * 3 + 1, none⟩) hn (.int .i64 y)) (p := ⟨ob, i * 3 + 2, none⟩) hn (.int .i64 z)
theorem QSt.putI {w : World} {base ob n c ib ci : Nat} {st : SlSt} (h : QSt w base ob n c ib ci st) (i : Nat) (v : Int) :
    QSt (w.setCell ⟨ib, i, none⟩ (.int .i64 v)) base ob n c ib ci (st.1, st.2.set i v) := by
  refine ⟨own_far h.o (p := ⟨ib, i, none⟩) h.ne _, ?_, h.l1, by rw [List.length_set]; exact h.l2, h.ne⟩
  have := (h.i.stored i (.int .i64 v)).1
  rw [List.map_set]
  exact this
theorem QSt.at_ {w : World} {base ob n c ib ci : Nat} {st : SlSt} (h : QSt w base ob n c ib ci st) {i : Nat} (hi : i < n) :
    w.cell? ⟨ob, i * 3, none⟩ = some (.int .i64 (st.1.getD i (0, 0, 0)).1) ∧ w.cell? ⟨ob, i * 3 + 1, none⟩ = some (.int .i64 (st.1.getD i (0, 0, 0)).2.1) ∧ w.cell? ⟨ob, i * 3 + 2, none⟩ = some (.int .i64 (st.1.getD i (0, 0, 0)).2.2) ∧
    w.cell? ⟨ib, i, none⟩ = some (.int .i64 (st.2.getD i 0)) := by
  obtain ⟨a, b, d⟩ := cells3_get st.1 i (by rw [h.l1]; exact hi)
  refine ⟨(h.o.cellAt (i * 3) (by omega)).trans a, (h.o.cellAt (i * 3 + 1) (by omega)).trans b, (h.o.cellAt (i * 3 + 2) (by omega)).trans d, (h.i.cellAt i (by omega)).trans ?_⟩
  have hl : i < st.2.length := by rw [h.l2]; exact hi
  simp [List.getD, hl]

set_option maxHeartbeats 4000000 in
set_option maxRecDepth 100000 in
theorem specPullAll_any (A B : Option Addr) (c d : Nat) (ts ls : List (Int × Int × Int)) (k b : Int) (w : World) (hx : TRow w w.heap.size A ts) (hy : TRow w w.heap.size B ls)
    (hs : ∀ a, A = some a → a.spot = none) (hA : A = none → c = 0) (hn : ts.length ≤ 1048576) :
    Calls Try.prog 27 #[.slice A ts.length c, .slice B ls.length d, .int .i64 k, .int .i64 b] w (NewPull w ts ls k b) := by
  obtain ⟨i0, hi0, hz0, hz1, hz2⟩ := info_parts slInfo
  obtain ⟨j0, hj0, jz0, jz1, jz2⟩ := info_parts intInfo
  have HR0 : Hid (∀ A c w', pullCan ts ls k b = false → w'.ownsRow w.heap.size 43 3 (.slice A ts.length c) ts.length (cells3 ts) → Below w.heap.size w w' → NewPull w ts ls k b (.returned (.tuple #[.slice A ts.length c, .bool false])) w') :=
    fun A c w' h0 h1 h2 => ⟨A, c, by rw [h0], by rw [show pullRes ts ls k b = ts from if_neg (by rw [h0]; decide)]; exact h1, h2⟩
  have HR1 : Hid (∀ A c w', pullCan ts ls k b = true → w'.ownsRow w.heap.size 43 3 (.slice A ts.length c) ts.length (cells3 (pullOut ts ls k.toNat b).1) → Below w.heap.size w w' → NewPull w ts ls k b (.returned (.tuple #[.slice A ts.length c, .bool true])) w') :=
    fun A c w' h0 h1 h2 => ⟨A, c, by rw [h0], by rw [show pullRes ts ls k b = (pullOut ts ls k.toNat b).1 from if_pos h0]; exact h1, h2⟩
  generalize NewPull w ts ls k b = POST at *
  have HLK := Lib.hid (fun w hy => specLinksOk_any (ts.length : Int) B d ls w hy)
  have HWK := Lib.hid (fun w => l01In_any k 0 ((ts.length : Int) - 1) w)
  have HWB := Lib.hid (fun w => l01In_any b (-100) 100 w)
  have HX := Lib.hid hx
  have HY := Lib.hid hy
  have hslall : slAll ts = ts.all fun t => slOk t.1 t.2.1 t.2.2 := rfl
  by_cases hz : ts = []
  case pos =>
    subst hz
    have hcf : pullCan [] ls k b = false := by
      unfold pullCan linksOk
      rfl
    have HLK0 := Lib.hid (show ∀ w, TRow w w.heap.size B ls → Calls Try.prog 13 #[.int .i64 0, .slice B ls.length d] w fun e w' => e = .returned (.bool false) ∧ Below w.heap.size w w' from fun w hy => by
      have h := HLK.out w hy
      rw [show linksOk ((([] : List (Int × Int × Int)).length : Nat) : Int) ls = false from rfl] at h
      exact h)
    clear hx hy HLK HWK HWB HR1 hslall
    cases A with
    | none =>
      obtain rfl := hA rfl
      go_enter Try.func27, Try.ntmps27
      go_wp2_with (at_builtin; refine wpList_append_own_none rfl _ _ 36 rfl w.heap.size 43 i0 3 Try.underlying36 hi0 _ _ _ rfl (World.ownsRow_made w #[] 0 (Nat.le_refl _) (Nat.zero_le _) (by simp)) rfl ?_)
      have HB1 := Lib.hid (show Below w.heap.size w (w.alloc (.cells #[] 43)) from (Below.refl _ _).alloc (Nat.le_refl _) _)
      have HO1 := Lib.hid (show (w.alloc (.cells #[] 43)).ownsRow w.heap.size 43 3 (.slice (some ⟨w.heap.size, 0, none⟩) 0 0) 0 (cells3 []) from World.ownsRow_made w #[] 0 (Nat.le_refl _) (Nat.zero_le _) (by simp))
      generalize w.alloc (.cells #[] 43) = wy at *
      go_wp2_with fail
      go_loopw [12] (fun iv wx => iv = .int .i64 (0 : Int) ∧ wx = wy) (fun _ _ => 0)
      case atStart => exact ⟨rfl, rfl⟩
      case round =>
        obtain ⟨rfl, rfl⟩ := hrel
        go_wp2_with fail
        refine (HLK0.out _ (TRow.more (HY.out.below HB1.out) HB1.out.size)).mono ?_
        rintro e w2 ⟨rfl, hb2⟩
        have HO2 := Lib.hid (own_on HO1.out hb2)
        have HB2 := Lib.hid (below_thru HB1.out hb2)
        clear hb2
        go_wp2_with fail
        exact HR0.out _ _ _ hcf HO2.out HB2.out
    | some a =>
      go_enter Try.func27, Try.ntmps27
      go_wp2_with (at_builtin; refine wpList_append_own _ rfl _ _ 36 rfl w.heap.size 43 i0 _ 3 24 Try.underlying36 hi0 hz0 hz1 hz2 rfl (by decide) _ _ _ rfl (World.ownsRow_made w #[] 0 (Nat.le_refl _) (Nat.zero_le _) (by simp)) a 0 c [] rfl rfl (fun j u hj => absurd hj (by simp)) (fun u hu => absurd hu (by simp)) (by unfold maxLen; omega) (by omega) (by simp) ?_)
      intro v1 wy hown hgr hnil
      obtain ⟨A1, c1, rfl, _⟩ := own_slice hown
      have HB1 := Lib.hid (show Below w.heap.size w wy from ((Below.refl _ w).alloc (Nat.le_refl _) _).grown hgr (by simp) (by intro k hk; simp [Value.ownBlock] at hk; omega))
      have HO1 := Lib.hid (show wy.ownsRow w.heap.size 43 3 (.slice A1 0 c1) 0 (cells3 []) from hown)
      clear hown hgr hnil
      go_wp2_with fail
      go_loopw [12] (fun iv wx => iv = .int .i64 (0 : Int) ∧ wx = wy) (fun _ _ => 0)
      case atStart => exact ⟨rfl, rfl⟩
      case round =>
        obtain ⟨rfl, rfl⟩ := hrel
        go_wp2_with fail
        refine (HLK0.out _ (TRow.more (HY.out.below HB1.out) HB1.out.size)).mono ?_
        rintro e w2 ⟨rfl, hb2⟩
        have HO2 := Lib.hid (own_on HO1.out hb2)
        have HB2 := Lib.hid (below_thru HB1.out hb2)
        clear hb2
        go_wp2_with fail
        exact HR0.out _ _ _ hcf HO2.out HB2.out
  obtain ⟨bA, oA, rfl⟩ : ∃ b o, A = some ⟨b, o, none⟩ := by
    cases ts with
    | nil => exact absurd rfl hz
    | cons t ts => obtain ⟨b, o, e, _⟩ := hx.2.2 (by simp); exact ⟨b, o, e⟩
  have hpos : 0 < ts.length := by cases ts with | nil => exact absurd rfl hz | cons t ts => simp
  have HW := Lib.hid (trow_news hx)
  have HONE := Lib.hid (cells3_one ts)
  have HCL := Lib.hid (cells3_length ts)
  have HSA := Lib.hid hslall
  clear hx hy hs hA hz hslall
  go_enter Try.func27, Try.ntmps27
  go_wp2_with (at_builtin; refine wpList_append_own _ rfl _ _ 36 rfl w.heap.size 43 i0 _ 3 24 Try.underlying36 hi0 hz0 hz1 hz2 rfl (by decide) _ _ _ rfl (World.ownsRow_made w #[] 0 (Nat.le_refl _) (Nat.zero_le _) (by simp)) ⟨bA, oA, none⟩ ts.length c (cells3 ts) rfl HCL.out (fun j u hj => by have h := HW.out j u hj; rw [Addr.add_lit] at h ⊢; exact Lib.cell?_alloc_some _ h) HONE.out (by unfold maxLen; omega) (by omega) (by simp) ?_)
  intro v1 w1 hown hgr hnil
  obtain ⟨ob, c1, rfl⟩ : ∃ ob c1, v1 = .slice (some ⟨ob, 0, none⟩) ts.length c1 := by
    have h0 : 0 + ts.length = ts.length := Nat.zero_add _
    rcases hown.2 with ⟨e, h0⟩ | ⟨g, cap, cur, e, _⟩
    · omega
    · exact ⟨g, cap, e⟩
  have HO1 := Lib.hid (show w1.ownsRow w.heap.size 43 3 (.slice (some ⟨ob, 0, none⟩) ts.length c1) ts.length (cells3 ts) from by simpa using hown)
  have HB1 := Lib.hid (show Below w.heap.size w w1 from ((Below.refl _ w).alloc (Nat.le_refl _) _).grown hgr (by simp) (by intro k hk; simp [Value.ownBlock] at hk; omega))
  clear hown hgr hnil HW HONE HCL
  go_wp2_with fail
  go_loopw [12] (fun iv wx => ∃ i : Nat, i ≤ ts.length ∧ iv = .int .i64 i ∧ (ts.take i).all (fun t => slOk t.1 t.2.1 t.2.2) = true ∧ wx.ownsRow w.heap.size 43 3 (.slice (some ⟨ob, 0, none⟩) ts.length c1) ts.length (cells3 ts) ∧ Below w.heap.size w wx) (fun iv _ => ts.length - (intOf iv).toNat)
  case atStart => exact ⟨0, Nat.zero_le _, rfl, rfl, HO1.out, HB1.out⟩
  case round =>
    obtain ⟨i, hi, rfl, hall, hown, hbx⟩ := hrel
    have HO := Lib.hid hown
    have HB := Lib.hid hbx
    have HAL := Lib.hid hall
    clear HO1 HB1 hown hbx hall
    by_cases hlt : i < ts.length
    · have hii : (i : Int) < (ts.length : Int) := by omega
      obtain ⟨b1, o1, e1, hb1, l1, l2, l3⟩ := (HX.out.below HB.out).at_ hlt
      simp only [Option.some.injEq, Addr.mk.injEq, and_true] at e1
      obtain ⟨rfl, rfl⟩ := e1
      have hsn := all_snoc' (fun t : Int × Int × Int => slOk t.1 t.2.1 t.2.2) ts i (0, 0, 0) hlt HAL.out
      have hfl := all_false' (fun t : Int × Int × Int => slOk t.1 t.2.1 t.2.2) ts i (0, 0, 0) hlt
      generalize ts.getD i (0, 0, 0) = v at *
      obtain ⟨v1, v2, v3⟩ := v
      dsimp only at l1 l2 l3 hsn hfl
      have HSN := Lib.hid hsn
      have HFL := Lib.hid hfl
      have HC := Lib.hid (fun w => specSliderOk_any v1 v2 v3 w)
      clear hsn hfl
      cases hq : slOk v1 v2 v3
      · rw [hq] at HC HFL
        have hcf : pullCan ts ls k b = false := by
          unfold pullCan
          rw [HSA.out, HFL.out rfl]
          simp
        clear hq HFL HSN
        go_wp2_with fail
        refine (HC.out _).mono ?_
        rintro e w2 ⟨rfl, rfl⟩
        go_wp2_with fail
        exact HR0.out _ _ _ hcf (HO.out.alloc _) (below_alloc HB.out _)
      · rw [hq] at HC HSN
        clear hq HFL
        go_wp2_with fail
        refine (HC.out _).mono ?_
        rintro e w2 ⟨rfl, rfl⟩
        have HO2 := Lib.hid (HO.out.alloc (.cells #[.int .i64 v1, .int .i64 v2, .int .i64 v3] 43))
        have HB2 := Lib.hid (below_alloc HB.out (.cells #[.int .i64 v1, .int .i64 v2, .int .i64 v3] 43))
        clear l1 l2 l3
        generalize wr.alloc (.cells #[.int .i64 v1, .int .i64 v2, .int .i64 v3] 43) = wy at *
        go_wp2_with fail
        go_roundw
        case rel => exact ⟨i + 1, by omega, by go_num, HSN.out, HO2.out, HB2.out⟩
        case measure => simp [intOf]; omega
    · have hie : i = ts.length := by omega
      have hii : ¬ (i : Int) < (ts.length : Int) := by omega
      rw [hie, List.take_length, ← HSA.out] at HAL
      clear hie
      cases h1 : linksOk (ts.length : Int) ls
      · rw [h1] at HLK
        have hcf : pullCan ts ls k b = false := by unfold pullCan; rw [h1]; rfl
        clear h1
        go_wp2_with fail
        refine (HLK.out _ (TRow.more (HY.out.below HB.out) HB.out.size)).mono ?_
        rintro e w2 ⟨rfl, hb2⟩
        have HO2 := Lib.hid (own_on HO.out hb2)
        have HB2 := Lib.hid (below_thru HB.out hb2)
        clear hb2
        go_wp2_with fail
        exact HR0.out _ _ _ hcf HO2.out HB2.out
      rw [h1] at HLK
      cases h3 : inB k 0 ((ts.length : Int) - 1)
      · rw [h3] at HWK
        have hcf : pullCan ts ls k b = false := by unfold pullCan; rw [h3]; simp
        clear h1 h3
        go_wp2_with fail
        refine (HLK.out _ (TRow.more (HY.out.below HB.out) HB.out.size)).mono ?_
        rintro e w2 ⟨rfl, hb2⟩
        have HO2 := Lib.hid (own_on HO.out hb2)
        have HB2 := Lib.hid (below_thru HB.out hb2)
        clear hb2
        go_wp2_with fail
        refine (HWK.out _).mono ?_
        rintro e w3 ⟨rfl, rfl⟩
        go_wp2_with fail
        exact HR0.out _ _ _ hcf HO2.out HB2.out
      rw [h3] at HWK
      cases h4 : inB b (-100) 100
      · rw [h4] at HWB
        have hcf : pullCan ts ls k b = false := by unfold pullCan; rw [h4]; simp
        clear h1 h3 h4
        go_wp2_with fail
        refine (HLK.out _ (TRow.more (HY.out.below HB.out) HB.out.size)).mono ?_
        rintro e w2 ⟨rfl, hb2⟩
        have HO2 := Lib.hid (own_on HO.out hb2)
        have HB2 := Lib.hid (below_thru HB.out hb2)
        clear hb2
        go_wp2_with fail
        refine (HWK.out _).mono ?_
        rintro e w3 ⟨rfl, rfl⟩
        go_wp2_with fail
        refine (HWB.out _).mono ?_
        rintro e w4 ⟨rfl, rfl⟩
        go_wp2_with fail
        exact HR0.out _ _ _ hcf HO2.out HB2.out
      rw [h4] at HWB
      have hcan : pullCan ts ls k b = true := by unfold pullCan; rw [h1, HAL.out, h3, h4]; rfl
      have HR : Hid (∀ A c w', w'.ownsRow w.heap.size 43 3 (.slice A ts.length c) ts.length (cells3 (pullOut ts ls k.toNat b).1) → Below w.heap.size w w' → POST (.returned (.tuple #[.slice A ts.length c, .bool true])) w') := fun A c w' h5 h6 => HR1.out A c w' hcan h5 h6
      obtain ⟨k, rfl⟩ : ∃ m : Nat, k = (m : Int) := ⟨k.toNat, by have := inB_iff.1 h3; omega⟩
      have hkn : k < ts.length := by have := inB_iff.1 h3; omega
      have hbb := inB_iff.1 h4
      have hLI : ls.length ≤ 12 ∧ LkIn ts.length ls ∧ acyc (edge ls) ts.length = true := by
        have h := h1
        unfold linksOk at h
        simp only [Bool.and_eq_true, decide_eq_true_eq] at h
        exact ⟨h.2.1, LkIn.of h.2.2.1, by have := h.2.2.2; rwa [Int.toNat_natCast] at this⟩
      have hyl := hLI.1
      rw [Int.toNat_natCast] at HR
      unfold pullOut at HR
      have HLI := Lib.hid hLI.2
      clear h1 h3 h4 hLI hcan HR0 HR1
      go_wp2_with fail
      refine (HLK.out _ (TRow.more (HY.out.below HB.out) HB.out.size)).mono ?_
      rintro e w2 ⟨rfl, hb2⟩
      have HO2 := Lib.hid (own_on HO.out hb2)
      have HB2 := Lib.hid (below_thru HB.out hb2)
      clear hb2 HO HB
      go_wp2_with fail
      refine (HWK.out _).mono ?_
      rintro e w3 ⟨rfl, rfl⟩
      go_wp2_with fail
      refine (HWB.out _).mono ?_
      rintro e w4 ⟨rfl, rfl⟩
      go_wp2_with (at_make; refine wpList_make_full _ rfl (.tmp 53) (.tmp 53) 22 rfl w.heap.size 3 j0 (.int .i64 0) 1 Try.underlying22 hj0 jz0 jz1 .i64 .i64 _ _ ts.length rfl rfl rfl rfl (by rw [jz2]; omega) (by unfold maxLen; omega) HB2.out.size ?_)
      intro w5 hown5 hgr5
      have hob := HO2.out.lt ob rfl
      have hown5' : w5.ownsRow w.heap.size 3 1 (.slice (some ⟨w2.heap.size, 0, none⟩) ts.length ts.length) ts.length ((zeros ts.length).map (Value.int .i64)) := by
        rw [made_list'] at hown5
        simpa [zeros] using hown5
      have HQ5 := Lib.hid (show QSt w5 w.heap.size ob ts.length c1 w2.heap.size ts.length (ts, zeros ts.length) from
        ⟨own_of_block HO2.out (hgr5.block ob hob.2 (by simp)), hown5', rfl, zeros_len _, by omega⟩)
      have HB5 := Lib.hid (show Below w.heap.size w w5 from HB2.out.grown hgr5 HB2.out.size (fun k h => absurd h (by simp)))
      have hbo : w.heap.size ≤ ob := hob.1
      have hbm : w.heap.size ≤ w2.heap.size := HB2.out.size
      obtain ⟨b1, o1, e1, hb1, l1, l2, l3⟩ := (HX.out.below HB5.out).at_ hkn
      simp only [Option.some.injEq, Addr.mk.injEq, and_true] at e1
      obtain ⟨rfl, rfl⟩ := e1
      have hok := slAll_at HAL.out hkn
      have HRI := Lib.hid (RdInv.start (ls := ls) HAL.out hkn b)
      have HC := Lib.hid (fun w => specPullSlider_any (ts.getD k (0, 0, 0)).1 (ts.getD k (0, 0, 0)).2.1 (ts.getD k (0, 0, 0)).2.2 b w)
      have hst0 : pull1 (ts, zeros ts.length) k b = (ts.set k ((ts.getD k (0, 0, 0)).1, (ts.getD k (0, 0, 0)).2.1, slPull (ts.getD k (0, 0, 0)).1 (ts.getD k (0, 0, 0)).2.1 (ts.getD k (0, 0, 0)).2.2 b), (zeros ts.length).set k (slPull (ts.getD k (0, 0, 0)).1 (ts.getD k (0, 0, 0)).2.1 (ts.getD k (0, 0, 0)).2.2 b - (ts.getD k (0, 0, 0)).2.2)) := by
        unfold pull1
        dsimp only
        rw [zeros_at, Int.zero_add]
      have hso := slOk_bounds (slPull_ok (b := b) hok)
      have hso2 := slOk_bounds hok
      generalize slPull (ts.getD k (0, 0, 0)).1 (ts.getD k (0, 0, 0)).2.1 (ts.getD k (0, 0, 0)).2.2 b = pn at *
      generalize hv : ts.getD k (0, 0, 0) = v at *
      obtain ⟨lo, hi', now⟩ := v
      dsimp only at *
      have HV := Lib.hid hv
      have HST0 := Lib.hid hst0
      generalize pull1 (ts, zeros ts.length) k b = st0 at *
      have hki : (k : Int) < (ts.length : Int) := by omega
      obtain ⟨c0, c1', c2, c3⟩ := HQ5.out.at_ hkn
      have f0 := HQ5.out.o.frozenAt (k * 3)
      have f1 := HQ5.out.o.frozenAt (k * 3 + 1)
      have f2 := HQ5.out.o.frozenAt (k * 3 + 2)
      clear hst0 hok hv hown5 hown5' hgr5 HO2 HB2 hob
      go_wp2_with fail
      refine (HC.out _).mono ?_
      rintro e w6 ⟨rfl, hb6⟩
      have HQ6 := Lib.hid (HQ5.out.on hb6)
      have HB6 := Lib.hid (below_thru HB5.out hb6)
      have k0 := cell_on hb6 c0
      have k1 := cell_on hb6 c1'
      have k2 := cell_on hb6 c2
      have g0 := HQ6.out.o.frozenAt (k * 3)
      have g1 := HQ6.out.o.frozenAt (k * 3 + 1)
      have g2 := HQ6.out.o.frozenAt (k * 3 + 2)
      have HP7 := Lib.hid (HQ6.out.put3 hkn lo hi' pn)
      have HB7 := Lib.hid (((HB6.out.setCell (p := ⟨ob, k * 3, none⟩) hbo (.int .i64 lo)).setCell (p := ⟨ob, k * 3 + 1, none⟩) hbo (.int .i64 hi')).setCell (p := ⟨ob, k * 3 + 2, none⟩) hbo (.int .i64 pn))
      clear HQ5 HB5 HC c0 c1' c2 c3 f0 f1 f2 l1 l2 l3 hb6 HB6 HQ6
      go_upto_region 12 with (fail)
      generalize ((w6.setCell ⟨ob, k * 3, none⟩ (.int .i64 lo)).setCell ⟨ob, k * 3 + 1, none⟩ (.int .i64 hi')).setCell ⟨ob, k * 3 + 2, none⟩ (.int .i64 pn) = wy at *
      clear k0 k1 k2 g0 g1 g2
      obtain ⟨b2, o2, e2, hb2, m1, m2, m3⟩ := (HX.out.below HB7.out).at_ hkn
      simp only [Option.some.injEq, Addr.mk.injEq, and_true] at e2
      obtain ⟨rfl, rfl⟩ := e2
      rw [HV.out] at m1 m2 m3
      have q := HP7.out.at_ hkn
      rw [getD_set_eq _ _ _ _ hkn] at q
      obtain ⟨q0, q1, q2, q3⟩ := q
      dsimp only at q0 q1 q2 q3 m1 m2 m3
      rw [zeros_at] at q3
      have g3 := HP7.out.i.frozenAt k
      have HQ8 := Lib.hid ((HP7.out.putI k (pn - now)).drew)
      have HB8 := Lib.hid ((HB7.out.setCell (p := ⟨w2.heap.size, k, none⟩) hbm (.int .i64 (pn - now))).drew)
      dsimp only at HQ8
      rw [← HST0.out] at HQ8
      clear HST0 HV HP7 HB7
      go_wp2_with fail
      go_region
      generalize (wy.setCell ⟨w2.heap.size, k, none⟩ (.int .i64 (pn - now))).drew = w8 at *
      clear q0 q1 q2 q3 m1 m2 m3 g3
      generalize w2.heap.size = mb0 at *
      go_wp2_with fail
      go_loopw [13, 14] (fun mv rv wx => ∃ (r mb ci : Nat), r ≤ ts.length + 1 ∧ rv = .int .i64 r ∧ mv = .slice (some ⟨mb, 0, none⟩) ts.length ci ∧ w.heap.size ≤ mb ∧ QSt wx w.heap.size ob ts.length c1 mb ci (roundsN ls st0 r) ∧ Below w.heap.size w wx) (fun _ rv _ => ts.length + 1 - (intOf rv).toNat)
      case atStart => exact ⟨0, _, _, by omega, rfl, rfl, hbm, HQ8.out, HB8.out⟩
      case round =>
        obtain ⟨r, mb, ci, hr, rfl, rfl, hmb, hqr, hbr⟩ := hrel
        have HQR := Lib.hid hqr
        have HBR := Lib.hid hbr
        clear HQ8 HB8 hqr hbr
        by_cases hrn : r ≤ ts.length
        · have hri : (r : Int) ≤ (ts.length : Int) := by omega
          have HRr := Lib.hid (HRI.out.rounds HLI.out.1 HLI.out.2 r)
          go_wp2_with (at_make; refine wpList_make_full _ rfl (.tmp 83) (.tmp 83) 22 rfl w.heap.size 3 j0 (.int .i64 0) 1 Try.underlying22 hj0 jz0 jz1 .i64 .i64 _ _ ts.length rfl rfl rfl rfl (by rw [jz2]; omega) (by unfold maxLen; omega) HBR.out.size ?_)
          intro w7 hown7 hgr7
          have hib := HQR.out.i.lt mb rfl
          have hob := HQR.out.o.lt ob rfl
          have hio : mb ≠ ob := fun e => HQR.out.ne e.symm
          have hnx : roundsN ls st0 (r + 1) = round1 ls (roundsN ls st0 r) := rfl
          have hl1 := HQR.out.l1
          have hsa := HRr.out.all
          have hown7' : w7.ownsRow w.heap.size 3 1 (.slice (some ⟨wr.heap.size, 0, none⟩) ts.length ts.length) ts.length ((zeros (roundsN ls st0 r).1.length).map (Value.int .i64)) := by
            rw [made_list'] at hown7
            rw [hl1]
            simpa [zeros] using hown7
          have HP7 := Lib.hid (show QSt w7 w.heap.size ob ts.length c1 wr.heap.size ts.length ((roundsN ls st0 r).1, zeros (roundsN ls st0 r).1.length) from
            ⟨own_of_block HQR.out.o (hgr7.block ob hob.2 (by simp)), hown7', hl1, by rw [zeros_len]; exact hl1, by omega⟩)
          have HM7 := Lib.hid (own_of_block HQR.out.i (hgr7.block mb hib.2 (by simp)))
          have HB7 := Lib.hid (show Below w.heap.size w w7 from HBR.out.grown hgr7 HBR.out.size (fun k h => absurd h (by simp)))
          have HSI := Lib.hid (SlInv.start hsa)
          have hshort := HRr.out.short
          have hLK := HLI.out.1
          rw [← hl1] at hLK
          have HSH := Lib.hid hshort
          have HNX := Lib.hid hnx
          have HLK2 := Lib.hid hLK
          have HL1 := Lib.hid hl1
          have HSA2 := Lib.hid hsa
          have hbn : w.heap.size ≤ wr.heap.size := HBR.out.size
          have hin : mb ≠ wr.heap.size := by omega
          have hon : ob ≠ wr.heap.size := by omega
          clear hown7 hown7' hgr7 hib hob hnx hl1 hsa hshort hLK HQR HBR HRr
          generalize roundsN ls st0 r = sr at *
          generalize wr.heap.size = nb at *
          go_wp2_with fail
          go_loopw [16] (fun pv wx => ∃ p : Nat, p ≤ ls.length ∧ pv = .int .i64 p ∧ QSt wx w.heap.size ob ts.length c1 nb ts.length ((ls.take p).foldl (linkPull sr.2) (sr.1, zeros sr.1.length)) ∧ SlInv sr.1 ((ls.take p).foldl (linkPull sr.2) (sr.1, zeros sr.1.length)) ∧ wx.ownsRow w.heap.size 3 1 (.slice (some ⟨mb, 0, none⟩) ts.length ci) ts.length (sr.2.map (Value.int .i64)) ∧ Below w.heap.size w wx) (fun pv _ => ls.length - (intOf pv).toNat)
          case atStart => exact ⟨0, Nat.zero_le _, rfl, HP7.out, HSI.out, HM7.out, HB7.out⟩
          case round =>
            obtain ⟨p, hp, rfl, hps, hsi, hmo, hbx⟩ := hrel
            have HPS := Lib.hid hps
            have HSV := Lib.hid hsi
            have HMO := Lib.hid hmo
            have HBX := Lib.hid hbx
            clear HP7 HSI HM7 HB7 hps hsi hmo hbx
            by_cases hlt : p < ls.length
            · have hpi : (p : Int) < (ls.length : Int) := by omega
              obtain ⟨bB, oB, rfl, hbB, l1, l2, l3⟩ := (HY.out.below HBX.out).at_ hlt
              have hlk := HLK2.out (ls.getD p (0, 0, 0)) (by simp [List.getD, hlt])
              have hst : (ls.take (p + 1)).foldl (linkPull sr.2) (sr.1, zeros sr.1.length) = linkPull sr.2 ((ls.take p).foldl (linkPull sr.2) (sr.1, zeros sr.1.length)) (ls.getD p (0, 0, 0)) := by
                rw [take_snoc_getD ls p (0, 0, 0) hlt, List.foldl_append]
                rfl
              rw [HL1.out] at hlk
              have HST := Lib.hid hst
              clear hst
              generalize (ls.take p).foldl (linkPull sr.2) (sr.1, zeros sr.1.length) = st at *
              generalize ls.getD p (0, 0, 0) = v at *
              obtain ⟨v1, v2, v3⟩ := v
              dsimp only at hlk l1 l2 l3
              obtain ⟨a, rfl⟩ : ∃ m : Nat, v1 = (m : Int) := ⟨v1.toNat, by omega⟩
              obtain ⟨z, rfl⟩ : ∃ m : Nat, v2 = (m : Int) := ⟨v2.toNat, by omega⟩
              have ha : a < ts.length := by omega
              have hz : z < ts.length := by omega
              have hsl := HL1.out
              have hok := HSV.out.ok z (by omega)
              have hsh := HSV.out.short HSA2.out (i := z) (by omega)
              have HSV2 := Lib.hid (HSV.out.pull (i := z) (by omega) (v3 * sr.2.getD a 0))
              obtain ⟨q, hq⟩ : ∃ q, v3 * sr.2.getD a 0 = q := ⟨_, rfl⟩
              have hmc := ((HMO.out.alloc (.cells #[.int .i64 (a : Int), .int .i64 (z : Int), .int .i64 v3] 45)).cellAt a (by omega))
              have hml : a < sr.2.length := by have := HMO.out.1; simp at this; omega
              rw [show (sr.2.map (Value.int .i64))[a]? = some (.int .i64 (sr.2.getD a 0)) from by simp [List.getD, hml]] at hmc
              have hms := HSH.out a ha
              have hqb : -200 ≤ q ∧ q ≤ 200 := by
                rw [← hq]
                rcases hlk.2.2.2.2 with e | e <;> rw [e] <;> omega
              have HE : Hid (linkPull sr.2 st ((a : Int), (z : Int), v3) = pull1 st z q) := by
                show pull1 st (z : Int).toNat (v3 * sr.2.getD (a : Int).toNat 0) = _
                rw [Int.toNat_natCast, Int.toNat_natCast, hq]
              have HE0 : Hid (sr.2.getD a 0 = 0 → pull1 st z q = st) := fun h0 => by
                rw [← hq, h0, Int.mul_zero]
                exact pull1_zero st z (by rw [HPS.out.l1]; exact hz) (by rw [HPS.out.l2]; exact hz)
              rw [hq] at HSV2
              generalize sr.2.getD a 0 = mval at *
              have hzi : (z : Int) < (ts.length : Int) := by omega
              have hai : (a : Int) < (ts.length : Int) := by omega
              have HPA := Lib.hid (HPS.out.on (below_alloc (Below.refl wr.heap.size wr) (.cells #[.int .i64 (a : Int), .int .i64 (z : Int), .int .i64 v3] 45)))
              have cl0 : (wr.alloc (.cells #[.int .i64 (a : Int), .int .i64 (z : Int), .int .i64 v3] 45)).cell? ⟨wr.heap.size, 0, none⟩ = some (.int .i64 (a : Int)) := by go_simp
              have cl1 : (wr.alloc (.cells #[.int .i64 (a : Int), .int .i64 (z : Int), .int .i64 v3] 45)).cell? ⟨wr.heap.size, 1, none⟩ = some (.int .i64 (z : Int)) := by go_simp
              have cl2 : (wr.alloc (.cells #[.int .i64 (a : Int), .int .i64 (z : Int), .int .i64 v3] 45)).cell? ⟨wr.heap.size, 2, none⟩ = some (.int .i64 v3) := by go_simp
              have HMA := Lib.hid (HMO.out.alloc (.cells #[.int .i64 (a : Int), .int .i64 (z : Int), .int .i64 v3] 45))
              have HBA := Lib.hid (below_alloc HBX.out (.cells #[.int .i64 (a : Int), .int .i64 (z : Int), .int .i64 v3] 45))
              have hol : ob < wr.heap.size := (HPS.out.o.lt ob rfl).2
              clear HPS HSV HMO HBX
              by_cases hm0 : mval = 0
              · have HE1 := Lib.hid (HE0.out hm0)
                have hb0 : (mval == 0) = true := by simp [hm0]
                clear HE0 hq hqb hms hok hsh hlk hsl hml
                subst hm0
                go_upto_region 21 with (fail)
                generalize wr.heap.size = lb at *
                generalize wr.alloc (.cells #[.int .i64 (a : Int), .int .i64 (z : Int), .int .i64 v3] 45) = wa at *
                go_wp2_with fail
                exact ⟨⟨p + 1, by omega, by go_num, by rw [HST.out, HE.out, HE1.out]; exact HPA.out, by rw [HST.out, HE.out]; exact HSV2.out, HMA.out, HBA.out⟩, by simp [intOf]; omega⟩
              · have hb0 : (mval == 0) = false := by simp [hm0]
                obtain ⟨c0, c1', c2, c3⟩ := HPA.out.at_ hz
                have HC := Lib.hid (fun w => specPullSlider_any (st.1.getD z (0, 0, 0)).1 (st.1.getD z (0, 0, 0)).2.1 (st.1.getD z (0, 0, 0)).2.2 q w)
                have hso3 := slOk_bounds (slPull_ok (b := q) hok)
                have hso4 := slOk_bounds hok
                have HOUT : Hid (∀ w', QSt w' w.heap.size ob ts.length c1 nb ts.length (st.1.set z ((st.1.getD z (0, 0, 0)).1, (st.1.getD z (0, 0, 0)).2.1, slPull (st.1.getD z (0, 0, 0)).1 (st.1.getD z (0, 0, 0)).2.1 (st.1.getD z (0, 0, 0)).2.2 q), st.2.set z (st.2.getD z 0 + (slPull (st.1.getD z (0, 0, 0)).1 (st.1.getD z (0, 0, 0)).2.1 (st.1.getD z (0, 0, 0)).2.2 q - (st.1.getD z (0, 0, 0)).2.2))) → QSt w' w.heap.size ob ts.length c1 nb ts.length (pull1 st z q)) := Lib.hid (fun w' h => h)
                have HL9 := Lib.hid HPA.out.l1
                generalize slPull (st.1.getD z (0, 0, 0)).1 (st.1.getD z (0, 0, 0)).2.1 (st.1.getD z (0, 0, 0)).2.2 q = pn2 at *
                generalize st.1.getD z (0, 0, 0) = tt at *
                obtain ⟨lo2, hi2, now2⟩ := tt
                dsimp only at *
                generalize hnz : st.2.getD z 0 = nz at *
                have HNZ := Lib.hid hnz
                clear hnz HE0 hlk hsl hml hm0 hok
                go_upto_region 21 with (fail)
                generalize hlbs : wr.heap.size = lb at *
                have hlb : lb < (wr.alloc (.cells #[.int .i64 (a : Int), .int .i64 (z : Int), .int .i64 v3] 45)).heap.size := by simp; omega
                generalize wr.alloc (.cells #[.int .i64 (a : Int), .int .i64 (z : Int), .int .i64 v3] 45) = wa at *
                clear hlbs
                have hoa : ob < wa.heap.size := by omega
                have f0 := HPA.out.o.frozenAt (z * 3)
                have f1 := HPA.out.o.frozenAt (z * 3 + 1)
                have f2 := HPA.out.o.frozenAt (z * 3 + 2)
                go_upto_region 23 with (fail)
                have hlo : ob ≠ lb := by omega
                have hmo2 : ob ≠ mb := fun e => hio e.symm
                have hqw : IntKind.i64.wrap q = q := by rw [IntKind.wrap_i64]; omega
                have HSO := Lib.hid (show (-100 ≤ pn2 ∧ pn2 ≤ 100) ∧ (-100 ≤ now2 ∧ now2 ≤ 100) ∧ (-200 ≤ nz ∧ nz ≤ 200) from ⟨by omega, by omega, by omega⟩)
                clear hso3 hso4 hsh
                have e0 := InW.cell hoa c0
                have e1 := InW.cell hoa c1'
                have e2 := InW.cell hoa c2
                have d0 := InW.cell hlb cl0
                have d1 := InW.cell hlb cl1
                have d2 := InW.cell hlb cl2
                have dm := InW.cell (World.block_lt_of_cell? wa ⟨mb, a, none⟩ hmc) hmc
                refine wp_region_in_last 18 _ (by kernel_rfl) rfl rfl rfl rfl rfl (by kernel_rfl) (by kernel_rfl) (by kernel_rfl) ?_
                simp only [List.set_cons_succ, List.set_cons_zero, idle, List.getElem_toArray, List.getElem_cons_succ, List.getElem_cons_zero]
                repeat (go_big_quiet_step ((go_at_call 53; refine (HC.out _).mono ?_; rintro e w' ⟨rfl, hb⟩; exact ⟨rfl, ⟨_, below_thru (InW.on _) hb⟩, rfl⟩)))
                refine wpQuiet_nil ?_
                intro w9 hw2_
                obtain ⟨⟨w2_, hb9⟩, rfl⟩ := hw2_
                try dsimp only
                have k0 := cell_on hb9 c0
                have k1 := cell_on hb9 c1'
                have k2 := cell_on hb9 c2
                have j1 := cell_on hb9 cl1
                have g0 := (hb9.frozen (p := ⟨ob, z * 3, none⟩) hoa).trans f0
                have g1 := (hb9.frozen (p := ⟨ob, z * 3 + 1, none⟩) hoa).trans f1
                have g2 := (hb9.frozen (p := ⟨ob, z * 3 + 2, none⟩) hoa).trans f2
                clear e0 e1 e2 d0 d1 d2 dm
                go_upto_region 24 with (fail)
                have HP9 := Lib.hid ((HPA.out.on hb9).put3 hz lo2 hi2 pn2)
                have HB9 := Lib.hid ((((below_thru HBA.out hb9).setCell (p := ⟨ob, z * 3, none⟩) hbo (.int .i64 lo2)).setCell (p := ⟨ob, z * 3 + 1, none⟩) hbo (.int .i64 hi2)).setCell (p := ⟨ob, z * 3 + 2, none⟩) hbo (.int .i64 pn2))
                have HM9 := Lib.hid (own_far (own_far (own_far (own_on HMA.out hb9) (p := ⟨ob, z * 3, none⟩) hio (.int .i64 lo2)) (p := ⟨ob, z * 3 + 1, none⟩) hio (.int .i64 hi2)) (p := ⟨ob, z * 3 + 2, none⟩) hio (.int .i64 pn2))
                have m1 := cell_far (p := ⟨ob, z * 3 + 2, none⟩) (cell_far (p := ⟨ob, z * 3 + 1, none⟩) (cell_far (p := ⟨ob, z * 3, none⟩) j1 (fun e => hlo e.symm) (.int .i64 lo2)) (fun e => hlo e.symm) (.int .i64 hi2)) (fun e => hlo e.symm) (.int .i64 pn2)
                generalize ((w9.setCell ⟨ob, z * 3, none⟩ (.int .i64 lo2)).setCell ⟨ob, z * 3 + 1, none⟩ (.int .i64 hi2)).setCell ⟨ob, z * 3 + 2, none⟩ (.int .i64 pn2) = wy at *
                clear k0 k1 k2 j1 g0 g1 g2 f0 f1 f2 c0 c1' c2 c3 cl0 cl1 cl2 hmc hb9 HPA HBA HMA hqw
                have q9 := HP9.out.at_ hz
                rw [getD_set_eq _ _ _ _ (by rw [HL9.out]; exact hz)] at q9
                obtain ⟨_, _, c2, c3⟩ := q9
                dsimp only at c2 c3
                rw [HNZ.out] at c3
                have fi := HP9.out.i.frozenAt z
                obtain ⟨T, hT⟩ : ∃ T, nz + (pn2 - now2) = T := ⟨_, rfl⟩
                rw [hT] at HOUT
                have hval : nz + pn2 - now2 = T := by omega
                have HQF := Lib.hid (HOUT.out _ ((HP9.out.putI z T).drew))
                have HBF := Lib.hid ((HB9.out.setCell (p := ⟨nb, z, none⟩) hbn (.int .i64 T)).drew)
                have HMF := Lib.hid (show ((wy.setCell ⟨nb, z, none⟩ (.int .i64 T)).drew).ownsRow w.heap.size 3 1 (.slice (some ⟨mb, 0, none⟩) ts.length ci) ts.length (sr.2.map (Value.int .i64)) from own_far HM9.out (p := ⟨nb, z, none⟩) hin (.int .i64 T))
                have hsb := HSO.out
                clear hT HP9 HB9 HM9 HOUT
                go_wp2_with fail
                go_region
                generalize (wy.setCell ⟨nb, z, none⟩ (.int .i64 T)).drew = wz at *
                clear c2 c3 fi m1 hval hsb
                go_wp2_with fail
                go_roundw
                case rel => exact ⟨p + 1, by omega, by go_num, by rw [HST.out, HE.out]; exact HQF.out, by rw [HST.out, HE.out]; exact HSV2.out, HMF.out, HBF.out⟩
                case measure => simp [intOf]; omega
            · have hpe : p = ls.length := by omega
              have hpi : ¬ (p : Int) < (ls.length : Int) := by omega
              rw [hpe, List.take_length] at HPS HSV
              clear hpe
              go_wp2_with fail
              go_roundw
              case rel => exact ⟨r + 1, nb, _, by omega, by go_num, rfl, hbn, by rw [HNX.out]; exact HPS.out, HBX.out⟩
              case measure => simp [intOf]; omega
        · have hre : r = ts.length + 1 := by omega
          have hri : ¬ (r : Int) ≤ (ts.length : Int) := by omega
          rw [hre] at HQR
          clear hre
          go_wp2_with fail
          exact HR.out _ _ _ HQR.out.o HBR.out

end Go.Proofs.Ytodocfanaplmpaa
