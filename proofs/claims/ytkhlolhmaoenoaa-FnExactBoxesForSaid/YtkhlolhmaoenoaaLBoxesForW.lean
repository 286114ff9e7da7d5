
/-
  The walk of the law FnExactBoxesFor; no condition beyond the size of the texts.
-/
import Derived.Test.YtkhlolhmaoenoaaBoxes
import Derived.Test.YtkhlolhmaoenoaaCardIn
import Derived.Deep.RegionHeld3
import Derived.Deep.Cut
namespace Go.Proofs.Ytkhlolhmaoenoaa
open Go.ChangeShapes Go.WideShapes Go.ChangeAt Go.RowKit Go.Deep Go.BigFrame
set_option linter.unusedVariables false
set_option linter.unusedSimpArgs false

theorem boxesFor_small (d f : Int) (ss : List ByteArray) : (boxesFor d f ss).length ≤ 3000 := by
  unfold boxesFor
  by_cases h : cardOk d f ss = true
  · rw [if_pos h]
    have a := boxesP_len (waysOf d f ss) 300 (boxes_facts d f ss) ss.length
    have b := (cardOk_parts h).2.2.1
    omega
  · rw [if_neg h]
    exact Nat.zero_le _

set_option maxHeartbeats 2000000 in
set_option maxRecDepth 100000 in
theorem fnExactBoxesFor_walk (d f : Int) (A : Option Addr) (c : Nat) (ss : List ByteArray) (w : World) (hx : SRow w w.heap.size A ss) (hmx : ∀ s ∈ ss, s.size ≤ maxLen)
    (bd : -9223372036854775808 ≤ d ∧ d ≤ 9223372036854775807) (bf : -9223372036854775808 ≤ f ∧ f ≤ 9223372036854775807) :
    Calls Try.prog 7 #[.agg #[.int .i64 d, .int .i64 f, .slice A ss.length c]] w fun e w' => e = .returned (.bool true) ∧ Below w.heap.size w w' := by
  have hrr := szAll_cases ss 1048576 (by decide)
  have hsm' := szAll_small (ss := ss)
  have HZ := Lib.hid (fun w hx => szCard_any d f A c ss 1048576 w hx hmx (by decide) (by decide))
  have HA0 := Lib.hid (show CardAt w (w.alloc (.cells #[.int .i64 d, .int .i64 f, .slice A ss.length c] 24)) d f A c ss from ⟨by go_simp, by go_simp, by go_simp, hx.alloc (Nat.le_refl _) _, (Below.refl _ _).alloc (Nat.le_refl _) _, by simp⟩)
  have hTl := boxesFor_small d f ss
  generalize szAll 1048576 ss = r at *
  by_cases hlen : 0 ≤ r
  case neg =>
    obtain rfl : r = -1 := by omega
    clear hsm' hmx hx
    go_enter Try.func7, Try.ntmps7
    go_wp2_with fail
    refine (HZ.out _ HA0.out.full).mono ?_
    rintro e w1 ⟨rfl, hb1⟩
    go_wp2_with fail
    go_ret
    exact ⟨rfl, below_thru HA0.out.below hb1⟩
  obtain ⟨hl2, hsm⟩ := hsm' hlen
  have hsz : ∀ s ∈ ss, s.size ≤ 4294967296 := fun s h => Nat.le_trans (hsm s h) (by decide)
  have HSP := Lib.hid (fun A c (u : World) hx => specBoxesFor_any d f A c ss u hx hsz)
  have HIM := Lib.hid (fun A c (u : World) hx => implBoxesFor_any d f A c ss u hx hsz)
  have HTC := Lib.hid (fun (u : World) hx => toCard_any d f A c ss u hx hl2)
  generalize boxesFor d f ss = T at *
  generalize cardOk d f ss = bb at *
  have hbb : (bb != bb) = false := by simp
  clear hsm' hsm hsz hmx hx
  go_enter Try.func7, Try.ntmps7
  go_wp2_with fail
  refine (HZ.out _ HA0.out.full).mono ?_
  rintro e w1 ⟨rfl, hb1⟩
  have HA1 := Lib.hid (HA0.out.on hb1)
  obtain ⟨p0, p1, p2, prow, pb, plt⟩ := HA1.out
  clear hb1 HA0 prow pb
  go_wp2_with fail
  refine (HTC.out _ HA1.out.full).mono ?_
  rintro e w2 ⟨A2, c2, rfl, o2, b2⟩
  have HA2 := Lib.hid (HA1.out.on b2)
  have R2 := Lib.hid (SRow.of_own o2)
  clear o2 b2 HA1 p0 p1 p2 plt
  go_wp2_with fail
  refine (HSP.out _ _ _ R2.out).mono ?_
  rintro e w3 ⟨A3, c3, rfl, o3, b3⟩
  have HA3 := Lib.hid (HA2.out.on b3)
  have L3 := Lib.hid (TRow.of_own o3)
  have s3 : w.heap.size < w3.heap.size := HA3.out.lt
  clear o3 b3 R2 HA2 HSP
  obtain ⟨p0, p1, p2, prow, pb, plt⟩ := HA3.out
  clear prow pb
  go_wp2_with fail
  refine (HTC.out _ HA3.out.full).mono ?_
  rintro e w4 ⟨A4, c4, rfl, o4, b4⟩
  have s4 : w3.heap.size ≤ w4.heap.size := b4.size
  have HX5 := Lib.hid (CardIn.start (d := d) (f := f) o4)
  have HA5 := Lib.hid ((HA3.out.on b4).on (below_alloc (Below.refl _ _) (.cells #[.int .i64 d, .int .i64 f, .slice A4 ss.length c4] 26)))
  have L5 := Lib.hid (TRow.below L3.out (below_alloc b4 (.cells #[.int .i64 d, .int .i64 f, .slice A4 ss.length c4] 26)))
  have s5 : w4.heap.size < (w4.alloc (.cells #[.int .i64 d, .int .i64 f, .slice A4 ss.length c4] 26)).heap.size := by simp
  clear o4 b4 HA3 L3 p0 p1 p2 plt
  go_upto_region 7 with (fail)
  generalize w4.alloc (.cells #[.int .i64 d, .int .i64 f, .slice A4 ss.length c4] 26) = w5 at *
  obtain ⟨q0, q1, q2, qown, qup⟩ := HX5.out
  clear qown qup
  go_wp2_with fail
  refine (HIM.out _ _ _ HX5.out.row).mono ?_
  rintro e w6 ⟨A6, c6, rfl, o6, b6⟩
  have s6 : w5.heap.size ≤ w6.heap.size := b6.size
  have HA6 := Lib.hid (HA5.out.on b6)
  have HX6 := Lib.hid (HX5.out.on b6)
  have L6 := Lib.hid (TRow.below L5.out (b6.mono (by omega)))
  have G6 := Lib.hid o6
  clear o6 b6 HA5 HX5 L5 q0 q1 q2
  go_wp2_with fail
  refine (eqBoxS_any A6 A3 c6 c3 T T w6 (TRow.of_own G6.out) (TRow.more L6.out (by omega))).mono ?_
  rw [decide_eq_true rfl]
  rintro e w7 ⟨rfl, b7⟩
  have s7 := b7.size
  have HA7 := Lib.hid (HA6.out.on b7)
  have HX7 := Lib.hid (HX6.out.on b7)
  have L7 := Lib.hid (TRow.below L6.out (b7.mono (by omega)))
  have G7 := Lib.hid (own_on G6.out b7)
  clear b7 HA6 HX6 L6 G6
  obtain ⟨p0, p1, p2, prow, pb, plt⟩ := HA7.out
  obtain ⟨q0, q1, q2, qown, qup⟩ := HX7.out
  have HXF := Lib.hid (show SRow w7 w7.heap.size A ss from HA7.out.full)
  have HYF := Lib.hid (show SRow w7 w7.heap.size A4 ss from HX7.out.row)
  clear prow pb qown qup
  go_wp2_with fail
  go_region_held3 (fun w' => w'.cell? ⟨w.heap.size, 0, none⟩ = some (.int .i64 d) ∧ w'.cell? ⟨w.heap.size, 1, none⟩ = some (.int .i64 f) ∧ w'.cell? ⟨w.heap.size, 2, none⟩ = some (.slice A ss.length c) ∧ w'.cell? ⟨w4.heap.size, 0, none⟩ = some (.int .i64 d) ∧ w'.cell? ⟨w4.heap.size, 1, none⟩ = some (.int .i64 f) ∧ w'.cell? ⟨w4.heap.size, 2, none⟩ = some (.slice A4 ss.length c4))
    (first | go_keep | (go_split_ands; refine ⟨?_, ?_, ?_, ?_, ?_, ?_⟩ <;> (refine cell_on hb6 ?_; assumption)) | (go_split_ands; refine ⟨?_, ?_, ?_, ?_, ?_, ?_⟩ <;> (refine cell_on hb7 ?_; assumption)))
    ((first
      | (go_at_call 14; refine (HTC.out _ (HXF.out.drew)).mono ?_; rintro e w8 ⟨A8, c8, rfl, hown6, hb6⟩; have hr6 := Lib.hid (SRow.of_own hown6); clear hown6)
      | (go_at_call 16; refine (eqCard_any _ _ _ _ _ _ _ _ _ _ _ (SRow.on (w := w7.drew) HYF.out hb6) hr6.out).mono ?_; rw [decide_eq_true rfl]; rintro e w9 ⟨rfl, hb7⟩)))
  have b9 : Below w7.heap.size w7 w9 := below_thru (below_undrew8 hb6) hb7
  have s9 := b9.size
  have HA9 := Lib.hid (HA7.out.on b9)
  have HX9 := Lib.hid (HX7.out.on b9)
  have L9 := Lib.hid (TRow.below L7.out (b9.mono (by omega)))
  have G9 := Lib.hid (own_on G7.out b9)
  clear b9 hb6 hb7 hr6 p0 p1 p2 plt q0 q1 q2 HXF HYF HA7 HX7 L7 G7
  obtain ⟨q0, q1, q2, qown, qup⟩ := HX9.out
  clear qown qup
  go_wp2_with fail
  refine (markCard_any d f A4 c4 1 ss.length w3.heap.size _ w9 HX9.out.own (by decide) (by decide) hl2).mono ?_
  rintro e w10 ⟨rfl, o10, g10⟩
  have hA4 : ∀ g, (Value.slice A4 ss.length c4).ownBlock = some g → w3.heap.size ≤ g ∧ g < w4.heap.size := HX9.out.up
  have s10 := g10.size
  have HA10 := Lib.hid (HA9.out.grownS g10 (fun g hg => by have := hA4 g hg; omega))
  have L10 := Lib.hid (TRow.grown L9.out g10 (by omega) (fun g hg => (hA4 g hg).1))
  have G10 := Lib.hid (G9.out.kept g10 (by
    cases hv : (Value.slice A6 T.length c6).ownBlock with
    | none => exact .inl rfl
    | some g => exact .inr (fun e => by have a := hA4 g e.symm; have b := (G9.out.lt g hv).1; omega)))
  clear o10 g10 HA9 HX9 L9 G9 q0 q1 q2 hA4
  have hnk : ¬ (((1 + ss.length : Nat) : Int) < 0) := by omega
  go_wp2_with fail
  refine (eqBoxS_any A6 A3 c6 c3 T T w10 (TRow.of_own G10.out) (TRow.more L10.out (by omega))).mono ?_
  rw [decide_eq_true rfl]
  rintro e w11 ⟨rfl, b11⟩
  have s11 := b11.size
  have HA11 := Lib.hid (HA10.out.on b11)
  have L11 := Lib.hid (TRow.below L10.out (b11.mono (by omega)))
  have G11 := Lib.hid (own_on G10.out b11)
  clear b11 HA10 L10 G10
  go_wp2_with fail
  refine (markBoxS_any A6 c6 1 T.length w5.heap.size _ w11 G11.out (by decide) (by omega)).mono ?_
  rintro e w12 ⟨rfl, o12, g12⟩
  have hA6 : ∀ g, (Value.slice A6 T.length c6).ownBlock = some g → w5.heap.size ≤ g := fun g hg => (G11.out.lt g hg).1
  have s12 := g12.size
  have HA12 := Lib.hid (HA11.out.grownS g12 (fun g hg => by have := hA6 g hg; omega))
  have L12 := Lib.hid (TRow.grown L11.out g12 (by omega) (fun g hg => by have := hA6 g hg; omega))
  have HMR := Lib.hid (fun (u : World) (h : u.ownsRow w5.heap.size 72 3 (.slice A6 T.length c6) T.length ((marks 1 (T.length * 3)).map (Value.int .i64))) => show Row u u.heap.size 3 A6 T.length ((marks 1 (T.length * 3)).map (Value.int .i64)) from by
    obtain ⟨A', c', e', hr⟩ := Row.of_own h
    obtain ⟨rfl, rfl⟩ : A6 = A' ∧ c6 = c' := by simpa using e'
    exact hr)
  have G12 := Lib.hid o12
  clear o12 g12 HA11 L11 G11 hA6
  go_wp2_with fail
  refine (heldBoxS_any A6 c6 1 T.length w12 (HMR.out _ G12.out) (by decide) (by omega)).mono ?_
  rintro e w13 ⟨rfl, q13, hw13⟩
  have b13 : Below w12.heap.size w12 w13 := by rw [hw13]; exact below_drewN (Below.refl _ _) _
  have s13 := b13.size
  have HA13 := Lib.hid (HA12.out.on b13)
  have L13 := Lib.hid (TRow.below L12.out (b13.mono (by omega)))
  have G13 := Lib.hid (own_on G12.out b13)
  clear b13 hw13 HA12 L12 G12
  have hnq : ¬ (((1 + T.length * 3 : Nat) : Int) < 0) := by omega
  obtain ⟨p0, p1, p2, prow, pb, plt⟩ := HA13.out
  clear prow pb
  go_wp2_with fail
  refine (HTC.out _ HA13.out.full).mono ?_
  rintro e w14 ⟨A14, c14, rfl, o14, b14⟩
  have s14 := b14.size
  have HA14 := Lib.hid (HA13.out.on b14)
  have L14 := Lib.hid (TRow.below L13.out (b14.mono (by omega)))
  have G14 := Lib.hid (own_on G13.out b14)
  have R14 := Lib.hid (SRow.of_own o14)
  clear o14 b14 HA13 L13 G13 p0 p1 p2 plt
  go_wp2_with fail
  refine (HIM.out _ _ _ R14.out).mono ?_
  rintro e w15 ⟨A15, c15, rfl, o15, b15⟩
  have s15 := b15.size
  have HA15 := Lib.hid (HA14.out.on b15)
  have L15 := Lib.hid (TRow.below L14.out (b15.mono (by omega)))
  have G15 := Lib.hid (own_on G14.out b15)
  have R15 := Lib.hid (TRow.of_own o15)
  clear o15 b15 HA14 L14 G14 R14
  go_wp2_with fail
  refine (eqBoxS_any A15 A3 c15 c3 T T w15 R15.out (TRow.more L15.out (by omega))).mono ?_
  rw [decide_eq_true rfl]
  rintro e w16 ⟨rfl, b16⟩
  have HA16 := Lib.hid (HA15.out.on b16)
  have G16 := Lib.hid (own_on G15.out b16)
  clear b16 HA15 L15 G15 R15
  go_wp2_with fail
  refine (heldBoxS_any A6 c6 1 T.length w16 (HMR.out _ G16.out) (by decide) (by omega)).mono ?_
  rintro e w17 ⟨rfl, q17, hw17⟩
  have HB := Lib.hid (show Below w.heap.size w w17 by rw [hw17]; exact below_drewN HA16.out.below _)
  clear hw17
  go_wp2_with fail
  go_ret
  exact ⟨rfl, HB.out⟩

end Go.Proofs.Ytkhlolhmaoenoaa
