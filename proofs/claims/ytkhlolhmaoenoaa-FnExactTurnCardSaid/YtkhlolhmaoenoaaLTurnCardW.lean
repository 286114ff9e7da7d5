
/-
  The walk of the law FnExactTurnCard; no condition beyond the size of the texts.
-/
import Derived.Test.YtkhlolhmaoenoaaTurnC
import Derived.Test.YtkhlolhmaoenoaaMarkT
import Derived.Test.YtkhlolhmaoenoaaTabLaw
import Derived.Deep.RegionHeld3
import Derived.Deep.Cut
namespace Go.Proofs.Ytkhlolhmaoenoaa
open Go.ChangeShapes Go.WideShapes Go.ChangeAt Go.RowKit Go.Deep Go.BigFrame
set_option linter.unusedVariables false
set_option linter.unusedSimpArgs false

/-- a card in block o, its row of the call's own, made before -/
structure CardIn (wr : World) (o base : Nat) (d f : Int) (A : Option Addr) (c n : Nat) (xs : List Value) : Prop where
  c0 : wr.cell? ⟨o, 0, none⟩ = some (.int .i64 d)
  c1 : wr.cell? ⟨o, 1, none⟩ = some (.int .i64 f)
  c2 : wr.cell? ⟨o, 2, none⟩ = some (.slice A n c)
  own : wr.ownsRow base 9 1 (.slice A n c) n xs
  up : ∀ g, (Value.slice A n c).ownBlock = some g → base ≤ g ∧ g < o
section
variable {wr w' : World} {o base : Nat} {d f : Int} {A : Option Addr} {c n : Nat} {xs : List Value}
theorem CardIn.lt (h : CardIn wr o base d f A c n xs) : o < wr.heap.size := World.block_lt_of_cell? wr _ h.c0
theorem CardIn.on (h : CardIn wr o base d f A c n xs) (hb : Below wr.heap.size wr w') : CardIn w' o base d f A c n xs := by
  have hk := hb.block o h.lt
  exact ⟨(World.cell?_of_block hk).trans h.c0, (World.cell?_of_block hk).trans h.c1, (World.cell?_of_block hk).trans h.c2, own_on h.own hb, h.up⟩
theorem CardIn.grown {row : Option Nat} (h : CardIn wr o base d f A c n xs) (hg : wr.grownBy w' row) (hr : ∀ g, row = some g → g ≠ o ∧ (g < base ∨ o < g)) : CardIn w' o base d f A c n xs := by
  have hk := hg.block o h.lt (fun e => (hr o e.symm).1 rfl)
  refine ⟨(World.cell?_of_block hk).trans h.c0, (World.cell?_of_block hk).trans h.c1, (World.cell?_of_block hk).trans h.c2, h.own.kept hg ?_, h.up⟩
  cases hv : (Value.slice A n c).ownBlock with
  | none => exact .inl rfl
  | some g => exact .inr (fun e => by have a := h.up g hv; have b := (hr g e.symm).2; omega)
theorem CardIn.put {row : Option Nat} {ys : List Value} (h : CardIn wr o base d f A c n xs) (hg : wr.grownBy w' row) (hr : ∀ g, row = some g → g ≠ o) (ho : w'.ownsRow base 9 1 (.slice A n c) n ys) : CardIn w' o base d f A c n ys := by
  have hk := hg.block o h.lt (fun e => hr o e.symm rfl)
  exact ⟨(World.cell?_of_block hk).trans h.c0, (World.cell?_of_block hk).trans h.c1, (World.cell?_of_block hk).trans h.c2, ho, h.up⟩
theorem CardIn.start {w : World} (h : w.ownsRow base 9 1 (.slice A n c) n xs) : CardIn (w.alloc (.cells #[.int .i64 d, .int .i64 f, .slice A n c] 26)) w.heap.size base d f A c n xs :=
  ⟨by go_simp, by go_simp, by go_simp, h.alloc _, fun g hg => h.lt g hg⟩
theorem CardIn.row {ss : List ByteArray} (h : CardIn wr o base d f A c ss.length (ss.map Value.string)) : SRow wr wr.heap.size A ss := SRow.of_own h.own
end

set_option maxHeartbeats 2000000 in
set_option maxRecDepth 100000 in
theorem fnExactTurnCard_walk (d f : Int) (A : Option Addr) (c : Nat) (ss : List ByteArray) (w : World) (hx : SRow w w.heap.size A ss) (hmx : ∀ s ∈ ss, s.size ≤ maxLen)
    (bd : -9223372036854775808 ≤ d ∧ d ≤ 9223372036854775807) (bf : -9223372036854775808 ≤ f ∧ f ≤ 9223372036854775807) :
    Calls Try.prog 3 #[.agg #[.int .i64 d, .int .i64 f, .slice A ss.length c]] w fun e w' => e = .returned (.bool true) ∧ Below w.heap.size w w' := by
  have hrr := szAll_cases ss 1048576 (by decide)
  have hsm' := szAll_small (ss := ss)
  have HZ := Lib.hid (fun w hx => szCard_any d f A c ss 1048576 w hx hmx (by decide) (by decide))
  have HA0 := Lib.hid (show CardAt w (w.alloc (.cells #[.int .i64 d, .int .i64 f, .slice A ss.length c] 24)) d f A c ss from ⟨by go_simp, by go_simp, by go_simp, hx.alloc (Nat.le_refl _) _, (Below.refl _ _).alloc (Nat.le_refl _) _, by simp⟩)
  have HTL := Lib.hid (tcS_len d f ss)
  generalize szAll 1048576 ss = r at *
  by_cases hlen : 0 ≤ r
  case neg =>
    obtain rfl : r = -1 := by omega
    clear hsm' hmx hx
    go_enter Try.func3, Try.ntmps3
    go_wp2_with fail
    refine (HZ.out _ HA0.out.full).mono ?_
    rintro e w1 ⟨rfl, hb1⟩
    go_wp2_with fail
    go_ret
    exact ⟨rfl, below_thru HA0.out.below hb1⟩
  obtain ⟨hl2, hsm⟩ := hsm' hlen
  have hsz : ∀ s ∈ ss, s.size ≤ 4294967296 := fun s h => Nat.le_trans (hsm s h) (by decide)
  have HSP := Lib.hid (fun A c (u : World) hx => specTurnCard_any d f A c ss u hx hsz)
  have HIM := Lib.hid (fun A c (u : World) hx => implTurnCard_any d f A c ss u hx hsz)
  have HTC := Lib.hid (fun (u : World) hx => toCard_any d f A c ss u hx hl2)
  generalize tcD d f ss = D at *
  generalize tcF d f ss = F at *
  generalize tcS d f ss = S at *
  have hSl : S.length ≤ 1048576 := Nat.le_trans HTL.out hl2
  clear hsm' hsm hsz hmx hx HTL
  go_enter Try.func3, Try.ntmps3
  go_wp2_with fail
  refine (HZ.out _ HA0.out.full).mono ?_
  rintro e w1 ⟨rfl, hb1⟩
  have HA1 := Lib.hid (HA0.out.on hb1)
  obtain ⟨p0, p1, p2, prow, pb, plt⟩ := HA1.out
  clear hb1 HA0 prow pb
  go_wp2_with fail
  refine (HTC.out _ HA1.out.full).mono ?_
  rintro e w2 ⟨A2, c2, rfl, o2, b2⟩
  have HA2 := Lib.hid (HA1.out.on b2)
  have R2 := Lib.hid (SRow.of_own o2)
  have s2 : w.heap.size < w2.heap.size := HA2.out.lt
  clear o2 b2 HA1 p0 p1 p2 plt
  go_wp2_with fail
  refine (HSP.out _ _ _ R2.out).mono ?_
  rintro e w3 ⟨A3, c3, rfl, o3, b3⟩
  have s3 : w2.heap.size ≤ w3.heap.size := b3.size
  have HW4 := Lib.hid (CardIn.start (d := D) (f := F) o3)
  have HA4 := Lib.hid ((HA2.out.on b3).on (below_alloc (Below.refl _ _) (.cells #[.int .i64 D, .int .i64 F, .slice A3 S.length c3] 26)))
  have s4 : w3.heap.size < (w3.alloc (.cells #[.int .i64 D, .int .i64 F, .slice A3 S.length c3] 26)).heap.size := by simp
  clear o3 b3 R2 HA2 HSP
  go_upto_region 6 with (fail)
  generalize w3.alloc (.cells #[.int .i64 D, .int .i64 F, .slice A3 S.length c3] 26) = w4 at *
  obtain ⟨p0, p1, p2, prow, pb, plt⟩ := HA4.out
  clear prow pb
  go_wp2_with fail
  refine (HTC.out _ HA4.out.full).mono ?_
  rintro e w5 ⟨A5, c5, rfl, o5, b5⟩
  have s5 : w4.heap.size ≤ w5.heap.size := b5.size
  have HX6 := Lib.hid (CardIn.start (d := d) (f := f) o5)
  have HA6 := Lib.hid ((HA4.out.on b5).on (below_alloc (Below.refl _ _) (.cells #[.int .i64 d, .int .i64 f, .slice A5 ss.length c5] 26)))
  have HW6 := Lib.hid ((HW4.out.on b5).on (below_alloc (Below.refl _ _) (.cells #[.int .i64 d, .int .i64 f, .slice A5 ss.length c5] 26)))
  have s6 : w5.heap.size < (w5.alloc (.cells #[.int .i64 d, .int .i64 f, .slice A5 ss.length c5] 26)).heap.size := by simp
  clear o5 b5 HA4 HW4 p0 p1 p2 plt
  go_upto_region 7 with (fail)
  generalize w5.alloc (.cells #[.int .i64 d, .int .i64 f, .slice A5 ss.length c5] 26) = w6 at *
  obtain ⟨q0, q1, q2, qown, qup⟩ := HX6.out
  clear qown qup
  go_wp2_with fail
  refine (HIM.out _ _ _ HX6.out.row).mono ?_
  rintro e w7 ⟨A7, c7, rfl, o7, b7⟩
  have s7 : w6.heap.size ≤ w7.heap.size := b7.size
  have HG8 := Lib.hid (CardIn.start (d := D) (f := F) o7)
  have HA8 := Lib.hid ((HA6.out.on b7).on (below_alloc (Below.refl _ _) (.cells #[.int .i64 D, .int .i64 F, .slice A7 S.length c7] 26)))
  have HW8 := Lib.hid ((HW6.out.on b7).on (below_alloc (Below.refl _ _) (.cells #[.int .i64 D, .int .i64 F, .slice A7 S.length c7] 26)))
  have HX8 := Lib.hid ((HX6.out.on b7).on (below_alloc (Below.refl _ _) (.cells #[.int .i64 D, .int .i64 F, .slice A7 S.length c7] 26)))
  have s8 : w7.heap.size < (w7.alloc (.cells #[.int .i64 D, .int .i64 F, .slice A7 S.length c7] 26)).heap.size := by simp
  clear o7 b7 HA6 HW6 HX6 q0 q1 q2
  go_upto_region 8 with (fail)
  generalize w7.alloc (.cells #[.int .i64 D, .int .i64 F, .slice A7 S.length c7] 26) = w8 at *
  obtain ⟨g0, g1, g2, gown, gup⟩ := HG8.out
  obtain ⟨v0, v1, v2, vown, vup⟩ := HW8.out
  clear gown gup vown vup
  go_wp2_with fail
  refine (eqCard_any _ _ _ _ _ _ _ _ _ _ _ HG8.out.row HW8.out.row).mono ?_
  rw [decide_eq_true rfl]
  rintro e w9 ⟨rfl, b9⟩
  have HA9 := Lib.hid (HA8.out.on b9)
  have HW9 := Lib.hid (HW8.out.on b9)
  have HX9 := Lib.hid (HX8.out.on b9)
  have HG9 := Lib.hid (HG8.out.on b9)
  have s9 := b9.size
  clear b9 HA8 HW8 HX8 HG8 g0 g1 g2 v0 v1 v2
  obtain ⟨p0, p1, p2, prow, pb, plt⟩ := HA9.out
  obtain ⟨q0, q1, q2, qown, qup⟩ := HX9.out
  have HXF := Lib.hid (show SRow w9 w9.heap.size A ss from HA9.out.full)
  have HYF := Lib.hid (show SRow w9 w9.heap.size A5 ss from HX9.out.row)
  clear prow pb qown qup
  go_wp2_with fail
  go_region_held3 (fun w' => w'.cell? ⟨w.heap.size, 0, none⟩ = some (.int .i64 d) ∧ w'.cell? ⟨w.heap.size, 1, none⟩ = some (.int .i64 f) ∧ w'.cell? ⟨w.heap.size, 2, none⟩ = some (.slice A ss.length c) ∧ w'.cell? ⟨w5.heap.size, 0, none⟩ = some (.int .i64 d) ∧ w'.cell? ⟨w5.heap.size, 1, none⟩ = some (.int .i64 f) ∧ w'.cell? ⟨w5.heap.size, 2, none⟩ = some (.slice A5 ss.length c5))
    (first | go_keep | (go_split_ands; refine ⟨?_, ?_, ?_, ?_, ?_, ?_⟩ <;> (refine cell_on hb6 ?_; assumption)) | (go_split_ands; refine ⟨?_, ?_, ?_, ?_, ?_, ?_⟩ <;> (refine cell_on hb7 ?_; assumption)))
    ((first
      | (go_at_call 14; refine (HTC.out _ (HXF.out.drew)).mono ?_; rintro e w10 ⟨A10, c10, rfl, hown6, hb6⟩; have hr6 := Lib.hid (SRow.of_own hown6); clear hown6)
      | (go_at_call 16; refine (eqCard_any _ _ _ _ _ _ _ _ _ _ _ (SRow.on (w := w9.drew) HYF.out hb6) hr6.out).mono ?_; rw [decide_eq_true rfl]; rintro e w11 ⟨rfl, hb7⟩)))
  have b11 : Below w9.heap.size w9 w11 := below_thru (below_undrew9 hb6) hb7
  have HA11 := Lib.hid (HA9.out.on b11)
  have HW11 := Lib.hid (HW9.out.on b11)
  have HX11 := Lib.hid (HX9.out.on b11)
  have HG11 := Lib.hid (HG9.out.on b11)
  have s11 := b11.size
  clear b11 hb6 hb7 hr6 p0 p1 p2 plt q0 q1 q2 HXF HYF HA9 HW9 HX9 HG9
  obtain ⟨q0, q1, q2, qown, qup⟩ := HX11.out
  clear qown qup
  go_wp2_with fail
  refine (markCard_any d f A5 c5 1 ss.length w4.heap.size _ w11 HX11.out.own (by decide) (by decide) hl2).mono ?_
  rintro e w12 ⟨rfl, o12, g12⟩
  have HA12 := Lib.hid (HA11.out.grown g12 (fun g hg => by have := HX11.out.up g hg; omega))
  have HW12 := Lib.hid (HW11.out.grown g12 (fun g hg => by have := HX11.out.up g hg; omega))
  have HG12 := Lib.hid (HG11.out.grown g12 (fun g hg => by have := HX11.out.up g hg; omega))
  have s12 := g12.size
  clear o12 g12 HA11 HW11 HX11 HG11 q0 q1 q2
  obtain ⟨g0, g1, g2, gown, gup⟩ := HG12.out
  obtain ⟨v0, v1, v2, vown, vup⟩ := HW12.out
  clear gown gup vown vup
  have hnk : ¬ (((1 + ss.length : Nat) : Int) < 0) := by omega
  go_wp2_with fail
  refine (eqCard_any _ _ _ _ _ _ _ _ _ _ _ HG12.out.row HW12.out.row).mono ?_
  rw [decide_eq_true rfl]
  rintro e w13 ⟨rfl, b13⟩
  have HA13 := Lib.hid (HA12.out.on b13)
  have HW13 := Lib.hid (HW12.out.on b13)
  have HG13 := Lib.hid (HG12.out.on b13)
  have s13 := b13.size
  clear b13 HA12 HW12 HG12 g0 g1 g2 v0 v1 v2
  obtain ⟨g0, g1, g2, gown, gup⟩ := HG13.out
  clear gown gup
  go_wp2_with fail
  refine (markCard_any D F A7 c7 1 S.length w6.heap.size _ w13 HG13.out.own (by decide) (by decide) hSl).mono ?_
  rintro e w14 ⟨rfl, o14, g14⟩
  have HA14 := Lib.hid (HA13.out.grown g14 (fun g hg => by have := HG13.out.up g hg; omega))
  have HW14 := Lib.hid (HW13.out.grown g14 (fun g hg => by have := HG13.out.up g hg; omega))
  have HG14 := Lib.hid (HG13.out.put g14 (fun g hg => by have := HG13.out.up g hg; omega) o14)
  have s14 := g14.size
  clear o14 g14 HA13 HW13 HG13 g0 g1 g2
  have HMR := Lib.hid (fun (u : World) (h : CardIn u w7.heap.size w6.heap.size D F A7 c7 S.length ((marksT 1 S.length).map Value.string)) => show SRow u u.heap.size A7 (marksT 1 S.length) from SRow.of_own (by rw [marksT_len]; exact h.own))
  obtain ⟨g0, g1, g2, gown, gup⟩ := HG14.out
  clear gown gup
  go_wp2_with fail
  refine (heldCard_any D F A7 c7 1 S.length w14 (HMR.out _ HG14.out) (by decide) (by decide) hSl).mono ?_
  rintro e w15 ⟨rfl, b15⟩
  have HA15 := Lib.hid (HA14.out.on b15)
  have HW15 := Lib.hid (HW14.out.on b15)
  have HG15 := Lib.hid (HG14.out.on b15)
  clear b15 HA14 HW14 HG14 g0 g1 g2
  have hnq : ¬ (((1 + S.length : Nat) : Int) < 0) := by omega
  obtain ⟨p0, p1, p2, prow, pb, plt⟩ := HA15.out
  clear prow pb
  go_wp2_with fail
  refine (HTC.out _ HA15.out.full).mono ?_
  rintro e w16 ⟨A16, c16, rfl, o16, b16⟩
  have HA16 := Lib.hid (HA15.out.on b16)
  have HW16 := Lib.hid (HW15.out.on b16)
  have HG16 := Lib.hid (HG15.out.on b16)
  have R16 := Lib.hid (SRow.of_own o16)
  clear o16 b16 HA15 HW15 HG15 p0 p1 p2 plt
  go_wp2_with fail
  refine (HIM.out _ _ _ R16.out).mono ?_
  rintro e w17 ⟨A17, c17, rfl, o17, b17⟩
  have HH18 := Lib.hid (CardIn.start (d := D) (f := F) o17)
  have HA18 := Lib.hid ((HA16.out.on b17).on (below_alloc (Below.refl _ _) (.cells #[.int .i64 D, .int .i64 F, .slice A17 S.length c17] 26)))
  have HW18 := Lib.hid ((HW16.out.on b17).on (below_alloc (Below.refl _ _) (.cells #[.int .i64 D, .int .i64 F, .slice A17 S.length c17] 26)))
  have HG18 := Lib.hid ((HG16.out.on b17).on (below_alloc (Below.refl _ _) (.cells #[.int .i64 D, .int .i64 F, .slice A17 S.length c17] 26)))
  clear o17 b17 HA16 HW16 HG16 R16
  go_upto_region 25 with (fail)
  generalize w17.alloc (.cells #[.int .i64 D, .int .i64 F, .slice A17 S.length c17] 26) = w18 at *
  obtain ⟨g0, g1, g2, gown, gup⟩ := HH18.out
  obtain ⟨v0, v1, v2, vown, vup⟩ := HW18.out
  clear gown gup vown vup
  go_wp2_with fail
  refine (eqCard_any _ _ _ _ _ _ _ _ _ _ _ HH18.out.row HW18.out.row).mono ?_
  rw [decide_eq_true rfl]
  rintro e w19 ⟨rfl, b19⟩
  have HA19 := Lib.hid (HA18.out.on b19)
  have HG19 := Lib.hid (HG18.out.on b19)
  clear b19 HA18 HW18 HH18 HG18 g0 g1 g2 v0 v1 v2
  obtain ⟨g0, g1, g2, gown, gup⟩ := HG19.out
  clear gown gup
  go_wp2_with fail
  refine (heldCard_any D F A7 c7 1 S.length w19 (HMR.out _ HG19.out) (by decide) (by decide) hSl).mono ?_
  rintro e w20 ⟨rfl, b20⟩
  have HB := Lib.hid (below_thru HA19.out.below b20)
  clear b20 HA19 HG19 g0 g1 g2
  go_wp2_with fail
  go_ret
  exact ⟨rfl, HB.out⟩

end Go.Proofs.Ytkhlolhmaoenoaa
