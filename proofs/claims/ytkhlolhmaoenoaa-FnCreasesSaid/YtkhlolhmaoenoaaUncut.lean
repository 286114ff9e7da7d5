
/-
  The contracts of IsUncut on both sides; no condition beyond the size of the texts.
-/
import Derived.Test.YtkhlolhmaoenoaaCardAt
import Derived.Deep.RegionWith
namespace Go.Proofs.Ytkhlolhmaoenoaa
open Go.ChangeShapes Go.WideShapes Go.ChangeAt Go.RowKit Go.Deep Go.BigFrame
set_option linter.unusedVariables false

def uncut (d f : Int) (ss : List ByteArray) (k : Int) : Bool := cardOk d f ss && (inB k 0 ((ss.length : Int) - 2) && decide (ss.getD k.toNat .empty = ss.getD (k.toNat + 1) .empty))

set_option maxRecDepth 100000 in
theorem implIsUncut_any (d f : Int) (A : Option Addr) (c : Nat) (ss : List ByteArray) (k : Int) (w : World) (hx : SRow w w.heap.size A ss) (hm : ∀ s ∈ ss, s.size ≤ 4294967296)
    (_ : -9223372036854775808 ≤ d ∧ d ≤ 9223372036854775807) (_ : -9223372036854775808 ≤ f ∧ f ≤ 9223372036854775807) (_ : -9223372036854775808 ≤ k ∧ k ≤ 9223372036854775807) :
    Calls Try.prog 40 #[.agg #[.int .i64 d, .int .i64 f, .slice A ss.length c], .int .i64 k] w fun e w' => e = .returned (.bool (uncut d f ss k)) ∧ Below w.heap.size w w' := by
  have HC := Lib.hid (fun k w hx => hasStrip_any d f A c ss k w hx hm)
  have hst := CardAt.start (d := d) (f := f) (c := c) hx
  have HST := Lib.hid hst
  have hd0 := InW.cell hst.lt hst.c0
  have hd1 := InW.cell hst.lt hst.c1
  have hd2 := InW.cell hst.lt hst.c2
  have H1 := Lib.hid (fun w hx => HC.out k w hx)
  cases h : hasStrip d f ss k
  · rw [show uncut d f ss k = false by
      unfold hasStrip at h
      unfold uncut
      cases hk : cardOk d f ss with
      | false => rfl
      | true =>
        rw [hk] at h
        have : inB k 0 ((ss.length : Int) - 2) = false := by
          rw [inB_not]
          have := inB_not.1 (show inB k 0 ((ss.length : Int) - 1) = false from h)
          omega
        rw [this]; rfl]
    rw [h] at H1
    clear h hx hm hst HC
    go_enter Try.func40, Try.ntmps40
    go_wp2_with fail
    refine wp_region_in (by kernel_rfl) (by kernel_rfl) ?_
    repeat (go_big_quiet_step ((go_at_call 87; refine (H1.out _ (HST.out.full.on (InW.on _))).mono ?_; rintro e w' ⟨rfl, hb⟩; exact ⟨rfl, ⟨_, below_thru (InW.on _) hb⟩, rfl⟩)))
    refine wpQuiet_nil ?_
    intro w2_ hw2_
    obtain ⟨⟨w2, hb2⟩, rfl⟩ := hw2_
    go_wp2_with fail
    go_ret
    exact ⟨rfl, below_thru HST.out.below hb2⟩
  rw [h] at H1
  have hck : cardOk d f ss = true ∧ 0 ≤ k ∧ k ≤ (ss.length : Int) - 1 := by
    simp only [hasStrip, Bool.and_eq_true] at h
    exact ⟨h.1, inB_iff.1 h.2⟩
  have hlen := (cardOk_parts hck.1).2.2.1
  obtain ⟨hk0, k1, k2⟩ := hck
  have H2 := Lib.hid (fun w hx => HC.out (k + 1) w hx)
  cases h2 : hasStrip d f ss (k + 1)
  · have h2' : inB (k + 1) 0 ((ss.length : Int) - 1) = false := by
      unfold hasStrip at h2
      rw [hk0] at h2
      exact h2
    rw [show uncut d f ss k = false by
      have : inB k 0 ((ss.length : Int) - 2) = false := by
        rw [inB_not]
        have := inB_not.1 h2'
        omega
      unfold uncut
      rw [hk0, this]; rfl]
    rw [h2] at H2
    have hkp := int_bne_t (show ¬ k = k + 1 by omega)
    clear h h2 hx hm hst HC h2' hk0
    go_enter Try.func40, Try.ntmps40
    go_wp2_with fail
    refine wp_region_in (by kernel_rfl) (by kernel_rfl) ?_
    repeat (go_big_quiet_step ((go_at_call 87; first | (with_reducible refine (H1.out _ (HST.out.full.on (InW.on _))).mono ?_; rintro e w' ⟨rfl, hb⟩; exact ⟨rfl, ⟨_, below_thru (InW.on _) hb⟩, rfl⟩) | (with_reducible refine (H2.out _ (HST.out.full.on (InW.on _))).mono ?_; rintro e w' ⟨rfl, hb⟩; exact ⟨rfl, ⟨_, below_thru (InW.on _) hb⟩, rfl⟩))))
    refine wpQuiet_nil ?_
    intro w2_ hw2_
    obtain ⟨⟨w2, hb2⟩, rfl⟩ := hw2_
    go_wp2_with fail
    go_ret
    exact ⟨rfl, below_thru HST.out.below hb2⟩
  have h2' : inB (k + 1) 0 ((ss.length : Int) - 1) = true := by
    unfold hasStrip at h2
    rw [hk0] at h2
    exact h2
  have h2i := inB_iff.1 h2'
  rw [h2] at H2
  obtain ⟨n, rfl⟩ := Int.eq_ofNat_of_zero_le k1
  rw [show uncut d f ss (n : Int) = decide (ss.getD n .empty = ss.getD (n + 1) .empty) by
    unfold uncut
    rw [hk0, show inB (n : Int) 0 ((ss.length : Int) - 2) = true from inB_iff.2 ⟨by omega, by omega⟩, Int.toNat_natCast]; rfl]
  obtain ⟨b1, o1, rfl, hb1, hc1⟩ := hst.at_ (k := n) (by omega)
  obtain ⟨b2, o2, e2, hb2', hc2⟩ := hst.at_ (k := n + 1) (by omega)
  obtain ⟨rfl, rfl⟩ : b2 = b1 ∧ o2 = o1 := by simp at e2; exact ⟨e2.1.symm, e2.2.symm⟩
  have hd3 := InW.cell (Nat.lt_trans hb1 hst.lt) hc1
  have hd4 := InW.cell (Nat.lt_trans hb1 hst.lt) hc2
  have hi1 : (n : Int) < (ss.length : Int) := by omega
  have hi2 : (n : Int) + 1 < (ss.length : Int) := by omega
  generalize ss.getD n .empty = s at *
  generalize ss.getD (n + 1) .empty = t at *
  clear h h2 h2' h2i hx hm hst hc1 hc2 e2 HC hk0
  by_cases hst : s = t
  · subst hst
    rw [decide_eq_true rfl]
    go_enter Try.func40, Try.ntmps40
    go_wp2_with fail
    refine wp_region_in (by kernel_rfl) (by kernel_rfl) ?_
    repeat (go_big_quiet_step ((go_at_call 87; first | (with_reducible refine (H1.out _ (HST.out.full.on (InW.on _))).mono ?_; rintro e w' ⟨rfl, hb⟩; exact ⟨rfl, ⟨_, below_thru (InW.on _) hb⟩, rfl⟩) | (with_reducible refine (H2.out _ (HST.out.full.on (InW.on _))).mono ?_; rintro e w' ⟨rfl, hb⟩; exact ⟨rfl, ⟨_, below_thru (InW.on _) hb⟩, rfl⟩))))
    refine wpQuiet_nil ?_
    intro w2_ hw2_
    obtain ⟨⟨w2, hb2⟩, rfl⟩ := hw2_
    go_wp2_with fail
    go_ret
    exact ⟨rfl, below_thru HST.out.below hb2⟩
  · have hne := txt_ne hst
    rw [decide_eq_false hst]
    clear hst
    go_enter Try.func40, Try.ntmps40
    go_wp2_with fail
    refine wp_region_in (by kernel_rfl) (by kernel_rfl) ?_
    repeat (go_big_quiet_step ((go_at_call 87; first | (with_reducible refine (H1.out _ (HST.out.full.on (InW.on _))).mono ?_; rintro e w' ⟨rfl, hb⟩; exact ⟨rfl, ⟨_, below_thru (InW.on _) hb⟩, rfl⟩) | (with_reducible refine (H2.out _ (HST.out.full.on (InW.on _))).mono ?_; rintro e w' ⟨rfl, hb⟩; exact ⟨rfl, ⟨_, below_thru (InW.on _) hb⟩, rfl⟩))))
    refine wpQuiet_nil ?_
    intro w2_ hw2_
    obtain ⟨⟨w2, hb2⟩, rfl⟩ := hw2_
    go_wp2_with fail
    go_ret
    exact ⟨rfl, below_thru HST.out.below hb2⟩

end Go.Proofs.Ytkhlolhmaoenoaa
