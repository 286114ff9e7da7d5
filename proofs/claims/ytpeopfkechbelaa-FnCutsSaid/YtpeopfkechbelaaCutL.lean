
/-
  The contracts of CutLength and FreeEdges on a valid card; no condition beyond the size of the texts.
-/
import Derived.Test.YtpeopfkechbelaaCuts
import Derived.Test.YtpeopfkechbelaaCardAt
import Derived.Test.YtpeopfkechbelaaGhost
import Derived.BigRegion
namespace Go.Proofs.Ytpeopfkechbelaa
open Go.ChangeShapes Go.WideShapes Go.ChangeAt Go.RowKit Go.Deep Go.BigFrame
set_option linter.unusedVariables false
set_option linter.unusedSimpArgs false

/-- the cuts between the strips k and k + 1 -/
def cutsK (ss : List ByteArray) (k : Nat) : Nat := (cutsOf (ss.getD k .empty).data.toList (ss.getD (k + 1) .empty).data.toList).length
/-- the cuts between the first strips -/
def cutsTo (ss : List ByteArray) : Nat → Nat
  | 0 => 0
  | k + 1 => cutsTo ss k + cutsK ss k
theorem cutsTo_succ (ss : List ByteArray) (k : Nat) : cutsTo ss (k + 1) = cutsTo ss k + cutsK ss k := rfl
theorem cutsTo_small {d f : Int} {ss : List ByteArray} (h : cardOk d f ss = true) : ∀ k, k + 1 ≤ ss.length → cutsTo ss k ≤ 16 * k := by
  intro k
  induction k with
  | zero => intro _; exact Nat.le_refl _
  | succ k ih =>
    intro hk
    have a := ih (by omega)
    have b := cutsOf_len (ss.getD k .empty).data.toList (ss.getD (k + 1) .empty).data.toList
    obtain ⟨c1, c2, c3⟩ := cardOk_strip h (mem_getD (ss := ss) (k := k) (by omega))
    have p := isStrip_parts c1
    rw [cutsTo_succ]
    unfold cutsK
    omega

set_option maxRecDepth 4000 in
theorem implCutLength_any (d f : Int) (A : Option Addr) (c : Nat) (ss : List ByteArray) (w : World) (hx : SRow w w.heap.size A ss) (hm : ∀ s ∈ ss, s.size ≤ 4294967296) (h : cardOk d f ss = true) :
    Calls Try.prog 46 #[.agg #[.int .i64 d, .int .i64 f, .slice A ss.length c]] w fun e w' => e = .returned (.int .i64 (cutsTo ss (ss.length - 1) : Nat)) ∧ Below w.heap.size w w' := by
  have HC := Lib.hid (fun w hx => implCardOk_any d f A c ss w hx hm)
  rw [h] at HC
  have hlen := (cardOk_parts h).2.2.1
  have HSM := Lib.hid (cutsTo_small h)
  have HST := Lib.hid (CardAt.start (d := d) (f := f) (c := c) hx)
  have HM := Lib.hid hm
  clear h hm hx
  go_enter Try.func46, Try.ntmps46
  go_wp2_with fail
  refine (HC.out _ HST.out.full).mono ?_
  rintro e w1 ⟨rfl, hb⟩
  have HCA := Lib.hid (HST.out.on hb)
  obtain ⟨p0, p1, p2, prow, pb, plt⟩ := HCA.out
  clear prow pb hb
  go_wp2_with fail
  clear p0 p1 p2 plt
  go_loopw [3, 4] (fun sv kv wr => ∃ k : Nat, k + 1 ≤ ss.length ∧ kv = .int .i64 (k + 1 : Nat) ∧ sv = .int .i64 (cutsTo ss k : Nat) ∧ CardAt w wr d f A c ss) (fun _ kv _ => ss.length - (intOf kv).toNat)
  case atStart => exact ⟨0, by omega, rfl, rfl, HCA.out⟩
  case round =>
    obtain ⟨k, hk, rfl, rfl, hca⟩ := hrel
    have HA := Lib.hid hca
    obtain ⟨p0, p1, p2, prow, pb, plt⟩ := hca
    have hs1 := HSM.out k hk
    by_cases hlt : k + 1 < ss.length
    · obtain ⟨b1, o1, rfl, hb1, hc1⟩ := HA.out.at_ (show k < ss.length by omega)
      obtain ⟨b2, o2, e2, hb2, hc2⟩ := HA.out.at_ hlt
      obtain ⟨rfl, rfl⟩ : b1 = b2 ∧ o1 = o2 := by simpa using e2
      have hs2 := HSM.out (k + 1) hlt
      have HU := Lib.hid (cutsTo_succ ss k)
      rw [cutsTo_succ] at hs2
      have HR := Lib.hid (fun w => implCutsBetween_any (ss.getD k .empty) (ss.getD (k + 1) .empty) w (HM.out _ (mem_getD (by omega))) (HM.out _ (mem_getD hlt)))
      have HK := Lib.hid (show (cutsOf (ss.getD k .empty).data.toList (ss.getD (k + 1) .empty).data.toList).length = cutsK ss k from rfl)
      have hi : ((k + 1 : Nat) : Int) < (ss.length : Int) := by omega
      have hi0 : (k : Int) < (ss.length : Int) := by omega
      have hk1 : ((k + 1 : Nat) : Int) - 1 = (k : Int) := by omega
      clear prow pb e2
      generalize cutsK ss k = x at *
      generalize cutsOf (ss.getD k .empty).data.toList (ss.getD (k + 1) .empty).data.toList = zs at *
      generalize ss.getD k .empty = u at *
      generalize ss.getD (k + 1) .empty = v at *
      generalize cutsTo ss k = y at *
      go_wp2_with fail
      apply wp_region_ghost (gs := [⟨12, 13, 27, .int .i64 x, fun v u => ∃ A c, v = .slice A zs.length c⟩]) (hl' := rfl)
      case hm => kernel_rfl
      case hB => kernel_rfl
      case hwalk =>
        intro C hC0 hC1 hC2
        simp only [virts, setOp]
        have q2 : ∀ u : InC C, u.val.cell? ⟨w.heap.size, 2, none⟩ = some (.slice (some ⟨b1, o1, none⟩) ss.length c) := fun u => cell_on (hC2 _ u.on) p2
        have qc1 : ∀ u : InC C, u.val.cell? ⟨b1, o1 + k, none⟩ = _ := fun u => cell_on (hC2 _ u.on) hc1
        have qc2 : ∀ u : InC C, u.val.cell? ⟨b1, o1 + (k + 1), none⟩ = _ := fun u => cell_on (hC2 _ u.on) hc2
        repeat (go_big_quiet_step (fail))
        exact wpQuiet_nil rfl
      case hok => kernel_rfl
      case hmark =>
        intro g hg
        obtain rfl := List.mem_singleton.1 hg
        rfl
      case hT =>
        intro g hg v u u' hT hb
        obtain rfl := List.mem_singleton.1 hg
        exact hT
      case hk =>
        intro g hg o ho a1 w1 hs hb Q
        obtain rfl := List.mem_singleton.1 hg
        cases ho
        refine wp_call (f := 42) (vs := #[.string u, .string v]) rfl ?_ ?_ ((HR.out w1).mono ?_) (fun v w' hR => ⟨v, rfl, hR⟩) _
        · have e1 : a1.eval (.tmp 21) = .string u := hs 21 (by simp [Op.operands, Call.operands])
          have e2 : a1.eval (.tmp 26) = .string v := hs 26 (by simp [Op.operands, Call.operands])
          simp [e1, e2]
        · kernel_rfl
        · rintro e w' ⟨AB, cB, rfl, hoB, hbB⟩
          exact ⟨_, rfl, hbB, _, _, rfl⟩
      case hc =>
        intro g hg o ho a1 w1 hs hb hT Q
        obtain rfl := List.mem_singleton.1 hg
        cases ho
        obtain ⟨AB, cB, e⟩ := hT
        have e2 : a1.eval (.tmp 27) = .slice AB zs.length cB := e
        refine wp_len rfl e2 ?_ ⟨by rw [HK.out], Below.refl _ _⟩ _
        kernel_rfl
      case hQ =>
        intro v w8 hb8
        simp only [putsG, List.foldl, Act.put, List.setIfInBounds_toArray, List.set_cons_succ, List.set_cons_zero]
        have HA8 := Lib.hid (HA.out.on hb8)
        clear p0 p1 p2 plt hc1 hc2
        go_wp2_with fail
        go_roundw
        case rel => exact ⟨k + 1, hlt, by go_num, by rw [HU.out]; go_num, HA8.out⟩
        case measure => simp [intOf]; omega
    · have hke : k = ss.length - 1 := by omega
      subst hke
      have hi : ¬ (((ss.length - 1 + 1 : Nat)) : Int) < (ss.length : Int) := by omega
      clear prow pb
      go_wp2_with fail
      go_ret
      exact ⟨rfl, HA.out.below⟩

theorem implFreeEdges_any (d f : Int) (A : Option Addr) (c : Nat) (ss : List ByteArray) (w : World) (hx : SRow w w.heap.size A ss) (hm : ∀ s ∈ ss, s.size ≤ 4294967296) (h : cardOk d f ss = true) :
    Calls Try.prog 48 #[.agg #[.int .i64 d, .int .i64 f, .slice A ss.length c]] w fun e w' => e = .returned (.int .i64 (2 * (cutsTo ss (ss.length - 1) : Nat) + 2 * (d + f))) ∧ Below w.heap.size w w' := by
  have HC := Lib.hid (fun w hx => implCardOk_any d f A c ss w hx hm)
  rw [h] at HC
  have HL := Lib.hid (fun w hx => implCutLength_any d f A c ss w hx hm h)
  obtain ⟨hd, hf, hlen, _⟩ := cardOk_parts h
  have hsm := cutsTo_small h (ss.length - 1) (by omega)
  have HST := Lib.hid (CardAt.start (d := d) (f := f) (c := c) hx)
  clear h hm hx
  generalize cutsTo ss (ss.length - 1) = x at *
  go_enter Try.func48, Try.ntmps48
  go_wp2_with fail
  refine (HC.out _ HST.out.full).mono ?_
  rintro e w1 ⟨rfl, hb⟩
  have HCA := Lib.hid (HST.out.on hb)
  obtain ⟨p0, p1, p2, prow, pb, plt⟩ := HCA.out
  have q0 := InW.cell plt p0
  have q1 := InW.cell plt p1
  have q2 := InW.cell plt p2
  have HX := Lib.hid (fun u : InW w1 => HCA.out.full.on u.on)
  clear prow pb hb p0 p1 p2
  go_wp2_with fail
  refine wp_region_in (by kernel_rfl) (by kernel_rfl) ?_
  repeat (go_big_quiet_step (((go_at_call 46; refine (HL.out _ (HX.out _)).mono ?_; rintro e w' ⟨rfl, hb⟩; exact ⟨rfl, ⟨_, below_thru (InW.on _) hb⟩, rfl⟩))))
  refine wpQuiet_nil ?_
  intro w2_ hw2_
  obtain ⟨⟨w2, hb2⟩, rfl⟩ := hw2_
  go_wp2_with fail
  go_ret
  exact ⟨rfl, below_thru HCA.out.below hb2⟩

end Go.Proofs.Ytpeopfkechbelaa
