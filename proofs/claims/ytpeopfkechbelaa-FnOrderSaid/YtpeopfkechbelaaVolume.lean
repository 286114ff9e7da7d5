
/-
  The contracts of VolumeOf on both sides; no condition beyond the size of the texts.
-/
import Derived.Test.YtpeopfkechbelaaCardAt
import Derived.Test.YtpeopfkechbelaaRoom
namespace Go.Proofs.Ytpeopfkechbelaa
open Go.ChangeShapes Go.WideShapes Go.ChangeAt Go.RowKit Go.Deep Go.BigFrame
set_option linter.unusedVariables false

def roomS (s : ByteArray) : Int := roomOf s.data.toList
theorem roomS_small (s : ByteArray) : -256 ≤ roomS s ∧ roomS s ≤ 256 := by
  unfold roomS roomOf
  by_cases h : isStrip s.data.toList = true
  · rw [if_pos h]
    have a := sum_small _ (hP_small h) (hP s.data.toList s.data.toList.length).length
    rw [List.take_length] at a
    have b := hP_len s.data.toList s.data.toList.length
    have p := isStrip_parts h
    omega
  · rw [if_neg h]; decide
def volumeOf (d f : Int) (ss : List ByteArray) : Int := if cardOk d f ss = true then accS roomS ss ss.length else -1

theorem specVolumeOf_any (d f : Int) (A : Option Addr) (c : Nat) (ss : List ByteArray) (w : World) (hx : SRow w w.heap.size A ss) (hm : ∀ s ∈ ss, s.size ≤ 4294967296)
    (_ : -9223372036854775808 ≤ d ∧ d ≤ 9223372036854775807) (_ : -9223372036854775808 ≤ f ∧ f ≤ 9223372036854775807) :
    Calls Try.prog 15 #[.agg #[.int .i64 d, .int .i64 f, .slice A ss.length c]] w fun e w' => e = .returned (.int .i64 (volumeOf d f ss)) ∧ Below w.heap.size w w' := by
  have HC := Lib.hid (fun w hx => specCardOk_any d f A c ss w hx hm)
  cases h : cardOk d f ss
  · rw [show volumeOf d f ss = -1 from if_neg (by rw [h]; decide)]
    rw [h] at HC
    clear h
    go_enter Try.func15, Try.ntmps15
    go_wp2_with fail
    refine (HC.out _ (hx.on (by repeat' (first | exact Below.refl _ _ | assumption | (refine Below.drew ?_) | (refine below_drewN ?_ _) | (refine below_thru ?_ (by assumption)) | (refine below_alloc ?_ _) | (refine Below.setCell ?_ (by first | omega | (simp; done) | (simp; omega)) _) | (refine Below.alloc ?_ (by first | omega | (simp; done) | (simp; omega)) _))))).mono ?_
    rintro e w1 ⟨rfl, hb⟩
    go_wp2_with fail
    go_ret
    exact ⟨rfl, (by repeat' (first | exact Below.refl _ _ | assumption | (refine Below.drew ?_) | (refine below_drewN ?_ _) | (refine below_thru ?_ (by assumption)) | (refine below_alloc ?_ _) | (refine Below.setCell ?_ (by first | omega | (simp; done) | (simp; omega)) _) | (refine Below.alloc ?_ (by first | omega | (simp; done) | (simp; omega)) _)))⟩
  rw [show volumeOf d f ss = accS roomS ss ss.length from if_pos h]
  rw [h] at HC
  have hlen := (cardOk_parts h).2.2.1
  have HSM := Lib.hid (accS_small (F := roomS) (ss := ss) (B := 256) fun s _ => roomS_small s)
  have HSU := Lib.hid (accS_succ roomS ss)
  have HST := Lib.hid (CardAt.start (d := d) (f := f) (c := c) hx)
  clear h
  go_enter Try.func15, Try.ntmps15
  go_wp2_with fail
  refine (HC.out _ HST.out.full).mono ?_
  rintro e w1 ⟨rfl, hb⟩
  have HCA := Lib.hid (HST.out.on hb)
  obtain ⟨p0, p1, p2, prow, pb, plt⟩ := HCA.out
  clear prow pb hx hb
  go_wp2_with fail
  clear p0 p1 p2 plt
  go_loopw [3, 4] (fun sv kv wr => ∃ k : Nat, k ≤ ss.length ∧ kv = .int .i64 k ∧ sv = .int .i64 (accS roomS ss k) ∧ CardAt w wr d f A c ss) (fun _ kv _ => ss.length - (intOf kv).toNat)
  case atStart => exact ⟨0, Nat.zero_le _, rfl, rfl, HCA.out⟩
  case round =>
    obtain ⟨k, hk, rfl, rfl, hca⟩ := hrel
    have HA := Lib.hid hca
    obtain ⟨p0, p1, p2, prow, pb, plt⟩ := hca
    have hs1 := HSM.out k hk
    by_cases hlt : k < ss.length
    · obtain ⟨b1, o1, rfl, hb1, hc1⟩ := HA.out.at_ hlt
      have hs2 := HSM.out (k + 1) hlt
      have hsu := HSU.out k hlt
      have HR := Lib.hid (fun w => specRoomUnder_any (ss.getD k .empty) w (hm _ (mem_getD hlt)))
      rw [show roomOf (ss.getD k .empty).data.toList = roomS (ss.getD k .empty) from rfl] at HR
      rw [hsu] at hs2
      have HU := Lib.hid hsu
      have hi : (k : Int) < (ss.length : Int) := by omega
      clear hsu prow pb hm
      generalize roomS (ss.getD k .empty) = x at *
      generalize ss.getD k .empty = v at *
      generalize accS roomS ss k = y at *
      go_wp2_with fail
      refine (HR.out _).mono ?_
      rintro e w2 ⟨rfl, hb2⟩
      have HA2 := Lib.hid (HA.out.on hb2)
      clear hb2
      go_wp2_with fail
      go_roundw
      case rel => exact ⟨k + 1, by omega, by go_num, by rw [HU.out], HA2.out⟩
      case measure => simp [intOf]; omega
    · obtain rfl : k = ss.length := by omega
      clear prow pb hm
      go_wp2_with fail
      go_ret
      exact ⟨rfl, HA.out.below⟩

end Go.Proofs.Ytpeopfkechbelaa
