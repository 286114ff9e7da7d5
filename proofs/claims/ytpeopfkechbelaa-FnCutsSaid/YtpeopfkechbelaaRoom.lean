
/-
  Contracts of RoomUnder on both sides and the walk of its law; no condition beyond the length of the text.
-/
import Derived.Test.YtpeopfkechbelaaViews
namespace Go.Proofs.Ytpeopfkechbelaa
open Go.ChangeShapes Go.WideShapes Go.ChangeAt Go.RowKit Go.Deep Go.BigFrame
set_option linter.unusedVariables false

def sumI (zs : List Int) : Int := zs.sum
theorem sum_take (zs : List Int) (k : Nat) (h : k < zs.length) : sumI (zs.take (k + 1)) = sumI (zs.take k) + zs.getD k 0 := by
  unfold sumI
  rw [take_snoc_getD zs k 0 h, List.sum_append]
  simp
/-- the sum of few small numbers is small -/
theorem sum_small (zs : List Int) (hz : ∀ z ∈ zs, -16 ≤ z ∧ z ≤ 16) : ∀ k : Nat, -(16 * (k : Int)) ≤ sumI (zs.take k) ∧ sumI (zs.take k) ≤ 16 * (k : Int) := by
  induction zs with
  | nil => intro k; simp [sumI]; omega
  | cons z zs ih =>
    intro k
    have h0 := hz z List.mem_cons_self
    cases k with
    | zero => simp [sumI]
    | succ k =>
      have h1 := ih (fun z h => hz z (List.mem_cons_of_mem _ h)) k
      simp only [sumI, List.take_succ_cons, List.sum_cons] at h1 ⊢
      omega

theorem hP_small {l : List UInt8} (h : isStrip l = true) : ∀ z ∈ hP l l.length, -16 ≤ z ∧ z ≤ 16 := by
  intro z hz
  obtain ⟨p1, p2, p3, p4, p5⟩ := isStrip_parts h
  unfold hP at hz
  obtain ⟨i, hi, rfl⟩ := List.mem_map.1 hz
  have h1 := (List.mem_filter.1 hi).1
  rw [List.mem_range] at h1
  have h2 := fw_take_le l i
  omega

def roomOf (l : List UInt8) : Int := if isStrip l = true then sumI (hP l l.length) else -1

theorem specRoomUnder_any (s : ByteArray) (w : World) (hs : s.size ≤ 4294967296) : Calls Try.prog 16 #[.string s] w fun e w' => e = .returned (.int .i64 (roomOf s.data.toList)) ∧ Below w.heap.size w w' := by
  have hst := fun w => specIsStrip_any s w hs
  by_cases h : isStrip s.data.toList = true
  · have hh := fun w => l07Heights_any s w hs
    rw [show roomOf s.data.toList = sumI (hP s.data.toList s.data.toList.length) from if_pos h]
    have hsm := hP_small h
    have hln := hP_len s.data.toList s.data.toList.length
    rw [size_list] at hsm hln ⊢
    rw [h] at hst
    generalize hP s.data.toList s.size = zs at *
    have HS := Lib.hid (sum_small zs hsm)
    have HT := Lib.hid (sum_take zs)
    have HH := Lib.hid hh
    have HST := Lib.hid hst
    clear h hh hsm hst
    go_enter Try.func16, Try.ntmps16
    go_wp2_with fail
    refine (HST.out _).mono ?_
    rintro e w1 ⟨rfl, rfl⟩
    go_wp2_with fail
    refine (HH.out _).mono ?_
    rintro e w1 ⟨A, c, rfl, ho, hb⟩
    have hx := IRow.of_own ho
    clear ho
    go_wp2_with fail
    go_loop [3, 5] (fun n i => ∃ k : Nat, k ≤ zs.length ∧ i = .int .i64 k ∧ n = .int .i64 (sumI (zs.take k))) (fun _ i => zs.length - (intOf i).toNat)
    case atStart => exact ⟨0, Nat.zero_le _, rfl, rfl⟩
    case round =>
      obtain ⟨k, hk, rfl, rfl⟩ := hrel
      obtain ⟨q1, q2⟩ := HS.out k
      by_cases hlt : k < zs.length
      · obtain ⟨b1, o1, rfl, hb1, hc1⟩ := hx.at_ (k := k) hlt
        have hs3 := HT.out k hlt
        obtain ⟨q3, q4⟩ := HS.out (k + 1)
        rw [hs3] at q3 q4
        have HQ := Lib.hid hs3
        clear hs3 hx
        generalize zs.getD k 0 = v at *
        generalize sumI (zs.take k) = t at *
        generalize zs.length = n at *
        go_wp2_with fail
        go_round
        case rel => exact ⟨k + 1, by omega, by go_num, by rw [HQ.out]⟩
        case measure => simp [intOf]; omega
      · obtain rfl : k = zs.length := by omega
        clear hx
        go_wp2_with fail
        go_ret
        exact ⟨rfl, hb⟩
  · have h' : isStrip s.data.toList = false := by simpa using h
    rw [show roomOf s.data.toList = -1 from if_neg h]
    rw [h'] at hst
    clear h h'
    go_enter Try.func16, Try.ntmps16
    go_wp2_with fail
    refine (hst _).mono ?_
    rintro e w1 ⟨rfl, rfl⟩
    go_wp2_with fail
    go_ret
    exact ⟨rfl, (by repeat' (first | exact Below.refl _ _ | assumption | (refine Below.drew ?_) | (refine below_drewN ?_ _) | (refine below_thru ?_ (by assumption)) | (refine below_alloc ?_ _) | (refine Below.setCell ?_ (by first | omega | (simp; done) | (simp; omega)) _) | (refine Below.alloc ?_ (by first | omega | (simp; done) | (simp; omega)) _)))⟩

end Go.Proofs.Ytpeopfkechbelaa
