
/-
  Contracts of the program's CountStrips and CountWithRoom at a frame; the condition: the frame is one of strips.
-/
import Derived.Test.YtkhlolhmaoenoaaRooms
import Derived.Test.YtkhlolhmaoenoaaRoom
namespace Go.Proofs.Ytkhlolhmaoenoaa
open Go.ChangeShapes Go.WideShapes Go.ChangeAt Go.RowKit Go.Deep Go.BigFrame
set_option linter.unusedVariables false
set_option linter.unusedSimpArgs false

theorem table_in {d f : Nat} (hd : d ≤ 8) (hf : f ≤ 8) : ∀ z ∈ table d f, 0 ≤ z ∧ z ≤ 65536 := by
  intro z hz
  unfold table at hz
  obtain ⟨r, _, rfl⟩ := List.mem_map.1 hz
  have := ways_16 (d := d) (f := f) r (by omega)
  omega
theorem sum_wide (zs : List Int) (hz : ∀ z ∈ zs, 0 ≤ z ∧ z ≤ 65536) : ∀ k : Nat, 0 ≤ sumI (zs.take k) ∧ sumI (zs.take k) ≤ 65536 * (k : Int) := by
  induction zs with
  | nil => intro k; simp [sumI]; omega
  | cons z zs ih =>
    intro k
    have h0 := hz z List.mem_cons_self
    cases k with
    | zero => simp [sumI]
    | succ k =>
      have h1 := ih (fun z h => hz z (List.mem_cons_of_mem _ h)) k
      simp only [sumI, List.take_succ_cons, List.sum_cons] at h1 ⊢
      omega
theorem table_small {d f : Nat} (hd : d ≤ 8) (hf : f ≤ 8) : (table d f).length ≤ 65 := by
  rw [table_len]
  have := Nat.mul_le_mul hd hf
  omega

theorem implCountStrips_any (d f : Nat) (w : World) (hd : 1 ≤ d ∧ d ≤ 8) (hf : 1 ≤ f ∧ f ≤ 8) : Calls Try.prog 59 #[.int .i64 d, .int .i64 f] w fun e w' => e = .returned (.int .i64 (sumI (table d f))) ∧ Below w.heap.size w w' := by
  have HT := Lib.hid (fun w => implRoomTable_any d f w)
  rw [show roomTable (d : Int) (f : Int) = table d f from if_pos (andI (inB_iff.2 (by omega)) (inB_iff.2 (by omega)))] at HT
  have HS := Lib.hid (sum_wide (table d f) (table_in hd.2 hf.2))
  have HU := Lib.hid (sum_take (table d f))
  have hl := table_small hd.2 hf.2
  have HA := Lib.hid (List.take_length (l := table d f))
  generalize table d f = T at *
  go_enter Try.func59, Try.ntmps59
  go_wp2_with fail
  refine (HT.out _).mono ?_
  rintro e w1 ⟨A, c, rfl, ho, hb⟩
  have HB := Lib.hid hb
  have hx := IRow.of_own ho
  clear ho hb
  go_wp2_with fail
  go_loop [5, 12] (fun n i => ∃ k : Nat, k ≤ T.length ∧ i = .int .i64 k ∧ n = .int .i64 (sumI (T.take k))) (fun _ i => T.length - (intOf i).toNat)
  case atStart => exact ⟨0, Nat.zero_le _, rfl, rfl⟩
  case round =>
    obtain ⟨k, hk, rfl, rfl⟩ := hrel
    have h1 := HS.out k
    by_cases hlt : k < T.length
    · have hi : (k : Int) < (T.length : Int) := by omega
      obtain ⟨b, o, rfl, hb, hc⟩ := hx.at_ hlt
      have h2 := HS.out (k + 1)
      have HK := Lib.hid (HU.out k hlt)
      rw [HK.out] at h2
      generalize T.getD k 0 = z at *
      generalize sumI (T.take k) = s at *
      clear hx
      go_wp2_with fail
      go_round
      case rel => exact ⟨k + 1, by omega, by go_num, by rw [HK.out]⟩
      case measure => simp [intOf]; omega
    · obtain rfl : k = T.length := by omega
      rw [HA.out]
      clear hx
      go_wp2_with fail
      go_ret
      exact ⟨rfl, HB.out⟩

theorem implCountWithRoom_any (d f r : Nat) (w : World) (hd : 1 ≤ d ∧ d ≤ 8) (hf : 1 ≤ f ∧ f ≤ 8) (hr : r < (table d f).length) : Calls Try.prog 56 #[.int .i64 d, .int .i64 f, .int .i64 r] w fun e w' => e = .returned (.int .i64 ((table d f).getD r 0)) ∧ Below w.heap.size w w' := by
  have HT := Lib.hid (fun w => implRoomTable_any d f w)
  rw [show roomTable (d : Int) (f : Int) = table d f from if_pos (andI (inB_iff.2 (by omega)) (inB_iff.2 (by omega)))] at HT
  have hl := table_small hd.2 hf.2
  generalize table d f = T at *
  have hri : (r : Int) < (T.length : Int) := by omega
  have HW := Lib.hid (fun w => within_any r 0 ((T.length : Int) - 1) w)
  rw [show inB (r : Int) 0 ((T.length : Int) - 1) = true from inB_iff.2 (by omega)] at HW
  obtain ⟨z, hz⟩ : ∃ z, T.getD r 0 = z := ⟨_, rfl⟩
  rw [hz]
  have HZ := Lib.hid hz
  clear hz
  go_enter Try.func56, Try.ntmps56
  go_wp2_with fail
  refine (HT.out _).mono ?_
  rintro e w1 ⟨A, c, rfl, ho, hb⟩
  have HB := Lib.hid hb
  obtain ⟨b, o, rfl, hb2, hc⟩ := (IRow.of_own ho).at_ hr
  rw [HZ.out] at hc
  clear ho hb
  go_wp2_with fail
  refine (HW.out _).mono ?_
  rintro e w2 ⟨rfl, rfl⟩
  go_wp2_with fail
  go_ret
  exact ⟨rfl, HB.out⟩

end Go.Proofs.Ytkhlolhmaoenoaa
