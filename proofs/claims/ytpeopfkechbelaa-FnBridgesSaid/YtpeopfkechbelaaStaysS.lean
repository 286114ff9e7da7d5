
/-
  Contracts of the reference's StripAt, PlaceOf at the opening 0, ReachClosed and StaysInside of a strip.
-/
import Derived.Test.YtpeopfkechbelaaLayers
import Derived.Test.YtpeopfkechbelaaBridgeP
import Derived.BigRegion
namespace Go.Proofs.Ytpeopfkechbelaa
open Go.ChangeShapes Go.WideShapes Go.ChangeAt Go.RowKit Go.Deep Go.BigFrame
set_option linter.unusedVariables false
set_option linter.unusedSimpArgs false

theorem specStripAt_any (s : ByteArray) (k : Nat) (w : World) (hs : s.size ≤ 4294967296) (hk : k ≤ s.size) (h : isStrip s.data.toList = true) :
    Calls Try.prog 26 #[.string s, .int .i64 k] w fun e w' => e = .returned (.tuple #[.int .i64 (fw (s.data.toList.take k)), .int .i64 (dn (s.data.toList.take k)), .bool true]) ∧ ∃ q, w' = w.drewN q := by
  have c1 := fun w => specIsStrip_any s w hs
  rw [h] at c1
  have c3 := fun w => l01In_is (n := k) (lo := 0) (hi := s.size) (b := true) (inB_iff.2 ⟨by omega, by omega⟩) w
  have he : (s.extract 0 k).data.toList = s.data.toList.take k := by simp
  have hz : (s.extract 0 k).size ≤ 4294967296 := by rw [extract_size' (Nat.zero_le _) hk]; omega
  have c2 : ∀ w, Calls Try.prog 70 #[.string (s.extract 0 k), .int .u8 102] w fun e w' => e = .returned (.int .i64 (cn 102 (s.extract 0 k).data.toList : Nat)) ∧ w = w' := fun w => l02Count_any (s.extract 0 k) 102 w hz
  have c4 : ∀ w, Calls Try.prog 70 #[.string (s.extract 0 k), .int .u8 100] w fun e w' => e = .returned (.int .i64 (cn 100 (s.extract 0 k).data.toList : Nat)) ∧ w = w' := fun w => l02Count_any (s.extract 0 k) 100 w hz
  rw [he, cn_fw] at c2
  rw [he, cn_dn] at c4
  have hk' : (k : Int) ≤ (s.size : Int) := by omega
  have C1 := Lib.hid c1
  have C2 := Lib.hid c2
  have C3 := Lib.hid c3
  have C4 := Lib.hid c4
  clear c1 c2 c3 c4 h he hz
  generalize fw (s.data.toList.take k) = f at *
  generalize dn (s.data.toList.take k) = d at *
  go_enter Try.func26, Try.ntmps26
  go_wp2_with fail
  refine (C1.out _).mono ?_
  rintro e w1 ⟨rfl, rfl⟩
  go_wp2_with fail
  refine (C3.out _).mono ?_
  rintro e w1 ⟨rfl, rfl⟩
  go_wp2_with fail
  go_quiet ((first | (go_at_call 70; with_reducible exact quiet_left (C2.out _)) | (go_at_call 70; exact quiet_left (C4.out _))))
  go_wp2_with fail
  go_ret3
  exact ⟨rfl, _, rfl⟩

theorem specPlace0_any (s : ByteArray) (k : Nat) (w : World) (hs : s.size ≤ 4294967296) (hk : k ≤ s.size) (h : isStrip s.data.toList = true) :
    Calls Try.prog 96 #[.string s, .int .i64 k, .int .i64 0] w fun e w' => e = .returned (.tuple #[.int .i64 (posn s.data.toList k), .int .i64 0, .bool true]) ∧ ∃ q, w' = w.drewN q := by
  have c1 := fun w => specStripAt_any s k w hs hk h
  have c2 := fun w => specDownOf_any s w hs
  rw [downOf_yes h] at c2
  have c3 := fun w => l01In_is (n := 0) (lo := 0) (hi := 2) (b := true) rfl w
  have hst := strip_take h k (by rw [size_list]; exact hk)
  have hfl := fw_take_le s.data.toList k
  have hdl := dn_le s.data.toList
  rw [size_list] at hdl
  have hp : posn s.data.toList k = (fw (s.data.toList.take k) : Int) + ((dn s.data.toList : Int) - (dn (s.data.toList.take k) : Int)) := by unfold posn; omega
  rw [hp]
  clear hp
  generalize fw (s.data.toList.take k) = f at *
  generalize dn (s.data.toList.take k) = e at *
  generalize dn s.data.toList = d at *
  have C1 := Lib.hid c1
  have C2 := Lib.hid c2
  have C3 := Lib.hid c3
  clear c1 c2 c3 h
  go_enter Try.func96, Try.ntmps96
  go_wp2_with fail
  refine (C1.out _).mono ?_
  rintro e w1 ⟨rfl, q1, rfl⟩
  go_wp2_with fail
  refine (C3.out _).mono ?_
  rintro e w1 ⟨rfl, rfl⟩
  go_wp2_with fail
  refine (C2.out _).mono ?_
  rintro e w1 ⟨rfl, rfl⟩
  go_wp2_with fail
  go_ret3
  exact ⟨rfl, _, rfl⟩

theorem specReach_any (s : ByteArray) (w : World) (hs : s.size ≤ 4294967296) (h : isStrip s.data.toList = true) :
    Calls Try.prog 73 #[.string s] w fun e w' => (∃ n : Nat, n ≤ s.size ∧ e = .returned (.int .i64 n)) ∧ ∃ q, w' = w.drewN q := by
  have c1 := fun w => specIsStrip_any s w hs
  rw [h] at c1
  have C1 := Lib.hid c1
  have C2 := Lib.hid (fun k hk w => specPlace0_any s k w hs hk h)
  have P0 := Lib.hid (fun k (hk : k ≤ s.size) => posn_in h k (by rw [size_list]; exact hk))
  clear c1 h
  have hlz := Lib.hid (size_list s)
  generalize hP : (fun k => posn s.data.toList k) = F at *
  have FP := Lib.hid (fun k => congrFun hP k)
  clear hP
  go_enter Try.func73, Try.ntmps73
  go_wp2_with fail
  go_loopw [3, 4] (fun n i wr => ∃ (k m q : Nat), k ≤ s.size + 1 ∧ m ≤ s.size ∧ i = .int .i64 k ∧ n = .int .i64 m ∧ wr = w.drewN q) (fun _ i _ => s.size + 1 - (intOf i).toNat)
  case atStart => exact ⟨0, 0, 0, by omega, by omega, rfl, rfl, rfl⟩
  case round =>
    obtain ⟨k, m, q, hk, hm, rfl, rfl, rfl⟩ := hrel
    by_cases hlt : k ≤ s.size
    · have hi : (k : Int) ≤ (s.size : Int) := by omega
      obtain ⟨p1, p2⟩ := P0.out k hlt
      rw [hlz.out] at p2
      have c2 := C2.out k hlt
      obtain ⟨p, hp⟩ := Int.eq_ofNat_of_zero_le p1
      rw [hp] at p2 c2
      clear p1 hp
      have D2 := Lib.hid c2
      clear c2
      go_wp2_with fail
      refine (C1.out _).mono ?_
      rintro e w1 ⟨rfl, rfl⟩
      go_wp2_with fail
      refine (D2.out _).mono ?_
      rintro e w1 ⟨rfl, q1, rfl⟩
      have hmx : (max (m : Int) (p : Int)) = ((max m p : Nat) : Int) := by omega
      go_wp2_with fail
      go_roundw
      case rel => exact ⟨k + 1, max m p, _, by omega, by omega, by go_num, by go_num, rfl⟩
      case measure => simp [intOf]; omega
    · obtain rfl : k = s.size + 1 := by omega
      go_wp2_with fail
      go_ret
      exact ⟨⟨m, hm, rfl⟩, _, rfl⟩

theorem specStays_any (s : ByteArray) (n : Nat) (w : World) (hn : s.size = n) (h : isStrip s.data.toList = true) :
    Calls Try.prog 28 #[.string s, .int .i64 n] w fun e w' => e = .returned (.bool true) ∧ ∃ q, w' = w.drewN q := by
  subst hn
  have hl := isStrip_parts h
  rw [size_list] at hl
  have hs : s.size ≤ 4294967296 := by omega
  have c1 := fun w => specIsStrip_any s w hs
  rw [h] at c1
  have C1 := Lib.hid c1
  have C2 := Lib.hid (fun w => specReach_any s w hs h)
  have C3 := Lib.hid (fun w => l01In_is (n := s.size) (lo := 1) (hi := 40) (b := true) (inB_iff.2 ⟨by omega, by omega⟩) w)
  clear c1 h hl
  go_enter Try.func28, Try.ntmps28
  go_wp2_with fail
  refine (C1.out _).mono ?_
  rintro e w1 ⟨rfl, rfl⟩
  go_wp2_with fail
  refine (C3.out _).mono ?_
  rintro e w1 ⟨rfl, rfl⟩
  go_wp2_with fail
  refine (C2.out _).mono ?_
  rintro e w1 ⟨⟨m, hm, rfl⟩, q, rfl⟩
  have hm' : (m : Int) ≤ (s.size : Int) := by omega
  go_wp2_with fail
  go_ret
  exact ⟨rfl, _, rfl⟩

end Go.Proofs.Ytpeopfkechbelaa
