
/-
  The contracts of IsLoose and RoomBetween on both sides; no condition beyond the length of the texts.
-/
import Derived.Test.YtpeopfkechbelaaBridge2
import Derived.Test.YtpeopfkechbelaaArea
namespace Go.Proofs.Ytpeopfkechbelaa
open Go.ChangeShapes Go.WideShapes Go.ChangeAt Go.RowKit Go.Deep Go.BigFrame
set_option linter.unusedVariables false
set_option linter.unusedSimpArgs false

/-- no beginning of st but the empty one has as many letters f as that of own -/
def apartB (st own : List UInt8) : Bool := (List.range st.length).all fun k => decide (k = 0) || !decide (fw (st.take k) = fw (own.take k))
theorem apartB_yes {st own : List UInt8} {n : Nat} (hl : st.length = n) (h : ∀ j, 1 ≤ j → j < n → ¬ fw (st.take j) = fw (own.take j)) : apartB st own = true := by
  unfold apartB
  rw [List.all_eq_true]
  intro k hk
  rw [List.mem_range, hl] at hk
  by_cases h0 : k = 0
  · simp [h0]
  · have := h k (by omega) hk
    simp [this]
theorem apartB_no {st own : List UInt8} {k : Nat} (h1 : 1 ≤ k) (h2 : k < st.length) (h : fw (st.take k) = fw (own.take k)) : apartB st own = false := by
  cases e : apartB st own with
  | false => rfl
  | true =>
    exfalso
    unfold apartB at e
    rw [List.all_eq_true] at e
    have := e k (List.mem_range.2 h2)
    have h0 : ¬ k = 0 := by omega
    simp [h0, h] at this
def looseB (l : List UInt8) (fr to : Int) (st : List UInt8) : Bool := bridgeOk l fr to st && apartB st (cutL l fr.toNat to.toNat)
theorem cutL_take (l : List UInt8) (a b k : Nat) (h : a + k ≤ b) : cutL l a (a + k) = (cutL l a b).take k := by
  unfold cutL
  rw [List.take_take]
  congr 1
  omega

/-- the letters f of a text, of a beginning -/
def fB (s : ByteArray) : Nat := fw s.data.toList
def fkB (s : ByteArray) (k : Nat) : Nat := fw (s.data.toList.take k)
theorem l02Count_B (s : ByteArray) (w : World) (hs : s.size ≤ 4294967296) : Calls Try.prog 70 #[.string s, .int .u8 102] w fun e w' => e = .returned (.int .i64 (fB s : Nat)) ∧ w = w' := l02Count_any s 102 w hs
theorem forwards_B (s : ByteArray) (k : Nat) (w : World) (hs : s.size ≤ 4294967296) (hk : k ≤ s.size) : Calls Try.prog 56 #[.string s, .int .i64 k] w fun e w' => e = .returned (.int .i64 (fkB s k : Nat)) ∧ w = w' := forwards_any s k w hs hk
theorem bridge_len {l st : List UInt8} {a b : Nat} (g : bridgeOk l (a : Int) (b : Int) st = true) : a < b ∧ b ≤ l.length ∧ st.length = b - a := by
  simp only [bridgeOk, Bool.and_eq_true] at g
  obtain ⟨_, g1, g2, g3⟩ := glued_parts g.1
  have f := g.2
  simp only [fits, Bool.and_eq_true, decide_eq_true_eq, Int.toNat_natCast] at f
  have := f.1
  rw [cutL_len (by omega) (by omega)] at this
  exact ⟨by omega, by omega, this⟩

theorem implIsLoose_any (s st : ByteArray) (fr to : Int) (w : World) (hs : s.size ≤ 4294967296) (ht : st.size ≤ 4294967296) : Calls Try.prog 23 #[.string s, .agg #[.int .i64 fr, .int .i64 to, .string st]] w fun e w' => e = .returned (.bool (looseB s.data.toList fr to st.data.toList)) ∧ Below w.heap.size w w' := by
  have hok := fun w => implBridgeOk_any s st fr to w hs ht
  by_cases g : bridgeOk s.data.toList fr to st.data.toList = true
  case neg =>
    have g' : bridgeOk s.data.toList fr to st.data.toList = false := by simpa using g
    rw [show looseB s.data.toList fr to st.data.toList = false by unfold looseB; rw [g']; rfl]
    rw [g'] at hok
    clear g g'
    go_enter Try.func23, Try.ntmps23
    go_wp2_with fail
    refine (hok _).mono ?_
    rintro e w1 ⟨rfl, hb⟩
    go_wp2_with fail
    go_ret
    exact ⟨rfl, (by repeat' (first | exact Below.refl _ _ | assumption | (refine Below.drew ?_) | (refine below_drewN ?_ _) | (refine below_thru ?_ (by assumption)) | (refine below_alloc ?_ _) | (refine Below.setCell ?_ (by first | omega | (simp; done) | (simp; omega)) _) | (refine Below.alloc ?_ (by first | omega | (simp; done) | (simp; omega)) _)))⟩
  rw [show looseB s.data.toList fr to st.data.toList = apartB st.data.toList (cutL s.data.toList fr.toNat to.toNat) by unfold looseB; rw [g]; rfl]
  rw [g] at hok
  have g' := g
  simp only [bridgeOk, Bool.and_eq_true] at g'
  obtain ⟨_, g1, g2, g3⟩ := glued_parts g'.1
  obtain ⟨a, rfl⟩ := Int.eq_ofNat_of_zero_le g1
  obtain ⟨b, rfl⟩ := Int.eq_ofNat_of_zero_le (show 0 ≤ to by omega)
  rw [Int.toNat_natCast, Int.toNat_natCast]
  obtain ⟨k1, k2, k3⟩ := bridge_len g
  rw [size_list] at k2 k3
  have HO := Lib.hid hok
  have zp : (s.extract a b).size ≤ 4294967296 := by rw [extract_size' (by omega) (by omega)]; omega
  have zq : st.size = (s.extract a b).size := by rw [extract_size' (by omega) (by omega)]; exact k3
  have zq2 : st.size ≤ (s.extract a b).size := by omega
  have hr := run_sl s (a : Int) (b : Int) a b rfl rfl (by omega) (by omega)
  have E2 := Lib.hid (extract_list s a b)
  clear zq
  generalize s.extract a b = p at *
  clear hok g g' g1 g2 g3
  have hlz := size_list st
  obtain ⟨l, hl⟩ : ∃ l, l = st.data.toList := ⟨_, rfl⟩
  rw [← hl] at hlz ⊢
  have L0 := Lib.hid hl.symm
  clear hl
  generalize cutL s.data.toList a b = m at *
  have LZ := Lib.hid hlz
  have K3 := Lib.hid k3
  clear hlz k3
  go_enter Try.func23, Try.ntmps23
  go_wp2_with fail
  refine (HO.out _).mono ?_
  rintro e w1 ⟨rfl, hb⟩
  obtain ⟨hc, hf⟩ := bcell hb
  have hz : w.heap.size < w1.heap.size := (by have hsz_ := hb.size; first | omega | (simp at hsz_; omega))
  have p0 : w1.cell? ⟨w.heap.size, 0, none⟩ = some (.int .i64 a) := by go_simp
  have p1 : w1.cell? ⟨w.heap.size, 1, none⟩ = some (.int .i64 b) := by go_simp
  have p2 : w1.cell? ⟨w.heap.size, 2, none⟩ = some (.string st) := by go_simp
  have P0 := Lib.hid p0
  have P1 := Lib.hid p1
  have P2 := Lib.hid p2
  have PB := Lib.hid (show Below w.heap.size w w1 from (by repeat' (first | exact Below.refl _ _ | assumption | (refine Below.drew ?_) | (refine below_drewN ?_ _) | (refine below_thru ?_ (by assumption)) | (refine below_alloc ?_ _) | (refine Below.setCell ?_ (by first | omega | (simp; done) | (simp; omega)) _) | (refine Below.alloc ?_ (by first | omega | (simp; done) | (simp; omega)) _))))
  clear hc hf hz p0 p1 p2 hb
  go_wp2_with fail
  go_loopw [5] (fun i wr => ∃ k : Nat, 1 ≤ k ∧ k ≤ st.size ∧ i = .int .i64 k ∧ wr.cell? ⟨w.heap.size, 0, none⟩ = some (.int .i64 a) ∧ wr.cell? ⟨w.heap.size, 1, none⟩ = some (.int .i64 b) ∧ wr.cell? ⟨w.heap.size, 2, none⟩ = some (.string st) ∧ Below w.heap.size w wr ∧ ∀ j, 1 ≤ j → j < k → ¬ fw (l.take j) = fw (m.take j)) (fun i _ => st.size - (intOf i).toNat)
  case atStart => exact ⟨1, Nat.le_refl _, by have := K3.out; omega, rfl, P0.out, P1.out, P2.out, PB.out, fun j h1 h2 => by omega⟩
  case round =>
    obtain ⟨k, hk1, hk2, rfl, q0, q1, q2, hbr, hall⟩ := hrel
    have HA := Lib.hid hall
    have HB := Lib.hid hbr
    clear hall hbr
    by_cases hlt : k < st.size
    · have z1 : k ≤ st.size := hk2
      have z2 : k ≤ p.size := by omega
      have x1 : fkB st k = fw (l.take k) := by unfold fkB; rw [L0.out]
      have x2 : fkB p k = fw (m.take k) := by unfold fkB; rw [E2.out]
      have hno := apartB_no (st := l) (own := m) (k := k) hk1 (by rw [LZ.out]; exact hlt)
      have hyes : ¬ fw (l.take k) = fw (m.take k) → ∀ j, 1 ≤ j → j < k + 1 → ¬ fw (l.take j) = fw (m.take j) := fun h j h1 h2 => by
        by_cases e : j < k
        · exact HA.out j h1 e
        · obtain rfl : j = k := by omega
          exact h
      rw [← x1, ← x2] at hno hyes
      have HN := Lib.hid hno
      have HY := Lib.hid hyes
      clear hno hyes x1 x2
      have hi : (k : Int) < (st.size : Int) := by omega
      by_cases hxy : fkB st k = fkB p k
      · have he : ((fkB st k : Int) == (fkB p k : Int)) = true := by rw [hxy]; simp
        have HE := Lib.hid (HN.out hxy)
        clear hxy
        go_wp2_with fail
        go_quiet ((go_at_call 56; exact quiet_left (forwards_B _ _ _ (by assumption) (by assumption))))
        go_wp2_with fail
        go_ret
        exact ⟨by rw [HE.out]; rfl, below_drewN HB.out _⟩
      · have he : ((fkB st k : Int) == (fkB p k : Int)) = false := by simp; omega
        have HE := Lib.hid (HY.out hxy)
        clear hxy
        go_wp2_with fail
        go_quiet ((go_at_call 56; exact quiet_left (forwards_B _ _ _ (by assumption) (by assumption))))
        go_wp2_with fail
        go_roundw
        case rel => exact ⟨k + 1, by omega, by omega, by go_num, q0, q1, q2, below_drewN HB.out _, HE.out⟩
        case measure => simp [intOf]; omega
    · obtain rfl : k = st.size := by omega
      have HE := Lib.hid (apartB_yes LZ.out HA.out)
      go_wp2_with fail
      go_ret
      exact ⟨by rw [HE.out]; rfl, HB.out⟩

def roomBetween (s : ByteArray) (fr to : Int) (st : ByteArray) : Int := if bridgeOk s.data.toList fr to st.data.toList = true then areaOf s.data.toList (bridgedB s fr to st).data.toList else -1

theorem implRoomBetween_any (s st : ByteArray) (fr to : Int) (w : World) (hs : s.size ≤ 4294967296) (ht : st.size ≤ 4294967296) : Calls Try.prog 22 #[.string s, .agg #[.int .i64 fr, .int .i64 to, .string st]] w fun e w' => e = .returned (.int .i64 (roomBetween s fr to st)) ∧ Below w.heap.size w w' := by
  have hok := fun w => implBridgeOk_any s st fr to w hs ht
  by_cases g : bridgeOk s.data.toList fr to st.data.toList = true
  case neg =>
    have g' : bridgeOk s.data.toList fr to st.data.toList = false := by simpa using g
    rw [show roomBetween s fr to st = -1 from if_neg g]
    rw [g'] at hok
    clear g g'
    go_enter Try.func22, Try.ntmps22
    go_wp2_with fail
    refine (hok _).mono ?_
    rintro e w1 ⟨rfl, hb⟩
    go_wp2_with fail
    go_ret
    exact ⟨rfl, (by repeat' (first | exact Below.refl _ _ | assumption | (refine Below.drew ?_) | (refine below_drewN ?_ _) | (refine below_thru ?_ (by assumption)) | (refine below_alloc ?_ _) | (refine Below.setCell ?_ (by first | omega | (simp; done) | (simp; omega)) _) | (refine Below.alloc ?_ (by first | omega | (simp; done) | (simp; omega)) _)))⟩
  rw [show roomBetween s fr to st = areaOf s.data.toList (bridgedB s fr to st).data.toList from if_pos g]
  rw [g] at hok
  have HO := Lib.hid hok
  have HS := Lib.hid (fun w => implBridgedStrip_any s st fr to w hs ht)
  have HA := Lib.hid (fun w => implAreaBetween_any s (bridgedB s fr to st) w hs (bridgedB_size hs))
  clear hok g
  generalize areaOf s.data.toList (bridgedB s fr to st).data.toList = z at *
  generalize bridgedB s fr to st = t at *
  go_enter Try.func22, Try.ntmps22
  go_wp2_with fail
  refine (HO.out _).mono ?_
  rintro e w1 ⟨rfl, hb⟩
  obtain ⟨hc, hf⟩ := bcell hb
  have hz : w.heap.size < w1.heap.size := (by have hsz_ := hb.size; first | omega | (simp at hsz_; omega))
  go_wp2_with fail
  refine (HS.out _).mono ?_
  rintro e w2 ⟨rfl, hb2⟩
  go_wp2_with fail
  refine (HA.out _).mono ?_
  rintro e w3 ⟨rfl, hb3⟩
  go_wp2_with fail
  go_ret
  exact ⟨rfl, (by repeat' (first | exact Below.refl _ _ | assumption | (refine Below.drew ?_) | (refine below_drewN ?_ _) | (refine below_thru ?_ (by assumption)) | (refine below_alloc ?_ _) | (refine Below.setCell ?_ (by first | omega | (simp; done) | (simp; omega)) _) | (refine Below.alloc ?_ (by first | omega | (simp; done) | (simp; omega)) _)))⟩

end Go.Proofs.Ytpeopfkechbelaa
