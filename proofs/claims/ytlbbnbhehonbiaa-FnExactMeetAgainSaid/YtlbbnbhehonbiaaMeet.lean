/-
  Contracts of MeetAgain on both sides; no condition.
-/
import Derived.Test.YtlbbnbhehonbiaaDisc2
namespace Go.Proofs.Ytlbbnbhehonbiaa
open Go.ChangeShapes Go.WideShapes Go.ChangeAt Go.RowKit Go.Deep Go.BigFrame
set_option linter.unusedVariables false

/-- the least common multiple, where both discs are valid -/
def meetV (s1 n1 : Int) (xs : List Int) (s2 n2 : Int) (ys : List Int) : Int := if dcOk s1 n1 xs = true ∧ dcOk s2 n2 ys = true then (Nat.lcm s1.toNat s2.toNat : Int) else -1

theorem divisor_any (a b : Nat) (w : World) (ha : a ≤ 1000) (hb : b ≤ 1000) : Calls Try.prog 67 #[.int .i64 a, .int .i64 b] w fun e w' => e = .returned (.int .i64 (Nat.gcd a b : Int)) ∧ ∃ q, w' = w.drewN q := by
  generalize hg : Nat.gcd a b = g
  have HG := Lib.hid hg
  clear hg
  go_enter Try.func67, Try.ntmps67
  go_wp2
  go_loopw [0, 1] (fun x y wr => ∃ p q : Nat, x = .int .i64 p ∧ y = .int .i64 q ∧ p ≤ 1000 ∧ q ≤ 1000 ∧ Nat.gcd p q = g ∧ ∃ k, wr = w.drewN k) (fun _ y _ => (intOf y).toNat)
  case atStart => exact ⟨a, b, rfl, rfl, ha, hb, HG.out, 0, rfl⟩
  case round =>
    obtain ⟨p, q, rfl, rfl, hp, hq, hg, k, rfl⟩ := hrel
    have H1 := Lib.hid hg
    clear hg
    by_cases hz : q = 0
    · subst hz
      have hb0 : (((0 : Nat) : Int) != 0) = false := by simp
      go_wp2
      go_ret
      refine ⟨?_, k, rfl⟩
      have := H1.out
      rw [Nat.gcd_zero_right] at this
      rw [← this]
      rfl
    · have hb1 : ((q : Int) != 0) = true := by simp; omega
      have hb2 : ((q : Int) == 0) = false := by simp; omega
      have hq1 : 1 ≤ (q : Int) := by omega
      go_wp2_with fail
      go_quiet (fail)
      go_wp2_with fail
      go_roundw
      case rel =>
        refine ⟨q, p % q, rfl, by simp, hq, ?_, ?_, _, World.drewN_drewN w _ _⟩
        · have := Nat.mod_lt p (show 0 < q by omega); omega
        · rw [← H1.out, Nat.gcd_comm p q, Nat.gcd_comm q (p % q), ← Nat.gcd_rec q p]
      case measure =>
        simp only [intOf]
        have := Nat.mod_lt p (show 0 < q by omega)
        simp
        omega

theorem implMeetAgain_any (s1 n1 s2 n2 : Int) (A B : Option Addr) (c d : Nat) (xs ys : List Int) (w : World) (hx : IRow w w.heap.size A xs) (hy : IRow w w.heap.size B ys)
    (bs1 : -9223372036854775808 ≤ s1 ∧ s1 ≤ 9223372036854775807) (bs2 : -9223372036854775808 ≤ s2 ∧ s2 ≤ 9223372036854775807) :
    Calls Try.prog 41 #[.agg #[.int .i64 s1, .int .i64 n1, .slice A xs.length c], .agg #[.int .i64 s2, .int .i64 n2, .slice B ys.length d]] w fun e w' => e = .returned (.int .i64 (meetV s1 n1 xs s2 n2 ys)) ∧ Below w.heap.size w w' := by
  by_cases h1 : dcOk s1 n1 xs = true
  · by_cases h2 : dcOk s2 n2 ys = true
    · rw [show meetV s1 n1 xs s2 n2 ys = (Nat.lcm s1.toNat s2.toNat : Int) from if_pos ⟨h1, h2⟩]
      obtain ⟨a1, a2, a3, a4, a5⟩ := dcOk_parts h1
      obtain ⟨e1, e2, e3, e4, e5⟩ := dcOk_parts h2
      obtain ⟨p, rfl⟩ := Int.eq_ofNat_of_zero_le (show 0 ≤ s1 by omega)
      obtain ⟨q, rfl⟩ := Int.eq_ofNat_of_zero_le (show 0 ≤ s2 by omega)
      rw [Int.toNat_natCast, Int.toNat_natCast]
      clear a3 a4 a5 e3 e4 e5
      have hgp : 1 ≤ Nat.gcd p q := Nat.gcd_pos_of_pos_left _ (by omega)
      have hfin : ((p : Int) / (Nat.gcd p q : Int)) * (q : Int) = (Nat.lcm p q : Int) := by
        rw [← Int.natCast_ediv, ← Int.natCast_mul, Nat.lcm, Nat.mul_comm p q, Nat.mul_div_assoc q (Nat.gcd_dvd_left p q), Nat.mul_comm]
      have hle : p / Nat.gcd p q ≤ p := Nat.div_le_self _ _
      generalize hL : Nat.lcm p q = L at *
      have HF := Lib.hid hfin
      clear hfin hL
      have hdv := divisor_any p q
      generalize Nat.gcd p q = g at *
      have HD := Lib.hid hdv
      clear hdv
      obtain ⟨r, hr⟩ : ∃ r : Nat, r = p / g := ⟨_, rfl⟩
      have hr' : (p : Int) / (g : Int) = (r : Int) := by rw [hr, Int.natCast_ediv]
      have hr2 : (r : Int) ≤ 24 := by omega
      have HW : Hid (wrap64 (wrap64 ((p : Int) / (g : Int)) * (q : Int)) = (L : Int)) := by
        show wrap64 (wrap64 ((p : Int) / (g : Int)) * (q : Int)) = (L : Int)
        have h0 := HF.out
        rw [hr'] at h0 ⊢
        have hq24 : q ≤ 24 := by omega
        have hr24 : r ≤ 24 := by omega
        have hm : r * q ≤ 24 * 24 := Nat.mul_le_mul hr24 hq24
        have hm2 : (r : Int) * (q : Int) = ((r * q : Nat) : Int) := by simp
        rw [IntWalk.wrap64_in (r : Int) ⟨by omega, by omega⟩, IntWalk.wrap64_in _ ⟨by rw [hm2]; omega, by rw [hm2]; omega⟩, h0]
      clear hr' hr hle
      go_enter Try.func41, Try.ntmps41
      go_wp2_with fail
      refine (implDiscOk_any _ _ _ _ _ _ (hx.on (by repeat' (first | exact Below.refl _ _ | assumption | (refine Below.drew ?_) | (refine below_drewN ?_ _) | (refine below_thru ?_ (by assumption)) | (refine below_alloc ?_ _) | (refine Below.setCell ?_ (by first | omega | (simp; done) | (simp; omega)) _) | (refine Below.alloc ?_ (by first | omega | (simp; done) | (simp; omega)) _)))) bs1).mono ?_
      rw [h1]
      rintro e w1 ⟨rfl, hb1⟩
      obtain ⟨hc1, hf1⟩ := bcell hb1
      go_wp2_with fail
      refine (implDiscOk_any _ _ _ _ _ _ (hy.on (by repeat' (first | exact Below.refl _ _ | assumption | (refine Below.drew ?_) | (refine below_drewN ?_ _) | (refine below_thru ?_ (by assumption)) | (refine below_alloc ?_ _) | (refine Below.setCell ?_ (by first | omega | (simp; done) | (simp; omega)) _) | (refine Below.alloc ?_ (by first | omega | (simp; done) | (simp; omega)) _)))) bs2).mono ?_
      rw [h2]
      rintro e w2 ⟨rfl, hb2⟩
      have k0 : w2.cell? ⟨w.heap.size, 0, none⟩ = some (.int .i64 p) := cell_on hb2 (cell_on hb1 (by go_simp))
      have k1 : w2.cell? ⟨w.heap.size + 1, 0, none⟩ = some (.int .i64 q) := cell_on hb2 (cell_on hb1 (by go_simp))
      have hbz := Lib.hid (show Below w.heap.size w w2 from (by repeat' (first | exact Below.refl _ _ | assumption | (refine Below.drew ?_) | (refine below_drewN ?_ _) | (refine below_thru ?_ (by assumption)) | (refine below_alloc ?_ _) | (refine Below.setCell ?_ (by first | omega | (simp; done) | (simp; omega)) _) | (refine Below.alloc ?_ (by first | omega | (simp; done) | (simp; omega)) _))))
      clear hc1 hf1 hb1 hb2 hx hy h1 h2
      go_wp2_with fail
      go_quiet ((go_at_call 67; exact Calls.quiet_of (HD.out _ (by omega) (by omega))))
      go_wp2_with fail
      go_ret
      refine ⟨?_, below_drewN hbz.out _⟩
      rw [← HW.out]
      rfl
    · have h2' : dcOk s2 n2 ys = false := by simpa using h2
      rw [show meetV s1 n1 xs s2 n2 ys = -1 from if_neg (by simp [h2'])]
      clear h2
      go_enter Try.func41, Try.ntmps41
      go_wp2_with fail
      refine (implDiscOk_any _ _ _ _ _ _ (hx.on (by repeat' (first | exact Below.refl _ _ | assumption | (refine Below.drew ?_) | (refine below_drewN ?_ _) | (refine below_thru ?_ (by assumption)) | (refine below_alloc ?_ _) | (refine Below.setCell ?_ (by first | omega | (simp; done) | (simp; omega)) _) | (refine Below.alloc ?_ (by first | omega | (simp; done) | (simp; omega)) _)))) bs1).mono ?_
      rw [h1]
      rintro e w1 ⟨rfl, hb1⟩
      obtain ⟨hc1, hf1⟩ := bcell hb1
      go_wp2_with fail
      refine (implDiscOk_any _ _ _ _ _ _ (hy.on (by repeat' (first | exact Below.refl _ _ | assumption | (refine Below.drew ?_) | (refine below_drewN ?_ _) | (refine below_thru ?_ (by assumption)) | (refine below_alloc ?_ _) | (refine Below.setCell ?_ (by first | omega | (simp; done) | (simp; omega)) _) | (refine Below.alloc ?_ (by first | omega | (simp; done) | (simp; omega)) _)))) bs2).mono ?_
      rw [h2']
      rintro e w2 ⟨rfl, hb2⟩
      go_wp2_with fail
      go_ret
      exact ⟨rfl, (by repeat' (first | exact Below.refl _ _ | assumption | (refine Below.drew ?_) | (refine below_drewN ?_ _) | (refine below_thru ?_ (by assumption)) | (refine below_alloc ?_ _) | (refine Below.setCell ?_ (by first | omega | (simp; done) | (simp; omega)) _) | (refine Below.alloc ?_ (by first | omega | (simp; done) | (simp; omega)) _)))⟩
  · have h1' : dcOk s1 n1 xs = false := by simpa using h1
    rw [show meetV s1 n1 xs s2 n2 ys = -1 from if_neg (by simp [h1'])]
    clear h1
    go_enter Try.func41, Try.ntmps41
    go_wp2_with fail
    refine (implDiscOk_any _ _ _ _ _ _ (hx.on (by repeat' (first | exact Below.refl _ _ | assumption | (refine Below.drew ?_) | (refine below_drewN ?_ _) | (refine below_thru ?_ (by assumption)) | (refine below_alloc ?_ _) | (refine Below.setCell ?_ (by first | omega | (simp; done) | (simp; omega)) _) | (refine Below.alloc ?_ (by first | omega | (simp; done) | (simp; omega)) _)))) bs1).mono ?_
    rw [h1']
    rintro e w1 ⟨rfl, hb1⟩
    go_wp2_with fail
    go_ret
    exact ⟨rfl, (by repeat' (first | exact Below.refl _ _ | assumption | (refine Below.drew ?_) | (refine below_drewN ?_ _) | (refine below_thru ?_ (by assumption)) | (refine below_alloc ?_ _) | (refine Below.setCell ?_ (by first | omega | (simp; done) | (simp; omega)) _) | (refine Below.alloc ?_ (by first | omega | (simp; done) | (simp; omega)) _)))⟩

/-- how often the first number fits into the least common multiple -/
theorem lcm_at {p q j : Nat} (hp : 1 ≤ p) (hq : 1 ≤ q) (h0 : 1 ≤ j) (h1 : q ∣ p * j) (h2 : ∀ i, 1 ≤ i → i < j → ¬ q ∣ p * i) : p * j = Nat.lcm p q := by
  have hd : Nat.lcm p q ∣ p * j := Nat.lcm_dvd (Nat.dvd_mul_right _ _) h1
  obtain ⟨m, hm⟩ := Nat.dvd_lcm_left p q
  have hpos : 0 < Nat.lcm p q := Nat.lcm_pos (by omega) (by omega)
  have hm1 : 1 ≤ m := by
    rcases Nat.eq_zero_or_pos m with h | h
    · subst h; rw [hm] at hpos; simp at hpos
    · exact h
  have hle : Nat.lcm p q ≤ p * j := Nat.le_of_dvd (Nat.mul_pos (by omega) (by omega)) hd
  have hmj : m ≤ j := by
    rw [hm] at hle
    exact Nat.le_of_mul_le_mul_left hle (by omega)
  have : ¬ m < j := fun h => h2 m hm1 h (by rw [← hm]; exact Nat.dvd_lcm_right p q)
  have : m = j := by omega
  rw [hm, this]

theorem specMeetAgain_any (s1 n1 s2 n2 : Int) (A B : Option Addr) (c d : Nat) (xs ys : List Int) (w : World) (hx : IRow w w.heap.size A xs) (hy : IRow w w.heap.size B ys)
    (bs1 : -9223372036854775808 ≤ s1 ∧ s1 ≤ 9223372036854775807) (bs2 : -9223372036854775808 ≤ s2 ∧ s2 ≤ 9223372036854775807) :
    Calls Try.prog 40 #[.agg #[.int .i64 s1, .int .i64 n1, .slice A xs.length c], .agg #[.int .i64 s2, .int .i64 n2, .slice B ys.length d]] w fun e w' => e = .returned (.int .i64 (meetV s1 n1 xs s2 n2 ys)) ∧ Below w.heap.size w w' := by
  by_cases h1 : dcOk s1 n1 xs = true
  · by_cases h2 : dcOk s2 n2 ys = true
    · rw [show meetV s1 n1 xs s2 n2 ys = (Nat.lcm s1.toNat s2.toNat : Int) from if_pos ⟨h1, h2⟩]
      obtain ⟨a1, a2, a3, a4, a5⟩ := dcOk_parts h1
      obtain ⟨e1, e2, e3, e4, e5⟩ := dcOk_parts h2
      obtain ⟨p, rfl⟩ := Int.eq_ofNat_of_zero_le (show 0 ≤ s1 by omega)
      obtain ⟨q, rfl⟩ := Int.eq_ofNat_of_zero_le (show 0 ≤ s2 by omega)
      rw [Int.toNat_natCast, Int.toNat_natCast]
      clear a3 a4 a5 e3 e4 e5
      generalize hL : Nat.lcm p q = L at *
      have HL := Lib.hid hL
      clear hL
      have hq0 : ((q : Int) == 0) = false := by simp; omega
      go_enter Try.func40, Try.ntmps40
      go_wp2_with fail
      refine (specDiscOk_any _ _ _ _ _ _ (hx.on (by repeat' (first | exact Below.refl _ _ | assumption | (refine Below.drew ?_) | (refine below_drewN ?_ _) | (refine below_thru ?_ (by assumption)) | (refine below_alloc ?_ _) | (refine Below.setCell ?_ (by first | omega | (simp; done) | (simp; omega)) _) | (refine Below.alloc ?_ (by first | omega | (simp; done) | (simp; omega)) _)))) bs1).mono ?_
      rw [h1]
      rintro e w1 ⟨rfl, hb1⟩
      obtain ⟨hc1, hf1⟩ := bcell hb1
      go_wp2_with fail
      refine (specDiscOk_any _ _ _ _ _ _ (hy.on (by repeat' (first | exact Below.refl _ _ | assumption | (refine Below.drew ?_) | (refine below_drewN ?_ _) | (refine below_thru ?_ (by assumption)) | (refine below_alloc ?_ _) | (refine Below.setCell ?_ (by first | omega | (simp; done) | (simp; omega)) _) | (refine Below.alloc ?_ (by first | omega | (simp; done) | (simp; omega)) _)))) bs2).mono ?_
      rw [h2]
      rintro e w2 ⟨rfl, hb2⟩
      have k0 : w2.cell? ⟨w.heap.size, 0, none⟩ = some (.int .i64 p) := cell_on hb2 (cell_on hb1 (by go_simp))
      have k1 : w2.cell? ⟨w.heap.size + 1, 0, none⟩ = some (.int .i64 q) := cell_on hb2 (cell_on hb1 (by go_simp))
      have hbz := Lib.hid (show Below w.heap.size w w2 from (by repeat' (first | exact Below.refl _ _ | assumption | (refine Below.drew ?_) | (refine below_drewN ?_ _) | (refine below_thru ?_ (by assumption)) | (refine below_alloc ?_ _) | (refine Below.setCell ?_ (by first | omega | (simp; done) | (simp; omega)) _) | (refine Below.alloc ?_ (by first | omega | (simp; done) | (simp; omega)) _))))
      clear hc1 hf1 hb1 hb2 hx hy h1 h2
      go_wp2_with fail
      go_loop [5] (fun x => ∃ j : Nat, 1 ≤ j ∧ j ≤ q ∧ x = .int .i64 (p * j : Nat) ∧ ∀ i, 1 ≤ i → i < j → ¬ q ∣ p * i) (fun x => (600 - intOf x).toNat)
      case atStart => exact ⟨1, Nat.le_refl _, by omega, by rw [Nat.mul_one], fun i hi hj => absurd hi (by omega)⟩
      case round =>
        obtain ⟨j, hj1, hj2, rfl, ht⟩ := hrel
        have HT := Lib.hid ht
        clear ht
        have hq24 : q ≤ 24 := by omega
        have hm : p * j ≤ 24 * 24 := Nat.mul_le_mul (by omega) (by omega)
        obtain ⟨x, hx⟩ : ∃ x : Nat, x = p * j := ⟨_, rfl⟩
        rw [← hx] at hm ⊢
        have HX := Lib.hid hx
        clear hx
        have hmod : (x : Int) % (q : Int) = ((x % q : Nat) : Int) := by simp
        by_cases hd : x % q = 0
        · have hb : ((x : Int) % (q : Int) != 0) = false := by rw [hmod, hd]; simp
          have HD := Lib.hid (Nat.dvd_of_mod_eq_zero hd)
          clear hd hmod
          go_wp2_with fail
          go_ret
          refine ⟨?_, hbz.out⟩
          have h3 := lcm_at (p := p) (q := q) (j := j) (by omega) (by omega) hj1 (by rw [← HX.out]; exact HD.out) HT.out
          rw [← HL.out, ← h3, ← HX.out]
          rfl
        · have hb : ((x : Int) % (q : Int) != 0) = true := by rw [hmod]; simp; omega
          have HD := Lib.hid hd
          clear hd hmod
          go_wp2_with fail
          go_round
          case rel =>
            have hnd : ¬ q ∣ p * j := fun h => HD.out (by rw [HX.out]; exact Nat.mod_eq_zero_of_dvd h)
            have hlt : j < q := by
              rcases Nat.lt_or_ge j q with h | h
              · exact h
              · have : j = q := by omega
                exact absurd (by rw [this]; exact Nat.dvd_mul_left q p) hnd
            refine ⟨j + 1, by omega, by omega, ?_, ?_⟩
            · rw [Nat.mul_add, Nat.mul_one, ← HX.out]; go_num
            · intro i hi hij
              by_cases h : i = j
              · rw [h]; exact hnd
              · exact HT.out i hi (by omega)
          case measure => simp [intOf]; omega
    · have h2' : dcOk s2 n2 ys = false := by simpa using h2
      rw [show meetV s1 n1 xs s2 n2 ys = -1 from if_neg (by simp [h2'])]
      clear h2
      go_enter Try.func40, Try.ntmps40
      go_wp2_with fail
      refine (specDiscOk_any _ _ _ _ _ _ (hx.on (by repeat' (first | exact Below.refl _ _ | assumption | (refine Below.drew ?_) | (refine below_drewN ?_ _) | (refine below_thru ?_ (by assumption)) | (refine below_alloc ?_ _) | (refine Below.setCell ?_ (by first | omega | (simp; done) | (simp; omega)) _) | (refine Below.alloc ?_ (by first | omega | (simp; done) | (simp; omega)) _)))) bs1).mono ?_
      rw [h1]
      rintro e w1 ⟨rfl, hb1⟩
      obtain ⟨hc1, hf1⟩ := bcell hb1
      go_wp2_with fail
      refine (specDiscOk_any _ _ _ _ _ _ (hy.on (by repeat' (first | exact Below.refl _ _ | assumption | (refine Below.drew ?_) | (refine below_drewN ?_ _) | (refine below_thru ?_ (by assumption)) | (refine below_alloc ?_ _) | (refine Below.setCell ?_ (by first | omega | (simp; done) | (simp; omega)) _) | (refine Below.alloc ?_ (by first | omega | (simp; done) | (simp; omega)) _)))) bs2).mono ?_
      rw [h2']
      rintro e w2 ⟨rfl, hb2⟩
      go_wp2_with fail
      go_ret
      exact ⟨rfl, (by repeat' (first | exact Below.refl _ _ | assumption | (refine Below.drew ?_) | (refine below_drewN ?_ _) | (refine below_thru ?_ (by assumption)) | (refine below_alloc ?_ _) | (refine Below.setCell ?_ (by first | omega | (simp; done) | (simp; omega)) _) | (refine Below.alloc ?_ (by first | omega | (simp; done) | (simp; omega)) _)))⟩
  · have h1' : dcOk s1 n1 xs = false := by simpa using h1
    rw [show meetV s1 n1 xs s2 n2 ys = -1 from if_neg (by simp [h1'])]
    clear h1
    go_enter Try.func40, Try.ntmps40
    go_wp2_with fail
    refine (specDiscOk_any _ _ _ _ _ _ (hx.on (by repeat' (first | exact Below.refl _ _ | assumption | (refine Below.drew ?_) | (refine below_drewN ?_ _) | (refine below_thru ?_ (by assumption)) | (refine below_alloc ?_ _) | (refine Below.setCell ?_ (by first | omega | (simp; done) | (simp; omega)) _) | (refine Below.alloc ?_ (by first | omega | (simp; done) | (simp; omega)) _)))) bs1).mono ?_
    rw [h1']
    rintro e w1 ⟨rfl, hb1⟩
    go_wp2_with fail
    go_ret
    exact ⟨rfl, (by repeat' (first | exact Below.refl _ _ | assumption | (refine Below.drew ?_) | (refine below_drewN ?_ _) | (refine below_thru ?_ (by assumption)) | (refine below_alloc ?_ _) | (refine Below.setCell ?_ (by first | omega | (simp; done) | (simp; omega)) _) | (refine Below.alloc ?_ (by first | omega | (simp; done) | (simp; omega)) _)))⟩

end Go.Proofs.Ytlbbnbhehonbiaa
