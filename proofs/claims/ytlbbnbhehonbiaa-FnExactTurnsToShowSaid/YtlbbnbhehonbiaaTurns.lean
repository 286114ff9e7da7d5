/-
  Contracts of TurnsToShow on both sides; no condition.
-/
import Derived.Test.YtlbbnbhehonbiaaDisc2
namespace Go.Proofs.Ytlbbnbhehonbiaa
open Go.ChangeShapes Go.WideShapes Go.ChangeAt Go.RowKit Go.Deep Go.BigFrame
set_option linter.unusedVariables false

/-- the first number of turns that shows the picture -/
def turnsV (sec now : Int) (zs : List Int) (win pic : Int) : Int :=
  match (List.range sec.toNat).find? (fun k : Nat => decide (picAt sec now zs (win + (k : Int)) = pic)) with
  | some k => (k : Int)
  | none => -1
def turnsToShow (sec now : Int) (zs : List Int) (win pic : Int) : Int := if winOk sec now zs win = true then turnsV sec now zs win pic else -1

theorem turnsV_at {sec now : Int} {zs : List Int} {win pic : Int} {k : Nat} (hk : k < sec.toNat) (h0 : ∀ j, j < k → ¬ picAt sec now zs (win + j) = pic) (h1 : picAt sec now zs (win + k) = pic) : turnsV sec now zs win pic = k := by
  have : (List.range sec.toNat).find? (fun k : Nat => decide (picAt sec now zs (win + (k : Int)) = pic)) = some k := by
    rw [List.find?_eq_some_iff_getElem]
    refine ⟨by simpa using h1, k, by simpa using hk, by simp, ?_⟩
    intro j hj
    simpa using h0 j hj
  unfold turnsV
  rw [this]
theorem turnsV_none {sec now : Int} {zs : List Int} {win pic : Int} (h0 : ∀ j : Nat, j < sec.toNat → ¬ picAt sec now zs (win + j) = pic) : turnsV sec now zs win pic = -1 := by
  have : (List.range sec.toNat).find? (fun k : Nat => decide (picAt sec now zs (win + (k : Int)) = pic)) = none := by
    rw [List.find?_eq_none]
    intro j hj
    simpa using h0 j (by simpa using hj)
  unfold turnsV
  rw [this]

theorem specTurnsToShow_any (sec now win pic : Int) (A : Option Addr) (c : Nat) (zs : List Int) (w : World) (hx : IRow w w.heap.size A zs) (bs : -9223372036854775808 ≤ sec ∧ sec ≤ 9223372036854775807) :
    Calls Try.prog 42 #[.agg #[.int .i64 sec, .int .i64 now, .slice A zs.length c], .int .i64 win, .int .i64 pic] w fun e w' => e = .returned (.int .i64 (turnsToShow sec now zs win pic)) ∧ Below w.heap.size w w' := by
  by_cases hwin : winOk sec now zs win = true
  · obtain ⟨h1, h2⟩ := winOk_parts hwin
    obtain ⟨q1, q2, q3, q4, q5⟩ := dcOk_parts h1
    obtain ⟨q6, q7⟩ := inB_iff.1 h2
    rw [show turnsToShow sec now zs win pic = turnsV sec now zs win pic from if_pos hwin]
    obtain ⟨n, rfl⟩ := Int.eq_ofNat_of_zero_le (show 0 ≤ sec by omega)
    generalize hR : turnsV n now zs win pic = R
    have HR := Lib.hid hR
    have HQ := Lib.hid q5
    clear hR q5
    go_enter Try.func42, Try.ntmps42
    go_wp2_with fail
    refine (specDiscOk_any _ _ _ _ _ _ (hx.on (by repeat' (first | exact Below.refl _ _ | assumption | (refine Below.drew ?_) | (refine below_drewN ?_ _) | (refine below_thru ?_ (by assumption)) | (refine below_alloc ?_ _) | (refine Below.setCell ?_ (by first | omega | (simp; done) | (simp; omega)) _) | (refine Below.alloc ?_ (by first | omega | (simp; done) | (simp; omega)) _)))) bs).mono ?_
    rw [h1]
    rintro e w1 ⟨rfl, hb2⟩
    have hl : zs.length = n := by have := HQ.out; omega
    have hx1 := Lib.hid (hx.on (w' := w1) (by repeat' (first | exact Below.refl _ _ | assumption | (refine Below.drew ?_) | (refine below_drewN ?_ _) | (refine below_thru ?_ (by assumption)) | (refine below_alloc ?_ _) | (refine Below.setCell ?_ (by first | omega | (simp; done) | (simp; omega)) _) | (refine Below.alloc ?_ (by first | omega | (simp; done) | (simp; omega)) _))))
    have hbz := Lib.hid (show Below w.heap.size w w1 from (by repeat' (first | exact Below.refl _ _ | assumption | (refine Below.drew ?_) | (refine below_drewN ?_ _) | (refine below_thru ?_ (by assumption)) | (refine below_alloc ?_ _) | (refine Below.setCell ?_ (by first | omega | (simp; done) | (simp; omega)) _) | (refine Below.alloc ?_ (by first | omega | (simp; done) | (simp; omega)) _))))
    have k0 : w1.cell? ⟨w.heap.size, 0, none⟩ = some (.int .i64 n) := cell_on hb2 (by go_simp)
    have k1 : w1.cell? ⟨w.heap.size, 1, none⟩ = some (.int .i64 now) := cell_on hb2 (by go_simp)
    have k2 : w1.cell? ⟨w.heap.size, 2, none⟩ = some (.slice A zs.length c) := cell_on hb2 (by go_simp)
    rw [hl] at k2 ⊢
    have HL := Lib.hid hl
    clear hl hx hb2 hwin
    have hd1 := h2
    clear h1 h2
    go_wp2_with (go_at_call 58; refine (l01In_any _ _ _ _).mono ?_; rw [hd1]; rintro e w' ⟨rfl, rfl⟩)
    go_loopw [7] (fun i wr => ∃ k : Nat, k ≤ n ∧ i = .int .i64 k ∧ (∀ j : Nat, j < k → ¬ picAt n now zs (win + j) = pic) ∧ ∃ q, wr = w1.drewN q) (fun i _ => n - (intOf i).toNat)
    case atStart => exact ⟨0, Nat.zero_le _, rfl, fun j hj => absurd hj (by omega), 0, rfl⟩
    case round =>
      obtain ⟨k, hk, rfl, ht, q, rfl⟩ := hrel
      have HT := Lib.hid ht
      clear ht
      by_cases hlt : k < n
      · have hr0 : 0 ≤ (now + win + (k : Int)) % (n : Int) := Int.emod_nonneg _ (by omega)
        have hr1 : (now + win + (k : Int)) % (n : Int) < n := Int.emod_lt_of_pos _ (by omega)
        obtain ⟨idx, hidx⟩ := Int.eq_ofNat_of_zero_le hr0
        have HP : Hid (picAt n now zs (win + k) = zs.getD idx 0) := by
          show picAt n now zs (win + k) = zs.getD idx 0
          unfold picAt
          rw [show now + (win + (k : Int)) = now + win + (k : Int) by omega, hidx, Int.toNat_natCast]
        rw [hidx] at hr0 hr1
        obtain ⟨b1, o1, rfl, hb1, hc1⟩ := hx1.out.at_ (k := idx) (by rw [HL.out]; omega)
        generalize hv : zs.getD idx 0 = v at *
        clear hv hx1
        have hi : (k : Int) < (n : Int) := by omega
        go_wp2_with fail
        go_quiet (fail)
        by_cases hvp : v = pic
        · have hb : (v == pic) = true := by simp [hvp]
          have HV : Hid (v = pic) := hvp
          clear hvp
          go_wp2_with fail
          go_ret
          refine ⟨?_, below_drewN (below_drewN hbz.out _) _⟩
          rw [← HR.out, turnsV_at (k := k) (by omega) HT.out (by rw [HP.out]; exact HV.out)]
          rfl
        · have hb : (v == pic) = false := by simp [hvp]
          have HV : Hid (¬ v = pic) := hvp
          clear hvp
          go_wp2_with fail
          go_roundw
          case rel =>
            refine ⟨k + 1, by omega, by go_num, ?_, _, rfl⟩
            intro j hj
            by_cases hjk : j = k
            · rw [hjk, HP.out]; exact HV.out
            · exact HT.out j (by omega)
          case measure => simp [intOf]; omega
      · obtain rfl : k = n := by omega
        go_wp2_with fail
        go_ret
        refine ⟨?_, below_drewN hbz.out _⟩
        rw [← HR.out, turnsV_none (fun j hj => HT.out j (by omega))]
        rfl
  · have h1' : winOk sec now zs win = false := by simpa using hwin
    rw [show turnsToShow sec now zs win pic = -1 from if_neg hwin]
    by_cases h1 : dcOk sec now zs = true
    · obtain ⟨q1, q2, q3, q4, q5⟩ := dcOk_parts h1
      have h2' : inB win 0 (sec - 1) = false := by simpa [winOk, h1] using h1'
      clear hwin q5
      go_enter Try.func42, Try.ntmps42
      go_wp2_with fail
      refine (specDiscOk_any _ _ _ _ _ _ (hx.on (by repeat' (first | exact Below.refl _ _ | assumption | (refine Below.drew ?_) | (refine below_drewN ?_ _) | (refine below_thru ?_ (by assumption)) | (refine below_alloc ?_ _) | (refine Below.setCell ?_ (by first | omega | (simp; done) | (simp; omega)) _) | (refine Below.alloc ?_ (by first | omega | (simp; done) | (simp; omega)) _)))) bs).mono ?_
      rw [h1]
      rintro e w1 ⟨rfl, hb2⟩
      obtain ⟨hc2, hf2⟩ := bcell hb2
      go_wp2_with (go_at_call 58; refine (l01In_any _ _ _ _).mono ?_; rw [h2']; rintro e w' ⟨rfl, rfl⟩)
      go_ret
      exact ⟨rfl, (by repeat' (first | exact Below.refl _ _ | assumption | (refine Below.drew ?_) | (refine below_drewN ?_ _) | (refine below_thru ?_ (by assumption)) | (refine below_alloc ?_ _) | (refine Below.setCell ?_ (by first | omega | (simp; done) | (simp; omega)) _) | (refine Below.alloc ?_ (by first | omega | (simp; done) | (simp; omega)) _)))⟩
    · have h1'' : dcOk sec now zs = false := by simpa using h1
      clear h1 hwin
      go_enter Try.func42, Try.ntmps42
      go_wp2_with fail
      refine (specDiscOk_any _ _ _ _ _ _ (hx.on (by repeat' (first | exact Below.refl _ _ | assumption | (refine Below.drew ?_) | (refine below_drewN ?_ _) | (refine below_thru ?_ (by assumption)) | (refine below_alloc ?_ _) | (refine Below.setCell ?_ (by first | omega | (simp; done) | (simp; omega)) _) | (refine Below.alloc ?_ (by first | omega | (simp; done) | (simp; omega)) _)))) bs).mono ?_
      rw [h1'']
      rintro e w1 ⟨rfl, hb2⟩
      go_wp2_with fail
      go_ret
      exact ⟨rfl, (by repeat' (first | exact Below.refl _ _ | assumption | (refine Below.drew ?_) | (refine below_drewN ?_ _) | (refine below_thru ?_ (by assumption)) | (refine below_alloc ?_ _) | (refine Below.setCell ?_ (by first | omega | (simp; done) | (simp; omega)) _) | (refine Below.alloc ?_ (by first | omega | (simp; done) | (simp; omega)) _)))⟩


theorem implTurnsToShow_any (sec now win pic : Int) (A : Option Addr) (c : Nat) (zs : List Int) (w : World) (hx : IRow w w.heap.size A zs) (bs : -9223372036854775808 ≤ sec ∧ sec ≤ 9223372036854775807) :
    Calls Try.prog 43 #[.agg #[.int .i64 sec, .int .i64 now, .slice A zs.length c], .int .i64 win, .int .i64 pic] w fun e w' => e = .returned (.int .i64 (turnsToShow sec now zs win pic)) ∧ Below w.heap.size w w' := by
  by_cases hwin : winOk sec now zs win = true
  · obtain ⟨h1, h2⟩ := winOk_parts hwin
    obtain ⟨q1, q2, q3, q4, q5⟩ := dcOk_parts h1
    obtain ⟨q6, q7⟩ := inB_iff.1 h2
    rw [show turnsToShow sec now zs win pic = turnsV sec now zs win pic from if_pos hwin]
    obtain ⟨n, rfl⟩ := Int.eq_ofNat_of_zero_le (show 0 ≤ sec by omega)
    generalize hR : turnsV n now zs win pic = R
    have HR := Lib.hid hR
    have HQ := Lib.hid q5
    clear hR q5
    go_enter Try.func43, Try.ntmps43
    go_wp2_with fail
    refine (isWindow_any _ _ _ _ _ _ _ (hx.on (by repeat' (first | exact Below.refl _ _ | assumption | (refine Below.drew ?_) | (refine below_drewN ?_ _) | (refine below_thru ?_ (by assumption)) | (refine below_alloc ?_ _) | (refine Below.setCell ?_ (by first | omega | (simp; done) | (simp; omega)) _) | (refine Below.alloc ?_ (by first | omega | (simp; done) | (simp; omega)) _)))) bs).mono ?_
    rw [hwin]
    rintro e w1 ⟨rfl, hb2⟩
    have hl : zs.length = n := by have := HQ.out; omega
    have hx1 := Lib.hid (hx.on (w' := w1) (by repeat' (first | exact Below.refl _ _ | assumption | (refine Below.drew ?_) | (refine below_drewN ?_ _) | (refine below_thru ?_ (by assumption)) | (refine below_alloc ?_ _) | (refine Below.setCell ?_ (by first | omega | (simp; done) | (simp; omega)) _) | (refine Below.alloc ?_ (by first | omega | (simp; done) | (simp; omega)) _))))
    have hbz := Lib.hid (show Below w.heap.size w w1 from (by repeat' (first | exact Below.refl _ _ | assumption | (refine Below.drew ?_) | (refine below_drewN ?_ _) | (refine below_thru ?_ (by assumption)) | (refine below_alloc ?_ _) | (refine Below.setCell ?_ (by first | omega | (simp; done) | (simp; omega)) _) | (refine Below.alloc ?_ (by first | omega | (simp; done) | (simp; omega)) _))))
    have k0 : w1.cell? ⟨w.heap.size, 0, none⟩ = some (.int .i64 n) := cell_on hb2 (by go_simp)
    have k1 : w1.cell? ⟨w.heap.size, 1, none⟩ = some (.int .i64 now) := cell_on hb2 (by go_simp)
    have k2 : w1.cell? ⟨w.heap.size, 2, none⟩ = some (.slice A zs.length c) := cell_on hb2 (by go_simp)
    rw [hl] at k2 ⊢
    have HL := Lib.hid hl
    clear hl hx hb2 hwin
    clear h1 h2
    go_wp2_with fail
    go_loopw [14] (fun i wr => ∃ k : Nat, k ≤ n ∧ i = .int .i64 k ∧ (∀ j : Nat, j < k → ¬ picAt n now zs (win + j) = pic) ∧ ∃ q, wr = w1.drewN q) (fun i _ => n - (intOf i).toNat)
    case atStart => exact ⟨0, Nat.zero_le _, rfl, fun j hj => absurd hj (by omega), 0, rfl⟩
    case round =>
      obtain ⟨k, hk, rfl, ht, q, rfl⟩ := hrel
      have HT := Lib.hid ht
      clear ht
      by_cases hlt : k < n
      · have hr0 : 0 ≤ (now + (k : Int) + win) % (n : Int) := Int.emod_nonneg _ (by omega)
        have hr1 : (now + (k : Int) + win) % (n : Int) < n := Int.emod_lt_of_pos _ (by omega)
        obtain ⟨idx, hidx⟩ := Int.eq_ofNat_of_zero_le hr0
        have HP : Hid (picAt n now zs (win + k) = zs.getD idx 0) := by
          show picAt n now zs (win + k) = zs.getD idx 0
          unfold picAt
          rw [show now + (win + (k : Int)) = now + (k : Int) + win by omega, hidx, Int.toNat_natCast]
        rw [hidx] at hr0 hr1
        obtain ⟨b1, o1, rfl, hb1, hc1⟩ := hx1.out.at_ (k := idx) (by rw [HL.out]; omega)
        generalize hv : zs.getD idx 0 = v at *
        clear hv hx1
        have hi : (k : Int) < (n : Int) := by omega
        go_wp2_with fail
        go_quiet (fail)
        by_cases hvp : v = pic
        · have hb : (v == pic) = true := by simp [hvp]
          have HV : Hid (v = pic) := hvp
          clear hvp
          go_wp2_with fail
          go_ret
          refine ⟨?_, below_drewN (below_drewN hbz.out _) _⟩
          rw [← HR.out, turnsV_at (k := k) (by omega) HT.out (by rw [HP.out]; exact HV.out)]
          rfl
        · have hb : (v == pic) = false := by simp [hvp]
          have HV : Hid (¬ v = pic) := hvp
          clear hvp
          go_wp2_with fail
          go_roundw
          case rel =>
            refine ⟨k + 1, by omega, by go_num, ?_, _, rfl⟩
            intro j hj
            by_cases hjk : j = k
            · rw [hjk, HP.out]; exact HV.out
            · exact HT.out j (by omega)
          case measure => simp [intOf]; omega
      · obtain rfl : k = n := by omega
        go_wp2_with fail
        go_ret
        refine ⟨?_, below_drewN hbz.out _⟩
        rw [← HR.out, turnsV_none (fun j hj => HT.out j (by omega))]
        rfl
  · have h1' : winOk sec now zs win = false := by simpa using hwin
    rw [show turnsToShow sec now zs win pic = -1 from if_neg hwin]
    clear hwin
    go_enter Try.func43, Try.ntmps43
    go_wp2_with fail
    refine (isWindow_any _ _ _ _ _ _ _ (hx.on (by repeat' (first | exact Below.refl _ _ | assumption | (refine Below.drew ?_) | (refine below_drewN ?_ _) | (refine below_thru ?_ (by assumption)) | (refine below_alloc ?_ _) | (refine Below.setCell ?_ (by first | omega | (simp; done) | (simp; omega)) _) | (refine Below.alloc ?_ (by first | omega | (simp; done) | (simp; omega)) _)))) bs).mono ?_
    rw [h1']
    rintro e w1 ⟨rfl, hb2⟩
    go_wp2_with fail
    go_ret
    exact ⟨rfl, (by repeat' (first | exact Below.refl _ _ | assumption | (refine Below.drew ?_) | (refine below_drewN ?_ _) | (refine below_thru ?_ (by assumption)) | (refine below_alloc ?_ _) | (refine Below.setCell ?_ (by first | omega | (simp; done) | (simp; omega)) _) | (refine Below.alloc ?_ (by first | omega | (simp; done) | (simp; omega)) _)))⟩


end Go.Proofs.Ytlbbnbhehonbiaa
