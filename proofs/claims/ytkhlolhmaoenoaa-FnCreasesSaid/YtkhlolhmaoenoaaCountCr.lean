
/-
  The contracts of CountCreases on both sides; no condition beyond the size of the texts.
-/
import Derived.Test.YtkhlolhmaoenoaaCreaseAt
namespace Go.Proofs.Ytkhlolhmaoenoaa
open Go.ChangeShapes Go.WideShapes Go.ChangeAt Go.RowKit Go.Deep Go.BigFrame
set_option linter.unusedVariables false
set_option linter.unusedSimpArgs false

/-- how many of the first j places have the crease c -/
def cntC (c : Int) (l : List UInt8) : Nat → Nat
  | 0 => 0
  | j + 1 => cntC c l j + if crease l j = c then 1 else 0
theorem cntC_le (c : Int) (l : List UInt8) : ∀ j, cntC c l j ≤ j := by
  intro j
  induction j with
  | zero => exact Nat.le_refl _
  | succ j ih =>
    show cntC c l j + (if crease l j = c then 1 else 0) ≤ j + 1
    by_cases h : crease l j = c
    · rw [if_pos h]; omega
    · rw [if_neg h]; omega
theorem cntC_yes {c : Int} {l : List UInt8} {j : Nat} (h : crease l j = c) : cntC c l (j + 1) = cntC c l j + 1 := by show cntC c l j + _ = _; rw [if_pos h]
theorem cntC_no {c : Int} {l : List UInt8} {j : Nat} (h : ¬ crease l j = c) : cntC c l (j + 1) = cntC c l j := by show cntC c l j + _ = _; rw [if_neg h]; rfl
def cntS (c : Int) (s : ByteArray) : Int := cntC c s.data.toList (s.size + 1)
def countCr (c d f : Int) (ss : List ByteArray) : Int := if cardOk d f ss = true then accS (cntS c) ss ss.length else 0
theorem accC_small {d f c : Int} {ss : List ByteArray} (h : cardOk d f ss = true) : ∀ k : Nat, k ≤ ss.length → 0 ≤ accS (cntS c) ss k ∧ accS (cntS c) ss k ≤ 17 * (k : Int) := by
  intro k
  induction k with
  | zero => intro _; simp [accS]
  | succ k ih =>
    intro hk
    have a := ih (by omega)
    rw [accS_succ _ ss k (by omega)]
    have hz := cardOk_size h (mem_getD (ss := ss) (k := k) (by omega))
    have hp := cardOk_parts h
    have b := cntC_le c (ss.getD k .empty).data.toList ((ss.getD k .empty).size + 1)
    have e : cntS c (ss.getD k .empty) = (cntC c (ss.getD k .empty).data.toList ((ss.getD k .empty).size + 1) : Int) := rfl
    omega

theorem creaseAt_in2 {d f : Int} {ss : List ByteArray} {n j : Nat} (h : cardOk d f ss = true) (hn : n < ss.length) (hj : j ≤ (ss.getD n .empty).size) : creaseAt d f ss (n : Int) (j : Int) = crease (ss.getD n .empty).data.toList (j : Int) := by
  have hz := cardOk_size h (mem_getD (ss := ss) (k := n) hn)
  unfold creaseAt
  rw [h, show inB (n : Int) 0 ((ss.length : Int) - 1) = true from inB_iff.2 ⟨by omega, by omega⟩, show inB (j : Int) 0 (d + f) = true from inB_iff.2 ⟨by omega, by omega⟩, Int.toNat_natCast]
  rfl

set_option maxRecDepth 8000 in
theorem implCountCreases_any (d f : Int) (A : Option Addr) (c : Nat) (ss : List ByteArray) (w : World) (hx : SRow w w.heap.size A ss) (hm : ∀ s ∈ ss, s.size ≤ 4294967296)
    (bd : -9223372036854775808 ≤ d ∧ d ≤ 9223372036854775807) (bf : -9223372036854775808 ≤ f ∧ f ≤ 9223372036854775807) :
    Calls Try.prog 35 #[.agg #[.int .i64 d, .int .i64 f, .slice A ss.length c]] w fun e w' => e = .returned (.tuple #[.int .i64 (countCr 1 d f ss), .int .i64 (countCr 2 d f ss)]) ∧ Below w.heap.size w w' := by
  have HC := Lib.hid (fun w hx => implCardOk_any d f A c ss w hx hm)
  have HST := Lib.hid (CardAt.start (d := d) (f := f) (c := c) hx)
  cases h : cardOk d f ss
  · rw [show countCr 1 d f ss = 0 from if_neg (by rw [h]; simp), show countCr 2 d f ss = 0 from if_neg (by rw [h]; simp)]
    rw [h] at HC
    clear h hx
    go_enter Try.func35, Try.ntmps35
    go_wp2_with fail
    refine (HC.out _ HST.out.full).mono ?_
    rintro e w1 ⟨rfl, hb⟩
    go_wp2_with fail
    go_ret2
    exact ⟨rfl, below_thru HST.out.below hb⟩
  rw [show countCr 1 d f ss = accS (cntS 1) ss ss.length from if_pos h, show countCr 2 d f ss = accS (cntS 2) ss ss.length from if_pos h]
  rw [h] at HC
  have hlen := (cardOk_parts h).2.2.1
  have HM1 := Lib.hid (accC_small (c := 1) h)
  have HM2 := Lib.hid (accC_small (c := 2) h)
  have HU1 := Lib.hid (accS_succ (cntS 1) ss)
  have HU2 := Lib.hid (accS_succ (cntS 2) ss)
  have HZ := Lib.hid (fun k (hk : k < ss.length) => cardOk_size h (mem_getD hk))
  have hdf : d + f ≤ 16 := by have := cardOk_parts h; omega
  have HAT := Lib.hid (fun (k j : Nat) w hx (hk : k < ss.length) (hj : j ≤ (ss.getD k .empty).size) => creaseAt_in2 h hk hj ▸ implCreaseAt_any d f A c ss (k : Int) (j : Int) w hx hm bd bf ⟨by omega, by omega⟩ ⟨by omega, by have := cardOk_size h (mem_getD hk); omega⟩)
  clear h
  go_enter Try.func35, Try.ntmps35
  go_wp2_with fail
  refine (HC.out _ HST.out.full).mono ?_
  rintro e w1 ⟨rfl, hb⟩
  have HCA := Lib.hid (HST.out.on hb)
  obtain ⟨p0, p1, p2, prow, pb, plt⟩ := HCA.out
  clear prow pb hx hb
  go_wp2_with fail
  clear p0 p1 p2 plt
  go_loopw [4, 5, 15] (fun mv vv kv wr => ∃ k : Nat, k ≤ ss.length ∧ kv = .int .i64 k ∧ mv = .int .i64 (accS (cntS 1) ss k) ∧ vv = .int .i64 (accS (cntS 2) ss k) ∧ CardAt w wr d f A c ss) (fun _ _ kv _ => ss.length - (intOf kv).toNat)
  case atStart => exact ⟨0, Nat.zero_le _, rfl, rfl, rfl, HCA.out⟩
  case round =>
    obtain ⟨k, hk, rfl, rfl, rfl, hca⟩ := hrel
    have HA := Lib.hid hca
    obtain ⟨p0, p1, p2, prow, pb, plt⟩ := hca
    have m1 := HM1.out k hk
    have m2 := HM2.out k hk
    by_cases hlt : k < ss.length
    · obtain ⟨b1, o1, rfl, hb1, hc1⟩ := HA.out.at_ hlt
      have hz := HZ.out k hlt
      have u1 := HU1.out k hlt
      have u2 := HU2.out k hlt
      have hsv := hm _ (mem_getD hlt)
      have q1 : cntS 1 (ss.getD k .empty) = (cntC 1 (ss.getD k .empty).data.toList ((ss.getD k .empty).size + 1) : Int) := rfl
      have q2 : cntS 2 (ss.getD k .empty) = (cntC 2 (ss.getD k .empty).data.toList ((ss.getD k .empty).size + 1) : Int) := rfl
      rw [q1] at u1
      rw [q2] at u2
      obtain ⟨v, hv⟩ : ∃ v, v = ss.getD k .empty := ⟨_, rfl⟩
      rw [← hv] at hc1 hz u1 u2 hsv
      have HJ := Lib.hid (fun (j : Nat) w hx => HAT.out k j w hx hlt)
      rw [← hv] at HJ
      have HV := Lib.hid hv
      have U1 := Lib.hid u1
      have U2 := Lib.hid u2
      generalize hl : v.data.toList = l at *
      have hvz : v.size ≤ 16 := by omega
      have hi : (k : Int) < (ss.length : Int) := by omega
      clear u1 u2 q1 q2 hl hv hz hsv prow pb
      generalize accS (cntS 1) ss k = M at *
      generalize accS (cntS 2) ss k = V at *
      go_wp2_with fail
      have HA2 := HA
      obtain ⟨wo, hwo⟩ : ∃ wo, wo = wr := ⟨wr, rfl⟩
      subst hwo
      clear p0 p1 p2 plt hc1
      go_loopw [4, 5, 23] (fun mv vv jv wi => ∃ j : Nat, j ≤ v.size + 1 ∧ jv = .int .i64 j ∧ mv = .int .i64 (M + (cntC 1 l j : Nat)) ∧ vv = .int .i64 (V + (cntC 2 l j : Nat)) ∧ CardAt w wi d f (some ⟨b1, o1, none⟩) c ss) (fun _ _ jv _ => v.size + 1 - (intOf jv).toNat)
      case atStart => exact ⟨0, Nat.zero_le _, rfl, by simp [cntC], by simp [cntC], HA2.out⟩
      case round =>
        obtain ⟨j, hj, rfl, rfl, rfl, hci⟩ := hrel
        have HA3 := Lib.hid hci
        obtain ⟨p0, p1, p2, prow, pb, plt⟩ := hci
        obtain ⟨b2, o2, e2, hb2', hc1⟩ := HA3.out.at_ hlt
        obtain ⟨rfl, rfl⟩ : b2 = b1 ∧ o2 = o1 := by simp at e2; exact ⟨e2.1.symm, e2.2.symm⟩
        rw [← HV.out] at hc1
        have w1' := cntC_le 1 l j
        have w2' := cntC_le 2 l j
        clear prow pb e2
        by_cases hjle : j ≤ v.size
        · have hji : (j : Int) ≤ (v.size : Int) := by omega
          have hji2 : (j : Int) < (v.size : Int) + 1 := by omega
          have y1 := fun h => cntC_yes (c := 1) (l := l) (j := j) h
          have y2 := fun h => cntC_yes (c := 2) (l := l) (j := j) h
          have n1 := fun h => cntC_no (c := 1) (l := l) (j := j) h
          have n2 := fun h => cntC_no (c := 2) (l := l) (j := j) h
          have hcin := crease_in l j
          obtain ⟨x, hx⟩ : ∃ x, x = crease l (j : Int) := ⟨_, rfl⟩
          have hxr : x = 0 ∨ x = 1 ∨ x = 2 := by omega
          rw [← hx] at y1 y2 n1 n2
          have HX := Lib.hid hx
          clear hx hcin
          have Y1 := Lib.hid y1
          have Y2 := Lib.hid y2
          have N1 := Lib.hid n1
          have N2 := Lib.hid n2
          have HJX := Lib.hid (fun w => HJ.out j w)
          rw [← HX.out] at HJX
          clear y1 y2 n1 n2
          rcases hxr with rfl | rfl | rfl
          · have E1 := Lib.hid (N1.out (by decide))
            have E2 := Lib.hid (N2.out (by decide))
            clear Y1 Y2 N1 N2
            generalize cntC 1 l j = a at *
            generalize cntC 2 l j = b at *
            go_wp2_with fail
            refine (HJX.out _ HA3.out.full hjle).mono ?_
            rintro e w2 ⟨rfl, hb2⟩
            have HB2 := Lib.hid (HA3.out.on hb2)
            clear hb2
            clear p0 p1 p2 plt hc1
            go_wp2_with fail
            go_roundw
            case rel => exact ⟨j + 1, by omega, by go_num, by rw [E1.out], by rw [E2.out], HB2.out⟩
            case measure => simp [intOf]; omega
          · have E1 := Lib.hid (Y1.out rfl)
            have E2 := Lib.hid (N2.out (by decide))
            clear Y1 Y2 N1 N2
            generalize cntC 1 l j = a at *
            generalize cntC 2 l j = b at *
            go_wp2_with fail
            refine (HJX.out _ HA3.out.full hjle).mono ?_
            rintro e w2 ⟨rfl, hb2⟩
            have HB2 := Lib.hid (HA3.out.on hb2)
            clear hb2
            clear p0 p1 p2 plt hc1
            go_wp2_with fail
            go_roundw
            case rel => exact ⟨j + 1, by omega, by go_num, by rw [E1.out]; exact congrArg (Value.int .i64) (by omega), by rw [E2.out], HB2.out⟩
            case measure => simp [intOf]; omega
          · have E1 := Lib.hid (N1.out (by decide))
            have E2 := Lib.hid (Y2.out rfl)
            clear Y1 Y2 N1 N2
            generalize cntC 1 l j = a at *
            generalize cntC 2 l j = b at *
            go_wp2_with fail
            refine (HJX.out _ HA3.out.full hjle).mono ?_
            rintro e w2 ⟨rfl, hb2⟩
            have HB2 := Lib.hid (HA3.out.on hb2)
            clear hb2
            clear p0 p1 p2 plt hc1
            go_wp2_with fail
            go_roundw
            case rel => exact ⟨j + 1, by omega, by go_num, by rw [E1.out], by rw [E2.out]; exact congrArg (Value.int .i64) (by omega), HB2.out⟩
            case measure => simp [intOf]; omega
        · have hje : j = v.size + 1 := by omega
          have HJE := Lib.hid hje
          have hji : ¬ (j : Int) ≤ (v.size : Int) := by omega
          clear hjle hje hj
          go_wp2_with fail
          go_roundw
          case rel => exact ⟨k + 1, by omega, by go_num, by rw [U1.out, HJE.out], by rw [U2.out, HJE.out], HA3.out⟩
          case measure => simp [intOf]; omega
    · obtain rfl : k = ss.length := by omega
      clear prow pb hm
      go_wp2_with fail
      go_ret2
      exact ⟨rfl, HA.out.below⟩

end Go.Proofs.Ytkhlolhmaoenoaa
