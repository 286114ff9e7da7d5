
/-
  Contracts of FromHeights on both sides and the walk of its law; no condition beyond the length of the list.
-/
import Derived.Test.YtkhlolhmaoenoaaTurn
import Derived.Test.YtkhlolhmaoenoaaShelf
import Derived.Test.YtkhlolhmaoenoaaArgs
namespace Go.Proofs.Ytkhlolhmaoenoaa
open Go.ChangeShapes Go.WideShapes Go.ChangeAt Go.RowKit Go.Deep Go.BigFrame
set_option linter.unusedVariables false

def rep (n : Nat) : List UInt8 := List.replicate n 100
theorem rep_len (n : Nat) : (rep n).length = n := List.length_replicate
theorem rep_succ (n : Nat) : rep (n + 1) = rep n ++ [100] := List.replicate_succ'

theorem l02Many_any (n : Nat) (w : World) (hn : n ≤ 4294967295) : Calls Try.prog 100 #[.string ⟨#[100]⟩, .int .i64 n] w fun e w' => e = .returned (.string (bs (rep n))) ∧ w = w' := by
  go_enter Try.func100, Try.ntmps100
  go_wp2_with fail
  go_loop [5, 6] (fun o i => ∃ j : Nat, j ≤ n ∧ i = .int .i64 j ∧ o = .string (bs (rep j))) (fun _ i => n - (intOf i).toNat)
  case atStart => exact ⟨0, Nat.zero_le _, rfl, rfl⟩
  case round =>
    obtain ⟨j, hj, rfl, rfl⟩ := hrel
    by_cases hlt : j < n
    · have hbz : (bs (rep j)).size ≤ 4294967295 := by rw [bs_size, rep_len]; omega
      have HR := Lib.hid (rep_succ j)
      generalize rep j = r at *
      go_wp2_with fail
      go_round
      case rel => exact ⟨j + 1, by omega, by go_num, by rw [HR.out, ← bs_app]; rfl⟩
      case measure => simp [intOf]; omega
    · obtain rfl : j = n := by omega
      go_wp2_with fail
      go_ret
      exact ⟨rfl, rfl⟩

/-- the text that goes on from height u -/
def fromH (u : Nat) (out : List UInt8) : List Int → List UInt8
  | [] => out ++ rep u
  | h :: t => if 0 ≤ h ∧ h ≤ (u : Int) then fromH h.toNat ((out ++ rep (u - h.toNat)) ++ [102]) t else []
theorem fromH_nil (u : Nat) (out : List UInt8) (zs : List Int) (k : Nat) (h : zs.length ≤ k) : fromH u out (zs.drop k) = out ++ rep u := by
  rw [List.drop_eq_nil_of_le h]
  rfl
theorem fromH_yes (u m e : Nat) (out : List UInt8) (zs : List Int) (k : Nat) (h : k < zs.length) (h1 : zs.getD k 0 = (m : Int)) (h2 : m ≤ u) (h3 : e = u - m) : fromH u out (zs.drop k) = fromH m ((out ++ rep e) ++ [102]) (zs.drop (k + 1)) := by
  have h1' : zs[k] = (m : Int) := by simpa [List.getD, h] using h1
  rw [List.drop_eq_getElem_cons h, h1', h3]
  exact if_pos ⟨by omega, by omega⟩
theorem fromH_no (u : Nat) (out : List UInt8) (zs : List Int) (k : Nat) (h : k < zs.length) (h1 : inB (zs.getD k 0) 0 u = false) : fromH u out (zs.drop k) = [] := by
  have h1' : zs.getD k 0 = zs[k] := by simp [List.getD, h]
  rw [h1'] at h1
  rw [List.drop_eq_getElem_cons h]
  exact if_neg (inB_not.1 h1)

def fromHeights (d : Int) (zs : List Int) : List UInt8 := if (inB d 1 8 && inB zs.length 1 8) = true then fromH d.toNat [] zs else []

theorem repeat_rep (c : Nat) : (⟨(Lib.repeatL (⟨#[100]⟩ : ByteArray).data.toList c).toArray⟩ : ByteArray) = bs (rep c) := by
  have h : Lib.repeatL (⟨#[100]⟩ : ByteArray).data.toList c = rep c := by
    induction c with
    | zero => rfl
    | succ c ih =>
      unfold Lib.repeatL
      rw [ih]
      rfl
  rw [h]
  rfl

theorem repeat_any (c : Nat) (w : World) (hc : c ≤ 4294967296) : Calls Try.prog 107 #[.string ⟨#[100]⟩, .int .i64 c] w fun e w' => e = .returned (.string (bs (rep c))) ∧ Below w.heap.size w w' := by
  rw [← repeat_rep]
  have h1 : (⟨#[100]⟩ : ByteArray).size = 1 := rfl
  exact Try.strings_Repeat ⟨#[100]⟩ c w (by omega) (by rw [h1]; omega)

theorem implFromHeights_any (d : Int) (A : Option Addr) (c : Nat) (zs : List Int) (w : World) (hx : IRow w w.heap.size A zs) (hzl : zs.length ≤ 1048576) :
    Calls Try.prog 64 #[.int .i64 d, .slice A zs.length c] w fun e w' => e = .returned (.string (bs (fromHeights d zs))) ∧ Below w.heap.size w w' := by
  have hf1 := fun w => isSteps_any d w
  have hf2 := fun w => isSteps_any (zs.length : Int) w
  by_cases h1 : inB d 1 8 = true
  case neg =>
    have h1' : inB d 1 8 = false := by simpa using h1
    rw [show fromHeights d zs = [] from if_neg (by rw [h1']; simp)]
    rw [h1'] at hf1
    clear h1 h1' hx hf2
    go_enter Try.func64, Try.ntmps64
    go_wp2_with fail
    refine (hf1 _).mono ?_
    rintro e w1 ⟨rfl, rfl⟩
    go_wp2_with fail
    go_ret
    exact ⟨rfl, (by repeat' (first | exact Below.refl _ _ | assumption | (refine Below.drew ?_) | (refine below_drewN ?_ _) | (refine below_thru ?_ (by assumption)) | (refine below_alloc ?_ _) | (refine Below.setCell ?_ (by first | omega | (simp; done) | (simp; omega)) _) | (refine Below.alloc ?_ (by first | omega | (simp; done) | (simp; omega)) _)))⟩
  by_cases h2 : inB zs.length 1 8 = true
  case neg =>
    have h2' : inB zs.length 1 8 = false := by simpa using h2
    rw [show fromHeights d zs = [] from if_neg (by rw [h2']; simp)]
    rw [h1] at hf1
    rw [h2'] at hf2
    have HF1 := Lib.hid hf1
    have HF2 := Lib.hid hf2
    clear h1 h2 h2' hx hf1 hf2
    go_enter Try.func64, Try.ntmps64
    go_wp2_with fail
    refine (HF1.out _).mono ?_
    rintro e w1 ⟨rfl, rfl⟩
    go_wp2_with fail
    refine (HF2.out _).mono ?_
    rintro e w1 ⟨rfl, rfl⟩
    go_wp2_with fail
    go_ret
    exact ⟨rfl, (by repeat' (first | exact Below.refl _ _ | assumption | (refine Below.drew ?_) | (refine below_drewN ?_ _) | (refine below_thru ?_ (by assumption)) | (refine below_alloc ?_ _) | (refine Below.setCell ?_ (by first | omega | (simp; done) | (simp; omega)) _) | (refine Below.alloc ?_ (by first | omega | (simp; done) | (simp; omega)) _)))⟩
  rw [show fromHeights d zs = fromH d.toNat [] zs from if_pos (by rw [h1, h2]; rfl)]
  rw [h1] at hf1
  rw [h2] at hf2
  obtain ⟨d1, d2⟩ := inB_iff.1 h1
  obtain ⟨n1, n2⟩ := inB_iff.1 h2
  obtain ⟨u0, rfl⟩ := Int.eq_ofNat_of_zero_le (show 0 ≤ d by omega)
  rw [Int.toNat_natCast]
  have HF1 := Lib.hid hf1
  have HF2 := Lib.hid hf2
  have hn : zs.length ≤ 8 := by omega
  clear hf1 hf2 h1 h2
  obtain ⟨R, hR⟩ : ∃ R, R = fromH u0 [] zs := ⟨_, rfl⟩
  rw [← hR]
  have HR0 := Lib.hid hR
  clear hR
  go_enter Try.func64, Try.ntmps64
  go_wp2_with fail
  refine (HF1.out _).mono ?_
  rintro e w1 ⟨rfl, rfl⟩
  go_wp2_with fail
  refine (HF2.out _).mono ?_
  rintro e w1 ⟨rfl, rfl⟩
  go_wp2_with fail
  go_loopw [5, 6, 21] (fun o u i wr => ∃ k m : Nat, ∃ out : List UInt8, k ≤ zs.length ∧ i = .int .i64 k ∧ u = .int .i64 m ∧ o = .string (bs out) ∧ m ≤ 8 ∧ out.length ≤ 9 * k ∧ R = fromH m out (zs.drop k) ∧ Below w.heap.size w wr) (fun _ _ i _ => zs.length - (intOf i).toNat)
  case atStart => exact ⟨0, u0, [], Nat.zero_le _, rfl, rfl, rfl, by omega, Nat.le_refl _, HR0.out, Below.refl _ _⟩
  case round =>
    obtain ⟨k, m, out, hk, rfl, rfl, rfl, hm, hol, hR, hbr⟩ := hrel
    have hoz : (bs out).size ≤ 4294967000 := by rw [bs_size]; omega
    by_cases hlt : k < zs.length
    · obtain ⟨b1, o1, rfl, hb1, hc1⟩ := (hx.below hbr).at_ (k := k) hlt
      have HB := Lib.hid hbr
      by_cases hin : inB (zs.getD k 0) 0 m = true
      · obtain ⟨z1, z2⟩ := inB_iff.1 hin
        have hw := fun w => within_is hin w
        obtain ⟨p, hp⟩ := Int.eq_ofNat_of_zero_le z1
        have hd : (m : Int) - (p : Int) = ((m - p : Nat) : Int) := by omega
        have H1 := Lib.hid (fromH_yes m p (m - p) out zs k hlt hp (by omega) rfl)
        rw [hp] at hc1 hw
        have HW := Lib.hid hw
        have HM := Lib.hid (fun w => repeat_any (m - p) w (by omega))
        have HRR := Lib.hid hR
        have hrz : (bs (rep (m - p))).size ≤ 8 := by rw [bs_size, rep_len]; omega
        have hoz2 : (bs (rep (m - p)) ++ bs [102]).size ≤ 200 := by rw [bs_app, bs_size, List.length_append, rep_len]; simp; omega
        have hol2 : (out ++ rep (m - p) ++ [102]).length ≤ 9 * (k + 1) := by rw [List.length_append, List.length_append, rep_len]; simp; omega
        have HOL := Lib.hid hol2
        clear hw hin hx hR hp z1 z2 hol2 hbr
        generalize rep (m - p) = r at *
        go_wp2_with fail
        refine (HW.out _).mono ?_
        rintro e1 w1 ⟨rfl, rfl⟩
        go_wp2_with fail
        refine (HM.out _).mono ?_
        rintro e1 w1 ⟨rfl, hbm⟩
        have HB2 := Lib.hid (below_thru HB.out hbm)
        rw [← bs_102] at hoz2
        go_wp2_with fail
        go_roundw
        case rel => exact ⟨k + 1, p, out ++ r ++ [102], by omega, by go_num, rfl, by rw [List.append_assoc, ← bs_app, ← bs_app]; rfl, by omega, HOL.out, by rw [HRR.out, H1.out], HB2.out⟩
        case measure => simp [intOf]; omega
      · have hin' : inB (zs.getD k 0) 0 m = false := by simpa using hin
        have hw := fun w => within_is hin' w
        have H1 := Lib.hid (fromH_no m out zs k hlt hin')
        generalize zs.getD k 0 = z at *
        have HW := Lib.hid hw
        have HRR := Lib.hid hR
        clear hw hin hin' hx hR hbr
        go_wp2_with fail
        refine (HW.out _).mono ?_
        rintro e1 w1 ⟨rfl, rfl⟩
        go_wp2_with fail
        go_ret
        exact ⟨by rw [HRR.out, H1.out]; rfl, HB.out⟩
    · obtain rfl : k = zs.length := by omega
      rw [fromH_nil m out zs _ (Nat.le_refl _)] at hR
      have HRR := Lib.hid hR
      have HM := Lib.hid (fun w => repeat_any m w (by omega))
      clear hx hR
      go_wp2_with fail
      refine (HM.out _).mono ?_
      rintro e1 w1 ⟨rfl, hbm⟩
      have hrz : (bs (rep m)).size ≤ 8 := by rw [bs_size, rep_len]; omega
      have hb2 := below_thru hbr hbm
      go_wp2_with fail
      go_ret
      exact ⟨by rw [HRR.out, ← bs_app]; rfl, hb2⟩

end Go.Proofs.Ytkhlolhmaoenoaa
