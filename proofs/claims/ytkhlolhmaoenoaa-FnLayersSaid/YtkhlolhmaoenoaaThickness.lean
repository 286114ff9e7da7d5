
/-
  The contracts of Thickness on both sides; no condition beyond the size of the texts.
-/
import Derived.Test.YtkhlolhmaoenoaaCardAt
import Derived.Test.YtkhlolhmaoenoaaTop
import Derived.IntWalk
namespace Go.Proofs.Ytkhlolhmaoenoaa
open Go.ChangeShapes Go.WideShapes Go.ChangeAt Go.RowKit Go.Deep Go.BigFrame
set_option linter.unusedVariables false

def thickS (s : ByteArray) : Int := thick s.data.toList
theorem topP_small {zs : List Int} {B : Int} (hB : 0 ≤ B) (hz : ∀ z ∈ zs, 0 ≤ z ∧ z ≤ B) : ∀ k : Nat, k ≤ zs.length → topP zs k ≤ B := by
  intro k
  induction k with
  | zero => intro _; unfold topP; rw [if_pos rfl]; omega
  | succ k ih =>
    intro hk
    rw [topP_succ zs (fun z h => (hz z h).1) k (by omega)]
    have a := ih (by omega)
    have b : zs.getD k 0 ≤ B := by
      rw [List.getD_eq_getElem?_getD, List.getElem?_eq_getElem (by omega)]
      exact (hz _ (List.getElem_mem _)).2
    omega
theorem thickS_small (s : ByteArray) : thickS s ≤ 16 := by
  unfold thickS thick
  by_cases h : isStrip s.data.toList = true
  · rw [if_pos h]
    have p := isStrip_parts h
    exact topP_small (by decide) (fun z hz => by have := layP_small _ _ z hz; omega) _ (by rw [layP_len]; exact Nat.le_refl _)
  · rw [if_neg h]; decide
def thickness (d f : Int) (ss : List ByteArray) (sh : Int) : Int := if (cardOk d f ss && inB sh 1 1000) = true then (topS thickS ss ss.length + 2) * sh else -1
theorem mul_small {a b : Int} (h1 : 0 ≤ a) (h2 : a ≤ 18) (h3 : 1 ≤ b) (h4 : b ≤ 1000) : 0 ≤ a * b ∧ a * b ≤ 18000 := by
  constructor
  · exact Int.mul_nonneg h1 (by omega)
  · have := Int.mul_le_mul h2 h4 (by omega) (by decide)
    omega


theorem implThickness_any (d f : Int) (A : Option Addr) (c : Nat) (ss : List ByteArray) (sh : Int) (w : World) (hx : SRow w w.heap.size A ss) (hm : ∀ s ∈ ss, s.size ≤ 4294967296)
    (_ : -9223372036854775808 ≤ d ∧ d ≤ 9223372036854775807) (_ : -9223372036854775808 ≤ f ∧ f ≤ 9223372036854775807) (_ : -9223372036854775808 ≤ sh ∧ sh ≤ 9223372036854775807) :
    Calls Try.prog 49 #[.agg #[.int .i64 d, .int .i64 f, .slice A ss.length c], .int .i64 sh] w fun e w' => e = .returned (.int .i64 (thickness d f ss sh)) ∧ Below w.heap.size w w' := by
  have HC := Lib.hid (fun w hx => implCardOk_any d f A c ss w hx hm)
  have HST := Lib.hid (CardAt.start (d := d) (f := f) (c := c) hx)
  cases h : cardOk d f ss
  · rw [show thickness d f ss sh = -1 from if_neg (by rw [h]; simp)]
    rw [h] at HC
    clear h hx
    go_enter Try.func49, Try.ntmps49
    go_wp2_with fail
    refine (HC.out _ HST.out.full).mono ?_
    rintro e w1 ⟨rfl, hb⟩
    go_wp2_with fail
    go_ret
    exact ⟨rfl, below_thru HST.out.below hb⟩
  rw [h] at HC
  have H1 := Lib.hid (fun w => within_any sh 1 1000 w)
  cases h1 : inB sh 1 1000
  · rw [show thickness d f ss sh = -1 from if_neg (by rw [h, h1]; decide)]
    rw [h1] at H1
    clear h h1 hx
    go_enter Try.func49, Try.ntmps49
    go_wp2_with fail
    refine (HC.out _ HST.out.full).mono ?_
    rintro e w1 ⟨rfl, hb⟩
    go_wp2_with fail
    refine (H1.out _).mono ?_
    rintro e w2 ⟨rfl, rfl⟩
    go_wp2_with fail
    go_ret
    exact ⟨rfl, below_thru HST.out.below hb⟩
  rw [h1] at H1
  obtain ⟨s1, s2⟩ := inB_iff.1 h1
  rw [show thickness d f ss sh = (topS thickS ss ss.length + 2) * sh from if_pos (by rw [h, h1]; rfl)]
  have hlen := (cardOk_parts h).2.2.1
  have HSM := Lib.hid (topS_small (F := thickS) (ss := ss) (B := 16) (by decide) fun s _ => thickS_small s)
  clear h h1
  go_enter Try.func49, Try.ntmps49
  go_wp2_with fail
  refine (HC.out _ HST.out.full).mono ?_
  rintro e w1 ⟨rfl, hb⟩
  have HCA := Lib.hid (HST.out.on hb)
  obtain ⟨p0, p1, p2, prow, pb, plt⟩ := HCA.out
  clear prow pb hx hb
  go_wp2_with fail
  refine (H1.out _).mono ?_
  rintro e w2 ⟨rfl, rfl⟩
  go_wp2_with fail
  clear p0 p1 p2 plt
  go_loopw [5, 19] (fun sv kv wr => ∃ k : Nat, k ≤ ss.length ∧ kv = .int .i64 k ∧ sv = .int .i64 (topS thickS ss k) ∧ CardAt w wr d f A c ss) (fun _ kv _ => ss.length - (intOf kv).toNat)
  case atStart => exact ⟨0, Nat.zero_le _, rfl, rfl, HCA.out⟩
  case round =>
    obtain ⟨k, hk, rfl, rfl, hca⟩ := hrel
    have HA := Lib.hid hca
    obtain ⟨p0, p1, p2, prow, pb, plt⟩ := hca
    have hs1 := HSM.out k hk
    by_cases hlt : k < ss.length
    · obtain ⟨b1, o1, rfl, hb1, hc1⟩ := HA.out.at_ hlt
      have hsu : topS thickS ss (k + 1) = max (topS thickS ss k) (thickS (ss.getD k .empty)) := rfl
      have HR := Lib.hid (fun w => implThickestOf_any (ss.getD k .empty) w (hm _ (mem_getD hlt)))
      rw [show thick (ss.getD k .empty).data.toList = thickS (ss.getD k .empty) from rfl] at HR
      have HU := Lib.hid hsu
      have hi : (k : Int) < (ss.length : Int) := by omega
      clear hsu prow pb hm
      generalize thickS (ss.getD k .empty) = x at *
      generalize ss.getD k .empty = v at *
      generalize topS thickS ss k = y at *
      go_wp2_with fail
      refine (HR.out _).mono ?_
      rintro e w2 ⟨rfl, hb2⟩
      have HA2 := Lib.hid (HA.out.on hb2)
      clear hb2
      go_wp2_with fail
      go_roundw
      case rel => exact ⟨k + 1, by omega, by go_num, by rw [HU.out], HA2.out⟩
      case measure => simp [intOf]; omega
    · obtain rfl : k = ss.length := by omega
      clear prow pb hm
      have HX := Lib.hid (show ∀ x : Int, x = topS thickS ss ss.length → x = topS thickS ss ss.length from fun _ h => h)
      obtain ⟨y, hy⟩ : ∃ y, y = topS thickS ss ss.length := ⟨_, rfl⟩
      rw [← hy] at hs1 ⊢
      have m1 := mul_small (a := y) (b := sh) (by omega) (by omega) s1 s2
      have e1 : IntKind.i64.wrap (y * sh) = y * sh := IntWalk.i64_in _ (by omega)
      have e3 : y * sh + 2 * sh = (y + 2) * sh := by rw [Int.add_mul]
      have HE3 := Lib.hid e3
      have HY := Lib.hid hy
      clear hy e3
      go_wp2_with fail
      go_ret
      exact ⟨by rw [← HY.out, ← HE3.out]; rfl, HA.out.below⟩

end Go.Proofs.Ytkhlolhmaoenoaa
