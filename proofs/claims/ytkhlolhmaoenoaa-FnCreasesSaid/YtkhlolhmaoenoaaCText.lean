
/-
  The contracts of CreaseText on both sides; no condition beyond the size of the texts.
-/
import Derived.Test.YtkhlolhmaoenoaaCreaseAt
import Derived.Test.YtkhlolhmaoenoaaRaise
import Derived.Deep.RegionWith
namespace Go.Proofs.Ytkhlolhmaoenoaa
open Go.ChangeShapes Go.WideShapes Go.ChangeAt Go.RowKit Go.Deep Go.BigFrame
set_option linter.unusedVariables false
set_option linter.unusedSimpArgs false

theorem bs_snoc (a b : List UInt8) : bs a ++ bs b = bs (a ++ b) := by
  unfold bs
  apply ByteArray.ext
  simp [ByteArray.data_append]
/-- the letter of a crease -/
def cl (n : Int) : UInt8 := if n = 1 then 109 else if n = 2 then 118 else 46
def textP (l : List UInt8) (j : Nat) : List UInt8 := (List.range j).map fun i : Nat => cl (crease l i)
theorem textP_succ (l : List UInt8) (j : Nat) : textP l (j + 1) = textP l j ++ [cl (crease l j)] := by
  unfold textP
  rw [List.range_succ, List.map_append]
  rfl
theorem textP_len (l : List UInt8) (j : Nat) : (textP l j).length = j := by simp [textP]
def ctext (l : List UInt8) : List UInt8 := textP l (l.length + 1)

theorem letters_cut (n : Nat) (h : n ≤ 2) : (⟨#[46, 109, 118]⟩ : ByteArray).extract n (n + 1) = bs [cl n] := by
  apply ByteArray.ext
  apply Array.toList_inj.1
  simp only [ByteArray.data_extract, Array.toList_extract, List.extract_eq_take_drop]
  match n, h with
  | 0, _ => rfl
  | 1, _ => rfl
  | 2, _ => rfl

theorem run_letter (x : Int) (h : 0 ≤ x ∧ x ≤ 2) (W : World) : (Instr.slice 9 (.string ⟨#[46, 109, 118]⟩) (some (.int .i64 x)) (some (.int .i64 (x + 1))) none).run Try.prog W = .ok (.string (bs [cl x])) W := by
  obtain ⟨n, rfl⟩ := Int.eq_ofNat_of_zero_le h.1
  rw [← letters_cut n (by omega)]
  have hs : (⟨#[46, 109, 118]⟩ : ByteArray).size = 3 := rfl
  exact run_sl _ (n : Int) ((n : Int) + 1) n (n + 1) rfl (by omega) (by omega) (by omega) W

def creaseText (d f : Int) (ss : List ByteArray) (k : Int) : List UInt8 := if hasStrip d f ss k = true then ctext (ss.getD k.toNat .empty).data.toList else []

theorem creaseAt_in {d f : Int} {ss : List ByteArray} {n j : Nat} (h : hasStrip d f ss (n : Int) = true) (hj : j ≤ (ss.getD n .empty).size) : creaseAt d f ss (n : Int) (j : Int) = crease (ss.getD n .empty).data.toList (j : Int) := by
  simp only [hasStrip, Bool.and_eq_true] at h
  have hi := inB_iff.1 h.2
  have hz := cardOk_size h.1 (mem_getD (ss := ss) (k := n) (by omega))
  unfold creaseAt
  rw [h.1, h.2, show inB (j : Int) 0 (d + f) = true from inB_iff.2 ⟨by omega, by omega⟩, Int.toNat_natCast]
  rfl

set_option maxRecDepth 100000 in
theorem implCreaseText_any (d f : Int) (A : Option Addr) (c : Nat) (ss : List ByteArray) (k : Int) (w : World) (hx : SRow w w.heap.size A ss) (hm : ∀ s ∈ ss, s.size ≤ 4294967296)
    (bd : -9223372036854775808 ≤ d ∧ d ≤ 9223372036854775807) (bf : -9223372036854775808 ≤ f ∧ f ≤ 9223372036854775807) (bk : -9223372036854775808 ≤ k ∧ k ≤ 9223372036854775807) :
    Calls Try.prog 36 #[.agg #[.int .i64 d, .int .i64 f, .slice A ss.length c], .int .i64 k] w fun e w' => e = .returned (.string (bs (creaseText d f ss k))) ∧ Below w.heap.size w w' := by
  have HC := Lib.hid (fun w hx => hasStrip_any d f A c ss k w hx hm)
  have HST := Lib.hid (CardAt.start (d := d) (f := f) (c := c) hx)
  cases h : hasStrip d f ss k
  · rw [show creaseText d f ss k = [] from if_neg (by rw [h]; decide)]
    rw [h] at HC
    clear h hx
    go_enter Try.func36, Try.ntmps36
    go_wp2_with fail
    refine (HC.out _ HST.out.full).mono ?_
    rintro e w1 ⟨rfl, hb⟩
    go_wp2_with fail
    go_ret
    exact ⟨rfl, below_thru HST.out.below hb⟩
  rw [h] at HC
  have h' := h
  simp only [hasStrip, Bool.and_eq_true] at h'
  obtain ⟨hk0, h1⟩ := h'
  obtain ⟨⟨d1, d2⟩, ⟨f1, f2⟩, ⟨l1, l2⟩, _⟩ := cardOk_parts hk0
  obtain ⟨k1, k2⟩ := inB_iff.1 h1
  obtain ⟨n, rfl⟩ := Int.eq_ofNat_of_zero_le k1
  have hi : (n : Int) < (ss.length : Int) := by omega
  have hnl : n < ss.length := by omega
  have hmem := mem_getD (ss := ss) (k := n) hnl
  obtain ⟨hz1, hz2⟩ := cardOk_size hk0 hmem
  rw [show creaseText d f ss (n : Int) = ctext (ss.getD n .empty).data.toList from if_pos h]
  have HCR := Lib.hid (fun (j : Nat) w hx (hj : j ≤ (ss.getD n .empty).size) => creaseAt_in h hj ▸ implCreaseAt_any d f A c ss (n : Int) (j : Int) w hx hm bd bf bk ⟨by omega, by omega⟩)
  obtain ⟨s, hsv⟩ : ∃ s, s = ss.getD n .empty := ⟨_, rfl⟩
  rw [← hsv] at hz1 hz2 HCR ⊢
  have HV := Lib.hid hsv
  unfold ctext
  rw [size_list]
  generalize s.data.toList = l at *
  have hsz16 : s.size ≤ 16 := by omega
  clear h hk0 h1 hmem hx hsv hm hz1
  go_enter Try.func36, Try.ntmps36
  go_wp2_with fail
  refine (HC.out _ HST.out.full).mono ?_
  rintro e w1 ⟨rfl, hb⟩
  have HCA := Lib.hid (HST.out.on hb)
  obtain ⟨p0, p1, p2, prow, pb, plt⟩ := HCA.out
  obtain ⟨b1, o1, rfl, hb1, hc1⟩ := HCA.out.at_ hnl
  rw [← HV.out] at hc1
  clear prow pb hb
  go_wp2_with fail
  clear p0 p1 p2 plt hc1
  go_loopw [5, 18] (fun ov iv wr => ∃ j : Nat, j ≤ s.size + 1 ∧ iv = .int .i64 j ∧ ov = .string (bs (textP l j)) ∧ CardAt w wr d f (some ⟨b1, o1, none⟩) c ss) (fun _ iv _ => s.size + 1 - (intOf iv).toNat)
  case atStart => exact ⟨0, Nat.zero_le _, rfl, rfl, HCA.out⟩
  case round =>
    obtain ⟨j, hj, rfl, rfl, hca⟩ := hrel
    have HA := Lib.hid hca
    obtain ⟨p0, p1, p2, prow, pb, plt⟩ := hca
    by_cases hlt : j ≤ s.size
    · have hji : (j : Int) < (s.size : Int) + 1 := by omega
      have HJ := Lib.hid (fun w hx => HCR.out j w hx hlt)
      have hsl := run_letter (crease l j) (crease_in l j)
      have hci := crease_in l j
      have HT := Lib.hid (textP_succ l j)
      have hbz : (bs (textP l j)).size ≤ 4294967295 := by rw [bs_size, textP_len]; omega
      have hb1' : (bs [cl (crease l j)]).size = 1 := bs_size _
      have hd0 := InW.cell plt p0
      have hd1 := InW.cell plt p1
      have hd2 := InW.cell plt p2
      generalize crease l j = x at *
      generalize textP l j = r at *
      obtain ⟨u, hu⟩ : ∃ u, u = bs [cl x] := ⟨_, rfl⟩
      rw [← hu] at hsl hb1'
      have HU := Lib.hid hu
      have hb2 : u.size ≤ 1 := by omega
      clear hu hb1' prow pb p0 p1 p2
      go_wp2_with fail
      refine wp_region_in (by kernel_rfl) (by kernel_rfl) ?_
      repeat (go_big_quiet_step ((go_at_call 41; refine (HJ.out _ (HA.out.full.on (InW.on _))).mono ?_; rintro e w' ⟨rfl, hb⟩; exact ⟨rfl, ⟨_, below_thru (InW.on _) hb⟩, rfl⟩)))
      refine wpQuiet_nil ?_
      intro w2_ hw2_
      obtain ⟨⟨w2, hb2⟩, rfl⟩ := hw2_
      have HA2 := Lib.hid (HA.out.on hb2)
      clear hb2
      go_wp2_with fail
      go_roundw
      case rel => exact ⟨j + 1, by omega, by go_num, by rw [HT.out, ← bs_snoc, ← HU.out], HA2.out⟩
      case measure => simp [intOf]; omega
    · obtain rfl : j = s.size + 1 := by omega
      clear prow pb
      go_wp2_with fail
      go_ret
      exact ⟨rfl, HA.out.below⟩

end Go.Proofs.Ytkhlolhmaoenoaa
