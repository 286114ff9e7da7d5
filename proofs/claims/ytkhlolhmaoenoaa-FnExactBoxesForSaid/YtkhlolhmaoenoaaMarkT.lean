
/-
  Contracts of the laws' marks on slices of texts and on cards; no condition.
-/
import Derived.Test.YtkhlolhmaoenoaaCard
import Derived.Test.YtkhlolhmaoenoaaTurn
import Derived.BigQuiet
namespace Go.Proofs.Ytkhlolhmaoenoaa
open Go.ChangeShapes Go.WideShapes Go.ChangeAt Go.RowKit Go.Deep Go.BigFrame
set_option linter.unusedVariables false
set_option linter.unusedSimpArgs false

/-- the digits of a number ahead of a text -/
def digF : Nat → Nat → ByteArray → ByteArray
  | 0, _, out => out
  | f + 1, k, out => if k = 0 then out else digF f (k / 10) (bs [UInt8.ofNat (48 + k % 10)] ++ out)
theorem digF_zero (f : Nat) (out : ByteArray) : digF f 0 out = out := by
  cases f with
  | zero => rfl
  | succ f => exact if_pos rfl
/-- the text that marks k -/
def markT (k : Nat) : ByteArray := bs [109] ++ digF k k .empty

set_option maxHeartbeats 1000000 in
set_option maxRecDepth 100000 in
theorem markText_any (k : Nat) (w : World) (h1 : 1 ≤ k) (h2 : k ≤ 4194304) : Calls Try.prog 110 #[.int .i64 k] w fun e w' => e = .returned (.string (markT k)) ∧ Below w.heap.size w w' := by
  have hk0 : ¬ (k : Int) ≤ 0 := by omega
  have hk0' : ¬ k = 0 := by omega
  obtain ⟨R, hR⟩ : ∃ R, R = digF k k .empty := ⟨_, rfl⟩
  have HRES := Lib.hid (show markT k = bs [109] ++ R from by unfold markT; rw [hR])
  generalize markT k = M at *
  have HR := Lib.hid hR
  clear hR
  go_enter Try.func110, Try.ntmps110
  go_wp2_with fail
  go_loopw [0, 3] (fun kv ov wr => ∃ (j f : Nat) (out : ByteArray), kv = .int .i64 j ∧ ov = .string out ∧ j ≤ f ∧ R = digF f j out ∧ out.size + j ≤ k ∧ Below w.heap.size w wr) (fun kv _ _ => (intOf kv).toNat)
  case atStart => exact ⟨k, k, .empty, rfl, rfl, Nat.le_refl _, HR.out, by simp, Below.refl _ _⟩
  case round =>
    obtain ⟨j, f, out, rfl, rfl, hjf, hr, hsz, hbr⟩ := hrel
    have HRR := Lib.hid hr
    have HB := Lib.hid hbr
    clear hr hbr
    by_cases hj : j = 0
    · subst hj
      rw [digF_zero] at HRR
      go_wp2_with fail
      go_ret
      exact ⟨by rw [HRES.out, HRR.out]; rfl, HB.out⟩
    · have hji : (0 : Int) < (j : Int) := by omega
      obtain ⟨g, rfl⟩ : ∃ g, f = g + 1 := ⟨f - 1, by omega⟩
      have hstep : R = digF g (j / 10) (bs [UInt8.ofNat (48 + j % 10)] ++ out) := by
        rw [HRR.out]
        exact if_neg hj
      have HSTEP := Lib.hid hstep
      have hb : (UInt8.ofNat (48 + j % 10)).toNat = 48 + j % 10 := by
        rw [UInt8.toNat_ofNat']
        omega
      have hcv := run_convert_bytes_back (P := Try.prog) (wr.alloc (.cells #[.int .u8 (48 + (j : Int) % 10)] 5)) 41 9 5 ⟨wr.heap.size, 0, none⟩ 1 [UInt8.ofNat (48 + j % 10)] Try.underlying41 Try.underlying5 Try.underlying9 (fun i hi => by
        have hi0 : i = 0 := by simpa using hi
        subst hi0
        rw [add_plain]
        have he : (([UInt8.ofNat (48 + j % 10)][0]'(by simp)).toNat : Int) = 48 + (j : Int) % 10 := by
          show ((UInt8.ofNat (48 + j % 10)).toNat : Int) = _
          rw [hb]; omega
        rw [he]
        go_simp)
      have hcv : (convert 41 9 (.slice (some ⟨wr.heap.size, 0, none⟩) 1 1)).run Try.prog (wr.alloc (.cells #[.int .u8 (48 + (j : Int) % 10)] 5)) = .ok (.string (bs [UInt8.ofNat (48 + j % 10)])) (wr.alloc (.cells #[.int .u8 (48 + (j : Int) % 10)] 5)) := hcv
      have hbs : (bs [UInt8.ofNat (48 + j % 10)]).size = 1 := bs_size _
      have HBN := Lib.hid (below_alloc HB.out (.cells #[.int .u8 (48 + (j : Int) % 10)] 5))
      generalize bs [UInt8.ofNat (48 + j % 10)] = u at *
      clear hb hstep
      go_wp2_with fail
      go_roundw
      case rel => exact ⟨j / 10, g, u ++ out, by first | rfl | exact congrArg (Value.int .i64) (by omega), rfl, by omega, HSTEP.out, by rw [ByteArray.size_append, hbs]; omega, HBN.out⟩
      case measure => simp [intOf]; omega

/-- the texts that 'mark' writes -/
def marksT (k n : Nat) : List ByteArray := (List.range n).map fun i => markT (k + i)
theorem marksT_len (k n : Nat) : (marksT k n).length = n := by simp [marksT]
theorem marksT_get (k n i : Nat) (h : i < n) : (marksT k n).getD i .empty = markT (k + i) := by simp [marksT, List.getD, h]

set_option maxHeartbeats 1000000 in
theorem markStringS_any (A : Option Addr) (c k n : Nat) (B : Nat) (xs : List Value) (w : World) (hx : w.ownsRow B 9 1 (.slice A n c) n xs) (h1 : 1 ≤ k) (hk : k ≤ 1048577) (hn : n ≤ 1048576) :
    Calls Try.prog 72 #[.slice A n c, .int .i64 k] w fun e w' => e = .returned (.int .i64 (k + n : Nat)) ∧ w'.ownsRow B 9 1 (.slice A n c) n ((marksT k n).map Value.string) ∧ w.grownBy w' (Value.slice A n c).ownBlock := by
  rcases hx.2 with ⟨hnil, hn0⟩ | ⟨g, cap, cur, hv, hB, hg, hnc, hcm, hcs, ht⟩
  · subst hn0
    obtain ⟨rfl, rfl⟩ : A = none ∧ c = 0 := by simpa using hnil
    go_enter Try.func72, Try.ntmps72
    go_wp2_with fail
    go_loop [1, 5] (fun kk i => i = .int .i64 (0 : Int) ∧ kk = .int .i64 k) (fun _ _ => 0)
    case atStart => exact ⟨rfl, rfl⟩
    case round =>
      obtain ⟨rfl, rfl⟩ := hrel
      go_wp2_with fail
      go_ret
      exact ⟨rfl, World.ownsRow_nil _ _ _ _, World.grownBy.refl _ _⟩
  · obtain ⟨rfl, rfl⟩ : A = some ⟨g, 0, none⟩ ∧ c = cap := by simpa using hv
    clear hv hg hcs ht hnc hcm
    have H0 := Lib.hid hx
    clear hx
    go_enter Try.func72, Try.ntmps72
    go_wp2_with fail
    go_loopw [1, 5] (fun kk i wr => ∃ j : Nat, ∃ ys : List Value, j ≤ n ∧ i = .int .i64 j ∧ kk = .int .i64 (k + j : Nat) ∧ wr.ownsRow B 9 1 (.slice (some ⟨g, 0, none⟩) n c) n ys ∧ ys.take j = ((marksT k n).map Value.string).take j ∧ w.grownBy wr (some g)) (fun _ i _ => n - (intOf i).toNat)
    case atStart => exact ⟨0, xs, Nat.zero_le _, rfl, rfl, H0.out, rfl, World.grownBy.refl _ _⟩
    case round =>
      obtain ⟨j, ys, hj, rfl, rfl, hown, hts, hgr⟩ := hrel
      by_cases hlt : j < n
      · have hyl : ys.length = n := by have := hown.1; omega
        have hi : (j : Int) < (n : Int) := by omega
        have HM := Lib.hid (fun w => markText_any (k + j) w (by omega) (by omega))
        have HGT := Lib.hid (marksT_get k n j hlt)
        have H1 := Lib.hid hts
        have H2 := Lib.hid hyl
        have H3 := Lib.hid hown
        have H4 := Lib.hid hgr
        clear hts hyl hown hgr H0
        generalize markT (k + j) = u at *
        go_wp2_with fail
        refine (HM.out _).mono ?_
        rintro e w2 ⟨rfl, hb2⟩
        have HO2 := Lib.hid (own_on H3.out hb2)
        have HG2 := Lib.hid (grown_trans H4.out (grown_of_below hb2 (some g)))
        have hyl := H2.out
        have hc1 := HO2.out.cellAt j (by omega)
        have hf1 := HO2.out.frozenAt j
        rw [List.getElem?_eq_getElem (by omega)] at hc1
        generalize ys[j]'(by omega) = u0 at hc1
        clear hb2 hyl
        go_wp2_with fail
        go_roundw
        case rel =>
          obtain ⟨s1, s2⟩ := HO2.out.stored j (.string u)
          refine ⟨j + 1, _, by omega, by go_num, by go_num, s1, ?_, grown_trans HG2.out s2⟩
          rw [take_set_snoc ys j _ (by rw [H2.out]; exact hlt), H1.out, take_snoc_getD _ j (.string .empty) (by simp [marksT_len]; exact hlt)]
          have h5 := HGT.out
          have hl : j < (marksT k n).length := by rw [marksT_len]; exact hlt
          rw [List.getD_eq_getElem?_getD, List.getElem?_eq_getElem hl] at h5
          simp only [List.getD_eq_getElem?_getD, List.getElem?_map, List.getElem?_eq_getElem hl, Option.map_some, Option.getD_some]
          rw [← h5]
          rfl
        case measure => simp [intOf]; omega
      · obtain rfl : j = n := by omega
        go_wp2_with fail
        go_ret
        refine ⟨rfl, ?_, hgr⟩
        have e1 : ys = (marksT k j).map Value.string := by
          have h1 : ys.length = j := by have := hown.1; omega
          rw [List.take_of_length_le (by omega), List.take_of_length_le (by simp [marksT_len])] at hts
          exact hts
        rw [← e1]
        exact hown

set_option maxHeartbeats 1000000 in
theorem heldStringS_any (A : Option Addr) (c k n : Nat) (w : World) (hx : SRow w w.heap.size A (marksT k n)) (h1 : 1 ≤ k) (hk : k ≤ 1048577) (hn : n ≤ 1048576) :
    Calls Try.prog 73 #[.slice A n c, .int .i64 k] w fun e w' => e = .returned (.int .i64 (k + n : Nat)) ∧ Below w.heap.size w w' := by
  go_enter Try.func73, Try.ntmps73
  go_wp2_with fail
  go_loopw [1, 5] (fun kk i wr => ∃ j : Nat, j ≤ n ∧ i = .int .i64 j ∧ kk = .int .i64 (k + j : Nat) ∧ Below w.heap.size w wr) (fun _ i _ => n - (intOf i).toNat)
  case atStart => exact ⟨0, Nat.zero_le _, rfl, rfl, Below.refl _ _⟩
  case round =>
    obtain ⟨j, hj, rfl, rfl, hbr⟩ := hrel
    by_cases hlt : j < n
    · obtain ⟨b1, o1, rfl, hb1, hc1⟩ := (hx.below hbr).at_ (k := j) (by rw [marksT_len]; exact hlt)
      rw [marksT_get k n j hlt] at hc1
      have HM := Lib.hid (fun w => markText_any (k + j) w (by omega) (by omega))
      have hd1 := InW.cell (World.block_lt_of_cell? wr ⟨b1, o1 + j, none⟩ hc1) hc1
      have HB := Lib.hid hbr
      generalize markT (k + j) = u at *
      have hi : (j : Int) < (n : Int) := by omega
      clear hx hbr hc1
      go_wp2_with fail
      refine wp_region_in (by kernel_rfl) (by kernel_rfl) ?_
      repeat (go_big_quiet_step ((go_at_call 110; refine (HM.out _).mono ?_; rintro e w' ⟨rfl, hb⟩; exact ⟨rfl, ⟨_, below_thru (InW.on _) hb⟩, rfl⟩)))
      refine wpQuiet_nil ?_
      intro w2_ hw2_
      obtain ⟨⟨w2, hb2⟩, rfl⟩ := hw2_
      go_wp2_with fail
      go_roundw
      case rel => exact ⟨j + 1, by omega, by go_num, by go_num, below_thru HB.out hb2⟩
      case measure => simp [intOf]; omega
    · obtain rfl : j = n := by omega
      clear hx
      go_wp2_with fail
      go_ret
      exact ⟨rfl, hbr⟩

theorem markCard_any (d f : Int) (A : Option Addr) (c k n : Nat) (B : Nat) (xs : List Value) (w : World) (hx : w.ownsRow B 9 1 (.slice A n c) n xs) (h1 : 1 ≤ k) (hk : k ≤ 1048577) (hn : n ≤ 1048576) :
    Calls Try.prog 17 #[.agg #[.int .i64 d, .int .i64 f, .slice A n c], .int .i64 k] w fun e w' => e = .returned (.int .i64 (k + n : Nat)) ∧ w'.ownsRow B 9 1 (.slice A n c) n ((marksT k n).map Value.string) ∧ w.grownBy w' (Value.slice A n c).ownBlock := by
  have H := Lib.hid (fun w hx => markStringS_any A c k n B xs w hx h1 hk hn)
  have HX := Lib.hid (hx.alloc (.cells #[.int .i64 d, .int .i64 f, .slice A n c] 26))
  clear hx
  go_enter Try.func17, Try.ntmps17
  go_wp2_with fail
  refine (H.out _ HX.out).mono ?_
  rintro e w1 ⟨rfl, ho, hg⟩
  have HO := Lib.hid ho
  have HG := Lib.hid (grown_trans (World.grownBy_alloc w _ _) hg)
  clear ho hg
  go_wp2_with fail
  go_ret
  exact ⟨rfl, HO.out, HG.out⟩

theorem heldCard_any (d f : Int) (A : Option Addr) (c k n : Nat) (w : World) (hx : SRow w w.heap.size A (marksT k n)) (h1 : 1 ≤ k) (hk : k ≤ 1048577) (hn : n ≤ 1048576) :
    Calls Try.prog 18 #[.agg #[.int .i64 d, .int .i64 f, .slice A n c], .int .i64 k] w fun e w' => e = .returned (.int .i64 (k + n : Nat)) ∧ Below w.heap.size w w' := by
  have H := Lib.hid (fun w hx => heldStringS_any A c k n w hx h1 hk hn)
  have HX := Lib.hid (show SRow (w.alloc (.cells #[.int .i64 d, .int .i64 f, .slice A n c] 26)) (w.alloc (.cells #[.int .i64 d, .int .i64 f, .slice A n c] 26)).heap.size A (marksT k n) from hx.on (below_alloc (Below.refl _ _) _))
  have hnn : ¬ (((k + n : Nat) : Int) < 0) := by omega
  clear hx
  go_enter Try.func18, Try.ntmps18
  go_wp2_with fail
  refine (H.out _ HX.out).mono ?_
  rintro e w1 ⟨rfl, hb⟩
  go_wp2_with fail
  go_ret
  exact ⟨rfl, (by repeat' (first | exact Below.refl _ _ | assumption | (refine Below.drew ?_) | (refine below_drewN ?_ _) | (refine below_thru ?_ (by assumption)) | (refine below_alloc ?_ _) | (refine Below.setCell ?_ (by first | omega | (simp; done) | (simp; omega)) _) | (refine Below.alloc ?_ (by first | omega | (simp; done) | (simp; omega)) _)))⟩

end Go.Proofs.Ytkhlolhmaoenoaa
