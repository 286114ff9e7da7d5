
/-
  Contracts of the functions on a whole card; no condition beyond the size of its texts.
-/
import Derived.Test.YtpeopfkechbelaaStr
import Derived.Test.YtpeopfkechbelaaCorner
namespace Go.Proofs.Ytpeopfkechbelaa
open Go.ChangeShapes Go.WideShapes Go.ChangeAt Go.RowKit Go.Deep Go.BigFrame
set_option linter.unusedVariables false
set_option linter.unusedSimpArgs false

/-- a new card of the call's own -/
def NewCard (w : World) (d f : Int) (ss : List ByteArray) (e : Ending) (w' : World) : Prop :=
  ∃ A c, e = .returned (.agg #[.int .i64 d, .int .i64 f, .slice A ss.length c]) ∧ w'.ownsRow w.heap.size 9 1 (.slice A ss.length c) ss.length (ss.map Value.string) ∧ Below w.heap.size w w'

/-- a strip of a frame -/
def inFrame (d f : Int) (s : ByteArray) : Bool := decide ((downOf s.data.toList : Int) = d) && decide ((forwardOf s.data.toList : Int) = f)
def cardOk (d f : Int) (ss : List ByteArray) : Bool := inB d 1 8 && (inB f 1 8 && (inB ss.length 1 10 && ss.all (inFrame d f)))

theorem inFrame_no1 {d f : Int} {s : ByteArray} (h : ¬ (downOf s.data.toList : Int) = d) : inFrame d f s = false := by simp [inFrame, h]
theorem inFrame_no2 {d f : Int} {s : ByteArray} (h : ¬ (forwardOf s.data.toList : Int) = f) : inFrame d f s = false := by simp [inFrame, h]
theorem inFrame_yes {d f : Int} {s : ByteArray} (h1 : (downOf s.data.toList : Int) = d) (h2 : (forwardOf s.data.toList : Int) = f) : inFrame d f s = true := by simp [inFrame, h1, h2]
theorem all_snocS (p : ByteArray → Bool) (xs : List ByteArray) (k : Nat) (h : k < xs.length) (h1 : (xs.take k).all p = true) (h2 : p (xs.getD k .empty) = true) : (xs.take (k + 1)).all p = true := by
  rw [take_snoc_getD xs k .empty h, List.all_append, h1, List.all_cons, h2]
  rfl
theorem all_falseS (p : ByteArray → Bool) (xs : List ByteArray) (k : Nat) (h : k < xs.length) (h2 : p (xs.getD k .empty) = false) : xs.all p = false := by
  cases e : xs.all p with
  | false => rfl
  | true =>
    rw [List.all_eq_true] at e
    have hx : xs.getD k .empty = xs[k] := by simp [List.getD, h]
    have := e _ (List.getElem_mem h)
    rw [hx] at h2
    rw [h2] at this
    exact absurd this (by decide)
theorem int_bne_t {a b : Int} (h : ¬ a = b) : (a != b) = true := by simp [h]
theorem int_bne_f {a b : Int} (h : a = b) : (a != b) = false := by simp [h]
theorem cardOk_all {d f : Int} {ss : List ByteArray} (h : ss.all (inFrame d f) = false) : cardOk d f ss = false := by simp [cardOk, h]
theorem mem_getD {ss : List ByteArray} {k : Nat} (h : k < ss.length) : ss.getD k .empty ∈ ss := by
  have hx : ss.getD k .empty = ss[k] := by simp [List.getD, h]
  rw [hx]
  exact List.getElem_mem h

theorem implCardOk_any (d f : Int) (A : Option Addr) (c : Nat) (ss : List ByteArray) (w : World) (hx : SRow w w.heap.size A ss) (hm : ∀ s ∈ ss, s.size ≤ 4294967296) :
    Calls Try.prog 84 #[.agg #[.int .i64 d, .int .i64 f, .slice A ss.length c]] w fun e w' => e = .returned (.bool (cardOk d f ss)) ∧ Below w.heap.size w w' := by
  have hmx := hx.2.1
  unfold maxLen at hmx
  generalize hl : ss.length = n at *
  have HL := Lib.hid hl
  clear hl
  go_enter Try.func84, Try.ntmps84
  go_wp2_with fail
  go_loopw [8] (fun i wr => ∃ k : Nat, k ≤ n ∧ i = .int .i64 k ∧ (ss.take k).all (inFrame d f) = true ∧ wr.cell? ⟨w.heap.size, 0, none⟩ = some (.int .i64 d) ∧ wr.cell? ⟨w.heap.size, 1, none⟩ = some (.int .i64 f) ∧ wr.cell? ⟨w.heap.size, 2, none⟩ = some (.slice A n c) ∧ Below w.heap.size w wr) (fun i _ => n - (intOf i).toNat)
  case atStart => exact ⟨0, Nat.zero_le _, rfl, rfl, by go_simp, by go_simp, by go_simp, (by repeat' (first | exact Below.refl _ _ | assumption | (refine Below.drew ?_) | (refine below_drewN ?_ _) | (refine below_thru ?_ (by assumption)) | (refine below_alloc ?_ _) | (refine Below.setCell ?_ (by first | omega | (simp; done) | (simp; omega)) _) | (refine Below.alloc ?_ (by first | omega | (simp; done) | (simp; omega)) _)))⟩
  case round =>
    obtain ⟨k, hk, rfl, ht, q0, q1, q2, hbr⟩ := hrel
    by_cases hlt : k < n
    · have hkl : k < ss.length := by rw [HL.out]; exact hlt
      obtain ⟨b1, o1, rfl, hb1, hc1⟩ := (hx.below hbr).at_ (k := k) hkl
      have HB := Lib.hid hbr
      have hsz := hm _ (mem_getD hkl)
      have hD := fun w => implDownOf_any (ss.getD k .empty) w hsz
      have hF := fun w => implForwardOf_any (ss.getD k .empty) w hsz
      have hyes := fun h => all_snocS (inFrame d f) ss k hkl ht h
      have hno := fun h => cardOk_all (all_falseS (inFrame d f) ss k hkl h)
      have y0 := fun h1 h2 => inFrame_yes (d := d) (f := f) (s := ss.getD k .empty) h1 h2
      have n1 := fun h => inFrame_no1 (d := d) (f := f) (s := ss.getD k .empty) h
      have n2 := fun h => inFrame_no2 (d := d) (f := f) (s := ss.getD k .empty) h
      generalize ss.getD k .empty = v at *
      generalize downOf v.data.toList = x at *
      generalize forwardOf v.data.toList = y at *
      have HD := Lib.hid hD
      have HF := Lib.hid hF
      have HY := Lib.hid hyes
      have HN := Lib.hid hno
      have Y0 := Lib.hid y0
      have N1 := Lib.hid n1
      have N2 := Lib.hid n2
      have hi : (k : Int) < (n : Int) := by omega
      clear hD hF hyes hno y0 n1 n2 ht hm hx hbr
      by_cases h1 : (x : Int) = d
      · have b1 := int_bne_f h1
        by_cases h2 : (y : Int) = f
        · have b2 := int_bne_f h2
          have HE := Lib.hid (HY.out (Y0.out h1 h2))
          clear h1 h2
          go_wp2_with fail
          go_quiet ((first | (go_at_call 87; exact quiet_left (HD.out _)) | (go_at_call 102; exact quiet_left (HF.out _))))
          go_wp2_with fail
          go_roundw
          case rel => exact ⟨k + 1, by omega, by go_num, HE.out, q0, q1, q2, below_drewN HB.out _⟩
          case measure => simp [intOf]; omega
        · have b2 := int_bne_t h2
          have HE := Lib.hid (HN.out (N2.out h2))
          clear h1 h2
          go_wp2_with fail
          go_quiet ((first | (go_at_call 87; exact quiet_left (HD.out _)) | (go_at_call 102; exact quiet_left (HF.out _))))
          go_wp2_with fail
          go_ret
          exact ⟨by rw [HE.out]; rfl, below_drewN HB.out _⟩
      · have b1 := int_bne_t h1
        have HE := Lib.hid (HN.out (N1.out h1))
        clear h1
        go_wp2_with fail
        go_quiet ((first | (go_at_call 87; exact quiet_left (HD.out _)) | (go_at_call 102; exact quiet_left (HF.out _))))
        go_wp2_with fail
        go_ret
        exact ⟨by rw [HE.out]; rfl, below_drewN HB.out _⟩
    · obtain rfl : k = n := by omega
      have e1 := List.take_of_length_le (l := ss) (i := k) (by rw [HL.out]; exact Nat.le_refl _)
      rw [e1] at ht
      have hdef : cardOk d f ss = (inB d 1 8 && (inB f 1 8 && inB k 1 10)) := by unfold cardOk; rw [ht, HL.out, Bool.and_true]
      have HE := Lib.hid hdef
      have HS := Lib.hid (fun n w => isSteps_any n w)
      have HB := Lib.hid hbr
      clear ht hdef hx hm e1 hbr
      cases h1 : inB d 1 8
      · have H1 := Lib.hid (fun w => h1 ▸ isSteps_any d w)
        rw [h1] at HE
        clear h1 HS
        go_wp2_with fail
        refine (H1.out _).mono ?_
        rintro e w1 ⟨rfl, rfl⟩
        go_wp2_with fail
        go_ret
        exact ⟨by rw [HE.out]; rfl, HB.out⟩
      · have H1 := Lib.hid (fun w => h1 ▸ isSteps_any d w)
        cases h2 : inB f 1 8
        · have H2 := Lib.hid (fun w => h2 ▸ isSteps_any f w)
          rw [h1, h2] at HE
          clear h1 h2 HS
          go_wp2_with fail
          refine (H1.out _).mono ?_
          rintro e w1 ⟨rfl, rfl⟩
          go_wp2_with fail
          refine (H2.out _).mono ?_
          rintro e w1 ⟨rfl, rfl⟩
          go_wp2_with fail
          go_ret
          exact ⟨by rw [HE.out]; rfl, HB.out⟩
        · have H2 := Lib.hid (fun w => h2 ▸ isSteps_any f w)
          have H3 := Lib.hid (fun w => within_any k 1 10 w)
          rw [h1, h2] at HE
          clear h1 h2 HS
          go_wp2_with fail
          refine (H1.out _).mono ?_
          rintro e w1 ⟨rfl, rfl⟩
          go_wp2_with fail
          refine (H2.out _).mono ?_
          rintro e w1 ⟨rfl, rfl⟩
          go_wp2_with fail
          refine (H3.out _).mono ?_
          rintro e w1 ⟨rfl, rfl⟩
          go_wp2_with fail
          go_ret
          exact ⟨by rw [HE.out]; rfl, HB.out⟩

end Go.Proofs.Ytpeopfkechbelaa
