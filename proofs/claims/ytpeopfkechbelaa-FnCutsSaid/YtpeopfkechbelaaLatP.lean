
/-
  Plain law of the upper and the lower strip: a lattice, rooms and area; no program in sight.
-/
import Derived.Test.YtpeopfkechbelaaOrderP
import Derived.Test.YtpeopfkechbelaaBridgesP
namespace Go.Proofs.Ytpeopfkechbelaa
open Go.ChangeShapes Go.WideShapes Go.ChangeAt Go.RowKit Go.Deep Go.BigFrame
set_option linter.unusedVariables false
set_option linter.unusedSimpArgs false

theorem mix_frame2 {up : Bool} {s t : List UInt8} (h : sameFrame s t = true) : sameFrame t (mix up s t) = true := frame_trans (frame_symm h) (mix_frame h)
theorem mix_ext {up : Bool} {s t x : List UInt8} (h : sameFrame s t = true) (hx : sameFrame s x = true) (he : ∀ k, k ≤ s.length → mixF up s t k = fk x k) : mix up s t = x :=
  strip_ext (frame_trans (frame_symm (mix_frame h)) hx) fun k hk => by
    rw [mix_len h] at hk
    rw [mix_fk h k hk]
    exact he k hk
theorem upF (s t : List UInt8) (k : Nat) : mixF true s t k = max (fk s k) (fk t k) := rfl
theorem loF (s t : List UInt8) (k : Nat) : mixF false s t k = min (fk s k) (fk t k) := rfl
theorem up_fk {s t : List UInt8} (h : sameFrame s t = true) (k : Nat) (hk : k ≤ s.length) : fk (mix true s t) k = max (fk s k) (fk t k) := mix_fk h k hk
theorem lo_fk {s t : List UInt8} (h : sameFrame s t = true) (k : Nat) (hk : k ≤ s.length) : fk (mix false s t) k = min (fk s k) (fk t k) := mix_fk h k hk

/-- the lattice -/
theorem lat_one {s t : List UInt8} (h : sameFrame s t = true) :
    isAbove (mix true s t) s = true ∧ isAbove (mix true s t) t = true ∧ isAbove s (mix false s t) = true ∧ isAbove t (mix false s t) = true ∧
    mix true t s = mix true s t ∧ mix false t s = mix false s t ∧ mix true s (mix false s t) = s ∧ mix false s (mix true s t) = s := by
  have hl := sameFrame_len h
  have fu : sameFrame s (mix true s t) = true := mix_frame h
  have fl : sameFrame s (mix false s t) = true := mix_frame h
  have lu : (mix true s t).length = s.length := mix_len h
  have ll : (mix false s t).length = s.length := mix_len h
  have fss : sameFrame s s = true := frame_trans h (frame_symm h)
  refine ⟨?_, ?_, ?_, ?_, ?_, ?_, ?_, ?_⟩
  · exact (above_iff (frame_symm fu)).2 fun k hk => by rw [up_fk h k (by omega)]; omega
  · exact (above_iff (frame_symm (mix_frame2 h))).2 fun k hk => by rw [up_fk h k (by omega)]; omega
  · exact (above_iff fl).2 fun k hk => by rw [lo_fk h k (by omega)]; omega
  · exact (above_iff (mix_frame2 h)).2 fun k hk => by rw [lo_fk h k (by omega)]; omega
  · exact mix_ext (frame_symm h) (mix_frame2 h) fun k hk => by rw [upF, up_fk h k (by omega)]; omega
  · exact mix_ext (frame_symm h) (mix_frame2 h) fun k hk => by rw [loF, lo_fk h k (by omega)]; omega
  · exact mix_ext fl fss fun k hk => by rw [upF, lo_fk h k (by omega)]; omega
  · exact mix_ext fu fss fun k hk => by rw [loF, up_fk h k (by omega)]; omega

/-- the law of distribution -/
theorem lat_two {r s t : List UInt8} (h : sameFrame s t = true) (hr : sameFrame r s = true) :
    mix false r (mix true s t) = mix true (mix false r s) (mix false r t) ∧ (isAbove r s = true → isAbove r t = true → isAbove r (mix true s t) = true) := by
  have hrt := frame_trans hr h
  have hl := sameFrame_len hr
  have hru : sameFrame r (mix true s t) = true := frame_trans hr (mix_frame h)
  have f1 : sameFrame r (mix false r s) = true := mix_frame hr
  have f2 : sameFrame r (mix false r t) = true := mix_frame hrt
  have f12 := frame_trans (frame_symm f1) f2
  have l1 : (mix false r s).length = r.length := mix_len hr
  refine ⟨?_, fun h1 h2 => ?_⟩
  · refine mix_ext hru (frame_trans f1 (mix_frame f12)) fun k hk => ?_
    rw [loF, up_fk h k (by omega), up_fk f12 k (by omega), lo_fk hr k hk, lo_fk hrt k hk]
    omega
  · refine (above_iff hru).2 fun k hk => ?_
    have a := (above_iff hr).1 h1 k hk
    have b := (above_iff hrt).1 h2 k hk
    rw [up_fk h k (by omega)]
    omega

theorem hts_in (l : List UInt8) : ∀ x ∈ hts l, 0 ≤ x ∧ x ≤ (dn l : Int) := by
  induction l with
  | nil => intro x hx; simp [hts] at hx
  | cons c l ih =>
    intro x hx
    by_cases h : c = 102
    · subst h
      rw [hts_yes] at hx
      have e : dn (102 :: l) = dn l := by simp [dn, List.count_cons]
      rw [e]
      rcases List.mem_cons.1 hx with rfl | hx
      · exact ⟨by omega, Int.le_refl _⟩
      · exact ih x hx
    · rw [hts_no _ _ h] at hx
      have e : dn l ≤ dn (c :: l) := by simp only [dn, List.count_cons]; omega
      have := ih x hx
      omega
theorem hts_at_in {l : List UInt8} {i : Nat} (h : i < fw l) : 0 ≤ (hts l).getD i 0 ∧ (hts l).getD i 0 ≤ (dn l : Int) := by
  refine hts_in l _ ?_
  rw [← hts_len] at h
  simp [List.getD, h]
/-- heights of the upper and the lower strip -/
theorem hts_mix {s t : List UInt8} (h : sameFrame s t = true) {i : Nat} (hi : i < fw s) :
    (hts (mix true s t)).getD i 0 = max ((hts s).getD i 0) ((hts t).getD i 0) ∧ (hts (mix false s t)).getD i 0 = min ((hts s).getD i 0) ((hts t).getD i 0) := by
  have hl := sameFrame_len h
  obtain ⟨ps, pt, pd, pf⟩ := sameFrame_parts h
  obtain ⟨qs1, qs2, _⟩ := isStrip_parts ps
  obtain ⟨qt1, qt2, _⟩ := isStrip_parts pt
  have key : ∀ (m : List UInt8), sameFrame s m = true → ∀ v : Nat, v ≤ dn s → ((v : Int) ≤ (hts m).getD i 0 ↔ i + 1 ≤ fk m (dn s - v + i + 1)) := by
    intro m hm v hv
    obtain ⟨_, pm, md, mf⟩ := sameFrame_parts hm
    obtain ⟨q1, _⟩ := isStrip_parts pm
    have := hts_ge m q1 i v (by omega) (by omega)
    rw [← md] at this
    exact this
  have ks := key s (frame_trans h (frame_symm h))
  have kt := key t h
  have ku := key _ (mix_frame (up := true) h)
  have kl := key _ (mix_frame (up := false) h)
  have bs := hts_at_in hi
  have bt := hts_at_in (l := t) (i := i) (by omega)
  have bu : 0 ≤ (hts (mix true s t)).getD i 0 ∧ (hts (mix true s t)).getD i 0 ≤ (dn s : Int) := by
    obtain ⟨_, _, md, mf⟩ := sameFrame_parts (mix_frame (up := true) h)
    have := hts_at_in (l := mix true s t) (i := i) (by omega)
    omega
  have bl : 0 ≤ (hts (mix false s t)).getD i 0 ∧ (hts (mix false s t)).getD i 0 ≤ (dn s : Int) := by
    obtain ⟨_, _, md, mf⟩ := sameFrame_parts (mix_frame (up := false) h)
    have := hts_at_in (l := mix false s t) (i := i) (by omega)
    omega
  have eu : ∀ v : Nat, v ≤ dn s → ((v : Int) ≤ (hts (mix true s t)).getD i 0 ↔ (v : Int) ≤ (hts s).getD i 0 ∨ (v : Int) ≤ (hts t).getD i 0) := fun v hv => by
    rw [ku v hv, ks v hv, kt v hv, up_fk h _ (by omega)]
    omega
  have el : ∀ v : Nat, v ≤ dn s → ((v : Int) ≤ (hts (mix false s t)).getD i 0 ↔ (v : Int) ≤ (hts s).getD i 0 ∧ (v : Int) ≤ (hts t).getD i 0) := fun v hv => by
    rw [kl v hv, ks v hv, kt v hv, lo_fk h _ (by omega)]
    omega
  generalize (hts (mix true s t)).getD i 0 = u at *
  generalize (hts (mix false s t)).getD i 0 = l at *
  generalize (hts s).getD i 0 = a at *
  generalize (hts t).getD i 0 = b at *
  obtain ⟨u', rfl⟩ := Int.eq_ofNat_of_zero_le bu.1
  obtain ⟨l', rfl⟩ := Int.eq_ofNat_of_zero_le bl.1
  obtain ⟨a', rfl⟩ := Int.eq_ofNat_of_zero_le bs.1
  obtain ⟨b', rfl⟩ := Int.eq_ofNat_of_zero_le bt.1
  have e1 := eu u' (by omega)
  have e2 := eu a' (by omega)
  have e3 := eu b' (by omega)
  have e4 := el l' (by omega)
  have e5 := el a' (by omega)
  have e6 := el b' (by omega)
  omega

theorem sum_add (f g : Nat → Int) (n : Nat) : ((List.range n).map fun i => f i + g i).sum = ((List.range n).map f).sum + ((List.range n).map g).sum := by
  induction n with
  | zero => rfl
  | succ n ih =>
    simp only [List.range_succ, List.map_append, List.sum_append, List.map_cons, List.map_nil, List.sum_cons, List.sum_nil, ih]
    omega
theorem sum_ext (f g : Nat → Int) (n : Nat) (h : ∀ i, i < n → f i = g i) : ((List.range n).map f).sum = ((List.range n).map g).sum := by
  congr 1
  exact List.map_congr_left fun i hi => h i (List.mem_range.1 hi)
theorem room_sum {s m : List UInt8} (h : sameFrame s m = true) : roomOf m = ((List.range (fw s)).map fun i => (hts m).getD i 0).sum := by
  obtain ⟨_, pm, md, mf⟩ := sameFrame_parts h
  rw [room_hts pm]
  exact (sum_getD _ _ (by rw [hts_len]; omega)).symm
/-- rooms and area -/
theorem lat_rooms {s t : List UInt8} (h : sameFrame s t = true) :
    roomOf (mix true s t) + roomOf (mix false s t) = roomOf s + roomOf t ∧ areaOf s t = roomOf (mix true s t) - roomOf (mix false s t) := by
  have fss : sameFrame s s = true := frame_trans h (frame_symm h)
  obtain ⟨ps, pt, pd, pf⟩ := sameFrame_parts h
  rw [room_sum (mix_frame (up := true) h), room_sum (mix_frame (up := false) h), room_sum fss, room_sum h]
  constructor
  · rw [← sum_add, ← sum_add]
    exact sum_ext _ _ _ fun i hi => by obtain ⟨a, b⟩ := hts_mix h hi; rw [a, b]; omega
  · rw [← sum_sub]
    unfold areaOf
    rw [if_pos h, hts_all ps, hts_all pt]
    unfold aP
    exact sum_ext _ _ _ fun i hi => by obtain ⟨a, b⟩ := hts_mix h hi; rw [a, b]; omega

/-- the upper strip is one of the two just where one lies above the other -/
theorem lat_same {s t : List UInt8} (h : sameFrame s t = true) : (isAbove s t || isAbove t s) = (decide (mix true s t = s) || decide (mix true s t = t)) := by
  have hl := sameFrame_len h
  have fss : sameFrame s s = true := frame_trans h (frame_symm h)
  have h1 : isAbove s t = decide (mix true s t = s) := by
    rw [Bool.eq_iff_iff, decide_eq_true_iff, above_iff h]
    constructor
    · intro hk
      exact mix_ext h fss fun k hkl => by have := hk k hkl; rw [upF]; omega
    · intro e k hk
      have := up_fk h k hk
      rw [e] at this
      omega
  have h2 : isAbove t s = decide (mix true s t = t) := by
    rw [Bool.eq_iff_iff, decide_eq_true_iff, above_iff (frame_symm h)]
    constructor
    · intro hk
      exact mix_ext h h fun k hkl => by have := hk k (by omega); rw [upF]; omega
    · intro e k hk
      have := up_fk h k (by omega)
      rw [e] at this
      omega
  rw [h1, h2]

end Go.Proofs.Ytpeopfkechbelaa
