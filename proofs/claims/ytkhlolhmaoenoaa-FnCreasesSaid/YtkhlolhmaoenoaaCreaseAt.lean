
/-
  The contracts of CreaseAt on both sides; no condition beyond the size of the texts.
-/
import Derived.Test.YtkhlolhmaoenoaaCardAt
import Derived.Test.YtkhlolhmaoenoaaCrease
namespace Go.Proofs.Ytkhlolhmaoenoaa
open Go.ChangeShapes Go.WideShapes Go.ChangeAt Go.RowKit Go.Deep Go.BigFrame
set_option linter.unusedVariables false
set_option linter.unusedSimpArgs false

def creaseAt (d f : Int) (ss : List ByteArray) (k i : Int) : Int := if (cardOk d f ss && (inB k 0 ((ss.length : Int) - 1) && inB i 0 (d + f))) = true then crease (ss.getD k.toNat .empty).data.toList i else 0

theorem cardOk_size {d f : Int} {ss : List ByteArray} (h : cardOk d f ss = true) {s : ByteArray} (hs : s ∈ ss) : (s.size : Int) = d + f ∧ 2 ≤ s.size := by
  obtain ⟨h1, h2, h3⟩ := cardOk_strip h hs
  obtain ⟨a, b, c, d', e⟩ := isStrip_parts h1
  rw [size_list] at a
  omega

theorem implCreaseAt_any (d f : Int) (A : Option Addr) (c : Nat) (ss : List ByteArray) (k i : Int) (w : World) (hx : SRow w w.heap.size A ss) (hm : ∀ s ∈ ss, s.size ≤ 4294967296)
    (_ : -9223372036854775808 ≤ d ∧ d ≤ 9223372036854775807) (_ : -9223372036854775808 ≤ f ∧ f ≤ 9223372036854775807) (_ : -9223372036854775808 ≤ k ∧ k ≤ 9223372036854775807) (_ : -9223372036854775808 ≤ i ∧ i ≤ 9223372036854775807) :
    Calls Try.prog 41 #[.agg #[.int .i64 d, .int .i64 f, .slice A ss.length c], .int .i64 k, .int .i64 i] w fun e w' => e = .returned (.int .i64 (creaseAt d f ss k i)) ∧ Below w.heap.size w w' := by
  have HC := Lib.hid (fun w hx => hasStrip_any d f A c ss k w hx hm)
  have HST := Lib.hid (CardAt.start (d := d) (f := f) (c := c) hx)
  cases h : hasStrip d f ss k
  · rw [show creaseAt d f ss k i = 0 by
      unfold creaseAt
      unfold hasStrip at h
      rw [← Bool.and_assoc, h]; rfl]
    rw [h] at HC
    clear h hx
    go_enter Try.func41, Try.ntmps41
    go_wp2_with fail
    refine (HC.out _ HST.out.full).mono ?_
    rintro e w1 ⟨rfl, hb⟩
    go_wp2_with fail
    go_ret
    exact ⟨rfl, below_thru HST.out.below hb⟩
  rw [h] at HC
  have h' := h
  simp only [hasStrip, Bool.and_eq_true] at h'
  obtain ⟨hk0, h1⟩ := h'
  obtain ⟨⟨d1, d2⟩, ⟨f1, f2⟩, ⟨l1, l2⟩, _⟩ := cardOk_parts hk0
  obtain ⟨k1, k2⟩ := inB_iff.1 h1
  obtain ⟨n, rfl⟩ := Int.eq_ofNat_of_zero_le k1
  have hi : (n : Int) < (ss.length : Int) := by omega
  have hnl : n < ss.length := by omega
  have hmem := mem_getD (ss := ss) (k := n) hnl
  obtain ⟨hz1, hz2⟩ := cardOk_size hk0 hmem
  have hs := hm _ hmem
  have hcr : creaseAt d f ss n i = if inB i 0 ((ss.getD n .empty).size : Int) = true then crease (ss.getD n .empty).data.toList i else 0 := by
    unfold creaseAt
    rw [hk0, h1, Int.toNat_natCast, hz1]
    rfl
  rw [hcr]
  obtain ⟨s, hsv⟩ : ∃ s, s = ss.getD n .empty := ⟨_, rfl⟩
  rw [← hsv] at hz1 hz2 hs ⊢
  have HV := Lib.hid hsv
  have H2 := Lib.hid (fun w => within_any i 0 (s.size : Int) w)
  clear h hk0 h1 hcr hmem hx hsv hm hz1
  cases h2 : inB i 0 (s.size : Int)
  · rw [if_neg (by decide)]
    rw [h2] at H2
    clear h2
    go_enter Try.func41, Try.ntmps41
    go_wp2_with fail
    refine (HC.out _ HST.out.full).mono ?_
    rintro e w1 ⟨rfl, hb⟩
    have HCA := Lib.hid (HST.out.on hb)
    obtain ⟨p0, p1, p2, prow, pb, plt⟩ := HCA.out
    obtain ⟨b1, o1, rfl, hb1, hc1⟩ := HCA.out.at_ hnl
    rw [← HV.out] at hc1
    clear prow pb hb
    go_wp2_with fail
    refine (H2.out _).mono ?_
    rintro e w2 ⟨rfl, rfl⟩
    go_wp2_with fail
    go_ret
    exact ⟨rfl, HCA.out.below⟩
  rw [h2] at H2
  rw [if_pos rfl]
  obtain ⟨i1, i2⟩ := inB_iff.1 h2
  have hM := fun w => implIsMountain_any s i w hs
  have hV := fun w => implIsValley_any s i w hs
  have hg0 := at_get s 0 (by omega)
  have hgl := at_get s (s.size - 1) (by omega)
  have hz := size_list s
  have c1 := crease_m (l := s.data.toList) (i := i)
  have c2 := crease_v (l := s.data.toList) (i := i)
  have c3 := crease_0 (l := s.data.toList) (i := i)
  have c4 := crease_first (l := s.data.toList)
  have c5 := crease_last (l := s.data.toList)
  rw [hz] at c3 c5
  generalize s.data.toList = l at *
  have hb1 : (s.size : Int) - 1 < (s.size : Int) := by omega
  clear h2
  cases hm1 : foldAt 102 l i with
  | true =>
    rw [hm1] at hM
    rw [c1 hm1]
    clear c1 c2 c3 c4 c5 hm1 hV hg0 hgl hz
    go_enter Try.func41, Try.ntmps41
    go_wp2_with fail
    refine (HC.out _ HST.out.full).mono ?_
    rintro e w1 ⟨rfl, hb⟩
    have HCA := Lib.hid (HST.out.on hb)
    obtain ⟨p0, p1, p2, prow, pb, plt⟩ := HCA.out
    obtain ⟨b1, o1, rfl, hb1, hc1⟩ := HCA.out.at_ hnl
    rw [← HV.out] at hc1
    clear prow pb hb
    go_wp2_with fail
    refine (H2.out _).mono ?_
    rintro e w2 ⟨rfl, rfl⟩
    go_wp2_with fail
    refine (hM _).mono ?_
    rintro e w2 ⟨rfl, q, rfl⟩
    go_wp2_with fail
    go_ret
    exact ⟨rfl, below_drewN HCA.out.below q⟩
  | false =>
  rw [hm1] at hM
  cases hv1 : foldAt 100 l i with
  | true =>
    rw [hv1] at hV
    rw [c2 hv1]
    clear c1 c2 c3 c4 c5 hm1 hv1 hg0 hgl hz
    go_enter Try.func41, Try.ntmps41
    go_wp2_with fail
    refine (HC.out _ HST.out.full).mono ?_
    rintro e w1 ⟨rfl, hb⟩
    have HCA := Lib.hid (HST.out.on hb)
    obtain ⟨p0, p1, p2, prow, pb, plt⟩ := HCA.out
    obtain ⟨b1, o1, rfl, hb1, hc1⟩ := HCA.out.at_ hnl
    rw [← HV.out] at hc1
    clear prow pb hb
    go_wp2_with fail
    refine (H2.out _).mono ?_
    rintro e w2 ⟨rfl, rfl⟩
    go_wp2_with fail
    refine (hM _).mono ?_
    rintro e w2 ⟨rfl, q, rfl⟩
    go_wp2_with fail
    refine (hV _).mono ?_
    rintro e w3 ⟨rfl, q2, rfl⟩
    go_wp2_with fail
    go_ret
    exact ⟨rfl, by simpa using below_drewN HCA.out.below (q + q2)⟩
  | false =>
  rw [hv1] at hV
  by_cases h0 : i = 0
  · subst h0
    have bl : ((0 : Int) == (s.size : Int)) = false := by simp; omega
    by_cases h1 : at_ l 0 = 102
    · have b1 : (((at_ l 0).toNat : Int) == 102) = true := u8_t h1
      rw [c4 h1]
      clear c1 c2 c3 c4 c5 hm1 hv1 hgl hz h1
      generalize at_ l 0 = cc at *
      go_enter Try.func41, Try.ntmps41
      go_wp2_with fail
      refine (HC.out _ HST.out.full).mono ?_
      rintro e w1 ⟨rfl, hb⟩
      have HCA := Lib.hid (HST.out.on hb)
      obtain ⟨p0, p1, p2, prow, pb, plt⟩ := HCA.out
      obtain ⟨b1, o1, rfl, hb1, hc1⟩ := HCA.out.at_ hnl
      rw [← HV.out] at hc1
      clear prow pb hb
      go_wp2_with fail
      refine (H2.out _).mono ?_
      rintro e w2 ⟨rfl, rfl⟩
      go_wp2_with fail
      refine (hM _).mono ?_
      rintro e w2 ⟨rfl, q, rfl⟩
      go_wp2_with fail
      refine (hV _).mono ?_
      rintro e w3 ⟨rfl, q2, rfl⟩
      go_wp2_with fail
      go_ret
      exact ⟨rfl, by simpa using below_drewN HCA.out.below (q + q2)⟩
    · have b1 : (((at_ l 0).toNat : Int) == 102) = false := u8_f h1
      rw [c3 (fun h => h1 h.2) (fun h => by have := h.1; omega) hm1 hv1]
      clear c1 c2 c3 c4 c5 hm1 hv1 hgl hz h1
      generalize at_ l 0 = cc at *
      go_enter Try.func41, Try.ntmps41
      go_wp2_with fail
      refine (HC.out _ HST.out.full).mono ?_
      rintro e w1 ⟨rfl, hb⟩
      have HCA := Lib.hid (HST.out.on hb)
      obtain ⟨p0, p1, p2, prow, pb, plt⟩ := HCA.out
      obtain ⟨b1, o1, rfl, hb1, hc1⟩ := HCA.out.at_ hnl
      rw [← HV.out] at hc1
      clear prow pb hb
      go_wp2_with fail
      refine (H2.out _).mono ?_
      rintro e w2 ⟨rfl, rfl⟩
      go_wp2_with fail
      refine (hM _).mono ?_
      rintro e w2 ⟨rfl, q, rfl⟩
      go_wp2_with fail
      refine (hV _).mono ?_
      rintro e w3 ⟨rfl, q2, rfl⟩
      go_wp2_with fail
      go_ret
      exact ⟨rfl, by simpa using below_drewN HCA.out.below (q + q2)⟩
  have b0 : (i == 0) = false := by simp [h0]
  by_cases hn : i = (s.size : Int)
  · subst hn
    by_cases h1 : at_ l (s.size - 1) = 100
    · have b1 : (((at_ l (s.size - 1)).toNat : Int) == 100) = true := u8_t h1
      have c5' : crease l (s.size : Int) = 2 := c5 h1
      rw [c5']
      clear c1 c2 c3 c4 c5 c5' hm1 hv1 hg0 hz h1 h0
      generalize at_ l (s.size - 1) = cc at *
      go_enter Try.func41, Try.ntmps41
      go_wp2_with fail
      refine (HC.out _ HST.out.full).mono ?_
      rintro e w1 ⟨rfl, hb⟩
      have HCA := Lib.hid (HST.out.on hb)
      obtain ⟨p0, p1, p2, prow, pb, plt⟩ := HCA.out
      obtain ⟨b1, o1, rfl, hb1, hc1⟩ := HCA.out.at_ hnl
      rw [← HV.out] at hc1
      clear prow pb hb
      go_wp2_with fail
      refine (H2.out _).mono ?_
      rintro e w2 ⟨rfl, rfl⟩
      go_wp2_with fail
      refine (hM _).mono ?_
      rintro e w2 ⟨rfl, q, rfl⟩
      go_wp2_with fail
      refine (hV _).mono ?_
      rintro e w3 ⟨rfl, q2, rfl⟩
      go_wp2_with fail
      go_ret
      exact ⟨rfl, by simpa using below_drewN HCA.out.below (q + q2)⟩
    · have b1 : (((at_ l (s.size - 1)).toNat : Int) == 100) = false := u8_f h1
      rw [c3 (fun h => h0 h.1) (fun h => h1 h.2) hm1 hv1]
      clear c1 c2 c3 c4 c5 hm1 hv1 hg0 hz h1 h0
      generalize at_ l (s.size - 1) = cc at *
      go_enter Try.func41, Try.ntmps41
      go_wp2_with fail
      refine (HC.out _ HST.out.full).mono ?_
      rintro e w1 ⟨rfl, hb⟩
      have HCA := Lib.hid (HST.out.on hb)
      obtain ⟨p0, p1, p2, prow, pb, plt⟩ := HCA.out
      obtain ⟨b1, o1, rfl, hb1, hc1⟩ := HCA.out.at_ hnl
      rw [← HV.out] at hc1
      clear prow pb hb
      go_wp2_with fail
      refine (H2.out _).mono ?_
      rintro e w2 ⟨rfl, rfl⟩
      go_wp2_with fail
      refine (hM _).mono ?_
      rintro e w2 ⟨rfl, q, rfl⟩
      go_wp2_with fail
      refine (hV _).mono ?_
      rintro e w3 ⟨rfl, q2, rfl⟩
      go_wp2_with fail
      go_ret
      exact ⟨rfl, by simpa using below_drewN HCA.out.below (q + q2)⟩
  have bn : (i == (s.size : Int)) = false := by simp [hn]
  rw [c3 (fun h => h0 h.1) (fun h => hn h.1) hm1 hv1]
  clear c1 c2 c3 c4 c5 hm1 hv1 hg0 hgl hz h0 hn
  go_enter Try.func41, Try.ntmps41
  go_wp2_with fail
  refine (HC.out _ HST.out.full).mono ?_
  rintro e w1 ⟨rfl, hb⟩
  have HCA := Lib.hid (HST.out.on hb)
  obtain ⟨p0, p1, p2, prow, pb, plt⟩ := HCA.out
  obtain ⟨b1, o1, rfl, hb1, hc1⟩ := HCA.out.at_ hnl
  rw [← HV.out] at hc1
  clear prow pb hb
  go_wp2_with fail
  refine (H2.out _).mono ?_
  rintro e w2 ⟨rfl, rfl⟩
  go_wp2_with fail
  refine (hM _).mono ?_
  rintro e w2 ⟨rfl, q, rfl⟩
  go_wp2_with fail
  refine (hV _).mono ?_
  rintro e w3 ⟨rfl, q2, rfl⟩
  go_wp2_with fail
  go_ret
  exact ⟨rfl, by simpa using below_drewN HCA.out.below (q + q2)⟩

end Go.Proofs.Ytkhlolhmaoenoaa
