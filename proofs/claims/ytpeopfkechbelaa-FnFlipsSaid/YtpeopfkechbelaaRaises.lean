
/-
  Contracts of RaisesOf on both sides and the walk of its law; no condition beyond the length of the text.
-/
import Derived.Test.YtpeopfkechbelaaRaise
import Derived.Test.YtpeopfkechbelaaViewsLaw
import Derived.Deep.AppendLies
namespace Go.Proofs.Ytpeopfkechbelaa
open Go.ChangeShapes Go.WideShapes Go.ChangeAt Go.RowKit Go.Deep Go.BigFrame
set_option linter.unusedVariables false

/-- the numbers below j that a test lets pass -/
def kP (p : Nat → Bool) (j : Nat) : List Int := ((List.range j).filter p).map fun k : Nat => (k : Int)
theorem kP_yes {p : Nat → Bool} {j : Nat} (h : p j = true) : kP p (j + 1) = kP p j ++ [(j : Int)] := by
  unfold kP
  rw [List.range_succ, List.filter_append, List.map_append]
  simp [h]
theorem kP_no {p : Nat → Bool} {j : Nat} (h : p j = false) : kP p (j + 1) = kP p j := by
  unfold kP
  rw [List.range_succ, List.filter_append, List.map_append]
  simp [h]
theorem kP_len (p : Nat → Bool) (j : Nat) : (kP p j).length ≤ j := by
  unfold kP
  rw [List.length_map]
  exact range_filter_le _ _
theorem kP_mem {p : Nat → Bool} {j : Nat} {z : Int} (h : z ∈ kP p j) : ∃ k : Nat, z = (k : Int) ∧ k < j ∧ p k = true := by
  unfold kP at h
  obtain ⟨k, hk, rfl⟩ := List.mem_map.1 h
  have := List.mem_filter.1 hk
  exact ⟨k, rfl, by simpa using this.1, this.2⟩

def cornersOf (l : List UInt8) : List Int := if isStrip l = true then kP (corner l) l.length else []
def raisesOf (l : List UInt8) : List Int := kP (fun k => foldAt 100 l (k : Int)) l.length
/-- those that can be raised -/
def raisable (l : List UInt8) (cs : List Int) : List Int := cs.filter (foldAt 100 l)

theorem raisable_corners (l : List UInt8) : raisable l (cornersOf l) = raisesOf l := by
  unfold raisable cornersOf raisesOf
  by_cases h : isStrip l = true
  · rw [if_pos h]
    unfold kP
    rw [List.filter_map, List.filter_filter]
    congr 1
    refine List.filter_congr (fun k _ => ?_)
    simp only [Function.comp_apply]
    cases hf : foldAt 100 l (k : Int)
    · rfl
    · simp only [foldAt, Bool.and_eq_true, Int.toNat_natCast] at hf
      rw [hf.2.2.1]
      rfl
  · rw [if_neg h]
    unfold kP
    have : (List.range l.length).filter (fun k : Nat => foldAt 100 l (k : Int)) = [] := by
      rw [List.filter_eq_nil_iff]
      intro k _
      rw [foldAt_strip (by simpa using h)]
      simp
    rw [this]
    rfl
theorem raisesOf_len (l : List UInt8) : (raisesOf l).length ≤ l.length := kP_len _ _
theorem cornersOf_len (l : List UInt8) : (cornersOf l).length ≤ l.length := by
  unfold cornersOf
  by_cases h : isStrip l = true
  · rw [if_pos h]; exact kP_len _ _
  · rw [if_neg h]; exact Nat.zero_le _
theorem cornersOf_mem {l : List UInt8} {z : Int} (h : z ∈ cornersOf l) : 0 ≤ z ∧ z < l.length := by
  unfold cornersOf at h
  by_cases h1 : isStrip l = true
  · rw [if_pos h1] at h
    obtain ⟨k, rfl, hk, _⟩ := kP_mem h
    omega
  · rw [if_neg h1] at h
    exact absurd h (by simp)

theorem implCornersOf_any (s : ByteArray) (w : World) (hs : s.size ≤ 4294967296) : Calls Try.prog 79 #[.string s] w (NewInts w (cornersOf s.data.toList)) := by
  have hst := fun w => implIsStrip_any s w hs
  by_cases h : isStrip s.data.toList = true
  · obtain ⟨i0, hi0, hz0, hz1, hz2⟩ := info_parts intInfo
    rw [show cornersOf s.data.toList = kP (corner s.data.toList) s.data.toList.length from if_pos h, size_list]
    rw [h] at hst
    have hcn : ∀ (k : Nat) w, Calls Try.prog 100 #[.string s, .int .i64 k] w fun e w' => e = .returned (.bool (corner s.data.toList k)) ∧ ∃ q, w' = w.drewN q := by
      intro k w
      have := isCorner_any s (k : Int) w hs
      simpa using this
    generalize corner s.data.toList = p at *
    have HC := Lib.hid hcn
    have HST := Lib.hid hst
    clear hcn hst h
    go_enter Try.func79, Try.ntmps79
    go_wp2_with fail
    refine (HST.out _).mono ?_
    rintro e w1 ⟨rfl, rfl⟩
    go_wp2_with fail
    go_loopw [3, 11] (fun o i wr => ∃ j : Nat, ∃ zs : List Int, j ≤ s.size ∧ i = .int .i64 j ∧ zs = kP p j ∧ wr.ownsRow w.heap.size 3 1 o zs.length (zs.map (Value.int .i64)) ∧ Below w.heap.size w wr) (fun _ i _ => s.size - (intOf i).toNat)
    case atStart => exact ⟨0, [], by omega, rfl, rfl, World.ownsRow_made w #[] 0 (Nat.le_refl _) (Nat.zero_le _) (by simp), (by repeat' (first | exact Below.refl _ _ | assumption | (refine Below.drew ?_) | (refine below_drewN ?_ _) | (refine below_thru ?_ (by assumption)) | (refine below_alloc ?_ _) | (refine Below.setCell ?_ (by first | omega | (simp; done) | (simp; omega)) _) | (refine Below.alloc ?_ (by first | omega | (simp; done) | (simp; omega)) _)))⟩
    case round =>
      obtain ⟨j, zs, hj, rfl, hzs, hown, hbr⟩ := hrel
      have hzl : zs.length ≤ j := by rw [hzs]; exact kP_len p _
      by_cases hlt : j < s.size
      · have hsz : w.heap.size ≤ wr.heap.size := hbr.size
        have H2 := Lib.hid hzs
        have H3 := Lib.hid hown
        have H4 := Lib.hid hbr
        have HCJ := Lib.hid (fun w => HC.out j w)
        clear hown hbr hzs
        cases hpj : p j
        · rw [hpj] at HCJ
          have HN := Lib.hid (kP_no hpj)
          clear hpj
          go_wp2_with fail
          refine (HCJ.out _).mono ?_
          rintro e w1 ⟨rfl, q, rfl⟩
          go_wp2_with fail
          go_roundw
          case rel => exact ⟨j + 1, zs, by omega, by go_num, by rw [HN.out, H2.out], own_drewN H3.out q, below_drewN H4.out q⟩
          case measure => simp [intOf]; omega
        · rw [hpj] at HCJ
          have HN := Lib.hid (kP_yes hpj)
          clear hpj
          go_wp2_with fail
          refine (HCJ.out _).mono ?_
          rintro e w1 ⟨rfl, q, rfl⟩
          have HO := Lib.hid (own_drewN H3.out q)
          have HB := Lib.hid (below_drewN H4.out q)
          have hsz2 : w.heap.size ≤ (wr.drewN q).heap.size := hsz
          generalize wr.drewN q = wq at *
          go_wp2_with (at_builtin; refine wpList_append_own _ rfl _ _ 51 rfl w.heap.size 3 i0 (.int .i64 0) 1 8 Try.underlying51 hi0 hz0 hz1 hz2 rfl (by decide) _ _ _ rfl (HO.out.alloc _) ⟨wq.heap.size, 0, none⟩ 1 1 [.int .i64 j] rfl rfl (news_one _ _ _) (one_one rfl) (by unfold maxLen; omega) (by omega) (by simp; omega) ?_; intro v1 w1 hown1 hgr1 _)
          have hb1 := below_app HB.out HO.out hgr1
          go_wp2_with fail
          go_roundw
          case rel =>
            refine ⟨j + 1, zs ++ [(j : Int)], by omega, by go_num, by rw [HN.out, H2.out], ?_, hb1⟩
            simpa using hown1
          case measure => simp [intOf]; omega
      · obtain rfl : j = s.size := by omega
        have HO := Lib.hid hown
        clear hown
        go_wp2_with fail
        go_ret
        subst hzs
        obtain ⟨A, c, e, _⟩ := Row.of_own HO.out
        subst e
        exact ⟨A, c, rfl, HO.out, hbr⟩
  · have h' : isStrip s.data.toList = false := by simpa using h
    rw [show cornersOf s.data.toList = [] from if_neg h]
    rw [h'] at hst
    clear h h'
    go_enter Try.func79, Try.ntmps79
    go_wp2_with fail
    refine (hst _).mono ?_
    rintro e w1 ⟨rfl, rfl⟩
    go_wp2_with fail
    go_ret
    exact newInts_nil _

/-- a slice that holds these numbers, in a block from lo up to hi -/
def Held (w : World) (A : Option Addr) (lo hi : Nat) (zs : List Int) : Prop :=
  0 < zs.length → ∃ b off, A = some ⟨b, off, none⟩ ∧ lo ≤ b ∧ b < hi ∧ ∀ j, j < zs.length → w.cell? ⟨b, off + j, none⟩ = some (.int .i64 (zs.getD j 0))
theorem Held.of_own {w : World} {lo c : Nat} {e : TypeId} {A : Option Addr} {zs : List Int} (h : w.ownsRow lo e 1 (.slice A zs.length c) zs.length (zs.map (Value.int .i64))) : Held w A lo w.heap.size zs := by
  intro hn
  obtain ⟨b, off, e1, hb, hc⟩ := (IRow.of_own h).2.2 hn
  subst e1
  refine ⟨b, off, rfl, (h.lt b rfl).1, hb, fun j hj => ?_⟩
  rw [hc j (by omega), List.getElem?_map, List.getD_eq_getElem?_getD, List.getElem?_eq_getElem hj]
  rfl
theorem Held.grown {w w' : World} {A : Option Addr} {lo hi : Nat} {zs : List Int} {row : Option Nat} (h : Held w A lo hi zs) (hg : w.grownBy w' row) (hB : hi ≤ w.heap.size) (hr : ∀ g, row = some g → g < lo ∨ hi ≤ g) : Held w' A lo hi zs := by
  intro hn
  obtain ⟨b, off, e, h1, h2, hc⟩ := h hn
  refine ⟨b, off, e, h1, h2, fun j hj => (World.cell?_of_block (hg.block b (by omega) (fun e => ?_))).trans (hc j hj)⟩
  have := hr b e.symm
  omega
theorem Held.drewN {w : World} {A : Option Addr} {lo hi : Nat} {zs : List Int} (h : Held w A lo hi zs) (q : Nat) : Held (w.drewN q) A lo hi zs := h
theorem Held.below {w w' : World} {A : Option Addr} {lo hi : Nat} {zs : List Int} (h : Held w A lo hi zs) (hb : Below w.heap.size w w') (hB : hi ≤ w.heap.size) : Held w' A lo hi zs :=
  h.grown (grown_of_below hb none) hB (fun g hg => absurd hg (by simp))

/-- where a row of the call's own may lie: outside of the blocks from lo up to hi -/
def Off (v : Value) (lo hi : Nat) : Prop := ∀ g, v.ownBlock = some g → g < lo ∨ hi ≤ g
theorem Off.next {v : Value} {lo hi g n c H : Nat} (h : Off v lo hi) (hat : v.ownBlock = some g ∨ g = H) (hH : hi ≤ H) : Off (.slice (some ⟨g, 0, none⟩) n c) lo hi := by
  intro g' hg'
  have e : g = g' := by simpa [Value.ownBlock] using hg'
  subst e
  rcases hat with h1 | h1
  · exact h g h1
  · exact .inr (by omega)

theorem raisable_yes {l : List UInt8} {cs : List Int} {j : Nat} (hj : j < cs.length) (h : foldAt 100 l (cs.getD j 0) = true) : raisable l (cs.take (j + 1)) = raisable l (cs.take j) ++ [cs.getD j 0] := by
  unfold raisable
  rw [take_snoc_getD cs j 0 hj, List.filter_append]
  simp only [List.filter_cons, h, List.filter_nil, if_true]
theorem raisable_no {l : List UInt8} {cs : List Int} {j : Nat} (hj : j < cs.length) (h : foldAt 100 l (cs.getD j 0) = false) : raisable l (cs.take (j + 1)) = raisable l (cs.take j) := by
  unfold raisable
  rw [take_snoc_getD cs j 0 hj, List.filter_append]
  simp only [List.filter_cons, h, List.filter_nil]
  simp
theorem raisable_len (l : List UInt8) (cs : List Int) : (raisable l cs).length ≤ cs.length := List.length_filter_le _ _

theorem implRaisesOf_any (s : ByteArray) (w : World) (hs : s.size ≤ 4294967296) : Calls Try.prog 38 #[.string s] w (NewInts w (raisesOf s.data.toList)) := by
  obtain ⟨i0, hi0, hz0, hz1, hz2⟩ := info_parts intInfo
  have hcn := fun (k : Int) w => implIsValley_any s k w hs
  have hco := fun w => implCornersOf_any s w hs
  rw [← raisable_corners]
  obtain ⟨l, hl⟩ : ∃ l, l = s.data.toList := ⟨_, rfl⟩
  have hcl := cornersOf_len s.data.toList
  rw [size_list] at hcl
  have hmem := fun z => cornersOf_mem (l := s.data.toList) (z := z)
  rw [size_list] at hmem
  rw [← hl] at hcn hco hcl hmem ⊢
  generalize cornersOf l = cs at *
  have HC := Lib.hid hcn
  have HO := Lib.hid hco
  have HM := Lib.hid hmem
  clear hcn hco hl hmem
  go_enter Try.func38, Try.ntmps38
  go_wp2_with fail
  refine (HO.out _).mono ?_
  rintro e w1 ⟨A, c, rfl, hoc, hbc⟩
  have h0 : w.heap.size + 1 ≤ w1.heap.size := by have := hbc.size; simpa using this
  have hb0 : Below w.heap.size w w1 := below_thru (below_alloc (Below.refl _ _) _) hbc
  have ho0 : w1.ownsRow w.heap.size 3 1 (.slice (some ⟨w.heap.size, 0, none⟩) 0 0) 0 [] := own_on (World.ownsRow_made w #[] 0 (Nat.le_refl _) (Nat.zero_le _) (by simp)) hbc
  have hheld := Held.of_own hoc
  have hlo : (w.alloc (.cells #[] 3)).heap.size = w.heap.size + 1 := by simp
  have HH := Lib.hid hheld
  have HB := Lib.hid hb0
  have HOW := Lib.hid ho0
  clear hheld hb0 ho0 hoc hbc
  go_wp2_with fail
  go_loopw [3, 10] (fun o i wr => ∃ j : Nat, ∃ zs : List Int, j ≤ cs.length ∧ i = .int .i64 j ∧ zs = raisable l (cs.take j) ∧ wr.ownsRow w.heap.size 3 1 o zs.length (zs.map (Value.int .i64)) ∧ Below w.heap.size w wr ∧ Off o (w.heap.size + 1) w1.heap.size ∧ Held wr A (w.heap.size + 1) w1.heap.size cs ∧ w1.heap.size ≤ wr.heap.size) (fun _ i _ => cs.length - (intOf i).toNat)
  case atStart => exact ⟨0, [], Nat.zero_le _, rfl, rfl, HOW.out, HB.out, fun g hg => by
    have e : w.heap.size = g := by simpa [Value.ownBlock] using hg
    omega, by have := HH.out; rw [hlo] at this; exact this, Nat.le_refl _⟩
  case round =>
    obtain ⟨j, zs, hj, rfl, hzs, hown, hbr, hoff, hheld, hsz1⟩ := hrel
    have hzl : zs.length ≤ j := by rw [hzs]; exact Nat.le_trans (raisable_len _ _) (List.length_take_le _ _)
    by_cases hlt : j < cs.length
    · obtain ⟨b1, o1, rfl, _, _, hcc⟩ := hheld (by omega)
      have hc1 := hcc j hlt
      have hz := HM.out _ (show cs.getD j 0 ∈ cs by rw [List.getD_eq_getElem?_getD, List.getElem?_eq_getElem hlt]; exact List.getElem_mem _)
      have hsz : w.heap.size ≤ wr.heap.size := by omega
      have hY := Lib.hid (fun h => raisable_yes (l := l) hlt h)
      have hN := Lib.hid (fun h => raisable_no (l := l) hlt h)
      generalize cs.getD j 0 = z at *
      have HCJ := Lib.hid (fun w => HC.out z w)
      have H2 := Lib.hid hzs
      have H3 := Lib.hid hown
      have H4 := Lib.hid hbr
      have H5 := Lib.hid hoff
      have H6 := Lib.hid hheld
      clear hown hbr hzs hoff hheld hcc
      cases hf : foldAt 100 l z
      · rw [hf] at HCJ
        have HF := Lib.hid hf
        clear hf
        go_wp2_with fail
        refine (HCJ.out _).mono ?_
        rintro e w2 ⟨rfl, q, rfl⟩
        go_wp2_with fail
        go_roundw
        case rel => exact ⟨j + 1, zs, by omega, by go_num, by rw [hN.out HF.out, H2.out], own_drewN H3.out q, below_drewN H4.out q, H5.out, H6.out.drewN q, hsz1⟩
        case measure => simp [intOf]; omega
      · rw [hf] at HCJ
        have HF := Lib.hid hf
        clear hf
        go_wp2_with fail
        refine (HCJ.out _).mono ?_
        rintro e w2 ⟨rfl, q, rfl⟩
        have HO3 := Lib.hid (own_drewN H3.out q)
        have HB4 := Lib.hid (below_drewN H4.out q)
        have H66 := Lib.hid (H6.out.drewN q)
        have hsz2 : w.heap.size ≤ (wr.drewN q).heap.size := hsz
        have hsz3 : w1.heap.size ≤ (wr.drewN q).heap.size := hsz1
        generalize wr.drewN q = wq at *
        go_wp2_with (at_builtin; refine wpList_append_lies _ rfl _ _ 51 rfl w.heap.size 3 i0 (.int .i64 0) 1 8 Try.underlying51 hi0 hz0 hz1 hz2 rfl (by decide) _ _ _ rfl (HO3.out.alloc _) ⟨wq.heap.size, 0, none⟩ 1 1 [.int .i64 z] rfl rfl (news_one _ _ _) (one_one rfl) (by decide) (by unfold maxLen; omega) (by omega) (by simp; omega) _ rfl ?_; intro g1 c1 w3 hown1 hgr1 hat1 hlt1)
        have hb1 := below_app HB4.out HO3.out hgr1
        have hh1 := Held.grown (H66.out.grown (World.grownBy_alloc wq _ none) hsz3 (fun g hg => absurd hg (by simp))) hgr1 (by simp; omega) H5.out
        have hof1 := Off.next (n := zs.length + 1) (c := c1) H5.out hat1 (by simp; omega)
        have hs3 : w1.heap.size ≤ w3.heap.size := by have := hgr1.size; simp at this; omega
        have HH1 := Lib.hid hh1
        have HF1 := Lib.hid hof1
        have HB1 := Lib.hid hb1
        have HW1 := Lib.hid hown1
        clear hh1 hof1 hb1 hown1 hgr1 hat1
        go_wp2_with fail
        go_roundw
        case rel =>
          refine ⟨j + 1, zs ++ [z], by omega, by go_num, by rw [hY.out HF.out, H2.out], ?_, HB1.out, ?_, HH1.out, hs3⟩
          · simpa using HW1.out
          · simpa using HF1.out
        case measure => simp [intOf]; omega
    · obtain rfl : j = cs.length := by omega
      have HO := Lib.hid hown
      rw [List.take_length] at hzs
      clear hown hheld
      go_wp2_with fail
      go_ret
      rw [← hzs]
      obtain ⟨A, c, e, _⟩ := Row.of_own HO.out
      subst e
      exact ⟨A, c, rfl, HO.out, hbr⟩

end Go.Proofs.Ytpeopfkechbelaa
