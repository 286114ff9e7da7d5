
/-
  The contract of CutRuns: the runs of the cuts between two strips; no condition beyond the length of the texts.
-/
import Derived.Test.YtpeopfkechbelaaCuts
import Derived.Test.YtpeopfkechbelaaTabs
import Derived.Test.YtpeopfkechbelaaHeldP
import Derived.Deep.Cut
namespace Go.Proofs.Ytpeopfkechbelaa
open Go.ChangeShapes Go.WideShapes Go.ChangeAt Go.RowKit Go.Deep Go.BigFrame
set_option linter.unusedVariables false
set_option linter.unusedSimpArgs false

/-- one number more: the last run grows, or a new one begins -/
def runStep (xss : List (List Int)) (k : Int) : List (List Int) :=
  if 0 < xss.length ∧ (xss.getD (xss.length - 1) []).getD 1 0 = k - 1 then xss.set (xss.length - 1) [(xss.getD (xss.length - 1) []).getD 0 0, k] else xss ++ [[k, k]]
def runsTo (zs : List Int) : Nat → List (List Int)
  | 0 => []
  | j + 1 => runStep (runsTo zs j) (zs.getD j 0)
theorem runsTo_zero (zs : List Int) : runsTo zs 0 = [] := rfl
theorem runsTo_succ (zs : List Int) (j : Nat) : runsTo zs (j + 1) = runStep (runsTo zs j) (zs.getD j 0) := rfl
theorem step_new {xss : List (List Int)} {k : Int} (h : xss.length = 0) : runStep xss k = xss ++ [[k, k]] := if_neg (by omega)
theorem step_grow {xss : List (List Int)} {k a b : Int} {m : Nat} (h : xss.length = m + 1) (hab : xss.getD m [] = [a, b]) (hb : b = k - 1) : runStep xss k = xss.set m [a, k] := by
  unfold runStep
  rw [h, Nat.add_sub_cancel, hab, if_pos ⟨by omega, hb⟩]
  rfl
theorem step_next {xss : List (List Int)} {k a b : Int} {m : Nat} (h : xss.length = m + 1) (hab : xss.getD m [] = [a, b]) (hb : ¬ b = k - 1) : runStep xss k = xss ++ [[k, k]] := by
  unfold runStep
  rw [h, Nat.add_sub_cancel, hab, if_neg (fun h => hb h.2)]

/-- all runs are pairs of numbers that were there -/
def Pairs (B : Int) (xss : List (List Int)) : Prop := ∀ i, i < xss.length → ∃ a b, xss.getD i [] = [a, b] ∧ (0 ≤ a ∧ a ≤ B) ∧ (0 ≤ b ∧ b ≤ B)
theorem Pairs.snoc {B k : Int} {xss : List (List Int)} (h : Pairs B xss) (hk : 0 ≤ k ∧ k ≤ B) : Pairs B (xss ++ [[k, k]]) := by
  intro i hi
  by_cases e : i < xss.length
  · rw [getD_lt _ _ _ _ e]; exact h i e
  · rw [getD_end _ _ _ _ (by simp at hi; omega)]; exact ⟨k, k, rfl, hk, hk⟩
theorem getD_set_at (xss : List (List Int)) (m i : Nat) (x : List Int) (hm : m < xss.length) : (xss.set m x).getD i [] = if i = m then x else xss.getD i [] := by
  by_cases e : i = m
  · subst e; rw [if_pos rfl]; simp [List.getD, hm]
  · rw [if_neg e]; simp [List.getD, List.getElem?_set_ne (Ne.symm e)]
theorem Pairs.put {B k a b : Int} {xss : List (List Int)} {m : Nat} (h : Pairs B xss) (hm : m < xss.length) (hab : xss.getD m [] = [a, b]) (hk : 0 ≤ k ∧ k ≤ B) : Pairs B (xss.set m [a, k]) := by
  intro i hi
  rw [getD_set_at _ _ _ _ hm]
  by_cases e : i = m
  · rw [if_pos e]
    obtain ⟨a', b', e2, h1, _⟩ := h m hm
    rw [hab] at e2
    obtain ⟨rfl, rfl⟩ : a = a' ∧ b = b' := by simpa using e2
    exact ⟨a, k, rfl, h1, hk⟩
  · rw [if_neg e]; exact h i (by simpa using hi)
theorem Pairs.step {B k : Int} {xss : List (List Int)} (h : Pairs B xss) (hk : 0 ≤ k ∧ k ≤ B) : Pairs B (runStep xss k) := by
  rcases Nat.eq_zero_or_pos xss.length with h0 | h0
  · rw [step_new h0]; exact h.snoc hk
  · obtain ⟨m, hm⟩ : ∃ m, xss.length = m + 1 := ⟨xss.length - 1, by omega⟩
    obtain ⟨a, b, hab, _⟩ := h m (by omega)
    by_cases hb : b = k - 1
    · rw [step_grow hm hab hb]; exact h.put (by omega) hab hk
    · rw [step_next hm hab hb]; exact h.snoc hk
theorem runStep_len (xss : List (List Int)) (k : Int) : (runStep xss k).length ≤ xss.length + 1 := by
  unfold runStep
  split <;> simp
theorem runsTo_len (zs : List Int) (j : Nat) : (runsTo zs j).length ≤ j := by
  induction j with
  | zero => exact Nat.le_refl _
  | succ j ih =>
    have := runStep_len (runsTo zs j) (zs.getD j 0)
    rw [runsTo_succ]
    omega

/-- the parts of a table whose rows are pairs: where the last number of a row lies, and what is left when it is written -/
theorem kid_at {w : World} {base base2 i : Nat} {v : Value} {vs : List Value} {xss : List (List Int)} {a b : Int} (ho : w.ownsRow base 51 1 v xss.length vs) (hk : Kids w base2 v.ownBlock vs xss) (hi : i < xss.length) (hab : xss.getD i [] = [a, b]) :
    ∃ g cap gk ck, v = .slice (some ⟨g, 0, none⟩) xss.length cap ∧ w.cell? ⟨g, i, none⟩ = some (.slice (some ⟨gk, 0, none⟩) 2 ck) ∧ w.cell? ⟨gk, 0, none⟩ = some (.int .i64 a) ∧ w.cell? ⟨gk, 1, none⟩ = some (.int .i64 b) ∧ w.frozen? ⟨gk, 1, none⟩ = false ∧ (base2 ≤ gk ∧ gk < w.heap.size) ∧
      ∀ u, (w.setCell ⟨gk, 1, none⟩ (.int .i64 u)).ownsRow base 51 1 v xss.length vs ∧ Kids (w.setCell ⟨gk, 1, none⟩ (.int .i64 u)) base2 v.ownBlock vs (xss.set i [a, u]) := by
  rcases ho.2 with ⟨_, h0⟩ | ⟨g, cap, cur, rfl, hb, hg, hnc, hcm, hcs, ht⟩
  · omega
  obtain ⟨A, c, e, r⟩ := hk.row i hi
  rw [hab] at r e
  rcases r.2 with ⟨_, h0⟩ | ⟨gk, ck, cur2, hv2, hb2, hg2, hnc2, hcm2, hcs2, ht2⟩
  · simp at h0
  obtain ⟨rfl, rfl⟩ : A = some ⟨gk, 0, none⟩ ∧ c = ck := by simpa using hv2
  have hvl : vs.length = xss.length := hk.len
  have hkb : (vs.getD i undef).ownBlock = some gk := by rw [e]; rfl
  have hout : g ≠ gk := fun e2 => hk.out i hi gk hkb (by rw [e2]; rfl)
  refine ⟨g, cap, gk, c, rfl, ?_, ?_, ?_, r.frozenAt 1, (r.lt gk rfl), fun u => ⟨ownsRow_setCell_other ho (by simpa [Value.ownBlock] using hout) _, ?_⟩⟩
  · rw [ho.cellAt i (by omega), List.getElem?_eq_getElem (by omega)]
    have : vs.getD i undef = vs[i]'(by omega) := by simp [List.getD, show i < vs.length by omega]
    rw [← this, e]
    rfl
  · exact r.cellAt 0 (by simp)
  · exact r.cellAt 1 (by simp)
  · refine ⟨by rw [List.length_set]; exact hk.len, fun j hj => ?_, fun j1 j2 h12 hj2 => hk.apart j1 j2 h12 (by simpa using hj2), fun j hj => hk.out j (by simpa using hj)⟩
    rw [List.length_set] at hj
    rw [getD_set_at _ _ _ _ hi]
    by_cases e3 : j = i
    · subst e3
      rw [if_pos rfl]
      exact ⟨_, _, e, (r.stored 1 (.int .i64 u)).1⟩
    · rw [if_neg e3]
      obtain ⟨A', c', e', r'⟩ := hk.row j hj
      refine ⟨A', c', e', ownsRow_setCell_other r' (fun e4 => ?_) _⟩
      have h4 : (vs.getD j undef).ownBlock = some gk := by rw [e']; exact e4
      rcases Nat.lt_or_gt_of_ne e3 with h5 | h5
      · exact hk.apart j i h5 hi gk h4 hkb
      · exact hk.apart i j h5 hj gk hkb h4

theorem own_pair (w : World) (e : TypeId) (base : Nat) (a b : Value) (hb : base ≤ w.heap.size) : (w.alloc (.cells #[a, b] e)).ownsRow base e 1 (.slice (some ⟨w.heap.size, 0, none⟩) 2 2) 2 [a, b] :=
  ⟨rfl, .inr ⟨w.heap.size, 2, #[a, b], rfl, hb, heap_alloc_new w _, Nat.le_refl _, by decide, rfl, rfl⟩⟩

theorem cP_mem {p : Nat → Bool} {j : Nat} {z : Int} (h : z ∈ cP p j) : ∃ k : Nat, z = (k : Int) ∧ k < j ∧ p k = true := by
  unfold cP at h
  obtain ⟨k, hk, rfl⟩ := List.mem_map.1 h
  have := List.mem_filter.1 hk
  exact ⟨k, rfl, by simpa using this.1, this.2⟩
theorem cutsOf_mem {l m : List UInt8} {z : Int} (h : z ∈ cutsOf l m) : 0 ≤ z ∧ z ≤ (l.length : Int) := by
  unfold cutsOf at h
  by_cases e : sameFrame l m = true
  · rw [if_pos e] at h
    obtain ⟨k, rfl, hk, _⟩ := cP_mem h
    omega
  · rw [if_neg e] at h; exact absurd h (by simp)

theorem kids_pair {w1 w3 : World} {base g1 : Nat} {v : Value} {vs : List Value} {xss : List (List Int)} {wr : World} {k : Int} (hk : Kids wr base v.ownBlock vs xss) (hb : base ≤ wr.heap.size) (hv : ∀ g, v.ownBlock = some g → g < wr.heap.size)
    (hw1 : w1 = wr.alloc (.cells #[.int .i64 k, .int .i64 k] 3)) (hgr : w1.grownBy w3 v.ownBlock) (hat : v.ownBlock = some g1 ∨ g1 = w1.heap.size + 1) :
    Kids w3 base (some g1) (vs ++ [.slice (some ⟨wr.heap.size, 0, none⟩) 2 2]) (xss ++ [[k, k]]) := by
  subst hw1
  refine Kids.snocV (ys := [k, k]) (Ak := some ⟨wr.heap.size, 0, none⟩) (ck := 2) (H := (wr.alloc (.cells #[.int .i64 k, .int .i64 k] 3)).heap.size + 1) rfl (hk.on (below_alloc (Below.refl _ _) _)) (own_pair wr _ base _ _ hb) (fun i hi g hg e => ?_) (fun g hg e => ?_) hgr hat (by omega)
  · have h1 := (hk.lt hi hg).2
    have h2 : wr.heap.size = g := by simpa [Value.ownBlock] using e
    omega
  · have h1 := hv g e
    have h2 : wr.heap.size = g := by simpa [Value.ownBlock] using hg
    omega

theorem news_two (w : World) (o1 : Obj) (v : Value) (t : TypeId) : ∀ (j : Nat) (u : Value), [v][j]? = some u → ((w.alloc o1).alloc (.cells #[v] t)).cell? ((⟨w.heap.size + 1, 0, none⟩ : Addr).add j) = some u := by
  rw [show w.heap.size + 1 = (w.alloc o1).heap.size from by simp]
  exact news_one _ _ _

set_option maxRecDepth 4000 in
theorem implCutRuns_any (s t : ByteArray) (w : World) (hs : s.size ≤ 4294967296) (ht : t.size ≤ 4294967296) :
    Calls Try.prog 44 #[.string s, .string t] w (NewTab w (runsTo (cutsOf s.data.toList t.data.toList) (cutsOf s.data.toList t.data.toList).length)) := by
  obtain ⟨j0, hj0, jz0, jz1, jz2⟩ := info_parts intInfo
  obtain ⟨i0, hi0, hz0, hz1, hz2⟩ := info_parts rowInfo
  have HC := Lib.hid (fun w => implCutsBetween_any s t w hs ht)
  have hzl : (cutsOf s.data.toList t.data.toList).length ≤ 4294967296 := by have := cutsOf_len s.data.toList t.data.toList; rw [size_list] at this; omega
  have HM := Lib.hid (fun z (h : z ∈ cutsOf s.data.toList t.data.toList) => show 0 ≤ z ∧ z ≤ 4294967296 from by have := cutsOf_mem h; rw [size_list] at this; omega)
  generalize cutsOf s.data.toList t.data.toList = zs at *
  go_enter Try.func44, Try.ntmps44
  go_wp2_with fail
  refine (HC.out _).mono ?_
  rintro e w1 ⟨A, c, rfl, hoc, hbc⟩
  have h0 : w.heap.size + 1 ≤ w1.heap.size := by have := hbc.size; simpa using this
  have hb0 : Below w.heap.size w w1 := below_thru (below_alloc (Below.refl _ _) _) hbc
  have ho0 : w1.ownsRow w.heap.size 51 1 (.slice (some ⟨w.heap.size, 0, none⟩) 0 0) 0 [] := own_on (World.ownsRow_made w #[] 0 (Nat.le_refl _) (Nat.zero_le _) (by simp)) hbc
  have hheld := Held.of_own hoc
  have hlo : (w.alloc (.cells #[] 51)).heap.size = w.heap.size + 1 := by simp
  rw [hlo] at hheld
  have HH := Lib.hid hheld
  have HB := Lib.hid hb0
  have HOW := Lib.hid ho0
  clear hheld hb0 ho0 hoc hbc hlo
  go_wp2_with fail
  go_loopw [5, 14] (fun ov iv wr => ∃ (j : Nat) (vs : List Value) (xss : List (List Int)), j ≤ zs.length ∧ iv = .int .i64 j ∧ xss = runsTo zs j ∧ Pairs 4294967296 xss ∧ wr.ownsRow w.heap.size 51 1 ov xss.length vs ∧ Kids wr w1.heap.size ov.ownBlock vs xss ∧ Off ov (w.heap.size + 1) w1.heap.size ∧ Held wr A (w.heap.size + 1) w1.heap.size zs ∧ Below w.heap.size w wr ∧ w1.heap.size ≤ wr.heap.size) (fun _ iv _ => zs.length - (intOf iv).toNat)
  case atStart => exact ⟨0, [], [], Nat.zero_le _, rfl, rfl, fun i hi => absurd hi (by simp), HOW.out, Kids.nil_ _ _ _, fun g hg => by
    have e : w.heap.size = g := by simpa [Value.ownBlock] using hg
    omega, HH.out, HB.out, Nat.le_refl _⟩
  case round =>
    obtain ⟨j, vs, xss, hj, rfl, hxs, hpr, hown, hkids, hoff, hheld, hbr, hsz1⟩ := hrel
    have hxl : xss.length ≤ j := by rw [hxs]; exact runsTo_len zs j
    have H1 := Lib.hid hxs
    have H2 := Lib.hid hpr
    have H3 := Lib.hid hown
    have H4 := Lib.hid hkids
    have H5 := Lib.hid hoff
    have H6 := Lib.hid hheld
    have H7 := Lib.hid hbr
    clear hxs hpr hown hkids hoff hheld hbr HH HB HOW
    by_cases hlt : j < zs.length
    · have hi : (j : Int) < (zs.length : Int) := by omega
      obtain ⟨b1, o1, rfl, _, _, hcc⟩ := H6.out (by omega)
      have hc1 := hcc j hlt
      have hz := HM.out _ (show zs.getD j 0 ∈ zs by rw [List.getD_eq_getElem?_getD, List.getElem?_eq_getElem hlt]; exact List.getElem_mem _)
      have HS := Lib.hid (runsTo_succ zs j)
      clear hcc
      generalize zs.getD j 0 = z at *
      have HPS := Lib.hid (H2.out.step hz)
      have hszw : w.heap.size ≤ wr.heap.size := by omega
      have HOA := Lib.hid (H3.out.alloc (.cells #[.int .i64 z, .int .i64 z] 3))
      by_cases hn0 : xss.length = 0
      · have hn1 : ¬ (0 : Int) < (xss.length : Int) := by omega
        have HST := Lib.hid (step_new (k := z) hn0)
        obtain ⟨A9, c9, e9, _⟩ := own_slice9 H3.out
        subst e9
        clear hn0
        go_wp2_with (at_builtin; refine wpList_append_lies _ rfl _ _ 58 rfl w.heap.size 51 i0 (.slice none 0 0) 1 24 Try.underlying58 hi0 hz0 hz1 hz2 rfl (by decide) _ _ _ rfl (HOA.out.alloc _) ⟨wr.heap.size + 1, 0, none⟩ 1 1 [.slice (some ⟨wr.heap.size, 0, none⟩) 2 2] rfl rfl (news_two _ _ _ _) (one_one rfl) (by decide) (by unfold maxLen; omega) (by omega) (by simp; omega) _ rfl ?_; intro g1 c1 w3 hown1 hgr1 hat1 hlt1)
        have hk1 := kids_pair H4.out hsz1 (fun g e => (H3.out.lt g e).2) rfl (grown_trans (World.grownBy_alloc _ _ _) hgr1) (hat1.imp (fun e => e) (fun e => by simpa using e))
        have hh1 := Held.grown ((H6.out.grown (World.grownBy_alloc wr (.cells #[.int .i64 z, .int .i64 z] 3) none) hsz1 (fun g hg => absurd hg (by simp))).grown (World.grownBy_alloc _ _ none) (by simp; omega) (fun g hg => absurd hg (by simp))) hgr1 (by simp; omega) H5.out
        have hof1 := Off.next (n := xss.length + 1) (c := c1) H5.out hat1 (by simp; omega)
        have hb1 := below_app (below_alloc H7.out _) HOA.out hgr1
        have hs3 : w1.heap.size ≤ w3.heap.size := by have := hgr1.size; simp at this; omega
        have HK1 := Lib.hid (show Kids w3 w1.heap.size (Value.slice (some ⟨g1, 0, none⟩) (xss.length + 1) c1).ownBlock (vs ++ [.slice (some ⟨wr.heap.size, 0, none⟩) 2 2]) (xss ++ [[z, z]]) from hk1)
        have HH1 := Lib.hid hh1
        have HF1 := Lib.hid hof1
        have HB1 := Lib.hid hb1
        have HO1 := Lib.hid hown1
        clear hk1 hh1 hof1 hb1 hown1 hgr1 hat1 hlt1
        go_wp2_with fail
        go_roundw
        case rel =>
          refine ⟨j + 1, vs ++ [.slice (some ⟨wr.heap.size, 0, none⟩) 2 2], xss ++ [[z, z]], by omega, by go_num, by rw [HS.out, ← H1.out, HST.out], by rw [← HST.out]; exact HPS.out, ?_, HK1.out, HF1.out, HH1.out, HB1.out, hs3⟩
          rw [List.length_append]
          exact HO1.out
        case measure => simp [intOf]; omega
      · obtain ⟨m, hm⟩ : ∃ m, xss.length = m + 1 := ⟨xss.length - 1, by omega⟩
        obtain ⟨a, b, hab, ha, hb⟩ := H2.out m (by omega)
        obtain ⟨g, cap, gk, ck, rfl, k1, k2, k3, k4, ⟨k5, k6⟩, k7⟩ := kid_at H3.out H4.out (show m < xss.length by omega) hab
        by_cases hbz : b = z - 1
        · have HST := Lib.hid (step_grow hm hab hbz)
          have hbz1 : (b == z - 1) = true := by simpa using hbz
          have hn1 : (0 : Int) < (xss.length : Int) := by omega
          have hm1 : (xss.length : Int) - 1 = (m : Int) := by omega
          have hmx : (m : Int) < (xss.length : Int) := by omega
          obtain ⟨ho7, hk7⟩ := k7 z
          have HO7 := Lib.hid ho7
          have HK7 := Lib.hid hk7
          have hgr7 : wr.grownBy (wr.setCell ⟨gk, 1, none⟩ (.int .i64 z)) (some gk) := ⟨rfl, rfl, rfl, by simp, fun k _ hk => heap_setCell_other wr ⟨gk, 1, none⟩ k _ (fun e => hk (by simp [e]))⟩
          have HH7 := Lib.hid (H6.out.grown hgr7 hsz1 (fun g' e => by simp at e; omega))
          have HB7 := Lib.hid (H7.out.grown hgr7 hszw (fun g' e => by simp at e; omega))
          have hs7 : w1.heap.size ≤ (wr.setCell ⟨gk, 1, none⟩ (.int .i64 z)).heap.size := by simpa using hsz1
          have HXL := Lib.hid (show (xss.set m [a, z]).length = xss.length from List.length_set)
          clear hbz hab hm hn0 k7 ho7 hk7 hgr7
          go_wp2_with fail
          go_roundw
          case rel => exact ⟨j + 1, vs, xss.set m [a, z], by omega, by go_num, by rw [HS.out, ← H1.out, HST.out], by rw [← HST.out]; exact HPS.out, by rw [HXL.out]; exact HO7.out, HK7.out, H5.out, HH7.out, HB7.out, hs7⟩
          case measure => simp [intOf]; omega
        · have HST := Lib.hid (step_next hm hab hbz)
          have hbz1 : (b == z - 1) = false := by simpa using hbz
          have hn1 : (0 : Int) < (xss.length : Int) := by omega
          have hm1 : (xss.length : Int) - 1 = (m : Int) := by omega
          have hmx : (m : Int) < (xss.length : Int) := by omega
          clear hbz hab hm hn0 k7
          go_wp2_with (at_builtin; refine wpList_append_lies _ rfl _ _ 58 rfl w.heap.size 51 i0 (.slice none 0 0) 1 24 Try.underlying58 hi0 hz0 hz1 hz2 rfl (by decide) _ _ _ rfl (HOA.out.alloc _) ⟨wr.heap.size + 1, 0, none⟩ 1 1 [.slice (some ⟨wr.heap.size, 0, none⟩) 2 2] rfl rfl (news_two _ _ _ _) (one_one rfl) (by decide) (by unfold maxLen; omega) (by omega) (by simp; omega) _ rfl ?_; intro g1 c1 w3 hown1 hgr1 hat1 hlt1)
          have hk1 := kids_pair H4.out hsz1 (fun g e => (H3.out.lt g e).2) rfl (grown_trans (World.grownBy_alloc _ _ _) hgr1) (hat1.imp (fun e => e) (fun e => by simpa using e))
          have hh1 := Held.grown ((H6.out.grown (World.grownBy_alloc wr (.cells #[.int .i64 z, .int .i64 z] 3) none) hsz1 (fun g hg => absurd hg (by simp))).grown (World.grownBy_alloc _ _ none) (by simp; omega) (fun g hg => absurd hg (by simp))) hgr1 (by simp; omega) H5.out
          have hof1 := Off.next (n := xss.length + 1) (c := c1) H5.out hat1 (by simp; omega)
          have hb1 := below_app (below_alloc H7.out _) HOA.out hgr1
          have hs3 : w1.heap.size ≤ w3.heap.size := by have := hgr1.size; simp at this; omega
          have HK1 := Lib.hid (show Kids w3 w1.heap.size (Value.slice (some ⟨g1, 0, none⟩) (xss.length + 1) c1).ownBlock (vs ++ [.slice (some ⟨wr.heap.size, 0, none⟩) 2 2]) (xss ++ [[z, z]]) from hk1)
          have HH1 := Lib.hid hh1
          have HF1 := Lib.hid hof1
          have HB1 := Lib.hid hb1
          have HO1 := Lib.hid hown1
          clear hk1 hh1 hof1 hb1 hown1 hgr1 hat1 hlt1
          go_wp2_with fail
          go_roundw
          case rel =>
            refine ⟨j + 1, vs ++ [.slice (some ⟨wr.heap.size, 0, none⟩) 2 2], xss ++ [[z, z]], by omega, by go_num, by rw [HS.out, ← H1.out, HST.out], by rw [← HST.out]; exact HPS.out, ?_, HK1.out, HF1.out, HH1.out, HB1.out, hs3⟩
            rw [List.length_append]
            exact HO1.out
          case measure => simp [intOf]; omega
    · obtain rfl : j = zs.length := by omega
      go_wp2_with fail
      go_ret
      rw [← H1.out]
      have ho := H3.out
      have hk := H4.out.mono (base' := w.heap.size) (by omega)
      obtain ⟨A9, c9, e9, _⟩ := own_slice9 ho
      subst e9
      exact ⟨A9, c9, rfl, ⟨vs, ho, hk⟩, H7.out⟩

end Go.Proofs.Ytpeopfkechbelaa
