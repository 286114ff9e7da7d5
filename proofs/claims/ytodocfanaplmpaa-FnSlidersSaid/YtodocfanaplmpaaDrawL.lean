
/-
  Contracts of the draws of sliders and links: some sliders, some links, whatever they are; no condition.
-/
import Derived.Test.YtodocfanaplmpaaDraw
import Derived.Test.YtodocfanaplmpaaSlS
import Derived.Test.YtodocfanaplmpaaPullC
import Derived.Deep.Cut
import Derived.Deep.AppendLies
import Derived.Deep.RegionLaw
namespace Go.Proofs.Ytodocfanaplmpaa
open Go.ChangeShapes Go.WideShapes Go.ChangeAt Go.RowKit Go.Deep Go.BigFrame
set_option linter.unusedVariables false
set_option linter.unusedSimpArgs false

/-- three ints in block b -/
structure At3 (w : World) (b : Nat) (x y z : Int) : Prop where
  c0 : w.cell? ⟨b, 0, none⟩ = some (.int .i64 x)
  c1 : w.cell? ⟨b, 1, none⟩ = some (.int .i64 y)
  c2 : w.cell? ⟨b, 2, none⟩ = some (.int .i64 z)
  fz : ∀ o, w.frozen? ⟨b, o, none⟩ = false
section
variable {w w' w2 : World} {b g c : Nat} {x y z : Int} {A : Option Addr} {cs : List UInt8}
theorem At3.lt (h : At3 w b x y z) : b < w.heap.size := World.block_lt_of_cell? w _ h.c0
theorem At3.still (h : At3 w b x y z) (hk : w'.heap[b]? = w.heap[b]?) : At3 w' b x y z :=
  ⟨(World.cell?_of_block hk).trans h.c0, (World.cell?_of_block hk).trans h.c1, (World.cell?_of_block hk).trans h.c2, fun o => (World.frozen?_of_block hk).trans (h.fz o)⟩
theorem At3.drew (h : At3 w b x y z) (hd : Drew w w' g A c cs) (hne : b ≠ g) : At3 w' b x y z := h.still (hd.by_.block b h.lt (by simpa using hne))
theorem At3.below (h : At3 w b x y z) (hb : Below w.heap.size w w') : At3 w' b x y z := h.still (hb.block b h.lt)
theorem At3.put0 (h : At3 w b x y z) (u : Int) : At3 (w.setCell ⟨b, 0, none⟩ (.int .i64 u)) b u y z :=
  ⟨World.cell?_setCell_same w _ _ h.c0, (World.cell?_setCell_other w _ _ _ (by simp)).trans h.c1, (World.cell?_setCell_other w _ _ _ (by simp)).trans h.c2, fun o => (World.frozen?_setCell w _ _ _).trans (h.fz o)⟩
theorem At3.put1 (h : At3 w b x y z) (u : Int) : At3 (w.setCell ⟨b, 1, none⟩ (.int .i64 u)) b x u z :=
  ⟨(World.cell?_setCell_other w _ _ _ (by simp)).trans h.c0, World.cell?_setCell_same w _ _ h.c1, (World.cell?_setCell_other w _ _ _ (by simp)).trans h.c2, fun o => (World.frozen?_setCell w _ _ _).trans (h.fz o)⟩
theorem At3.put2 (h : At3 w b x y z) (u : Int) : At3 (w.setCell ⟨b, 2, none⟩ (.int .i64 u)) b x y u :=
  ⟨(World.cell?_setCell_other w _ _ _ (by simp)).trans h.c0, (World.cell?_setCell_other w _ _ _ (by simp)).trans h.c1, World.cell?_setCell_same w _ _ h.c2, fun o => (World.frozen?_setCell w _ _ _).trans (h.fz o)⟩
theorem At3.far (h : At3 w b x y z) {p : Addr} (hp : p.block ≠ b) (v : Value) : At3 (w.setCell p v) b x y z := h.still (heap_setCell_other w p b v (fun e => hp e.symm))
theorem Drew.moreL {row : Option Nat} (h : Drew w w' g A c cs) (hg : w'.grownBy w2 row) (hr : ∀ r, row = some r → w.heap.size ≤ r ∧ g < r) : Drew w w2 g A c cs := by
  have hlt : w.heap.size ≤ w'.heap.size := h.by_.size
  refine ⟨h.cur.grown hg (fun r e => (hr r e).2), ⟨hg.os.trans h.by_.os, hg.tape.trans h.by_.tape, hg.output.trans h.by_.output, Nat.le_trans hlt hg.size, fun k hk hne => ?_⟩⟩
  rw [hg.block k (by omega) (fun e => by have := (hr k e.symm).1; omega)]
  exact h.by_.block k hk hne
theorem Drew.storeL (h : Drew w w' g A c cs) {p : Addr} (hp : w.heap.size ≤ p.block ∧ g < p.block) (v : Value) : Drew w (w'.setCell p v) g A c cs :=
  h.moreL (row := some p.block) ⟨rfl, rfl, rfl, by simp, fun k hk hne => heap_setCell_other w' p k v (fun e => hne (by simp [e]))⟩ (fun r e => by simp at e; omega)
theorem at3_made (w : World) (x y z : Int) (t : TypeId) : At3 (w.alloc (.cells #[.int .i64 x, .int .i64 y, .int .i64 z] t)) w.heap.size x y z := ⟨by go_simp, by go_simp, by go_simp, fun j => by go_simp⟩
end

set_option maxHeartbeats 2000000 in
set_option maxRecDepth 8000 in
theorem l17Slider_any (g : Nat) (A : Option Addr) (c : Nat) (cs : List UInt8) (w : World) (h : Cur w g A c cs) :
    Calls Try.prog 56 #[.pointer (some ⟨g, 0, none⟩)] w fun e w' => ∃ lo hi now : Int, (-8 ≤ lo ∧ lo ≤ now ∧ now ≤ hi ∧ hi ≤ 20) ∧ e = .returned (.agg #[.int .i64 lo, .int .i64 hi, .int .i64 now]) ∧ Drew w w' g A c cs := by
  have HB10 := Lib.hid (fun w h => l01Below_any g A c cs 10 w h (by decide) (by decide))
  have HB20 := Lib.hid (fun w h => l01Below_any g A c cs 20 w h (by decide) (by decide))
  have HBN := Lib.hid (fun m w h => l01Below_any g A c cs m w h)
  have hg := h.lt
  have hgr : w.heap.size ≠ g := by omega
  have hpr0 : w.heap.size ≤ w.heap.size ∧ g < w.heap.size := by omega
  have HR0 := Lib.hid (at3_made w 0 0 0 43)
  have HD0 := Lib.hid ((Drew.refl h).moreL (World.grownBy_alloc w (.cells #[.int .i64 0, .int .i64 0, .int .i64 0] 43) none) (fun r e => by simp at e))
  clear h
  go_enter Try.func56, Try.ntmps56
  go_upto_region 1 with (fail)
  generalize w.alloc (.cells #[.int .i64 0, .int .i64 0, .int .i64 0] 43) = w1 at *
  go_wp2_with fail
  refine (HB10.out _ HD0.out.cur).mono ?_
  rintro e w2 ⟨x, hx, rfl, hd2⟩
  have HR2 := Lib.hid (HR0.out.drew hd2 hgr)
  have HD2 := Lib.hid (HD0.out.trans hd2)
  have e1 : IntKind.i64.wrap ((x : Int) - 8) = (x : Int) - 8 := by rw [IntKind.wrap_i64]; omega
  clear hd2 HR0 HD0
  go_upto_region 2 with (fail)
  have hgw : g < w2.heap.size ∧ w.heap.size < w2.heap.size := by have a := HD2.out.cur.lt; have b : w.heap.size < w2.heap.size := World.block_lt_of_cell? w2 _ HR2.out.c0; omega
  have HS3 := Lib.hid (at3_made w2 ((x : Int) - 8) 0 0 43)
  have HR3 := Lib.hid (HR2.out.below (below_alloc (Below.refl _ _) (.cells #[.int .i64 ((x : Int) - 8), .int .i64 0, .int .i64 0] 43)))
  have HD3 := Lib.hid (HD2.out.moreL (World.grownBy_alloc w2 (.cells #[.int .i64 ((x : Int) - 8), .int .i64 0, .int .i64 0] 43) none) (fun r e => by simp at e))
  generalize w2.alloc (.cells #[.int .i64 ((x : Int) - 8), .int .i64 0, .int .i64 0] 43) = w3 at *
  have hlo1 : -8 ≤ (x : Int) - 8 ∧ (x : Int) - 8 ≤ 1 := by omega
  generalize (x : Int) - 8 = lo at *
  generalize w2.heap.size = sb at *
  have hsg : sb ≠ g := by omega
  have hpr1 : w.heap.size ≤ sb ∧ g < sb := by omega
  have hrs : w.heap.size ≠ sb := by omega
  obtain ⟨c0, c1, c2, fz⟩ := HS3.out
  have bd : Below w3.heap.size w3 w3.drew := (Below.refl _ _).drew
  have HSD := Lib.hid (HS3.out.below bd)
  have HRD := Lib.hid (HR3.out.below bd)
  have HDD := Lib.hid (HD3.out.trans (Drew.ofBelow HD3.out.cur bd))
  clear HR2 HD2 c1 c2 fz hx bd HS3 HR3 HD3
  go_region_law (go_simp; go_at_call 45; refine (HB20.out _ HDD.out.cur).mono ?_; rintro e w4 ⟨y, hy, rfl, hd4⟩; have HS4 := Lib.hid (HSD.out.drew hd4 hsg); have HR4 := Lib.hid (HRD.out.drew hd4 hgr); have HD4 := Lib.hid (HDD.out.trans hd4); have k0 := HS4.out.c0; have k1 := HS4.out.c1; have kf := HS4.out.fz 1; have e1 : IntKind.i64.wrap (lo + (y : Int)) = lo + (y : Int) := (by rw [IntKind.wrap_i64]; omega); clear hd4)
  all_goals
    have em : ((y + 1 : Nat) : Int) = lo + (y : Int) - lo + 1 := by omega
    have HBM := Lib.hid (fun w h => l01Below_any g A c cs (y + 1) w h (by omega) (by omega))
    rw [em] at HBM
    have hhi : lo ≤ lo + (y : Int) ∧ lo + (y : Int) ≤ 20 := by omega
    have HS5 := Lib.hid (HS4.out.put1 (lo + (y : Int)))
    have HR5 := Lib.hid (HR4.out.far (p := ⟨sb, 1, none⟩) (fun e => hrs e.symm) (.int .i64 (lo + (y : Int))))
    have HD5 := Lib.hid (HD4.out.storeL (p := ⟨sb, 1, none⟩) hpr1 (.int .i64 (lo + (y : Int))))
    have hyx : ∀ z : Nat, z < y + 1 → lo + (z : Int) ≤ lo + (y : Int) := fun z hz => by omega
    have HYX := Lib.hid hyx
    generalize w4.setCell ⟨sb, 1, none⟩ (.int .i64 (lo + (y : Int))) = w5 at *
    clear em e1 hy HS4 HR4 HD4 k0 k1 kf hyx HSD HRD HDD c0
    try clear k0_
    generalize lo + (y : Int) = hi at *
    obtain ⟨c0, c1, c2, fz⟩ := HS5.out
    have bd : Below w5.heap.size w5 w5.drew := (Below.refl _ _).drew
    have HSD := Lib.hid (HS5.out.below bd)
    have HRD := Lib.hid (HR5.out.below bd)
    have HDD := Lib.hid (HD5.out.trans (Drew.ofBelow HD5.out.cur bd))
    have e2 : IntKind.i64.wrap (hi - lo) = hi - lo := by rw [IntKind.wrap_i64]; omega
    have e3 : IntKind.i64.wrap (hi - lo + 1) = hi - lo + 1 := by rw [IntKind.wrap_i64]; omega
    clear c2 fz bd HS5 HR5 HD5
    go_wp2_with fail
    go_region_law (go_simp; go_at_call 45; with_reducible refine (HBM.out _ HDD.out.cur).mono ?_; rintro e w6 ⟨z, hz, rfl, hd6⟩; have HS6 := Lib.hid (HSD.out.drew hd6 hsg); have HR6 := Lib.hid (HRD.out.drew hd6 hgr); have HD6 := Lib.hid (HDD.out.trans hd6); have k0 := HS6.out.c0; have k2 := HS6.out.c2; have kf := HS6.out.fz 2; have hzz := HYX.out z hz; have e1 : IntKind.i64.wrap (lo + (z : Int)) = lo + (z : Int) := (by rw [IntKind.wrap_i64]; omega); clear hd6)
    all_goals
      have HS7 := Lib.hid (HS6.out.put2 (lo + (z : Int)))
      have HR7 := Lib.hid (HR6.out.far (p := ⟨sb, 2, none⟩) (fun e => hrs e.symm) (.int .i64 (lo + (z : Int))))
      have HD7 := Lib.hid (HD6.out.storeL (p := ⟨sb, 2, none⟩) hpr1 (.int .i64 (lo + (z : Int))))
      have hnn : -8 ≤ lo ∧ lo ≤ lo + (z : Int) ∧ lo + (z : Int) ≤ hi ∧ hi ≤ 20 := by omega
      generalize w6.setCell ⟨sb, 2, none⟩ (.int .i64 (lo + (z : Int))) = w7 at *
      clear HS6 HR6 HD6 k0 k2 kf hzz e1 e2 e3 c0 c1
      generalize lo + (z : Int) = now at *
      obtain ⟨s0, s1, s2, _⟩ := HS7.out
      obtain ⟨r0, r1, r2, rfz⟩ := HR7.out
      have f0 := rfz 0
      have f1 := rfz 1
      have f2 := rfz 2
      clear rfz
      go_wp2_with fail
      refine bodyPost_ret (v := .agg #[.int .i64 lo, .int .i64 hi, .int .i64 now]) (by simp [results, Try.results56, go_sem, r0, r1, r2]) rfl ?_
      exact ⟨lo, hi, now, hnn, rfl, ((HD7.out.storeL (p := ⟨w.heap.size, 0, none⟩) hpr0 _).storeL (p := ⟨w.heap.size, 1, none⟩) hpr0 _).storeL (p := ⟨w.heap.size, 2, none⟩) hpr0 _⟩

/-- a literal of ints, just made -/
theorem irow_madeL (w : World) (xs : List Int) (t : TypeId) (hm : xs.length ≤ 1000) : IRow (w.alloc (.cells (xs.map (Value.int .i64)).toArray t)) (w.alloc (.cells (xs.map (Value.int .i64)).toArray t)).heap.size (some ⟨w.heap.size, 0, none⟩) xs := by
  refine ⟨by simp, by unfold maxLen; omega, fun hn => ⟨w.heap.size, 0, rfl, by simp, fun j hj => ?_⟩⟩
  go_simp

set_option maxHeartbeats 2000000 in
set_option maxRecDepth 8000 in
theorem l17Any_any (g : Nat) (A : Option Addr) (c : Nat) (cs : List UInt8) (w : World) (h : Cur w g A c cs) :
    Calls Try.prog 44 #[.pointer (some ⟨g, 0, none⟩)] w fun e w' => ∃ lo hi now : Int, e = .returned (.agg #[.int .i64 lo, .int .i64 hi, .int .i64 now]) ∧ Drew w w' g A c cs := by
  have HB12 := Lib.hid (fun w h => l01Below_any g A c cs 12 w h (by decide) (by decide))
  have HSL := Lib.hid (fun w h => l17Slider_any g A c cs w h)
  have hg := h.lt
  have hgr : w.heap.size ≠ g := by omega
  have hpr0 : w.heap.size ≤ w.heap.size ∧ g < w.heap.size := by omega
  have HR0 := Lib.hid (at3_made w 0 0 0 43)
  have HD0 := Lib.hid ((Drew.refl h).moreL (World.grownBy_alloc w (.cells #[.int .i64 0, .int .i64 0, .int .i64 0] 43) none) (fun r e => by simp at e))
  clear h
  go_enter Try.func44, Try.ntmps44
  go_upto_region 1 with (fail)
  generalize w.alloc (.cells #[.int .i64 0, .int .i64 0, .int .i64 0] 43) = w1 at *
  go_wp2_with fail
  refine (HSL.out _ HD0.out.cur).mono ?_
  rintro e w2 ⟨lo, hi, now, hb, rfl, hd2⟩
  have HR2 := Lib.hid (HR0.out.drew hd2 hgr)
  have HD2 := Lib.hid (HD0.out.trans hd2)
  clear hd2 HR0 HD0
  go_upto_region 2 with (fail)
  have hgw : g < w2.heap.size ∧ w.heap.size < w2.heap.size := by have a := HD2.out.cur.lt; have b : w.heap.size < w2.heap.size := World.block_lt_of_cell? w2 _ HR2.out.c0; omega
  have HS3 := Lib.hid (at3_made w2 lo hi now 43)
  have HR3 := Lib.hid (HR2.out.below (below_alloc (Below.refl _ _) (.cells #[.int .i64 lo, .int .i64 hi, .int .i64 now] 43)))
  have HD3 := Lib.hid (HD2.out.moreL (World.grownBy_alloc w2 (.cells #[.int .i64 lo, .int .i64 hi, .int .i64 now] 43) none) (fun r e => by simp at e))
  generalize w2.alloc (.cells #[.int .i64 lo, .int .i64 hi, .int .i64 now] 43) = w3 at *
  generalize w2.heap.size = sb at *
  have hsg : sb ≠ g := by omega
  have hpr1 : w.heap.size ≤ sb ∧ g < sb := by omega
  have hrs : w.heap.size ≠ sb := by omega
  clear HR2 HD2
  go_wp2_with fail
  refine (HB12.out _ HD3.out.cur).mono ?_
  rintro e w4 ⟨q, hq, rfl, hd4⟩
  have HS4 := Lib.hid (HS3.out.drew hd4 hsg)
  have HR4 := Lib.hid (HR3.out.drew hd4 hgr)
  have HD4 := Lib.hid (HD3.out.trans hd4)
  clear hd4 HS3 HR3 HD3
  have e1 : IntKind.i64.wrap (hi + 1) = hi + 1 := by rw [IntKind.wrap_i64]; omega
  have e2 : IntKind.i64.wrap (lo - 1) = lo - 1 := by rw [IntKind.wrap_i64]; omega
  have hgw4 : g < w4.heap.size ∧ sb < w4.heap.size ∧ w.heap.size < w4.heap.size := ⟨HD4.out.cur.lt, HS4.out.lt, HR4.out.lt⟩
  by_cases q0 : q = 0
  · have q0' : (q : Int) = 0 := by omega
    clear q0
    have HR5 := Lib.hid (HR4.out.below (below_alloc (Below.refl _ _) (.cells #[.int .i64 (-101), .int .i64 (-100), .int .i64 hi, .int .i64 (hi + 1)] 3)))
    have HS5 := Lib.hid (HS4.out.below (below_alloc (Below.refl _ _) (.cells #[.int .i64 (-101), .int .i64 (-100), .int .i64 hi, .int .i64 (hi + 1)] 3)))
    have HD5 := Lib.hid (HD4.out.moreL (World.grownBy_alloc w4 (.cells #[.int .i64 (-101), .int .i64 (-100), .int .i64 hi, .int .i64 (hi + 1)] 3) none) (fun r e => by simp at e))
    have HI := Lib.hid (irow_madeL w4 [(-101), (-100), hi, (hi + 1)] 3 (by simp))
    obtain ⟨c0, c1, c2, fz⟩ := HS4.out
    clear fz hq
    go_wp2_with fail
    refine (l01PickInt_any g A c cs _ 4 [(-101), (-100), hi, (hi + 1)] _ HD5.out.cur HI.out (fun x e => by simp at e; rw [← e]; simp; omega) (by simp) (by simp)).mono ?_
    rintro e w6 ⟨z, hz, rfl, hd6⟩
    have HS6 := Lib.hid (HS5.out.drew hd6 hsg)
    have HR6 := Lib.hid (HR5.out.drew hd6 hgr)
    have HD6 := Lib.hid (HD5.out.trans hd6)
    clear hd6 hz HS5 HR5 HD5 HI c0 c1 c2 HS4 HR4 HD4 hgw4
    obtain ⟨c0, c1, c2, fz⟩ := HS6.out
    have k0 := fz 0
    clear fz
    go_upto_region 9 with (fail)
    have HS7 := Lib.hid (HS6.out.put0 z)
    have HR7 := Lib.hid (HR6.out.far (p := ⟨sb, 0, none⟩) (fun e => hrs e.symm) (.int .i64 z))
    have HD7 := Lib.hid (HD6.out.storeL (p := ⟨sb, 0, none⟩) hpr1 (.int .i64 z))
    generalize w6.setCell ⟨sb, 0, none⟩ (.int .i64 z) = w7 at *
    clear c0 c1 c2 k0
    obtain ⟨c0, c1, c2, _⟩ := HS7.out
    obtain ⟨r0, r1, r2, rfz⟩ := HR7.out
    have f0 := rfz 0
    have f1 := rfz 1
    have f2 := rfz 2
    clear rfz
    go_wp2_with fail
    refine bodyPost_ret (v := .agg #[.int .i64 z, .int .i64 hi, .int .i64 now]) (by simp [results, Try.results44, go_sem, r0, r1, r2]) rfl ?_
    exact ⟨_, _, _, rfl, ((HD7.out.storeL (p := ⟨w.heap.size, 0, none⟩) hpr0 _).storeL (p := ⟨w.heap.size, 1, none⟩) hpr0 _).storeL (p := ⟨w.heap.size, 2, none⟩) hpr0 _⟩
  · have q0' : ¬ (q : Int) = 0 := by omega
    by_cases q1 : q = 1
    · have q1' : (q : Int) = 1 := by omega
      clear q0 q1
      have HR5 := Lib.hid (HR4.out.below (below_alloc (Below.refl _ _) (.cells #[.int .i64 100, .int .i64 101, .int .i64 lo] 3)))
      have HS5 := Lib.hid (HS4.out.below (below_alloc (Below.refl _ _) (.cells #[.int .i64 100, .int .i64 101, .int .i64 lo] 3)))
      have HD5 := Lib.hid (HD4.out.moreL (World.grownBy_alloc w4 (.cells #[.int .i64 100, .int .i64 101, .int .i64 lo] 3) none) (fun r e => by simp at e))
      have HI := Lib.hid (irow_madeL w4 [100, 101, lo] 3 (by simp))
      obtain ⟨c0, c1, c2, fz⟩ := HS4.out
      clear fz hq
      go_wp2_with fail
      refine (l01PickInt_any g A c cs _ 3 [100, 101, lo] _ HD5.out.cur HI.out (fun x e => by simp at e; rw [← e]; simp; omega) (by simp) (by simp)).mono ?_
      rintro e w6 ⟨z, hz, rfl, hd6⟩
      have HS6 := Lib.hid (HS5.out.drew hd6 hsg)
      have HR6 := Lib.hid (HR5.out.drew hd6 hgr)
      have HD6 := Lib.hid (HD5.out.trans hd6)
      clear hd6 hz HS5 HR5 HD5 HI c0 c1 c2 HS4 HR4 HD4 hgw4
      obtain ⟨c0, c1, c2, fz⟩ := HS6.out
      have k0 := fz 1
      clear fz
      go_upto_region 9 with (fail)
      have HS7 := Lib.hid (HS6.out.put1 z)
      have HR7 := Lib.hid (HR6.out.far (p := ⟨sb, 1, none⟩) (fun e => hrs e.symm) (.int .i64 z))
      have HD7 := Lib.hid (HD6.out.storeL (p := ⟨sb, 1, none⟩) hpr1 (.int .i64 z))
      generalize w6.setCell ⟨sb, 1, none⟩ (.int .i64 z) = w7 at *
      clear c0 c1 c2 k0
      obtain ⟨c0, c1, c2, _⟩ := HS7.out
      obtain ⟨r0, r1, r2, rfz⟩ := HR7.out
      have f0 := rfz 0
      have f1 := rfz 1
      have f2 := rfz 2
      clear rfz
      go_wp2_with fail
      refine bodyPost_ret (v := .agg #[.int .i64 lo, .int .i64 z, .int .i64 now]) (by simp [results, Try.results44, go_sem, r0, r1, r2]) rfl ?_
      exact ⟨_, _, _, rfl, ((HD7.out.storeL (p := ⟨w.heap.size, 0, none⟩) hpr0 _).storeL (p := ⟨w.heap.size, 1, none⟩) hpr0 _).storeL (p := ⟨w.heap.size, 2, none⟩) hpr0 _⟩
    · have q1' : ¬ (q : Int) = 1 := by omega
      by_cases q2 : q = 2
      · have q2' : (q : Int) = 2 := by omega
        clear q0 q1 q2
        have HR5 := Lib.hid (HR4.out.below (below_alloc (Below.refl _ _) (.cells #[.int .i64 (lo - 1), .int .i64 (hi + 1), .int .i64 hi] 3)))
        have HS5 := Lib.hid (HS4.out.below (below_alloc (Below.refl _ _) (.cells #[.int .i64 (lo - 1), .int .i64 (hi + 1), .int .i64 hi] 3)))
        have HD5 := Lib.hid (HD4.out.moreL (World.grownBy_alloc w4 (.cells #[.int .i64 (lo - 1), .int .i64 (hi + 1), .int .i64 hi] 3) none) (fun r e => by simp at e))
        have HI := Lib.hid (irow_madeL w4 [(lo - 1), (hi + 1), hi] 3 (by simp))
        obtain ⟨c0, c1, c2, fz⟩ := HS4.out
        clear fz hq
        go_wp2_with fail
        refine (l01PickInt_any g A c cs _ 3 [(lo - 1), (hi + 1), hi] _ HD5.out.cur HI.out (fun x e => by simp at e; rw [← e]; simp; omega) (by simp) (by simp)).mono ?_
        rintro e w6 ⟨z, hz, rfl, hd6⟩
        have HS6 := Lib.hid (HS5.out.drew hd6 hsg)
        have HR6 := Lib.hid (HR5.out.drew hd6 hgr)
        have HD6 := Lib.hid (HD5.out.trans hd6)
        clear hd6 hz HS5 HR5 HD5 HI c0 c1 c2 HS4 HR4 HD4 hgw4
        obtain ⟨c0, c1, c2, fz⟩ := HS6.out
        have k0 := fz 2
        clear fz
        go_upto_region 9 with (fail)
        have HS7 := Lib.hid (HS6.out.put2 z)
        have HR7 := Lib.hid (HR6.out.far (p := ⟨sb, 2, none⟩) (fun e => hrs e.symm) (.int .i64 z))
        have HD7 := Lib.hid (HD6.out.storeL (p := ⟨sb, 2, none⟩) hpr1 (.int .i64 z))
        generalize w6.setCell ⟨sb, 2, none⟩ (.int .i64 z) = w7 at *
        clear c0 c1 c2 k0
        obtain ⟨c0, c1, c2, _⟩ := HS7.out
        obtain ⟨r0, r1, r2, rfz⟩ := HR7.out
        have f0 := rfz 0
        have f1 := rfz 1
        have f2 := rfz 2
        clear rfz
        go_wp2_with fail
        refine bodyPost_ret (v := .agg #[.int .i64 lo, .int .i64 hi, .int .i64 z]) (by simp [results, Try.results44, go_sem, r0, r1, r2]) rfl ?_
        exact ⟨_, _, _, rfl, ((HD7.out.storeL (p := ⟨w.heap.size, 0, none⟩) hpr0 _).storeL (p := ⟨w.heap.size, 1, none⟩) hpr0 _).storeL (p := ⟨w.heap.size, 2, none⟩) hpr0 _⟩
      · have q2' : ¬ (q : Int) = 2 := by omega
        clear q0 q1 q2
        obtain ⟨c0, c1, c2, _⟩ := HS4.out
        obtain ⟨r0, r1, r2, rfz⟩ := HR4.out
        have f0 := rfz 0
        have f1 := rfz 1
        have f2 := rfz 2
        clear rfz
        go_wp2_with fail
        refine bodyPost_ret (v := .agg #[.int .i64 lo, .int .i64 hi, .int .i64 now]) (by simp [results, Try.results44, go_sem, r0, r1, r2]) rfl ?_
        exact ⟨_, _, _, rfl, ((HD4.out.storeL (p := ⟨w.heap.size, 0, none⟩) hpr0 _).storeL (p := ⟨w.heap.size, 1, none⟩) hpr0 _).storeL (p := ⟨w.heap.size, 2, none⟩) hpr0 _⟩

theorem own_drewL {w w' : World} {base size n g c : Nat} {e : TypeId} {v : Value} {xs : List Value} {A : Option Addr} {cs : List UInt8} (h : w.ownsRow base e size v n xs) (hd : Drew w w' g A c cs) (hg : g < base) : w'.ownsRow base e size v n xs := by
  refine h.kept hd.by_ ?_
  right
  intro e
  have := (h.lt g e).1
  omega
theorem cells3_appL (a b : List (Int × Int × Int)) : cells3 (a ++ b) = cells3 a ++ cells3 b := List.flatMap_append
theorem news_threeL (w : World) (a b c : Value) (t : TypeId) : ∀ (j : Nat) (u : Value), [a, b, c][j]? = some u → (w.alloc (.cells #[a, b, c] t)).cell? ((⟨w.heap.size, 0, none⟩ : Addr).add j) = some u :=
  World.news_of_block (w := w.alloc (.cells #[a, b, c] t)) (B := w.heap.size) (cs := #[a, b, c]) (t := t) (fr := (0, 0)) (by show (w.heap.push _)[w.heap.size]? = _; simp)
theorem one_threeL (x y z : Int) : ∀ u ∈ [Value.int .i64 x, .int .i64 y, .int .i64 z], u.oneCell' = true := by
  intro u hu
  simp only [List.mem_cons, List.not_mem_nil, or_false] at hu
  rcases hu with rfl | rfl | rfl <;> rfl

/-- a drawn slider -/
def SlIn (t : Int × Int × Int) : Prop := -8 ≤ t.1 ∧ t.1 ≤ t.2.2 ∧ t.2.2 ≤ t.2.1 ∧ t.2.1 ≤ 20

set_option maxHeartbeats 2000000 in
set_option maxRecDepth 8000 in
theorem l17List_any (g : Nat) (A : Option Addr) (c : Nat) (cs : List UInt8) (w : World) (h : Cur w g A c cs) :
    Calls Try.prog 41 #[.pointer (some ⟨g, 0, none⟩)] w fun e w' => ∃ (ts : List (Int × Int × Int)) (A' : Option Addr) (c' : Nat), (1 ≤ ts.length ∧ ts.length ≤ 6) ∧ (∀ t ∈ ts, SlIn t) ∧
      e = .returned (.slice A' ts.length c') ∧ w'.ownsRow w.heap.size 43 3 (.slice A' ts.length c') ts.length (cells3 ts) ∧ Drew w w' g A c cs := by
  obtain ⟨i0, hi0, hz0, hz1, hz2⟩ := info_parts slInfo
  have HB6 := Lib.hid (fun w h => l01Below_any g A c cs 6 w h (by decide) (by decide))
  have HSL := Lib.hid (fun w h => l17Slider_any g A c cs w h)
  have hg := h.lt
  have HO0 := Lib.hid (show (w.alloc (.cells #[] 43)).ownsRow w.heap.size 43 3 (.slice (some ⟨w.heap.size, 0, none⟩) 0 0) 0 [] from World.ownsRow_made w #[] 0 (Nat.le_refl _) (Nat.zero_le _) (by simp))
  have HD0 := Lib.hid ((Drew.refl h).moreL (World.grownBy_alloc w (.cells #[] 43) none) (fun r e => by simp at e))
  clear h
  go_enter Try.func41, Try.ntmps41
  go_upto_region 2 with (fail)
  generalize w.alloc (.cells #[] 43) = w1 at *
  go_wp2_with fail
  refine (HB6.out _ HD0.out.cur).mono ?_
  rintro e w2 ⟨x, hx, rfl, hd2⟩
  have HO2 := Lib.hid (own_drewL HO0.out hd2 hg)
  have HD2 := Lib.hid (HD0.out.trans hd2)
  clear hd2 HO0 HD0
  have e1 : IntKind.i64.wrap (1 + (x : Int)) = ((x + 1 : Nat) : Int) := by rw [IntKind.wrap_i64]; omega
  have e1' : 1 + (x : Int) = ((x + 1 : Nat) : Int) := by omega
  have hn6 : 1 ≤ x + 1 ∧ x + 1 ≤ 6 := by omega
  generalize x + 1 = n at *
  clear hx
  go_wp2_with fail
  clear e1 e1'
  go_loopw [3, 5] (fun ov kv wr => ∃ (k : Nat) (rs : List (Int × Int × Int)), k ≤ n ∧ kv = .int .i64 k ∧ rs.length = k ∧ (∀ t ∈ rs, SlIn t) ∧ wr.ownsRow w.heap.size 43 3 ov rs.length (cells3 rs) ∧ Drew w wr g A c cs) (fun _ kv _ => n - (intOf kv).toNat)
  case atStart => exact ⟨0, [], Nat.zero_le _, rfl, rfl, fun t ht => by simp at ht, HO2.out, HD2.out⟩
  case round =>
    obtain ⟨k, rs, hk, rfl, hrl, hs, ho, hd⟩ := hrel
    obtain ⟨wo, hwo⟩ : ∃ wo, wo = wr := ⟨_, rfl⟩
    subst hwo
    have HO := Lib.hid ho
    have HD := Lib.hid hd
    have HS := Lib.hid hs
    have HRL := Lib.hid hrl
    have hr6 : rs.length ≤ 6 := by omega
    clear HO2 HD2 ho hd hs hrl
    by_cases hlt : k < n
    · have hi : (k : Int) < (n : Int) := by omega
      go_wp2_with fail
      refine (HSL.out _ HD.out.cur).mono ?_
      rintro e w4 ⟨lo, hi, now, hb, rfl, hd4⟩
      have HO4 := Lib.hid (own_drewL HO.out hd4 hg)
      have HD4 := Lib.hid (HD.out.trans hd4)
      clear hd4 HO HD
      go_upto_region 7 with (fail)
      have HS5 := Lib.hid (at3_made w4 lo hi now 43)
      have HO5 := Lib.hid (own_on HO4.out (below_alloc (Below.refl _ _) (.cells #[.int .i64 lo, .int .i64 hi, .int .i64 now] 43)))
      have HD5 := Lib.hid (HD4.out.moreL (World.grownBy_alloc w4 (.cells #[.int .i64 lo, .int .i64 hi, .int .i64 now] 43) none) (fun r e => by simp at e))
      have hz5 : w.heap.size ≤ w4.heap.size := HD4.out.by_.size
      have hz6 : w4.heap.size ≤ (w4.alloc (.cells #[.int .i64 lo, .int .i64 hi, .int .i64 now] 43)).heap.size := by simp
      generalize w4.alloc (.cells #[.int .i64 lo, .int .i64 hi, .int .i64 now] 43) = w5 at *
      generalize w4.heap.size = sb at *
      obtain ⟨c0, c1, c2, _⟩ := HS5.out
      have hz7 : w.heap.size ≤ w5.heap.size := by omega
      clear HO4 HD4 HS5
      go_wp2_with (at_builtin; refine wpList_append_lies _ rfl _ _ 36 rfl w.heap.size 43 i0 (.agg #[.int .i64 0, .int .i64 0, .int .i64 0]) 3 24 Try.underlying36 hi0 hz0 hz1 hz2 rfl (by decide) _ _ _ rfl (HO5.out.alloc _) ⟨w5.heap.size, 0, none⟩ 1 1 [.int .i64 lo, .int .i64 hi, .int .i64 now] rfl rfl (news_threeL _ _ _ _ _) (one_threeL _ _ _) (by decide) (by unfold maxLen; omega) (by omega) (by simp; omega) _ rfl ?_; intro g1 c1_ w6 hown1 hgr1 hat1 hlt1)
      have HO6 := Lib.hid hown1
      have HD6 := Lib.hid (HD5.out.moreL (grown_trans (World.grownBy_alloc w5 (.cells #[.int .i64 lo, .int .i64 hi, .int .i64 now] 43) _) hgr1) (fun r hr => by have := (HO5.out.lt r hr).1; omega))
      clear hown1 hgr1 hat1 hlt1 c0 c1 c2
      go_wp2_with fail
      go_roundw
      case rel =>
        refine ⟨k + 1, rs ++ [(lo, hi, now)], by omega, by go_num, by rw [List.length_append, HRL.out]; rfl, fun t ht => ?_, ?_, HD6.out⟩
        · rcases List.mem_append.1 ht with h | h
          · exact HS.out t h
          · rw [List.mem_singleton.1 h]; exact ⟨hb.1, hb.2.1, hb.2.2.1, hb.2.2.2⟩
        · rw [List.length_append, cells3_appL]
          exact HO6.out
      case measure => simp [intOf]; omega
    · obtain rfl : k = n := by omega
      obtain ⟨A9, c9, e9, _⟩ := own_slice HO.out
      subst e9
      go_wp2_with fail
      go_ret
      exact ⟨rs, A9, c9, by rw [HRL.out]; exact hn6, HS.out, rfl, HO.out, HD.out⟩

theorem lkInfo : (Try.prog.info? 45).map (fun i => (i.zero, i.size, i.bytes)) = some (some (.agg #[.int .i64 0, .int .i64 0, .int .i64 0]), 3, 24) := by kernel_rfl

set_option maxHeartbeats 4000000 in
set_option maxRecDepth 8000 in
theorem l17Links_any (g : Nat) (A : Option Addr) (c : Nat) (cs : List UInt8) (n : Nat) (w : World) (h : Cur w g A c cs) (hn : 1 ≤ n ∧ n ≤ 6) :
    Calls Try.prog 42 #[.pointer (some ⟨g, 0, none⟩), .int .i64 n] w fun e w' => ∃ (ts : List (Int × Int × Int)) (A' : Option Addr) (c' : Nat), ts.length ≤ 6 ∧
      e = .returned (.slice A' ts.length c') ∧ w'.ownsRow w.heap.size 45 3 (.slice A' ts.length c') ts.length (cells3 ts) ∧ Drew w w' g A c cs := by
  obtain ⟨i0, hi0, hz0, hz1, hz2⟩ := info_parts lkInfo
  have HB6 := Lib.hid (fun w h => l01Below_any g A c cs 6 w h (by decide) (by decide))
  have HB4 := Lib.hid (fun w h => l01Below_any g A c cs 4 w h (by decide) (by decide))
  have HB2 := Lib.hid (fun w h => l01Below_any g A c cs 2 w h (by decide) (by decide))
  have HON := Lib.hid (fun w h => l01Once_any g A c cs 15 w h (by decide) (by decide))
  have hg := h.lt
  have HO0 := Lib.hid (show (w.alloc (.cells #[] 45)).ownsRow w.heap.size 45 3 (.slice (some ⟨w.heap.size, 0, none⟩) 0 0) 0 [] from World.ownsRow_made w #[] 0 (Nat.le_refl _) (Nat.zero_le _) (by simp))
  have HD0 := Lib.hid ((Drew.refl h).moreL (World.grownBy_alloc w (.cells #[] 45) none) (fun r e => by simp at e))
  clear h
  go_enter Try.func42, Try.ntmps42
  go_upto_region 2 with (fail)
  generalize w.alloc (.cells #[] 45) = w1 at *
  go_wp2_with fail
  refine (HB6.out _ HD0.out.cur).mono ?_
  rintro e w2 ⟨x, hx, rfl, hd2⟩
  have HO2 := Lib.hid (own_drewL HO0.out hd2 hg)
  have HD2 := Lib.hid (HD0.out.trans hd2)
  clear hd2 HO0 HD0
  go_wp2_with fail
  go_loopw [5, 6] (fun ov kv wr => ∃ (k : Nat) (rs : List (Int × Int × Int)), rs.length + k ≤ 5 ∧ kv = .int .i64 k ∧ wr.ownsRow w.heap.size 45 3 ov rs.length (cells3 rs) ∧ Drew w wr g A c cs) (fun _ kv _ => (intOf kv).toNat)
  case atStart => exact ⟨x, [], by simp; omega, rfl, HO2.out, HD2.out⟩
  case round =>
    obtain ⟨k, rs, hrk, rfl, ho, hd⟩ := hrel
    obtain ⟨wo, hwo⟩ : ∃ wo, wo = wr := ⟨_, rfl⟩
    subst hwo
    have HO := Lib.hid ho
    have HD := Lib.hid hd
    have hr6 : rs.length ≤ 5 := by omega
    clear HO2 HD2 ho hd
    by_cases hlt : 0 < k
    · have hi : (0 : Int) < (k : Int) := by omega
      by_cases hn1 : 1 < n
      · have hn1' : (1 : Int) < (n : Int) := by omega
        have HB1 := Lib.hid (fun w h => l01Below_any g A c cs (n - 1) w h (by omega) (by omega))
        have em : ((n - 1 : Nat) : Int) = (n : Int) - 1 := by omega
        rw [em] at HB1
        clear em
        go_wp2_with fail
        refine (HB1.out _ HD.out.cur).mono ?_
        rintro e w3 ⟨a, ha, rfl, hd3⟩
        have HO3 := Lib.hid (own_drewL HO.out hd3 hg)
        have HD3 := Lib.hid (HD.out.trans hd3)
        clear hd3 HO HD
        have HBA := Lib.hid (fun w h => l01Below_any g A c cs (n - 1 - a) w h (by omega) (by omega))
        have em : ((n - 1 - a : Nat) : Int) = (n : Int) - 1 - (a : Int) := by omega
        rw [em] at HBA
        have ha6 : a ≤ 6 := by omega
        have hai : (a : Int) < (n : Int) := by omega
        clear em
        go_wp2_with fail
        refine (HBA.out _ HD3.out.cur).mono ?_
        rintro e w4 ⟨b, hb, rfl, hd4⟩
        have HO4 := Lib.hid (own_drewL HO3.out hd4 hg)
        have HD4 := Lib.hid (HD3.out.trans hd4)
        clear hd4 HO3 HD3
        have hb6 : b ≤ 6 := by omega
        go_wp2_with fail
        refine (HB2.out _ HD4.out.cur).mono ?_
        rintro e w5 ⟨f, hf, rfl, hd5⟩
        have HO5 := Lib.hid (own_drewL HO4.out hd5 hg)
        have HD5 := Lib.hid (HD4.out.trans hd5)
        clear hd5 HO4 HD4
        go_upto_region 7 with (fail)
        have HS6 := Lib.hid (at3_made w5 (a : Int) ((a : Int) + 1 + (b : Int)) (2 * (f : Int) - 1) 45)
        have HO6 := Lib.hid (own_on HO5.out (below_alloc (Below.refl _ _) (.cells #[.int .i64 a, .int .i64 ((a : Int) + 1 + (b : Int)), .int .i64 (2 * (f : Int) - 1)] 45)))
        have HD6 := Lib.hid (HD5.out.moreL (World.grownBy_alloc w5 (.cells #[.int .i64 a, .int .i64 ((a : Int) + 1 + (b : Int)), .int .i64 (2 * (f : Int) - 1)] 45) none) (fun r e => by simp at e))
        have hz5 : w.heap.size ≤ w5.heap.size := HD5.out.by_.size
        have hg5 : g < w5.heap.size := HD5.out.cur.lt
        have HNE := Lib.hid (show u5.ownBlock ≠ some w5.heap.size from fun e => by have := (HO5.out.lt _ e).2; omega)
        generalize w5.alloc (.cells #[.int .i64 a, .int .i64 ((a : Int) + 1 + (b : Int)), .int .i64 (2 * (f : Int) - 1)] 45) = w6 at *
        generalize w5.heap.size = sb at *
        generalize (a : Int) + 1 + (b : Int) = q at *
        generalize 2 * (f : Int) - 1 = r at *
        generalize (a : Int) = p at *
        have hsg : sb ≠ g := by omega
        have hpr1 : w.heap.size ≤ sb ∧ g < sb := by omega
        clear HO5 HD5
        go_wp2_with fail
        refine (HON.out _ HD6.out.cur).mono ?_
        rintro e w7 ⟨o1, rfl, hd7⟩
        have HS7 := Lib.hid (HS6.out.drew hd7 hsg)
        have HO7 := Lib.hid (own_drewL HO6.out hd7 hg)
        have HD7 := Lib.hid (HD6.out.trans hd7)
        clear hd7 HS6 HO6 HD6
        cases o1
        · skip
          go_wp2_with fail
          refine (HON.out _ HD7.out.cur).mono ?_
          rintro e wA ⟨o2, rfl, hdA⟩
          have HSA := Lib.hid (HS7.out.drew hdA hsg)
          have HOA := Lib.hid (own_drewL HO7.out hdA hg)
          have HDA := Lib.hid (HD7.out.trans hdA)
          clear hdA HS7 HO7 HD7
          cases o2
          · skip
            obtain ⟨c0, c1, c2, _⟩ := HSA.out
            have hz9 : w.heap.size ≤ wA.heap.size := by have := HSA.out.lt; omega
            go_wp2_with (at_builtin; refine wpList_append_lies _ rfl _ _ 30 rfl w.heap.size 45 i0 (.agg #[.int .i64 0, .int .i64 0, .int .i64 0]) 3 24 Try.underlying30 hi0 hz0 hz1 hz2 rfl (by decide) _ _ _ rfl (HOA.out.alloc _) ⟨wA.heap.size, 0, none⟩ 1 1 [.int .i64 p, .int .i64 q, .int .i64 r] rfl rfl (news_threeL _ _ _ _ _) (one_threeL _ _ _) (by decide) (by unfold maxLen; omega) (by omega) (by simp; omega) _ rfl ?_; intro g1 c1_ wN hown1 hgr1 hat1 hlt1)
            have HON2 := Lib.hid hown1
            have HDN := Lib.hid (HDA.out.moreL (grown_trans (World.grownBy_alloc wA (.cells #[.int .i64 p, .int .i64 q, .int .i64 r] 45) _) hgr1) (fun r hr => by have := (HOA.out.lt r hr).1; omega))
            clear hown1 hgr1 hat1 hlt1 c0 c1 c2
            have hk1 : (k : Int) - 1 = ((k - 1 : Nat) : Int) := by omega
            go_wp2_with fail
            go_roundw
            case rel =>
              refine ⟨k - 1, rs ++ [(p, q, r)], by rw [List.length_append]; simp; omega, by go_num, ?_, HDN.out⟩
              rw [List.length_append, cells3_appL]
              exact HON2.out
            case measure => simp [intOf]; omega
          · obtain ⟨c0, c1, c2, fz⟩ := HSA.out
            have f0 := fz 0
            have f1 := fz 1
            have f2 := fz 2
            clear fz
            go_upto_region 11 with (fail)
            have HSB := Lib.hid (((HSA.out.put0 q).put1 p).put2 r)
            have HOB := Lib.hid (ownsRow_setCell_other (ownsRow_setCell_other (ownsRow_setCell_other HOA.out (a := ⟨sb, 0, none⟩) HNE.out (.int .i64 q)) (a := ⟨sb, 1, none⟩) HNE.out (.int .i64 p)) (a := ⟨sb, 2, none⟩) HNE.out (.int .i64 r))
            have HDB := Lib.hid (((HDA.out.storeL (p := ⟨sb, 0, none⟩) hpr1 (.int .i64 q)).storeL (p := ⟨sb, 1, none⟩) hpr1 (.int .i64 p)).storeL (p := ⟨sb, 2, none⟩) hpr1 (.int .i64 r))
            generalize ((wA.setCell ⟨sb, 0, none⟩ (.int .i64 q)).setCell ⟨sb, 1, none⟩ (.int .i64 p)).setCell ⟨sb, 2, none⟩ (.int .i64 r) = wB at *
            clear c0 c1 c2 f0 f1 f2 HSA HOA HDA
            obtain ⟨c0, c1, c2, _⟩ := HSB.out
            have hz9 : w.heap.size ≤ wB.heap.size := by have := HSB.out.lt; omega
            go_wp2_with (at_builtin; refine wpList_append_lies _ rfl _ _ 30 rfl w.heap.size 45 i0 (.agg #[.int .i64 0, .int .i64 0, .int .i64 0]) 3 24 Try.underlying30 hi0 hz0 hz1 hz2 rfl (by decide) _ _ _ rfl (HOB.out.alloc _) ⟨wB.heap.size, 0, none⟩ 1 1 [.int .i64 q, .int .i64 p, .int .i64 r] rfl rfl (news_threeL _ _ _ _ _) (one_threeL _ _ _) (by decide) (by unfold maxLen; omega) (by omega) (by simp; omega) _ rfl ?_; intro g1 c1_ wN hown1 hgr1 hat1 hlt1)
            have HON2 := Lib.hid hown1
            have HDN := Lib.hid (HDB.out.moreL (grown_trans (World.grownBy_alloc wB (.cells #[.int .i64 q, .int .i64 p, .int .i64 r] 45) _) hgr1) (fun r hr => by have := (HOB.out.lt r hr).1; omega))
            clear hown1 hgr1 hat1 hlt1 c0 c1 c2
            have hk1 : (k : Int) - 1 = ((k - 1 : Nat) : Int) := by omega
            go_wp2_with fail
            go_roundw
            case rel =>
              refine ⟨k - 1, rs ++ [(q, p, r)], by rw [List.length_append]; simp; omega, by go_num, ?_, HDN.out⟩
              rw [List.length_append, cells3_appL]
              exact HON2.out
            case measure => simp [intOf]; omega
        · go_wp2_with fail
          refine (HB4.out _ HD7.out.cur).mono ?_
          rintro e w8 ⟨z, hz, rfl, hd8⟩
          have HS8 := Lib.hid (HS7.out.drew hd8 hsg)
          have HO8 := Lib.hid (own_drewL HO7.out hd8 hg)
          have HD8 := Lib.hid (HD7.out.trans hd8)
          clear hd8 HS7 HO7 HD7
          obtain ⟨c0, c1, c2, fz⟩ := HS8.out
          have f2 := fz 2
          clear fz
          go_upto_region 9 with (fail)
          have HS9 := Lib.hid (HS8.out.put2 ((z : Int) - 1))
          have HO9 := Lib.hid (ownsRow_setCell_other HO8.out (a := ⟨sb, 2, none⟩) HNE.out (.int .i64 ((z : Int) - 1)))
          have HD9 := Lib.hid (HD8.out.storeL (p := ⟨sb, 2, none⟩) hpr1 (.int .i64 ((z : Int) - 1)))
          generalize w8.setCell ⟨sb, 2, none⟩ (.int .i64 ((z : Int) - 1)) = w9 at *
          generalize (z : Int) - 1 = r2 at *
          clear c0 c1 c2 f2 HS8 HO8 HD8
          go_wp2_with fail
          refine (HON.out _ HD9.out.cur).mono ?_
          rintro e wA ⟨o2, rfl, hdA⟩
          have HSA := Lib.hid (HS9.out.drew hdA hsg)
          have HOA := Lib.hid (own_drewL HO9.out hdA hg)
          have HDA := Lib.hid (HD9.out.trans hdA)
          clear hdA HS9 HO9 HD9
          cases o2
          · skip
            obtain ⟨c0, c1, c2, _⟩ := HSA.out
            have hz9 : w.heap.size ≤ wA.heap.size := by have := HSA.out.lt; omega
            go_wp2_with (at_builtin; refine wpList_append_lies _ rfl _ _ 30 rfl w.heap.size 45 i0 (.agg #[.int .i64 0, .int .i64 0, .int .i64 0]) 3 24 Try.underlying30 hi0 hz0 hz1 hz2 rfl (by decide) _ _ _ rfl (HOA.out.alloc _) ⟨wA.heap.size, 0, none⟩ 1 1 [.int .i64 p, .int .i64 q, .int .i64 r2] rfl rfl (news_threeL _ _ _ _ _) (one_threeL _ _ _) (by decide) (by unfold maxLen; omega) (by omega) (by simp; omega) _ rfl ?_; intro g1 c1_ wN hown1 hgr1 hat1 hlt1)
            have HON2 := Lib.hid hown1
            have HDN := Lib.hid (HDA.out.moreL (grown_trans (World.grownBy_alloc wA (.cells #[.int .i64 p, .int .i64 q, .int .i64 r2] 45) _) hgr1) (fun r hr => by have := (HOA.out.lt r hr).1; omega))
            clear hown1 hgr1 hat1 hlt1 c0 c1 c2
            have hk1 : (k : Int) - 1 = ((k - 1 : Nat) : Int) := by omega
            go_wp2_with fail
            go_roundw
            case rel =>
              refine ⟨k - 1, rs ++ [(p, q, r2)], by rw [List.length_append]; simp; omega, by go_num, ?_, HDN.out⟩
              rw [List.length_append, cells3_appL]
              exact HON2.out
            case measure => simp [intOf]; omega
          · obtain ⟨c0, c1, c2, fz⟩ := HSA.out
            have f0 := fz 0
            have f1 := fz 1
            have f2 := fz 2
            clear fz
            go_upto_region 11 with (fail)
            have HSB := Lib.hid (((HSA.out.put0 q).put1 p).put2 r2)
            have HOB := Lib.hid (ownsRow_setCell_other (ownsRow_setCell_other (ownsRow_setCell_other HOA.out (a := ⟨sb, 0, none⟩) HNE.out (.int .i64 q)) (a := ⟨sb, 1, none⟩) HNE.out (.int .i64 p)) (a := ⟨sb, 2, none⟩) HNE.out (.int .i64 r2))
            have HDB := Lib.hid (((HDA.out.storeL (p := ⟨sb, 0, none⟩) hpr1 (.int .i64 q)).storeL (p := ⟨sb, 1, none⟩) hpr1 (.int .i64 p)).storeL (p := ⟨sb, 2, none⟩) hpr1 (.int .i64 r2))
            generalize ((wA.setCell ⟨sb, 0, none⟩ (.int .i64 q)).setCell ⟨sb, 1, none⟩ (.int .i64 p)).setCell ⟨sb, 2, none⟩ (.int .i64 r2) = wB at *
            clear c0 c1 c2 f0 f1 f2 HSA HOA HDA
            obtain ⟨c0, c1, c2, _⟩ := HSB.out
            have hz9 : w.heap.size ≤ wB.heap.size := by have := HSB.out.lt; omega
            go_wp2_with (at_builtin; refine wpList_append_lies _ rfl _ _ 30 rfl w.heap.size 45 i0 (.agg #[.int .i64 0, .int .i64 0, .int .i64 0]) 3 24 Try.underlying30 hi0 hz0 hz1 hz2 rfl (by decide) _ _ _ rfl (HOB.out.alloc _) ⟨wB.heap.size, 0, none⟩ 1 1 [.int .i64 q, .int .i64 p, .int .i64 r2] rfl rfl (news_threeL _ _ _ _ _) (one_threeL _ _ _) (by decide) (by unfold maxLen; omega) (by omega) (by simp; omega) _ rfl ?_; intro g1 c1_ wN hown1 hgr1 hat1 hlt1)
            have HON2 := Lib.hid hown1
            have HDN := Lib.hid (HDB.out.moreL (grown_trans (World.grownBy_alloc wB (.cells #[.int .i64 q, .int .i64 p, .int .i64 r2] 45) _) hgr1) (fun r hr => by have := (HOB.out.lt r hr).1; omega))
            clear hown1 hgr1 hat1 hlt1 c0 c1 c2
            have hk1 : (k : Int) - 1 = ((k - 1 : Nat) : Int) := by omega
            go_wp2_with fail
            go_roundw
            case rel =>
              refine ⟨k - 1, rs ++ [(q, p, r2)], by rw [List.length_append]; simp; omega, by go_num, ?_, HDN.out⟩
              rw [List.length_append, cells3_appL]
              exact HON2.out
            case measure => simp [intOf]; omega
      · have hn1' : ¬ (1 : Int) < (n : Int) := by omega
        obtain ⟨A9, c9, e9, _⟩ := own_slice HO.out
        subst e9
        go_wp2_with fail
        go_ret
        exact ⟨rs, by omega, A9, c9, rfl, HO.out, HD.out⟩
    · have hi : ¬ (0 : Int) < (k : Int) := by omega
      obtain ⟨A9, c9, e9, _⟩ := own_slice HO.out
      subst e9
      go_wp2_with fail
      go_ret
      exact ⟨rs, by omega, A9, c9, rfl, HO.out, HD.out⟩

/-- drawn sliders -/
def NewSls (w : World) (e : Ending) (w' : World) : Prop := ∃ (ts : List (Int × Int × Int)) (A' : Option Addr) (c' : Nat), (1 ≤ ts.length ∧ ts.length ≤ 6) ∧ (∀ t ∈ ts, SlIn t) ∧
      e = .returned (.slice A' ts.length c') ∧ w'.ownsRow w.heap.size 43 3 (.slice A' ts.length c') ts.length (cells3 ts) ∧ Below w.heap.size w w'
theorem DrawSliders_any (A : Option Addr) (c : Nat) (cs : List UInt8) (w : World) (h : BRow w w.heap.size A cs) :
    Calls Try.prog 22 #[.slice A cs.length c] w (NewSls w) := by
  go_enter Try.func22, Try.ntmps22
  go_wp2_with fail
  refine (l01New_any A c cs w h).mono ?_
  rintro e w2 ⟨g, rfl, hg, hcur, hb⟩
  have HC := Lib.hid hcur
  have HB := Lib.hid hb
  clear hcur hb h
  go_wp2_with fail
  refine (l17List_any g A c cs w2 HC.out).mono ?_
  rintro e w3 ⟨ts, A', c', hl, hss, rfl, ho, hdr⟩
  have HO := Lib.hid ho
  have HS := Lib.hid hss
  have HBB := Lib.hid (hdr.below HB.out hg HB.out.size)
  clear ho hss hdr
  go_wp2_with fail
  go_ret
  exact ⟨ts, A', c', hl, HS.out, rfl, own_mono HO.out HB.out.size, HBB.out⟩

/-- what DrawPullAll returns: sliders, links, an index, a way -/
def NewPl (w : World) (e : Ending) (w' : World) : Prop := ∃ (ts ls : List (Int × Int × Int)) (A1 A2 : Option Addr) (c1 c2 : Nat) (k b : Int), (1 ≤ ts.length ∧ ts.length ≤ 6) ∧ ls.length ≤ 6 ∧
      e = .returned (.tuple #[.slice A1 ts.length c1, .slice A2 ls.length c2, .int .i64 k, .int .i64 b]) ∧ w'.ownsRow w.heap.size 43 3 (.slice A1 ts.length c1) ts.length (cells3 ts) ∧ w'.ownsRow w.heap.size 45 3 (.slice A2 ls.length c2) ls.length (cells3 ls) ∧ Below w.heap.size w w'
theorem cells3_set0 (t : Int × Int × Int) (ts : List (Int × Int × Int)) (x y z : Int) : (((cells3 (t :: ts)).set 0 (.int .i64 x)).set 1 (.int .i64 y)).set 2 (.int .i64 z) = cells3 ((x, y, z) :: ts) := by
  obtain ⟨a, b, c⟩ := t
  rfl

set_option maxHeartbeats 2000000 in
set_option maxRecDepth 8000 in
theorem DrawPullAll_any (A : Option Addr) (c : Nat) (cs : List UInt8) (w : World) (h : BRow w w.heap.size A cs) :
    Calls Try.prog 18 #[.slice A cs.length c] w (NewPl w) := by
  go_enter Try.func18, Try.ntmps18
  go_wp2_with fail
  refine (l01New_any A c cs w h).mono ?_
  rintro e w2 ⟨g, rfl, hg, hcur, hb⟩
  have HC := Lib.hid hcur
  have HB := Lib.hid hb
  have hs2 : w.heap.size ≤ w2.heap.size := hb.size
  have hg2 : g < w2.heap.size := hcur.lt
  clear hcur hb h
  go_wp2_with fail
  refine (l17List_any g A c cs w2 HC.out).mono ?_
  rintro e w3 ⟨ts, A1, c1, hl, hss, rfl, ho, hdr⟩
  have HO3 := Lib.hid ho
  have HD3 := Lib.hid hdr
  have hs3 : w2.heap.size ≤ w3.heap.size := hdr.by_.size
  clear ho hss hdr HC
  have HLK := Lib.hid (fun w h => l17Links_any g A c cs ts.length w h hl)
  go_wp2_with fail
  refine (HLK.out _ HD3.out.cur).mono ?_
  rintro e w4 ⟨ls, A2, c2, hl2, rfl, ho4, hdr4⟩
  have HP4 := Lib.hid ho4
  have HO4 := Lib.hid (own_drewL HO3.out hdr4 hg2)
  have HD4 := Lib.hid (HD3.out.trans hdr4)
  have HOL := Lib.hid (fun r hr => (HO3.out.lt r hr).2)
  clear ho4 hdr4 HO3 HD3 HLK
  have HON := Lib.hid (fun w h => l01Once_any g A c cs 12 w h (by decide) (by decide))
  have HAN := Lib.hid (fun w h => l17Any_any g A c cs w h)
  have HBE := Lib.hid (fun w h => l01Below_any g A c cs (ts.length + 2) w h (by omega) (by omega))
  have em : ((ts.length + 2 : Nat) : Int) = (ts.length : Int) + 2 := by omega
  rw [em] at HBE
  clear em
  have hg3 : g < w3.heap.size := by omega
  go_wp2_with fail
  refine (HON.out _ HD4.out.cur).mono ?_
  rintro e w5 ⟨o1, rfl, hd5⟩
  have HP5 := Lib.hid (own_drewL HP4.out hd5 hg3)
  have HO5 := Lib.hid (own_drewL HO4.out hd5 hg2)
  have HD5 := Lib.hid (HD4.out.trans hd5)
  clear hd5 HP4 HO4 HD4
  cases o1
  · skip
    have hgw : g < w5.heap.size := HD5.out.cur.lt
    go_wp2_with fail
    refine (HBE.out _ HD5.out.cur).mono ?_
    rintro e wA ⟨x, hx, rfl, hdA⟩
    have HPA := Lib.hid (own_drewL HP5.out hdA hg3)
    have HOA := Lib.hid (own_drewL HO5.out hdA hg2)
    have HDA := Lib.hid (HD5.out.trans hdA)
    clear hdA HP5 HO5 HD5
    have hgA : g < wA.heap.size := HDA.out.cur.lt
    have HPB := Lib.hid (own_on HPA.out (below_alloc (Below.refl _ _) (.cells #[.int .i64 0, .int .i64 1, .int .i64 (-2), .int .i64 5, .int .i64 (-7), .int .i64 100, .int .i64 101, .int .i64 (-101)] 3)))
    have HOB := Lib.hid (own_on HOA.out (below_alloc (Below.refl _ _) (.cells #[.int .i64 0, .int .i64 1, .int .i64 (-2), .int .i64 5, .int .i64 (-7), .int .i64 100, .int .i64 101, .int .i64 (-101)] 3)))
    have HDB := Lib.hid (HDA.out.moreL (World.grownBy_alloc wA (.cells #[.int .i64 0, .int .i64 1, .int .i64 (-2), .int .i64 5, .int .i64 (-7), .int .i64 100, .int .i64 101, .int .i64 (-101)] 3) none) (fun r e => by simp at e))
    have HI := Lib.hid (irow_madeL wA [0, 1, -2, 5, -7, 100, 101, -101] 3 (by simp))
    clear HPA HOA HDA
    go_wp2_with fail
    refine (l01PickInt_any g A c cs _ 8 [0, 1, -2, 5, -7, 100, 101, -101] _ HDB.out.cur HI.out (fun x e => by simp at e; rw [← e]; simp; omega) (by simp) (by simp)).mono ?_
    rintro e wC ⟨b, hbm, rfl, hdC⟩
    have HPC := Lib.hid (own_drewL HPB.out hdC hg3)
    have HOC := Lib.hid (own_drewL HOB.out hdC hg2)
    have HDC := Lib.hid (HDB.out.trans hdC)
    have HBB := Lib.hid (HDC.out.below HB.out hg HB.out.size)
    clear hdC HPB HOB HDB hbm HI
    go_wp2_with fail
    refine bodyPost_ret (v := .tuple #[.slice A1 ts.length c1, .slice A2 ls.length c2, .int .i64 ((x : Int) - 1), .int .i64 b]) (by simp [results, Try.results18, go_sem]) rfl ?_
    exact ⟨ts, ls, A1, A2, c1, c2, _, b, hl, hl2, rfl, own_mono HOC.out (by omega), own_mono HPC.out (by omega), HBB.out⟩
  · go_wp2_with fail
    refine (HAN.out _ HD5.out.cur).mono ?_
    rintro e w6 ⟨lo, hi, now, rfl, hd6⟩
    have HP6 := Lib.hid (own_drewL HP5.out hd6 hg3)
    have HO6 := Lib.hid (own_drewL HO5.out hd6 hg2)
    have HD6 := Lib.hid (HD5.out.trans hd6)
    clear hd6 HP5 HO5 HD5
    obtain ⟨t0, tr, rfl⟩ : ∃ t0 tr, ts = t0 :: tr := by
      cases ts with
      | nil => simp at hl
      | cons a b => exact ⟨a, b, rfl⟩
    obtain ⟨gv, cv, hform, hgv1, hgv2⟩ := HO6.out.form (by simp)
    have hcl : (cells3 (t0 :: tr)).length = (t0 :: tr).length * 3 := cells3_length _
    have hA1 : A1 = some ⟨gv, 0, none⟩ ∧ c1 = cv := by simpa using hform
    obtain ⟨rfl, rfl⟩ := hA1
    have hgl := HOL.out gv rfl
    have hd1 := HO6.out.cellAt 0 (by rw [List.length_cons]; omega)
    have hd2 := HO6.out.cellAt 1 (by rw [List.length_cons]; omega)
    have hd3 := HO6.out.cellAt 2 (by rw [List.length_cons]; omega)
    have hf1 := HO6.out.frozenAt 0
    have hf2 := HO6.out.frozenAt 1
    have hf3 := HO6.out.frozenAt 2
    rw [List.getElem?_eq_getElem (by rw [hcl, List.length_cons]; omega)] at hd1 hd2 hd3
    generalize (cells3 (t0 :: tr))[0]'(by rw [hcl, List.length_cons]; omega) = u1 at hd1
    generalize (cells3 (t0 :: tr))[1]'(by rw [hcl, List.length_cons]; omega) = u2 at hd2
    generalize (cells3 (t0 :: tr))[2]'(by rw [hcl, List.length_cons]; omega) = u3 at hd3
    obtain ⟨nl, hnl⟩ : ∃ nl, nl = (t0 :: tr).length := ⟨_, rfl⟩
    rw [← hnl] at hl HO6 HBE ⊢
    have hnl0 : (0 : Int) < (nl : Int) := by omega
    clear hform hcl HOL
    have HNL := Lib.hid hnl
    clear hnl
    go_upto_region 6 with (fail)
    have hpv : w2.heap.size ≤ gv ∧ g < gv := by omega
    obtain ⟨o1, _⟩ := HO6.out.stored 0 (.int .i64 lo)
    obtain ⟨o2, _⟩ := o1.stored 1 (.int .i64 hi)
    obtain ⟨o3, _⟩ := o2.stored 2 (.int .i64 now)
    rw [cells3_set0] at o3
    have HO7 := Lib.hid o3
    have HP7 := Lib.hid (ownsRow_setCell_below (ownsRow_setCell_below (ownsRow_setCell_below HP6.out (a := ⟨gv, 0, none⟩) hgl (.int .i64 lo)) (a := ⟨gv, 1, none⟩) hgl (.int .i64 hi)) (a := ⟨gv, 2, none⟩) hgl (.int .i64 now))
    have HD7 := Lib.hid (((HD6.out.storeL (p := ⟨gv, 0, none⟩) hpv (.int .i64 lo)).storeL (p := ⟨gv, 1, none⟩) hpv (.int .i64 hi)).storeL (p := ⟨gv, 2, none⟩) hpv (.int .i64 now))
    generalize ((w6.setCell ⟨gv, 0, none⟩ (.int .i64 lo)).setCell ⟨gv, 1, none⟩ (.int .i64 hi)).setCell ⟨gv, 2, none⟩ (.int .i64 now) = w7 at *
    clear hd1 hd2 hd3 hf1 hf2 hf3 o1 o2 o3 HO6 HP6 HD6
    have hgw : g < w7.heap.size := HD7.out.cur.lt
    go_wp2_with fail
    refine (HBE.out _ HD7.out.cur).mono ?_
    rintro e wA ⟨x, hx, rfl, hdA⟩
    have HPA := Lib.hid (own_drewL HP7.out hdA hg3)
    have HOA := Lib.hid (own_drewL HO7.out hdA hg2)
    have HDA := Lib.hid (HD7.out.trans hdA)
    clear hdA HP7 HO7 HD7
    have hgA : g < wA.heap.size := HDA.out.cur.lt
    have HPB := Lib.hid (own_on HPA.out (below_alloc (Below.refl _ _) (.cells #[.int .i64 0, .int .i64 1, .int .i64 (-2), .int .i64 5, .int .i64 (-7), .int .i64 100, .int .i64 101, .int .i64 (-101)] 3)))
    have HOB := Lib.hid (own_on HOA.out (below_alloc (Below.refl _ _) (.cells #[.int .i64 0, .int .i64 1, .int .i64 (-2), .int .i64 5, .int .i64 (-7), .int .i64 100, .int .i64 101, .int .i64 (-101)] 3)))
    have HDB := Lib.hid (HDA.out.moreL (World.grownBy_alloc wA (.cells #[.int .i64 0, .int .i64 1, .int .i64 (-2), .int .i64 5, .int .i64 (-7), .int .i64 100, .int .i64 101, .int .i64 (-101)] 3) none) (fun r e => by simp at e))
    have HI := Lib.hid (irow_madeL wA [0, 1, -2, 5, -7, 100, 101, -101] 3 (by simp))
    clear HPA HOA HDA
    go_wp2_with fail
    refine (l01PickInt_any g A c cs _ 8 [0, 1, -2, 5, -7, 100, 101, -101] _ HDB.out.cur HI.out (fun x e => by simp at e; rw [← e]; simp; omega) (by simp) (by simp)).mono ?_
    rintro e wC ⟨b, hbm, rfl, hdC⟩
    have HPC := Lib.hid (own_drewL HPB.out hdC hg3)
    have HOC := Lib.hid (own_drewL HOB.out hdC hg2)
    have HDC := Lib.hid (HDB.out.trans hdC)
    have HBB := Lib.hid (HDC.out.below HB.out hg HB.out.size)
    clear hdC HPB HOB HDB hbm HI
    go_wp2_with fail
    refine bodyPost_ret (v := .tuple #[.slice (some ⟨gv, 0, none⟩) nl c1, .slice A2 ls.length c2, .int .i64 ((x : Int) - 1), .int .i64 b]) (by simp [results, Try.results18, go_sem]) rfl ?_
    have hnlr : nl = ((lo, hi, now) :: tr).length := HNL.out
    clear HNL
    subst hnlr
    exact ⟨(lo, hi, now) :: tr, ls, _, A2, _, c2, _, b, hl, hl2, rfl, own_mono HOC.out (by omega), own_mono HPC.out (by omega), HBB.out⟩

end Go.Proofs.Ytodocfanaplmpaa
