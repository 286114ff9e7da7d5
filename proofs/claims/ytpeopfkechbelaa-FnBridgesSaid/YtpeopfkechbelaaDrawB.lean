
/-
  Contracts of the draws of bridges: some bridge, whatever it is; no condition. (printed by wip/gen_drawb.py)
-/
import Derived.Test.YtpeopfkechbelaaDrawP
import Derived.Test.YtpeopfkechbelaaBridge2
import Derived.Test.YtpeopfkechbelaaRep
import Derived.Test.YtpeopfkechbelaaFlat
import Derived.Deep.Cut
namespace Go.Proofs.Ytpeopfkechbelaa
open Go.ChangeShapes Go.WideShapes Go.ChangeAt Go.RowKit Go.Deep Go.BigFrame
set_option linter.unusedVariables false
set_option linter.unusedSimpArgs false

/-- a bridge in block b -/
structure BrAt (w : World) (b : Nat) (fr to : Int) (st : ByteArray) : Prop where
  c0 : w.cell? ⟨b, 0, none⟩ = some (.int .i64 fr)
  c1 : w.cell? ⟨b, 1, none⟩ = some (.int .i64 to)
  c2 : w.cell? ⟨b, 2, none⟩ = some (.string st)
  fz : ∀ o, w.frozen? ⟨b, o, none⟩ = false
section
variable {w w' w2 : World} {b g c : Nat} {fr to : Int} {st : ByteArray} {A : Option Addr} {cs : List UInt8}
theorem BrAt.lt (h : BrAt w b fr to st) : b < w.heap.size := World.block_lt_of_cell? w _ h.c0
theorem BrAt.still (h : BrAt w b fr to st) (hk : w'.heap[b]? = w.heap[b]?) : BrAt w' b fr to st :=
  ⟨(World.cell?_of_block hk).trans h.c0, (World.cell?_of_block hk).trans h.c1, (World.cell?_of_block hk).trans h.c2, fun o => (World.frozen?_of_block hk).trans (h.fz o)⟩
theorem BrAt.drew (h : BrAt w b fr to st) (hd : Drew w w' g A c cs) (hne : b ≠ g) : BrAt w' b fr to st := h.still (hd.by_.block b h.lt (by simpa using hne))
theorem BrAt.below (h : BrAt w b fr to st) (hb : Below w.heap.size w w') : BrAt w' b fr to st := h.still (hb.block b h.lt)
theorem BrAt.put2 (h : BrAt w b fr to st) (u : ByteArray) : BrAt (w.setCell ⟨b, 2, none⟩ (.string u)) b fr to u :=
  ⟨(World.cell?_setCell_other w _ _ _ (by simp)).trans h.c0, (World.cell?_setCell_other w _ _ _ (by simp)).trans h.c1, World.cell?_setCell_same w _ _ h.c2, fun o => (World.frozen?_setCell w _ _ _).trans (h.fz o)⟩
theorem BrAt.far (h : BrAt w b fr to st) {p : Addr} (hp : p.block ≠ b) (v : Value) : BrAt (w.setCell p v) b fr to st := h.still (heap_setCell_other w p b v (fun e => hp e.symm))
theorem Drew.moreB {row : Option Nat} (h : Drew w w' g A c cs) (hg : w'.grownBy w2 row) (hr : ∀ r, row = some r → w.heap.size ≤ r ∧ g < r) : Drew w w2 g A c cs := by
  have hlt : w.heap.size ≤ w'.heap.size := h.by_.size
  refine ⟨h.cur.grown hg (fun r e => (hr r e).2), ⟨hg.os.trans h.by_.os, hg.tape.trans h.by_.tape, hg.output.trans h.by_.output, Nat.le_trans hlt hg.size, fun k hk hne => ?_⟩⟩
  rw [hg.block k (by omega) (fun e => by have := (hr k e.symm).1; omega)]
  exact h.by_.block k hk hne
theorem Drew.storeB (h : Drew w w' g A c cs) {p : Addr} (hp : w.heap.size ≤ p.block ∧ g < p.block) (v : Value) : Drew w (w'.setCell p v) g A c cs :=
  h.moreB (row := some p.block) ⟨rfl, rfl, rfl, by simp, fun k hk hne => heap_setCell_other w' p k v (fun e => hne (by simp [e]))⟩ (fun r e => by simp at e; omega)
end
theorem br_made (w : World) (fr to : Int) (st : ByteArray) : BrAt (w.alloc (.cells #[.int .i64 fr, .int .i64 to, .string st] 39)) w.heap.size fr to st := ⟨by go_simp, by go_simp, by go_simp, fun j => by go_simp⟩
/-- a literal of ints, just made -/
theorem irow_made (w : World) (xs : List Int) (t : TypeId) (hm : xs.length ≤ 1000) : IRow (w.alloc (.cells (xs.map (Value.int .i64)).toArray t)) (w.alloc (.cells (xs.map (Value.int .i64)).toArray t)).heap.size (some ⟨w.heap.size, 0, none⟩) xs := by
  refine ⟨by simp, by unfold maxLen; omega, fun hn => ⟨w.heap.size, 0, rfl, by simp, fun j hj => ?_⟩⟩
  go_simp

set_option maxHeartbeats 2000000 in
set_option maxRecDepth 8000 in
theorem l16Bridge_any (g : Nat) (A : Option Addr) (c : Nat) (cs : List UInt8) (s : ByteArray) (w : World) (h : Cur w g A c cs) (hs : s.size ≤ 32) :
    Calls Try.prog 66 #[.pointer (some ⟨g, 0, none⟩), .string s] w fun e w' => ∃ (fr to : Int) (st : ByteArray), st.size ≤ 100 ∧ e = .returned (.agg #[.int .i64 fr, .int .i64 to, .string st]) ∧ Drew w w' g A c cs := by
  have HB3 := Lib.hid (fun w h => l01Below_any g A c cs 3 w h (by decide) (by decide))
  have HB12 := Lib.hid (fun w h => l01Below_any g A c cs 12 w h (by decide) (by decide))
  have HBN := Lib.hid (fun m w h => l01Below_any g A c cs m w h)
  have hg := h.lt
  have hgr : w.heap.size ≠ g := by omega
  have hpr0 : w.heap.size ≤ w.heap.size ∧ g < w.heap.size := by omega
  have HST := Lib.hid (fun w => specIsStrip_any s w (by omega))
  have HR0 := Lib.hid (br_made w 0 0 ⟨#[]⟩)
  have HD0 := Lib.hid ((Drew.refl h).moreB (World.grownBy_alloc w (.cells #[.int .i64 0, .int .i64 0, .string ⟨#[]⟩] 39) none) (fun r e => by simp at e))
  clear h
  go_enter Try.func66, Try.ntmps66
  go_upto_region 1 with (fail)
  generalize w.alloc (.cells #[.int .i64 0, .int .i64 0, .string ⟨#[]⟩] 39) = w1 at *
  cases hst : isStrip s.data.toList
  · rw [hst] at HST
    clear hst
    go_wp2_with fail
    refine (HST.out _).mono ?_
    rintro e w2 ⟨rfl, rfl⟩
    obtain ⟨r0, r1, r2, rfz⟩ := HR0.out
    have f0 := rfz 0
    have f1 := rfz 1
    have f2 := rfz 2
    clear rfz
    go_wp2_with fail
    refine bodyPost_ret (v := .agg #[.int .i64 0, .int .i64 2, .string ⟨#[102, 100]⟩]) (by simp [results, Try.results66, go_sem, r0, r1, r2]) rfl ?_
    exact ⟨0, 2, _, by decide, rfl, ((HD0.out.storeB (p := ⟨w.heap.size, 0, none⟩) hpr0 _).storeB (p := ⟨w.heap.size, 1, none⟩) hpr0 _).storeB (p := ⟨w.heap.size, 2, none⟩) hpr0 _⟩
  rw [hst] at HST
  have hp := isStrip_parts hst
  rw [size_list] at hp
  go_wp2_with fail
  refine (HST.out _).mono ?_
  rintro e w2 ⟨rfl, rfl⟩
  go_wp2_with fail
  refine (HBN.out s.size _ HD0.out.cur (by omega) (by omega)).mono ?_
  rintro e w2 ⟨x, hx, rfl, hd2⟩
  have HR2 := Lib.hid (HR0.out.drew hd2 hgr)
  have HD2 := Lib.hid (HD0.out.trans hd2)
  have e1 : IntKind.i64.wrap (1 + (x : Int)) = ((1 + x : Nat) : Int) := by rw [IntKind.wrap_i64]; omega
  have e1' : 1 + (x : Int) = ((1 + x : Nat) : Int) := by omega
  obtain ⟨b, hb⟩ : ∃ b, b = 1 + x := ⟨_, rfl⟩
  rw [← hb] at e1 e1'
  have hb1 : 1 ≤ b ∧ b ≤ s.size := by omega
  clear hd2 HR0 HD0 hb hx
  go_wp2_with fail
  refine (HBN.out b _ HD2.out.cur (by omega) (by omega)).mono ?_
  rintro e w3 ⟨a, ha, rfl, hd3⟩
  have HR3 := Lib.hid (HR2.out.drew hd3 hgr)
  have HD3 := Lib.hid (HD2.out.trans hd3)
  clear hd3 HR2 HD2 e1 e1'
  have hsl := run_sl s a b a b rfl rfl (by omega) (by omega)
  have hps : (s.extract a b).size = b - a := extract_size' (by omega) (by omega)
  have hct := cutL_counts (a := a) (b := b) hst (by omega) (by rw [size_list]; omega)
  rw [← extract_list] at hct
  have HCD := Lib.hid (fun w => l02Count_any (s.extract a b) 100 w (by omega))
  have HCF := Lib.hid (fun w => l02Count_any (s.extract a b) 102 w (by omega))
  have HAB := Lib.hid (fun (u : ByteArray) w h1 h2 => l16Above_any u (s.extract a b) w h1 h2)
  obtain ⟨d, hd⟩ : ∃ d, d = cn 100 (s.extract a b).data.toList := ⟨_, rfl⟩
  obtain ⟨f, hf⟩ : ∃ f, f = cn 102 (s.extract a b).data.toList := ⟨_, rfl⟩
  have hdd : dn (s.extract a b).data.toList = d := hd.symm
  have hff : fw (s.extract a b).data.toList = f := hf.symm
  rw [hdd, hff] at hct
  rw [← hd] at HCD
  rw [← hf] at HCF
  clear hd hf hdd hff hst
  generalize s.extract a b = p at *
  have HDR := Lib.hid (fun w h => l02Draw_any g A c cs d f w h (by omega) (by omega))
  have HMF := Lib.hid (fun w => l02ManyF_any f w (by omega))
  have HMD := Lib.hid (fun w => l02Many_any d w (by omega))
  go_wp2_with fail
  refine (HCD.out _).mono ?_
  rintro e w4 ⟨rfl, rfl⟩
  go_wp2_with fail
  refine (HCF.out _).mono ?_
  rintro e w4 ⟨rfl, rfl⟩
  go_wp2_with fail
  refine (HDR.out _ HD3.out.cur).mono ?_
  rintro e w4 ⟨l, hl, rfl, hd4⟩
  have HR4 := Lib.hid (HR3.out.drew hd4 hgr)
  have HD4 := Lib.hid (HD3.out.trans hd4)
  have hlz := hl.size
  clear hd4 HR3 HD3 hl
  generalize bs l = v at *
  go_upto_region 7 with (fail)
  have HO5 := Lib.hid (br_made w4 a b v)
  have HR5 := Lib.hid (HR4.out.below (below_alloc (Below.refl _ _) (.cells #[.int .i64 a, .int .i64 b, .string v] 39)))
  have HD5 := Lib.hid (HD4.out.moreB (World.grownBy_alloc w4 (.cells #[.int .i64 a, .int .i64 b, .string v] 39) none) (fun r e => by simp at e))
  have hgo0 : g < w4.heap.size := HD4.out.cur.lt
  have hgw : w.heap.size < w4.heap.size := HR4.out.lt
  generalize w4.alloc (.cells #[.int .i64 a, .int .i64 b, .string v] 39) = w5 at *
  generalize w4.heap.size = o at *
  have hgo : o ≠ g := by omega
  have hpo0 : w.heap.size ≤ o ∧ g < o := by omega
  clear HR4 HD4
  go_wp2_with fail
  refine (HB3.out _ HD5.out.cur).mono ?_
  rintro e w6 ⟨y, hy, rfl, hd6⟩
  have HO := Lib.hid (HO5.out.drew hd6 hgo)
  have HR := Lib.hid (HR5.out.drew hd6 hgr)
  have HD := Lib.hid (HD5.out.trans hd6)
  clear hd6 HO5 HR5 HD5
  by_cases y0 : y = 0
  · have y1 : ¬ (0 : Int) < (y : Int) := by omega
    have y2 : ¬ 0 < y := by omega
    obtain ⟨u, hu⟩ : ∃ u, u = v := ⟨_, rfl⟩
    subst hu
    have hu40 : u.size ≤ 40 := by omega
    clear y0
    go_wp2_with fail
    refine (HB12.out _ HD.out.cur).mono ?_
    rintro e wq ⟨q, hq, rfl, hdq⟩
    have HRq := Lib.hid (HR.out.drew hdq hgr)
    have HOq := Lib.hid (HO.out.drew hdq hgo)
    have HDq := Lib.hid (HD.out.trans hdq)
    clear hdq HR HO HD
    by_cases q0 : q = 0
    · have q0' : (q : Int) = 0 := by omega
      obtain ⟨o0, o1, o2, ofz⟩ := HOq.out
      have hlq := HOq.out.lt
      have HR2 := Lib.hid (HRq.out.below (below_alloc (Below.refl _ _) (.cells #[.int .i64 (-1), .int .i64 0, .int .i64 b] 3)))
      have HO2 := Lib.hid (HOq.out.below (below_alloc (Below.refl _ _) (.cells #[.int .i64 (-1), .int .i64 0, .int .i64 b] 3)))
      have HD2 := Lib.hid (HDq.out.made (.cells #[.int .i64 (-1), .int .i64 0, .int .i64 b] 3))
      have HI := Lib.hid (irow_made wq [-1, 0, (b : Int)] 3 (by simp))
      clear ofz
      go_wp2_with fail
      refine (l01PickInt_any g A c cs _ 3 [-1, 0, (b : Int)] _ HD2.out.cur HI.out (fun x e => by simp at e; rw [← e]; simp; omega) (by simp) (by simp)).mono ?_
      rintro e wz ⟨z, hz, rfl, hdz⟩
      have HRz := Lib.hid (HR2.out.drew hdz hgr)
      have HOz := Lib.hid (HO2.out.drew hdz hgo)
      have HDz := Lib.hid (HD2.out.trans hdz)
      clear hdz hz o0 o1 o2 HR2 HO2 HD2 HI
      obtain ⟨o0, o1, o2, ofz⟩ := HOz.out
      obtain ⟨r0, r1, r2, rfz⟩ := HRz.out
      have f0 := rfz 0
      have f1 := rfz 1
      have f2 := rfz 2
      have k0 := ofz 0
      clear ofz rfz
      go_wp2_with fail
      refine bodyPost_ret (v := .agg #[.int .i64 z, .int .i64 b, .string u]) (by simp [results, Try.results66, go_sem, r0, r1, r2, o0, o1, o2]) rfl ?_
      exact ⟨z, b, u, by omega, rfl, (((HDz.out.storeB (p := ⟨o, 0, none⟩) hpo0 _).storeB (p := ⟨w.heap.size, 0, none⟩) hpr0 _).storeB (p := ⟨w.heap.size, 1, none⟩) hpr0 _).storeB (p := ⟨w.heap.size, 2, none⟩) hpr0 _⟩
    · have q0' : ¬ (q : Int) = 0 := by omega
      by_cases q1 : q = 1
      · have q1' : (q : Int) = 1 := by omega
        have hlq := HOq.out.lt
        have hs1 : IntKind.i64.wrap ((s.size : Int) + 1) = ((s.size + 1 : Nat) : Int) := by rw [IntKind.wrap_i64]; omega
        have hs1' : (s.size : Int) + 1 = ((s.size + 1 : Nat) : Int) := by omega
        have HR2 := Lib.hid (HRq.out.below (below_alloc (Below.refl _ _) (.cells #[.int .i64 0, .int .i64 s.size, .int .i64 ((s.size + 1 : Nat) : Int)] 3)))
        have HO2 := Lib.hid (HOq.out.below (below_alloc (Below.refl _ _) (.cells #[.int .i64 0, .int .i64 s.size, .int .i64 ((s.size + 1 : Nat) : Int)] 3)))
        have HD2 := Lib.hid (HDq.out.made (.cells #[.int .i64 0, .int .i64 s.size, .int .i64 ((s.size + 1 : Nat) : Int)] 3))
        have HI := Lib.hid (irow_made wq [0, (s.size : Int), ((s.size + 1 : Nat) : Int)] 3 (by simp))
        generalize s.size + 1 = zs at *
        go_wp2_with fail
        refine (l01PickInt_any g A c cs _ 3 [0, (s.size : Int), (zs : Int)] _ HD2.out.cur HI.out (fun x e => by simp at e; rw [← e]; simp; omega) (by simp) (by simp)).mono ?_
        rintro e wz ⟨z, hz, rfl, hdz⟩
        have HRz := Lib.hid (HR2.out.drew hdz hgr)
        have HOz := Lib.hid (HO2.out.drew hdz hgo)
        have HDz := Lib.hid (HD2.out.trans hdz)
        clear hdz hz HR2 HO2 HD2 HI hs1 hs1'
        obtain ⟨o0, o1, o2, ofz⟩ := HOz.out
        obtain ⟨r0, r1, r2, rfz⟩ := HRz.out
        have f0 := rfz 0
        have f1 := rfz 1
        have f2 := rfz 2
        have k1 := ofz 1
        clear ofz rfz
        go_wp2_with fail
        refine bodyPost_ret (v := .agg #[.int .i64 a, .int .i64 z, .string u]) (by simp [results, Try.results66, go_sem, r0, r1, r2, o0, o1, o2]) rfl ?_
        exact ⟨a, z, u, by omega, rfl, (((HDz.out.storeB (p := ⟨o, 1, none⟩) hpo0 _).storeB (p := ⟨w.heap.size, 0, none⟩) hpr0 _).storeB (p := ⟨w.heap.size, 1, none⟩) hpr0 _).storeB (p := ⟨w.heap.size, 2, none⟩) hpr0 _⟩
      · have q1' : ¬ (q : Int) = 1 := by omega
        obtain ⟨o0, o1, o2, ofz⟩ := HOq.out
        obtain ⟨r0, r1, r2, rfz⟩ := HRq.out
        have f0 := rfz 0
        have f1 := rfz 1
        have f2 := rfz 2
        have k2 := ofz 2
        clear ofz rfz
        by_cases q2 : q = 2
        · have q2' : (q : Int) = 2 := by omega
          go_wp2_with fail
          refine bodyPost_ret (v := .agg #[.int .i64 a, .int .i64 b, .string (u ++ ⟨#[100]⟩)]) (by simp [results, Try.results66, go_sem, r0, r1, r2, o0, o1, o2]) rfl ?_
          exact ⟨a, b, _, by rw [ByteArray.size_append]; show u.size + 1 ≤ 100; omega, rfl, (((HDq.out.storeB (p := ⟨o, 2, none⟩) hpo0 _).storeB (p := ⟨w.heap.size, 0, none⟩) hpr0 _).storeB (p := ⟨w.heap.size, 1, none⟩) hpr0 _).storeB (p := ⟨w.heap.size, 2, none⟩) hpr0 _⟩
        · have q2' : ¬ (q : Int) = 2 := by omega
          go_wp2_with fail
          refine bodyPost_ret (v := .agg #[.int .i64 a, .int .i64 b, .string u]) (by simp [results, Try.results66, go_sem, r0, r1, r2, o0, o1, o2]) rfl ?_
          exact ⟨a, b, u, by omega, rfl, ((HDq.out.storeB (p := ⟨w.heap.size, 0, none⟩) hpr0 _).storeB (p := ⟨w.heap.size, 1, none⟩) hpr0 _).storeB (p := ⟨w.heap.size, 2, none⟩) hpr0 _⟩
  · have y1 : (0 : Int) < (y : Int) := by omega
    have y2 : 0 < y := by omega
    clear y0
    have o2 := HO.out.c2
    have HABV := Lib.hid (fun w => HAB.out v w (by omega) (by omega))
    cases hab : aboveB v.data.toList p.data.toList
    · rw [hab] at HABV
      clear hab
      have hrz : (bs (repF f)).size + (bs (rep d)).size ≤ 40 := by rw [bs_size, bs_size]; have a1 : (repF f).length = f := (by simp [repF]); have a2 : (rep d).length = d := rep_len d; omega
      have HMF2 := Lib.hid HMF.out
      have HMD2 := Lib.hid HMD.out
      generalize bs (repF f) = uf at *
      generalize bs (rep d) = ud at *
      go_wp2_with fail
      refine (HABV.out _).mono ?_
      rintro e w7 ⟨rfl, rfl⟩
      go_wp2_with fail
      refine (HCF.out _).mono ?_
      rintro e w7 ⟨rfl, rfl⟩
      go_wp2_with fail
      refine (HMF.out _).mono ?_
      rintro e w7 ⟨rfl, rfl⟩
      go_wp2_with fail
      refine (HCD.out _).mono ?_
      rintro e w7 ⟨rfl, rfl⟩
      go_wp2_with fail
      refine (HMD.out _).mono ?_
      rintro e w7 ⟨rfl, rfl⟩
      have k2 := HO.out.fz 2
      go_upto_region 9 with (fail)
      obtain ⟨u, hu⟩ : ∃ u, u = uf ++ ud := ⟨_, rfl⟩
      have hu40 : u.size ≤ 40 := by rw [hu, ByteArray.size_append]; omega
      rw [← hu]
      have HO1 := Lib.hid (HO.out.put2 u)
      have HR1 := Lib.hid (HR.out.far (p := ⟨o, 2, none⟩) (by simp; omega) (.string u))
      have HD1 := Lib.hid (HD.out.storeB (p := ⟨o, 2, none⟩) hpo0 (.string u))
      clear o2 k2 HO HR HD hu
      generalize w6.setCell ⟨o, 2, none⟩ (.string u) = w8 at *
      have HO := HO1
      have HR := HR1
      have HD := HD1
      clear HO1 HR1 HD1
      go_wp2_with fail
      refine (HB12.out _ HD.out.cur).mono ?_
      rintro e wq ⟨q, hq, rfl, hdq⟩
      have HRq := Lib.hid (HR.out.drew hdq hgr)
      have HOq := Lib.hid (HO.out.drew hdq hgo)
      have HDq := Lib.hid (HD.out.trans hdq)
      clear hdq HR HO HD
      by_cases q0 : q = 0
      · have q0' : (q : Int) = 0 := by omega
        obtain ⟨o0, o1, o2, ofz⟩ := HOq.out
        have hlq := HOq.out.lt
        have HR2 := Lib.hid (HRq.out.below (below_alloc (Below.refl _ _) (.cells #[.int .i64 (-1), .int .i64 0, .int .i64 b] 3)))
        have HO2 := Lib.hid (HOq.out.below (below_alloc (Below.refl _ _) (.cells #[.int .i64 (-1), .int .i64 0, .int .i64 b] 3)))
        have HD2 := Lib.hid (HDq.out.made (.cells #[.int .i64 (-1), .int .i64 0, .int .i64 b] 3))
        have HI := Lib.hid (irow_made wq [-1, 0, (b : Int)] 3 (by simp))
        clear ofz
        go_wp2_with fail
        refine (l01PickInt_any g A c cs _ 3 [-1, 0, (b : Int)] _ HD2.out.cur HI.out (fun x e => by simp at e; rw [← e]; simp; omega) (by simp) (by simp)).mono ?_
        rintro e wz ⟨z, hz, rfl, hdz⟩
        have HRz := Lib.hid (HR2.out.drew hdz hgr)
        have HOz := Lib.hid (HO2.out.drew hdz hgo)
        have HDz := Lib.hid (HD2.out.trans hdz)
        clear hdz hz o0 o1 o2 HR2 HO2 HD2 HI
        obtain ⟨o0, o1, o2, ofz⟩ := HOz.out
        obtain ⟨r0, r1, r2, rfz⟩ := HRz.out
        have f0 := rfz 0
        have f1 := rfz 1
        have f2 := rfz 2
        have k0 := ofz 0
        clear ofz rfz
        go_wp2_with fail
        refine bodyPost_ret (v := .agg #[.int .i64 z, .int .i64 b, .string u]) (by simp [results, Try.results66, go_sem, r0, r1, r2, o0, o1, o2]) rfl ?_
        exact ⟨z, b, u, by omega, rfl, (((HDz.out.storeB (p := ⟨o, 0, none⟩) hpo0 _).storeB (p := ⟨w.heap.size, 0, none⟩) hpr0 _).storeB (p := ⟨w.heap.size, 1, none⟩) hpr0 _).storeB (p := ⟨w.heap.size, 2, none⟩) hpr0 _⟩
      · have q0' : ¬ (q : Int) = 0 := by omega
        by_cases q1 : q = 1
        · have q1' : (q : Int) = 1 := by omega
          have hlq := HOq.out.lt
          have hs1 : IntKind.i64.wrap ((s.size : Int) + 1) = ((s.size + 1 : Nat) : Int) := by rw [IntKind.wrap_i64]; omega
          have hs1' : (s.size : Int) + 1 = ((s.size + 1 : Nat) : Int) := by omega
          have HR2 := Lib.hid (HRq.out.below (below_alloc (Below.refl _ _) (.cells #[.int .i64 0, .int .i64 s.size, .int .i64 ((s.size + 1 : Nat) : Int)] 3)))
          have HO2 := Lib.hid (HOq.out.below (below_alloc (Below.refl _ _) (.cells #[.int .i64 0, .int .i64 s.size, .int .i64 ((s.size + 1 : Nat) : Int)] 3)))
          have HD2 := Lib.hid (HDq.out.made (.cells #[.int .i64 0, .int .i64 s.size, .int .i64 ((s.size + 1 : Nat) : Int)] 3))
          have HI := Lib.hid (irow_made wq [0, (s.size : Int), ((s.size + 1 : Nat) : Int)] 3 (by simp))
          generalize s.size + 1 = zs at *
          go_wp2_with fail
          refine (l01PickInt_any g A c cs _ 3 [0, (s.size : Int), (zs : Int)] _ HD2.out.cur HI.out (fun x e => by simp at e; rw [← e]; simp; omega) (by simp) (by simp)).mono ?_
          rintro e wz ⟨z, hz, rfl, hdz⟩
          have HRz := Lib.hid (HR2.out.drew hdz hgr)
          have HOz := Lib.hid (HO2.out.drew hdz hgo)
          have HDz := Lib.hid (HD2.out.trans hdz)
          clear hdz hz HR2 HO2 HD2 HI hs1 hs1'
          obtain ⟨o0, o1, o2, ofz⟩ := HOz.out
          obtain ⟨r0, r1, r2, rfz⟩ := HRz.out
          have f0 := rfz 0
          have f1 := rfz 1
          have f2 := rfz 2
          have k1 := ofz 1
          clear ofz rfz
          go_wp2_with fail
          refine bodyPost_ret (v := .agg #[.int .i64 a, .int .i64 z, .string u]) (by simp [results, Try.results66, go_sem, r0, r1, r2, o0, o1, o2]) rfl ?_
          exact ⟨a, z, u, by omega, rfl, (((HDz.out.storeB (p := ⟨o, 1, none⟩) hpo0 _).storeB (p := ⟨w.heap.size, 0, none⟩) hpr0 _).storeB (p := ⟨w.heap.size, 1, none⟩) hpr0 _).storeB (p := ⟨w.heap.size, 2, none⟩) hpr0 _⟩
        · have q1' : ¬ (q : Int) = 1 := by omega
          obtain ⟨o0, o1, o2, ofz⟩ := HOq.out
          obtain ⟨r0, r1, r2, rfz⟩ := HRq.out
          have f0 := rfz 0
          have f1 := rfz 1
          have f2 := rfz 2
          have k2 := ofz 2
          clear ofz rfz
          by_cases q2 : q = 2
          · have q2' : (q : Int) = 2 := by omega
            go_wp2_with fail
            refine bodyPost_ret (v := .agg #[.int .i64 a, .int .i64 b, .string (u ++ ⟨#[100]⟩)]) (by simp [results, Try.results66, go_sem, r0, r1, r2, o0, o1, o2]) rfl ?_
            exact ⟨a, b, _, by rw [ByteArray.size_append]; show u.size + 1 ≤ 100; omega, rfl, (((HDq.out.storeB (p := ⟨o, 2, none⟩) hpo0 _).storeB (p := ⟨w.heap.size, 0, none⟩) hpr0 _).storeB (p := ⟨w.heap.size, 1, none⟩) hpr0 _).storeB (p := ⟨w.heap.size, 2, none⟩) hpr0 _⟩
          · have q2' : ¬ (q : Int) = 2 := by omega
            go_wp2_with fail
            refine bodyPost_ret (v := .agg #[.int .i64 a, .int .i64 b, .string u]) (by simp [results, Try.results66, go_sem, r0, r1, r2, o0, o1, o2]) rfl ?_
            exact ⟨a, b, u, by omega, rfl, ((HDq.out.storeB (p := ⟨w.heap.size, 0, none⟩) hpr0 _).storeB (p := ⟨w.heap.size, 1, none⟩) hpr0 _).storeB (p := ⟨w.heap.size, 2, none⟩) hpr0 _⟩
    · rw [hab] at HABV
      clear hab
      go_wp2_with fail
      refine (HABV.out _).mono ?_
      rintro e w7 ⟨rfl, rfl⟩
      obtain ⟨u, hu⟩ : ∃ u, u = v := ⟨_, rfl⟩
      subst hu
      have hu40 : u.size ≤ 40 := by omega
      clear o2
      go_wp2_with fail
      refine (HB12.out _ HD.out.cur).mono ?_
      rintro e wq ⟨q, hq, rfl, hdq⟩
      have HRq := Lib.hid (HR.out.drew hdq hgr)
      have HOq := Lib.hid (HO.out.drew hdq hgo)
      have HDq := Lib.hid (HD.out.trans hdq)
      clear hdq HR HO HD
      by_cases q0 : q = 0
      · have q0' : (q : Int) = 0 := by omega
        obtain ⟨o0, o1, o2, ofz⟩ := HOq.out
        have hlq := HOq.out.lt
        have HR2 := Lib.hid (HRq.out.below (below_alloc (Below.refl _ _) (.cells #[.int .i64 (-1), .int .i64 0, .int .i64 b] 3)))
        have HO2 := Lib.hid (HOq.out.below (below_alloc (Below.refl _ _) (.cells #[.int .i64 (-1), .int .i64 0, .int .i64 b] 3)))
        have HD2 := Lib.hid (HDq.out.made (.cells #[.int .i64 (-1), .int .i64 0, .int .i64 b] 3))
        have HI := Lib.hid (irow_made wq [-1, 0, (b : Int)] 3 (by simp))
        clear ofz
        go_wp2_with fail
        refine (l01PickInt_any g A c cs _ 3 [-1, 0, (b : Int)] _ HD2.out.cur HI.out (fun x e => by simp at e; rw [← e]; simp; omega) (by simp) (by simp)).mono ?_
        rintro e wz ⟨z, hz, rfl, hdz⟩
        have HRz := Lib.hid (HR2.out.drew hdz hgr)
        have HOz := Lib.hid (HO2.out.drew hdz hgo)
        have HDz := Lib.hid (HD2.out.trans hdz)
        clear hdz hz o0 o1 o2 HR2 HO2 HD2 HI
        obtain ⟨o0, o1, o2, ofz⟩ := HOz.out
        obtain ⟨r0, r1, r2, rfz⟩ := HRz.out
        have f0 := rfz 0
        have f1 := rfz 1
        have f2 := rfz 2
        have k0 := ofz 0
        clear ofz rfz
        go_wp2_with fail
        refine bodyPost_ret (v := .agg #[.int .i64 z, .int .i64 b, .string u]) (by simp [results, Try.results66, go_sem, r0, r1, r2, o0, o1, o2]) rfl ?_
        exact ⟨z, b, u, by omega, rfl, (((HDz.out.storeB (p := ⟨o, 0, none⟩) hpo0 _).storeB (p := ⟨w.heap.size, 0, none⟩) hpr0 _).storeB (p := ⟨w.heap.size, 1, none⟩) hpr0 _).storeB (p := ⟨w.heap.size, 2, none⟩) hpr0 _⟩
      · have q0' : ¬ (q : Int) = 0 := by omega
        by_cases q1 : q = 1
        · have q1' : (q : Int) = 1 := by omega
          have hlq := HOq.out.lt
          have hs1 : IntKind.i64.wrap ((s.size : Int) + 1) = ((s.size + 1 : Nat) : Int) := by rw [IntKind.wrap_i64]; omega
          have hs1' : (s.size : Int) + 1 = ((s.size + 1 : Nat) : Int) := by omega
          have HR2 := Lib.hid (HRq.out.below (below_alloc (Below.refl _ _) (.cells #[.int .i64 0, .int .i64 s.size, .int .i64 ((s.size + 1 : Nat) : Int)] 3)))
          have HO2 := Lib.hid (HOq.out.below (below_alloc (Below.refl _ _) (.cells #[.int .i64 0, .int .i64 s.size, .int .i64 ((s.size + 1 : Nat) : Int)] 3)))
          have HD2 := Lib.hid (HDq.out.made (.cells #[.int .i64 0, .int .i64 s.size, .int .i64 ((s.size + 1 : Nat) : Int)] 3))
          have HI := Lib.hid (irow_made wq [0, (s.size : Int), ((s.size + 1 : Nat) : Int)] 3 (by simp))
          generalize s.size + 1 = zs at *
          go_wp2_with fail
          refine (l01PickInt_any g A c cs _ 3 [0, (s.size : Int), (zs : Int)] _ HD2.out.cur HI.out (fun x e => by simp at e; rw [← e]; simp; omega) (by simp) (by simp)).mono ?_
          rintro e wz ⟨z, hz, rfl, hdz⟩
          have HRz := Lib.hid (HR2.out.drew hdz hgr)
          have HOz := Lib.hid (HO2.out.drew hdz hgo)
          have HDz := Lib.hid (HD2.out.trans hdz)
          clear hdz hz HR2 HO2 HD2 HI hs1 hs1'
          obtain ⟨o0, o1, o2, ofz⟩ := HOz.out
          obtain ⟨r0, r1, r2, rfz⟩ := HRz.out
          have f0 := rfz 0
          have f1 := rfz 1
          have f2 := rfz 2
          have k1 := ofz 1
          clear ofz rfz
          go_wp2_with fail
          refine bodyPost_ret (v := .agg #[.int .i64 a, .int .i64 z, .string u]) (by simp [results, Try.results66, go_sem, r0, r1, r2, o0, o1, o2]) rfl ?_
          exact ⟨a, z, u, by omega, rfl, (((HDz.out.storeB (p := ⟨o, 1, none⟩) hpo0 _).storeB (p := ⟨w.heap.size, 0, none⟩) hpr0 _).storeB (p := ⟨w.heap.size, 1, none⟩) hpr0 _).storeB (p := ⟨w.heap.size, 2, none⟩) hpr0 _⟩
        · have q1' : ¬ (q : Int) = 1 := by omega
          obtain ⟨o0, o1, o2, ofz⟩ := HOq.out
          obtain ⟨r0, r1, r2, rfz⟩ := HRq.out
          have f0 := rfz 0
          have f1 := rfz 1
          have f2 := rfz 2
          have k2 := ofz 2
          clear ofz rfz
          by_cases q2 : q = 2
          · have q2' : (q : Int) = 2 := by omega
            go_wp2_with fail
            refine bodyPost_ret (v := .agg #[.int .i64 a, .int .i64 b, .string (u ++ ⟨#[100]⟩)]) (by simp [results, Try.results66, go_sem, r0, r1, r2, o0, o1, o2]) rfl ?_
            exact ⟨a, b, _, by rw [ByteArray.size_append]; show u.size + 1 ≤ 100; omega, rfl, (((HDq.out.storeB (p := ⟨o, 2, none⟩) hpo0 _).storeB (p := ⟨w.heap.size, 0, none⟩) hpr0 _).storeB (p := ⟨w.heap.size, 1, none⟩) hpr0 _).storeB (p := ⟨w.heap.size, 2, none⟩) hpr0 _⟩
          · have q2' : ¬ (q : Int) = 2 := by omega
            go_wp2_with fail
            refine bodyPost_ret (v := .agg #[.int .i64 a, .int .i64 b, .string u]) (by simp [results, Try.results66, go_sem, r0, r1, r2, o0, o1, o2]) rfl ?_
            exact ⟨a, b, u, by omega, rfl, ((HDq.out.storeB (p := ⟨w.heap.size, 0, none⟩) hpr0 _).storeB (p := ⟨w.heap.size, 1, none⟩) hpr0 _).storeB (p := ⟨w.heap.size, 2, none⟩) hpr0 _⟩


set_option maxRecDepth 8000 in
theorem DrawBridgeOk_any (A : Option Addr) (c : Nat) (cs : List UInt8) (w : World) (h : BRow w w.heap.size A cs) :
    Calls Try.prog 19 #[.slice A cs.length c] w fun e w' => ∃ (s : ByteArray) (fr to : Int) (st : ByteArray), s.size ≤ 32 ∧ st.size ≤ 100 ∧ e = .returned (.tuple #[.string s, .agg #[.int .i64 fr, .int .i64 to, .string st]]) ∧ Below w.heap.size w w' := by
  have H := Lib.hid (show BRow (w.alloc (.cells #[.int .i64 0, .int .i64 0, .string ⟨#[]⟩] 39)) (w.alloc (.cells #[.int .i64 0, .int .i64 0, .string ⟨#[]⟩] 39)).heap.size A cs from Row.more (Row.alloc h (Nat.le_refl _) _) (by simp))
  have HR0 := Lib.hid (br_made w 0 0 ⟨#[]⟩)
  have HB0 := Lib.hid (below_alloc (Below.refl w.heap.size w) (.cells #[.int .i64 0, .int .i64 0, .string ⟨#[]⟩] 39))
  have hs1 : w.heap.size < (w.alloc (.cells #[.int .i64 0, .int .i64 0, .string ⟨#[]⟩] 39)).heap.size := by simp
  clear h
  go_enter Try.func19, Try.ntmps19
  go_upto_region 1 with (fail)
  generalize w.alloc (.cells #[.int .i64 0, .int .i64 0, .string ⟨#[]⟩] 39) = w1 at *
  go_wp2_with fail
  refine (l01New_any A c cs w1 H.out).mono ?_
  rintro e w2 ⟨g, rfl, hg, hcur, hb⟩
  have HC := Lib.hid hcur
  have HB := Lib.hid hb
  have HR2 := Lib.hid (HR0.out.below hb)
  clear hcur hb
  go_wp2_with fail
  refine (l02Any_any g A c cs w2 HC.out).mono ?_
  rintro e w3 ⟨s, hs, rfl, hd3⟩
  have HR3 := Lib.hid (HR2.out.drew hd3 (by omega))
  have HD3 := Lib.hid hd3
  clear hd3
  go_wp2_with fail
  refine (l16Bridge_any g A c cs s w3 HD3.out.cur hs).mono ?_
  rintro e w4 ⟨fr, to, st, hst, rfl, hd4⟩
  have HR4 := Lib.hid (HR3.out.drew hd4 (by omega))
  have HBB := Lib.hid (below_thru HB0.out ((HD3.out.trans hd4).below HB.out hg HB.out.size))
  obtain ⟨r0, r1, r2, rfz⟩ := HR4.out
  have f0 := rfz 0
  have f1 := rfz 1
  have f2 := rfz 2
  clear rfz hd4
  go_wp2_with fail
  refine bodyPost_ret (v := .tuple #[.string s, .agg #[.int .i64 fr, .int .i64 to, .string st]]) (by simp [results, Try.results19, go_sem, r0, r1, r2]) rfl ?_
  have hbb := HBB.out
  exact ⟨s, fr, to, st, hs, hst, rfl, (by repeat' (first | exact Below.refl _ _ | assumption | (refine Below.drew ?_) | (refine below_drewN ?_ _) | (refine below_thru ?_ (by assumption)) | (refine below_alloc ?_ _) | (refine Below.setCell ?_ (by first | omega | (simp; done) | (simp; omega)) _) | (refine Below.alloc ?_ (by first | omega | (simp; done) | (simp; omega)) _)))⟩

end Go.Proofs.Ytpeopfkechbelaa
