
/-
  Contracts of the draws of three strips of one frame and of two cards of one frame; no condition.
-/
import Derived.Test.YtpeopfkechbelaaDrawC
import Derived.Test.YtpeopfkechbelaaLatC
namespace Go.Proofs.Ytpeopfkechbelaa
open Go.ChangeShapes Go.WideShapes Go.ChangeAt Go.RowKit Go.Deep Go.BigFrame
set_option linter.unusedVariables false
set_option linter.unusedSimpArgs false

/-- what DrawThree returns -/
def NewThree (w : World) (e : Ending) (w' : World) : Prop := ∃ (d f : Nat) (r s t : ByteArray), (1 ≤ d ∧ d ≤ 5) ∧ (1 ≤ f ∧ f ≤ 5) ∧ StripOf d f r.data.toList ∧ StripOf d f s.data.toList ∧ StripOf d f t.data.toList ∧ e = .returned (.tuple #[.string r, .string s, .string t]) ∧ Below w.heap.size w w'
theorem DrawThree_any (A : Option Addr) (c : Nat) (cs : List UInt8) (w : World) (h : BRow w w.heap.size A cs) :
    Calls Try.prog 8 #[.slice A cs.length c] w (NewThree w) := by
  go_enter Try.func8, Try.ntmps8
  go_wp2_with fail
  refine (l01New_any A c cs w h).mono ?_
  rintro e w2 ⟨g, rfl, hg, hcur, hb⟩
  have HC := Lib.hid hcur
  have HB := Lib.hid hb
  clear hcur hb h
  go_wp2_with fail
  refine (l02Strip_any g A c cs w2 HC.out).mono ?_
  rintro e w3 ⟨d, f, l, hd, hf, hl, rfl, hdr⟩
  have HD3 := Lib.hid hdr
  have hst := hl.strip (by omega) (by omega)
  have hlz := hl.size
  have HDN := Lib.hid (fun w => specDownOf_any (bs l) w (by rw [hlz]; omega))
  have HFW := Lib.hid (fun w => specForwardOf_any (bs l) w (by rw [hlz]; omega))
  rw [bs_list, downOf_yes hst, hl.1] at HDN
  rw [bs_list, forwardOf_yes hst, hl.2.1] at HFW
  have HDR := Lib.hid (fun w h => l02Draw_any g A c cs d f w h (by omega) (by omega))
  have HL := Lib.hid hl
  clear hdr hst hl HC hlz
  go_wp2_with fail
  refine (HDN.out _).mono ?_
  rintro e w4 ⟨rfl, rfl⟩
  go_wp2_with fail
  refine (HFW.out _).mono ?_
  rintro e w4 ⟨rfl, rfl⟩
  go_wp2_with fail
  refine (HDR.out _ HD3.out.cur).mono ?_
  rintro e w5 ⟨l2, hl2, rfl, hdr⟩
  have HD5 := Lib.hid (HD3.out.trans hdr)
  have HL2 := Lib.hid hl2
  clear hdr hl2
  go_wp2_with fail
  refine (HDN.out _).mono ?_
  rintro e w6 ⟨rfl, rfl⟩
  go_wp2_with fail
  refine (HFW.out _).mono ?_
  rintro e w6 ⟨rfl, rfl⟩
  go_wp2_with fail
  refine (HDR.out _ HD5.out.cur).mono ?_
  rintro e w7 ⟨l3, hl3, rfl, hdr⟩
  have HBB := Lib.hid ((HD5.out.trans hdr).below HB.out hg HB.out.size)
  have HL3 := Lib.hid hl3
  clear hdr hl3
  go_wp2_with fail
  go_ret3
  exact ⟨d, f, bs l, bs l2, bs l3, hd, hf, by rw [bs_list]; exact HL.out, by rw [bs_list]; exact HL2.out, by rw [bs_list]; exact HL3.out, rfl, HBB.out⟩

theorem srow_news {w : World} {B : Nat} {b off : Nat} {ss : List ByteArray} (h : SRow w B (some ⟨b, off, none⟩) ss) : ∀ j u, (ss.map Value.string)[j]? = some u → w.cell? ((⟨b, off, none⟩ : Addr).add j) = some u := by
  intro j u hu
  have hj : j < ss.length := by
    refine Classical.byContradiction fun hn => ?_
    rw [List.getElem?_eq_none (by simp; omega)] at hu
    exact absurd hu (by simp)
  obtain ⟨b', off', e, _, hc⟩ := h.2.2 (by omega)
  have e2 : b = b' ∧ off = off' := by simpa using e
  obtain ⟨rfl, rfl⟩ := e2
  have := (hc j (by omega)).trans hu
  have e3 : (⟨b, off, none⟩ : Addr).add j = ⟨b, off + j, none⟩ := by
    by_cases h0 : j = 0
    · subst h0; rfl
    · simp [Addr.add, h0]
  rw [e3]
  exact this

set_option maxHeartbeats 2000000 in
set_option maxRecDepth 8000 in
theorem l05Copy_any (d f : Int) (A : Option Addr) (c : Nat) (ss : List ByteArray) (w : World) (hx : SRow w w.heap.size A ss) (h1 : 1 ≤ ss.length) (h2 : ss.length ≤ 100) :
    Calls Try.prog 58 #[.agg #[.int .i64 d, .int .i64 f, .slice A ss.length c]] w fun e w' => ∃ A' c', e = .returned (.agg #[.int .i64 d, .int .i64 f, .slice A' ss.length c']) ∧ w'.ownsRow w.heap.size 9 1 (.slice A' ss.length c') ss.length (ss.map Value.string) ∧ Below w.heap.size w w' := by
  obtain ⟨i0, hi0, hz0, hz1, hz2⟩ := info_parts strInfo9
  obtain ⟨b, off, rfl, hb, _⟩ := hx.at_ (k := 0) h1
  have HA0 := Lib.hid (show CAt ((w.alloc (.cells #[.int .i64 d, .int .i64 f, .slice (some ⟨b, off, none⟩) ss.length c] 30)).alloc (.cells #[.int .i64 0, .int .i64 0, .slice none 0 0] 30)) w.heap.size w.heap.size d f (some ⟨b, off, none⟩) c ss.length ss from
    ⟨by go_simp, by go_simp, by go_simp, Row.alloc (Row.alloc hx (Nat.le_refl _) _) (by simp) _, rfl, by simp; omega⟩)
  have HR0 := Lib.hid (show OutAt ((w.alloc (.cells #[.int .i64 d, .int .i64 f, .slice (some ⟨b, off, none⟩) ss.length c] 30)).alloc (.cells #[.int .i64 0, .int .i64 0, .slice none 0 0] 30)) (w.heap.size + 1) (w.heap.size + 2) 0 0 (.slice none 0 0) [] from
    ⟨by go_simp, by go_simp, by go_simp, fun j => by go_simp, World.ownsRow_nil _ _ _ _, Nat.lt_succ_self _⟩)
  have HL0 := Lib.hid (below_alloc (below_alloc (Below.refl w.heap.size w) (.cells #[.int .i64 d, .int .i64 f, .slice (some ⟨b, off, none⟩) ss.length c] 30)) (.cells #[.int .i64 0, .int .i64 0, .slice none 0 0] 30))
  have hsz : ((w.alloc (.cells #[.int .i64 d, .int .i64 f, .slice (some ⟨b, off, none⟩) ss.length c] 30)).alloc (.cells #[.int .i64 0, .int .i64 0, .slice none 0 0] 30)).heap.size = w.heap.size + 2 := by simp
  clear hx
  go_enter Try.func58, Try.ntmps58
  go_upto_region 1 with (fail)
  generalize (w.alloc (.cells #[.int .i64 d, .int .i64 f, .slice (some ⟨b, off, none⟩) ss.length c] 30)).alloc (.cells #[.int .i64 0, .int .i64 0, .slice none 0 0] 30) = w1 at *
  have bd : Below w1.heap.size w1 (w1.alloc (.cells #[] 9)).drew := (below_alloc (Below.refl _ _) (.cells #[] 9)).drew
  have HAD := Lib.hid (HA0.out.on bd)
  have HRD := Lib.hid (HR0.out.on bd)
  have HLD := Lib.hid (below_thru HL0.out bd)
  have HOD := Lib.hid (show (w1.alloc (.cells #[] 9)).drew.ownsRow (w.heap.size + 2) 9 1 (.slice (some ⟨w1.heap.size, 0, none⟩) 0 0) 0 [] from own_on (World.ownsRow_made w1 #[] 0 (by omega) (Nat.zero_le _) (by simp)) ((Below.refl _ _).drew))
  have hz : w.heap.size + 2 ≤ (w1.alloc (.cells #[] 9)).drew.heap.size := by simp; omega
  have HNW := Lib.hid (srow_news HAD.out.row)
  obtain ⟨p0, p1, p2, _, _, _⟩ := HA0.out
  have HW1 := Lib.hid hsz
  have s0 := HAD.out.c0
  have s1 := HAD.out.c1
  have s2 := HAD.out.c2
  have hlt0 : w.heap.size < w1.heap.size := HA0.out.lt
  clear bd HL0 hsz
  go_region_law (refine step_append_lies _ rfl _ _ 28 rfl (w.heap.size + 2) 9 i0 (.string .empty) 1 16 Try.underlying28 hi0 hz0 hz1 hz2 rfl (by decide) (.slice (some ⟨w1.heap.size, 0, none⟩) 0 0) 0 [] rfl HOD.out ⟨b, off, none⟩ ss.length c (ss.map Value.string) rfl (by simp) HNW.out (by intro u hu; obtain ⟨s, _, rfl⟩ := List.mem_map.1 hu; rfl) (by omega) (by unfold maxLen; omega) (by omega) hz _ rfl ?_; intro g3 c3 w3 hown3 hgr3 hat3 hlt3; have HR3 := Lib.hid (HRD.out.grown hgr3 (fun g e => by have := HW1.out; simp [Value.ownBlock] at e; omega) (.inl rfl)); have HL3 := Lib.hid (HLD.out.grown hgr3 (by omega) (fun g e => by have := HW1.out; simp [Value.ownBlock] at e; omega)); have HO3 := Lib.hid hown3; have HA3 := HAD.out.grownR hgr3 (fun g e => by have := HW1.out; simp [Value.ownBlock] at e; omega); have k0 := HA3.c0; have k1 := HA3.c1; have k2 := HA3.c2; clear HA3; have r0 := HR3.out.c0; have r1 := HR3.out.c1; have r2 := HR3.out.c2; have f0 := HR3.out.fz 0; have f1 := HR3.out.fz 1; have f2 := HR3.out.fz 2; clear hown3 hgr3 hat3 hlt3)
  all_goals
    go_wp2_with fail
    refine bodyPost_ret (v := .agg #[.int .i64 d, .int .i64 f, .slice (some ⟨g3, 0, none⟩) ss.length c3]) (by simp [results, Try.results58, go_sem, r0, r1, r2]) rfl ?_
    have hbz := HL3.out
    have ho := HO3.out
    rw [Nat.zero_add, List.nil_append] at ho
    refine ⟨some ⟨g3, 0, none⟩, c3, rfl, ?_, (by repeat' (first | exact Below.refl _ _ | assumption | (refine Below.drew ?_) | (refine below_drewN ?_ _) | (refine below_thru ?_ (by assumption)) | (refine below_alloc ?_ _) | (refine Below.setCell ?_ (by first | omega | (simp; done) | (simp; omega)) _) | (refine Below.alloc ?_ (by first | omega | (simp; done) | (simp; omega)) _)))⟩
    refine own_mono (ownsRow_setCell_below (ownsRow_setCell_below (ownsRow_setCell_below ho ?_ _) ?_ _) ?_ _) ?_
    all_goals first | omega | (simp; done) | (simp; omega)

/-- a card in block o, its strips of the call's own from base on -/
structure OwnC (wr : World) (o base : Nat) (d f : Int) (A : Option Addr) (c n : Nat) (ss : List ByteArray) : Prop where
  c0 : wr.cell? ⟨o, 0, none⟩ = some (.int .i64 d)
  c1 : wr.cell? ⟨o, 1, none⟩ = some (.int .i64 f)
  c2 : wr.cell? ⟨o, 2, none⟩ = some (.slice A n c)
  own : wr.ownsRow base 9 1 (.slice A n c) n (ss.map Value.string)
  len : ss.length = n
section
variable {wr w' : World} {o base c n : Nat} {d f : Int} {A : Option Addr} {ss : List ByteArray}
theorem OwnC.lt (h : OwnC wr o base d f A c n ss) : o < wr.heap.size := World.block_lt_of_cell? wr _ h.c0
theorem OwnC.on (h : OwnC wr o base d f A c n ss) (hb : Below wr.heap.size wr w') : OwnC w' o base d f A c n ss := by
  have hk := hb.block o h.lt
  exact ⟨(World.cell?_of_block hk).trans h.c0, (World.cell?_of_block hk).trans h.c1, (World.cell?_of_block hk).trans h.c2, own_on h.own hb, h.len⟩
theorem OwnC.drew {g c2 : Nat} {A2 : Option Addr} {cs : List UInt8} (h : OwnC wr o base d f A c n ss) (hd : Drew wr w' g A2 c2 cs) (hg : g < base) (hne : g ≠ o) : OwnC w' o base d f A c n ss := by
  have hk := hd.by_.block o h.lt (by simp; omega)
  refine ⟨(World.cell?_of_block hk).trans h.c0, (World.cell?_of_block hk).trans h.c1, (World.cell?_of_block hk).trans h.c2, h.own.kept hd.by_ ?_, h.len⟩
  right
  intro e
  have := (h.own.lt g e).1
  omega
theorem OwnC.far (h : OwnC wr o base d f A c n ss) {p : Addr} (hp : p.block ≠ o) (hA : (Value.slice A n c).ownBlock ≠ some p.block) (v : Value) : OwnC (wr.setCell p v) o base d f A c n ss := by
  have hk := heap_setCell_other wr p o v (fun e => hp e.symm)
  exact ⟨(World.cell?_of_block hk).trans h.c0, (World.cell?_of_block hk).trans h.c1, (World.cell?_of_block hk).trans h.c2, ownsRow_setCell_other h.own hA v, h.len⟩
theorem OwnC.put {g : Nat} (h : OwnC wr o base d f (some ⟨g, 0, none⟩) c n ss) (hgo : g ≠ o) (k : Nat) (u : ByteArray) : OwnC (wr.setCell ⟨g, k, none⟩ (.string u)) o base d f (some ⟨g, 0, none⟩) c n (ss.set k u) := by
  have hk := heap_setCell_other wr ⟨g, k, none⟩ o (.string u) (fun e => hgo e.symm)
  refine ⟨(World.cell?_of_block hk).trans h.c0, (World.cell?_of_block hk).trans h.c1, (World.cell?_of_block hk).trans h.c2, ?_, by rw [List.length_set]; exact h.len⟩
  have := (h.own.stored k (.string u)).1
  rw [List.map_set]
  exact this
end

/-- what DrawCards returns -/
def NewCards (w : World) (e : Ending) (w' : World) : Prop := ∃ (d f n : Nat) (ss tt : List ByteArray) (A1 A2 : Option Addr) (c1 c2 : Nat), (1 ≤ d ∧ d ≤ 4) ∧ (1 ≤ f ∧ f ≤ 4) ∧ (1 ≤ n ∧ n ≤ 6) ∧ ss.length = n ∧ tt.length = n ∧ (∀ s ∈ ss, StripOf d f s.data.toList) ∧ (∀ s ∈ tt, StripOf d f s.data.toList) ∧
  e = .returned (.tuple #[.agg #[.int .i64 d, .int .i64 f, .slice A1 n c1], .agg #[.int .i64 d, .int .i64 f, .slice A2 n c2]]) ∧ SRow w' w'.heap.size A1 ss ∧ SRow w' w'.heap.size A2 tt ∧ Below w.heap.size w w'

set_option maxHeartbeats 2000000 in
set_option maxRecDepth 8000 in
theorem DrawCards_any (A : Option Addr) (c : Nat) (cs : List UInt8) (w : World) (h : BRow w w.heap.size A cs) :
    Calls Try.prog 12 #[.slice A cs.length c] w (NewCards w) := by
  have H := Lib.hid (show BRow ((w.alloc (.cells #[.int .i64 0, .int .i64 0, .slice none 0 0] 30)).alloc (.cells #[.int .i64 0, .int .i64 0, .slice none 0 0] 30)) ((w.alloc (.cells #[.int .i64 0, .int .i64 0, .slice none 0 0] 30)).alloc (.cells #[.int .i64 0, .int .i64 0, .slice none 0 0] 30)).heap.size A cs from Row.more (Row.alloc (Row.alloc h (Nat.le_refl _) _) (by simp) _) (by simp; omega))
  have HR0 := Lib.hid (show OutAt ((w.alloc (.cells #[.int .i64 0, .int .i64 0, .slice none 0 0] 30)).alloc (.cells #[.int .i64 0, .int .i64 0, .slice none 0 0] 30)) w.heap.size (w.heap.size + 1) 0 0 (.slice none 0 0) [] from ⟨by go_simp, by go_simp, by go_simp, fun j => by go_simp, World.ownsRow_nil _ _ _ _, Nat.lt_succ_self _⟩)
  have HS0 := Lib.hid (show OutAt ((w.alloc (.cells #[.int .i64 0, .int .i64 0, .slice none 0 0] 30)).alloc (.cells #[.int .i64 0, .int .i64 0, .slice none 0 0] 30)) (w.heap.size + 1) (w.heap.size + 2) 0 0 (.slice none 0 0) [] from ⟨by go_simp, by go_simp, by go_simp, fun j => by go_simp, World.ownsRow_nil _ _ _ _, Nat.lt_succ_self _⟩)
  have HB0 := Lib.hid (below_alloc (below_alloc (Below.refl w.heap.size w) (.cells #[.int .i64 0, .int .i64 0, .slice none 0 0] 30)) (.cells #[.int .i64 0, .int .i64 0, .slice none 0 0] 30))
  have hs1 : w.heap.size + 2 ≤ ((w.alloc (.cells #[.int .i64 0, .int .i64 0, .slice none 0 0] 30)).alloc (.cells #[.int .i64 0, .int .i64 0, .slice none 0 0] 30)).heap.size := by simp
  clear h
  go_enter Try.func12, Try.ntmps12
  go_upto_region 1 with (fail)
  generalize (w.alloc (.cells #[.int .i64 0, .int .i64 0, .slice none 0 0] 30)).alloc (.cells #[.int .i64 0, .int .i64 0, .slice none 0 0] 30) = w1 at *
  go_wp2_with fail
  refine (l01New_any A c cs w1 H.out).mono ?_
  rintro e w2 ⟨g, rfl, hg, hcur, hb⟩
  have HC := Lib.hid hcur
  have HL2 := Lib.hid (below_thru HB0.out hb)
  have HR2 := Lib.hid (HR0.out.on hb)
  have HS2 := Lib.hid (HS0.out.on hb)
  have hs2 : w1.heap.size ≤ w2.heap.size := hb.size
  have hg2 : g < w2.heap.size := hcur.lt
  have hgR : g ≠ w.heap.size ∧ g ≠ w.heap.size + 1 := by omega
  clear hcur hb HR0 HS0 HB0 H
  go_wp2_with fail
  refine (l05Card_any g A c cs w2 HC.out).mono ?_
  rintro e w3 ⟨d, f, ss, A1, c1, hd, hf, hl, hss, rfl, ho, hdr⟩
  have HO3 := Lib.hid ho
  have HSS := Lib.hid hss
  have HD3 := Lib.hid hdr
  have hs3 : w2.heap.size ≤ w3.heap.size := hdr.by_.size
  have HR3 := Lib.hid (HR2.out.grown hdr.by_ (fun g' e => by simp at e; omega) (.inl rfl))
  have HS3 := Lib.hid (HS2.out.grown hdr.by_ (fun g' e => by simp at e; omega) (.inl rfl))
  clear ho hss hdr HC HR2 HS2
  go_upto_region 3 with (fail)
  obtain ⟨n, hn⟩ : ∃ n, n = ss.length := ⟨_, rfl⟩
  have HX4 := Lib.hid (show OwnC (w3.alloc (.cells #[.int .i64 d, .int .i64 f, .slice A1 ss.length c1] 30)) w3.heap.size w2.heap.size d f A1 c1 ss.length ss from
    ⟨by go_simp, by go_simp, by go_simp, own_on HO3.out (below_alloc (Below.refl _ _) _), rfl⟩)
  have HXL := Lib.hid (fun r hr => (HO3.out.lt r hr).2)
  have HR4 := Lib.hid (HR3.out.on (below_alloc (Below.refl _ _) (.cells #[.int .i64 d, .int .i64 f, .slice A1 ss.length c1] 30)))
  have HS4 := Lib.hid (HS3.out.on (below_alloc (Below.refl _ _) (.cells #[.int .i64 d, .int .i64 f, .slice A1 ss.length c1] 30)))
  have HD4 := Lib.hid (HD3.out.more (World.grownBy_alloc w3 (.cells #[.int .i64 d, .int .i64 f, .slice A1 ss.length c1] 30) none) (fun r e => by simp at e))
  have hs4 : w3.heap.size < (w3.alloc (.cells #[.int .i64 d, .int .i64 f, .slice A1 ss.length c1] 30)).heap.size := by simp
  generalize w3.alloc (.cells #[.int .i64 d, .int .i64 f, .slice A1 ss.length c1] 30) = w4 at *
  generalize w3.heap.size = o5 at *
  clear HO3 HD3 HR3 HS3
  obtain ⟨x0, x1, x2, _, _⟩ := HX4.out
  go_wp2_with fail
  refine (l05Copy_any d f A1 c1 ss w4 (SRow.of_own HX4.out.own) hl.1 (by omega)).mono ?_
  rintro e w5 ⟨A2, c2, rfl, ho5, hb5⟩
  have HX5 := Lib.hid (HX4.out.on hb5)
  have HR5 := Lib.hid (HR4.out.on hb5)
  have HS5 := Lib.hid (HS4.out.on hb5)
  have HD5 := Lib.hid (HD4.out.trans (Drew.ofBelow HD4.out.cur hb5))
  have HO5 := Lib.hid ho5
  have hs5 : w4.heap.size ≤ w5.heap.size := hb5.size
  clear ho5 hb5 x0 x1 x2 HX4 HR4 HS4 HD4
  go_upto_region 4 with (fail)
  obtain ⟨gy, cy, hform, hgy1, hgy2⟩ := HO5.out.form (by omega)
  have hA2 : A2 = some ⟨gy, 0, none⟩ ∧ c2 = cy := by simpa using hform
  obtain ⟨rfl, rfl⟩ := hA2
  have HY6 := Lib.hid (show OwnC (w5.alloc (.cells #[.int .i64 d, .int .i64 f, .slice (some ⟨gy, 0, none⟩) ss.length c2] 30)) w5.heap.size w4.heap.size d f (some ⟨gy, 0, none⟩) c2 ss.length ss from
    ⟨by go_simp, by go_simp, by go_simp, own_on HO5.out (below_alloc (Below.refl _ _) _), rfl⟩)
  have HX6 := Lib.hid (HX5.out.on (below_alloc (Below.refl _ _) (.cells #[.int .i64 d, .int .i64 f, .slice (some ⟨gy, 0, none⟩) ss.length c2] 30)))
  have HR6 := Lib.hid (HR5.out.on (below_alloc (Below.refl _ _) (.cells #[.int .i64 d, .int .i64 f, .slice (some ⟨gy, 0, none⟩) ss.length c2] 30)))
  have HS6 := Lib.hid (HS5.out.on (below_alloc (Below.refl _ _) (.cells #[.int .i64 d, .int .i64 f, .slice (some ⟨gy, 0, none⟩) ss.length c2] 30)))
  have HD6 := Lib.hid (HD5.out.more (World.grownBy_alloc w5 (.cells #[.int .i64 d, .int .i64 f, .slice (some ⟨gy, 0, none⟩) ss.length c2] 30) none) (fun r e => by simp at e))
  generalize w5.alloc (.cells #[.int .i64 d, .int .i64 f, .slice (some ⟨gy, 0, none⟩) ss.length c2] 30) = w6 at *
  have hgyl : gy < w5.heap.size := (HO5.out.lt gy rfl).2
  generalize w5.heap.size = o6 at *
  have hA1 : (Value.slice A1 ss.length c1).ownBlock ≠ some gy := fun e => by have := HXL.out gy e; omega
  rw [← hn] at hl hA1 HX6 HY6
  rw [← hn]
  have HNN := Lib.hid hn
  have HDR := Lib.hid (fun w h => l02Draw_any g A c cs d f w h (by omega) (by omega))
  have HON := Lib.hid (fun w h => l01Once_any g A c cs 2 w h (by decide) (by decide))
  clear hform HX5 HR5 HS5 HD5 HO5 HXL hn
  go_wp2_with fail
  go_loopw [7] (fun kv wr => ∃ (k : Nat) (tt : List ByteArray), k ≤ n ∧ kv = .int .i64 k ∧ (∀ s ∈ tt, StripOf d f s.data.toList) ∧ OwnC wr o5 w2.heap.size d f A1 c1 n ss ∧ OwnC wr o6 w4.heap.size d f (some ⟨gy, 0, none⟩) c2 n tt ∧ OutAt wr w.heap.size (w.heap.size + 1) 0 0 (.slice none 0 0) [] ∧ OutAt wr (w.heap.size + 1) (w.heap.size + 2) 0 0 (.slice none 0 0) [] ∧ Drew w2 wr g A c cs) (fun kv _ => n - (intOf kv).toNat)
  case atStart => exact ⟨0, ss, Nat.zero_le _, rfl, HSS.out, HX6.out, HY6.out, HR6.out, HS6.out, HD6.out⟩
  case round =>
    obtain ⟨k, tt, hk, rfl, hst, hx, hy, hr, hs, hd⟩ := hrel
    obtain ⟨wo, hwo⟩ : ∃ wo, wo = wr := ⟨_, rfl⟩
    subst hwo
    have HST := Lib.hid hst
    have HX := Lib.hid hx
    have HY := Lib.hid hy
    have HR := Lib.hid hr
    have HS := Lib.hid hs
    have HD := Lib.hid hd
    clear hst hx hy hr hs hd HX6 HY6 HR6 HS6 HD6
    obtain ⟨y0, y1, y2, _, _⟩ := HY.out
    by_cases hlt : k < n
    · have hi : (k : Int) < (n : Int) := by omega
      go_wp2_with fail
      refine (HON.out _ HD.out.cur).mono ?_
      rintro e w7 ⟨q, rfl, hd7⟩
      have HX7 := Lib.hid (HX.out.drew hd7 (by omega) (by omega))
      have HY7 := Lib.hid (HY.out.drew hd7 (by omega) (by omega))
      have HR7 := Lib.hid (HR.out.grown hd7.by_ (fun g' e => by simp at e; omega) (.inl rfl))
      have HS7 := Lib.hid (HS.out.grown hd7.by_ (fun g' e => by simp at e; omega) (.inl rfl))
      have HD7 := Lib.hid (HD.out.trans hd7)
      clear hd7 HX HY HR HS HD y0 y1 y2
      cases q
      · go_wp2_with fail
        go_roundw
        case rel => exact ⟨k + 1, tt, by omega, by go_num, HST.out, HX7.out, HY7.out, HR7.out, HS7.out, HD7.out⟩
        case measure => simp [intOf]; omega
      · have bd : Below w7.heap.size w7 w7.drew := (Below.refl _ _).drew
        have HXD := Lib.hid (HX7.out.on bd)
        have HYD := Lib.hid (HY7.out.on bd)
        have HRD := Lib.hid (HR7.out.on bd)
        have HSD := Lib.hid (HS7.out.on bd)
        have HDD := Lib.hid (HD7.out.trans (Drew.ofBelow HD7.out.cur bd))
        obtain ⟨y0, y1, y2, _, _⟩ := HY7.out
        clear bd HX7 HR7 HS7 HD7
        go_wp2_with fail
        go_region_law (go_simp; go_at_call 51; with_reducible refine (HDR.out _ HDD.out.cur).mono ?_; rintro e w8 ⟨l, hl8, rfl, hd8⟩; have HX8 := Lib.hid (HXD.out.drew hd8 (by omega) (by omega)); have HY8 := Lib.hid (HYD.out.drew hd8 (by omega) (by omega)); have HR8 := Lib.hid (HRD.out.grown hd8.by_ (fun g' e => by simp at e; omega) (.inl rfl)); have HS8 := Lib.hid (HSD.out.grown hd8.by_ (fun g' e => by simp at e; omega) (.inl rfl)); have HD8 := Lib.hid (HDD.out.trans hd8); have HL8 := Lib.hid hl8; have k2 := HY8.out.c2; have kc := HY8.out.own.cellAt k (by omega); have kf := HY8.out.own.frozenAt k; have hkl : k < (tt.map Value.string).length := (by rw [List.length_map, HY8.out.len]; exact hlt); rw [List.getElem?_eq_getElem hkl] at kc; generalize (tt.map Value.string)[k] = old at kc; clear hl8 hd8 hkl)
        all_goals
          have HX9 := Lib.hid (HX8.out.far (p := ⟨gy, k, none⟩) (show gy ≠ o5 by omega) hA1 (.string (bs l)))
          have HY9 := Lib.hid (HY8.out.put (show gy ≠ o6 by omega) k (bs l))
          have hgr9 : w8.grownBy (w8.setCell ⟨gy, k, none⟩ (.string (bs l))) (some gy) := ⟨rfl, rfl, rfl, by simp, fun j hj hne => heap_setCell_other w8 _ j _ (fun e => hne (by simp [e]))⟩
          have HR9 := Lib.hid (HR8.out.grown hgr9 (fun g' e => by simp at e; omega) (.inl rfl))
          have HS9 := Lib.hid (HS8.out.grown hgr9 (fun g' e => by simp at e; omega) (.inl rfl))
          have HD9 := Lib.hid (HD8.out.store (p := ⟨gy, k, none⟩) ⟨show w2.heap.size ≤ gy by omega, show g < gy by omega⟩ (.string (bs l)))
          have hst9 : ∀ s ∈ tt.set k (bs l), StripOf d f s.data.toList := fun s hs => by
            rcases List.mem_or_eq_of_mem_set hs with h | h
            · exact HST.out s h
            · rw [h, bs_list]; exact HL8.out
          have HST9 := Lib.hid hst9
          clear hgr9 hst9 k2 kc kf y0 y1 y2 HX8 HY8 HR8 HS8 HD8 HXD HYD HRD HSD HDD
          generalize w8.setCell ⟨gy, k, none⟩ (.string (bs l)) = w9 at *
          go_wp2_with fail
          go_roundw
          case rel => exact ⟨k + 1, tt.set k (bs l), by omega, by go_num, HST9.out, HX9.out, HY9.out, HR9.out, HS9.out, HD9.out⟩
          case measure => simp [intOf]; omega
    · obtain rfl : k = n := by omega
      have HXD := Lib.hid HX.out.own
      have HYD := Lib.hid HY.out.own
      have HBD := Lib.hid (HD.out.below HL2.out (by omega) HL2.out.size)
      have hxl := HX.out.len
      have hyl := HY.out.len
      obtain ⟨x0, x1, x2, _, _⟩ := HX.out
      obtain ⟨r0, r1, r2, rfz, _, _⟩ := HR.out
      obtain ⟨s0, s1, s2, sfz, _, _⟩ := HS.out
      have f0 := rfz 0
      have f1 := rfz 1
      have f2 := rfz 2
      have g0 := sfz 0
      have g1 := sfz 1
      have g2 := sfz 2
      have HXL := Lib.hid hxl
      have HYL := Lib.hid hyl
      have hsw : w.heap.size + 2 ≤ w2.heap.size := by omega
      clear rfz sfz hxl hyl HX HY HR HS HDR HON
      go_wp2_with fail
      go_region
      all_goals
        go_wp2_with fail
        refine bodyPost_ret (v := .tuple #[.agg #[.int .i64 d, .int .i64 f, .slice A1 k c1], .agg #[.int .i64 d, .int .i64 f, .slice (some ⟨gy, 0, none⟩) k c2]]) (by simp [results, Try.results12, go_sem, r0, r1, r2, s0, s1, s2]) rfl ?_
        have ho1 := HXD.out
        have ho2 := HYD.out
        have hbz := HBD.out
        refine ⟨d, f, k, ss, tt, A1, _, c1, c2, hd, hf, hl, HXL.out, HYL.out, HSS.out, HST.out, rfl, ?_, ?_, ?_⟩
        · refine SRow.of_own (base := w2.heap.size) (c := c1) (e := 9) ?_
          rw [HXL.out]
          refine own_on ?_ ((Below.refl _ _).drew)
          iterate 6 (refine ownsRow_setCell_below ?_ (by first | (simp; done) | (simp; omega) | omega) _)
          exact ho1
        · refine SRow.of_own (base := w4.heap.size) (c := c2) (e := 9) ?_
          rw [HYL.out]
          refine own_on ?_ ((Below.refl _ _).drew)
          iterate 6 (refine ownsRow_setCell_below ?_ (by first | (simp; done) | (simp; omega) | omega) _)
          exact ho2
        · refine Below.drew ?_
          iterate 6 (refine Below.setCell ?_ (by first | (simp; done) | (simp; omega) | omega) _)
          exact hbz

end Go.Proofs.Ytpeopfkechbelaa
