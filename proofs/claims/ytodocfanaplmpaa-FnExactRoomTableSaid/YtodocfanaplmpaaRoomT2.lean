
/-
  The walk of the reference's RoomTable; no condition.
-/
import Derived.Test.YtodocfanaplmpaaRoomT
import Derived.Deep.Cut
namespace Go.Proofs.Ytodocfanaplmpaa
open Go.ChangeShapes Go.WideShapes Go.ChangeAt Go.RowKit Go.Deep
set_option linter.unusedVariables false
set_option linter.unusedSimpArgs false

/-- the table, or what there is of it: a row of rows of the call's own -/
def Tab (w : World) (base : Nat) (v : Value) (n : Nat) (xss : List (List Int)) : Prop := ∃ vs, w.ownsRow base 22 1 v n vs ∧ Kids w base v.ownBlock vs xss
theorem Tab.on {w w' : World} {base n : Nat} {v : Value} {xss : List (List Int)} (h : Tab w base v n xss) (hb : Below w.heap.size w w') : Tab w' base v n xss := by
  obtain ⟨vs, h1, h2⟩ := h
  exact ⟨vs, own_on h1 hb, h2.on hb⟩
theorem Tab.mono {w : World} {base base' n : Nat} {v : Value} {xss : List (List Int)} (h : Tab w base v n xss) (hb : base' ≤ base) : Tab w base' v n xss := by
  obtain ⟨vs, h1, h2⟩ := h
  exact ⟨vs, own_mono h1 hb, h2.mono hb⟩
/-- a row that is read -/
theorem Tab.at_ {w : World} {base n : Nat} {v : Value} {xss : List (List Int)} (h : Tab w base v n xss) (hn : xss.length = n) {k j : Nat} (hk : k < n) (hj : j < (xss.getD k []).length) :
    ∃ g c b2 o2 c2, v = .slice (some ⟨g, 0, none⟩) n c ∧ g < w.heap.size ∧ w.cell? ⟨g, k, none⟩ = some (.slice (some ⟨b2, o2, none⟩) (xss.getD k []).length c2) ∧ b2 < w.heap.size ∧ w.cell? ⟨b2, o2 + j, none⟩ = some (.int .i64 ((xss.getD k []).getD j 0)) := by
  obtain ⟨vs, h1, h2⟩ := h
  rcases h1.2 with ⟨_, h0⟩ | ⟨g, cap, cur, hv, hb, hg, hnc, hcm, hcs, ht⟩
  · omega
  · subst hv
    obtain ⟨A, c, e, r⟩ := h2.row k (by omega)
    obtain ⟨b2, o2, rfl, hb2, hc2⟩ := (IRow.of_own r).at_ (k := j) hj
    have hvl : vs.length = n := by have := h1.1; omega
    refine ⟨g, cap, b2, o2, c, rfl, (h1.lt g rfl).2, ?_, hb2, hc2⟩
    rw [h1.cellAt k (by omega), List.getElem?_eq_getElem (by omega)]
    have : vs.getD k undef = vs[k]'(by omega) := by simp [List.getD, show k < vs.length by omega]
    rw [← this, e]

set_option maxHeartbeats 1000000 in
set_option maxRecDepth 100000 in
theorem specRoomTable_any (d f : Int) (w : World) : Calls Try.prog 7 #[.int .i64 d, .int .i64 f] w (NewInts w (roomTable d f)) := by
  obtain ⟨j0, hj0, jz0, jz1, jz2⟩ := info_parts intInfo
  obtain ⟨i0, hi0, hz0, hz1, hz2⟩ := info_parts rowInfo
  have HF := Lib.hid (fun w => l02Frame_any d f w)
  cases g1 : (inB d 1 8 && inB f 1 8)
  · rw [show roomTable d f = [] from if_neg (by rw [g1]; decide)]
    rw [g1] at HF
    clear g1
    go_enter Try.func7, Try.ntmps7
    go_wp2_with fail
    refine (HF.out _).mono ?_
    rintro e w1 ⟨rfl, rfl⟩
    go_wp2_with fail
    go_ret
    exact ⟨some ⟨w.heap.size, 0, none⟩, 0, rfl, World.ownsRow_made w #[] 0 (Nat.le_refl _) (Nat.zero_le _) (by simp), (by repeat' (first | exact Below.refl _ _ | assumption | (refine Below.drew ?_) | (refine below_drewN ?_ _) | (refine below_thru ?_ (by assumption)) | (refine below_alloc ?_ _) | (refine Below.setCell ?_ (by first | omega | (simp; done) | (simp; omega)) _) | (refine Below.alloc ?_ (by first | omega | (simp; done) | (simp; omega)) _)))⟩
  rw [show roomTable d f = table d.toNat f.toNat from if_pos g1]
  rw [g1] at HF
  simp only [Bool.and_eq_true] at g1
  obtain ⟨a1, a2⟩ := inB_iff.1 g1.1
  obtain ⟨b1, b2⟩ := inB_iff.1 g1.2
  obtain ⟨D, rfl⟩ := Int.eq_ofNat_of_zero_le (show 0 ≤ d by omega)
  obtain ⟨F, rfl⟩ := Int.eq_ofNat_of_zero_le (show 0 ≤ f by omega)
  rw [Int.toNat_natCast, Int.toNat_natCast]
  obtain ⟨e1, e64⟩ := mul_i64 (d := D) (f := F) (by omega) (by omega)
  have hres : table D F = tab (D * F + 1) (fun r => (ways D F r : Int)) := rfl
  have hlen := table_len D F
  obtain ⟨p, hp⟩ : ∃ p, p = D * F := ⟨_, rfl⟩
  rw [← hp] at e1 e64 hres hlen
  have hm1 : (p : Int) + 1 = ((p + 1 : Nat) : Int) := by omega
  obtain ⟨m, hm⟩ : ∃ m, m = p + 1 := ⟨_, rfl⟩
  rw [← hm] at hm1 hres hlen
  have hm65 : m ≤ 65 := by omega
  have hmp : 0 < m := by omega
  have HRES := Lib.hid hres
  have HLEN := Lib.hid hlen
  clear g1 hp hm hres hlen
  go_enter Try.func7, Try.ntmps7
  go_wp2_with fail
  refine (HF.out _).mono ?_
  rintro e w1 ⟨rfl, rfl⟩
  go_wp2_with fail
  go_loopw [5, 6] (fun tv uv wr => ∃ u : Nat, u ≤ D + 1 ∧ uv = .int .i64 u ∧ Tab wr w.heap.size tv u (rowsAt m 0 u) ∧ Below w.heap.size w wr) (fun _ uv _ => D + 1 - (intOf uv).toNat)
  case atStart => exact ⟨0, Nat.zero_le _, rfl, ⟨[], World.ownsRow_made w #[] 0 (Nat.le_refl _) (Nat.zero_le _) (by simp), Kids.nil_ _ _ _⟩, (by repeat' (first | exact Below.refl _ _ | assumption | (refine Below.drew ?_) | (refine below_drewN ?_ _) | (refine below_thru ?_ (by assumption)) | (refine below_alloc ?_ _) | (refine Below.setCell ?_ (by first | omega | (simp; done) | (simp; omega)) _) | (refine Below.alloc ?_ (by first | omega | (simp; done) | (simp; omega)) _)))⟩
  case round =>
    obtain ⟨u, hu, rfl, htab, hbr⟩ := hrel
    have HT := Lib.hid htab
    have HB := Lib.hid hbr
    clear htab hbr
    by_cases hlt : u ≤ D
    · have hui : (u : Int) ≤ (D : Int) := by omega
      have hsz : w.heap.size ≤ wr.heap.size := HB.out.size
      go_wp2_with (at_make; refine wpList_make_full _ rfl (.tmp 27) (.tmp 27) 22 rfl wr.heap.size 3 j0 (.int .i64 0) 1 Try.underlying22 hj0 jz0 jz1 .i64 .i64 _ _ m rfl rfl rfl rfl (by rw [jz2]; omega) (by unfold maxLen; omega) (Nat.le_refl _) ?_)
      intro w2 hown hgr
      have hb2 : Below wr.heap.size wr w2 := (Below.refl _ _).grown hgr (Nat.le_refl _) (by simp)
      rw [made_list'] at hown
      have hown2 : w2.ownsRow wr.heap.size 3 1 (.slice (some ⟨wr.heap.size, 0, none⟩) m m) m ((List.replicate m (0 : Int)).map (Value.int .i64)) := by simpa using hown
      have hc0 := owned_cell hown2 0 hmp
      have hf0 := hown2.frozenAt 0
      have s1 := (hown2.stored 0 (.int .i64 1)).1
      rw [map_set_int', first_row u m hmp] at s1
      have hb3 : Below wr.heap.size wr (w2.setCell ⟨wr.heap.size, 0, none⟩ (.int .i64 1)) := hb2.setCell (Nat.le_refl _) _
      have S1 := Lib.hid s1
      have B3 := Lib.hid hb3
      clear hown hown2 hb2 hgr s1 hb3
      obtain ⟨vs, ho, hk⟩ := HT.out
      have hkb : ∀ i, i < (rowsAt m 0 u).length → ∀ g, (vs.getD i undef).ownBlock = some g → g < wr.heap.size := fun i hi g hg => (hk.lt hi hg).2
      have hob : u5.ownBlock ≠ some wr.heap.size := fun e => by have := (ho.lt _ e).2; omega
      have HK := Lib.hid (hk.on B3.out)
      have HO := Lib.hid (own_on ho B3.out)
      have HKB := Lib.hid hkb
      have HOB := Lib.hid hob
      clear ho hk hkb hob
      have hsq : w.heap.size ≤ (w2.setCell ⟨wr.heap.size, 0, none⟩ (.int .i64 1)).heap.size := Nat.le_trans hsz B3.out.size
      go_upto_region 9 with (fail)
      generalize w2.setCell ⟨wr.heap.size, 0, none⟩ (.int .i64 1) = wq at *
      go_wp2_with (at_builtin; refine wpList_append_lies _ rfl _ _ 57 rfl w.heap.size 22 i0 (.slice none 0 0) 1 24 Try.underlying57 hi0 hz0 hz1 hz2 rfl (by decide) _ _ _ rfl (HO.out.alloc _) ⟨wq.heap.size, 0, none⟩ 1 1 [.slice (some ⟨wr.heap.size, 0, none⟩) m m] rfl rfl (news_one _ _ _) (one_one rfl) (by decide) (by unfold maxLen; omega) (by omega) (by simp; omega) _ rfl ?_; intro g1 c1 w3 hown1 hgr1 hat1 hlt1)
      have hkids := Kids.snoc (ys := tab m (fun r => (ways u 0 r : Int))) (c := m) HK.out (by rw [tab_len]; exact own_mono S1.out hsz) HKB.out HOB.out (grown_trans (World.grownBy_alloc _ _ _) hgr1) hat1 (by simp)
      rw [tab_len, ← rowsAt_succ] at hkids
      have hb4 : Below w.heap.size w w3 := below_app (below_thru HB.out B3.out) HO.out hgr1
      have HT3 := Lib.hid (show Tab w3 w.heap.size (.slice (some ⟨g1, 0, none⟩) (u + 1) c1) (u + 1) (rowsAt m 0 (u + 1)) from ⟨_, hown1, hkids⟩)
      have HB4 := Lib.hid hb4
      clear hown1 hgr1 hat1 hkids hb4
      go_wp2_with fail
      go_roundw
      case rel => exact ⟨u + 1, by omega, by go_num, HT3.out, HB4.out⟩
      case measure => simp [intOf]; omega
    · have hue : u = D + 1 := by omega
      have hui : ¬ (u : Int) ≤ (D : Int) := by omega
      rw [hue] at HT
      clear hue
      go_wp2_with fail
      go_loopw [5, 8] (fun tv fv wr => ∃ k : Nat, k ≤ F ∧ fv = .int .i64 (k + 1 : Nat) ∧ Tab wr w.heap.size tv (D + 1) (rowsAt m k (D + 1)) ∧ Below w.heap.size w wr) (fun _ fv _ => F + 1 - (intOf fv).toNat)
      case atStart => exact ⟨0, Nat.zero_le _, rfl, HT.out, HB.out⟩
      case round =>
        clear hui hlt
        clear HT HB

        obtain ⟨k, hk, rfl, htab, hbr⟩ := hrel
        have HT := Lib.hid htab
        have HB := Lib.hid hbr
        clear htab hbr
        by_cases hlt : k < F
        · have hki : ((k + 1 : Nat) : Int) ≤ (F : Int) := by omega
          obtain ⟨wo, hwo⟩ : ∃ wo, wo = wr := ⟨_, rfl⟩
          subst hwo
          have hszo : w.heap.size ≤ wo.heap.size := HB.out.size
          go_wp2_with fail
          go_loopw [9, 10] (fun nv uv wu => ∃ u : Nat, u ≤ D + 1 ∧ uv = .int .i64 u ∧ Tab wu wo.heap.size nv u (rowsAt m (k + 1) u) ∧ Below wo.heap.size wo wu) (fun _ uv _ => D + 1 - (intOf uv).toNat)
          case atStart => exact ⟨0, Nat.zero_le _, rfl, ⟨[], World.ownsRow_made wo #[] 0 (Nat.le_refl _) (Nat.zero_le _) (by simp), Kids.nil_ _ _ _⟩, (Below.refl _ _).alloc (Nat.le_refl _) _⟩
          case round =>
            obtain ⟨u, hu, rfl, htab, hbr⟩ := hrel
            have HN := Lib.hid htab
            have HBN := Lib.hid hbr
            clear htab hbr
            by_cases hlu : u ≤ D
            · have hui : (u : Int) ≤ (D : Int) := by omega
              have hszu : wo.heap.size ≤ wr.heap.size := HBN.out.size
              go_wp2_with (at_make; refine wpList_make_full _ rfl (.tmp 49) (.tmp 49) 22 rfl wr.heap.size 3 j0 (.int .i64 0) 1 Try.underlying22 hj0 jz0 jz1 .i64 .i64 _ _ m rfl rfl rfl rfl (by rw [jz2]; omega) (by unfold maxLen; omega) (Nat.le_refl _) ?_)
              intro w2 hown hgr
              have hb2 : Below wr.heap.size wr w2 := (Below.refl _ _).grown hgr (Nat.le_refl _) (by simp)
              rw [made_list'] at hown
              have hown2 : w2.ownsRow wr.heap.size 3 1 (.slice (some ⟨wr.heap.size, 0, none⟩) m m) m ((tab m (upto u (k + 1) 0)).map (Value.int .i64)) := by rw [upto_zero]; simpa using hown
              have S0 := Lib.hid hown2
              have B0 := Lib.hid hb2
              clear hown hown2 hb2 hgr
              obtain ⟨wp, hwp⟩ : ∃ wp, wp = wr := ⟨_, rfl⟩
              subst hwp
              go_wp2_with fail
              go_loopw [12] (fun rv wx => ∃ r : Nat, r ≤ m ∧ rv = .int .i64 r ∧ wx.ownsRow wp.heap.size 3 1 (.slice (some ⟨wp.heap.size, 0, none⟩) m m) m ((tab m (upto u (k + 1) r)).map (Value.int .i64)) ∧ Below wp.heap.size wp wx) (fun rv _ => m - (intOf rv).toNat)
              case atStart => exact ⟨0, Nat.zero_le _, rfl, S0.out, B0.out⟩
              case round =>
                obtain ⟨r, hr, rfl, hown, hbr⟩ := hrel
                have SR := Lib.hid hown
                have BR := Lib.hid hbr
                by_cases hlr : r < m
                · have hri : (r : Int) < (m : Int) := by omega
                  have cl0 := owned_cell hown r hlr
                  have fl := hown.frozenAt r
                  rw [upto_at hlr] at cl0
                  have HST := Lib.hid (upto_set (u := u) (f := k + 1) hlr)
                  have hbo := below_thru HBN.out BR.out
                  have hgl := (hown.lt _ rfl).2
                  clear hown hbr S0 B0
                  by_cases hu0 : u = 0
                  · have hu0i : ¬ (0 : Int) < (u : Int) := by omega
                    have hru : (u : Int) ≤ (r : Int) := by omega
                    obtain ⟨gT, cT, bT, oT, cT2, rfl, hgT, kT1, hbT, kT2⟩ := HT.out.at_ (rowsAt_len _ _ _) (k := u) (j := r - u) (by omega) (by rw [rowsAt_get (by omega), tab_len]; omega)
                    rw [rowsAt_get (by omega), tab_get (by omega)] at kT2
                    rw [rowsAt_get (by omega), tab_len] at kT1
                    have c1 := cell_on hbo kT1
                    have c2 := cell_on hbo kT2
                    have hq : (r : Int) - (u : Int) = ((r - u : Nat) : Int) := by omega
                    have HWA := Lib.hid (ways_a (u := u) (k := k) (r := r) hu0)
                    have hw := ways_16 (d := u) (f := k) (r - u) (by omega)
                    have hqm : ((r - u : Nat) : Int) < (m : Int) := by omega
                    have huD : (u : Int) < ((D + 1 : Nat) : Int) := by omega
                    clear kT1 kT2 hbo hu0
                    obtain ⟨q, hqq⟩ : ∃ q, q = r - u := ⟨_, rfl⟩
                    rw [← hqq] at hq hw hqm c2 HWA
                    clear hqq
                    generalize ways u k q = v at *
                    go_wp2_with fail
                    go_region
                    go_wp2_with fail
                    go_roundw
                    case rel =>
                      have s1 := (SR.out.stored r (.int .i64 v)).1
                      rw [map_set_int', ← HWA.out, HST.out, HWA.out] at s1
                      exact ⟨r + 1, by omega, by go_num, s1.drew, (BR.out.setCell (Nat.le_refl _) _).drew⟩
                    case measure => simp [intOf]; omega
                  · have hu0i : (0 : Int) < (u : Int) := by omega
                    obtain ⟨gN, cN, bN, oN, cN2, rfl, hgN, kN1, hbN, kN2⟩ := HN.out.at_ (rowsAt_len _ _ _) (k := u - 1) (j := r) (by omega) (by rw [rowsAt_get (by omega), tab_len]; omega)
                    rw [rowsAt_get (by omega), tab_get hlr] at kN2
                    rw [rowsAt_get (by omega), tab_len] at kN1
                    have n1 := cell_on BR.out kN1
                    have n2 := cell_on BR.out kN2
                    have hs : (u : Int) - 1 = ((u - 1 : Nat) : Int) := by omega
                    have hw2 := ways_16 (d := u - 1) (f := k + 1) r (by omega)
                    have hsu : ((u - 1 : Nat) : Int) < (u : Int) := by omega
                    by_cases hru : u ≤ r
                    · have hrui : (u : Int) ≤ (r : Int) := by omega
                      obtain ⟨gT, cT, bT, oT, cT2, rfl, hgT, kT1, hbT, kT2⟩ := HT.out.at_ (rowsAt_len _ _ _) (k := u) (j := r - u) (by omega) (by rw [rowsAt_get (by omega), tab_len]; omega)
                      rw [rowsAt_get (by omega), tab_get (by omega)] at kT2
                      rw [rowsAt_get (by omega), tab_len] at kT1
                      have c1 := cell_on hbo kT1
                      have c2 := cell_on hbo kT2
                      have hq : (r : Int) - (u : Int) = ((r - u : Nat) : Int) := by omega
                      have HWC := Lib.hid (ways_c (u := u) (k := k) (r := r) (by omega) hru)
                      have hw := ways_16 (d := u) (f := k) (r - u) (by omega)
                      have hqm : ((r - u : Nat) : Int) < (m : Int) := by omega
                      have huD : (u : Int) < ((D + 1 : Nat) : Int) := by omega
                      clear kT1 kT2 hbo hu0 kN1 kN2 hru
                      obtain ⟨q, hqq⟩ : ∃ q, q = r - u := ⟨_, rfl⟩
                      rw [← hqq] at hq hw hqm c2 HWC
                      obtain ⟨s, hss⟩ : ∃ s, s = u - 1 := ⟨_, rfl⟩
                      rw [← hss] at hs hw2 hsu n1 n2 HWC
                      clear hqq hss
                      generalize ways u k q = v at *
                      generalize ways s (k + 1) r = v2 at *
                      have k1 := Lib.hid (World.cell?_setCell_same wr ⟨wp.heap.size, r, none⟩ (.int .i64 v) cl0)
                      have k2 := Lib.hid ((World.cell?_setCell_other wr ⟨wp.heap.size, r, none⟩ ⟨gN, s, none⟩ (.int .i64 v) (fun e => absurd (congrArg Addr.block e) (by simp only; omega))).trans n1)
                      have k3 := Lib.hid ((World.cell?_setCell_other wr ⟨wp.heap.size, r, none⟩ ⟨bN, oN + r, none⟩ (.int .i64 v) (fun e => absurd (congrArg Addr.block e) (by simp only; omega))).trans n2)
                      have k4 := Lib.hid ((World.frozen?_setCell wr ⟨wp.heap.size, r, none⟩ ⟨wp.heap.size, r, none⟩ (.int .i64 v)).trans fl)
                      have k5 := Lib.hid (SR.out.stored r (.int .i64 v)).1.drew
                      have k6 := Lib.hid (BR.out.setCell (p := ⟨wp.heap.size, r, none⟩) (Nat.le_refl _) (.int .i64 v)).drew
                      go_wp2_with fail
                      go_region
                      have k1' : (wr.setCell ⟨wp.heap.size, r, none⟩ (.int .i64 v)).drew.cell? ⟨wp.heap.size, r, none⟩ = some (.int .i64 v) := k1.out
                      have k2' : (wr.setCell ⟨wp.heap.size, r, none⟩ (.int .i64 v)).drew.cell? ⟨gN, s, none⟩ = some (.slice (some ⟨bN, oN, none⟩) m cN2) := k2.out
                      have k3' : (wr.setCell ⟨wp.heap.size, r, none⟩ (.int .i64 v)).drew.cell? ⟨bN, oN + r, none⟩ = some (.int .i64 v2) := k3.out
                      have k4' : (wr.setCell ⟨wp.heap.size, r, none⟩ (.int .i64 v)).drew.frozen? ⟨wp.heap.size, r, none⟩ = false := k4.out
                      clear k1 k2 k3 k4 cl0 fl n1 n2 c1 c2
                      generalize (wr.setCell ⟨wp.heap.size, r, none⟩ (.int .i64 v)).drew = W1 at *
                      go_wp2_with fail
                      go_region
                      go_wp2_with fail
                      go_roundw
                      case rel =>
                        have s2 := (k5.out.stored r (.int .i64 (v + v2 : Nat))).1
                        rw [← HWC.out, map_set_int', map_set_int', List.set_set, HST.out, HWC.out] at s2
                        have ec : (v : Int) + (v2 : Int) = ((v + v2 : Nat) : Int) := by omega
                        rw [ec]
                        exact ⟨r + 1, by omega, by go_num, s2.drew, (k6.out.setCell (Nat.le_refl _) _).drew⟩
                      case measure => simp [intOf]; omega
                    · have hrui : ¬ (u : Int) ≤ (r : Int) := by omega
                      have HWB := Lib.hid (ways_b (u := u) (k := k) (r := r) (by omega) (by omega))
                      clear hbo hu0 kN1 kN2 hru
                      obtain ⟨s, hss⟩ : ∃ s, s = u - 1 := ⟨_, rfl⟩
                      rw [← hss] at hs hw2 hsu n1 n2 HWB
                      clear hss
                      generalize ways s (k + 1) r = v2 at *
                      go_wp2_with fail
                      go_region
                      go_wp2_with fail
                      go_roundw
                      case rel =>
                        have s1 := (SR.out.stored r (.int .i64 v2)).1
                        rw [map_set_int', ← HWB.out, HST.out, HWB.out] at s1
                        exact ⟨r + 1, by omega, by go_num, s1.drew, (BR.out.setCell (Nat.le_refl _) _).drew⟩
                      case measure => simp [intOf]; omega
                · have hre : r = m := by omega
                  have hri : ¬ (r : Int) < (m : Int) := by omega
                  rw [hre, upto_all] at hown
                  have SE := Lib.hid hown
                  clear hown hbr hre S0 B0
                  obtain ⟨vs, ho, hk2⟩ := HN.out
                  have HKB := Lib.hid (show ∀ i, i < (rowsAt m (k + 1) u).length → ∀ g, (vs.getD i undef).ownBlock = some g → g < wp.heap.size from fun i hi g hg => (hk2.lt hi hg).2)
                  have HOB := Lib.hid (show u9.ownBlock ≠ some wp.heap.size from fun e => by have := (ho.lt _ e).2; omega)
                  have HK := Lib.hid (hk2.on BR.out)
                  have HO := Lib.hid (own_on ho BR.out)
                  clear ho hk2
                  have hsq : wo.heap.size ≤ wr.heap.size := Nat.le_trans hszu BR.out.size
                  go_wp2_with (at_builtin; refine wpList_append_lies _ rfl _ _ 57 rfl wo.heap.size 22 i0 (.slice none 0 0) 1 24 Try.underlying57 hi0 hz0 hz1 hz2 rfl (by decide) _ _ _ rfl (HO.out.alloc _) ⟨wr.heap.size, 0, none⟩ 1 1 [.slice (some ⟨wp.heap.size, 0, none⟩) m m] rfl rfl (news_one _ _ _) (one_one rfl) (by decide) (by unfold maxLen; omega) (by omega) (by simp; omega) _ rfl ?_; intro g1 c1 w3 hown1 hgr1 hat1 hlt1)
                  have hkids := Kids.snoc (ys := tab m (fun r => (ways u (k + 1) r : Int))) (c := m) HK.out (by rw [tab_len]; exact own_mono SE.out hszu) HKB.out HOB.out (grown_trans (World.grownBy_alloc _ _ _) hgr1) hat1 (by simp)
                  rw [tab_len, ← rowsAt_succ] at hkids
                  have hb4 : Below wo.heap.size wo w3 := below_app (below_thru HBN.out BR.out) HO.out hgr1
                  have HT3 := Lib.hid (show Tab w3 wo.heap.size (.slice (some ⟨g1, 0, none⟩) (u + 1) c1) (u + 1) (rowsAt m (k + 1) (u + 1)) from ⟨_, hown1, hkids⟩)
                  have HB4 := Lib.hid hb4
                  clear hown1 hgr1 hat1 hkids hb4
                  go_wp2_with fail
                  go_roundw
                  case rel => exact ⟨u + 1, by omega, by go_num, HT3.out, HB4.out⟩
                  case measure => simp [intOf]; omega
            · have hue : u = D + 1 := by omega
              have hui : ¬ (u : Int) ≤ (D : Int) := by omega
              rw [hue] at HN
              clear hue
              go_wp2_with fail
              go_roundw
              case rel => exact ⟨k + 1, by omega, by go_num, HN.out.mono hszo, below_thru HB.out HBN.out⟩
              case measure => simp [intOf]; omega
        · have hke : k = F := by omega
          have hki : ¬ ((k + 1 : Nat) : Int) ≤ (F : Int) := by omega
          rw [hke] at HT
          clear hke
          obtain ⟨vs, ho, hk2⟩ := HT.out
          have hDl : D < (rowsAt m F (D + 1)).length := by rw [rowsAt_len]; omega
          obtain ⟨A, c, e, r⟩ := hk2.row D hDl
          rw [rowsAt_get (Nat.lt_succ_self D), ← HRES.out, HLEN.out] at e r
          rcases ho.2 with ⟨_, h0⟩ | ⟨g, cap, cur, hv, hb, hg, hnc, hcm, hcs, ht⟩
          · omega
          have hvl : vs.length = D + 1 := by have := ho.1; omega
          have hcell : wr.cell? ⟨g, D, none⟩ = some (.slice A m c) := by
            rw [hv] at ho
            rw [ho.cellAt D (by omega), List.getElem?_eq_getElem (by omega)]
            have : vs.getD D undef = vs[D]'(by omega) := by simp [List.getD, show D < vs.length by omega]
            rw [← this, e]
          subst hv
          have R := Lib.hid r
          have hDi : (D : Int) < ((D + 1 : Nat) : Int) := by omega
          clear ho hk2 e r hg hnc hcm hcs ht hb
          go_wp2_with fail
          go_ret
          exact ⟨A, c, by rw [HLEN.out]; rfl, by rw [HLEN.out]; exact R.out, HB.out⟩

end Go.Proofs.Ytodocfanaplmpaa
