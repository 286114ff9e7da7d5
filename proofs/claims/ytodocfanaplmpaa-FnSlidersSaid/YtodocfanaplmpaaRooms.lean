
/-
  The contracts of the program's rooms and RoomTable; no condition.
-/
import Derived.Test.YtodocfanaplmpaaRoomTP
import Derived.Test.YtodocfanaplmpaaNum
import Derived.Test.YtodocfanaplmpaaHeldP
import Derived.IntWalk
namespace Go.Proofs.Ytodocfanaplmpaa
open Go.ChangeShapes Go.WideShapes Go.ChangeAt Go.RowKit Go.Deep
set_option linter.unusedVariables false
set_option linter.unusedSimpArgs false

/-- the table behind j additions of the first kind -/
def addA (d f j : Nat) (r : Nat) : Int := if r < j then (ways d f r : Int) else 0
/-- the table behind j additions of the second kind -/
def addB (d f e g j : Nat) (r : Nat) : Int := (ways d f r : Int) + if e ≤ r ∧ r < e + j then (ways e g (r - e) : Int) else 0

theorem addA_zero (d f m : Nat) : tab m (addA d f 0) = List.replicate m 0 := by
  rw [← tab_zero]
  exact tab_congr fun r _ => if_neg (by omega)
theorem addA_step {d f j m : Nat} (hj : j < m) : (tab m (addA d f j)).set j (ways d f j) = tab m (addA d f (j + 1)) := by
  refine tab_set hj (if_pos (by omega)) fun r _ hne => ?_
  unfold addA
  by_cases h : r < j
  · rw [if_pos h, if_pos (by omega)]
  · rw [if_neg h, if_neg (by omega)]
theorem addA_at {d f j m : Nat} (hj : j < m) : (tab m (addA d f j)).getD j 0 = 0 := by
  rw [tab_get hj]
  exact if_neg (by omega)
theorem addA_all {d f m e g : Nat} : tab m (addA d f (d * f + 1)) = tab m (addB d f e g 0) := by
  refine tab_congr fun r _ => ?_
  unfold addA addB
  have hn : ¬ (e ≤ r ∧ r < e + 0) := by omega
  rw [if_neg hn, Int.add_zero]
  by_cases h : r < d * f + 1
  · rw [if_pos h]
  · rw [if_neg h, ways_out (d + f) d f r (Nat.le_refl _) (by omega)]
    rfl
theorem addB_step {d f e g j m : Nat} (hj : j + e < m) : (tab m (addB d f e g j)).set (j + e) ((ways d f (j + e) : Int) + ways e g j) = tab m (addB d f e g (j + 1)) := by
  refine tab_set hj ?_ fun r _ hne => ?_
  · unfold addB
    rw [if_pos (by omega), Nat.add_sub_cancel]
  · unfold addB
    by_cases h : e ≤ r ∧ r < e + j
    · rw [if_pos h, if_pos (by omega)]
    · rw [if_neg h, if_neg (by omega)]
theorem addB_at {d f e g j m : Nat} (hj : j + e < m) : (tab m (addB d f e g j)).getD (j + e) 0 = ways d f (j + e) := by
  rw [tab_get hj]
  unfold addB
  rw [if_neg (by omega), Int.add_zero]
theorem addB_all (d f : Nat) : tab ((d + 1) * (f + 1) + 1) (addB d (f + 1) (d + 1) f ((d + 1) * f + 1)) = table (d + 1) (f + 1) := by
  unfold table
  refine (tab_congr (G := fun r => (ways (d + 1) (f + 1) r : Int)) fun r hr => ?_)
  unfold addB
  rw [ways_both]
  by_cases h : d + 1 ≤ r
  · by_cases h2 : r < d + 1 + ((d + 1) * f + 1)
    · rw [if_pos ⟨h, h2⟩, if_pos h]; rfl
    · rw [if_neg (fun x => h2 x.2), if_pos h, ways_out (d + 1 + f) (d + 1) f _ (Nat.le_refl _) (by omega)]; rfl
  · rw [if_neg (fun x => h x.1), if_neg h]; rfl

theorem owned_cell {w : World} {base g c n : Nat} {e : TypeId} {zs : List Int} (h : w.ownsRow base e 1 (.slice (some ⟨g, 0, none⟩) n c) n (zs.map (Value.int .i64))) (x : Nat) (hx : x < n) : w.cell? ⟨g, x, none⟩ = some (.int .i64 (zs.getD x 0)) := by
  have hl : zs.length = n := by have := h.1; simpa using this
  rw [h.cellAt x (by omega), List.getElem?_map, List.getD_eq_getElem?_getD, List.getElem?_eq_getElem (by omega)]
  rfl
theorem map_set_int' (L : List Int) (i : Nat) (v : Int) : (L.map (Value.int .i64)).set i (.int .i64 v) = (L.set i v).map (Value.int .i64) := by rw [List.map_set]
theorem made_list' (v : Value) (n : Nat) : (madeCells #[v] n).toList = List.replicate n v := by
  unfold madeCells
  rw [Array.toList_map]
  have h : (fun x : Nat => #[v][x % #[v].size]!) = fun _ => v := by
    funext x
    simp [Nat.mod_one]
  rw [h]
  simp [List.map_const']

theorem Held.setCell {w : World} {A : Option Addr} {lo hi : Nat} {zs : List Int} (h : Held w A lo hi zs) {p : Addr} (hp : p.block < lo ∨ hi ≤ p.block) (u : Value) : Held (w.setCell p u) A lo hi zs := by
  intro hn
  obtain ⟨b, off, e, h1, h2, hc⟩ := h hn
  exact ⟨b, off, e, h1, h2, fun j hj => (World.cell?_setCell_other w p ⟨b, off + j, none⟩ u (fun e => by subst e; simp only at hp; omega)).trans (hc j hj)⟩

theorem mul_i64 {d f : Nat} (hd : d ≤ 8) (hf : f ≤ 8) : IntKind.i64.wrap ((d : Int) * (f : Int)) = ((d * f : Nat) : Int) ∧ d * f ≤ 64 := by
  have h : d * f ≤ 8 * 8 := Nat.mul_le_mul hd hf
  refine ⟨?_, h⟩
  rw [← Int.natCast_mul]
  exact IntWalk.i64_in _ (by omega)

set_option maxRecDepth 100000 in
theorem rooms_edge (d f : Nat) (w : World) (hd : d ≤ 8) (hf : f ≤ 8) (h0 : d = 0 ∨ f = 0) : Calls Try.prog 35 #[.int .i64 d, .int .i64 f] w (NewInts w (table d f)) := by
  obtain ⟨i0, hi0, hz0, hz1, hz2⟩ := info_parts intInfo
  rw [table_edge h0]
  have hp : d * f = 0 := by rcases h0 with rfl | rfl <;> simp
  obtain ⟨e1, _⟩ := mul_i64 hd hf
  rw [hp] at e1
  have hb : ((d : Int) == 0) = true ∨ (((d : Int) == 0) = false ∧ ((f : Int) == 0) = true) := by
    rcases h0 with rfl | rfl
    · exact Or.inl rfl
    · by_cases h : d = 0
      · subst h; exact Or.inl rfl
      · exact Or.inr ⟨by simp [h], rfl⟩
  have e1' : IntKind.i64.wrap ((d : Int) * (f : Int)) = 0 := e1
  clear e1 hp h0
  rcases hb with b1 | ⟨b1, b2⟩
  · go_enter Try.func35, Try.ntmps35
    go_wp2_with (at_make; refine wpList_make_full _ rfl (.tmp 13) (.tmp 13) 22 rfl w.heap.size 3 i0 (.int .i64 0) 1 Try.underlying22 hi0 hz0 hz1 .i64 .i64 _ _ 1 rfl rfl rfl rfl (by rw [hz2]; omega) (by unfold maxLen; omega) (Nat.le_refl _) ?_)
    intro w1 hown hgr
    have hb1 : Below w.heap.size w w1 := (Below.refl _ _).grown hgr (Nat.le_refl _) (by simp)
    rw [made_list'] at hown
    have hown2 : w1.ownsRow w.heap.size 3 1 (.slice (some ⟨w.heap.size, 0, none⟩) 1 1) 1 ([(0 : Int)].map (Value.int .i64)) := by simpa using hown
    have hc0 := owned_cell hown2 0 (by decide)
    have hf0 := hown2.frozenAt 0
    have HO := Lib.hid hown2
    have HB := Lib.hid hb1
    clear hown hown2 hb1 hgr
    go_wp2_with fail
    go_ret
    exact ⟨_, _, rfl, (HO.out.stored 0 (.int .i64 1)).1, HB.out.setCell (Nat.le_refl _) _⟩
  · go_enter Try.func35, Try.ntmps35
    go_wp2_with (at_make; refine wpList_make_full _ rfl (.tmp 13) (.tmp 13) 22 rfl w.heap.size 3 i0 (.int .i64 0) 1 Try.underlying22 hi0 hz0 hz1 .i64 .i64 _ _ 1 rfl rfl rfl rfl (by rw [hz2]; omega) (by unfold maxLen; omega) (Nat.le_refl _) ?_)
    intro w1 hown hgr
    have hb1 : Below w.heap.size w w1 := (Below.refl _ _).grown hgr (Nat.le_refl _) (by simp)
    rw [made_list'] at hown
    have hown2 : w1.ownsRow w.heap.size 3 1 (.slice (some ⟨w.heap.size, 0, none⟩) 1 1) 1 ([(0 : Int)].map (Value.int .i64)) := by simpa using hown
    have hc0 := owned_cell hown2 0 (by decide)
    have hf0 := hown2.frozenAt 0
    have HO := Lib.hid hown2
    have HB := Lib.hid hb1
    clear hown hown2 hb1 hgr
    go_wp2_with fail
    go_ret
    exact ⟨_, _, rfl, (HO.out.stored 0 (.int .i64 1)).1, HB.out.setCell (Nat.le_refl _) _⟩

set_option maxRecDepth 100000 in
theorem rooms_both (dp fp d f : Nat) (hdd : d = dp + 1) (hff : f = fp + 1) (w : World) (hd : d ≤ 8) (hf : f ≤ 8)
    (h1 : ∀ w, Calls Try.prog 35 #[.int .i64 dp, .int .i64 f] w (NewInts w (table dp f)))
    (h2 : ∀ w, Calls Try.prog 35 #[.int .i64 d, .int .i64 fp] w (NewInts w (table d fp))) :
    Calls Try.prog 35 #[.int .i64 d, .int .i64 f] w (NewInts w (table d f)) := by
  obtain ⟨i0, hi0, hz0, hz1, hz2⟩ := info_parts intInfo
  obtain ⟨e1, e64⟩ := mul_i64 hd hf
  have ha : d * f = dp * f + f := by rw [hdd]; exact Nat.succ_mul _ _
  have hb : d * f = d * fp + d := by rw [hff]; exact Nat.mul_succ _ _
  have HAll : Hid (tab (d * f + 1) (addB dp f d fp (d * fp + 1)) = table d f) := Lib.hid (by rw [hdd, hff]; exact addB_all dp fp)
  have HW := Lib.hid (fun r => ways_16 (d := dp) (f := f) r (by omega))
  have HW2 := Lib.hid (fun r => ways_16 (d := d) (f := fp) r (by omega))
  have t1 := table_len dp f
  have t2 := table_len d fp
  have G1 := Lib.hid (fun r (h : r < dp * f + 1) => table_get h)
  have G2 := Lib.hid (fun r (h : r < d * fp + 1) => table_get h)
  have HTL := Lib.hid (table_len d f)
  have hd1 : (d : Int) - 1 = (dp : Int) := by omega
  have hf1 : (f : Int) - 1 = (fp : Int) := by omega
  have bd : ((d : Int) == 0) = false := by simp; omega
  have bf : ((f : Int) == 0) = false := by simp; omega
  obtain ⟨p, hp⟩ : ∃ p, p = d * f := ⟨_, rfl⟩
  obtain ⟨p1, hp1⟩ : ∃ p1, p1 = dp * f := ⟨_, rfl⟩
  obtain ⟨p2, hp2⟩ : ∃ p2, p2 = d * fp := ⟨_, rfl⟩
  rw [← hp, ← hp1] at ha
  rw [← hp, ← hp2] at hb
  rw [← hp] at e1 e64 HAll HTL
  rw [← hp1] at t1 G1
  rw [← hp2] at t2 G2 HAll
  have HA1 := Lib.hid (fun m => addA_all (d := dp) (f := f) (m := m) (e := d) (g := fp))
  rw [← hp1] at HA1
  have hm1 : (p : Int) + 1 = ((p + 1 : Nat) : Int) := by omega
  obtain ⟨m, hm⟩ : ∃ m, m = p + 1 := ⟨_, rfl⟩
  rw [← hm] at hm1 HAll
  have hmp1 : p1 + 1 ≤ m := by omega
  have hmp2 : p2 + 1 + d ≤ m + 0 := by omega
  have hm65 : m ≤ 65 := by omega
  have hd8 : d ≤ 8 := hd
  generalize ht1 : table dp f = xs at *
  generalize ht2 : table d fp = ys at *
  have T1 := Lib.hid t1
  have T2 := Lib.hid t2
  have H1 := Lib.hid h1
  have H2 := Lib.hid h2
  have HM := Lib.hid hm
  clear ha hb t1 t2 h1 h2 hp hp1 hp2 hdd hff ht1 ht2 hm
  go_enter Try.func35, Try.ntmps35
  go_wp2_with (at_make; refine wpList_make_full _ rfl (.tmp 13) (.tmp 13) 22 rfl w.heap.size 3 i0 (.int .i64 0) 1 Try.underlying22 hi0 hz0 hz1 .i64 .i64 _ _ m rfl rfl rfl rfl (by rw [hz2]; omega) (by unfold maxLen; omega) (Nat.le_refl _) ?_)
  intro w1 hown hgr
  have hb1 : Below w.heap.size w w1 := (Below.refl _ _).grown hgr (Nat.le_refl _) (by simp)
  rw [made_list'] at hown
  have hown2 : w1.ownsRow w.heap.size 3 1 (.slice (some ⟨w.heap.size, 0, none⟩) m m) m ((tab m (addA dp f 0)).map (Value.int .i64)) := by rw [addA_zero]; simpa using hown
  have HO := Lib.hid hown2
  have HB := Lib.hid hb1
  have hgl := (hown2.lt _ rfl).2
  clear hown hown2 hb1 hgr
  go_wp2_with fail
  refine (H1.out _).mono ?_
  rintro e w2 ⟨A, c, rfl, hor, hbo⟩
  have hh := Held.of_own hor
  have HO2 := Lib.hid (own_on HO.out hbo)
  have HB2 := Lib.hid (below_thru HB.out hbo)
  rw [T1.out]
  have HH := Lib.hid hh
  have hs12 : w1.heap.size ≤ w2.heap.size := hbo.size
  clear hor hbo hh
  go_wp2_with fail
  go_loopw [29] (fun iv wr => ∃ j : Nat, j ≤ p1 + 1 ∧ iv = .int .i64 j ∧ wr.ownsRow w.heap.size 3 1 (.slice (some ⟨w.heap.size, 0, none⟩) m m) m ((tab m (addA dp f j)).map (Value.int .i64)) ∧ Held wr A w1.heap.size w2.heap.size xs ∧ Below w.heap.size w wr) (fun iv _ => p1 + 1 - (intOf iv).toNat)
  case atStart => exact ⟨0, Nat.zero_le _, rfl, HO2.out, HH.out, HB2.out⟩
  case round =>
    obtain ⟨j, hj, rfl, hown, hheld, hbr⟩ := hrel
    have H3 := Lib.hid hown
    have H4 := Lib.hid hheld
    have H5 := Lib.hid hbr
    by_cases hlt : j < p1 + 1
    · obtain ⟨b1, o1, rfl, hlo, hhi, hcc⟩ := hheld (by rw [T1.out]; omega)
      have hc1 := hcc j (by rw [T1.out]; exact hlt)
      rw [G1.out j hlt] at hc1
      have hji : (j : Int) < ((p1 + 1 : Nat) : Int) := by omega
      have hjm : j < m := by omega
      have hc2 := owned_cell hown j hjm
      have hf2 := hown.frozenAt j
      rw [addA_at hjm] at hc2
      have HS := Lib.hid (addA_step (d := dp) (f := f) hjm)
      have hw := HW.out j
      have hjmi : (j : Int) < (m : Int) := by omega
      clear hown hheld hbr hcc
      generalize ways dp f j = v at *
      go_wp2_with fail
      go_roundw
      case rel =>
        have s1 := (H3.out.stored j (.int .i64 v)).1
        rw [map_set_int', HS.out] at s1
        exact ⟨j + 1, by omega, by go_num, s1, H4.out.setCell (Or.inl hgl) _, H5.out.setCell (Nat.le_refl _) _⟩
      case measure => simp [intOf]; omega
    · have hje : j = p1 + 1 := by omega
      have hji : ¬ (j : Int) < ((p1 + 1 : Nat) : Int) := by omega
      rw [hje, HA1.out] at hown
      have HO3 := Lib.hid hown
      clear hown hheld hbr hje
      have hgr := (HO3.out.lt _ rfl).2
      go_wp2_with fail
      refine (H2.out _).mono ?_
      rintro e w3 ⟨A2, c2, rfl, hor, hbo⟩
      have hh := Held.of_own hor
      have HO4 := Lib.hid (own_on HO3.out hbo)
      have HB4 := Lib.hid (below_thru H5.out hbo)
      rw [T2.out]
      have HH2 := Lib.hid hh
      clear hor hbo hh
      go_wp2_with fail
      go_loopw [47] (fun iv wq => ∃ j : Nat, j ≤ p2 + 1 ∧ iv = .int .i64 j ∧ wq.ownsRow w.heap.size 3 1 (.slice (some ⟨w.heap.size, 0, none⟩) m m) m ((tab m (addB dp f d fp j)).map (Value.int .i64)) ∧ Held wq A2 wr.heap.size w3.heap.size ys ∧ Below w.heap.size w wq) (fun iv _ => p2 + 1 - (intOf iv).toNat)
      case atStart => exact ⟨0, Nat.zero_le _, rfl, HO4.out, HH2.out, HB4.out⟩
      case round =>
        obtain ⟨j, hj, rfl, hown, hheld, hbr⟩ := hrel
        have H3 := Lib.hid hown
        have H4 := Lib.hid hheld
        have H5 := Lib.hid hbr
        by_cases hlt : j < p2 + 1
        · obtain ⟨b1, o1, rfl, hlo, hhi, hcc⟩ := hheld (by rw [T2.out]; omega)
          have hc1 := hcc j (by rw [T2.out]; exact hlt)
          rw [G2.out j hlt] at hc1
          have hji : (j : Int) < ((p2 + 1 : Nat) : Int) := by omega
          have hjm : j + d < m := by omega
          have hc2 := owned_cell hown (j + d) hjm
          have hf2 := hown.frozenAt (j + d)
          rw [addB_at hjm] at hc2
          have HS := Lib.hid (addB_step (d := dp) (f := f) (e := d) (g := fp) hjm)
          have hw := HW2.out j
          have hw1 := HW.out (j + d)
          have hjmi : (j : Int) + (d : Int) < (m : Int) := by omega
          clear hown hheld hbr hcc
          generalize ways d fp j = v at *
          generalize ways dp f (j + d) = u at *
          go_wp2_with fail
          go_roundw
          case rel =>
            have s1 := (H3.out.stored (j + d) (.int .i64 ((u : Int) + v))).1
            rw [map_set_int', HS.out] at s1
            exact ⟨j + 1, by omega, by go_num, s1, H4.out.setCell (Or.inl hgr) _, H5.out.setCell (Nat.le_refl _) _⟩
          case measure => simp [intOf]; omega
        · have hje : j = p2 + 1 := by omega
          have hji : ¬ (j : Int) < ((p2 + 1 : Nat) : Int) := by omega
          rw [hje, HAll.out] at hown
          have HO5 := Lib.hid hown
          clear hown hheld hbr hje
          go_wp2_with fail
          go_ret
          have hl : (table d f).length = m := by rw [HTL.out, HM.out]
          have := HO5.out
          refine ⟨some ⟨w.heap.size, 0, none⟩, m, by rw [hl]; rfl, by rw [hl]; exact this, H5.out⟩

theorem rooms_any : ∀ (n d f : Nat) (w : World), d + f ≤ n → d ≤ 8 → f ≤ 8 → Calls Try.prog 35 #[.int .i64 d, .int .i64 f] w (NewInts w (table d f)) := by
  intro n
  induction n with
  | zero => intro d f w h h1 h2; exact rooms_edge d f w h1 h2 (Or.inl (by omega))
  | succ n ih =>
    intro d f w h h1 h2
    cases d with
    | zero => exact rooms_edge 0 f w h1 h2 (Or.inl rfl)
    | succ d =>
      cases f with
      | zero => exact rooms_edge (d + 1) 0 w h1 h2 (Or.inr rfl)
      | succ f => exact rooms_both d f (d + 1) (f + 1) rfl rfl w h1 h2 (fun w => ih d (f + 1) w (by omega) (by omega) h2) (fun w => ih (d + 1) f w (by omega) h1 (by omega))

def roomTable (d f : Int) : List Int := if (inB d 1 8 && inB f 1 8) = true then table d.toNat f.toNat else []
theorem implRoomTable_any (d f : Int) (w : World) : Calls Try.prog 8 #[.int .i64 d, .int .i64 f] w (NewInts w (roomTable d f)) := by
  have H1 := Lib.hid (fun w => isSteps_any d w)
  have H2 := Lib.hid (fun w => isSteps_any f w)
  cases g1 : inB d 1 8
  · rw [show roomTable d f = [] from if_neg (by rw [g1]; simp)]
    rw [g1] at H1
    clear g1
    go_enter Try.func8, Try.ntmps8
    go_wp2_with fail
    refine (H1.out _).mono ?_
    rintro e w1 ⟨rfl, rfl⟩
    go_wp2_with fail
    go_ret
    exact ⟨none, 0, rfl, World.ownsRow_nil _ _ _ _, Below.refl _ _⟩
  cases g2 : inB f 1 8
  · rw [show roomTable d f = [] from if_neg (by rw [g2]; simp)]
    rw [g1] at H1
    rw [g2] at H2
    clear g1 g2
    go_enter Try.func8, Try.ntmps8
    go_wp2_with fail
    refine (H1.out _).mono ?_
    rintro e w1 ⟨rfl, rfl⟩
    go_wp2_with fail
    refine (H2.out _).mono ?_
    rintro e w1 ⟨rfl, rfl⟩
    go_wp2_with fail
    go_ret
    exact ⟨none, 0, rfl, World.ownsRow_nil _ _ _ _, Below.refl _ _⟩
  rw [show roomTable d f = table d.toNat f.toNat from if_pos (by rw [g1, g2]; rfl)]
  rw [g1] at H1
  rw [g2] at H2
  obtain ⟨a1, a2⟩ := inB_iff.1 g1
  obtain ⟨b1, b2⟩ := inB_iff.1 g2
  obtain ⟨m, rfl⟩ := Int.eq_ofNat_of_zero_le (show 0 ≤ d by omega)
  obtain ⟨n, rfl⟩ := Int.eq_ofNat_of_zero_le (show 0 ≤ f by omega)
  rw [Int.toNat_natCast, Int.toNat_natCast]
  have HR := Lib.hid (fun w => rooms_any (m + n) m n w (Nat.le_refl _) (by omega) (by omega))
  clear g1 g2
  go_enter Try.func8, Try.ntmps8
  go_wp2_with fail
  refine (H1.out _).mono ?_
  rintro e w1 ⟨rfl, rfl⟩
  go_wp2_with fail
  refine (H2.out _).mono ?_
  rintro e w1 ⟨rfl, rfl⟩
  go_wp2_with fail
  refine (HR.out _).mono ?_
  rintro e w1 ⟨A, c, rfl, ho, hb⟩
  go_wp2_with fail
  go_ret
  exact ⟨A, c, rfl, ho, hb⟩

end Go.Proofs.Ytodocfanaplmpaa
