
/-
  Contracts of TurnCard on both sides; no condition beyond the size of the texts.
-/
import Derived.Test.YtkhlolhmaoenoaaCardAt
import Derived.Test.YtkhlolhmaoenoaaTurn
import Derived.Test.YtkhlolhmaoenoaaTabs
import Derived.Deep.AppendLies
import Derived.Deep.RegionLaw
namespace Go.Proofs.Ytkhlolhmaoenoaa
open Go.ChangeShapes Go.WideShapes Go.ChangeAt Go.RowKit Go.Deep Go.BigFrame
set_option linter.unusedVariables false
set_option linter.unusedSimpArgs false

/-- a card of the call's own that is being made, in block o -/
structure OutAt (wr : World) (o base : Nat) (d f : Int) (v : Value) (ss : List ByteArray) : Prop where
  c0 : wr.cell? ⟨o, 0, none⟩ = some (.int .i64 d)
  c1 : wr.cell? ⟨o, 1, none⟩ = some (.int .i64 f)
  c2 : wr.cell? ⟨o, 2, none⟩ = some v
  fz : ∀ j, wr.frozen? ⟨o, j, none⟩ = false
  own : wr.ownsRow base 9 1 v ss.length (ss.map Value.string)
  lt : o < base
theorem OutAt.on {wr w' : World} {o base : Nat} {d f : Int} {v : Value} {ss : List ByteArray} (h : OutAt wr o base d f v ss) (hb : Below wr.heap.size wr w') : OutAt w' o base d f v ss := by
  have hlt : o < wr.heap.size := World.block_lt_of_cell? wr _ h.c0
  have hk := hb.block o hlt
  exact ⟨(World.cell?_of_block hk).trans h.c0, (World.cell?_of_block hk).trans h.c1, (World.cell?_of_block hk).trans h.c2, fun j => (World.frozen?_of_block hk).trans (h.fz j), own_on h.own hb, h.lt⟩
theorem OutAt.grown {wr w' : World} {o base : Nat} {d f : Int} {v : Value} {ss : List ByteArray} {row : Option Nat} (h : OutAt wr o base d f v ss) (hg : wr.grownBy w' row) (hr : ∀ g, row = some g → o < g) (ha : v.ownBlock = none ∨ v.ownBlock ≠ row) : OutAt w' o base d f v ss := by
  have hlt : o < wr.heap.size := World.block_lt_of_cell? wr _ h.c0
  have hk := hg.block o hlt (fun e => by have := hr o e.symm; omega)
  exact ⟨(World.cell?_of_block hk).trans h.c0, (World.cell?_of_block hk).trans h.c1, (World.cell?_of_block hk).trans h.c2, fun j => (World.frozen?_of_block hk).trans (h.fz j), h.own.kept hg ha, h.lt⟩
theorem OutAt.grown2 {wr w' : World} {o base : Nat} {d f : Int} {v : Value} {ss : List ByteArray} {g : Nat} (h : OutAt wr o base d f v ss) (hg : wr.grownBy w' (some g)) (hr : g < o) : OutAt w' o base d f v ss := by
  have hlt : o < wr.heap.size := World.block_lt_of_cell? wr _ h.c0
  have hk := hg.block o hlt (by simp; omega)
  refine ⟨(World.cell?_of_block hk).trans h.c0, (World.cell?_of_block hk).trans h.c1, (World.cell?_of_block hk).trans h.c2, fun j => (World.frozen?_of_block hk).trans (h.fz j), h.own.kept hg ?_, h.lt⟩
  cases hv : v.ownBlock with
  | none => exact .inl rfl
  | some g' => exact .inr (fun e => by have := (h.own.lt g' hv).1; have := h.lt; simp at e; omega)
theorem OutAt.put {w0 wr : World} {o base : Nat} {d f : Int} {v v0 : Value} {ss ss0 : List ByteArray} (h : OutAt w0 o base d f v0 ss0) (hk : wr.heap[o]? = w0.heap[o]?) (ho : wr.ownsRow base 9 1 v ss.length (ss.map Value.string)) : OutAt (wr.setCell ⟨o, 2, none⟩ v) o base d f v ss := by
  have c2 : wr.cell? ⟨o, 2, none⟩ = some v0 := (World.cell?_of_block hk).trans h.c2
  refine ⟨(World.cell?_setCell_other wr _ _ _ (by simp)).trans ((World.cell?_of_block hk).trans h.c0), (World.cell?_setCell_other wr _ _ _ (by simp)).trans ((World.cell?_of_block hk).trans h.c1), World.cell?_setCell_same wr _ _ c2,
    fun j => (World.frozen?_setCell wr _ _ _).trans ((World.frozen?_of_block hk).trans (h.fz j)), ownsRow_setCell_below ho (by simpa using h.lt) _, h.lt⟩
theorem CardAt.grownR {w wr w' : World} {d f : Int} {A : Option Addr} {c : Nat} {ss : List ByteArray} {row : Option Nat} (h : CardAt w wr d f A c ss) (hg : wr.grownBy w' row) (hr : ∀ g, row = some g → w.heap.size < g) : CardAt w w' d f A c ss := by
  have hk : ∀ b, b ≤ w.heap.size → w'.heap[b]? = wr.heap[b]? := fun b hb => hg.block b (Nat.lt_of_le_of_lt hb h.lt) (fun e => by have := hr b e.symm; omega)
  have h0 := hk _ (Nat.le_refl _)
  exact ⟨(World.cell?_of_block h0).trans h.c0, (World.cell?_of_block h0).trans h.c1, (World.cell?_of_block h0).trans h.c2, Row.keep h.row (fun b o hl => World.cell?_of_block (hk b (Nat.le_of_lt hl))),
    h.below.grown hg (Nat.le_of_lt h.lt) (fun g e => Nat.le_of_lt (hr g e)), Nat.lt_of_lt_of_le h.lt hg.size⟩
theorem strInfo9 : (Try.prog.info? 9).map (fun i => (i.zero, i.size, i.bytes)) = some (some (.string .empty), 1, 16) := by kernel_rfl

def turnS (s : ByteArray) : ByteArray := bs (turnStrip s.data.toList)
theorem turnS_take (ss : List ByteArray) (k : Nat) (h : k < ss.length) : (ss.take (k + 1)).map turnS = (ss.take k).map turnS ++ [turnS (ss.getD k .empty)] := by
  rw [take_snoc_getD ss k .empty h, List.map_append]
  rfl


/-- an append into a field: the new world -/
theorem OutAt.app {w2 w3 : World} {o base : Nat} {d f : Int} {v v' : Value} {ss ss' : List ByteArray} {ob : Obj} (h : OutAt w2 o base d f v ss) (hown : w3.ownsRow base 9 1 v' ss'.length (ss'.map Value.string)) (hg : (w2.alloc ob).grownBy w3 v.ownBlock) :
    OutAt (w3.setCell ⟨o, 2, none⟩ v') o base d f v' ss' := by
  have hlt : o < w2.heap.size := World.block_lt_of_cell? w2 _ h.c0
  have hg2 := grown_trans (World.grownBy_alloc w2 ob v.ownBlock) hg
  have hr : some o ≠ v.ownBlock := fun e => by have := (h.own.lt o e.symm).1; have := h.lt; omega
  exact h.put (hg2.block o hlt hr) hown
theorem OutAt.still {w2 w3 : World} {o base : Nat} {d f : Int} {v : Value} {ss : List ByteArray} {ob : Obj} (h : OutAt w2 o base d f v ss) (hg : (w2.alloc ob).grownBy w3 v.ownBlock) : w3.cell? ⟨o, 2, none⟩ = some v ∧ w3.frozen? ⟨o, 2, none⟩ = false := by
  have hlt : o < w2.heap.size := World.block_lt_of_cell? w2 _ h.c0
  have hg2 := grown_trans (World.grownBy_alloc w2 ob v.ownBlock) hg
  have hk := hg2.block o hlt (fun e => by have := (h.own.lt o e.symm).1; have := h.lt; omega)
  exact ⟨(World.cell?_of_block hk).trans h.c2, (World.frozen?_of_block hk).trans (h.fz 2)⟩
theorem OutAt.beside {w2 w3 : World} {o o2 base base2 : Nat} {d f d2 f2 : Int} {v v2 v' : Value} {ss ss2 : List ByteArray} {ob : Obj} (h : OutAt w2 o base d f v ss) (hb : OutAt w2 o2 base2 d2 f2 v2 ss2) (hv : v2.ownBlock = none) (hlt : o2 < o) (hg : (w2.alloc ob).grownBy w3 v.ownBlock) :
    OutAt (w3.setCell ⟨o, 2, none⟩ v') o2 base2 d2 f2 v2 ss2 := by
  have hg2 := grown_trans (World.grownBy_alloc w2 ob v.ownBlock) hg
  have h3 := hb.grown hg2 (fun g e => by have := (h.own.lt g e).1; have := h.lt; omega) (.inl hv)
  have l3 : o < w3.heap.size := Nat.lt_of_lt_of_le (World.block_lt_of_cell? w2 _ h.c0) hg2.size
  exact h3.grown (row := some o) ⟨rfl, rfl, rfl, by simp, fun k hk hne => heap_setCell_other w3 _ k _ (fun e => hne (by simp [e]))⟩ (fun g e => by simp at e; omega) (.inl hv)
theorem CardAt.beside {w w2 w3 : World} {o base : Nat} {d f d2 f2 : Int} {A : Option Addr} {c : Nat} {v v' : Value} {ss ss2 : List ByteArray} {ob : Obj} (h : OutAt w2 o base d f v ss) (hb : CardAt w w2 d2 f2 A c ss2) (hlt : w.heap.size < o) (hg : (w2.alloc ob).grownBy w3 v.ownBlock) :
    CardAt w (w3.setCell ⟨o, 2, none⟩ v') d2 f2 A c ss2 := by
  have hg2 := grown_trans (World.grownBy_alloc w2 ob v.ownBlock) hg
  have h3 := hb.grownR hg2 (fun g e => by have := (h.own.lt g e).1; have := h.lt; omega)
  exact h3.grownR (row := some o) ⟨rfl, rfl, rfl, by simp, fun k hk hne => heap_setCell_other w3 _ k _ (fun e => hne (by simp [e]))⟩ (fun g e => by simp at e; omega)

set_option maxHeartbeats 1000000 in
set_option maxRecDepth 8000 in
theorem implTurnCard_yes (d f : Int) (A : Option Addr) (c : Nat) (ss : List ByteArray) (w : World) (hx : SRow w w.heap.size A ss) (hm : ∀ s ∈ ss, s.size ≤ 4294967296) (h : cardOk d f ss = true) :
    Calls Try.prog 15 #[.agg #[.int .i64 d, .int .i64 f, .slice A ss.length c]] w (NewCard w f d (ss.map turnS)) := by
  have HC := Lib.hid (fun w hx => implCardOk_any d f A c ss w hx hm)
  have HST := Lib.hid (CardAt.start (d := d) (f := f) (c := c) hx)
  obtain ⟨i0, hi0, hz0, hz1, hz2⟩ := info_parts strInfo9
  rw [h] at HC
  have hlen := (cardOk_parts h).2.2.1
  have HVT := Lib.hid (turnS_take ss)
  have HFN := Lib.hid (fun (k : Nat) w (hk : k < ss.length) => implTurnStrip_any (ss.getD k .empty) w (hm _ (mem_getD hk)))
  clear h hx
  go_enter Try.func15, Try.ntmps15
  go_wp2_with fail
  refine (HC.out _ (HST.out.on (below_alloc (Below.refl _ _) _)).full).mono ?_
  rintro e w1 ⟨rfl, hb⟩
  have HCA := Lib.hid ((HST.out.on (below_alloc (Below.refl _ _) (.cells #[.int .i64 0, .int .i64 0, .slice none 0 0] 26))).on hb)
  have HR := Lib.hid ((show OutAt ((w.alloc (.cells #[.int .i64 d, .int .i64 f, .slice A ss.length c] 26)).alloc (.cells #[.int .i64 0, .int .i64 0, .slice none 0 0] 26)) (w.heap.size + 1) (w.heap.size + 2) 0 0 (.slice none 0 0) [] from
    ⟨by go_simp, by go_simp, by go_simp, fun j => by go_simp, World.ownsRow_nil _ _ _ _, Nat.lt_succ_self _⟩).on hb)
  clear HST
  obtain ⟨p0, p1, p2, prow, pb, plt⟩ := HCA.out
  clear prow pb hb
  go_wp2_with fail
  have hw1 : w.heap.size + 2 ≤ w1.heap.size := by have := World.block_lt_of_cell? w1 _ HR.out.c0; simp at this; omega
  have HO0 := Lib.hid (show OutAt (w1.alloc (.cells #[.int .i64 f, .int .i64 d, .slice none 0 0] 26)) w1.heap.size (w1.heap.size + 1) f d (.slice none 0 0) [] from
    ⟨by go_simp, by go_simp, by go_simp, fun j => by go_simp, World.ownsRow_nil _ _ _ _, Nat.lt_succ_self _⟩)
  have HR0 := Lib.hid (HR.out.on (below_alloc (Below.refl _ _) (.cells #[.int .i64 f, .int .i64 d, .slice none 0 0] 26)))
  have HC0 := Lib.hid (HCA.out.on (below_alloc (Below.refl _ _) (.cells #[.int .i64 f, .int .i64 d, .slice none 0 0] 26)))
  clear p0 p1 p2 plt HCA HR
  go_loopw [18] (fun kv wr => ∃ (k : Nat) (v : Value) (rs : List ByteArray), k ≤ ss.length ∧ kv = .int .i64 k ∧ rs = (ss.take k).map turnS ∧ rs.length = k ∧ OutAt wr w1.heap.size (w1.heap.size + 1) f d v rs ∧ OutAt wr (w.heap.size + 1) (w.heap.size + 2) 0 0 (.slice none 0 0) [] ∧ CardAt w wr d f A c ss) (fun kv _ => ss.length - (intOf kv).toNat)
  case atStart => exact ⟨0, _, [], Nat.zero_le _, rfl, rfl, rfl, HO0.out, HR0.out, HC0.out⟩
  case round =>
    obtain ⟨k, v, rs, hk, rfl, hrs, hrl, ho, hr, hca⟩ := hrel
    have HT := Lib.hid ho
    have HR := Lib.hid hr
    have HA := Lib.hid hca
    have HRS := Lib.hid hrs
    have HRL := Lib.hid hrl
    obtain ⟨o0, o1, o2, ofz, oown, olt⟩ := ho
    have hrl10 : rs.length ≤ 10 := by omega
    clear HO0 HR0 HC0 hr hca hrs hrl oown olt
    by_cases hlt : k < ss.length
    · have hi : (k : Int) < (ss.length : Int) := by omega
      have HFK := Lib.hid (fun w => HFN.out k w hlt)
      have HVK := Lib.hid (HVT.out k hlt)
      have HTD := Lib.hid (HT.out.on ((Below.refl _ wr).drew))
      have HRD := Lib.hid (HR.out.on ((Below.refl _ wr).drew))
      have HAD := Lib.hid (HA.out.on ((Below.refl _ wr).drew))
      obtain ⟨b1, off1, rfl, hb1, hc1⟩ := HA.out.at_ hlt
      have hu : turnS (ss.getD k .empty) = bs (turnStrip (ss.getD k .empty).data.toList) := rfl
      rw [hu] at HVK
      clear hu
      generalize ss.getD k .empty = s at *
      generalize bs (turnStrip s.data.toList) = u at *
      have f2 := ofz 2
      clear ofz o0 o1
      go_wp2_with fail
      go_region_law (first
        | (refine step_append_lies _ rfl _ _ 22 rfl (w1.heap.size + 1) 9 i0 (.string .empty) 1 16 Try.underlying22 hi0 hz0 hz1 hz2 rfl (by decide) v rs.length (rs.map Value.string) rfl (hown2.alloc _) ⟨w2.heap.size, 0, none⟩ 1 1 [.string u] rfl rfl (news_one _ _ _) (one_one rfl) (by decide) (by unfold maxLen; omega) (by omega) (by simp; omega) _ rfl ?_; intro g3 c3 w3 hown3 hgr3 hat3 hlt3; obtain ⟨o3, f3⟩ := HT2.out.still hgr3; have HG3 := Lib.hid hgr3; have HO3 := Lib.hid hown3; clear hgr3 hat3 hlt3 hown3)
        | (go_simp; go_at_call 70; refine (HFK.out _).mono ?_; rintro e w2 ⟨rfl, hb2⟩; have HT2 := Lib.hid (HTD.out.on hb2); have HR2 := Lib.hid (HRD.out.on hb2); have HA2 := Lib.hid (HAD.out.on hb2); have o2' := HT2.out.c2; have f2' := HT2.out.fz 2; have hown2 := HT2.out.own; have hz2' : w1.heap.size < w2.heap.size := World.block_lt_of_cell? w2 _ o2'; clear hb2))
      all_goals
        have hl3 : (rs ++ [u]).length = rs.length + 1 := by simp
        have HT4 := Lib.hid (HT2.out.app (ss' := rs ++ [u]) (by rw [hl3, List.map_append]; exact HO3.out) HG3.out)
        have HR4 := Lib.hid (HT2.out.beside HR2.out rfl (by omega) HG3.out (v' := .slice (some ⟨g3, 0, none⟩) (rs.length + 1) c3))
        have HA4 := Lib.hid (CardAt.beside HT2.out HA2.out (by omega) HG3.out (v' := .slice (some ⟨g3, 0, none⟩) (rs.length + 1) c3))
        have HL3 := Lib.hid hl3
        clear hl3 hown2 o3 f3 o2' f2' o2 f2 hc1
        generalize w3.setCell ⟨w1.heap.size, 2, none⟩ (.slice (some ⟨g3, 0, none⟩) (rs.length + 1) c3) = w4 at *
        go_wp2_with fail
        go_roundw
        case rel => exact ⟨k + 1, _, rs ++ [u], by omega, by go_num, by rw [HVK.out, HRS.out], by rw [HL3.out, HRL.out], HT4.out, HR4.out, HA4.out⟩
        case measure => simp [intOf]; omega
    · obtain rfl : k = ss.length := by omega
      have hrs := HRS.out
      rw [List.take_length] at hrs
      have HS2 := Lib.hid hrs
      obtain ⟨r0, r1, r2, rfz, rown, rlt⟩ := HR.out
      have f0 := rfz 0
      have f1 := rfz 1
      have f2 := rfz 2
      obtain ⟨A9, c9, e9, _⟩ := own_slice9 HT.out.own
      subst e9
      have hbz := HA.out.below
      have HBZ := Lib.hid hbz
      clear ofz rfz rown rlt hrs hbz
      go_wp2_with fail
      refine bodyPost_ret (v := .agg #[.int .i64 f, .int .i64 d, .slice A9 rs.length c9]) (by simp [results, Try.results15, go_sem, r0, r1, r2]) rfl ?_
      have hrs := HS2.out
      have hbz := HBZ.out
      subst hrs
      refine ⟨A9, c9, rfl, ?_, (by repeat' (first | exact Below.refl _ _ | assumption | (refine Below.drew ?_) | (refine below_drewN ?_ _) | (refine below_thru ?_ (by assumption)) | (refine below_alloc ?_ _) | (refine Below.setCell ?_ (by first | omega | (simp; done) | (simp; omega)) _) | (refine Below.alloc ?_ (by first | omega | (simp; done) | (simp; omega)) _)))⟩
      refine own_mono (ownsRow_setCell_below (ownsRow_setCell_below (ownsRow_setCell_below HT.out.own ?_ _) ?_ _) ?_ _) ?_
      all_goals first | omega | (simp; done) | (simp; omega)

theorem implTurnCard_no (d f : Int) (A : Option Addr) (c : Nat) (ss : List ByteArray) (w : World) (hx : SRow w w.heap.size A ss) (hm : ∀ s ∈ ss, s.size ≤ 4294967296) (h : cardOk d f ss = false) :
    Calls Try.prog 15 #[.agg #[.int .i64 d, .int .i64 f, .slice A ss.length c]] w (NewCard w 0 0 []) := by
  have HC := Lib.hid (fun w hx => implCardOk_any d f A c ss w hx hm)
  have HST := Lib.hid (CardAt.start (d := d) (f := f) (c := c) hx)
  rw [h] at HC
  clear h hx
  go_enter Try.func15, Try.ntmps15
  go_wp2_with fail
  refine (HC.out _ (HST.out.on (below_alloc (Below.refl _ _) _)).full).mono ?_
  rintro e w1 ⟨rfl, hb⟩
  have HCA := Lib.hid ((HST.out.on (below_alloc (Below.refl _ _) (.cells #[.int .i64 0, .int .i64 0, .slice none 0 0] 26))).on hb)
  have HR := Lib.hid ((show OutAt ((w.alloc (.cells #[.int .i64 d, .int .i64 f, .slice A ss.length c] 26)).alloc (.cells #[.int .i64 0, .int .i64 0, .slice none 0 0] 26)) (w.heap.size + 1) (w.heap.size + 2) 0 0 (.slice none 0 0) [] from
    ⟨by go_simp, by go_simp, by go_simp, fun j => by go_simp, World.ownsRow_nil _ _ _ _, Nat.lt_succ_self _⟩).on hb)
  obtain ⟨r0, r1, r2, rfz, rown, rlt⟩ := HR.out
  have f0 := rfz 0
  have f1 := rfz 1
  have f2 := rfz 2
  have HBZ := Lib.hid HCA.out.below
  clear rfz rown rlt hb
  go_wp2_with fail
  refine bodyPost_ret (v := .agg #[.int .i64 0, .int .i64 0, .slice none 0 0]) (by simp [results, Try.results15, go_sem, r0, r1, r2]) rfl ?_
  have hbz := HBZ.out
  exact ⟨none, 0, rfl, World.ownsRow_nil _ _ _ _, (by repeat' (first | exact Below.refl _ _ | assumption | (refine Below.drew ?_) | (refine below_drewN ?_ _) | (refine below_thru ?_ (by assumption)) | (refine below_alloc ?_ _) | (refine Below.setCell ?_ (by first | omega | (simp; done) | (simp; omega)) _) | (refine Below.alloc ?_ (by first | omega | (simp; done) | (simp; omega)) _)))⟩

set_option maxHeartbeats 1000000 in
set_option maxRecDepth 8000 in
theorem specTurnCard_yes (d f : Int) (A : Option Addr) (c : Nat) (ss : List ByteArray) (w : World) (hx : SRow w w.heap.size A ss) (hm : ∀ s ∈ ss, s.size ≤ 4294967296) (h : cardOk d f ss = true) :
    Calls Try.prog 13 #[.agg #[.int .i64 d, .int .i64 f, .slice A ss.length c]] w (NewCard w f d (ss.map turnS)) := by
  have HC := Lib.hid (fun w hx => specCardOk_any d f A c ss w hx hm)
  have HST := Lib.hid (CardAt.start (d := d) (f := f) (c := c) hx)
  obtain ⟨i0, hi0, hz0, hz1, hz2⟩ := info_parts strInfo9
  rw [h] at HC
  have hlen := (cardOk_parts h).2.2.1
  have HVT := Lib.hid (turnS_take ss)
  have HFN := Lib.hid (fun (k : Nat) w (hk : k < ss.length) => (specTurnStrip_any (ss.getD k .empty) w (hm _ (mem_getD hk))).mono (R' := fun e w' => e = .returned (.string (bs (turnStrip (ss.getD k .empty).data.toList))) ∧ Below w.heap.size w w') (fun e w' h => ⟨h.1, h.2 ▸ Below.refl _ _⟩))
  clear h hx
  go_enter Try.func13, Try.ntmps13
  go_wp2_with fail
  refine (HC.out _ (HST.out.on (below_alloc (Below.refl _ _) _)).full).mono ?_
  rintro e w1 ⟨rfl, hb⟩
  have HCA := Lib.hid ((HST.out.on (below_alloc (Below.refl _ _) (.cells #[.int .i64 0, .int .i64 0, .slice none 0 0] 26))).on hb)
  have HR := Lib.hid ((show OutAt ((w.alloc (.cells #[.int .i64 d, .int .i64 f, .slice A ss.length c] 26)).alloc (.cells #[.int .i64 0, .int .i64 0, .slice none 0 0] 26)) (w.heap.size + 1) (w.heap.size + 2) 0 0 (.slice none 0 0) [] from
    ⟨by go_simp, by go_simp, by go_simp, fun j => by go_simp, World.ownsRow_nil _ _ _ _, Nat.lt_succ_self _⟩).on hb)
  clear HST
  obtain ⟨p0, p1, p2, prow, pb, plt⟩ := HCA.out
  clear prow pb hb
  go_wp2_with fail
  have hw1 : w.heap.size + 2 ≤ w1.heap.size := by have := World.block_lt_of_cell? w1 _ HR.out.c0; simp at this; omega
  have HO0 := Lib.hid (show OutAt (w1.alloc (.cells #[.int .i64 f, .int .i64 d, .slice none 0 0] 26)) w1.heap.size (w1.heap.size + 1) f d (.slice none 0 0) [] from
    ⟨by go_simp, by go_simp, by go_simp, fun j => by go_simp, World.ownsRow_nil _ _ _ _, Nat.lt_succ_self _⟩)
  have HR0 := Lib.hid (HR.out.on (below_alloc (Below.refl _ _) (.cells #[.int .i64 f, .int .i64 d, .slice none 0 0] 26)))
  have HC0 := Lib.hid (HCA.out.on (below_alloc (Below.refl _ _) (.cells #[.int .i64 f, .int .i64 d, .slice none 0 0] 26)))
  clear p0 p1 p2 plt HCA HR
  go_loopw [4] (fun kv wr => ∃ (k : Nat) (v : Value) (rs : List ByteArray), k ≤ ss.length ∧ kv = .int .i64 k ∧ rs = (ss.take k).map turnS ∧ rs.length = k ∧ OutAt wr w1.heap.size (w1.heap.size + 1) f d v rs ∧ OutAt wr (w.heap.size + 1) (w.heap.size + 2) 0 0 (.slice none 0 0) [] ∧ CardAt w wr d f A c ss) (fun kv _ => ss.length - (intOf kv).toNat)
  case atStart => exact ⟨0, _, [], Nat.zero_le _, rfl, rfl, rfl, HO0.out, HR0.out, HC0.out⟩
  case round =>
    obtain ⟨k, v, rs, hk, rfl, hrs, hrl, ho, hr, hca⟩ := hrel
    have HT := Lib.hid ho
    have HR := Lib.hid hr
    have HA := Lib.hid hca
    have HRS := Lib.hid hrs
    have HRL := Lib.hid hrl
    obtain ⟨o0, o1, o2, ofz, oown, olt⟩ := ho
    have hrl10 : rs.length ≤ 10 := by omega
    clear HO0 HR0 HC0 hr hrs hrl oown olt
    obtain ⟨p0, p1, p2, prow, pb, plt⟩ := hca
    clear prow pb p0 p1
    by_cases hlt : k < ss.length
    · have hi : (k : Int) < (ss.length : Int) := by omega
      have HFK := Lib.hid (fun w => HFN.out k w hlt)
      have HVK := Lib.hid (HVT.out k hlt)
      have HTD := Lib.hid (HT.out.on ((Below.refl _ wr).drew))
      have HRD := Lib.hid (HR.out.on ((Below.refl _ wr).drew))
      have HAD := Lib.hid (HA.out.on ((Below.refl _ wr).drew))
      obtain ⟨b1, off1, rfl, hb1, hc1⟩ := HA.out.at_ hlt
      have hu : turnS (ss.getD k .empty) = bs (turnStrip (ss.getD k .empty).data.toList) := rfl
      rw [hu] at HVK
      clear hu
      generalize ss.getD k .empty = s at *
      generalize bs (turnStrip s.data.toList) = u at *
      have f2 := ofz 2
      clear ofz o0 o1
      go_wp2_with fail
      go_region_law (first
        | (refine step_append_lies _ rfl _ _ 22 rfl (w1.heap.size + 1) 9 i0 (.string .empty) 1 16 Try.underlying22 hi0 hz0 hz1 hz2 rfl (by decide) v rs.length (rs.map Value.string) rfl (hown2.alloc _) ⟨w2.heap.size, 0, none⟩ 1 1 [.string u] rfl rfl (news_one _ _ _) (one_one rfl) (by decide) (by unfold maxLen; omega) (by omega) (by simp; omega) _ rfl ?_; intro g3 c3 w3 hown3 hgr3 hat3 hlt3; obtain ⟨o3, f3⟩ := HT2.out.still hgr3; have HG3 := Lib.hid hgr3; have HO3 := Lib.hid hown3; clear hgr3 hat3 hlt3 hown3)
        | (go_simp; go_at_call 47; refine (HFK.out _).mono ?_; rintro e w2 ⟨rfl, hb2⟩; have HT2 := Lib.hid (HTD.out.on hb2); have HR2 := Lib.hid (HRD.out.on hb2); have HA2 := Lib.hid (HAD.out.on hb2); have o2' := HT2.out.c2; have f2' := HT2.out.fz 2; have hown2 := HT2.out.own; have hz2' : w1.heap.size < w2.heap.size := World.block_lt_of_cell? w2 _ o2'; clear hb2))
      all_goals
        have hl3 : (rs ++ [u]).length = rs.length + 1 := by simp
        have HT4 := Lib.hid (HT2.out.app (ss' := rs ++ [u]) (by rw [hl3, List.map_append]; exact HO3.out) HG3.out)
        have HR4 := Lib.hid (HT2.out.beside HR2.out rfl (by omega) HG3.out (v' := .slice (some ⟨g3, 0, none⟩) (rs.length + 1) c3))
        have HA4 := Lib.hid (CardAt.beside HT2.out HA2.out (by omega) HG3.out (v' := .slice (some ⟨g3, 0, none⟩) (rs.length + 1) c3))
        have HL3 := Lib.hid hl3
        clear hl3 hown2 o3 f3 o2' f2' o2 f2 hc1 p2
        generalize w3.setCell ⟨w1.heap.size, 2, none⟩ (.slice (some ⟨g3, 0, none⟩) (rs.length + 1) c3) = w4 at *
        go_wp2_with fail
        go_roundw
        case rel => exact ⟨k + 1, _, rs ++ [u], by omega, by go_num, by rw [HVK.out, HRS.out], by rw [HL3.out, HRL.out], HT4.out, HR4.out, HA4.out⟩
        case measure => simp [intOf]; omega
    · obtain rfl : k = ss.length := by omega
      have hrs := HRS.out
      rw [List.take_length] at hrs
      have HS2 := Lib.hid hrs
      obtain ⟨r0, r1, r2, rfz, rown, rlt⟩ := HR.out
      have f0 := rfz 0
      have f1 := rfz 1
      have f2 := rfz 2
      obtain ⟨A9, c9, e9, _⟩ := own_slice9 HT.out.own
      subst e9
      have hbz := HA.out.below
      have HBZ := Lib.hid hbz
      clear ofz rfz rown rlt hrs hbz
      go_wp2_with fail
      refine bodyPost_ret (v := .agg #[.int .i64 f, .int .i64 d, .slice A9 rs.length c9]) (by simp [results, Try.results13, go_sem, r0, r1, r2]) rfl ?_
      have hrs := HS2.out
      have hbz := HBZ.out
      subst hrs
      refine ⟨A9, c9, rfl, ?_, (by repeat' (first | exact Below.refl _ _ | assumption | (refine Below.drew ?_) | (refine below_drewN ?_ _) | (refine below_thru ?_ (by assumption)) | (refine below_alloc ?_ _) | (refine Below.setCell ?_ (by first | omega | (simp; done) | (simp; omega)) _) | (refine Below.alloc ?_ (by first | omega | (simp; done) | (simp; omega)) _)))⟩
      refine own_mono (ownsRow_setCell_below (ownsRow_setCell_below (ownsRow_setCell_below HT.out.own ?_ _) ?_ _) ?_ _) ?_
      all_goals first | omega | (simp; done) | (simp; omega)

theorem specTurnCard_no (d f : Int) (A : Option Addr) (c : Nat) (ss : List ByteArray) (w : World) (hx : SRow w w.heap.size A ss) (hm : ∀ s ∈ ss, s.size ≤ 4294967296) (h : cardOk d f ss = false) :
    Calls Try.prog 13 #[.agg #[.int .i64 d, .int .i64 f, .slice A ss.length c]] w (NewCard w 0 0 []) := by
  have HC := Lib.hid (fun w hx => specCardOk_any d f A c ss w hx hm)
  have HST := Lib.hid (CardAt.start (d := d) (f := f) (c := c) hx)
  rw [h] at HC
  clear h hx
  go_enter Try.func13, Try.ntmps13
  go_wp2_with fail
  refine (HC.out _ (HST.out.on (below_alloc (Below.refl _ _) _)).full).mono ?_
  rintro e w1 ⟨rfl, hb⟩
  have HCA := Lib.hid ((HST.out.on (below_alloc (Below.refl _ _) (.cells #[.int .i64 0, .int .i64 0, .slice none 0 0] 26))).on hb)
  have HR := Lib.hid ((show OutAt ((w.alloc (.cells #[.int .i64 d, .int .i64 f, .slice A ss.length c] 26)).alloc (.cells #[.int .i64 0, .int .i64 0, .slice none 0 0] 26)) (w.heap.size + 1) (w.heap.size + 2) 0 0 (.slice none 0 0) [] from
    ⟨by go_simp, by go_simp, by go_simp, fun j => by go_simp, World.ownsRow_nil _ _ _ _, Nat.lt_succ_self _⟩).on hb)
  obtain ⟨r0, r1, r2, rfz, rown, rlt⟩ := HR.out
  have f0 := rfz 0
  have f1 := rfz 1
  have f2 := rfz 2
  have HBZ := Lib.hid HCA.out.below
  clear rfz rown rlt hb
  go_wp2_with fail
  refine bodyPost_ret (v := .agg #[.int .i64 0, .int .i64 0, .slice none 0 0]) (by simp [results, Try.results13, go_sem, r0, r1, r2]) rfl ?_
  have hbz := HBZ.out
  exact ⟨none, 0, rfl, World.ownsRow_nil _ _ _ _, (by repeat' (first | exact Below.refl _ _ | assumption | (refine Below.drew ?_) | (refine below_drewN ?_ _) | (refine below_thru ?_ (by assumption)) | (refine below_alloc ?_ _) | (refine Below.setCell ?_ (by first | omega | (simp; done) | (simp; omega)) _) | (refine Below.alloc ?_ (by first | omega | (simp; done) | (simp; omega)) _)))⟩

def tcD (d f : Int) (ss : List ByteArray) : Int := if cardOk d f ss = true then f else 0
def tcF (d f : Int) (ss : List ByteArray) : Int := if cardOk d f ss = true then d else 0
def tcS (d f : Int) (ss : List ByteArray) : List ByteArray := if cardOk d f ss = true then ss.map turnS else []
theorem tcS_len (d f : Int) (ss : List ByteArray) : (tcS d f ss).length ≤ ss.length := by
  unfold tcS
  by_cases h : cardOk d f ss = true
  · rw [if_pos h, List.length_map]; exact Nat.le_refl _
  · rw [if_neg h]; exact Nat.zero_le _

theorem implTurnCard_any (d f : Int) (A : Option Addr) (c : Nat) (ss : List ByteArray) (w : World) (hx : SRow w w.heap.size A ss) (hm : ∀ s ∈ ss, s.size ≤ 4294967296) :
    Calls Try.prog 15 #[.agg #[.int .i64 d, .int .i64 f, .slice A ss.length c]] w (NewCard w (tcD d f ss) (tcF d f ss) (tcS d f ss)) := by
  unfold tcD tcF tcS
  cases h : cardOk d f ss
  · exact implTurnCard_no d f A c ss w hx hm h
  · exact implTurnCard_yes d f A c ss w hx hm h

theorem specTurnCard_any (d f : Int) (A : Option Addr) (c : Nat) (ss : List ByteArray) (w : World) (hx : SRow w w.heap.size A ss) (hm : ∀ s ∈ ss, s.size ≤ 4294967296) :
    Calls Try.prog 13 #[.agg #[.int .i64 d, .int .i64 f, .slice A ss.length c]] w (NewCard w (tcD d f ss) (tcF d f ss) (tcS d f ss)) := by
  unfold tcD tcF tcS
  cases h : cardOk d f ss
  · exact specTurnCard_no d f A c ss w hx hm h
  · exact specTurnCard_yes d f A c ss w hx hm h

end Go.Proofs.Ytkhlolhmaoenoaa
