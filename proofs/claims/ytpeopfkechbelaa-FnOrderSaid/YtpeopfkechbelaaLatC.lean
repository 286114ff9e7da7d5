
/-
  Contracts of the program's UpperCard and LowerCard on two valid cards of one frame with as many strips. (printed by wip/gen_latc.py)
-/
import Derived.Test.YtpeopfkechbelaaLatS
import Derived.Test.YtpeopfkechbelaaTurnC
import Derived.Deep.Cut
import Derived.Deep.RegionLaw
import Derived.Deep.AppendLies
namespace Go.Proofs.Ytpeopfkechbelaa
open Go.ChangeShapes Go.WideShapes Go.ChangeAt Go.RowKit Go.Deep Go.BigFrame
set_option linter.unusedVariables false
set_option linter.unusedSimpArgs false

/-- a card in block o whose strips lie below B -/
structure CAt (wr : World) (o B : Nat) (d f : Int) (A : Option Addr) (c n : Nat) (ss : List ByteArray) : Prop where
  c0 : wr.cell? ⟨o, 0, none⟩ = some (.int .i64 d)
  c1 : wr.cell? ⟨o, 1, none⟩ = some (.int .i64 f)
  c2 : wr.cell? ⟨o, 2, none⟩ = some (.slice A n c)
  row : SRow wr B A ss
  len : ss.length = n
  lo : B ≤ wr.heap.size
section
variable {wr w' w2 w3 : World} {o o2 B base c n : Nat} {d f d2 f2 : Int} {A : Option Addr} {ss ss2 : List ByteArray} {v v' : Value} {ob : Obj}
theorem CAt.lt (h : CAt wr o B d f A c n ss) : o < wr.heap.size := World.block_lt_of_cell? wr _ h.c0
theorem CAt.keep (h : CAt wr o B d f A c n ss) (hk : ∀ b, (b < B ∨ b = o) → w'.heap[b]? = wr.heap[b]?) (hs : wr.heap.size ≤ w'.heap.size) : CAt w' o B d f A c n ss :=
  ⟨(World.cell?_of_block (hk o (.inr rfl))).trans h.c0, (World.cell?_of_block (hk o (.inr rfl))).trans h.c1, (World.cell?_of_block (hk o (.inr rfl))).trans h.c2, Row.keep h.row (fun b o hl => World.cell?_of_block (hk b (.inl hl))), h.len, Nat.le_trans h.lo hs⟩
theorem CAt.on (h : CAt wr o B d f A c n ss) (hb : Below wr.heap.size wr w') : CAt w' o B d f A c n ss :=
  h.keep (fun b hb2 => hb.block b (by rcases hb2 with h1 | h1; have := h.lo; omega; rw [h1]; exact h.lt)) hb.size
theorem CAt.grownR {row : Option Nat} (h : CAt wr o B d f A c n ss) (hg : wr.grownBy w' row) (hr : ∀ g, row = some g → B ≤ g ∧ g ≠ o) : CAt w' o B d f A c n ss :=
  h.keep (fun b hb2 => hg.block b (by rcases hb2 with h1 | h1; have := h.lo; omega; rw [h1]; exact h.lt) (fun e => by have := hr b e.symm; omega)) hg.size
theorem CAt.full (h : CAt wr o B d f A c n ss) : SRow wr wr.heap.size A ss := Row.more h.row h.lo
theorem CAt.at_ (h : CAt wr o B d f A c n ss) {k : Nat} (hk : k < n) : ∃ b off, A = some ⟨b, off, none⟩ ∧ b < B ∧ wr.cell? ⟨b, off + k, none⟩ = some (.string (ss.getD k .empty)) := SRow.at_ h.row (by rw [h.len]; exact hk)
theorem CAt.beside (h : OutAt w2 o base d f v ss) (hb : CAt w2 o2 B d2 f2 A c n ss2) (hlt : o2 < o) (hB : B ≤ o) (hg : (w2.alloc ob).grownBy w3 v.ownBlock) : CAt (w3.setCell ⟨o, 2, none⟩ v') o2 B d2 f2 A c n ss2 := by
  have hg2 := grown_trans (World.grownBy_alloc w2 ob v.ownBlock) hg
  have h3 := hb.grownR hg2 (fun g e => by have := (h.own.lt g e).1; have := h.lt; omega)
  exact h3.grownR (row := some o) ⟨rfl, rfl, rfl, by simp, fun k hk hne => heap_setCell_other w3 _ k _ (fun e => hne (by simp [e]))⟩ (fun g e => by simp at e; omega)
theorem below_beside {w : World} {L : Nat} (h : OutAt w2 o base d f v ss) (hb : Below L w w2) (hL : L ≤ o) (hL2 : L ≤ w2.heap.size) (hg : (w2.alloc ob).grownBy w3 v.ownBlock) : Below L w (w3.setCell ⟨o, 2, none⟩ v') := by
  have hg2 := grown_trans (World.grownBy_alloc w2 ob v.ownBlock) hg
  exact (hb.grown hg2 hL2 (fun g e => by have := (h.own.lt g e).1; have := h.lt; omega)).setCell hL _
end

/-- strip by strip -/
def zipS (up : Bool) (ss tt : List ByteArray) : Nat → List ByteArray
  | 0 => []
  | k + 1 => zipS up ss tt k ++ [bs (mix up (ss.getD k .empty).data.toList (tt.getD k .empty).data.toList)]
theorem zipS_len (up : Bool) (ss tt : List ByteArray) (k : Nat) : (zipS up ss tt k).length = k := by
  induction k with
  | zero => rfl
  | succ k ih => simp [zipS, ih]

/-- what it returns -/
def NewJoinU (w : World) (d f : Int) (n : Nat) (ss tt : List ByteArray) (e : Ending) (w' : World) : Prop :=
  ∃ A' c', e = .returned (.tuple #[.agg #[.int .i64 d, .int .i64 f, .slice A' n c'], .bool true]) ∧ w'.ownsRow w.heap.size 9 1 (.slice A' n c') n ((zipS true ss tt n).map Value.string) ∧ Below w.heap.size w w'

set_option maxHeartbeats 2000000 in
set_option maxRecDepth 8000 in
theorem joinedU_any (d f : Int) (A B : Option Addr) (c e n : Nat) (ss tt : List ByteArray) (w : World) (hx : SRow w w.heap.size A ss) (hy : SRow w w.heap.size B tt) (hn : ss.length = n) (hn2 : tt.length = n)
    (h1 : cardOk d f ss = true) (h2 : cardOk d f tt = true) (hm : ∀ s ∈ ss, s.size ≤ 4294967296) (hm2 : ∀ s ∈ tt, s.size ≤ 4294967296) :
    Calls Try.prog 60 #[.agg #[.int .i64 d, .int .i64 f, .slice A n c], .agg #[.int .i64 d, .int .i64 f, .slice B n e], .func (.func 9) #[] #[]] w (NewJoinU w d f n ss tt) := by
  obtain ⟨i0, hi0, hz0, hz1, hz2⟩ := info_parts strInfo9
  have HC1 := Lib.hid (fun w hx => implCardOk_any d f A c ss w hx hm)
  have HC2 := Lib.hid (fun w hy => implCardOk_any d f B e tt w hy hm2)
  rw [h1, hn] at HC1
  rw [h2, hn2] at HC2
  have hlen := (cardOk_parts h1).2.2.1
  rw [hn] at hlen
  have HFN := Lib.hid (fun (k : Nat) w (hk : k < n) => show Calls Try.prog 9 #[.string (ss.getD k .empty), .string (tt.getD k .empty)] w (fun e w' => e = .returned (.string (bs (mix true (ss.getD k .empty).data.toList (tt.getD k .empty).data.toList))) ∧ Below w.heap.size w w') from
    (implUpperOf_any (ss.getD k .empty) (tt.getD k .empty) w (hm _ (mem_getD (by omega))) (hm2 _ (mem_getD (by omega)))).mono fun e w' ⟨h3, h4⟩ => ⟨h3, by rw [← h4]; exact Below.refl _ _⟩)
  have HZ := Lib.hid (fun k => show zipS true ss tt (k + 1) = zipS true ss tt k ++ [bs (mix true (ss.getD k .empty).data.toList (tt.getD k .empty).data.toList)] from rfl)
  have HZL := Lib.hid (zipS_len true ss tt)
  have hbz : ∀ W, w.heap.size ≤ W → w.heap.size ≤ W := fun _ h => h
  have HA0 := Lib.hid (show CAt (((w.alloc (.cells #[.int .i64 d, .int .i64 f, .slice A n c] 30)).alloc (.cells #[.int .i64 d, .int .i64 f, .slice B n e] 30)).alloc (.cells #[.int .i64 0, .int .i64 0, .slice none 0 0] 30)) w.heap.size w.heap.size d f A c n ss from
    ⟨by go_simp, by go_simp, by go_simp, Row.alloc (Row.alloc (Row.alloc hx (Nat.le_refl _) _) (by simp) _) (by simp; omega) _, hn, by simp; omega⟩)
  have HB0 := Lib.hid (show CAt (((w.alloc (.cells #[.int .i64 d, .int .i64 f, .slice A n c] 30)).alloc (.cells #[.int .i64 d, .int .i64 f, .slice B n e] 30)).alloc (.cells #[.int .i64 0, .int .i64 0, .slice none 0 0] 30)) (w.heap.size + 1) w.heap.size d f B e n tt from
    ⟨by go_simp, by go_simp, by go_simp, Row.alloc (Row.alloc (Row.alloc hy (Nat.le_refl _) _) (by simp) _) (by simp; omega) _, hn2, by simp; omega⟩)
  have HR0 := Lib.hid (show OutAt (((w.alloc (.cells #[.int .i64 d, .int .i64 f, .slice A n c] 30)).alloc (.cells #[.int .i64 d, .int .i64 f, .slice B n e] 30)).alloc (.cells #[.int .i64 0, .int .i64 0, .slice none 0 0] 30)) (w.heap.size + 2) (w.heap.size + 3) 0 0 (.slice none 0 0) [] from
    ⟨by go_simp, by go_simp, by go_simp, fun j => by go_simp, World.ownsRow_nil _ _ _ _, Nat.lt_succ_self _⟩)
  have HL0 := Lib.hid (below_alloc (below_alloc (below_alloc (Below.refl w.heap.size w) (.cells #[.int .i64 d, .int .i64 f, .slice A n c] 30)) (.cells #[.int .i64 d, .int .i64 f, .slice B n e] 30)) (.cells #[.int .i64 0, .int .i64 0, .slice none 0 0] 30))
  clear h1 h2 hx hy hm hm2 hbz hn hn2
  go_enter Try.func60, Try.ntmps60
  go_upto_region 1 with (fail)
  generalize ((w.alloc (.cells #[.int .i64 d, .int .i64 f, .slice A n c] 30)).alloc (.cells #[.int .i64 d, .int .i64 f, .slice B n e] 30)).alloc (.cells #[.int .i64 0, .int .i64 0, .slice none 0 0] 30) = w1 at *
  obtain ⟨p0, p1, p2, _, _, _⟩ := HA0.out
  obtain ⟨q0, q1, q2, _, _, _⟩ := HB0.out
  go_wp2_with fail
  refine (HC1.out _ HA0.out.full).mono ?_
  rintro e w2 ⟨rfl, hb⟩
  have HA2 := Lib.hid (HA0.out.on hb)
  have HB2 := Lib.hid (HB0.out.on hb)
  have HR2 := Lib.hid (HR0.out.on hb)
  have HL2 := Lib.hid (below_thru HL0.out hb)
  clear hb p0 p1 p2 q0 q1 q2 HA0 HB0 HR0 HL0
  obtain ⟨p0, p1, p2, _, _, _⟩ := HA2.out
  obtain ⟨q0, q1, q2, _, _, _⟩ := HB2.out
  go_wp2_with fail
  refine (HC2.out _ HB2.out.full).mono ?_
  rintro e w3 ⟨rfl, hb⟩
  have HA3 := Lib.hid (HA2.out.on hb)
  have HB3 := Lib.hid (HB2.out.on hb)
  have HR3 := Lib.hid (HR2.out.on hb)
  have HL3 := Lib.hid (below_thru HL2.out hb)
  clear hb p0 p1 p2 q0 q1 q2 HA2 HB2 HR2 HL2
  obtain ⟨p0, p1, p2, _, _, _⟩ := HA3.out
  obtain ⟨q0, q1, q2, _, _, _⟩ := HB3.out
  have hnn : ((n : Int) != (n : Int)) = false := by simp
  have hdd : (d != d) = false := by simp
  have hff : (f != f) = false := by simp
  go_upto_region 4 with (fail)
  have hw3 : w.heap.size + 3 ≤ w3.heap.size := World.block_lt_of_cell? w3 _ HR3.out.c0
  have HO4 := Lib.hid (show OutAt (w3.alloc (.cells #[.int .i64 d, .int .i64 f, .slice none 0 0] 30)) w3.heap.size (w3.heap.size + 1) d f (.slice none 0 0) [] from
    ⟨by go_simp, by go_simp, by go_simp, fun j => by go_simp, World.ownsRow_nil _ _ _ _, Nat.lt_succ_self _⟩)
  have HR4 := Lib.hid (HR3.out.on (below_alloc (Below.refl _ _) (.cells #[.int .i64 d, .int .i64 f, .slice none 0 0] 30)))
  have HA4 := Lib.hid (HA3.out.on (below_alloc (Below.refl _ _) (.cells #[.int .i64 d, .int .i64 f, .slice none 0 0] 30)))
  have HB4 := Lib.hid (HB3.out.on (below_alloc (Below.refl _ _) (.cells #[.int .i64 d, .int .i64 f, .slice none 0 0] 30)))
  have HL4 := Lib.hid (below_alloc HL3.out (.cells #[.int .i64 d, .int .i64 f, .slice none 0 0] 30))
  generalize w3.alloc (.cells #[.int .i64 d, .int .i64 f, .slice none 0 0] 30) = w4 at *
  generalize w3.heap.size = ob at *
  clear p0 p1 p2 q0 q1 q2 HA3 HB3 HR3 HL3 HC1 HC2 hnn hdd hff
  obtain ⟨p0, p1, p2, _, _, _⟩ := HA4.out
  go_wp2_with fail
  clear p0 p1 p2
  go_loopw [51] (fun kv wr => ∃ (k : Nat) (v : Value) (rs : List ByteArray), k ≤ n ∧ kv = .int .i64 k ∧ rs = zipS true ss tt k ∧ rs.length = k ∧ OutAt wr ob (ob + 1) d f v rs ∧ OutAt wr (w.heap.size + 2) (w.heap.size + 3) 0 0 (.slice none 0 0) [] ∧ CAt wr w.heap.size w.heap.size d f A c n ss ∧ CAt wr (w.heap.size + 1) w.heap.size d f B e n tt ∧ Below w.heap.size w wr) (fun kv _ => n - (intOf kv).toNat)
  case atStart => exact ⟨0, _, [], Nat.zero_le _, rfl, rfl, rfl, HO4.out, HR4.out, HA4.out, HB4.out, HL4.out⟩
  case round =>
    obtain ⟨k, v, rs, hk, rfl, hrs, hrl, ho, hr, hca, hcb, hbl⟩ := hrel
    have HT := Lib.hid ho
    have HR := Lib.hid hr
    have HA := Lib.hid hca
    have HB := Lib.hid hcb
    have HL := Lib.hid hbl
    have HRS := Lib.hid hrs
    have HRL := Lib.hid hrl
    have hrl10 : rs.length ≤ 10 := by omega
    clear HO4 HR4 HA4 HB4 HL4 hr hca hcb hbl hrs hrl ho
    by_cases hlt : k < n
    · have hi : (k : Int) < (n : Int) := by omega
      have HFK := Lib.hid (fun w => HFN.out k w hlt)
      have HZK := Lib.hid (HZ.out k)
      have HTD := Lib.hid (HT.out.on ((Below.refl _ wr).drew))
      have HRD := Lib.hid (HR.out.on ((Below.refl _ wr).drew))
      have HAD := Lib.hid (HA.out.on ((Below.refl _ wr).drew))
      have HBD := Lib.hid (HB.out.on ((Below.refl _ wr).drew))
      have HLD := Lib.hid (below_thru HL.out ((Below.refl _ wr).drew))
      obtain ⟨b1, off1, rfl, hb1, hc1⟩ := HA.out.at_ hlt
      obtain ⟨b2, off2, rfl, hb2, hc2⟩ := HB.out.at_ hlt
      generalize ss.getD k .empty = s at *
      generalize tt.getD k .empty = t at *
      generalize bs (mix true s.data.toList t.data.toList) = u at *
      obtain ⟨o0, o1, o2, ofz, oown, olt⟩ := HT.out
      have f2 := ofz 2
      obtain ⟨q0, q1, q2, _, _, _⟩ := HB.out
      clear ofz o0 o1 oown olt q0 q1
      go_wp2_with fail
      go_region_law (first
        | (refine step_append_lies _ rfl _ _ 28 rfl (ob + 1) 9 i0 (.string .empty) 1 16 Try.underlying28 hi0 hz0 hz1 hz2 rfl (by decide) v rs.length (rs.map Value.string) rfl (hown2.alloc _) ⟨w2.heap.size, 0, none⟩ 1 1 [.string u] rfl rfl (news_one _ _ _) (one_one rfl) (by decide) (by unfold maxLen; omega) (by omega) (by simp; omega) _ rfl ?_; intro g3 c3 w3 hown3 hgr3 hat3 hlt3; obtain ⟨o3, f3⟩ := HT2.out.still hgr3; have HG3 := Lib.hid hgr3; have HO3 := Lib.hid hown3; clear hgr3 hat3 hlt3 hown3)
        | (go_simp; go_at_call 9; refine (HFK.out _).mono ?_; rintro e w2 ⟨rfl, hb2⟩; have HT2 := Lib.hid (HTD.out.on hb2); have HR2 := Lib.hid (HRD.out.on hb2); have HA2 := Lib.hid (HAD.out.on hb2); have HB2 := Lib.hid (HBD.out.on hb2); have HL2 := Lib.hid (below_thru HLD.out hb2); have o2' := HT2.out.c2; have f2' := HT2.out.fz 2; have hown2 := HT2.out.own; have hz2' : ob < w2.heap.size := World.block_lt_of_cell? w2 _ o2'; clear hb2))
      all_goals
        have hl3 : (rs ++ [u]).length = rs.length + 1 := by simp
        have HT4 := Lib.hid (HT2.out.app (ss' := rs ++ [u]) (by rw [hl3, List.map_append]; exact HO3.out) HG3.out)
        have HR4 := Lib.hid (HT2.out.beside HR2.out rfl (by omega) HG3.out (v' := .slice (some ⟨g3, 0, none⟩) (rs.length + 1) c3))
        have HA4 := Lib.hid (CAt.beside HT2.out HA2.out (by omega) (by omega) HG3.out (v' := .slice (some ⟨g3, 0, none⟩) (rs.length + 1) c3))
        have HB4 := Lib.hid (CAt.beside HT2.out HB2.out (by omega) (by omega) HG3.out (v' := .slice (some ⟨g3, 0, none⟩) (rs.length + 1) c3))
        have HL4 := Lib.hid (below_beside HT2.out HL2.out (by omega) (by omega) HG3.out (v' := .slice (some ⟨g3, 0, none⟩) (rs.length + 1) c3))
        have HL3 := Lib.hid hl3
        clear hl3 hown2 o3 f3 o2' f2' o2 f2 hc1 hc2
        generalize w3.setCell ⟨ob, 2, none⟩ (.slice (some ⟨g3, 0, none⟩) (rs.length + 1) c3) = w4 at *
        go_wp2_with fail
        go_roundw
        case rel => exact ⟨k + 1, _, rs ++ [u], by omega, by go_num, by rw [HZK.out, HRS.out], by rw [HL3.out, HRL.out], HT4.out, HR4.out, HA4.out, HB4.out, HL4.out⟩
        case measure => simp [intOf]; omega
    · obtain rfl : k = n := by omega
      have HS2 := Lib.hid HRS.out
      obtain ⟨o0, o1, o2, _, _, _⟩ := HT.out
      obtain ⟨r0, r1, r2, rfz, rown, rlt⟩ := HR.out
      have f0 := rfz 0
      have f1 := rfz 1
      have f2 := rfz 2
      obtain ⟨A9, c9, e9, _⟩ := own_slice9 HT.out.own
      subst e9
      clear rfz rown rlt
      go_wp2_with fail
      refine bodyPost_ret (v := .tuple #[.agg #[.int .i64 d, .int .i64 f, .slice A9 rs.length c9], .bool true]) (by simp [results, Try.results60, go_sem, r0, r1, r2]) rfl ?_
      have hbz := HL.out
      have hrs := HS2.out
      have hrl := HRL.out
      rw [hrl]
      refine ⟨A9, c9, rfl, ?_, (by repeat' (first | exact Below.refl _ _ | assumption | (refine Below.drew ?_) | (refine below_drewN ?_ _) | (refine below_thru ?_ (by assumption)) | (refine below_alloc ?_ _) | (refine Below.setCell ?_ (by first | omega | (simp; done) | (simp; omega)) _) | (refine Below.alloc ?_ (by first | omega | (simp; done) | (simp; omega)) _)))⟩
      have ho := HT.out.own
      rw [hrl, hrs] at ho
      refine own_mono (ownsRow_setCell_below (ownsRow_setCell_below (ownsRow_setCell_below ho ?_ _) ?_ _) ?_ _) ?_
      all_goals first | omega | (simp; done) | (simp; omega)

set_option maxHeartbeats 1000000 in
theorem implUpperCard_any (d f : Int) (A B : Option Addr) (c e n : Nat) (ss tt : List ByteArray) (w : World) (hx : SRow w w.heap.size A ss) (hy : SRow w w.heap.size B tt) (hn : ss.length = n) (hn2 : tt.length = n)
    (h1 : cardOk d f ss = true) (h2 : cardOk d f tt = true) (hm : ∀ s ∈ ss, s.size ≤ 4294967296) (hm2 : ∀ s ∈ tt, s.size ≤ 4294967296) :
    Calls Try.prog 13 #[.agg #[.int .i64 d, .int .i64 f, .slice A n c], .agg #[.int .i64 d, .int .i64 f, .slice B n e]] w (NewJoinU w d f n ss tt) := by
  have HJ := Lib.hid (fun w hx hy => joinedU_any d f A B c e n ss tt w hx hy hn hn2 h1 h2 hm hm2)
  have HA0 := Lib.hid (show SRow (((w.alloc (.cells #[.int .i64 d, .int .i64 f, .slice A n c] 30)).alloc (.cells #[.int .i64 d, .int .i64 f, .slice B n e] 30)).alloc (.cells #[.int .i64 0, .int .i64 0, .slice none 0 0] 30)) w.heap.size A ss from
    Row.alloc (Row.alloc (Row.alloc hx (Nat.le_refl _) _) (by simp) _) (by simp; omega) _)
  have HB0 := Lib.hid (show SRow (((w.alloc (.cells #[.int .i64 d, .int .i64 f, .slice A n c] 30)).alloc (.cells #[.int .i64 d, .int .i64 f, .slice B n e] 30)).alloc (.cells #[.int .i64 0, .int .i64 0, .slice none 0 0] 30)) w.heap.size B tt from
    Row.alloc (Row.alloc (Row.alloc hy (Nat.le_refl _) _) (by simp) _) (by simp; omega) _)
  have HR0 := Lib.hid (show OutAt (((w.alloc (.cells #[.int .i64 d, .int .i64 f, .slice A n c] 30)).alloc (.cells #[.int .i64 d, .int .i64 f, .slice B n e] 30)).alloc (.cells #[.int .i64 0, .int .i64 0, .slice none 0 0] 30)) (w.heap.size + 2) (w.heap.size + 3) 0 0 (.slice none 0 0) [] from
    ⟨by go_simp, by go_simp, by go_simp, fun j => by go_simp, World.ownsRow_nil _ _ _ _, Nat.lt_succ_self _⟩)
  have HL0 := Lib.hid (below_alloc (below_alloc (below_alloc (Below.refl w.heap.size w) (.cells #[.int .i64 d, .int .i64 f, .slice A n c] 30)) (.cells #[.int .i64 d, .int .i64 f, .slice B n e] 30)) (.cells #[.int .i64 0, .int .i64 0, .slice none 0 0] 30))
  have hc0 : (((w.alloc (.cells #[.int .i64 d, .int .i64 f, .slice A n c] 30)).alloc (.cells #[.int .i64 d, .int .i64 f, .slice B n e] 30)).alloc (.cells #[.int .i64 0, .int .i64 0, .slice none 0 0] 30)).cell? ⟨w.heap.size, 0, none⟩ = some (.int .i64 d) := by go_simp
  have hc1 : (((w.alloc (.cells #[.int .i64 d, .int .i64 f, .slice A n c] 30)).alloc (.cells #[.int .i64 d, .int .i64 f, .slice B n e] 30)).alloc (.cells #[.int .i64 0, .int .i64 0, .slice none 0 0] 30)).cell? ⟨w.heap.size, 1, none⟩ = some (.int .i64 f) := by go_simp
  have hc2 : (((w.alloc (.cells #[.int .i64 d, .int .i64 f, .slice A n c] 30)).alloc (.cells #[.int .i64 d, .int .i64 f, .slice B n e] 30)).alloc (.cells #[.int .i64 0, .int .i64 0, .slice none 0 0] 30)).cell? ⟨w.heap.size, 2, none⟩ = some (.slice A n c) := by go_simp
  have hd0 : (((w.alloc (.cells #[.int .i64 d, .int .i64 f, .slice A n c] 30)).alloc (.cells #[.int .i64 d, .int .i64 f, .slice B n e] 30)).alloc (.cells #[.int .i64 0, .int .i64 0, .slice none 0 0] 30)).cell? ⟨w.heap.size + 1, 0, none⟩ = some (.int .i64 d) := by go_simp
  have hd1 : (((w.alloc (.cells #[.int .i64 d, .int .i64 f, .slice A n c] 30)).alloc (.cells #[.int .i64 d, .int .i64 f, .slice B n e] 30)).alloc (.cells #[.int .i64 0, .int .i64 0, .slice none 0 0] 30)).cell? ⟨w.heap.size + 1, 1, none⟩ = some (.int .i64 f) := by go_simp
  have hd2 : (((w.alloc (.cells #[.int .i64 d, .int .i64 f, .slice A n c] 30)).alloc (.cells #[.int .i64 d, .int .i64 f, .slice B n e] 30)).alloc (.cells #[.int .i64 0, .int .i64 0, .slice none 0 0] 30)).cell? ⟨w.heap.size + 1, 2, none⟩ = some (.slice B n e) := by go_simp
  have hsz : (((w.alloc (.cells #[.int .i64 d, .int .i64 f, .slice A n c] 30)).alloc (.cells #[.int .i64 d, .int .i64 f, .slice B n e] 30)).alloc (.cells #[.int .i64 0, .int .i64 0, .slice none 0 0] 30)).heap.size = w.heap.size + 3 := by simp
  clear h1 h2 hx hy hm hm2 hn hn2
  go_enter Try.func13, Try.ntmps13
  go_upto_region 1 with (fail)
  generalize ((w.alloc (.cells #[.int .i64 d, .int .i64 f, .slice A n c] 30)).alloc (.cells #[.int .i64 d, .int .i64 f, .slice B n e] 30)).alloc (.cells #[.int .i64 0, .int .i64 0, .slice none 0 0] 30) = w1 at *
  have HSZ := Lib.hid hsz
  clear hsz
  go_wp2_with fail
  refine (HJ.out _ (Row.more HA0.out (by rw [HSZ.out]; omega)) (Row.more HB0.out (by rw [HSZ.out]; omega))).mono ?_
  rintro e w2 ⟨A9, c9, rfl, ho, hb⟩
  have HO := Lib.hid ho
  have HR2 := Lib.hid (HR0.out.on hb)
  have HL2 := Lib.hid (below_thru HL0.out hb)
  obtain ⟨r0, r1, r2, rfz, rown, rlt⟩ := HR2.out
  have f0 := rfz 0
  have f1 := rfz 1
  have f2 := rfz 2
  clear rfz rown rlt ho hb hc0 hc1 hc2 hd0 hd1 hd2
  go_wp2_with fail
  refine bodyPost_ret (v := .tuple #[.agg #[.int .i64 d, .int .i64 f, .slice A9 n c9], .bool true]) (by simp [results, Try.results13, go_sem, r0, r1, r2]) rfl ?_
  have hbz := HL2.out
  have hsz := HSZ.out
  refine ⟨A9, c9, rfl, ?_, (by repeat' (first | exact Below.refl _ _ | assumption | (refine Below.drew ?_) | (refine below_drewN ?_ _) | (refine below_thru ?_ (by assumption)) | (refine below_alloc ?_ _) | (refine Below.setCell ?_ (by first | omega | (simp; done) | (simp; omega)) _) | (refine Below.alloc ?_ (by first | omega | (simp; done) | (simp; omega)) _)))⟩
  refine own_mono (ownsRow_setCell_below (ownsRow_setCell_below (ownsRow_setCell_below HO.out ?_ _) ?_ _) ?_ _) ?_
  all_goals first | omega | (simp; done) | (simp; omega)

/-- what it returns -/
def NewJoinD (w : World) (d f : Int) (n : Nat) (ss tt : List ByteArray) (e : Ending) (w' : World) : Prop :=
  ∃ A' c', e = .returned (.tuple #[.agg #[.int .i64 d, .int .i64 f, .slice A' n c'], .bool true]) ∧ w'.ownsRow w.heap.size 9 1 (.slice A' n c') n ((zipS false ss tt n).map Value.string) ∧ Below w.heap.size w w'

set_option maxHeartbeats 2000000 in
set_option maxRecDepth 8000 in
theorem joinedD_any (d f : Int) (A B : Option Addr) (c e n : Nat) (ss tt : List ByteArray) (w : World) (hx : SRow w w.heap.size A ss) (hy : SRow w w.heap.size B tt) (hn : ss.length = n) (hn2 : tt.length = n)
    (h1 : cardOk d f ss = true) (h2 : cardOk d f tt = true) (hm : ∀ s ∈ ss, s.size ≤ 4294967296) (hm2 : ∀ s ∈ tt, s.size ≤ 4294967296) :
    Calls Try.prog 60 #[.agg #[.int .i64 d, .int .i64 f, .slice A n c], .agg #[.int .i64 d, .int .i64 f, .slice B n e], .func (.func 10) #[] #[]] w (NewJoinD w d f n ss tt) := by
  obtain ⟨i0, hi0, hz0, hz1, hz2⟩ := info_parts strInfo9
  have HC1 := Lib.hid (fun w hx => implCardOk_any d f A c ss w hx hm)
  have HC2 := Lib.hid (fun w hy => implCardOk_any d f B e tt w hy hm2)
  rw [h1, hn] at HC1
  rw [h2, hn2] at HC2
  have hlen := (cardOk_parts h1).2.2.1
  rw [hn] at hlen
  have HFN := Lib.hid (fun (k : Nat) w (hk : k < n) => show Calls Try.prog 10 #[.string (ss.getD k .empty), .string (tt.getD k .empty)] w (fun e w' => e = .returned (.string (bs (mix false (ss.getD k .empty).data.toList (tt.getD k .empty).data.toList))) ∧ Below w.heap.size w w') from
    (implLowerOf_any (ss.getD k .empty) (tt.getD k .empty) w (hm _ (mem_getD (by omega))) (hm2 _ (mem_getD (by omega)))).mono fun e w' ⟨h3, h4⟩ => ⟨h3, by rw [← h4]; exact Below.refl _ _⟩)
  have HZ := Lib.hid (fun k => show zipS false ss tt (k + 1) = zipS false ss tt k ++ [bs (mix false (ss.getD k .empty).data.toList (tt.getD k .empty).data.toList)] from rfl)
  have HZL := Lib.hid (zipS_len false ss tt)
  have hbz : ∀ W, w.heap.size ≤ W → w.heap.size ≤ W := fun _ h => h
  have HA0 := Lib.hid (show CAt (((w.alloc (.cells #[.int .i64 d, .int .i64 f, .slice A n c] 30)).alloc (.cells #[.int .i64 d, .int .i64 f, .slice B n e] 30)).alloc (.cells #[.int .i64 0, .int .i64 0, .slice none 0 0] 30)) w.heap.size w.heap.size d f A c n ss from
    ⟨by go_simp, by go_simp, by go_simp, Row.alloc (Row.alloc (Row.alloc hx (Nat.le_refl _) _) (by simp) _) (by simp; omega) _, hn, by simp; omega⟩)
  have HB0 := Lib.hid (show CAt (((w.alloc (.cells #[.int .i64 d, .int .i64 f, .slice A n c] 30)).alloc (.cells #[.int .i64 d, .int .i64 f, .slice B n e] 30)).alloc (.cells #[.int .i64 0, .int .i64 0, .slice none 0 0] 30)) (w.heap.size + 1) w.heap.size d f B e n tt from
    ⟨by go_simp, by go_simp, by go_simp, Row.alloc (Row.alloc (Row.alloc hy (Nat.le_refl _) _) (by simp) _) (by simp; omega) _, hn2, by simp; omega⟩)
  have HR0 := Lib.hid (show OutAt (((w.alloc (.cells #[.int .i64 d, .int .i64 f, .slice A n c] 30)).alloc (.cells #[.int .i64 d, .int .i64 f, .slice B n e] 30)).alloc (.cells #[.int .i64 0, .int .i64 0, .slice none 0 0] 30)) (w.heap.size + 2) (w.heap.size + 3) 0 0 (.slice none 0 0) [] from
    ⟨by go_simp, by go_simp, by go_simp, fun j => by go_simp, World.ownsRow_nil _ _ _ _, Nat.lt_succ_self _⟩)
  have HL0 := Lib.hid (below_alloc (below_alloc (below_alloc (Below.refl w.heap.size w) (.cells #[.int .i64 d, .int .i64 f, .slice A n c] 30)) (.cells #[.int .i64 d, .int .i64 f, .slice B n e] 30)) (.cells #[.int .i64 0, .int .i64 0, .slice none 0 0] 30))
  clear h1 h2 hx hy hm hm2 hbz hn hn2
  go_enter Try.func60, Try.ntmps60
  go_upto_region 1 with (fail)
  generalize ((w.alloc (.cells #[.int .i64 d, .int .i64 f, .slice A n c] 30)).alloc (.cells #[.int .i64 d, .int .i64 f, .slice B n e] 30)).alloc (.cells #[.int .i64 0, .int .i64 0, .slice none 0 0] 30) = w1 at *
  obtain ⟨p0, p1, p2, _, _, _⟩ := HA0.out
  obtain ⟨q0, q1, q2, _, _, _⟩ := HB0.out
  go_wp2_with fail
  refine (HC1.out _ HA0.out.full).mono ?_
  rintro e w2 ⟨rfl, hb⟩
  have HA2 := Lib.hid (HA0.out.on hb)
  have HB2 := Lib.hid (HB0.out.on hb)
  have HR2 := Lib.hid (HR0.out.on hb)
  have HL2 := Lib.hid (below_thru HL0.out hb)
  clear hb p0 p1 p2 q0 q1 q2 HA0 HB0 HR0 HL0
  obtain ⟨p0, p1, p2, _, _, _⟩ := HA2.out
  obtain ⟨q0, q1, q2, _, _, _⟩ := HB2.out
  go_wp2_with fail
  refine (HC2.out _ HB2.out.full).mono ?_
  rintro e w3 ⟨rfl, hb⟩
  have HA3 := Lib.hid (HA2.out.on hb)
  have HB3 := Lib.hid (HB2.out.on hb)
  have HR3 := Lib.hid (HR2.out.on hb)
  have HL3 := Lib.hid (below_thru HL2.out hb)
  clear hb p0 p1 p2 q0 q1 q2 HA2 HB2 HR2 HL2
  obtain ⟨p0, p1, p2, _, _, _⟩ := HA3.out
  obtain ⟨q0, q1, q2, _, _, _⟩ := HB3.out
  have hnn : ((n : Int) != (n : Int)) = false := by simp
  have hdd : (d != d) = false := by simp
  have hff : (f != f) = false := by simp
  go_upto_region 4 with (fail)
  have hw3 : w.heap.size + 3 ≤ w3.heap.size := World.block_lt_of_cell? w3 _ HR3.out.c0
  have HO4 := Lib.hid (show OutAt (w3.alloc (.cells #[.int .i64 d, .int .i64 f, .slice none 0 0] 30)) w3.heap.size (w3.heap.size + 1) d f (.slice none 0 0) [] from
    ⟨by go_simp, by go_simp, by go_simp, fun j => by go_simp, World.ownsRow_nil _ _ _ _, Nat.lt_succ_self _⟩)
  have HR4 := Lib.hid (HR3.out.on (below_alloc (Below.refl _ _) (.cells #[.int .i64 d, .int .i64 f, .slice none 0 0] 30)))
  have HA4 := Lib.hid (HA3.out.on (below_alloc (Below.refl _ _) (.cells #[.int .i64 d, .int .i64 f, .slice none 0 0] 30)))
  have HB4 := Lib.hid (HB3.out.on (below_alloc (Below.refl _ _) (.cells #[.int .i64 d, .int .i64 f, .slice none 0 0] 30)))
  have HL4 := Lib.hid (below_alloc HL3.out (.cells #[.int .i64 d, .int .i64 f, .slice none 0 0] 30))
  generalize w3.alloc (.cells #[.int .i64 d, .int .i64 f, .slice none 0 0] 30) = w4 at *
  generalize w3.heap.size = ob at *
  clear p0 p1 p2 q0 q1 q2 HA3 HB3 HR3 HL3 HC1 HC2 hnn hdd hff
  obtain ⟨p0, p1, p2, _, _, _⟩ := HA4.out
  go_wp2_with fail
  clear p0 p1 p2
  go_loopw [51] (fun kv wr => ∃ (k : Nat) (v : Value) (rs : List ByteArray), k ≤ n ∧ kv = .int .i64 k ∧ rs = zipS false ss tt k ∧ rs.length = k ∧ OutAt wr ob (ob + 1) d f v rs ∧ OutAt wr (w.heap.size + 2) (w.heap.size + 3) 0 0 (.slice none 0 0) [] ∧ CAt wr w.heap.size w.heap.size d f A c n ss ∧ CAt wr (w.heap.size + 1) w.heap.size d f B e n tt ∧ Below w.heap.size w wr) (fun kv _ => n - (intOf kv).toNat)
  case atStart => exact ⟨0, _, [], Nat.zero_le _, rfl, rfl, rfl, HO4.out, HR4.out, HA4.out, HB4.out, HL4.out⟩
  case round =>
    obtain ⟨k, v, rs, hk, rfl, hrs, hrl, ho, hr, hca, hcb, hbl⟩ := hrel
    have HT := Lib.hid ho
    have HR := Lib.hid hr
    have HA := Lib.hid hca
    have HB := Lib.hid hcb
    have HL := Lib.hid hbl
    have HRS := Lib.hid hrs
    have HRL := Lib.hid hrl
    have hrl10 : rs.length ≤ 10 := by omega
    clear HO4 HR4 HA4 HB4 HL4 hr hca hcb hbl hrs hrl ho
    by_cases hlt : k < n
    · have hi : (k : Int) < (n : Int) := by omega
      have HFK := Lib.hid (fun w => HFN.out k w hlt)
      have HZK := Lib.hid (HZ.out k)
      have HTD := Lib.hid (HT.out.on ((Below.refl _ wr).drew))
      have HRD := Lib.hid (HR.out.on ((Below.refl _ wr).drew))
      have HAD := Lib.hid (HA.out.on ((Below.refl _ wr).drew))
      have HBD := Lib.hid (HB.out.on ((Below.refl _ wr).drew))
      have HLD := Lib.hid (below_thru HL.out ((Below.refl _ wr).drew))
      obtain ⟨b1, off1, rfl, hb1, hc1⟩ := HA.out.at_ hlt
      obtain ⟨b2, off2, rfl, hb2, hc2⟩ := HB.out.at_ hlt
      generalize ss.getD k .empty = s at *
      generalize tt.getD k .empty = t at *
      generalize bs (mix false s.data.toList t.data.toList) = u at *
      obtain ⟨o0, o1, o2, ofz, oown, olt⟩ := HT.out
      have f2 := ofz 2
      obtain ⟨q0, q1, q2, _, _, _⟩ := HB.out
      clear ofz o0 o1 oown olt q0 q1
      go_wp2_with fail
      go_region_law (first
        | (refine step_append_lies _ rfl _ _ 28 rfl (ob + 1) 9 i0 (.string .empty) 1 16 Try.underlying28 hi0 hz0 hz1 hz2 rfl (by decide) v rs.length (rs.map Value.string) rfl (hown2.alloc _) ⟨w2.heap.size, 0, none⟩ 1 1 [.string u] rfl rfl (news_one _ _ _) (one_one rfl) (by decide) (by unfold maxLen; omega) (by omega) (by simp; omega) _ rfl ?_; intro g3 c3 w3 hown3 hgr3 hat3 hlt3; obtain ⟨o3, f3⟩ := HT2.out.still hgr3; have HG3 := Lib.hid hgr3; have HO3 := Lib.hid hown3; clear hgr3 hat3 hlt3 hown3)
        | (go_simp; go_at_call 10; refine (HFK.out _).mono ?_; rintro e w2 ⟨rfl, hb2⟩; have HT2 := Lib.hid (HTD.out.on hb2); have HR2 := Lib.hid (HRD.out.on hb2); have HA2 := Lib.hid (HAD.out.on hb2); have HB2 := Lib.hid (HBD.out.on hb2); have HL2 := Lib.hid (below_thru HLD.out hb2); have o2' := HT2.out.c2; have f2' := HT2.out.fz 2; have hown2 := HT2.out.own; have hz2' : ob < w2.heap.size := World.block_lt_of_cell? w2 _ o2'; clear hb2))
      all_goals
        have hl3 : (rs ++ [u]).length = rs.length + 1 := by simp
        have HT4 := Lib.hid (HT2.out.app (ss' := rs ++ [u]) (by rw [hl3, List.map_append]; exact HO3.out) HG3.out)
        have HR4 := Lib.hid (HT2.out.beside HR2.out rfl (by omega) HG3.out (v' := .slice (some ⟨g3, 0, none⟩) (rs.length + 1) c3))
        have HA4 := Lib.hid (CAt.beside HT2.out HA2.out (by omega) (by omega) HG3.out (v' := .slice (some ⟨g3, 0, none⟩) (rs.length + 1) c3))
        have HB4 := Lib.hid (CAt.beside HT2.out HB2.out (by omega) (by omega) HG3.out (v' := .slice (some ⟨g3, 0, none⟩) (rs.length + 1) c3))
        have HL4 := Lib.hid (below_beside HT2.out HL2.out (by omega) (by omega) HG3.out (v' := .slice (some ⟨g3, 0, none⟩) (rs.length + 1) c3))
        have HL3 := Lib.hid hl3
        clear hl3 hown2 o3 f3 o2' f2' o2 f2 hc1 hc2
        generalize w3.setCell ⟨ob, 2, none⟩ (.slice (some ⟨g3, 0, none⟩) (rs.length + 1) c3) = w4 at *
        go_wp2_with fail
        go_roundw
        case rel => exact ⟨k + 1, _, rs ++ [u], by omega, by go_num, by rw [HZK.out, HRS.out], by rw [HL3.out, HRL.out], HT4.out, HR4.out, HA4.out, HB4.out, HL4.out⟩
        case measure => simp [intOf]; omega
    · obtain rfl : k = n := by omega
      have HS2 := Lib.hid HRS.out
      obtain ⟨o0, o1, o2, _, _, _⟩ := HT.out
      obtain ⟨r0, r1, r2, rfz, rown, rlt⟩ := HR.out
      have f0 := rfz 0
      have f1 := rfz 1
      have f2 := rfz 2
      obtain ⟨A9, c9, e9, _⟩ := own_slice9 HT.out.own
      subst e9
      clear rfz rown rlt
      go_wp2_with fail
      refine bodyPost_ret (v := .tuple #[.agg #[.int .i64 d, .int .i64 f, .slice A9 rs.length c9], .bool true]) (by simp [results, Try.results60, go_sem, r0, r1, r2]) rfl ?_
      have hbz := HL.out
      have hrs := HS2.out
      have hrl := HRL.out
      rw [hrl]
      refine ⟨A9, c9, rfl, ?_, (by repeat' (first | exact Below.refl _ _ | assumption | (refine Below.drew ?_) | (refine below_drewN ?_ _) | (refine below_thru ?_ (by assumption)) | (refine below_alloc ?_ _) | (refine Below.setCell ?_ (by first | omega | (simp; done) | (simp; omega)) _) | (refine Below.alloc ?_ (by first | omega | (simp; done) | (simp; omega)) _)))⟩
      have ho := HT.out.own
      rw [hrl, hrs] at ho
      refine own_mono (ownsRow_setCell_below (ownsRow_setCell_below (ownsRow_setCell_below ho ?_ _) ?_ _) ?_ _) ?_
      all_goals first | omega | (simp; done) | (simp; omega)

set_option maxHeartbeats 1000000 in
theorem implLowerCard_any (d f : Int) (A B : Option Addr) (c e n : Nat) (ss tt : List ByteArray) (w : World) (hx : SRow w w.heap.size A ss) (hy : SRow w w.heap.size B tt) (hn : ss.length = n) (hn2 : tt.length = n)
    (h1 : cardOk d f ss = true) (h2 : cardOk d f tt = true) (hm : ∀ s ∈ ss, s.size ≤ 4294967296) (hm2 : ∀ s ∈ tt, s.size ≤ 4294967296) :
    Calls Try.prog 14 #[.agg #[.int .i64 d, .int .i64 f, .slice A n c], .agg #[.int .i64 d, .int .i64 f, .slice B n e]] w (NewJoinD w d f n ss tt) := by
  have HJ := Lib.hid (fun w hx hy => joinedD_any d f A B c e n ss tt w hx hy hn hn2 h1 h2 hm hm2)
  have HA0 := Lib.hid (show SRow (((w.alloc (.cells #[.int .i64 d, .int .i64 f, .slice A n c] 30)).alloc (.cells #[.int .i64 d, .int .i64 f, .slice B n e] 30)).alloc (.cells #[.int .i64 0, .int .i64 0, .slice none 0 0] 30)) w.heap.size A ss from
    Row.alloc (Row.alloc (Row.alloc hx (Nat.le_refl _) _) (by simp) _) (by simp; omega) _)
  have HB0 := Lib.hid (show SRow (((w.alloc (.cells #[.int .i64 d, .int .i64 f, .slice A n c] 30)).alloc (.cells #[.int .i64 d, .int .i64 f, .slice B n e] 30)).alloc (.cells #[.int .i64 0, .int .i64 0, .slice none 0 0] 30)) w.heap.size B tt from
    Row.alloc (Row.alloc (Row.alloc hy (Nat.le_refl _) _) (by simp) _) (by simp; omega) _)
  have HR0 := Lib.hid (show OutAt (((w.alloc (.cells #[.int .i64 d, .int .i64 f, .slice A n c] 30)).alloc (.cells #[.int .i64 d, .int .i64 f, .slice B n e] 30)).alloc (.cells #[.int .i64 0, .int .i64 0, .slice none 0 0] 30)) (w.heap.size + 2) (w.heap.size + 3) 0 0 (.slice none 0 0) [] from
    ⟨by go_simp, by go_simp, by go_simp, fun j => by go_simp, World.ownsRow_nil _ _ _ _, Nat.lt_succ_self _⟩)
  have HL0 := Lib.hid (below_alloc (below_alloc (below_alloc (Below.refl w.heap.size w) (.cells #[.int .i64 d, .int .i64 f, .slice A n c] 30)) (.cells #[.int .i64 d, .int .i64 f, .slice B n e] 30)) (.cells #[.int .i64 0, .int .i64 0, .slice none 0 0] 30))
  have hc0 : (((w.alloc (.cells #[.int .i64 d, .int .i64 f, .slice A n c] 30)).alloc (.cells #[.int .i64 d, .int .i64 f, .slice B n e] 30)).alloc (.cells #[.int .i64 0, .int .i64 0, .slice none 0 0] 30)).cell? ⟨w.heap.size, 0, none⟩ = some (.int .i64 d) := by go_simp
  have hc1 : (((w.alloc (.cells #[.int .i64 d, .int .i64 f, .slice A n c] 30)).alloc (.cells #[.int .i64 d, .int .i64 f, .slice B n e] 30)).alloc (.cells #[.int .i64 0, .int .i64 0, .slice none 0 0] 30)).cell? ⟨w.heap.size, 1, none⟩ = some (.int .i64 f) := by go_simp
  have hc2 : (((w.alloc (.cells #[.int .i64 d, .int .i64 f, .slice A n c] 30)).alloc (.cells #[.int .i64 d, .int .i64 f, .slice B n e] 30)).alloc (.cells #[.int .i64 0, .int .i64 0, .slice none 0 0] 30)).cell? ⟨w.heap.size, 2, none⟩ = some (.slice A n c) := by go_simp
  have hd0 : (((w.alloc (.cells #[.int .i64 d, .int .i64 f, .slice A n c] 30)).alloc (.cells #[.int .i64 d, .int .i64 f, .slice B n e] 30)).alloc (.cells #[.int .i64 0, .int .i64 0, .slice none 0 0] 30)).cell? ⟨w.heap.size + 1, 0, none⟩ = some (.int .i64 d) := by go_simp
  have hd1 : (((w.alloc (.cells #[.int .i64 d, .int .i64 f, .slice A n c] 30)).alloc (.cells #[.int .i64 d, .int .i64 f, .slice B n e] 30)).alloc (.cells #[.int .i64 0, .int .i64 0, .slice none 0 0] 30)).cell? ⟨w.heap.size + 1, 1, none⟩ = some (.int .i64 f) := by go_simp
  have hd2 : (((w.alloc (.cells #[.int .i64 d, .int .i64 f, .slice A n c] 30)).alloc (.cells #[.int .i64 d, .int .i64 f, .slice B n e] 30)).alloc (.cells #[.int .i64 0, .int .i64 0, .slice none 0 0] 30)).cell? ⟨w.heap.size + 1, 2, none⟩ = some (.slice B n e) := by go_simp
  have hsz : (((w.alloc (.cells #[.int .i64 d, .int .i64 f, .slice A n c] 30)).alloc (.cells #[.int .i64 d, .int .i64 f, .slice B n e] 30)).alloc (.cells #[.int .i64 0, .int .i64 0, .slice none 0 0] 30)).heap.size = w.heap.size + 3 := by simp
  clear h1 h2 hx hy hm hm2 hn hn2
  go_enter Try.func14, Try.ntmps14
  go_upto_region 1 with (fail)
  generalize ((w.alloc (.cells #[.int .i64 d, .int .i64 f, .slice A n c] 30)).alloc (.cells #[.int .i64 d, .int .i64 f, .slice B n e] 30)).alloc (.cells #[.int .i64 0, .int .i64 0, .slice none 0 0] 30) = w1 at *
  have HSZ := Lib.hid hsz
  clear hsz
  go_wp2_with fail
  refine (HJ.out _ (Row.more HA0.out (by rw [HSZ.out]; omega)) (Row.more HB0.out (by rw [HSZ.out]; omega))).mono ?_
  rintro e w2 ⟨A9, c9, rfl, ho, hb⟩
  have HO := Lib.hid ho
  have HR2 := Lib.hid (HR0.out.on hb)
  have HL2 := Lib.hid (below_thru HL0.out hb)
  obtain ⟨r0, r1, r2, rfz, rown, rlt⟩ := HR2.out
  have f0 := rfz 0
  have f1 := rfz 1
  have f2 := rfz 2
  clear rfz rown rlt ho hb hc0 hc1 hc2 hd0 hd1 hd2
  go_wp2_with fail
  refine bodyPost_ret (v := .tuple #[.agg #[.int .i64 d, .int .i64 f, .slice A9 n c9], .bool true]) (by simp [results, Try.results14, go_sem, r0, r1, r2]) rfl ?_
  have hbz := HL2.out
  have hsz := HSZ.out
  refine ⟨A9, c9, rfl, ?_, (by repeat' (first | exact Below.refl _ _ | assumption | (refine Below.drew ?_) | (refine below_drewN ?_ _) | (refine below_thru ?_ (by assumption)) | (refine below_alloc ?_ _) | (refine Below.setCell ?_ (by first | omega | (simp; done) | (simp; omega)) _) | (refine Below.alloc ?_ (by first | omega | (simp; done) | (simp; omega)) _)))⟩
  refine own_mono (ownsRow_setCell_below (ownsRow_setCell_below (ownsRow_setCell_below HO.out ?_ _) ?_ _) ?_ _) ?_
  all_goals first | omega | (simp; done) | (simp; omega)

end Go.Proofs.Ytpeopfkechbelaa
