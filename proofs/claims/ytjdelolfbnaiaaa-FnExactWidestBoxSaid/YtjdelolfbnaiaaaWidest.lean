
/-
  Contracts of WidestBox on both sides; no condition beyond the size of the texts.
-/
import Derived.Test.YtjdelolfbnaiaaaCardAt
import Derived.Test.YtjdelolfbnaiaaaRaise
import Derived.BigQuiet
import Derived.Deep.Cut
namespace Go.Proofs.Ytjdelolfbnaiaaa
open Go.ChangeShapes Go.WideShapes Go.ChangeAt Go.RowKit Go.Deep Go.BigFrame
set_option linter.unusedVariables false
set_option linter.unusedSimpArgs false

/-- the first of the run that ends at k -/
def lowR (p : Nat → Bool) : Nat → Nat
  | 0 => 0
  | k + 1 => if p k = true then lowR p k else k + 1
theorem lowR_yes {p : Nat → Bool} {k : Nat} (h : p k = true) : lowR p (k + 1) = lowR p k := if_pos h
theorem lowR_no {p : Nat → Bool} {k : Nat} (h : p k = false) : lowR p (k + 1) = k + 1 := if_neg (by rw [h]; simp)
def hiF (p : Nat → Bool) (n : Nat) : Nat → Nat → Nat
  | 0, h => h
  | u + 1, h => if h + 1 < n ∧ p (h + 1) = true then hiF p n u (h + 1) else h
/-- the last of the run that begins at h -/
def hiR (p : Nat → Bool) (n h : Nat) : Nat := hiF p n (n - h) h
theorem hiR_yes {p : Nat → Bool} {n h : Nat} (h1 : h + 1 < n) (h2 : p (h + 1) = true) : hiR p n h = hiR p n (h + 1) := by
  unfold hiR
  rw [show n - h = (n - (h + 1)) + 1 by omega]
  exact if_pos ⟨h1, h2⟩
theorem hiR_no {p : Nat → Bool} {n h : Nat} (h1 : ¬ (h + 1 < n ∧ p (h + 1) = true)) : hiR p n h = h := by
  unfold hiR
  cases n - h with
  | zero => rfl
  | succ u => exact if_neg h1
def upAt (ss : List ByteArray) (i : Int) (j : Nat) : Bool := foldAt 100 (ss.getD j .empty).data.toList i
def canW (d f : Int) (ss : List ByteArray) (k i : Int) : Bool := hasStrip d f ss k && upAt ss i k.toNat
def wbox (d f : Int) (ss : List ByteArray) (k i : Int) : Int × Int × Int := if canW d f ss k i = true then ((lowR (upAt ss i) k.toNat : Int), (hiR (upAt ss i) ss.length k.toNat : Int), i) else (0, 0, 0)

/-- a box in block o -/
structure BoxAt (wr : World) (o : Nat) (x y z : Int) : Prop where
  c0 : wr.cell? ⟨o, 0, none⟩ = some (.int .i64 x)
  c1 : wr.cell? ⟨o, 1, none⟩ = some (.int .i64 y)
  c2 : wr.cell? ⟨o, 2, none⟩ = some (.int .i64 z)
  fz : ∀ j, wr.frozen? ⟨o, j, none⟩ = false
section
variable {wr w' : World} {o r : Nat} {x y z : Int}
theorem BoxAt.lt (h : BoxAt wr o x y z) : o < wr.heap.size := World.block_lt_of_cell? wr _ h.c0
theorem BoxAt.keep (h : BoxAt wr o x y z) (hk : w'.heap[o]? = wr.heap[o]?) : BoxAt w' o x y z :=
  ⟨(World.cell?_of_block hk).trans h.c0, (World.cell?_of_block hk).trans h.c1, (World.cell?_of_block hk).trans h.c2, fun j => (World.frozen?_of_block hk).trans (h.fz j)⟩
theorem BoxAt.on (h : BoxAt wr o x y z) (hb : Below wr.heap.size wr w') : BoxAt w' o x y z := h.keep (hb.block o h.lt)
theorem BoxAt.far (h : BoxAt wr o x y z) {p : Addr} (hp : p.block ≠ o) (v : Value) : BoxAt (wr.setCell p v) o x y z := h.keep (heap_setCell_other wr p o v (fun e => hp e.symm))
theorem BoxAt.put0 (h : BoxAt wr o x y z) (x' : Int) : BoxAt (wr.setCell ⟨o, 0, none⟩ (.int .i64 x')) o x' y z :=
  ⟨World.cell?_setCell_same wr _ _ h.c0, (World.cell?_setCell_other wr _ _ _ (by simp)).trans h.c1, (World.cell?_setCell_other wr _ _ _ (by simp)).trans h.c2, fun j => (World.frozen?_setCell wr _ _ _).trans (h.fz j)⟩
theorem BoxAt.put1 (h : BoxAt wr o x y z) (y' : Int) : BoxAt (wr.setCell ⟨o, 1, none⟩ (.int .i64 y')) o x y' z :=
  ⟨(World.cell?_setCell_other wr _ _ _ (by simp)).trans h.c0, World.cell?_setCell_same wr _ _ h.c1, (World.cell?_setCell_other wr _ _ _ (by simp)).trans h.c2, fun j => (World.frozen?_setCell wr _ _ _).trans (h.fz j)⟩
theorem CardAt.farSet {w : World} {d f : Int} {A : Option Addr} {c : Nat} {ss : List ByteArray} (h : CardAt w wr d f A c ss) {p : Addr} (hp : w.heap.size < p.block) (v : Value) : CardAt w (wr.setCell p v) d f A c ss := by
  have hk : ∀ b, b ≤ w.heap.size → (wr.setCell p v).heap[b]? = wr.heap[b]? := fun b hb => heap_setCell_other wr p b v (by omega)
  have h0 := hk _ (Nat.le_refl _)
  exact ⟨(World.cell?_of_block h0).trans h.c0, (World.cell?_of_block h0).trans h.c1, (World.cell?_of_block h0).trans h.c2, Row.keep h.row (fun b o hl => World.cell?_of_block (hk b (Nat.le_of_lt hl))),
    h.below.setCell (Nat.le_of_lt hp) _, by have := h.lt; simpa using this⟩
end

theorem quiet_dr {P : Program} {f : FuncId} {args : Array Value} {w : World} {n : Nat} {v : Value}
    (h : Calls P f args (w.drewN n) fun e w' => e = .returned v ∧ ∃ k, w' = (w.drewN n).drewN k) : Calls P f args (w.drewN n) fun e w'' => e = .returned v ∧ ∃ m, w'' = w.drewN m :=
  h.mono fun _ _ ⟨he, k, hk⟩ => ⟨he, n + k, by rw [hk, World.drewN_drewN]⟩
theorem l11Range_any (d f : Int) (A : Option Addr) (c : Nat) (ss : List ByteArray) (k i : Int) (w : World) (hx : SRow w w.heap.size A ss) (hm : ∀ s ∈ ss, s.size ≤ 4294967296) :
    Calls Try.prog 65 #[.agg #[.int .i64 d, .int .i64 f, .slice A ss.length c], .agg #[.int .i64 k, .int .i64 k, .int .i64 i]] w fun e w' => e = .returned (.bool (hasStrip d f ss k)) ∧ Below w.heap.size w w' := by
  have HC := Lib.hid (fun w hx => specCardOk_any d f A c ss w hx hm)
  have HST := Lib.hid ((CardAt.start (d := d) (f := f) (c := c) hx).on (below_alloc (Below.refl _ _) (.cells #[.int .i64 k, .int .i64 k, .int .i64 i] 37)))
  have HBX := Lib.hid (show BoxAt ((w.alloc (.cells #[.int .i64 d, .int .i64 f, .slice A ss.length c] 27)).alloc (.cells #[.int .i64 k, .int .i64 k, .int .i64 i] 37)) (w.heap.size + 1) k k i from ⟨by go_simp, by go_simp, by go_simp, fun j => by go_simp⟩)
  cases h : cardOk d f ss
  · rw [show hasStrip d f ss k = false by unfold hasStrip; rw [h]; rfl]
    rw [h] at HC
    clear h hx
    go_enter Try.func65, Try.ntmps65
    go_wp2_with fail
    refine (HC.out _ HST.out.full).mono ?_
    rintro e w1 ⟨rfl, hb⟩
    go_wp2_with fail
    go_ret
    exact ⟨rfl, below_thru HST.out.below hb⟩
  have hlen := (cardOk_parts h).2.2.1
  rw [h] at HC
  have hd := show hasStrip d f ss k = inB k 0 (ss.length - 1) by unfold hasStrip; rw [h]; rfl
  rw [hd]
  clear h hx hd
  cases h2 : inB k 0 (ss.length - 1)
  · have H1 := Lib.hid (fun w => l01In_is h2 w)
    clear h2
    go_enter Try.func65, Try.ntmps65
    go_wp2_with fail
    refine (HC.out _ HST.out.full).mono ?_
    rintro e w1 ⟨rfl, hb⟩
    have HA := Lib.hid (HST.out.on hb)
    obtain ⟨b0, b1, b2, bfz⟩ := HBX.out.on hb
    obtain ⟨p0, p1, p2, prow, pb, plt⟩ := HA.out
    clear bfz prow pb plt hb p0 p1 b0 b2
    go_wp2_with fail
    refine (H1.out _).mono ?_
    rintro e w2 ⟨rfl, rfl⟩
    go_wp2_with fail
    go_ret
    exact ⟨rfl, HA.out.below⟩
  · have H1 := Lib.hid (fun w => l01In_is h2 w)
    have H2 := Lib.hid (fun w => l01In_is (n := k) (lo := 0) (hi := k) (b := true) (by have := inB_iff.1 h2; exact inB_iff.2 (by omega)) w)
    clear h2
    go_enter Try.func65, Try.ntmps65
    go_wp2_with fail
    refine (HC.out _ HST.out.full).mono ?_
    rintro e w1 ⟨rfl, hb⟩
    have HA := Lib.hid (HST.out.on hb)
    obtain ⟨b0, b1, b2, bfz⟩ := HBX.out.on hb
    obtain ⟨p0, p1, p2, prow, pb, plt⟩ := HA.out
    clear bfz prow pb plt hb p0 p1 b2
    go_wp2_with fail
    refine (H1.out _).mono ?_
    rintro e w2 ⟨rfl, rfl⟩
    go_wp2_with fail
    refine (H2.out _).mono ?_
    rintro e w2 ⟨rfl, rfl⟩
    go_wp2_with fail
    go_ret
    exact ⟨rfl, HA.out.below⟩

set_option maxHeartbeats 1000000 in
theorem specCanAdd_any (d f : Int) (A : Option Addr) (c : Nat) (ss : List ByteArray) (k i : Int) (w : World) (hx : SRow w w.heap.size A ss) (hm : ∀ s ∈ ss, s.size ≤ 4294967296) (bk : -9223372036854775808 ≤ k ∧ k ≤ 9223372036854775807) :
    Calls Try.prog 50 #[.agg #[.int .i64 d, .int .i64 f, .slice A ss.length c], .agg #[.int .i64 k, .int .i64 k, .int .i64 i]] w fun e w' => e = .returned (.bool (canW d f ss k i)) ∧ Below w.heap.size w w' := by
  have HC := Lib.hid (fun w hx => l11Range_any d f A c ss k i w hx hm)
  have HST := Lib.hid ((CardAt.start (d := d) (f := f) (c := c) hx).on (below_alloc (Below.refl _ _) (.cells #[.int .i64 k, .int .i64 k, .int .i64 i] 37)))
  have HBX := Lib.hid (show BoxAt ((w.alloc (.cells #[.int .i64 d, .int .i64 f, .slice A ss.length c] 27)).alloc (.cells #[.int .i64 k, .int .i64 k, .int .i64 i] 37)) (w.heap.size + 1) k k i from ⟨by go_simp, by go_simp, by go_simp, fun j => by go_simp⟩)
  cases h : hasStrip d f ss k
  · rw [show canW d f ss k i = false by unfold canW; rw [h]; rfl]
    rw [h] at HC
    clear h hx
    go_enter Try.func50, Try.ntmps50
    go_wp2_with fail
    refine (HC.out _ HST.out.full).mono ?_
    rintro e w1 ⟨rfl, hb⟩
    go_wp2_with fail
    go_ret
    exact ⟨rfl, below_thru HST.out.below hb⟩
  rw [show canW d f ss k i = upAt ss i k.toNat by unfold canW; rw [h]; rfl]
  have hc1 := h
  unfold hasStrip at hc1
  rw [Bool.and_eq_true] at hc1
  have hb0 := inB_iff.1 hc1.2
  have hlen := (cardOk_parts hc1.1).2.2.1
  obtain ⟨n, rfl⟩ := Int.eq_ofNat_of_zero_le (show 0 ≤ k by omega)
  rw [Int.toNat_natCast]
  have hn : n < ss.length := by omega
  have HUP := Lib.hid (fun w => show Calls Try.prog 51 #[.string (ss.getD n .empty), .int .i64 i] w (fun e w' => e = .returned (.bool (upAt ss i n)) ∧ ∃ q, w' = w.drewN q) from specIsValley_any (ss.getD n .empty) i w (hm _ (mem_getD hn)))
  rw [h] at HC
  obtain ⟨q0, o0, rfl, _, _⟩ := SRow.at_ hx hn
  generalize upAt ss i n = u at *
  have hni : (n : Int) < (ss.length : Int) := by omega
  clear h hx hc1 hb0 bk
  go_enter Try.func50, Try.ntmps50
  go_wp2_with fail
  refine (HC.out _ HST.out.full).mono ?_
  rintro e w1 ⟨rfl, hb⟩
  have HA := Lib.hid (HST.out.on hb)
  have HB := Lib.hid (HBX.out.on hb)
  obtain ⟨b0, b1, b2, bfz⟩ := HB.out
  clear bfz hb HST HBX
  go_wp2_with fail
  clear b0 b1 b2
  go_loopw [5] (fun kv wr => ∃ j : Nat, j ≤ 1 ∧ kv = .int .i64 (n + j : Nat) ∧ (j = 1 → u = true) ∧ BoxAt wr (w.heap.size + 1) n n i ∧ CardAt w wr d f (some ⟨q0, o0, none⟩) c ss) (fun kv _ => n + 1 - (intOf kv).toNat)
  case atStart => exact ⟨0, by decide, rfl, fun h => absurd h (by decide), HB.out, HA.out⟩
  case round =>
    obtain ⟨j, hj, rfl, hju, hbx, hca⟩ := hrel
    have HU := Lib.hid hju
    have HB1 := Lib.hid hbx
    have HA1 := Lib.hid hca
    obtain ⟨b0, b1, b2, bfz⟩ := hbx
    obtain ⟨p0, p1, p2, prow, pb, plt⟩ := hca
    obtain ⟨q1, o1, e1, hq1, hcc⟩ := HA1.out.at_ hn
    obtain ⟨rfl, rfl⟩ : q0 = q1 ∧ o0 = o1 := by simpa using e1
    clear hju prow pb plt p0 p1 bfz HB HA e1
    generalize ss.getD n .empty = s at *
    by_cases h0 : j = 0
    · subst h0
      rw [Nat.add_zero]
      have hle : (n : Int) ≤ (n : Int) := Int.le_refl _
      cases u with
      | true =>
        go_wp2_with fail
        go_quiet ((go_at_call 51; exact quiet_dr (HUP.out _)))
        have HB2 := Lib.hid (HB1.out.on (below_drewN (Below.refl _ wr) nq))
        have HA2 := Lib.hid (HA1.out.on (below_drewN (Below.refl _ wr) nq))
        clear b0 b1 b2 p2 hcc
        go_wp2_with fail
        go_roundw
        case rel => exact ⟨1, Nat.le_refl _, by go_num, fun _ => by first | rfl | trivial, HB2.out, HA2.out⟩
        case measure => simp [intOf]
      | false =>
        go_wp2_with fail
        go_quiet ((go_at_call 51; exact quiet_dr (HUP.out _)))
        have HA2 := Lib.hid (HA1.out.on (below_drewN (Below.refl _ wr) nq))
        clear b0 b1 b2 p2 hcc
        go_wp2_with fail
        go_ret
        exact ⟨rfl, HA2.out.below⟩
    · obtain rfl : j = 1 := by omega
      have hle : ¬ ((n + 1 : Nat) : Int) ≤ (n : Int) := by omega
      have hu := HU.out rfl
      subst hu
      clear b0 b2 p2 hcc
      go_wp2_with fail
      go_ret
      exact ⟨rfl, HA1.out.below⟩

set_option maxHeartbeats 1000000 in
set_option maxRecDepth 8000 in
theorem implWidestBox_yes (d f : Int) (A : Option Addr) (c : Nat) (ss : List ByteArray) (k : Nat) (i : Int) (w : World) (hx : SRow w w.heap.size A ss) (hm : ∀ s ∈ ss, s.size ≤ 4294967296) (bi : -9223372036854775808 ≤ i ∧ i ≤ 9223372036854775807)
    (h : canW d f ss k i = true) :
    Calls Try.prog 24 #[.agg #[.int .i64 d, .int .i64 f, .slice A ss.length c], .int .i64 k, .int .i64 i] w fun e w' => e = .returned (.tuple #[.agg #[.int .i64 (lowR (upAt ss i) k : Nat), .int .i64 (hiR (upAt ss i) ss.length k : Nat), .int .i64 i], .bool true]) ∧ Below w.heap.size w w' := by
  have hc := h
  unfold canW at hc
  rw [Bool.and_eq_true] at hc
  have hc1 := hc.1
  unfold hasStrip at hc1
  rw [Bool.and_eq_true] at hc1
  have hkn : k < ss.length := by have := inB_iff.1 hc1.2; omega
  have hlen := (cardOk_parts hc1.1).2.2.1
  have hcu : upAt ss i k = true := hc.2
  have HH := Lib.hid (fun w hx => hasStrip_any d f A c ss k w hx hm)
  rw [hc.1] at HH
  obtain ⟨q0, o0, rfl, _, _⟩ := SRow.at_ hx hkn
  have HST := Lib.hid (CardAt.start (d := d) (f := f) (c := c) hx)
  have HUP := Lib.hid (fun (j : Nat) w (hj : j < ss.length) => show Calls Try.prog 52 #[.string (ss.getD j .empty), .int .i64 i] w (fun e w' => e = .returned (.bool (upAt ss i j)) ∧ ∃ q, w' = w.drewN q) from implCanRaise_any (ss.getD j .empty) i w (hm _ (mem_getD hj)))
  have HLY := Lib.hid (fun j => @lowR_yes (upAt ss i) j)
  have HLN := Lib.hid (fun j => @lowR_no (upAt ss i) j)
  have HHY := Lib.hid (fun j => @hiR_yes (upAt ss i) ss.length j)
  have HHN := Lib.hid (fun j => @hiR_no (upAt ss i) ss.length j)
  have HL0 := Lib.hid (show lowR (upAt ss i) 0 = 0 from rfl)
  obtain ⟨lo, hlo⟩ : ∃ lo, lo = lowR (upAt ss i) k := ⟨_, rfl⟩
  obtain ⟨hi, hhi⟩ : ∃ hi, hi = hiR (upAt ss i) ss.length k := ⟨_, rfl⟩
  rw [← hlo, ← hhi]
  have HLO := Lib.hid hlo
  have HHI := Lib.hid hhi
  have hki : (k : Int) < (ss.length : Int) := by omega
  have HCU := Lib.hid hcu
  clear hx h hc hc1 hlo hhi hcu
  go_enter Try.func24, Try.ntmps24
  go_wp2_with fail
  refine (HH.out _ (HST.out.on (below_alloc (Below.refl _ _) _)).full).mono ?_
  rintro e wA ⟨rfl, hb⟩
  have HA := Lib.hid ((HST.out.on (below_alloc (Below.refl _ _) (.cells #[.int .i64 0, .int .i64 0, .int .i64 0] 37))).on hb)
  have HR := Lib.hid ((show BoxAt ((w.alloc (.cells #[.int .i64 d, .int .i64 f, .slice (some ⟨q0, o0, none⟩) ss.length c] 27)).alloc (.cells #[.int .i64 0, .int .i64 0, .int .i64 0] 37)) (w.heap.size + 1) 0 0 0 from ⟨by go_simp, by go_simp, by go_simp, fun j => by go_simp⟩).on hb)
  clear HST hb
  obtain ⟨p0, p1, p2, prow, pb, plt⟩ := HA.out
  obtain ⟨q1, o1, e1, hq1, hcc⟩ := HA.out.at_ hkn
  obtain ⟨rfl, rfl⟩ : q0 = q1 ∧ o0 = o1 := by simpa using e1
  clear e1
  have HUK := Lib.hid (fun w => HUP.out k w hkn)
  rw [HCU.out] at HUK
  generalize ss.getD k .empty = s at *
  clear prow pb plt p0 p1
  go_wp2_with fail
  refine (HUK.out _).mono ?_
  rintro e w1 ⟨rfl, qd, hqd⟩
  have hqb : Below wA.heap.size wA w1 := by rw [hqd]; exact below_drewN (Below.refl _ _) _
  have HA := Lib.hid (HA.out.on hqb)
  have HR := Lib.hid (HR.out.on hqb)
  clear hqd hqb p2 hcc HUK
  go_upto_region 4 with (fail)
  have HB1 := Lib.hid (show BoxAt (w1.alloc (.cells #[.int .i64 k, .int .i64 k, .int .i64 i] 37)) w1.heap.size k k i from ⟨by go_simp, by go_simp, by go_simp, fun j => by go_simp⟩)
  have HR1 := Lib.hid (HR.out.on (below_alloc (Below.refl _ _) (.cells #[.int .i64 k, .int .i64 k, .int .i64 i] 37)))
  have HA1 := Lib.hid (HA.out.on (below_alloc (Below.refl _ _) (.cells #[.int .i64 k, .int .i64 k, .int .i64 i] 37)))
  have hrs : w.heap.size + 1 < w1.heap.size := HR.out.lt
  generalize w1.alloc (.cells #[.int .i64 k, .int .i64 k, .int .i64 i] 37) = w2 at *
  clear HR HA
  go_wp2_with fail
  go_loopw [28] (fun _ wr => ∃ j : Nat, j ≤ k ∧ lowR (upAt ss i) j = lo ∧ BoxAt wr w1.heap.size j k i ∧ BoxAt wr (w.heap.size + 1) 0 0 0 ∧ CardAt w wr d f (some ⟨q0, o0, none⟩) c ss) (fun _ wr => (intOf ((wr.cell? ⟨w1.heap.size, 0, none⟩).getD undef)).toNat)
  case atStart => exact ⟨k, Nat.le_refl _, HLO.out.symm, HB1.out, HR1.out, HA1.out⟩
  case round =>
    obtain ⟨j, hj, hjl, hbx, hr, hca⟩ := hrel
    have HJ := Lib.hid hjl
    have HB := Lib.hid hbx
    have HR := Lib.hid hr
    have HA := Lib.hid hca
    obtain ⟨b0, b1, b2, bfz⟩ := hbx
    have bf0 := bfz 0
    obtain ⟨p0, p1, p2, prow, pb, plt⟩ := hca
    clear HB1 HR1 HA1 hjl hr bfz prow pb plt p0 p1
    by_cases h0 : j = 0
    · subst h0
      have hj0 : ¬ (0 : Int) < ((0 : Nat) : Int) := by decide
      have hle := HL0.out.symm.trans HJ.out
      have HB3 := Lib.hid (show BoxAt wr w1.heap.size lo k i by rw [← hle]; exact HB.out)
      have HR3 := Lib.hid HR.out
      have HA3 := Lib.hid HA.out
      clear b1 b2 p2 bf0 hle
      go_wp2_with fail
      obtain ⟨w3, hw3⟩ : ∃ w3, w3 = wr := ⟨_, rfl⟩
      subst hw3
      clear b0 hj0 HB HR HA HJ hj
      go_loopw [46] (fun _ wr => ∃ h : Nat, k ≤ h ∧ h < ss.length ∧ hiR (upAt ss i) ss.length h = hi ∧ BoxAt wr w1.heap.size lo h i ∧ BoxAt wr (w.heap.size + 1) 0 0 0 ∧ CardAt w wr d f (some ⟨q0, o0, none⟩) c ss) (fun _ wr => ss.length - (intOf ((wr.cell? ⟨w1.heap.size, 1, none⟩).getD undef)).toNat)
      case atStart => exact ⟨k, Nat.le_refl _, hkn, HHI.out.symm, HB3.out, HR3.out, HA3.out⟩
      case round =>
        obtain ⟨h, hk1, hk2, hjh, hbx, hr, hca⟩ := hrel
        have HJ := Lib.hid hjh
        have HB := Lib.hid hbx
        have HR := Lib.hid hr
        have HA := Lib.hid hca
        obtain ⟨b0, b1, b2, bfz⟩ := hbx
        obtain ⟨p0, p1, p2, prow, pb, plt⟩ := hca
        clear HB3 HR3 HA3 hjh hr bfz prow pb plt p0 p1
        have HHYH := Lib.hid (HHY.out h)
        have HHNH := Lib.hid (HHN.out h)
        by_cases h1 : h + 1 < ss.length
        · have hi1 : (h : Int) + 1 < (ss.length : Int) := by omega
          obtain ⟨q1, o1, e1, hq1, hcc⟩ := HA.out.at_ h1
          obtain ⟨rfl, rfl⟩ : q0 = q1 ∧ o0 = o1 := by simpa using e1
          have hcc' : wr.cell? ⟨q0, o0 + (h + 1), none⟩ = some (.string (ss.getD (h + 1) .empty)) := hcc
          clear e1 b0 b2 hcc
          have HUJ := Lib.hid (fun w => HUP.out (h + 1) w h1)
          generalize ss.getD (h + 1) .empty = s2 at *
          generalize upAt ss i (h + 1) = pj at *
          cases pj with
          | true =>
            go_wp2_with fail
            refine (HUJ.out _).mono ?_
            rintro e w4 ⟨rfl, qd, hqd⟩
            have hqb : Below wr.heap.size wr w4 := by rw [hqd]; exact below_drewN (Below.refl _ _) _
            have HB4 := Lib.hid (HB.out.on hqb)
            have HR4 := Lib.hid (HR.out.on hqb)
            have HA4 := Lib.hid (HA.out.on hqb)
            have HM := Lib.hid b1
            have c1 := HB4.out.c1
            have f1 := HB4.out.fz 1
            clear b1 p2 hcc' hqd hqb HB HR HA HUJ
            go_wp2_with fail
            have HB5 := Lib.hid (HB4.out.put1 ((h : Int) + 1))
            have HR5 := Lib.hid (HR4.out.far (p := ⟨w1.heap.size, 1, none⟩) (show w1.heap.size ≠ w.heap.size + 1 by omega) (.int .i64 ((h : Int) + 1)))
            have HA5 := Lib.hid (HA4.out.farSet (p := ⟨w1.heap.size, 1, none⟩) (show w.heap.size < w1.heap.size by omega) (.int .i64 ((h : Int) + 1)))
            go_roundw
            case rel => exact ⟨h + 1, by omega, h1, by rw [← HJ.out, HHYH.out h1 (by first | rfl | trivial)], HB5.out, HR5.out, HA5.out⟩
            case measure =>
              have m1 := HB5.out.c1
              have m2 := HM.out
              simp only [m1, m2, Option.getD_some, intOf]
              omega
          | false =>
            go_wp2_with fail
            refine (HUJ.out _).mono ?_
            rintro e w4 ⟨rfl, qd, hqd⟩
            have hqb : Below wr.heap.size wr w4 := by rw [hqd]; exact below_drewN (Below.refl _ _) _
            have hle := (HHNH.out (fun x => absurd x.2 (by decide))).symm.trans HJ.out
            have HB4 := Lib.hid (show BoxAt w4 w1.heap.size lo hi i by rw [← hle]; exact HB.out.on hqb)
            have HR4 := Lib.hid (HR.out.on hqb)
            have HA4 := Lib.hid (HA.out.on hqb)
            clear b1 p2 hcc' hqd hqb HB HR HA HUJ hle HJ
            obtain ⟨v0, v1, v2, vfz⟩ := HB4.out
            obtain ⟨r0, r1, r2, rfz⟩ := HR4.out
            have rf0 := rfz 0
            have rf1 := rfz 1
            have rf2 := rfz 2
            have HBW := Lib.hid HA4.out.below
            clear vfz rfz
            go_wp2_with fail
            refine bodyPost_ret (v := .tuple #[.agg #[.int .i64 lo, .int .i64 hi, .int .i64 i], .bool true]) (by simp [results, Try.results24, go_sem, r0, r1, r2]) rfl ?_
            have hbw := HBW.out
            exact ⟨rfl, (by repeat' (first | exact Below.refl _ _ | assumption | (refine Below.drew ?_) | (refine below_drewN ?_ _) | (refine below_thru ?_ (by assumption)) | (refine below_alloc ?_ _) | (refine Below.setCell ?_ (by first | omega | (simp; done) | (simp; omega)) _) | (refine Below.alloc ?_ (by first | omega | (simp; done) | (simp; omega)) _)))⟩
        · have hi1 : ¬ (h : Int) + 1 < (ss.length : Int) := by omega
          have hle := ((HHNH.out (fun x => h1 x.1)).symm.trans HJ.out).symm
          clear HHYH HHNH HJ
          subst hle
          have HB4 := Lib.hid HB.out
          have HR4 := Lib.hid HR.out
          have HA4 := Lib.hid HA.out
          clear HB HR HA b0 b1 b2
          obtain ⟨v0, v1, v2, vfz⟩ := HB4.out
          obtain ⟨r0, r1, r2, rfz⟩ := HR4.out
          have rf0 := rfz 0
          have rf1 := rfz 1
          have rf2 := rfz 2
          have HBW := Lib.hid HA4.out.below
          clear vfz rfz
          go_wp2_with fail
          refine bodyPost_ret (v := .tuple #[.agg #[.int .i64 lo, .int .i64 hi, .int .i64 i], .bool true]) (by simp [results, Try.results24, go_sem, r0, r1, r2]) rfl ?_
          have hbw := HBW.out
          exact ⟨rfl, (by repeat' (first | exact Below.refl _ _ | assumption | (refine Below.drew ?_) | (refine below_drewN ?_ _) | (refine below_thru ?_ (by assumption)) | (refine below_alloc ?_ _) | (refine Below.setCell ?_ (by first | omega | (simp; done) | (simp; omega)) _) | (refine Below.alloc ?_ (by first | omega | (simp; done) | (simp; omega)) _)))⟩
    · obtain ⟨j', rfl⟩ : ∃ j', j = j' + 1 := ⟨j - 1, by omega⟩
      have hj0 : (0 : Int) < ((j' + 1 : Nat) : Int) := by omega
      have hj1 : ((j' + 1 : Nat) : Int) - 1 = (j' : Int) := by omega
      have hj2 : (j' : Int) < (ss.length : Int) := by omega
      obtain ⟨q1, o1, e1, hq1, hcc⟩ := HA.out.at_ (k := j') (by omega)
      obtain ⟨rfl, rfl⟩ : q0 = q1 ∧ o0 = o1 := by simpa using e1
      clear e1 b1 b2
      have HUJ := Lib.hid (fun w => HUP.out j' w (by omega))
      have HLYJ := Lib.hid (HLY.out j')
      have HLNJ := Lib.hid (HLN.out j')
      generalize ss.getD j' .empty = s at *
      generalize upAt ss i j' = pj at *
      cases pj with
      | true =>
        go_wp2_with fail
        refine (HUJ.out _).mono ?_
        rintro e w3 ⟨rfl, qd, hqd⟩
        have hqb : Below wr.heap.size wr w3 := by rw [hqd]; exact below_drewN (Below.refl _ _) _
        have HB3 := Lib.hid (HB.out.on hqb)
        have HR3 := Lib.hid (HR.out.on hqb)
        have HA3 := Lib.hid (HA.out.on hqb)
        have HM := Lib.hid b0
        have c0 := HB3.out.c0
        have f0 := HB3.out.fz 0
        clear b0 bf0 p2 hcc hqd hqb HB HR HA HUJ
        go_wp2_with fail
        have HB4 := Lib.hid (HB3.out.put0 (j' : Int))
        have HR4 := Lib.hid (HR3.out.far (p := ⟨w1.heap.size, 0, none⟩) (show w1.heap.size ≠ w.heap.size + 1 by omega) (.int .i64 (j' : Int)))
        have HA4 := Lib.hid (HA3.out.farSet (p := ⟨w1.heap.size, 0, none⟩) (show w.heap.size < w1.heap.size by omega) (.int .i64 (j' : Int)))
        go_roundw
        case rel => exact ⟨j', by omega, by rw [← HJ.out, HLYJ.out (by first | rfl | trivial)], HB4.out, HR4.out, HA4.out⟩
        case measure =>
          have m1 := HB4.out.c0
          have m2 := HM.out
          simp only [m1, m2, Option.getD_some, intOf]
          omega
      | false =>
        go_wp2_with fail
        refine (HUJ.out _).mono ?_
        rintro e w3 ⟨rfl, qd, hqd⟩
        have hqb : Below wr.heap.size wr w3 := by rw [hqd]; exact below_drewN (Below.refl _ _) _
        have hle := (HLNJ.out (by first | rfl | trivial)).symm.trans HJ.out
        have HB3 := Lib.hid (show BoxAt w3 w1.heap.size lo k i by rw [← hle]; exact HB.out.on hqb)
        have HR3 := Lib.hid (HR.out.on hqb)
        have HA3 := Lib.hid (HA.out.on hqb)
        clear b0 bf0 p2 hcc hqd hqb HB HR HA HUJ hle HJ hj0 hj1 hj2 HLYJ HLNJ hj h0
        go_wp2_with fail
        go_loopw [46] (fun _ wr => ∃ h : Nat, k ≤ h ∧ h < ss.length ∧ hiR (upAt ss i) ss.length h = hi ∧ BoxAt wr w1.heap.size lo h i ∧ BoxAt wr (w.heap.size + 1) 0 0 0 ∧ CardAt w wr d f (some ⟨q0, o0, none⟩) c ss) (fun _ wr => ss.length - (intOf ((wr.cell? ⟨w1.heap.size, 1, none⟩).getD undef)).toNat)
        case atStart => exact ⟨k, Nat.le_refl _, hkn, HHI.out.symm, HB3.out, HR3.out, HA3.out⟩
        case round =>
          obtain ⟨h, hk1, hk2, hjh, hbx, hr, hca⟩ := hrel
          have HJ := Lib.hid hjh
          have HB := Lib.hid hbx
          have HR := Lib.hid hr
          have HA := Lib.hid hca
          obtain ⟨b0, b1, b2, bfz⟩ := hbx
          obtain ⟨p0, p1, p2, prow, pb, plt⟩ := hca
          clear HB3 HR3 HA3 hjh hr bfz prow pb plt p0 p1
          have HHYH := Lib.hid (HHY.out h)
          have HHNH := Lib.hid (HHN.out h)
          by_cases h1 : h + 1 < ss.length
          · have hi1 : (h : Int) + 1 < (ss.length : Int) := by omega
            obtain ⟨q1, o1, e1, hq1, hcc⟩ := HA.out.at_ h1
            obtain ⟨rfl, rfl⟩ : q0 = q1 ∧ o0 = o1 := by simpa using e1
            have hcc' : wr.cell? ⟨q0, o0 + (h + 1), none⟩ = some (.string (ss.getD (h + 1) .empty)) := hcc
            clear e1 b0 b2 hcc
            have HUJ := Lib.hid (fun w => HUP.out (h + 1) w h1)
            generalize ss.getD (h + 1) .empty = s2 at *
            generalize upAt ss i (h + 1) = pj at *
            cases pj with
            | true =>
              go_wp2_with fail
              refine (HUJ.out _).mono ?_
              rintro e w4 ⟨rfl, qd, hqd⟩
              have hqb : Below wr.heap.size wr w4 := by rw [hqd]; exact below_drewN (Below.refl _ _) _
              have HB4 := Lib.hid (HB.out.on hqb)
              have HR4 := Lib.hid (HR.out.on hqb)
              have HA4 := Lib.hid (HA.out.on hqb)
              have HM := Lib.hid b1
              have c1 := HB4.out.c1
              have f1 := HB4.out.fz 1
              clear b1 p2 hcc' hqd hqb HB HR HA HUJ
              go_wp2_with fail
              have HB5 := Lib.hid (HB4.out.put1 ((h : Int) + 1))
              have HR5 := Lib.hid (HR4.out.far (p := ⟨w1.heap.size, 1, none⟩) (show w1.heap.size ≠ w.heap.size + 1 by omega) (.int .i64 ((h : Int) + 1)))
              have HA5 := Lib.hid (HA4.out.farSet (p := ⟨w1.heap.size, 1, none⟩) (show w.heap.size < w1.heap.size by omega) (.int .i64 ((h : Int) + 1)))
              go_roundw
              case rel => exact ⟨h + 1, by omega, h1, by rw [← HJ.out, HHYH.out h1 (by first | rfl | trivial)], HB5.out, HR5.out, HA5.out⟩
              case measure =>
                have m1 := HB5.out.c1
                have m2 := HM.out
                simp only [m1, m2, Option.getD_some, intOf]
                omega
            | false =>
              go_wp2_with fail
              refine (HUJ.out _).mono ?_
              rintro e w4 ⟨rfl, qd, hqd⟩
              have hqb : Below wr.heap.size wr w4 := by rw [hqd]; exact below_drewN (Below.refl _ _) _
              have hle := (HHNH.out (fun x => absurd x.2 (by decide))).symm.trans HJ.out
              have HB4 := Lib.hid (show BoxAt w4 w1.heap.size lo hi i by rw [← hle]; exact HB.out.on hqb)
              have HR4 := Lib.hid (HR.out.on hqb)
              have HA4 := Lib.hid (HA.out.on hqb)
              clear b1 p2 hcc' hqd hqb HB HR HA HUJ hle HJ
              obtain ⟨v0, v1, v2, vfz⟩ := HB4.out
              obtain ⟨r0, r1, r2, rfz⟩ := HR4.out
              have rf0 := rfz 0
              have rf1 := rfz 1
              have rf2 := rfz 2
              have HBW := Lib.hid HA4.out.below
              clear vfz rfz
              go_wp2_with fail
              refine bodyPost_ret (v := .tuple #[.agg #[.int .i64 lo, .int .i64 hi, .int .i64 i], .bool true]) (by simp [results, Try.results24, go_sem, r0, r1, r2]) rfl ?_
              have hbw := HBW.out
              exact ⟨rfl, (by repeat' (first | exact Below.refl _ _ | assumption | (refine Below.drew ?_) | (refine below_drewN ?_ _) | (refine below_thru ?_ (by assumption)) | (refine below_alloc ?_ _) | (refine Below.setCell ?_ (by first | omega | (simp; done) | (simp; omega)) _) | (refine Below.alloc ?_ (by first | omega | (simp; done) | (simp; omega)) _)))⟩
          · have hi1 : ¬ (h : Int) + 1 < (ss.length : Int) := by omega
            have hle := ((HHNH.out (fun x => h1 x.1)).symm.trans HJ.out).symm
            clear HHYH HHNH HJ
            subst hle
            have HB4 := Lib.hid HB.out
            have HR4 := Lib.hid HR.out
            have HA4 := Lib.hid HA.out
            clear HB HR HA b0 b1 b2
            obtain ⟨v0, v1, v2, vfz⟩ := HB4.out
            obtain ⟨r0, r1, r2, rfz⟩ := HR4.out
            have rf0 := rfz 0
            have rf1 := rfz 1
            have rf2 := rfz 2
            have HBW := Lib.hid HA4.out.below
            clear vfz rfz
            go_wp2_with fail
            refine bodyPost_ret (v := .tuple #[.agg #[.int .i64 lo, .int .i64 hi, .int .i64 i], .bool true]) (by simp [results, Try.results24, go_sem, r0, r1, r2]) rfl ?_
            have hbw := HBW.out
            exact ⟨rfl, (by repeat' (first | exact Below.refl _ _ | assumption | (refine Below.drew ?_) | (refine below_drewN ?_ _) | (refine below_thru ?_ (by assumption)) | (refine below_alloc ?_ _) | (refine Below.setCell ?_ (by first | omega | (simp; done) | (simp; omega)) _) | (refine Below.alloc ?_ (by first | omega | (simp; done) | (simp; omega)) _)))⟩

set_option maxHeartbeats 1000000 in
set_option maxRecDepth 8000 in
theorem specWidestBox_yes (d f : Int) (A : Option Addr) (c : Nat) (ss : List ByteArray) (k : Nat) (i : Int) (w : World) (hx : SRow w w.heap.size A ss) (hm : ∀ s ∈ ss, s.size ≤ 4294967296) (bi : -9223372036854775808 ≤ i ∧ i ≤ 9223372036854775807)
    (h : canW d f ss k i = true) :
    Calls Try.prog 23 #[.agg #[.int .i64 d, .int .i64 f, .slice A ss.length c], .int .i64 k, .int .i64 i] w fun e w' => e = .returned (.tuple #[.agg #[.int .i64 (lowR (upAt ss i) k : Nat), .int .i64 (hiR (upAt ss i) ss.length k : Nat), .int .i64 i], .bool true]) ∧ Below w.heap.size w w' := by
  have hc := h
  unfold canW at hc
  rw [Bool.and_eq_true] at hc
  have hc1 := hc.1
  unfold hasStrip at hc1
  rw [Bool.and_eq_true] at hc1
  have hkn : k < ss.length := by have := inB_iff.1 hc1.2; omega
  have hlen := (cardOk_parts hc1.1).2.2.1
  have hcu : upAt ss i k = true := hc.2
  have HH := Lib.hid (fun w hx => specCanAdd_any d f A c ss k i w hx hm (by omega))
  rw [h] at HH
  obtain ⟨q0, o0, rfl, _, _⟩ := SRow.at_ hx hkn
  have HST := Lib.hid (CardAt.start (d := d) (f := f) (c := c) hx)
  have HUP := Lib.hid (fun (j : Nat) w (hj : j < ss.length) => show Calls Try.prog 51 #[.string (ss.getD j .empty), .int .i64 i] w (fun e w' => e = .returned (.bool (upAt ss i j)) ∧ ∃ q, w' = w.drewN q) from specIsValley_any (ss.getD j .empty) i w (hm _ (mem_getD hj)))
  have HLY := Lib.hid (fun j => @lowR_yes (upAt ss i) j)
  have HLN := Lib.hid (fun j => @lowR_no (upAt ss i) j)
  have HHY := Lib.hid (fun j => @hiR_yes (upAt ss i) ss.length j)
  have HHN := Lib.hid (fun j => @hiR_no (upAt ss i) ss.length j)
  have HL0 := Lib.hid (show lowR (upAt ss i) 0 = 0 from rfl)
  obtain ⟨lo, hlo⟩ : ∃ lo, lo = lowR (upAt ss i) k := ⟨_, rfl⟩
  obtain ⟨hi, hhi⟩ : ∃ hi, hi = hiR (upAt ss i) ss.length k := ⟨_, rfl⟩
  rw [← hlo, ← hhi]
  have HLO := Lib.hid hlo
  have HHI := Lib.hid hhi
  have hki : (k : Int) < (ss.length : Int) := by omega
  have HCU := Lib.hid hcu
  clear hx h hc hc1 hlo hhi hcu
  go_enter Try.func23, Try.ntmps23
  go_wp2_with fail
  refine (HH.out _ (HST.out.on (below_alloc (Below.refl _ _) _)).full).mono ?_
  rintro e w1 ⟨rfl, hb⟩
  have HA := Lib.hid ((HST.out.on (below_alloc (Below.refl _ _) (.cells #[.int .i64 0, .int .i64 0, .int .i64 0] 37))).on hb)
  have HR := Lib.hid ((show BoxAt ((w.alloc (.cells #[.int .i64 d, .int .i64 f, .slice (some ⟨q0, o0, none⟩) ss.length c] 27)).alloc (.cells #[.int .i64 0, .int .i64 0, .int .i64 0] 37)) (w.heap.size + 1) 0 0 0 from ⟨by go_simp, by go_simp, by go_simp, fun j => by go_simp⟩).on hb)
  clear HST hb
  go_upto_region 4 with (fail)
  have HB1 := Lib.hid (show BoxAt (w1.alloc (.cells #[.int .i64 k, .int .i64 k, .int .i64 i] 37)) w1.heap.size k k i from ⟨by go_simp, by go_simp, by go_simp, fun j => by go_simp⟩)
  have HR1 := Lib.hid (HR.out.on (below_alloc (Below.refl _ _) (.cells #[.int .i64 k, .int .i64 k, .int .i64 i] 37)))
  have HA1 := Lib.hid (HA.out.on (below_alloc (Below.refl _ _) (.cells #[.int .i64 k, .int .i64 k, .int .i64 i] 37)))
  have hrs : w.heap.size + 1 < w1.heap.size := HR.out.lt
  generalize w1.alloc (.cells #[.int .i64 k, .int .i64 k, .int .i64 i] 37) = w2 at *
  clear HR HA
  go_wp2_with fail
  go_loopw [21] (fun _ wr => ∃ j : Nat, j ≤ k ∧ lowR (upAt ss i) j = lo ∧ BoxAt wr w1.heap.size j k i ∧ BoxAt wr (w.heap.size + 1) 0 0 0 ∧ CardAt w wr d f (some ⟨q0, o0, none⟩) c ss) (fun _ wr => (intOf ((wr.cell? ⟨w1.heap.size, 0, none⟩).getD undef)).toNat)
  case atStart => exact ⟨k, Nat.le_refl _, HLO.out.symm, HB1.out, HR1.out, HA1.out⟩
  case round =>
    obtain ⟨j, hj, hjl, hbx, hr, hca⟩ := hrel
    have HJ := Lib.hid hjl
    have HB := Lib.hid hbx
    have HR := Lib.hid hr
    have HA := Lib.hid hca
    obtain ⟨b0, b1, b2, bfz⟩ := hbx
    have bf0 := bfz 0
    obtain ⟨p0, p1, p2, prow, pb, plt⟩ := hca
    clear HB1 HR1 HA1 hjl hr bfz prow pb plt p0 p1
    by_cases h0 : j = 0
    · subst h0
      have hj0 : ¬ (0 : Int) < ((0 : Nat) : Int) := by decide
      have hle := HL0.out.symm.trans HJ.out
      have HB3 := Lib.hid (show BoxAt wr w1.heap.size lo k i by rw [← hle]; exact HB.out)
      have HR3 := Lib.hid HR.out
      have HA3 := Lib.hid HA.out
      clear b1 b2 p2 bf0 hle
      go_wp2_with fail
      obtain ⟨w3, hw3⟩ : ∃ w3, w3 = wr := ⟨_, rfl⟩
      subst hw3
      clear b0 hj0 HB HR HA HJ hj
      go_loopw [39] (fun _ wr => ∃ h : Nat, k ≤ h ∧ h < ss.length ∧ hiR (upAt ss i) ss.length h = hi ∧ BoxAt wr w1.heap.size lo h i ∧ BoxAt wr (w.heap.size + 1) 0 0 0 ∧ CardAt w wr d f (some ⟨q0, o0, none⟩) c ss) (fun _ wr => ss.length - (intOf ((wr.cell? ⟨w1.heap.size, 1, none⟩).getD undef)).toNat)
      case atStart => exact ⟨k, Nat.le_refl _, hkn, HHI.out.symm, HB3.out, HR3.out, HA3.out⟩
      case round =>
        obtain ⟨h, hk1, hk2, hjh, hbx, hr, hca⟩ := hrel
        have HJ := Lib.hid hjh
        have HB := Lib.hid hbx
        have HR := Lib.hid hr
        have HA := Lib.hid hca
        obtain ⟨b0, b1, b2, bfz⟩ := hbx
        obtain ⟨p0, p1, p2, prow, pb, plt⟩ := hca
        clear HB3 HR3 HA3 hjh hr bfz prow pb plt p0 p1
        have HHYH := Lib.hid (HHY.out h)
        have HHNH := Lib.hid (HHN.out h)
        by_cases h1 : h + 1 < ss.length
        · have hi1 : (h : Int) + 1 < (ss.length : Int) := by omega
          obtain ⟨q1, o1, e1, hq1, hcc⟩ := HA.out.at_ h1
          obtain ⟨rfl, rfl⟩ : q0 = q1 ∧ o0 = o1 := by simpa using e1
          have hcc' : wr.cell? ⟨q0, o0 + (h + 1), none⟩ = some (.string (ss.getD (h + 1) .empty)) := hcc
          clear e1 b0 b2 hcc
          have HUJ := Lib.hid (fun w => HUP.out (h + 1) w h1)
          generalize ss.getD (h + 1) .empty = s2 at *
          generalize upAt ss i (h + 1) = pj at *
          cases pj with
          | true =>
            go_wp2_with fail
            refine (HUJ.out _).mono ?_
            rintro e w4 ⟨rfl, qd, hqd⟩
            have hqb : Below wr.heap.size wr w4 := by rw [hqd]; exact below_drewN (Below.refl _ _) _
            have HB4 := Lib.hid (HB.out.on hqb)
            have HR4 := Lib.hid (HR.out.on hqb)
            have HA4 := Lib.hid (HA.out.on hqb)
            have HM := Lib.hid b1
            have c1 := HB4.out.c1
            have f1 := HB4.out.fz 1
            clear b1 p2 hcc' hqd hqb HB HR HA HUJ
            go_wp2_with fail
            have HB5 := Lib.hid (HB4.out.put1 ((h : Int) + 1))
            have HR5 := Lib.hid (HR4.out.far (p := ⟨w1.heap.size, 1, none⟩) (show w1.heap.size ≠ w.heap.size + 1 by omega) (.int .i64 ((h : Int) + 1)))
            have HA5 := Lib.hid (HA4.out.farSet (p := ⟨w1.heap.size, 1, none⟩) (show w.heap.size < w1.heap.size by omega) (.int .i64 ((h : Int) + 1)))
            go_roundw
            case rel => exact ⟨h + 1, by omega, h1, by rw [← HJ.out, HHYH.out h1 (by first | rfl | trivial)], HB5.out, HR5.out, HA5.out⟩
            case measure =>
              have m1 := HB5.out.c1
              have m2 := HM.out
              simp only [m1, m2, Option.getD_some, intOf]
              omega
          | false =>
            go_wp2_with fail
            refine (HUJ.out _).mono ?_
            rintro e w4 ⟨rfl, qd, hqd⟩
            have hqb : Below wr.heap.size wr w4 := by rw [hqd]; exact below_drewN (Below.refl _ _) _
            have hle := (HHNH.out (fun x => absurd x.2 (by decide))).symm.trans HJ.out
            have HB4 := Lib.hid (show BoxAt w4 w1.heap.size lo hi i by rw [← hle]; exact HB.out.on hqb)
            have HR4 := Lib.hid (HR.out.on hqb)
            have HA4 := Lib.hid (HA.out.on hqb)
            clear b1 p2 hcc' hqd hqb HB HR HA HUJ hle HJ
            obtain ⟨v0, v1, v2, vfz⟩ := HB4.out
            obtain ⟨r0, r1, r2, rfz⟩ := HR4.out
            have rf0 := rfz 0
            have rf1 := rfz 1
            have rf2 := rfz 2
            have HBW := Lib.hid HA4.out.below
            clear vfz rfz
            go_wp2_with fail
            refine bodyPost_ret (v := .tuple #[.agg #[.int .i64 lo, .int .i64 hi, .int .i64 i], .bool true]) (by simp [results, Try.results23, go_sem, r0, r1, r2]) rfl ?_
            have hbw := HBW.out
            exact ⟨rfl, (by repeat' (first | exact Below.refl _ _ | assumption | (refine Below.drew ?_) | (refine below_drewN ?_ _) | (refine below_thru ?_ (by assumption)) | (refine below_alloc ?_ _) | (refine Below.setCell ?_ (by first | omega | (simp; done) | (simp; omega)) _) | (refine Below.alloc ?_ (by first | omega | (simp; done) | (simp; omega)) _)))⟩
        · have hi1 : ¬ (h : Int) + 1 < (ss.length : Int) := by omega
          have hle := ((HHNH.out (fun x => h1 x.1)).symm.trans HJ.out).symm
          clear HHYH HHNH HJ
          subst hle
          have HB4 := Lib.hid HB.out
          have HR4 := Lib.hid HR.out
          have HA4 := Lib.hid HA.out
          clear HB HR HA b0 b1 b2
          obtain ⟨v0, v1, v2, vfz⟩ := HB4.out
          obtain ⟨r0, r1, r2, rfz⟩ := HR4.out
          have rf0 := rfz 0
          have rf1 := rfz 1
          have rf2 := rfz 2
          have HBW := Lib.hid HA4.out.below
          clear vfz rfz
          go_wp2_with fail
          refine bodyPost_ret (v := .tuple #[.agg #[.int .i64 lo, .int .i64 hi, .int .i64 i], .bool true]) (by simp [results, Try.results23, go_sem, r0, r1, r2]) rfl ?_
          have hbw := HBW.out
          exact ⟨rfl, (by repeat' (first | exact Below.refl _ _ | assumption | (refine Below.drew ?_) | (refine below_drewN ?_ _) | (refine below_thru ?_ (by assumption)) | (refine below_alloc ?_ _) | (refine Below.setCell ?_ (by first | omega | (simp; done) | (simp; omega)) _) | (refine Below.alloc ?_ (by first | omega | (simp; done) | (simp; omega)) _)))⟩
    · obtain ⟨j', rfl⟩ : ∃ j', j = j' + 1 := ⟨j - 1, by omega⟩
      have hj0 : (0 : Int) < ((j' + 1 : Nat) : Int) := by omega
      have hj1 : ((j' + 1 : Nat) : Int) - 1 = (j' : Int) := by omega
      have hj2 : (j' : Int) < (ss.length : Int) := by omega
      obtain ⟨q1, o1, e1, hq1, hcc⟩ := HA.out.at_ (k := j') (by omega)
      obtain ⟨rfl, rfl⟩ : q0 = q1 ∧ o0 = o1 := by simpa using e1
      clear e1 b1 b2
      have HUJ := Lib.hid (fun w => HUP.out j' w (by omega))
      have HLYJ := Lib.hid (HLY.out j')
      have HLNJ := Lib.hid (HLN.out j')
      generalize ss.getD j' .empty = s at *
      generalize upAt ss i j' = pj at *
      cases pj with
      | true =>
        go_wp2_with fail
        refine (HUJ.out _).mono ?_
        rintro e w3 ⟨rfl, qd, hqd⟩
        have hqb : Below wr.heap.size wr w3 := by rw [hqd]; exact below_drewN (Below.refl _ _) _
        have HB3 := Lib.hid (HB.out.on hqb)
        have HR3 := Lib.hid (HR.out.on hqb)
        have HA3 := Lib.hid (HA.out.on hqb)
        have HM := Lib.hid b0
        have c0 := HB3.out.c0
        have f0 := HB3.out.fz 0
        clear b0 bf0 p2 hcc hqd hqb HB HR HA HUJ
        go_wp2_with fail
        have HB4 := Lib.hid (HB3.out.put0 (j' : Int))
        have HR4 := Lib.hid (HR3.out.far (p := ⟨w1.heap.size, 0, none⟩) (show w1.heap.size ≠ w.heap.size + 1 by omega) (.int .i64 (j' : Int)))
        have HA4 := Lib.hid (HA3.out.farSet (p := ⟨w1.heap.size, 0, none⟩) (show w.heap.size < w1.heap.size by omega) (.int .i64 (j' : Int)))
        go_roundw
        case rel => exact ⟨j', by omega, by rw [← HJ.out, HLYJ.out (by first | rfl | trivial)], HB4.out, HR4.out, HA4.out⟩
        case measure =>
          have m1 := HB4.out.c0
          have m2 := HM.out
          simp only [m1, m2, Option.getD_some, intOf]
          omega
      | false =>
        go_wp2_with fail
        refine (HUJ.out _).mono ?_
        rintro e w3 ⟨rfl, qd, hqd⟩
        have hqb : Below wr.heap.size wr w3 := by rw [hqd]; exact below_drewN (Below.refl _ _) _
        have hle := (HLNJ.out (by first | rfl | trivial)).symm.trans HJ.out
        have HB3 := Lib.hid (show BoxAt w3 w1.heap.size lo k i by rw [← hle]; exact HB.out.on hqb)
        have HR3 := Lib.hid (HR.out.on hqb)
        have HA3 := Lib.hid (HA.out.on hqb)
        clear b0 bf0 p2 hcc hqd hqb HB HR HA HUJ hle HJ hj0 hj1 hj2 HLYJ HLNJ hj h0
        go_wp2_with fail
        go_loopw [39] (fun _ wr => ∃ h : Nat, k ≤ h ∧ h < ss.length ∧ hiR (upAt ss i) ss.length h = hi ∧ BoxAt wr w1.heap.size lo h i ∧ BoxAt wr (w.heap.size + 1) 0 0 0 ∧ CardAt w wr d f (some ⟨q0, o0, none⟩) c ss) (fun _ wr => ss.length - (intOf ((wr.cell? ⟨w1.heap.size, 1, none⟩).getD undef)).toNat)
        case atStart => exact ⟨k, Nat.le_refl _, hkn, HHI.out.symm, HB3.out, HR3.out, HA3.out⟩
        case round =>
          obtain ⟨h, hk1, hk2, hjh, hbx, hr, hca⟩ := hrel
          have HJ := Lib.hid hjh
          have HB := Lib.hid hbx
          have HR := Lib.hid hr
          have HA := Lib.hid hca
          obtain ⟨b0, b1, b2, bfz⟩ := hbx
          obtain ⟨p0, p1, p2, prow, pb, plt⟩ := hca
          clear HB3 HR3 HA3 hjh hr bfz prow pb plt p0 p1
          have HHYH := Lib.hid (HHY.out h)
          have HHNH := Lib.hid (HHN.out h)
          by_cases h1 : h + 1 < ss.length
          · have hi1 : (h : Int) + 1 < (ss.length : Int) := by omega
            obtain ⟨q1, o1, e1, hq1, hcc⟩ := HA.out.at_ h1
            obtain ⟨rfl, rfl⟩ : q0 = q1 ∧ o0 = o1 := by simpa using e1
            have hcc' : wr.cell? ⟨q0, o0 + (h + 1), none⟩ = some (.string (ss.getD (h + 1) .empty)) := hcc
            clear e1 b0 b2 hcc
            have HUJ := Lib.hid (fun w => HUP.out (h + 1) w h1)
            generalize ss.getD (h + 1) .empty = s2 at *
            generalize upAt ss i (h + 1) = pj at *
            cases pj with
            | true =>
              go_wp2_with fail
              refine (HUJ.out _).mono ?_
              rintro e w4 ⟨rfl, qd, hqd⟩
              have hqb : Below wr.heap.size wr w4 := by rw [hqd]; exact below_drewN (Below.refl _ _) _
              have HB4 := Lib.hid (HB.out.on hqb)
              have HR4 := Lib.hid (HR.out.on hqb)
              have HA4 := Lib.hid (HA.out.on hqb)
              have HM := Lib.hid b1
              have c1 := HB4.out.c1
              have f1 := HB4.out.fz 1
              clear b1 p2 hcc' hqd hqb HB HR HA HUJ
              go_wp2_with fail
              have HB5 := Lib.hid (HB4.out.put1 ((h : Int) + 1))
              have HR5 := Lib.hid (HR4.out.far (p := ⟨w1.heap.size, 1, none⟩) (show w1.heap.size ≠ w.heap.size + 1 by omega) (.int .i64 ((h : Int) + 1)))
              have HA5 := Lib.hid (HA4.out.farSet (p := ⟨w1.heap.size, 1, none⟩) (show w.heap.size < w1.heap.size by omega) (.int .i64 ((h : Int) + 1)))
              go_roundw
              case rel => exact ⟨h + 1, by omega, h1, by rw [← HJ.out, HHYH.out h1 (by first | rfl | trivial)], HB5.out, HR5.out, HA5.out⟩
              case measure =>
                have m1 := HB5.out.c1
                have m2 := HM.out
                simp only [m1, m2, Option.getD_some, intOf]
                omega
            | false =>
              go_wp2_with fail
              refine (HUJ.out _).mono ?_
              rintro e w4 ⟨rfl, qd, hqd⟩
              have hqb : Below wr.heap.size wr w4 := by rw [hqd]; exact below_drewN (Below.refl _ _) _
              have hle := (HHNH.out (fun x => absurd x.2 (by decide))).symm.trans HJ.out
              have HB4 := Lib.hid (show BoxAt w4 w1.heap.size lo hi i by rw [← hle]; exact HB.out.on hqb)
              have HR4 := Lib.hid (HR.out.on hqb)
              have HA4 := Lib.hid (HA.out.on hqb)
              clear b1 p2 hcc' hqd hqb HB HR HA HUJ hle HJ
              obtain ⟨v0, v1, v2, vfz⟩ := HB4.out
              obtain ⟨r0, r1, r2, rfz⟩ := HR4.out
              have rf0 := rfz 0
              have rf1 := rfz 1
              have rf2 := rfz 2
              have HBW := Lib.hid HA4.out.below
              clear vfz rfz
              go_wp2_with fail
              refine bodyPost_ret (v := .tuple #[.agg #[.int .i64 lo, .int .i64 hi, .int .i64 i], .bool true]) (by simp [results, Try.results23, go_sem, r0, r1, r2]) rfl ?_
              have hbw := HBW.out
              exact ⟨rfl, (by repeat' (first | exact Below.refl _ _ | assumption | (refine Below.drew ?_) | (refine below_drewN ?_ _) | (refine below_thru ?_ (by assumption)) | (refine below_alloc ?_ _) | (refine Below.setCell ?_ (by first | omega | (simp; done) | (simp; omega)) _) | (refine Below.alloc ?_ (by first | omega | (simp; done) | (simp; omega)) _)))⟩
          · have hi1 : ¬ (h : Int) + 1 < (ss.length : Int) := by omega
            have hle := ((HHNH.out (fun x => h1 x.1)).symm.trans HJ.out).symm
            clear HHYH HHNH HJ
            subst hle
            have HB4 := Lib.hid HB.out
            have HR4 := Lib.hid HR.out
            have HA4 := Lib.hid HA.out
            clear HB HR HA b0 b1 b2
            obtain ⟨v0, v1, v2, vfz⟩ := HB4.out
            obtain ⟨r0, r1, r2, rfz⟩ := HR4.out
            have rf0 := rfz 0
            have rf1 := rfz 1
            have rf2 := rfz 2
            have HBW := Lib.hid HA4.out.below
            clear vfz rfz
            go_wp2_with fail
            refine bodyPost_ret (v := .tuple #[.agg #[.int .i64 lo, .int .i64 hi, .int .i64 i], .bool true]) (by simp [results, Try.results23, go_sem, r0, r1, r2]) rfl ?_
            have hbw := HBW.out
            exact ⟨rfl, (by repeat' (first | exact Below.refl _ _ | assumption | (refine Below.drew ?_) | (refine below_drewN ?_ _) | (refine below_thru ?_ (by assumption)) | (refine below_alloc ?_ _) | (refine Below.setCell ?_ (by first | omega | (simp; done) | (simp; omega)) _) | (refine Below.alloc ?_ (by first | omega | (simp; done) | (simp; omega)) _)))⟩

theorem implWidestBox_no1 (d f : Int) (A : Option Addr) (c : Nat) (ss : List ByteArray) (k i : Int) (w : World) (hx : SRow w w.heap.size A ss) (hm : ∀ s ∈ ss, s.size ≤ 4294967296) (h : hasStrip d f ss k = false) :
    Calls Try.prog 24 #[.agg #[.int .i64 d, .int .i64 f, .slice A ss.length c], .int .i64 k, .int .i64 i] w fun e w' => e = .returned (.tuple #[.agg #[.int .i64 0, .int .i64 0, .int .i64 0], .bool false]) ∧ Below w.heap.size w w' := by
  have HH := Lib.hid (fun w hx => hasStrip_any d f A c ss k w hx hm)
  rw [h] at HH
  have HST := Lib.hid (CardAt.start (d := d) (f := f) (c := c) hx)
  clear hx h
  go_enter Try.func24, Try.ntmps24
  go_wp2_with fail
  refine (HH.out _ (HST.out.on (below_alloc (Below.refl _ _) _)).full).mono ?_
  rintro e wA ⟨rfl, hb⟩
  have HA := Lib.hid ((HST.out.on (below_alloc (Below.refl _ _) (.cells #[.int .i64 0, .int .i64 0, .int .i64 0] 37))).on hb)
  have HR4 := Lib.hid ((show BoxAt ((w.alloc (.cells #[.int .i64 d, .int .i64 f, .slice A ss.length c] 27)).alloc (.cells #[.int .i64 0, .int .i64 0, .int .i64 0] 37)) (w.heap.size + 1) 0 0 0 from ⟨by go_simp, by go_simp, by go_simp, fun j => by go_simp⟩).on hb)
  clear HST hb
  obtain ⟨r0, r1, r2, rfz⟩ := HR4.out
  have rf0 := rfz 0
  have rf1 := rfz 1
  have rf2 := rfz 2
  have HBW := Lib.hid HA.out.below
  clear rfz
  go_wp2_with fail
  refine bodyPost_ret (v := .tuple #[.agg #[.int .i64 0, .int .i64 0, .int .i64 0], .bool false]) (by simp [results, Try.results24, go_sem, r0, r1, r2]) rfl ?_
  have hbw := HBW.out
  exact ⟨rfl, (by repeat' (first | exact Below.refl _ _ | assumption | (refine Below.drew ?_) | (refine below_drewN ?_ _) | (refine below_thru ?_ (by assumption)) | (refine below_alloc ?_ _) | (refine Below.setCell ?_ (by first | omega | (simp; done) | (simp; omega)) _) | (refine Below.alloc ?_ (by first | omega | (simp; done) | (simp; omega)) _)))⟩
theorem implWidestBox_no2 (d f : Int) (A : Option Addr) (c : Nat) (ss : List ByteArray) (k i : Int) (w : World) (hx : SRow w w.heap.size A ss) (hm : ∀ s ∈ ss, s.size ≤ 4294967296) (h : hasStrip d f ss k = true) (hu : upAt ss i k.toNat = false) :
    Calls Try.prog 24 #[.agg #[.int .i64 d, .int .i64 f, .slice A ss.length c], .int .i64 k, .int .i64 i] w fun e w' => e = .returned (.tuple #[.agg #[.int .i64 0, .int .i64 0, .int .i64 0], .bool false]) ∧ Below w.heap.size w w' := by
  have hc1 := h
  unfold hasStrip at hc1
  rw [Bool.and_eq_true] at hc1
  have hb0 := inB_iff.1 hc1.2
  have hlen := (cardOk_parts hc1.1).2.2.1
  obtain ⟨n, rfl⟩ := Int.eq_ofNat_of_zero_le (show 0 ≤ k by omega)
  rw [Int.toNat_natCast] at hu
  have hn : n < ss.length := by omega
  have HUP := Lib.hid (fun w => show Calls Try.prog 52 #[.string (ss.getD n .empty), .int .i64 i] w (fun e w' => e = .returned (.bool (upAt ss i n)) ∧ ∃ q, w' = w.drewN q) from implCanRaise_any (ss.getD n .empty) i w (hm _ (mem_getD hn)))
  rw [hu] at HUP
  have HH := Lib.hid (fun w hx => hasStrip_any d f A c ss n w hx hm)
  rw [h] at HH
  obtain ⟨q0, o0, rfl, _, _⟩ := SRow.at_ hx hn
  have HST := Lib.hid (CardAt.start (d := d) (f := f) (c := c) hx)
  have hni : (n : Int) < (ss.length : Int) := by omega
  clear hx h hc1 hb0 hu
  go_enter Try.func24, Try.ntmps24
  go_wp2_with fail
  refine (HH.out _ (HST.out.on (below_alloc (Below.refl _ _) _)).full).mono ?_
  rintro e wA ⟨rfl, hb⟩
  have HA := Lib.hid ((HST.out.on (below_alloc (Below.refl _ _) (.cells #[.int .i64 0, .int .i64 0, .int .i64 0] 37))).on hb)
  have HR := Lib.hid ((show BoxAt ((w.alloc (.cells #[.int .i64 d, .int .i64 f, .slice (some ⟨q0, o0, none⟩) ss.length c] 27)).alloc (.cells #[.int .i64 0, .int .i64 0, .int .i64 0] 37)) (w.heap.size + 1) 0 0 0 from ⟨by go_simp, by go_simp, by go_simp, fun j => by go_simp⟩).on hb)
  clear HST hb
  obtain ⟨p0, p1, p2, prow, pb, plt⟩ := HA.out
  obtain ⟨q1, o1, e1, hq1, hcc⟩ := HA.out.at_ hn
  obtain ⟨rfl, rfl⟩ : q0 = q1 ∧ o0 = o1 := by simpa using e1
  generalize ss.getD n .empty = s at *
  clear prow pb plt p0 p1 e1
  go_wp2_with fail
  refine (HUP.out _).mono ?_
  rintro e w1 ⟨rfl, qd, hqd⟩
  have hqb : Below wA.heap.size wA w1 := by rw [hqd]; exact below_drewN (Below.refl _ _) _
  have HA1 := Lib.hid (HA.out.on hqb)
  have HR4 := Lib.hid (HR.out.on hqb)
  clear hqd hqb p2 hcc
  obtain ⟨r0, r1, r2, rfz⟩ := HR4.out
  have rf0 := rfz 0
  have rf1 := rfz 1
  have rf2 := rfz 2
  have HBW := Lib.hid HA1.out.below
  clear rfz
  go_wp2_with fail
  refine bodyPost_ret (v := .tuple #[.agg #[.int .i64 0, .int .i64 0, .int .i64 0], .bool false]) (by simp [results, Try.results24, go_sem, r0, r1, r2]) rfl ?_
  have hbw := HBW.out
  exact ⟨rfl, (by repeat' (first | exact Below.refl _ _ | assumption | (refine Below.drew ?_) | (refine below_drewN ?_ _) | (refine below_thru ?_ (by assumption)) | (refine below_alloc ?_ _) | (refine Below.setCell ?_ (by first | omega | (simp; done) | (simp; omega)) _) | (refine Below.alloc ?_ (by first | omega | (simp; done) | (simp; omega)) _)))⟩
theorem specWidestBox_no (d f : Int) (A : Option Addr) (c : Nat) (ss : List ByteArray) (k i : Int) (w : World) (hx : SRow w w.heap.size A ss) (hm : ∀ s ∈ ss, s.size ≤ 4294967296) (bk : -9223372036854775808 ≤ k ∧ k ≤ 9223372036854775807) (h : canW d f ss k i = false) :
    Calls Try.prog 23 #[.agg #[.int .i64 d, .int .i64 f, .slice A ss.length c], .int .i64 k, .int .i64 i] w fun e w' => e = .returned (.tuple #[.agg #[.int .i64 0, .int .i64 0, .int .i64 0], .bool false]) ∧ Below w.heap.size w w' := by
  have HH := Lib.hid (fun w hx => specCanAdd_any d f A c ss k i w hx hm bk)
  rw [h] at HH
  have HST := Lib.hid (CardAt.start (d := d) (f := f) (c := c) hx)
  clear hx h
  go_enter Try.func23, Try.ntmps23
  go_wp2_with fail
  refine (HH.out _ (HST.out.on (below_alloc (Below.refl _ _) _)).full).mono ?_
  rintro e wA ⟨rfl, hb⟩
  have HA := Lib.hid ((HST.out.on (below_alloc (Below.refl _ _) (.cells #[.int .i64 0, .int .i64 0, .int .i64 0] 37))).on hb)
  have HR4 := Lib.hid ((show BoxAt ((w.alloc (.cells #[.int .i64 d, .int .i64 f, .slice A ss.length c] 27)).alloc (.cells #[.int .i64 0, .int .i64 0, .int .i64 0] 37)) (w.heap.size + 1) 0 0 0 from ⟨by go_simp, by go_simp, by go_simp, fun j => by go_simp⟩).on hb)
  clear HST hb
  obtain ⟨r0, r1, r2, rfz⟩ := HR4.out
  have rf0 := rfz 0
  have rf1 := rfz 1
  have rf2 := rfz 2
  have HBW := Lib.hid HA.out.below
  clear rfz
  go_wp2_with fail
  refine bodyPost_ret (v := .tuple #[.agg #[.int .i64 0, .int .i64 0, .int .i64 0], .bool false]) (by simp [results, Try.results23, go_sem, r0, r1, r2]) rfl ?_
  have hbw := HBW.out
  exact ⟨rfl, (by repeat' (first | exact Below.refl _ _ | assumption | (refine Below.drew ?_) | (refine below_drewN ?_ _) | (refine below_thru ?_ (by assumption)) | (refine below_alloc ?_ _) | (refine Below.setCell ?_ (by first | omega | (simp; done) | (simp; omega)) _) | (refine Below.alloc ?_ (by first | omega | (simp; done) | (simp; omega)) _)))⟩

def wboxV (d f : Int) (ss : List ByteArray) (k i : Int) : Value := .agg #[.int .i64 (wbox d f ss k i).1, .int .i64 (wbox d f ss k i).2.1, .int .i64 (wbox d f ss k i).2.2]
theorem implWidestBox_any (d f : Int) (A : Option Addr) (c : Nat) (ss : List ByteArray) (k i : Int) (w : World) (hx : SRow w w.heap.size A ss) (hm : ∀ s ∈ ss, s.size ≤ 4294967296) (bk : -9223372036854775808 ≤ k ∧ k ≤ 9223372036854775807) (bi : -9223372036854775808 ≤ i ∧ i ≤ 9223372036854775807) :
    Calls Try.prog 24 #[.agg #[.int .i64 d, .int .i64 f, .slice A ss.length c], .int .i64 k, .int .i64 i] w fun e w' => e = .returned (.tuple #[.agg #[.int .i64 (wbox d f ss k i).1, .int .i64 (wbox d f ss k i).2.1, .int .i64 (wbox d f ss k i).2.2], .bool (canW d f ss k i)]) ∧ Below w.heap.size w w' := by
  cases h : hasStrip d f ss k
  · have hc : canW d f ss k i = false := by unfold canW; rw [h]; rfl
    unfold wbox
    rw [hc]
    exact implWidestBox_no1 d f A c ss k i w hx hm h
  · cases hu : upAt ss i k.toNat
    · have hc : canW d f ss k i = false := by unfold canW; rw [h, hu]; rfl
      unfold wbox
      rw [hc]
      exact implWidestBox_no2 d f A c ss k i w hx hm h hu
    · have hc : canW d f ss k i = true := by unfold canW; rw [h, hu]; rfl
      have hc1 := h
      unfold hasStrip at hc1
      rw [Bool.and_eq_true] at hc1
      obtain ⟨n, rfl⟩ := Int.eq_ofNat_of_zero_le (show 0 ≤ k by have := inB_iff.1 hc1.2; omega)
      unfold wbox
      rw [if_pos hc]
      have := implWidestBox_yes d f A c ss n i w hx hm bi hc
      rw [hc]
      exact this
theorem specWidestBox_any (d f : Int) (A : Option Addr) (c : Nat) (ss : List ByteArray) (k i : Int) (w : World) (hx : SRow w w.heap.size A ss) (hm : ∀ s ∈ ss, s.size ≤ 4294967296) (bk : -9223372036854775808 ≤ k ∧ k ≤ 9223372036854775807) (bi : -9223372036854775808 ≤ i ∧ i ≤ 9223372036854775807) :
    Calls Try.prog 23 #[.agg #[.int .i64 d, .int .i64 f, .slice A ss.length c], .int .i64 k, .int .i64 i] w fun e w' => e = .returned (.tuple #[.agg #[.int .i64 (wbox d f ss k i).1, .int .i64 (wbox d f ss k i).2.1, .int .i64 (wbox d f ss k i).2.2], .bool (canW d f ss k i)]) ∧ Below w.heap.size w w' := by
  cases hc : canW d f ss k i
  · unfold wbox
    rw [hc]
    exact specWidestBox_no d f A c ss k i w hx hm bk hc
  · have hc1 := hc
    unfold canW hasStrip at hc1
    rw [Bool.and_eq_true, Bool.and_eq_true] at hc1
    obtain ⟨n, rfl⟩ := Int.eq_ofNat_of_zero_le (show 0 ≤ k by have := inB_iff.1 hc1.1.2; omega)
    unfold wbox
    rw [if_pos hc]
    exact specWidestBox_yes d f A c ss n i w hx hm bi hc

end Go.Proofs.Ytjdelolfbnaiaaa
