
/-
  Contracts of the cursor of a draw: a number is drawn, the cursor alone is changed; no condition.
-/
import Derived.Test.YtpeopfkechbelaaNum
import Derived.Test.YtpeopfkechbelaaInts0
import Derived.Laws.Bits64b
import Derived.Laws.Shifts
import Derived.BigRegion
import Derived.IntWalk
import Derived.Deep.Cut
import Derived.Deep.QuietTactic
import Derived.BigQuiet
namespace Go.Proofs.Ytpeopfkechbelaa
open Go.ChangeShapes Go.WideShapes Go.ChangeAt Go.RowKit Go.Deep Go.BigFrame
set_option linter.unusedVariables false
set_option linter.unusedSimpArgs false

/-- a slice of bytes that reads as bs -/
def BRow (w : World) (B : Nat) (A : Option Addr) (bs : List UInt8) : Prop := Row w B 1 A bs.length (bs.map fun b : UInt8 => Value.int .u8 b.toNat)
theorem BRow.at_ {w : World} {B : Nat} {A : Option Addr} {bs : List UInt8} (h : BRow w B A bs) {k : Nat} (hk : k < bs.length) :
    ∃ b off, A = some ⟨b, off, none⟩ ∧ b < B ∧ w.cell? ⟨b, off + k, none⟩ = some (.int .u8 ((bs.getD k 0).toNat : Nat)) := by
  obtain ⟨b, off, e, hb, hc⟩ := Row.at_ (k := k) h (by omega) (by omega)
  refine ⟨b, off, e, hb, hc.trans ?_⟩
  simp [List.getD, hk]

/-- a cursor of a draw, in block g -/
def Cur (w : World) (g : Nat) (A : Option Addr) (c : Nat) (bs : List UInt8) : Prop :=
  ∃ (i : Nat) (h : Int), i ≤ bs.length ∧ w.cell? ⟨g, 0, none⟩ = some (.slice A bs.length c) ∧ w.cell? ⟨g, 1, none⟩ = some (.int .i64 i) ∧ w.cell? ⟨g, 2, none⟩ = some (.int .i64 h) ∧
    (∀ o, w.frozen? ⟨g, o, none⟩ = false) ∧ BRow w g A bs
theorem Cur.lt {w : World} {g : Nat} {A : Option Addr} {c : Nat} {bs : List UInt8} (h : Cur w g A c bs) : g < w.heap.size := by
  obtain ⟨i, hh, _, h1, _⟩ := h
  exact World.block_lt_of_cell? w _ h1
theorem Cur.keep {w w' : World} {g : Nat} {A : Option Addr} {c : Nat} {bs : List UInt8} (h : Cur w g A c bs) (hk : ∀ b, b ≤ g → w'.heap[b]? = w.heap[b]?) : Cur w' g A c bs := by
  obtain ⟨i, hh, h0, h1, h2, h3, h4, h5⟩ := h
  exact ⟨i, hh, h0, (World.cell?_of_block (hk g (Nat.le_refl _))).trans h1, (World.cell?_of_block (hk g (Nat.le_refl _))).trans h2, (World.cell?_of_block (hk g (Nat.le_refl _))).trans h3,
    fun o => (World.frozen?_of_block (hk g (Nat.le_refl _))).trans (h4 o), Row.keep h5 (fun b o hb => World.cell?_of_block (hk b (by omega)))⟩
theorem Cur.on {w w' : World} {g : Nat} {A : Option Addr} {c : Nat} {bs : List UInt8} (h : Cur w g A c bs) (hb : Below w.heap.size w w') : Cur w' g A c bs := h.keep fun b hl => hb.block b (Nat.lt_of_le_of_lt hl h.lt)
theorem Cur.grown {w w' : World} {g : Nat} {A : Option Addr} {c : Nat} {bs : List UInt8} {row : Option Nat} (h : Cur w g A c bs) (hg : w.grownBy w' row) (hr : ∀ r, row = some r → g < r) : Cur w' g A c bs :=
  h.keep fun b hl => hg.block b (Nat.lt_of_le_of_lt hl h.lt) (fun e => by have := hr b e.symm; omega)
theorem Cur.far {w : World} {g : Nat} {A : Option Addr} {c : Nat} {bs : List UInt8} (h : Cur w g A c bs) {p : Addr} (hp : g < p.block) (v : Value) : Cur (w.setCell p v) g A c bs :=
  h.keep fun b hl => heap_setCell_other w p b v (by omega)

/-- behind a draw: the cursor is one still, nothing else that was there has changed -/
structure Drew (w w' : World) (g : Nat) (A : Option Addr) (c : Nat) (bs : List UInt8) : Prop where
  cur : Cur w' g A c bs
  by_ : w.grownBy w' (some g)
section
variable {w w' w2 : World} {g : Nat} {A : Option Addr} {c : Nat} {bs : List UInt8}
theorem Drew.trans (h : Drew w w' g A c bs) (k : Drew w' w2 g A c bs) : Drew w w2 g A c bs := ⟨k.cur, grown_trans h.by_ k.by_⟩
theorem Drew.refl (h : Cur w g A c bs) : Drew w w g A c bs := ⟨h, World.grownBy.refl _ _⟩
theorem Drew.cell (h : Drew w w' g A c bs) {b o : Nat} {v : Value} (hb : b ≠ g) (hc : w.cell? ⟨b, o, none⟩ = some v) : w'.cell? ⟨b, o, none⟩ = some v :=
  (World.cell?_of_block (h.by_.block b (World.block_lt_of_cell? w _ hc) (by simpa using hb))).trans hc
theorem Drew.frozen (h : Drew w w' g A c bs) {b o : Nat} {v : Bool} (hb : b ≠ g) (hl : b < w.heap.size) (hc : w.frozen? ⟨b, o, none⟩ = v) : w'.frozen? ⟨b, o, none⟩ = v :=
  (World.frozen?_of_block (h.by_.block b hl (by simpa using hb))).trans hc
theorem Drew.below (h : Drew w w' g A c bs) {B : Nat} {v : World} (hb : Below B v w) (hg : B ≤ g) (hB : B ≤ w.heap.size) : Below B v w' := hb.grown h.by_ hB (fun k hk => by simp at hk; omega)
theorem Drew.ofBelow (h : Cur w g A c bs) (hb : Below w.heap.size w w') : Drew w w' g A c bs := ⟨h.on hb, hb.os, hb.tape, hb.output, hb.size, fun k hk _ => hb.block k hk⟩
end

theorem and255 (y : Int) : ∃ n : Nat, n < 256 ∧ bits .and .i64 y 255 = (n : Int) := by
  have h2 : (BitVec.ofInt 64 255).toNat = 255 := by decide
  have hle : (BitVec.ofInt 64 y).toNat &&& 255 < 256 := by
    have := Nat.and_le_right (n := (BitVec.ofInt 64 y).toNat) (m := 255)
    omega
  refine ⟨(BitVec.ofInt 64 y).toNat &&& 255, hle, ?_⟩
  show IntKind.i64.wrap ((BitVec.ofInt 64 y &&& BitVec.ofInt 64 255).toNat : Int) = _
  rw [BitVec.toNat_and, h2, IntKind.wrap_i64]
  omega

set_option maxHeartbeats 1000000 in
theorem l01Byte_any (g : Nat) (A : Option Addr) (c : Nat) (bs : List UInt8) (w : World) (h : Cur w g A c bs) :
    Calls Try.prog 105 #[.pointer (some ⟨g, 0, none⟩)] w fun e w' => ∃ x : Nat, x < 256 ∧ e = .returned (.int .i64 x) ∧ Drew w w' g A c bs := by
  have H := Lib.hid h
  obtain ⟨i, hh, hi, h0, h1, h2, h3, h4⟩ := h
  have hm := h4.2.1
  unfold maxLen at hm
  have HB := Lib.hid h4
  have f2 := h3 2
  clear h3 h4
  go_enter Try.func105, Try.ntmps105
  go_wp2_with fail
  generalize wrap64 (wrap64 (hh * 6364136223846793005) + 1442695040888963407) = h5
  have k0 := (World.cell?_setCell_other w ⟨g, 2, none⟩ ⟨g, 0, none⟩ (.int .i64 h5) (by simp)).trans h0
  have k1 := (World.cell?_setCell_other w ⟨g, 2, none⟩ ⟨g, 1, none⟩ (.int .i64 h5) (by simp)).trans h1
  have k2 := World.cell?_setCell_same w ⟨g, 2, none⟩ (.int .i64 h5) h2
  have HD : Hid (Drew w (w.setCell ⟨g, 2, none⟩ (.int .i64 h5)) g A c bs) := by
    obtain ⟨i', hh', hi', a0, a1, a2, a3, a4⟩ := H.out
    obtain rfl : i' = i := by rw [h1] at a1; simp at a1; omega
    refine ⟨⟨i', h5, hi', k0, k1, k2, fun o => (World.frozen?_setCell w _ _ _).trans (a3 o), Row.setCell a4 (Nat.le_refl _) _⟩, ⟨rfl, rfl, rfl, by simp, fun k hk hne => heap_setCell_other w _ k _ (fun e => hne (by simp [e]))⟩⟩
  generalize w.setCell ⟨g, 2, none⟩ (.int .i64 h5) = w1 at *
  clear h0 h1 h2 f2 H HB
  go_quiet (fail)
  obtain ⟨x, hx, he⟩ := and255 (bits .xor .i64 (h5 / 8589934592) (h5 / 35184372088832))
  rw [he]
  have HD1 := Lib.hid (HD.out.trans (Drew.ofBelow HD.out.cur (below_drewN (Below.refl w1.heap.size w1) nq)))
  have k0 : (w1.drewN nq).cell? ⟨g, 0, none⟩ = some (.slice A bs.length c) := k0
  have k1 : (w1.drewN nq).cell? ⟨g, 1, none⟩ = some (.int .i64 i) := k1
  clear he k2 HD
  generalize w1.drewN nq = w2 at *
  by_cases hlt : i < bs.length
  · have hli : (i : Int) < (bs.length : Int) := by omega
    obtain ⟨i', h', hi', a0, a1, a2, a3, a4⟩ := HD1.out.cur
    obtain ⟨b, off, rfl, hb, hc⟩ := a4.at_ hlt
    generalize (bs.getD i 0).toNat = y at hc
    have f1 := a3 1
    clear a0 a1 a2 a3 a4
    go_wp2_with fail
    go_quiet (fail)
    have HD1 := Lib.hid (HD1.out.trans (Drew.ofBelow HD1.out.cur (below_drewN (Below.refl w2.heap.size w2) nq)))
    have k0 : (w2.drewN nq).cell? ⟨g, 0, none⟩ = some (.slice (some ⟨b, off, none⟩) bs.length c) := k0
    have k1 : (w2.drewN nq).cell? ⟨g, 1, none⟩ = some (.int .i64 i) := k1
    have hc : (w2.drewN nq).cell? ⟨b, off + i, none⟩ = some (.int .u8 (y : Nat)) := hc
    have f1 : (w2.drewN nq).frozen? ⟨g, 1, none⟩ = false := f1
    generalize w2.drewN nq = w2b at *
    go_wp2_with fail
    go_quiet (fail)
    obtain ⟨x2, hx2, he2⟩ := and255 (wrap64 ((x : Int) + wrap64 (y : Int)))
    rw [he2]
    have HD2 := Lib.hid (HD1.out.trans (Drew.ofBelow HD1.out.cur (below_drewN (Below.refl w2b.heap.size w2b) nq)))
    have k1 : (w2b.drewN nq).cell? ⟨g, 1, none⟩ = some (.int .i64 i) := k1
    have f1 : (w2b.drewN nq).frozen? ⟨g, 1, none⟩ = false := f1
    clear he2 HD1 hc k0
    generalize w2b.drewN nq = w3 at *
    go_wp2_with fail
    go_ret
    refine ⟨x2, hx2, rfl, HD2.out.trans ?_⟩
    obtain ⟨i9, h9, hi9, a0, a1, a2, a3, a4⟩ := HD2.out.cur
    refine ⟨⟨i + 1, h9, by omega, ?_, ?_, ?_, fun o => (World.frozen?_setCell w3 _ _ _).trans (a3 o), Row.setCell a4 (Nat.le_refl _) _⟩, ⟨rfl, rfl, rfl, by simp, fun k hk hne => heap_setCell_other w3 _ k _ (fun e => hne (by simp [e]))⟩⟩
    · exact (World.cell?_setCell_other w3 ⟨g, 1, none⟩ ⟨g, 0, none⟩ _ (by simp)).trans a0
    · exact World.cell?_setCell_same w3 ⟨g, 1, none⟩ _ k1
    · exact (World.cell?_setCell_other w3 ⟨g, 1, none⟩ ⟨g, 2, none⟩ _ (by simp)).trans a2
  · have hli : ¬ (i : Int) < (bs.length : Int) := by omega
    go_wp2_with fail
    go_quiet (fail)
    go_wp2_with fail
    go_ret
    exact ⟨x, hx, rfl, HD1.out.trans (Drew.ofBelow HD1.out.cur (below_drewN (Below.refl w2.heap.size w2) _))⟩

/-- a number below m -/
theorem l01Below_any (g : Nat) (A : Option Addr) (c : Nat) (bs : List UInt8) (m : Nat) (w : World) (h : Cur w g A c bs) (h1 : 1 ≤ m) (h2 : m ≤ 256) :
    Calls Try.prog 85 #[.pointer (some ⟨g, 0, none⟩), .int .i64 m] w fun e w' => ∃ x : Nat, x < m ∧ e = .returned (.int .i64 x) ∧ Drew w w' g A c bs := by
  have a1 : ¬ (m : Int) ≤ 0 := by omega
  have a2 : (m : Int) ≤ 256 := by omega
  have a3 : ¬ (m : Int) = 0 := by omega
  go_enter Try.func85, Try.ntmps85
  go_wp2_with fail
  refine (l01Byte_any g A c bs w h).mono ?_
  rintro e w1 ⟨x, hx, rfl, hd⟩
  have HD := Lib.hid hd
  clear h hd
  go_wp2_with fail
  go_ret
  refine ⟨x % m, Nat.mod_lt _ (by omega), ?_, HD.out⟩
  rfl

theorem l01Once_any (g : Nat) (A : Option Addr) (c : Nat) (bs : List UInt8) (m : Nat) (w : World) (h : Cur w g A c bs) (h1 : 1 ≤ m) (h2 : m ≤ 256) :
    Calls Try.prog 59 #[.pointer (some ⟨g, 0, none⟩), .int .i64 m] w fun e w' => ∃ x : Bool, e = .returned (.bool x) ∧ Drew w w' g A c bs := by
  go_enter Try.func59, Try.ntmps59
  go_wp2_with fail
  refine (l01Below_any g A c bs m w h h1 h2).mono ?_
  rintro e w1 ⟨x, hx, rfl, hd⟩
  go_wp2_with fail
  go_ret
  exact ⟨_, rfl, hd⟩

theorem l01PickInt_any (g : Nat) (A : Option Addr) (c : Nat) (bs : List UInt8) (B : Option Addr) (d : Nat) (zs : List Int) (w : World) (h : Cur w g A c bs) (hz : IRow w w.heap.size B zs) (hB : ∀ b, B = some b → b.block ≠ g) (h1 : 1 ≤ zs.length) (h2 : zs.length ≤ 256) :
    Calls Try.prog 92 #[.pointer (some ⟨g, 0, none⟩), .slice B zs.length d] w fun e w' => ∃ x ∈ zs, e = .returned (.int .i64 x) ∧ Drew w w' g A c bs := by
  go_enter Try.func92, Try.ntmps92
  go_wp2_with fail
  refine (l01Below_any g A c bs zs.length w h h1 h2).mono ?_
  rintro e w1 ⟨x, hx, rfl, hd⟩
  obtain ⟨b, off, rfl, hb, hc⟩ := hz.at_ hx
  have hne : b ≠ g := hB _ rfl
  have hc1 := hd.cell hne hc
  have HD := Lib.hid hd
  have hxi : (x : Int) < (zs.length : Int) := by omega
  have hmem : zs.getD x 0 ∈ zs := by simp [List.getD, hx]
  generalize zs.getD x 0 = z at *
  clear hc hd hz hB h
  go_wp2_with fail
  go_ret
  exact ⟨z, hmem, rfl, HD.out⟩

theorem heap_last (w : World) (o : Obj) : (w.alloc o).heap[w.heap.size]? = some o := by
  show (w.heap.push o)[w.heap.size]? = some o
  simp

theorem l01New_any (A : Option Addr) (c : Nat) (bs : List UInt8) (w : World) (h : BRow w w.heap.size A bs) :
    Calls Try.prog 49 #[.slice A bs.length c] w fun e w' => ∃ g : Nat, e = .returned (.pointer (some ⟨g, 0, none⟩)) ∧ w.heap.size ≤ g ∧ Cur w' g A c bs ∧ Below w.heap.size w w' := by
  have hm := h.2.1
  unfold maxLen at hm
  have H := Lib.hid h
  go_enter Try.func49, Try.ntmps49
  go_wp2_with fail
  go_loop [3, 4] (fun hv i => ∃ (k : Nat) (x : Int), k ≤ bs.length ∧ i = .int .i64 k ∧ hv = .int .i64 x) (fun _ i => bs.length - (intOf i).toNat)
  case atStart => exact ⟨0, _, Nat.zero_le _, rfl, rfl⟩
  case round =>
    obtain ⟨k, x, hk, rfl, rfl⟩ := hrel
    have hfin : ∀ (x : Int), Cur (w.alloc (.cells #[.slice A bs.length c, .int .i64 0, .int .i64 x] 84)) w.heap.size A c bs := fun x =>
      ⟨0, x, Nat.zero_le _, by go_simp, by go_simp, by go_simp, fun o => frozen_of_row _ _ _ _ _ (heap_last w _), Row.alloc H.out (Nat.le_refl _) _⟩
    by_cases hlt : k < bs.length
    · have hki : (k : Int) < (bs.length : Int) := by omega
      by_cases h4 : (k : Int) < 4000
      · obtain ⟨b, off, rfl, hb, hc⟩ := H.out.at_ hlt
        generalize (bs.getD k 0).toNat = y at hc
        clear h hfin
        go_wp2_with fail
        go_round
        case rel => exact ⟨k + 1, _, by omega, by go_num, rfl⟩
        case measure => simp [intOf]; omega
      · clear h
        go_wp2_with fail
        go_ret
        exact ⟨w.heap.size, rfl, Nat.le_refl _, hfin x, below_alloc (Below.refl _ _) _⟩
    · have hki : ¬ (k : Int) < (bs.length : Int) := by omega
      clear h
      go_wp2_with fail
      go_ret
      exact ⟨w.heap.size, rfl, Nat.le_refl _, hfin x, below_alloc (Below.refl _ _) _⟩

end Go.Proofs.Ytpeopfkechbelaa
