
/-
  Contract of the function value that PullAll pulls with; no condition.
-/
import Derived.Test.YtodocfanaplmpaaPullC
import Derived.BigRegion
import Derived.Deep.RegionHeld3
import Derived.Deep.Cut
namespace Go.Proofs.Ytodocfanaplmpaa
open Go.ChangeShapes Go.WideShapes Go.ChangeAt Go.RowKit Go.Deep Go.BigFrame
set_option linter.unusedVariables false
set_option linter.unusedSimpArgs false

/-- nothing of what was there has changed but for the blocks a and b -/
structure Two (w w' : World) (a b : Nat) : Prop where
  os : w'.os = w.os
  tape : w'.tape = w.tape
  output : w'.output = w.output
  size : w.heap.size ≤ w'.heap.size
  block : ∀ k, k < w.heap.size → k ≠ a → k ≠ b → w'.heap[k]? = w.heap[k]?

section
variable {w w' w2 : World} {a b : Nat}
theorem Two.refl (w : World) (a b : Nat) : Two w w a b := ⟨rfl, rfl, rfl, Nat.le_refl _, fun _ _ _ _ => rfl⟩
theorem Two.trans (h : Two w w' a b) (k : Two w' w2 a b) : Two w w2 a b :=
  ⟨k.os.trans h.os, k.tape.trans h.tape, k.output.trans h.output, Nat.le_trans h.size k.size, fun i hi h1 h2 => (k.block i (Nat.lt_of_lt_of_le hi h.size) h1 h2).trans (h.block i hi h1 h2)⟩
theorem Two.ofBelow (h : Below w.heap.size w w') : Two w w' a b := ⟨h.os, h.tape, h.output, h.size, fun i hi _ _ => h.block i hi⟩
theorem Two.drew (h : Two w w' a b) : Two w w'.drew a b := ⟨h.os, h.tape, h.output, h.size, h.block⟩
theorem Two.setL (h : Two w w' a b) (o : Nat) (v : Value) : Two w (w'.setCell ⟨a, o, none⟩ v) a b :=
  ⟨h.os, h.tape, h.output, by simpa using h.size, fun i hi h1 h2 => (heap_setCell_other w' ⟨a, o, none⟩ i v h1).trans (h.block i hi h1 h2)⟩
theorem Two.setR (h : Two w w' a b) (o : Nat) (v : Value) : Two w (w'.setCell ⟨b, o, none⟩ v) a b :=
  ⟨h.os, h.tape, h.output, by simpa using h.size, fun i hi h1 h2 => (heap_setCell_other w' ⟨b, o, none⟩ i v h2).trans (h.block i hi h1 h2)⟩
theorem Two.below (h : Two w w' a b) {B : Nat} (hB : B ≤ w.heap.size) (ha : B ≤ a) (hb : B ≤ b) : Below B w w' :=
  ⟨h.os, h.tape, h.output, h.size, fun i hi => h.block i (by omega) (by omega) (by omega)⟩
theorem Two.cell (h : Two w w' a b) {g o : Nat} {v : Value} (h1 : g ≠ a) (h2 : g ≠ b) (hc : w.cell? ⟨g, o, none⟩ = some v) : w'.cell? ⟨g, o, none⟩ = some v :=
  (World.cell?_of_block (h.block g (World.block_lt_of_cell? w _ hc) h1 h2)).trans hc
theorem own_of_block {base size n g c : Nat} {e : TypeId} {xs : List Value} (h : w.ownsRow base e size (.slice (some ⟨g, 0, none⟩) n c) n xs) (hg : w'.heap[g]? = w.heap[g]?) : w'.ownsRow base e size (.slice (some ⟨g, 0, none⟩) n c) n xs := by
  refine ⟨h.1, ?_⟩
  rcases h.2 with hn | ⟨g', cap, cur, e1, hb, hgg, rest⟩
  · exact .inl hn
  · have e2 := e1
    simp only [Value.slice.injEq, Option.some.injEq, Addr.mk.injEq, and_true, true_and] at e2
    obtain ⟨rfl, rfl⟩ := e2
    exact .inr ⟨g, c, cur, e1, hb, hg.trans hgg, rest⟩
theorem Two.own (h : Two w w' a b) {base size n g c : Nat} {e : TypeId} {xs : List Value} (ho : w.ownsRow base e size (.slice (some ⟨g, 0, none⟩) n c) n xs) (h1 : g ≠ a) (h2 : g ≠ b) : w'.ownsRow base e size (.slice (some ⟨g, 0, none⟩) n c) n xs :=
  own_of_block ho (h.block g (ho.lt g rfl).2 h1 h2)
/-- a store into another block -/
theorem own_far {base size n g c : Nat} {e : TypeId} {xs : List Value} (ho : w.ownsRow base e size (.slice (some ⟨g, 0, none⟩) n c) n xs) {p : Addr} (hp : g ≠ p.block) (v : Value) : (w.setCell p v).ownsRow base e size (.slice (some ⟨g, 0, none⟩) n c) n xs :=
  own_of_block ho (heap_setCell_other w p g v hp)
end

theorem cells3_set (ts : List (Int × Int × Int)) (i : Nat) (hi : i < ts.length) (x y z : Int) : cells3 (ts.set i (x, y, z)) = (((cells3 ts).set (i * 3) (.int .i64 x)).set (i * 3 + 1) (.int .i64 y)).set (i * 3 + 2) (.int .i64 z) := by
  induction ts generalizing i with
  | nil => simp at hi
  | cons t ts ih =>
    have e : ∀ t ts, cells3 (t :: ts) = [.int .i64 t.1, .int .i64 t.2.1, .int .i64 t.2.2] ++ cells3 ts := fun _ _ => rfl
    cases i with
    | zero => rfl
    | succ i =>
      rw [List.set_cons_succ, e, e, ih i (by simpa using hi)]
      rw [show (i + 1) * 3 = i * 3 + 3 by omega, show i * 3 + 3 + 1 = (i * 3 + 1) + 3 by omega, show i * 3 + 3 + 2 = (i * 3 + 2) + 3 by omega]
      rfl

/-- the state of a pull: out lies in block ob, what moved in block ib -/
structure PSt (w : World) (base gp ob n c ib ci : Nat) (st : SlSt) : Prop where
  p : w.cell? ⟨gp, 0, none⟩ = some (.slice (some ⟨ob, 0, none⟩) n c)
  o : w.ownsRow base 43 3 (.slice (some ⟨ob, 0, none⟩) n c) n (cells3 st.1)
  i : w.ownsRow base 3 1 (.slice (some ⟨ib, 0, none⟩) n ci) n (st.2.map (Value.int .i64))
  l1 : st.1.length = n
  l2 : st.2.length = n
  ne : ob ≠ ib
  g1 : gp ≠ ob
  g2 : gp ≠ ib

theorem PSt.on {w w' : World} {base gp ob n c ib ci : Nat} {st : SlSt} (h : PSt w base gp ob n c ib ci st) (hb : Below w.heap.size w w') : PSt w' base gp ob n c ib ci st :=
  ⟨cell_on hb h.p, own_on h.o hb, own_on h.i hb, h.l1, h.l2, h.ne, h.g1, h.g2⟩
theorem PSt.drew {w : World} {base gp ob n c ib ci : Nat} {st : SlSt} (h : PSt w base gp ob n c ib ci st) : PSt w.drew base gp ob n c ib ci st := ⟨h.p, h.o, h.i, h.l1, h.l2, h.ne, h.g1, h.g2⟩
theorem cell_far {w : World} {p : Addr} {g o : Nat} {v : Option Value} (hc : w.cell? ⟨g, o, none⟩ = v) (hp : g ≠ p.block) (u : Value) : (w.setCell p u).cell? ⟨g, o, none⟩ = v := (World.cell?_setCell_other w p ⟨g, o, none⟩ u (fun e => hp (congrArg Addr.block e).symm)).trans hc
theorem below_undrew {w w' : World} (h : Below w.drew.heap.size w.drew w') : Below w.heap.size w w' := ⟨h.os, h.tape, h.output, h.size, h.block⟩
/-- what a pull stores -/
theorem PSt.put3 {w : World} {base gp ob n c ib ci : Nat} {st : SlSt} (h : PSt w base gp ob n c ib ci st) {i : Nat} (hi : i < n) (x y z : Int) :
    PSt (((w.setCell ⟨ob, i * 3, none⟩ (.int .i64 x)).setCell ⟨ob, i * 3 + 1, none⟩ (.int .i64 y)).setCell ⟨ob, i * 3 + 2, none⟩ (.int .i64 z)) base gp ob n c ib ci (st.1.set i (x, y, z), st.2) := by
  refine ⟨?_, ?_, ?_, by rw [List.length_set]; exact h.l1, h.l2, h.ne, h.g1, h.g2⟩
  · exact cell_far (cell_far (cell_far h.p h.g1 _) h.g1 _) h.g1 _
  · have := (((h.o.stored (i * 3) (.int .i64 x)).1.stored (i * 3 + 1) (.int .i64 y)).1.stored (i * 3 + 2) (.int .i64 z)).1
    rw [cells3_set _ _ (by rw [h.l1]; exact hi)]
    exact this
  · have hn : ib ≠ ob := fun e => h.ne e.symm
    exact own_far (own_far (own_far h.i (p := ⟨ob, i * 3, none⟩) hn (.int .i64 x)) (p := ⟨ob, i * 3 + 1, none⟩) hn (.int .i64 y)) (p := ⟨ob, i * 3 + 2, none⟩) hn (.int .i64 z)
theorem PSt.putI {w : World} {base gp ob n c ib ci : Nat} {st : SlSt} (h : PSt w base gp ob n c ib ci st) (i : Nat) (v : Int) :
    PSt (w.setCell ⟨ib, i, none⟩ (.int .i64 v)) base gp ob n c ib ci (st.1, st.2.set i v) := by
  refine ⟨cell_far h.p h.g2 _, own_far h.o (p := ⟨ib, i, none⟩) h.ne _, ?_, h.l1, by rw [List.length_set]; exact h.l2, h.ne, h.g1, h.g2⟩
  have := (h.i.stored i (.int .i64 v)).1
  rw [List.map_set]
  exact this

theorem PSt.at_ {w : World} {base gp ob n c ib ci : Nat} {st : SlSt} (h : PSt w base gp ob n c ib ci st) {i : Nat} (hi : i < n) :
    w.cell? ⟨ob, i * 3, none⟩ = some (.int .i64 (st.1.getD i (0, 0, 0)).1) ∧ w.cell? ⟨ob, i * 3 + 1, none⟩ = some (.int .i64 (st.1.getD i (0, 0, 0)).2.1) ∧ w.cell? ⟨ob, i * 3 + 2, none⟩ = some (.int .i64 (st.1.getD i (0, 0, 0)).2.2) ∧
    w.cell? ⟨ib, i, none⟩ = some (.int .i64 (st.2.getD i 0)) := by
  obtain ⟨a, b, d⟩ := cells3_get st.1 i (by rw [h.l1]; exact hi)
  refine ⟨(h.o.cellAt (i * 3) (by omega)).trans a, (h.o.cellAt (i * 3 + 1) (by omega)).trans b, (h.o.cellAt (i * 3 + 2) (by omega)).trans d, (h.i.cellAt i (by omega)).trans ?_⟩
  have hl : i < st.2.length := by rw [h.l2]; exact hi
  simp [List.getD, hl]

set_option maxHeartbeats 2000000 in
set_option maxRecDepth 100000 in
theorem pull_any (base gp ob n c ib ci : Nat) (st : SlSt) (i : Nat) (b : Int) (w : World) (h : PSt w base gp ob n c ib ci st) (hi : i < n) (hn : n ≤ 1048576)
    (hok : slOk (st.1.getD i (0, 0, 0)).1 (st.1.getD i (0, 0, 0)).2.1 (st.1.getD i (0, 0, 0)).2.2 = true) (hz : -100000 ≤ st.2.getD i 0 ∧ st.2.getD i 0 ≤ 100000) :
    Calls Try.prog 49 #[.slice (some ⟨ib, 0, none⟩) n ci, .int .i64 i, .int .i64 b, .pointer (some ⟨gp, 0, none⟩)] w fun e w' => e = .returned (.tuple #[]) ∧ PSt w' base gp ob n c ib ci (pull1 st i b) ∧ Two w w' ob ib := by
  obtain ⟨c0, c1, c2, c3⟩ := h.at_ hi
  have fo := fun k => h.o.frozenAt k
  have fi := h.i.frozenAt i
  have hp := h.p
  have hgl := World.block_lt_of_cell? w _ hp
  have hol := (h.o.lt ob rfl).2
  have hil := (h.i.lt ib rfl).2
  have hso := slOk_bounds (slPull_ok (b := b) hok)
  have hso2 := slOk_bounds hok
  have H := Lib.hid h
  have n1 := h.ne
  have n2 := h.g1
  have n3 := h.g2
  have HOUT : Hid (∀ w', PSt w' base gp ob n c ib ci (st.1.set i ((st.1.getD i (0, 0, 0)).1, (st.1.getD i (0, 0, 0)).2.1, slPull (st.1.getD i (0, 0, 0)).1 (st.1.getD i (0, 0, 0)).2.1 (st.1.getD i (0, 0, 0)).2.2 b), st.2.set i (st.2.getD i 0 + (slPull (st.1.getD i (0, 0, 0)).1 (st.1.getD i (0, 0, 0)).2.1 (st.1.getD i (0, 0, 0)).2.2 b - (st.1.getD i (0, 0, 0)).2.2))) → PSt w' base gp ob n c ib ci (pull1 st i b)) := Lib.hid (fun w' h => h)
  have HC := Lib.hid (fun w => implPullSlider_any (st.1.getD i (0, 0, 0)).1 (st.1.getD i (0, 0, 0)).2.1 (st.1.getD i (0, 0, 0)).2.2 b w)
  generalize slPull (st.1.getD i (0, 0, 0)).1 (st.1.getD i (0, 0, 0)).2.1 (st.1.getD i (0, 0, 0)).2.2 b = pn at *
  generalize st.1.getD i (0, 0, 0) = t at *
  obtain ⟨lo, hi', now⟩ := t
  dsimp only at *
  generalize hz0 : st.2.getD i 0 = z at *
  have HZ0 := Lib.hid hz0
  clear hz0
  have hii : (i : Int) < (n : Int) := by omega
  clear h hok
  go_enter Try.func49, Try.ntmps49
  go_wp2_with fail
  have fo0 := fo (i * 3)
  have fo1 := fo (i * 3 + 1)
  have fo2 := fo (i * 3 + 2)
  clear fo
  go_region_with ((first | (go_at_call 23; refine (HC.out _).mono ?_; rintro e w6 ⟨rfl, hb6⟩; have k0 := cell_on hb6 c0; have k1 := cell_on hb6 c1; have k2 := cell_on hb6 c2; have kp := cell_on hb6 hp; have f0 := (hb6.frozen (p := ⟨ob, i * 3, none⟩) hol).trans fo0; have f1 := (hb6.frozen (p := ⟨ob, i * 3 + 1, none⟩) hol).trans fo1; have f2 := (hb6.frozen (p := ⟨ob, i * 3 + 2, none⟩) hol).trans fo2)))
  all_goals
    replace hb6 := below_undrew hb6
    have HP3 := Lib.hid ((H.out.on hb6).put3 hi lo hi' pn)
    have HT3 := Lib.hid ((((Two.ofBelow (a := ob) (b := ib) hb6).setL (i * 3) (.int .i64 lo)).setL (i * 3 + 1) (.int .i64 hi')).setL (i * 3 + 2) (.int .i64 pn))
    generalize ((w6.setCell ⟨ob, i * 3, none⟩ (.int .i64 lo)).setCell ⟨ob, i * 3 + 1, none⟩ (.int .i64 hi')).setCell ⟨ob, i * 3 + 2, none⟩ (.int .i64 pn) = wy at *
    clear c0 c1 c2 c3 fo0 fo1 fo2 fi hp k0 k1 k2 kp f0 f1 f2 hb6 w6
    have q := HP3.out.at_ hi
    have hl1 : i < st.1.length := by rw [H.out.l1]; exact hi
    rw [getD_set_eq _ _ _ _ hl1] at q
    obtain ⟨_, _, c2, c3⟩ := q
    dsimp only at c2 c3
    rw [HZ0.out] at c3
    have hp := HP3.out.p
    have fi := HP3.out.i.frozenAt i
    clear hl1
    go_wp2_with fail
    go_region
    go_end0
    exact ⟨rfl, HOUT.out _ ((HP3.out.putI i (z + (pn - now))).drew), (HT3.out.setR i _).drew⟩

end Go.Proofs.Ytodocfanaplmpaa
