
/-
  The walk of the law FnExactPullAll; no condition.
-/
import Derived.Test.YtodocfanaplmpaaPullS
import Derived.Test.YtodocfanaplmpaaPullM
namespace Go.Proofs.Ytodocfanaplmpaa
open Go.ChangeShapes Go.WideShapes Go.ChangeAt Go.RowKit Go.Deep Go.BigFrame
set_option linter.unusedVariables false
set_option linter.unusedSimpArgs false

theorem pull1_len (st : SlSt) (i : Nat) (b : Int) : (pull1 st i b).1.length = st.1.length := by unfold pull1; simp
theorem round1_len (ls : List (Int × Int × Int)) (st : SlSt) : (round1 ls st).1.length = st.1.length := by
  have key : ∀ (ms : List (Int × Int × Int)) (s : SlSt), (ms.foldl (linkPull st.2) s).1.length = s.1.length := by
    intro ms
    induction ms with
    | nil => intro s; rfl
    | cons m ms ih => intro s; rw [List.foldl_cons, ih]; exact pull1_len _ _ _
  exact key ls _
theorem roundsN_len (ls : List (Int × Int × Int)) (st : SlSt) : ∀ r, (roundsN ls st r).1.length = st.1.length := by
  intro r
  induction r with
  | zero => rfl
  | succ r ih => exact (round1_len _ _).trans ih
theorem pullRes_len (ts ls : List (Int × Int × Int)) (k b : Int) : (pullRes ts ls k b).length = ts.length := by
  unfold pullRes
  split
  · unfold pullOut; rw [roundsN_len, pull1_len]
  · rfl

/-- a new slice of sliders and a word -/
def NewPR (w : World) (R : List (Int × Int × Int)) (can : Bool) (e : Ending) (w' : World) : Prop :=
  ∃ A c, e = .returned (.tuple #[.slice A R.length c, .bool can]) ∧ w'.ownsRow w.heap.size 43 3 (.slice A R.length c) R.length (cells3 R) ∧ Below w.heap.size w w'
theorem NewPR.of {w w' : World} {ts ls : List (Int × Int × Int)} {k b : Int} {e : Ending} (h : NewPull w ts ls k b e w') : NewPR w (pullRes ts ls k b) (pullCan ts ls k b) e w' := by
  obtain ⟨A, c, h1, h2, h3⟩ := h
  rw [← pullRes_len ts ls k b] at h1 h2
  exact ⟨A, c, h1, h2, h3⟩
theorem own_nil {w : World} {base size n c : Nat} {e : TypeId} {xs : List Value} {A : Option Addr} (h : w.ownsRow base e size (.slice A n c) n xs) : A = none → c = 0 := by
  rintro rfl
  rcases h.2 with ⟨e, _⟩ | ⟨g, cap, cur, e, _⟩
  · simp at e; exact e.2
  · simp at e
theorem own_spot {w : World} {base size n c : Nat} {e : TypeId} {xs : List Value} {A : Option Addr} (h : w.ownsRow base e size (.slice A n c) n xs) : ∀ a, A = some a → a.spot = none := by
  rintro a rfl
  rcases h.2 with ⟨e, _⟩ | ⟨g, cap, cur, e, _⟩
  · simp at e
  · simp at e; rw [e.1]
theorem marks_row {w : World} {base k n c : Nat} {e : TypeId} {A : Option Addr} (h : w.ownsRow base e 3 (.slice A n c) n ((marks k (n * 3)).map (Value.int .i64))) : Row w w.heap.size 3 A n ((marks k (n * 3)).map (Value.int .i64)) := by
  obtain ⟨A', c', e', hr⟩ := Row.of_own h
  obtain ⟨rfl, rfl⟩ : A = A' ∧ c = c' := by simpa using e'
  exact hr
/-- a row above some block is another than one below it -/
theorem own_apart {w : World} {base size n : Nat} {e : TypeId} {xs : List Value} {v u : Value} (h : w.ownsRow base e size v n xs) (hu : ∀ g, u.ownBlock = some g → g < base) : v.ownBlock = none ∨ v.ownBlock ≠ u.ownBlock := by
  cases hv : v.ownBlock with
  | none => exact .inl rfl
  | some g =>
    refine .inr (fun e => ?_)
    have h1 := hu g e.symm
    have h2 := (h.lt g hv).1
    omega
/-- a row that lies apart from the one that grew -/
theorem trow_grown {w w' : World} {B : Nat} {A : Option Addr} {zs : List (Int × Int × Int)} {v : Value} (h : TRow w B A zs) (hg : w.grownBy w' v.ownBlock) (hB : B ≤ w.heap.size) (hr : ∀ g, v.ownBlock = some g → B ≤ g) : TRow w' B A zs := TRow.grown h hg hB hr

set_option maxHeartbeats 4000000 in
set_option maxRecDepth 100000 in
theorem fnExactPullAll_walk (A : Option Addr) (c : Nat) (ts : List (Int × Int × Int)) (B : Option Addr) (d : Nat) (ls : List (Int × Int × Int)) (k b : Int) (w : World) (hx : TRow w w.heap.size A ts) (hy : TRow w w.heap.size B ls)
    (_ : -9223372036854775808 ≤ k ∧ k ≤ 9223372036854775807) (_ : -9223372036854775808 ≤ b ∧ b ≤ 9223372036854775807) :
    Calls Try.prog 6 #[.slice A ts.length c, .slice B ls.length d, .int .i64 k, .int .i64 b] w fun e w' => e = .returned (.bool true) ∧ Below w.heap.size w w' := by
  have hm := hx.2.1
  have hm2 := hy.2.1
  by_cases hlen : (ts.length : Int) ≤ 1048576
  case neg =>
    have hi : (if (ts.length : Int) ≤ 1048576 then 1048576 - (ts.length : Int) else -1) = -1 := if_neg hlen
    go_enter Try.func6, Try.ntmps6
    go_wp2_with fail
    refine (szSliderS_any _ _ _ _ _ hm (by omega) (by omega)).mono ?_
    rw [hi]
    rintro e w1 ⟨rfl, rfl⟩
    clear hi
    go_wp2_with fail
    go_ret
    exact ⟨rfl, Below.refl _ _⟩
  have hi : (if (ts.length : Int) ≤ 1048576 then 1048576 - (ts.length : Int) else -1) = 1048576 - (ts.length : Int) := if_pos hlen
  have HS1 := Lib.hid (fun w => szSliderS_any A c ts.length 1048576 w hm (by omega) (by omega))
  rw [hi] at HS1
  clear hi
  by_cases hlen2 : (ls.length : Int) ≤ 1048576 - (ts.length : Int)
  case neg =>
    have hi : (if (ls.length : Int) ≤ 1048576 - (ts.length : Int) then 1048576 - (ts.length : Int) - (ls.length : Int) else -1) = -1 := if_neg hlen2
    have HS2 := Lib.hid (fun w => szLinkS_any B d ls.length (1048576 - (ts.length : Int)) w hm2 (by omega) (by omega))
    rw [hi] at HS2
    clear hi
    go_enter Try.func6, Try.ntmps6
    go_wp2_with fail
    refine (HS1.out _).mono ?_
    rintro e w1 ⟨rfl, rfl⟩
    go_wp2_with fail
    refine (HS2.out _).mono ?_
    rintro e w1 ⟨rfl, rfl⟩
    go_wp2_with fail
    go_ret
    exact ⟨rfl, Below.refl _ _⟩
  have hi : (if (ls.length : Int) ≤ 1048576 - (ts.length : Int) then 1048576 - (ts.length : Int) - (ls.length : Int) else -1) = 1048576 - (ts.length : Int) - (ls.length : Int) := if_pos hlen2
  have HS2 := Lib.hid (fun w => szLinkS_any B d ls.length (1048576 - (ts.length : Int)) w hm2 (by omega) (by omega))
  rw [hi] at HS2
  clear hi
  have hn : ts.length ≤ 1048576 := by omega
  have hn2 : ls.length ≤ 1048576 := by omega
  have HX := Lib.hid (fun (u : World) (hb : Below w.heap.size w u) => TRow.more (hx.below hb) hb.size)
  have HY := Lib.hid (fun (u : World) (hb : Below w.heap.size w u) => TRow.more (hy.below hb) hb.size)
  have HTS := Lib.hid (fun (u : World) (hb : Below w.heap.size w u) => toSliderS_any A c ts u (HX.out u hb) hn)
  have HTL := Lib.hid (fun (u : World) (hb : Below w.heap.size w u) => toLinkS_any B d ls u (HY.out u hb) hn2)
  have HSP := Lib.hid (fun A B c d (u : World) hx hy hs hA => (specPullAll_any A B c d ts ls k b u hx hy hs hA hn).mono fun _ _ h => NewPR.of h)
  have HIM := Lib.hid (fun A B c d (u : World) hx hy hs => (implPullAll_any A B c d ts ls k b u hx hy hs hn).mono fun _ _ h => NewPR.of h)
  have hR := pullRes_len ts ls k b
  generalize pullRes ts ls k b = R at *
  generalize pullCan ts ls k b = can at *
  have hRn : R.length ≤ 1048576 := by omega
  clear hx hy hm hm2 hR
  go_enter Try.func6, Try.ntmps6
  go_wp2_with fail
  refine (HS1.out _).mono ?_
  rintro e w0 ⟨rfl, rfl⟩
  go_wp2_with fail
  refine (HS2.out _).mono ?_
  rintro e w0 ⟨rfl, rfl⟩
  go_wp2_with fail
  refine (HTS.out _ (Below.refl _ _)).mono ?_
  rintro e w1 ⟨A1, c1, rfl, o1, b1⟩
  have BW1 := Lib.hid (show Below w.heap.size w w1 from b1)
  have O1 := Lib.hid o1
  clear o1 b1
  go_wp2_with fail
  refine (HTL.out _ BW1.out).mono ?_
  rintro e w2 ⟨B2, c2, rfl, o2, b2⟩
  have BW2 := Lib.hid (below_thru BW1.out b2)
  have O1b := Lib.hid (own_on O1.out b2)
  have O2 := Lib.hid o2
  clear o2 b2 O1 BW1
  go_wp2_with fail
  refine (HSP.out _ _ _ _ _ (TRow.of_own O1b.out) (TRow.of_own O2.out) (own_spot O1b.out) (own_nil O1b.out)).mono ?_
  rintro e w3 ⟨A3, c3, rfl, o3, b3⟩
  have BW3 := Lib.hid (below_thru BW2.out b3)
  have R3 := Lib.hid (TRow.of_own o3)
  clear o3 b3 O1b O2 BW2 HSP
  go_wp2_with fail
  refine (HTS.out _ BW3.out).mono ?_
  rintro e w4 ⟨A4, c4, rfl, o4, b4⟩
  have BW4 := Lib.hid (below_thru BW3.out b4)
  have R4 := Lib.hid (R3.out.below b4)
  have s34 := b4.size
  have O4 := Lib.hid o4
  have H4 := Lib.hid (fun g hg => (o4.lt g hg).2)
  have BW4S := Lib.hid (show w.heap.size ≤ w4.heap.size from BW4.out.size)
  clear o4 b4 R3
  go_wp2_with fail
  refine (HTL.out _ BW4.out).mono ?_
  rintro e w5 ⟨B5, c5, rfl, o5, b5⟩
  have BW5 := Lib.hid (below_thru BW4.out b5)
  have R5 := Lib.hid (R4.out.below (b5.mono s34))
  have O4b := Lib.hid (own_on O4.out b5)
  have s45 := b5.size
  have O5 := Lib.hid o5
  have H5 := Lib.hid (fun g hg => (o5.lt g hg).2)
  have BW5S := Lib.hid (show w.heap.size ≤ w5.heap.size from BW5.out.size)
  clear o5 b5 R4 O4 BW4
  go_wp2_with fail
  refine (HIM.out _ _ _ _ _ (TRow.of_own O4b.out) (TRow.of_own O5.out) (own_spot O4b.out)).mono ?_
  rintro e w6 ⟨A6, c6, rfl, o6, b6⟩
  have BW6 := Lib.hid (below_thru BW5.out b6)
  have R6 := Lib.hid (R5.out.below (b6.mono (by omega)))
  have O4c := Lib.hid (own_on O4b.out b6)
  have O5c := Lib.hid (own_on O5.out b6)
  have s56 := b6.size
  have O6 := Lib.hid o6
  clear o6 b6 R5 O4b O5 BW5
  go_wp2_with fail
  refine (eqSliderS_any _ _ _ _ _ _ _ (TRow.of_own O6.out) (R6.out.more (by omega))).mono ?_
  rw [decide_eq_true rfl]
  rintro e w7 ⟨rfl, b7⟩
  have BW7 := Lib.hid (below_thru BW6.out b7)
  have R7 := Lib.hid (R6.out.below (b7.mono (by omega)))
  have O4d := Lib.hid (own_on O4c.out b7)
  have O5d := Lib.hid (own_on O5c.out b7)
  have O6d := Lib.hid (own_on O6.out b7)
  have s67 := b7.size
  clear b7 R6 O4c O5c O6 BW6
  go_wp2_with fail
  refine (HTS.out _ BW7.out).mono ?_
  rintro e w8 ⟨A8, c8, rfl, o8, b8⟩
  have BW8 := Lib.hid (below_thru BW7.out b8)
  have R8 := Lib.hid (R7.out.below (b8.mono (by omega)))
  have O4e := Lib.hid (own_on O4d.out b8)
  have O5e := Lib.hid (own_on O5d.out b8)
  have O6e := Lib.hid (own_on O6d.out b8)
  have s78 := b8.size
  have O8 := Lib.hid o8
  clear o8 b8 R7 O4d O5d O6d BW7
  go_wp2_with fail
  refine (eqSliderS_any _ _ _ _ _ _ _ (TRow.of_own O4e.out) (TRow.of_own O8.out)).mono ?_
  rw [decide_eq_true rfl]
  rintro e w9 ⟨rfl, b9⟩
  have BW9 := Lib.hid (below_thru BW8.out b9)
  have R9 := Lib.hid (R8.out.below (b9.mono (by omega)))
  have O4f := Lib.hid (own_on O4e.out b9)
  have O5f := Lib.hid (own_on O5e.out b9)
  have O6f := Lib.hid (own_on O6e.out b9)
  have s89 := b9.size
  clear b9 R8 O4e O5e O6e O8 BW8
  go_wp2_with fail
  refine (HTL.out _ BW9.out).mono ?_
  rintro e w10 ⟨A10, c10, rfl, o10, b10⟩
  have BW10 := Lib.hid (below_thru BW9.out b10)
  have R10 := Lib.hid (R9.out.below (b10.mono (by omega)))
  have O4g := Lib.hid (own_on O4f.out b10)
  have O5g := Lib.hid (own_on O5f.out b10)
  have O6g := Lib.hid (own_on O6f.out b10)
  have s910 := b10.size
  have O10 := Lib.hid o10
  clear o10 b10 R9 O4f O5f O6f BW9
  go_wp2_with fail
  refine (eqLinkS_any _ _ _ _ _ _ _ (TRow.of_own O5g.out) (TRow.of_own O10.out)).mono ?_
  rw [decide_eq_true rfl]
  rintro e w11 ⟨rfl, b11⟩
  have BW11 := Lib.hid (below_thru BW10.out b11)
  have R11 := Lib.hid (R10.out.below (b11.mono (by omega)))
  have O4h := Lib.hid (own_on O4g.out b11)
  have O5h := Lib.hid (own_on O5g.out b11)
  have O6h := Lib.hid (own_on O6g.out b11)
  have s1011 := b11.size
  clear b11 R10 O4g O5g O6g O10 BW10
  go_wp2_with fail
  refine (markSliderS_any A4 c4 1 ts.length w3.heap.size _ _ O4h.out (by decide) hn).mono ?_
  rintro e w12 ⟨rfl, o12, g12⟩
  have hr4 : ∀ g, (Value.slice A4 ts.length c4).ownBlock = some g → w3.heap.size ≤ g := fun g hg => (O4h.out.lt g hg).1
  have hl4 : ∀ g, (Value.slice A4 ts.length c4).ownBlock = some g → g < w4.heap.size := fun g hg => H4.out g hg
  have BW12 := Lib.hid (Below.grown BW11.out g12 BW11.out.size (fun g hg => Nat.le_trans BW3.out.size (hr4 g hg)))
  have R12 := Lib.hid (trow_grown R11.out g12 (by omega) hr4)
  have O5i := Lib.hid (O5h.out.kept g12 (own_apart O5h.out hl4))
  have O6i := Lib.hid (O6h.out.kept g12 (own_apart O6h.out (fun g hg => Nat.lt_of_lt_of_le (hl4 g hg) s45)))
  have s1112 := g12.size
  clear o12 g12 R11 O4h O5h O6h BW11
  go_wp2_with fail
  refine (markLinkS_any B5 c5 (1 + ts.length * 3) ls.length w4.heap.size _ _ O5i.out (by omega) hn2).mono ?_
  rintro e w13 ⟨rfl, o13, g13⟩
  have hr5 : ∀ g, (Value.slice B5 ls.length c5).ownBlock = some g → w4.heap.size ≤ g := fun g hg => (O5i.out.lt g hg).1
  have hl5 : ∀ g, (Value.slice B5 ls.length c5).ownBlock = some g → g < w5.heap.size := fun g hg => H5.out g hg
  have BW13 := Lib.hid (Below.grown BW12.out g13 BW12.out.size (fun g hg => Nat.le_trans BW4S.out (hr5 g hg)))
  have R13 := Lib.hid (trow_grown R12.out g13 (by omega) (fun g hg => by have := hr5 g hg; omega))
  have O6j := Lib.hid (O6i.out.kept g13 (own_apart O6i.out hl5))
  have s1213 := g13.size
  clear o13 g13 R12 O5i O6i BW12
  go_wp2_with fail
  refine (eqSliderS_any _ _ _ _ _ _ _ (TRow.of_own O6j.out) (R13.out.more (by omega))).mono ?_
  rw [decide_eq_true rfl]
  rintro e w14 ⟨rfl, b14⟩
  have BW14 := Lib.hid (below_thru BW13.out b14)
  have R14 := Lib.hid (R13.out.below (b14.mono (by omega)))
  have O6k := Lib.hid (own_on O6j.out b14)
  have s1314 := b14.size
  clear b14 R13 O6j BW13
  go_wp2_with fail
  refine (markSliderS_any A6 c6 1 R.length w5.heap.size _ _ O6k.out (by decide) hRn).mono ?_
  rintro e w15 ⟨rfl, o15, g15⟩
  have hr6 : ∀ g, (Value.slice A6 R.length c6).ownBlock = some g → w5.heap.size ≤ g := fun g hg => (O6k.out.lt g hg).1
  have BW15 := Lib.hid (Below.grown BW14.out g15 BW14.out.size (fun g hg => Nat.le_trans BW5S.out (hr6 g hg)))
  have R15 := Lib.hid (trow_grown R14.out g15 (by omega) (fun g hg => by have := hr6 g hg; omega))
  have M15 := Lib.hid (marks_row o15)
  have s1415 := g15.size
  clear o15 g15 R14 O6k BW14
  go_wp2_with fail
  refine (heldSliderS_any A6 c6 1 R.length w15 M15.out (by decide) hRn).mono ?_
  rintro e w16 ⟨rfl, q16, rfl⟩
  have BW16 := Lib.hid (below_drewN BW15.out q16)
  have R16 := Lib.hid (R15.out.drewN q16)
  have M16 := Lib.hid (show Row (w15.drewN q16) (w15.drewN q16).heap.size 3 A6 R.length ((marks 1 (R.length * 3)).map (Value.int .i64)) from M15.out.drewN q16)
  have s1516 : w3.heap.size ≤ (w15.drewN q16).heap.size := by show w3.heap.size ≤ w15.heap.size; omega
  clear R15 M15 BW15
  generalize w15.drewN q16 = w17 at *
  go_wp2_with fail
  refine (HTS.out _ BW16.out).mono ?_
  rintro e w18 ⟨A18, c18, rfl, o18, b18⟩
  have BW18 := Lib.hid (below_thru BW16.out b18)
  have R18 := Lib.hid (R16.out.below (b18.mono (by omega)))
  have M18 := Lib.hid (M16.out.on b18)
  have s1718 := b18.size
  have O18 := Lib.hid o18
  clear o18 b18 R16 M16 BW16
  go_wp2_with fail
  refine (HTL.out _ BW18.out).mono ?_
  rintro e w19 ⟨A19, c19, rfl, o19, b19⟩
  have BW19 := Lib.hid (below_thru BW18.out b19)
  have R19 := Lib.hid (R18.out.below (b19.mono (by omega)))
  have M19 := Lib.hid (M18.out.on b19)
  have O18b := Lib.hid (own_on O18.out b19)
  have s1819 := b19.size
  have O19 := Lib.hid o19
  clear o19 b19 R18 M18 O18 BW18
  go_wp2_with fail
  refine (HIM.out _ _ _ _ _ (TRow.of_own O18b.out) (TRow.of_own O19.out) (own_spot O18b.out)).mono ?_
  rintro e w20 ⟨A20, c20, rfl, o20, b20⟩
  have BW20 := Lib.hid (below_thru BW19.out b20)
  have R20 := Lib.hid (R19.out.below (b20.mono (by omega)))
  have M20 := Lib.hid (M19.out.on b20)
  have s1920 := b20.size
  have O20 := Lib.hid o20
  clear o20 b20 R19 M19 O18b O19 BW19
  go_wp2_with fail
  refine (eqSliderS_any _ _ _ _ _ _ _ (TRow.of_own O20.out) (R20.out.more (by omega))).mono ?_
  rw [decide_eq_true rfl]
  rintro e w21 ⟨rfl, b21⟩
  have BW21 := Lib.hid (below_thru BW20.out b21)
  have M21 := Lib.hid (M20.out.on b21)
  clear b21 R20 M20 O20 BW20
  go_wp2_with fail
  refine (heldSliderS_any A6 c6 1 R.length w21 M21.out (by decide) hRn).mono ?_
  rintro e w22 ⟨rfl, q22, rfl⟩
  go_wp2_with fail
  go_ret
  exact ⟨rfl, below_drewN BW21.out _⟩

end Go.Proofs.Ytodocfanaplmpaa
