
/-
  Contracts of what PullAll calls on slices: Clone, areSliders, ContainsFunc; no condition.
-/
import Derived.Test.YtodocfanaplmpaaPullP
import Derived.Test.YtodocfanaplmpaaSlS
import Derived.Laws.AppendOwnNone
import Derived.IntWalk
import Derived.Lib.SliceRun
namespace Go.Proofs.Ytodocfanaplmpaa
open Go.ChangeShapes Go.WideShapes Go.ChangeAt Go.RowKit Go.Deep Go.BigFrame
set_option linter.unusedVariables false
set_option linter.unusedSimpArgs false

theorem cells3_one (ts : List (Int × Int × Int)) : ∀ u ∈ cells3 ts, u.oneCell' = true := by
  intro u hu
  unfold cells3 at hu
  rw [List.mem_flatMap] at hu
  obtain ⟨t, _, ht⟩ := hu
  simp only [List.mem_cons, List.not_mem_nil, or_false] at ht
  rcases ht with rfl | rfl | rfl <;> rfl

/-- the source of an append: a slice with an address -/
theorem trow_news {w : World} {B : Nat} {b off : Nat} {ts : List (Int × Int × Int)} (h : TRow w B (some ⟨b, off, none⟩) ts) : ∀ j u, (cells3 ts)[j]? = some u → w.cell? ((⟨b, off, none⟩ : Addr).add j) = some u := by
  intro j u hu
  have hj : j < (cells3 ts).length := by
    rcases Nat.lt_or_ge j (cells3 ts).length with h | h
    · exact h
    · rw [List.getElem?_eq_none h] at hu; exact absurd hu (by simp)
  rw [cells3_length] at hj
  obtain ⟨b', off', e, _, hc⟩ := h.2.2 (by omega)
  simp only [Option.some.injEq, Addr.mk.injEq] at e
  obtain ⟨rfl, rfl, _⟩ := e
  rw [add_plain, hc j hj, hu]

/-- an owned row is a slice of its length -/
theorem own_slice {w : World} {base size n : Nat} {e : TypeId} {v : Value} {xs : List Value} (h : w.ownsRow base e size v n xs) : ∃ A c, v = .slice A n c ∧ ∀ a, A = some a → a.spot = none := by
  rcases h.2 with ⟨rfl, rfl⟩ | ⟨g, cap, cur, rfl, _⟩
  · exact ⟨none, 0, rfl, fun a h => absurd h (by simp)⟩
  · exact ⟨some ⟨g, 0, none⟩, cap, rfl, fun a h => by simp at h; rw [← h]⟩

theorem trow_none {w : World} {B : Nat} {ts : List (Int × Int × Int)} (h : TRow w B none ts) : ts = [] := by
  cases ts with
  | nil => rfl
  | cons t ts =>
    obtain ⟨b, o, e, _⟩ := h.2.2 (by simp)
    exact absurd e (by simp)

theorem clone_any (A : Option Addr) (c : Nat) (ts : List (Int × Int × Int)) (w : World) (hx : TRow w w.heap.size A ts) (hn : ts.length ≤ 1048576) (hs : ∀ a, A = some a → a.spot = none) :
    Calls Try.prog 47 #[.slice A ts.length c] w (NewSl w ts) := by
  obtain ⟨i0, hi0, hz0, hz1, hz2⟩ := info_parts slInfo
  have q22 : ∀ (w : World) (a : Option Addr) (n c n' c' : Nat), (binOp .eql 36 (.slice a n c) (.slice none n' c')).run Try.prog w = .ok (.bool a.isNone) w := fun w a n c n' c' => Lib.run_eql_slice_nil w _ _ a n c n' c' Try.underlying36
  cases A with
  | none =>
    obtain rfl := trow_none hx
    go_enter Try.func47, Try.ntmps47
    go_wp2_with fail
    go_ret
    exact ⟨none, 0, rfl, World.ownsRow_nil _ _ _ _, Below.refl _ _⟩
  | some a =>
    obtain ⟨b, off, sp⟩ := a
    obtain rfl : sp = none := hs _ rfl
    have HW := Lib.hid (trow_news hx)
    have HONE := Lib.hid (cells3_one ts)
    have HCL := Lib.hid (cells3_length ts)
    clear hx hs
    go_enter Try.func47, Try.ntmps47
    go_wp2_with (at_builtin; refine wpList_append_own _ rfl _ _ 36 rfl w.heap.size 43 i0 _ 3 24 Try.underlying36 hi0 hz0 hz1 hz2 rfl (by decide) _ _ _ rfl (World.ownsRow_made w #[] 0 (Nat.le_refl _) (Nat.zero_le _) (by simp)) ⟨b, off, none⟩ ts.length c (cells3 ts) rfl HCL.out (fun j u hj => by have h := HW.out j u hj; rw [Addr.add_lit] at h ⊢; exact Lib.cell?_alloc_some _ h) HONE.out (by unfold maxLen; omega) (by omega) (by simp) ?_)
    intro v1 w1 hown hgr hnil
    go_wp2_with fail
    go_ret
    obtain ⟨A1, c1, rfl, _⟩ := own_slice hown
    exact ⟨A1, c1, rfl, hown, ((Below.refl _ w).alloc (Nat.le_refl _) _).grown hgr (by simp) (by intro k hk; simp [Value.ownBlock] at hk; omega)⟩

theorem areSliders1_any (lo hi now : Int) (w : World) : Calls Try.prog 59 #[.agg #[.int .i64 lo, .int .i64 hi, .int .i64 now]] w fun e w' => e = .returned (.bool (!slOk lo hi now)) ∧ Below w.heap.size w w' := by
  go_enter Try.func59, Try.ntmps59
  go_wp2_with fail
  refine (implSliderOk_any _ _ _ _).mono ?_
  rintro e w1 ⟨rfl, rfl⟩
  go_wp2_with fail
  go_ret
  exact ⟨rfl, (by repeat' (first | exact Below.refl _ _ | assumption | (refine Below.drew ?_) | (refine below_drewN ?_ _) | (refine below_thru ?_ (by assumption)) | (refine below_alloc ?_ _) | (refine Below.setCell ?_ (by first | omega | (simp; done) | (simp; omega)) _) | (refine Below.alloc ?_ (by first | omega | (simp; done) | (simp; omega)) _)))⟩

theorem pullAll2_any (n : Int) (w : World) : Calls Try.prog 51 #[.int .i64 n] w fun e w' => e = .returned (.bool (n != 0)) ∧ w = w' := by
  go_enter Try.func51, Try.ntmps51
  go_wp2_with fail
  go_ret
  exact ⟨by first | rfl | (rw [← HK.out]; rfl), rfl⟩

/-- areSliders: the search for a slider that is not valid -/
def badSl (t : Int × Int × Int) : Bool := !slOk t.1 t.2.1 t.2.2
theorem slAll_any (ts : List (Int × Int × Int)) : (!(ts.any badSl)) = slAll ts := by
  unfold slAll
  induction ts with
  | nil => rfl
  | cons t ts ih =>
    rw [List.any_cons, List.all_cons, Bool.not_or, ih]
    unfold badSl
    simp

theorem any_snoc {α : Type} (p : α → Bool) (xs : List α) (k : Nat) (d : α) (h : k < xs.length) (h1 : (xs.take k).any p = false) : (xs.take (k + 1)).any p = p (xs.getD k d) := by
  rw [take_snoc_getD xs k d h, List.any_append, h1]
  simp
theorem any_yes {α : Type} (p : α → Bool) (xs : List α) (k : Nat) (d : α) (h : k < xs.length) (h1 : p (xs.getD k d) = true) : xs.any p = true := by
  rw [List.any_eq_true]
  refine ⟨xs.getD k d, ?_, h1⟩
  simp [List.getD, h]

/-- IndexFunc tells whether there is one -/
theorem indexSl_any (A : Option Addr) (c : Nat) (ts : List (Int × Int × Int)) (w : World) (hx : TRow w w.heap.size A ts) :
    Calls Try.prog 61 #[.slice A ts.length c, .func (.func 59) #[] #[]] w fun e w' => ∃ k : Int, e = .returned (.int .i64 k) ∧ decide (0 ≤ k) = ts.any badSl ∧ Below w.heap.size w w' := by
  have hm := hx.2.1
  unfold maxLen at hm
  generalize hl : ts.length = n at *
  have HL := Lib.hid hl
  clear hl
  go_enter Try.func61, Try.ntmps61
  go_wp2_with fail
  go_loopw [8] (fun i wr => ∃ k : Nat, k ≤ n ∧ i = .int .i64 k ∧ (ts.take k).any badSl = false ∧ Below w.heap.size w wr) (fun i _ => n - (intOf i).toNat)
  case atStart => exact ⟨0, Nat.zero_le _, rfl, rfl, Below.refl _ _⟩
  case round =>
    obtain ⟨k, hk, rfl, ht, hbr⟩ := hrel
    by_cases hlt : k < n
    · obtain ⟨b1, o1, rfl, hb1, hc1, hc2, hc3⟩ := (hx.below hbr).at_ (k := k) (by rw [HL.out]; exact hlt)
      have hsn := any_snoc badSl ts k (0, 0, 0) (by rw [HL.out]; exact hlt) ht
      have hfl := any_yes badSl ts k (0, 0, 0) (by rw [HL.out]; exact hlt)
      generalize hv : ts.getD k (0, 0, 0) = v at *
      obtain ⟨v1, v2, v3⟩ := v
      have HC := Lib.hid (fun w => areSliders1_any v1 v2 v3 w)
      have HB := Lib.hid hbr
      have HS := Lib.hid hsn
      have HF := Lib.hid hfl
      have hi : (k : Int) < (n : Int) := by omega
      clear hv ht hx hbr hsn hfl
      cases hq : slOk v1 v2 v3
      · have HT := Lib.hid (HF.out (show badSl (v1, v2, v3) = true from by unfold badSl; rw [hq]; rfl))
        rw [hq] at HC
        clear hq
        go_wp2_with fail
        refine (HC.out _).mono ?_
        rintro e w2 ⟨rfl, hb2⟩
        go_wp2_with fail
        go_ret
        exact ⟨(k : Int), rfl, by rw [HT.out, decide_eq_true_iff]; omega, below_thru HB.out hb2⟩
      · have HT := Lib.hid (HS.out.trans (show badSl (v1, v2, v3) = false from by unfold badSl; rw [hq]; rfl))
        rw [hq] at HC
        clear hq
        go_wp2_with fail
        refine (HC.out _).mono ?_
        rintro e w2 ⟨rfl, hb2⟩
        have HB2 := Lib.hid (below_thru HB.out hb2)
        go_wp2_with fail
        go_roundw
        case rel => exact ⟨k + 1, by omega, by go_num, HT.out, HB2.out⟩
        case measure => simp [intOf]; omega
    · obtain rfl : k = n := by omega
      have e1 := List.take_of_length_le (l := ts) (i := k) (by rw [HL.out]; exact Nat.le_refl _)
      rw [e1] at ht
      have HT := Lib.hid ht
      clear ht e1
      go_wp2_with fail
      go_ret
      exact ⟨-1, rfl, by rw [HT.out]; rfl, hbr⟩

theorem containsSl_any (A : Option Addr) (c : Nat) (ts : List (Int × Int × Int)) (w : World) (hx : TRow w w.heap.size A ts) :
    Calls Try.prog 58 #[.slice A ts.length c, .func (.func 59) #[] #[]] w fun e w' => e = .returned (.bool (ts.any badSl)) ∧ Below w.heap.size w w' := by
  have HX := Lib.hid (fun w hx => indexSl_any A c ts w hx)
  generalize ts.any badSl = R at *
  go_enter Try.func58, Try.ntmps58
  go_wp2_with fail
  refine (HX.out _ hx).mono ?_
  rintro e w1 ⟨k, rfl, hk, hb⟩
  have HK := Lib.hid hk
  clear hk
  go_wp2_with fail
  go_ret
  exact ⟨by first | rfl | (rw [← HK.out]; rfl), hb⟩

theorem areSliders_any (A : Option Addr) (c : Nat) (ts : List (Int × Int × Int)) (w : World) (hx : TRow w w.heap.size A ts) :
    Calls Try.prog 48 #[.slice A ts.length c] w fun e w' => e = .returned (.bool (slAll ts)) ∧ Below w.heap.size w w' := by
  have HX := Lib.hid (fun w hx => containsSl_any A c ts w hx)
  rw [← slAll_any]
  generalize ts.any badSl = R at *
  go_enter Try.func48, Try.ntmps48
  go_wp2_with fail
  refine (HX.out _ hx).mono ?_
  rintro e w1 ⟨rfl, hb⟩
  go_wp2_with fail
  go_ret
  exact ⟨by first | rfl | (rw [← HK.out]; rfl), hb⟩

/-- IndexFunc tells whether something moves -/
theorem indexInt_any (A : Option Addr) (c : Nat) (zs : List Int) (w : World) (hx : IRow w w.heap.size A zs) :
    Calls Try.prog 60 #[.slice A zs.length c, .func (.func 51) #[] #[]] w fun e w' => ∃ k : Int, e = .returned (.int .i64 k) ∧ decide (0 ≤ k) = zs.any movesI ∧ w = w' := by
  have hm := hx.2.1
  unfold maxLen at hm
  generalize hl : zs.length = n at *
  have HL := Lib.hid hl
  clear hl
  go_enter Try.func60, Try.ntmps60
  go_wp2_with fail
  go_loop [8] (fun i => ∃ k : Nat, k ≤ n ∧ i = .int .i64 k ∧ (zs.take k).any movesI = false) (fun i => n - (intOf i).toNat)
  case atStart => exact ⟨0, Nat.zero_le _, rfl, rfl⟩
  case round =>
    obtain ⟨k, hk, rfl, ht⟩ := hrel
    by_cases hlt : k < n
    · obtain ⟨b1, o1, rfl, hb1, hc1⟩ := hx.at_ (k := k) (by rw [HL.out]; exact hlt)
      have hsn := any_snoc movesI zs k 0 (by rw [HL.out]; exact hlt) ht
      have hfl := any_yes movesI zs k 0 (by rw [HL.out]; exact hlt)
      generalize hv : zs.getD k 0 = v at *
      have HC := Lib.hid (fun w => pullAll2_any v w)
      have HS := Lib.hid hsn
      have HF := Lib.hid hfl
      have hi : (k : Int) < (n : Int) := by omega
      clear hv ht hx hsn hfl
      by_cases hq : v = 0
      · have HT := Lib.hid (HS.out.trans (show movesI v = false from by rw [hq]; rfl))
        have HC2 := Lib.hid (show ∀ w, Calls Try.prog 51 #[.int .i64 v] w fun e w' => e = .returned (.bool false) ∧ w = w' from fun w => by have h := HC.out w; rw [show (v != 0) = false from by simp [hq]] at h; exact h)
        clear hq HC
        go_wp2_with fail
        refine (HC2.out _).mono ?_
        rintro e w2 ⟨rfl, rfl⟩
        go_wp2_with fail
        go_round
        case rel => exact ⟨k + 1, by omega, by go_num, HT.out⟩
        case measure => simp [intOf]; omega
      · have HT := Lib.hid (HF.out (show movesI v = true from by simp [movesI, hq]))
        have HC2 := Lib.hid (show ∀ w, Calls Try.prog 51 #[.int .i64 v] w fun e w' => e = .returned (.bool true) ∧ w = w' from fun w => by have h := HC.out w; rw [show (v != 0) = true from by simp [hq]] at h; exact h)
        clear hq HC
        go_wp2_with fail
        refine (HC2.out _).mono ?_
        rintro e w2 ⟨rfl, rfl⟩
        go_wp2_with fail
        go_ret
        exact ⟨(k : Int), rfl, by rw [HT.out, decide_eq_true_iff]; omega, rfl⟩
    · obtain rfl : k = n := by omega
      have e1 := List.take_of_length_le (l := zs) (i := k) (by rw [HL.out]; exact Nat.le_refl _)
      rw [e1] at ht
      have HT := Lib.hid ht
      clear ht e1
      go_wp2_with fail
      go_ret
      exact ⟨-1, rfl, by rw [HT.out]; rfl, rfl⟩

theorem containsInt_any (A : Option Addr) (c : Nat) (zs : List Int) (w : World) (hx : IRow w w.heap.size A zs) :
    Calls Try.prog 50 #[.slice A zs.length c, .func (.func 51) #[] #[]] w fun e w' => e = .returned (.bool (zs.any movesI)) ∧ w = w' := by
  have HX := Lib.hid (fun w hx => indexInt_any A c zs w hx)
  generalize zs.any movesI = R at *
  go_enter Try.func50, Try.ntmps50
  go_wp2_with fail
  refine (HX.out _ hx).mono ?_
  rintro e w1 ⟨k, rfl, hk, rfl⟩
  have HK := Lib.hid hk
  clear hk
  go_wp2_with fail
  go_ret
  exact ⟨by first | rfl | (rw [← HK.out]; rfl), rfl⟩

end Go.Proofs.Ytodocfanaplmpaa
