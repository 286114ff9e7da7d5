
/-
  Plain law of PullAll: sliders that are pulled along links come to rest; no program in sight.
-/
import Derived.Test.YtodocfanaplmpaaSl1
import Derived.Test.YtodocfanaplmpaaLinksQ
namespace Go.Proofs.Ytodocfanaplmpaa
open Go.ChangeShapes Go.WideShapes Go.ChangeAt Go.RowKit Go.Deep
set_option linter.unusedVariables false
set_option linter.unusedSimpArgs false

/-- sliders, and how far each was moved -/
abbrev SlSt := List (Int × Int × Int) × List Int

/-- one pull: slider i moves, and its way is added -/
def pull1 (st : SlSt) (i : Nat) (b : Int) : SlSt :=
  (st.1.set i ((st.1.getD i (0, 0, 0)).1, (st.1.getD i (0, 0, 0)).2.1, slPull (st.1.getD i (0, 0, 0)).1 (st.1.getD i (0, 0, 0)).2.1 (st.1.getD i (0, 0, 0)).2.2 b),
   st.2.set i (st.2.getD i 0 + (slPull (st.1.getD i (0, 0, 0)).1 (st.1.getD i (0, 0, 0)).2.1 (st.1.getD i (0, 0, 0)).2.2 b - (st.1.getD i (0, 0, 0)).2.2)))
def linkPull (mv : List Int) (st : SlSt) (l : Int × Int × Int) : SlSt := pull1 st l.2.1.toNat (l.2.2 * mv.getD l.1.toNat 0)
def zeros (n : Nat) : List Int := List.replicate n 0
def round1 (ls : List (Int × Int × Int)) (st : SlSt) : SlSt := ls.foldl (linkPull st.2) (st.1, zeros st.1.length)
def roundsN (ls : List (Int × Int × Int)) (st : SlSt) : Nat → SlSt
  | 0 => st
  | r + 1 => round1 ls (roundsN ls st r)
def slAll (ts : List (Int × Int × Int)) : Bool := ts.all fun t => slOk t.1 t.2.1 t.2.2
def pullCan (ts ls : List (Int × Int × Int)) (k b : Int) : Bool := linksOk (ts.length : Int) ls && (slAll ts && (inB k 0 ((ts.length : Int) - 1) && inB b (-100) 100))
def pullOut (ts ls : List (Int × Int × Int)) (k : Nat) (b : Int) : SlSt := roundsN ls (pull1 (ts, zeros ts.length) k b) (ts.length + 1)
def pullRes (ts ls : List (Int × Int × Int)) (k b : Int) : List (Int × Int × Int) := if pullCan ts ls k b = true then (pullOut ts ls k.toNat b).1 else ts

theorem slAll_at {ts : List (Int × Int × Int)} (h : slAll ts = true) {i : Nat} (hi : i < ts.length) : slOk (ts.getD i (0, 0, 0)).1 (ts.getD i (0, 0, 0)).2.1 (ts.getD i (0, 0, 0)).2.2 = true := by
  unfold slAll at h
  rw [List.all_eq_true] at h
  have := h (ts[i]) (List.getElem_mem hi)
  simpa [List.getD, hi] using this
theorem slAll_mk {ts : List (Int × Int × Int)} (h : ∀ i, i < ts.length → slOk (ts.getD i (0, 0, 0)).1 (ts.getD i (0, 0, 0)).2.1 (ts.getD i (0, 0, 0)).2.2 = true) : slAll ts = true := by
  unfold slAll
  rw [List.all_eq_true]
  intro t ht
  obtain ⟨i, hi, rfl⟩ := List.getElem_of_mem ht
  have := h i hi
  simpa [List.getD, hi] using this

/-- a pulled slider is as valid as it was -/
theorem slPull_ok {lo hi now b : Int} (h : slOk lo hi now = true) : slOk lo hi (slPull lo hi now b) = true := by
  have h2 := slOk_bounds h
  by_cases h1 : inB b (-1000) 1000 = true
  · rw [slPull_yes h h1]
    simp only [slOk, inB, Bool.and_eq_true, decide_eq_true_eq]
    omega
  · rw [slPull_no (fun x => h1 x.2)]
    exact h
theorem slPull_zero (lo hi now : Int) : slPull lo hi now 0 = now := by
  unfold slPull
  split
  · next h =>
    have := slOk_bounds h.1
    omega
  · rfl

theorem set_same {α : Type} (xs : List α) (i : Nat) (d : α) (h : i < xs.length) : xs.set i (xs.getD i d) = xs := by
  apply List.ext_getElem?
  intro j
  rw [List.getElem?_set]
  split
  · next e =>
    subst e
    simp [List.getD, h]
  · rfl
theorem pull1_zero (st : SlSt) (i : Nat) (h1 : i < st.1.length) (h2 : i < st.2.length) : pull1 st i 0 = st := by
  unfold pull1
  rw [slPull_zero]
  have e1 := set_same st.1 i (0, 0, 0) h1
  have e2 := set_same st.2 i 0 h2
  have e3 : st.2.getD i 0 + ((st.1.getD i (0, 0, 0)).2.2 - (st.1.getD i (0, 0, 0)).2.2) = st.2.getD i 0 := by omega
  rw [e3, e2]
  exact Prod.ext e1 rfl

/-- the state within a round that began at the sliders t0 -/
structure SlInv (t0 : List (Int × Int × Int)) (st : SlSt) : Prop where
  l1 : st.1.length = t0.length
  l2 : st.2.length = t0.length
  lo : ∀ i, i < t0.length → (st.1.getD i (0, 0, 0)).1 = (t0.getD i (0, 0, 0)).1
  hi : ∀ i, i < t0.length → (st.1.getD i (0, 0, 0)).2.1 = (t0.getD i (0, 0, 0)).2.1
  ok : ∀ i, i < t0.length → slOk (st.1.getD i (0, 0, 0)).1 (st.1.getD i (0, 0, 0)).2.1 (st.1.getD i (0, 0, 0)).2.2 = true
  mv : ∀ i, i < t0.length → st.2.getD i 0 = (st.1.getD i (0, 0, 0)).2.2 - (t0.getD i (0, 0, 0)).2.2

theorem zeros_at (n i : Nat) : (zeros n).getD i 0 = 0 := by
  unfold zeros
  by_cases h : i < n <;> simp [List.getD, h]
theorem zeros_len (n : Nat) : (zeros n).length = n := by simp [zeros]
theorem SlInv.start {t0 : List (Int × Int × Int)} (h : slAll t0 = true) : SlInv t0 (t0, zeros t0.length) :=
  ⟨rfl, zeros_len _, fun _ _ => rfl, fun _ _ => rfl, fun i hi => slAll_at h hi, fun i _ => by show (zeros t0.length).getD i 0 = _; rw [zeros_at]; show (0 : Int) = (t0.getD i (0, 0, 0)).2.2 - (t0.getD i (0, 0, 0)).2.2; omega⟩

theorem getD_set_eq {α : Type} (xs : List α) (i : Nat) (v d : α) (h : i < xs.length) : (xs.set i v).getD i d = v := by simp [List.getD, h]
theorem getD_set_ne {α : Type} (xs : List α) (i j : Nat) (v d : α) (h : i ≠ j) : (xs.set i v).getD j d = xs.getD j d := by simp [List.getD, h]

theorem SlInv.pull {t0 : List (Int × Int × Int)} {st : SlSt} (h : SlInv t0 st) {i : Nat} (hi : i < t0.length) (b : Int) : SlInv t0 (pull1 st i b) := by
  have h1 := h.l1
  have h2 := h.l2
  refine ⟨by unfold pull1; rw [List.length_set]; exact h1, by unfold pull1; rw [List.length_set]; exact h2, fun j hj => ?_, fun j hj => ?_, fun j hj => ?_, fun j hj => ?_⟩
  all_goals unfold pull1
  all_goals dsimp only
  all_goals by_cases e : i = j
  · subst e; rw [getD_set_eq _ _ _ _ (by omega)]; exact h.lo i hi
  · rw [getD_set_ne _ _ _ _ _ e]; exact h.lo j hj
  · subst e; rw [getD_set_eq _ _ _ _ (by omega)]; exact h.hi i hi
  · rw [getD_set_ne _ _ _ _ _ e]; exact h.hi j hj
  · subst e; rw [getD_set_eq _ _ _ _ (by omega)]; exact slPull_ok (h.ok i hi)
  · rw [getD_set_ne _ _ _ _ _ e]; exact h.ok j hj
  · subst e; rw [getD_set_eq _ _ _ _ (by omega), getD_set_eq _ _ _ _ (by omega)]
    have := h.mv i hi
    dsimp only
    omega
  · rw [getD_set_ne _ _ _ _ _ e, getD_set_ne _ _ _ _ _ e]; exact h.mv j hj

/-- the way of a slider in a round is short -/
theorem SlInv.short {t0 : List (Int × Int × Int)} {st : SlSt} (h : SlInv t0 st) (h0 : slAll t0 = true) {i : Nat} (hi : i < t0.length) : -200 ≤ st.2.getD i 0 ∧ st.2.getD i 0 ≤ 200 := by
  have a := slOk_bounds (h.ok i hi)
  have b := slOk_bounds (slAll_at h0 hi)
  have c := h.mv i hi
  omega
theorem SlInv.all {t0 : List (Int × Int × Int)} {st : SlSt} (h : SlInv t0 st) : slAll st.1 = true := slAll_mk fun i hi => h.ok i (by rw [← h.l1]; exact hi)

/-- links whose ends are places -/
def LkIn (n : Nat) (ls : List (Int × Int × Int)) : Prop := ∀ l ∈ ls, 0 ≤ l.1 ∧ l.1 < n ∧ 0 ≤ l.2.1 ∧ l.2.1 < n ∧ (l.2.2 = 1 ∨ l.2.2 = -1)
theorem LkIn.of {n : Nat} {ls : List (Int × Int × Int)} (h : ls.all (linkIn (n : Int)) = true) : LkIn n ls := by
  intro l hl
  rw [List.all_eq_true] at h
  have := h l hl
  simp only [linkIn, inB, Bool.and_eq_true, Bool.or_eq_true, decide_eq_true_eq] at this
  omega
theorem SlInv.links {t0 : List (Int × Int × Int)} {ls : List (Int × Int × Int)} (hl : LkIn t0.length ls) (mv : List Int) : ∀ {st : SlSt}, SlInv t0 st → SlInv t0 (ls.foldl (linkPull mv) st) := by
  induction ls with
  | nil => intro st h; exact h
  | cons l ls ih =>
    intro st h
    have := hl l List.mem_cons_self
    exact ih (fun x hx => hl x (List.mem_cons_of_mem _ hx)) (h.pull (by omega) _)
theorem SlInv.round {ls : List (Int × Int × Int)} {st : SlSt} (h0 : slAll st.1 = true) (hl : LkIn st.1.length ls) : SlInv st.1 (round1 ls st) := (SlInv.start h0).links hl st.2

/-- what moves in a round was linked to what had moved -/
theorem moved_from {ls : List (Int × Int × Int)} (mv : List Int) {t0 : List (Int × Int × Int)} (hl : LkIn t0.length ls) : ∀ {st : SlSt}, SlInv t0 st → ∀ i, i < t0.length → (ls.foldl (linkPull mv) st).2.getD i 0 ≠ 0 → st.2.getD i 0 ≠ 0 ∨ ∃ l ∈ ls, l.2.1.toNat = i ∧ mv.getD l.1.toNat 0 ≠ 0 := by
  induction ls with
  | nil => intro st _ i _ h; exact .inl h
  | cons l ls ih =>
    intro st hs i hi h
    have hb := hl l List.mem_cons_self
    rcases ih (fun x hx => hl x (List.mem_cons_of_mem _ hx)) (st := linkPull mv st l) (hs.pull (by omega) _) i hi h with a | ⟨m, hm, e1, e2⟩
    · by_cases e : l.2.1.toNat = i
      · by_cases z : mv.getD l.1.toNat 0 = 0
        · unfold linkPull at a
          rw [z, Int.mul_zero, pull1_zero _ _ (by rw [hs.l1]; omega) (by rw [hs.l2]; omega)] at a
          exact .inl a
        · exact .inr ⟨l, List.mem_cons_self, e, z⟩
      · unfold linkPull pull1 at a
        dsimp only at a
        rw [getD_set_ne _ _ _ _ _ e] at a
        exact .inl a
    · exact .inr ⟨m, List.mem_cons_of_mem _ hm, e1, e2⟩

/-- how many places a place reaches -/
def reachN (E : Nat → Nat → Bool) (n i : Nat) : Nat := (List.range n).countP fun j => clo E n i j
theorem countP_lt {p q : Nat → Bool} (n : Nat) (hpq : ∀ j, j < n → p j = true → q j = true) {i : Nat} (hi : i < n) (h1 : p i = false) (h2 : q i = true) : (List.range n).countP p + 1 ≤ (List.range n).countP q := by
  induction n with
  | zero => omega
  | succ n ih =>
    rw [List.range_succ, List.countP_append, List.countP_append]
    have hle : ∀ m, m ≤ n → (List.range m).countP p ≤ (List.range m).countP q := by
      intro m
      induction m with
      | zero => intro _; simp
      | succ m ihm =>
        intro hm
        rw [List.range_succ, List.countP_append, List.countP_append]
        have := ihm (by omega)
        have h3 := hpq m (by omega)
        simp only [List.countP_cons, List.countP_nil]
        cases hp : p m
        · simp; omega
        · rw [h3 hp]; simp; omega
    simp only [List.countP_cons, List.countP_nil]
    by_cases e : i = n
    · subst e
      have := hle i (Nat.le_refl _)
      rw [h1, h2]
      simp
      omega
    · have := ih (fun j hj => hpq j (by omega)) (by omega)
      have h3 := hpq n (by omega)
      cases hp : p n
      · simp; omega
      · rw [h3 hp]; simp; omega
theorem reachN_le (E : Nat → Nat → Bool) (n i : Nat) : reachN E n i ≤ n := by
  unfold reachN
  have := List.countP_le_length (p := fun j => clo E n i j) (l := List.range n)
  simpa using this
theorem reachN_edge { E : Nat → Nat → Bool} {n a b : Nat} (h : acyc E n = true) (ha : a < n) (hb : b < n) (he : E a b = true) : reachN E n b + 1 ≤ reachN E n a := by
  unfold acyc at h
  rw [List.all_eq_true] at h
  have hbb : clo E n b b = false := by
    have := h b (List.mem_range.2 hb)
    simpa using this
  exact countP_lt n (fun j hj hc => clo_trans hb (clo_edge he) hc) hb hbb (clo_edge he)

/-- what a pull leaves moved -/
theorem pull1_moved {st : SlSt} {k i : Nat} {b : Int} (h0 : ∀ j, st.2.getD j 0 = 0) (h : (pull1 st k b).2.getD i 0 ≠ 0) : i = k := by
  refine Classical.byContradiction fun e => h ?_
  unfold pull1
  dsimp only
  rw [getD_set_ne _ _ _ _ _ (fun x => e x.symm)]
  exact h0 i

/-- the sliders after r rounds: valid, and what still moves has been reached by r links -/
structure RdInv (ls : List (Int × Int × Int)) (t0 : List (Int × Int × Int)) (r : Nat) (st : SlSt) : Prop where
  all : slAll st.1 = true
  l1 : st.1.length = t0.length
  l2 : st.2.length = t0.length
  lo : ∀ i, i < t0.length → (st.1.getD i (0, 0, 0)).1 = (t0.getD i (0, 0, 0)).1
  hi : ∀ i, i < t0.length → (st.1.getD i (0, 0, 0)).2.1 = (t0.getD i (0, 0, 0)).2.1
  short : ∀ i, i < t0.length → -200 ≤ st.2.getD i 0 ∧ st.2.getD i 0 ≤ 200
  reach : ∀ i, i < t0.length → st.2.getD i 0 ≠ 0 → reachN (edge ls) t0.length i + r ≤ t0.length

theorem RdInv.start {ls t0 : List (Int × Int × Int)} (h : slAll t0 = true) {k : Nat} (hk : k < t0.length) (b : Int) : RdInv ls t0 0 (pull1 (t0, zeros t0.length) k b) :=
  have h1 := (SlInv.start h).pull hk b
  ⟨h1.all, h1.l1, h1.l2, h1.lo, h1.hi, fun i hi => h1.short h hi, fun i hi _ => reachN_le _ _ _⟩
theorem RdInv.next {ls t0 : List (Int × Int × Int)} {r : Nat} {st : SlSt} (h : RdInv ls t0 r st) (hl : LkIn t0.length ls) (ha : acyc (edge ls) t0.length = true) : RdInv ls t0 (r + 1) (round1 ls st) := by
  have h1 := SlInv.round (ls := ls) (st := st) h.all (by rw [h.l1]; exact hl)
  have e := h.l1
  refine ⟨h1.all, h1.l1.trans e, h1.l2.trans e, fun i hi => (h1.lo i (by omega)).trans (h.lo i hi), fun i hi => (h1.hi i (by omega)).trans (h.hi i hi), fun i hi => h1.short h.all (by omega), fun i hi hm => ?_⟩
  rcases moved_from st.2 (t0 := st.1) (by rw [e]; exact hl) (SlInv.start h.all) i (by omega) hm with a | ⟨l, hll, e1, e2⟩
  · exact absurd (zeros_at _ _) a
  · have hb := hl l hll
    have hr := h.reach l.1.toNat (by omega) e2
    have he : edge ls l.1.toNat i = true := by
      unfold edge
      rw [List.any_eq_true]
      refine ⟨l, hll, ?_⟩
      simp only [Bool.and_eq_true, decide_eq_true_eq]
      omega
    have := reachN_edge ha (show l.1.toNat < t0.length by omega) hi he
    omega
theorem RdInv.rounds {ls t0 : List (Int × Int × Int)} {st : SlSt} (h : RdInv ls t0 0 st) (hl : LkIn t0.length ls) (ha : acyc (edge ls) t0.length = true) : ∀ r, RdInv ls t0 r (roundsN ls st r) := by
  intro r
  induction r with
  | zero => exact h
  | succ r ih => exact ih.next hl ha

/-- a round in which nothing had moved -/
theorem round1_rest {ls : List (Int × Int × Int)} {st : SlSt} (h0 : slAll st.1 = true) (hl : LkIn st.1.length ls) (hz : ∀ i, i < st.1.length → st.2.getD i 0 = 0) : round1 ls st = (st.1, zeros st.1.length) := by
  have key : ∀ (ms : List (Int × Int × Int)), LkIn st.1.length ms → ∀ s : SlSt, SlInv st.1 s → ms.foldl (linkPull st.2) s = s := by
    intro ms
    induction ms with
    | nil => intro _ s _; rfl
    | cons l ms ih =>
      intro hm s hs
      have hb := hm l List.mem_cons_self
      rw [List.foldl_cons]
      have e : linkPull st.2 s l = s := by
        unfold linkPull
        rw [hz _ (by omega), Int.mul_zero]
        exact pull1_zero _ _ (by rw [hs.l1]; omega) (by rw [hs.l2]; omega)
      rw [e]
      exact ih (fun x hx => hm x (List.mem_cons_of_mem _ hx)) s hs
  exact key ls hl _ (SlInv.start h0)
/-- at rest the sliders stay -/
theorem rounds_rest {ls t0 : List (Int × Int × Int)} {st : SlSt} (h : RdInv ls t0 0 st) (hl : LkIn t0.length ls) (ha : acyc (edge ls) t0.length = true) {r : Nat} (hz : ∀ i, i < t0.length → (roundsN ls st r).2.getD i 0 = 0) :
    ∀ m, (roundsN ls st (r + m)).1 = (roundsN ls st r).1 ∧ ∀ i, i < t0.length → (roundsN ls st (r + m)).2.getD i 0 = 0 := by
  intro m
  induction m with
  | zero => exact ⟨rfl, hz⟩
  | succ m ih =>
    have hr := h.rounds hl ha (r + m)
    have e := round1_rest hr.all (by rw [hr.l1]; exact hl) (fun i hi => ih.2 i (by rw [← hr.l1]; exact hi))
    refine ⟨?_, fun i hi => ?_⟩
    · show (round1 ls (roundsN ls st (r + m))).1 = _
      rw [e]
      exact ih.1
    · show (round1 ls (roundsN ls st (r + m))).2.getD i 0 = 0
      rw [e]
      exact zeros_at _ _
/-- something moves -/
def movesI (x : Int) : Bool := decide (x ≠ 0)
/-- where something still moves the rounds are few -/
theorem rounds_few {ls t0 : List (Int × Int × Int)} {r : Nat} {st : SlSt} (h : RdInv ls t0 r st) (hm : st.2.any movesI = true) : r ≤ t0.length := by
  rw [List.any_eq_true] at hm
  obtain ⟨x, hx, hne⟩ := hm
  obtain ⟨i, hi, rfl⟩ := List.getElem_of_mem hx
  have hi' : i < t0.length := by rw [← h.l2]; exact hi
  have := h.reach i hi' (by simpa [List.getD, hi, movesI] using hne)
  omega
theorem any_rest {xs : List Int} (h : xs.any movesI = false) (i : Nat) : xs.getD i 0 = 0 := by
  by_cases hi : i < xs.length
  · rw [List.any_eq_false] at h
    have := h xs[i] (List.getElem_mem hi)
    simpa [List.getD, hi, movesI] using this
  · simp [List.getD, hi]

end Go.Proofs.Ytodocfanaplmpaa
