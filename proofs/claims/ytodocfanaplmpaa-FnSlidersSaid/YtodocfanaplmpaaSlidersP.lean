
/-
  Plain law of sliders: what PullAll does to each slider; no program in sight.
-/
import Derived.Test.YtodocfanaplmpaaPullP
import Derived.Test.YtodocfanaplmpaaSlS
namespace Go.Proofs.Ytodocfanaplmpaa
open Go.ChangeShapes Go.WideShapes Go.ChangeAt Go.RowKit
set_option linter.unusedVariables false
set_option linter.unusedSimpArgs false

theorem getD_set_neS {α : Type} (xs : List α) (i j : Nat) (v d : α) (h : i ≠ j) : (xs.set i v).getD j d = xs.getD j d := by simp [List.getD, h]
theorem getD_set_eqS {α : Type} (xs : List α) (i : Nat) (v d : α) (h : i < xs.length) : (xs.set i v).getD i d = v := by simp [List.getD, h]

theorem pull1_len (st : SlSt) (i : Nat) (b : Int) : (pull1 st i b).1.length = st.1.length ∧ (pull1 st i b).2.length = st.2.length := by simp [pull1]
theorem links_len (ls : List (Int × Int × Int)) (mv : List Int) : ∀ st : SlSt, (ls.foldl (linkPull mv) st).1.length = st.1.length ∧ (ls.foldl (linkPull mv) st).2.length = st.2.length := by
  induction ls with
  | nil => intro st; exact ⟨rfl, rfl⟩
  | cons l ls ih =>
    intro st
    have a := ih (linkPull mv st l)
    have b := pull1_len st l.2.1.toNat (l.2.2 * mv.getD l.1.toNat 0)
    exact ⟨a.1.trans b.1, a.2.trans b.2⟩
/-- one pull: the slot stays, a valid slider stays valid, what is not pulled stays -/
theorem pull1_at (st : SlSt) (i j : Nat) (b : Int) (hj : j < st.1.length) :
    ((pull1 st i b).1.getD j (0, 0, 0)).1 = (st.1.getD j (0, 0, 0)).1 ∧ ((pull1 st i b).1.getD j (0, 0, 0)).2.1 = (st.1.getD j (0, 0, 0)).2.1 ∧
    (slOk (st.1.getD j (0, 0, 0)).1 (st.1.getD j (0, 0, 0)).2.1 (st.1.getD j (0, 0, 0)).2.2 = true → slOk ((pull1 st i b).1.getD j (0, 0, 0)).1 ((pull1 st i b).1.getD j (0, 0, 0)).2.1 ((pull1 st i b).1.getD j (0, 0, 0)).2.2 = true) ∧
    (j ≠ i → (pull1 st i b).1.getD j (0, 0, 0) = st.1.getD j (0, 0, 0)) := by
  by_cases h : i = j
  · subst h
    have e : (pull1 st i b).1.getD i (0, 0, 0) = ((st.1.getD i (0, 0, 0)).1, (st.1.getD i (0, 0, 0)).2.1, slPull (st.1.getD i (0, 0, 0)).1 (st.1.getD i (0, 0, 0)).2.1 (st.1.getD i (0, 0, 0)).2.2 b) := getD_set_eqS _ _ _ _ hj
    rw [e]
    exact ⟨rfl, rfl, fun h => slPull_ok h, fun h => absurd rfl h⟩
  · have e : (pull1 st i b).1.getD j (0, 0, 0) = st.1.getD j (0, 0, 0) := getD_set_neS _ _ _ _ _ h
    rw [e]
    exact ⟨rfl, rfl, id, fun _ => rfl⟩

/-- how a state stands to the sliders at the start -/
structure Keeps (p : Nat → Prop) (ts : List (Int × Int × Int)) (st : SlSt) : Prop where
  l1 : st.1.length = ts.length
  lo : ∀ i, i < ts.length → (st.1.getD i (0, 0, 0)).1 = (ts.getD i (0, 0, 0)).1
  hi : ∀ i, i < ts.length → (st.1.getD i (0, 0, 0)).2.1 = (ts.getD i (0, 0, 0)).2.1
  ok : ∀ i, i < ts.length → slOk (st.1.getD i (0, 0, 0)).1 (st.1.getD i (0, 0, 0)).2.1 (st.1.getD i (0, 0, 0)).2.2 = true
  un : ∀ i, i < ts.length → ¬ p i → st.1.getD i (0, 0, 0) = ts.getD i (0, 0, 0)
theorem Keeps.pull {p : Nat → Prop} {ts : List (Int × Int × Int)} {st : SlSt} (h : Keeps p ts st) (i : Nat) (b : Int) (hp : p i) : Keeps p ts (pull1 st i b) :=
  ⟨(pull1_len st i b).1.trans h.l1, fun j hj => (pull1_at st i j b (by rw [h.l1]; exact hj)).1.trans (h.lo j hj), fun j hj => (pull1_at st i j b (by rw [h.l1]; exact hj)).2.1.trans (h.hi j hj),
    fun j hj => (pull1_at st i j b (by rw [h.l1]; exact hj)).2.2.1 (h.ok j hj), fun j hj hn => ((pull1_at st i j b (by rw [h.l1]; exact hj)).2.2.2 (fun e => hn (e ▸ hp))).trans (h.un j hj hn)⟩
theorem Keeps.links {p : Nat → Prop} {ts : List (Int × Int × Int)} (mv : List Int) : ∀ (ls : List (Int × Int × Int)) {st : SlSt}, Keeps p ts st → (∀ l ∈ ls, p l.2.1.toNat) → Keeps p ts (ls.foldl (linkPull mv) st) := by
  intro ls
  induction ls with
  | nil => intro st h _; exact h
  | cons l ls ih =>
    intro st h hl
    exact ih (h.pull _ _ (hl l (by simp))) fun x hx => hl x (by simp [hx])
theorem Keeps.round {p : Nat → Prop} {ts ls : List (Int × Int × Int)} {st : SlSt} (h : Keeps p ts st) (hl : ∀ l ∈ ls, p l.2.1.toNat) : Keeps p ts (round1 ls st) :=
  Keeps.links st.2 ls (st := (st.1, zeros st.1.length)) ⟨h.l1, h.lo, h.hi, h.ok, h.un⟩ hl
theorem Keeps.rounds {p : Nat → Prop} {ts ls : List (Int × Int × Int)} {st : SlSt} (h : Keeps p ts st) (hl : ∀ l ∈ ls, p l.2.1.toNat) : ∀ r, Keeps p ts (roundsN ls st r) := by
  intro r
  induction r with
  | zero => exact h
  | succ r ih => exact ih.round hl

theorem pullCan_parts {ts ls : List (Int × Int × Int)} {k b : Int} (h : pullCan ts ls k b = true) : linksOk (ts.length : Int) ls = true ∧ slAll ts = true ∧ (0 ≤ k ∧ k < (ts.length : Int)) ∧ (-100 ≤ b ∧ b ≤ 100) := by
  simp only [pullCan, Bool.and_eq_true, inB, decide_eq_true_eq] at h
  obtain ⟨h1, h2, h3, h4⟩ := h
  exact ⟨h1, h2, ⟨h3.1, by have := h3.2; omega⟩, h4⟩
theorem linksOk_in {n : Nat} {ls : List (Int × Int × Int)} (h : linksOk (n : Int) ls = true) : LkIn n ls := by
  refine LkIn.of ?_
  simp only [linksOk, Bool.and_eq_true] at h
  exact h.2.2.1

/-- a slider is linked -/
def linkedTo (k : Int) (ls : List (Int × Int × Int)) (i : Nat) : Bool := decide ((i : Int) = k) || ls.any fun l => decide (l.2.1 = (i : Int))

theorem pull_len (ts ls : List (Int × Int × Int)) (k b : Int) : (pullRes ts ls k b).length = ts.length := by
  unfold pullRes
  by_cases h : pullCan ts ls k b = true
  · rw [if_pos h]
    have : ∀ (r : Nat) (st : SlSt), (roundsN ls st r).1.length = st.1.length := by
      intro r st
      induction r with
      | zero => rfl
      | succ r ih => exact (links_len ls _ _).1.trans ih
    exact (this _ _).trans (pull1_len _ _ _).1
  · rw [if_neg h]
theorem pull_keeps {ts ls : List (Int × Int × Int)} {k b : Int} (h : pullCan ts ls k b = true) {i : Nat} (hi : i < ts.length) :
    slOk ((pullRes ts ls k b).getD i (0, 0, 0)).1 ((pullRes ts ls k b).getD i (0, 0, 0)).2.1 ((pullRes ts ls k b).getD i (0, 0, 0)).2.2 = true ∧
    ((pullRes ts ls k b).getD i (0, 0, 0)).1 = (ts.getD i (0, 0, 0)).1 ∧ ((pullRes ts ls k b).getD i (0, 0, 0)).2.1 = (ts.getD i (0, 0, 0)).2.1 ∧
    (linkedTo k ls i = false → (pullRes ts ls k b).getD i (0, 0, 0) = ts.getD i (0, 0, 0)) := by
  obtain ⟨h1, h2, h3, h4⟩ := pullCan_parts h
  have hlk := linksOk_in h1
  have e : pullRes ts ls k b = (pullOut ts ls k.toNat b).1 := if_pos h
  rw [e]
  have h0 : Keeps (fun j => linkedTo k ls j = true) ts (ts, zeros ts.length) := ⟨rfl, fun _ _ => rfl, fun _ _ => rfl, fun j hj => slAll_at h2 hj, fun _ _ _ => rfl⟩
  have hk : linkedTo k ls k.toNat = true := by
    unfold linkedTo
    rw [decide_eq_true (by omega), Bool.true_or]
  have hl : ∀ l ∈ ls, linkedTo k ls l.2.1.toNat = true := by
    intro l hl
    have := hlk l hl
    unfold linkedTo
    rw [Bool.or_eq_true]
    right
    exact List.any_eq_true.2 ⟨l, hl, decide_eq_true (by omega)⟩
  have hz := (h0.pull k.toNat b hk).rounds hl (ts.length + 1)
  exact ⟨hz.ok i hi, hz.lo i hi, hz.hi i hi, fun hn => hz.un i hi (by rw [hn]; simp)⟩
theorem pull_zero {ts ls : List (Int × Int × Int)} {k : Int} (h : pullCan ts ls k 0 = true) : pullRes ts ls k 0 = ts := by
  obtain ⟨h1, h2, h3, h4⟩ := pullCan_parts h
  have hlk := linksOk_in h1
  have e : pullRes ts ls k 0 = (pullOut ts ls k.toNat 0).1 := if_pos h
  rw [e]
  have hp : pull1 (ts, zeros ts.length) k.toNat 0 = (ts, zeros ts.length) := pull1_zero _ _ (by show k.toNat < ts.length; omega) (by show k.toNat < (zeros ts.length).length; rw [zeros_len]; omega)
  unfold pullOut
  rw [hp]
  have : ∀ r, roundsN ls (ts, zeros ts.length) r = (ts, zeros ts.length) := by
    intro r
    induction r with
    | zero => rfl
    | succ r ih =>
      show round1 ls (roundsN ls (ts, zeros ts.length) r) = _
      rw [ih]
      exact round1_rest h2 hlk fun i _ => zeros_at _ _
  rw [this]

theorem slPull_any {lo hi now b : Int} (h : -8 ≤ lo ∧ lo ≤ now ∧ now ≤ hi ∧ hi ≤ 20) (hb : -1000 ≤ b ∧ b ≤ 1000) : slPull lo hi now b = max lo (min hi (now + b)) ∧ slOk lo hi (slPull lo hi now b) = true := by
  have h1 : slOk lo hi now = true := by simp [slOk, inB]; omega
  have h2 : inB b (-1000) 1000 = true := by simp [inB]; omega
  exact ⟨slPull_yes h1 h2, slPull_ok h1⟩
theorem spent_two {lo hi now : Int} (h : -8 ≤ lo ∧ lo ≤ now ∧ now ≤ hi ∧ hi ≤ 20) : slPull lo hi now 1000 = hi ∧ slPull lo hi now (-1000) = lo ∧ [(lo, hi, hi), (lo, hi, lo)].all endB = true := by
  obtain ⟨a1, _⟩ := slPull_any h (b := 1000) (by omega)
  obtain ⟨b1, _⟩ := slPull_any h (b := -1000) (by omega)
  have c1 : slOk lo hi hi = true := by simp [slOk, inB]; omega
  have c2 : slOk lo hi lo = true := by simp [slOk, inB]; omega
  refine ⟨by rw [a1]; omega, by rw [b1]; omega, ?_⟩
  simp [endB, c1, c2]
theorem link_one : linksOk 2 [(0, 1, -1)] = true := by decide +kernel

end Go.Proofs.Ytodocfanaplmpaa
