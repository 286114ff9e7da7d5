
/-
  Plain law of CountWays: the sums of the levels; no program in sight.
-/
import Derived.Test.YtjkicfagphielaaCountWaysP
import Derived.Test.YtjkicfagphielaaWayUp
namespace Go.Proofs.Ytjkicfagphielaa
open Go.ChangeShapes Go.WideShapes Go.ChangeAt Go.RowKit Go.Deep Go.BigFrame
set_option linter.unusedVariables false
set_option linter.unusedSimpArgs false

/-- the ways of all names, each as often as it is counted -/
def dot (T : List UInt8) : List ByteArray → List Nat → Nat
  | x :: xs, c :: cs => c * nUp T x.data.toList + dot T xs cs
  | _, _ => 0
theorem dot_snoc (T : List UInt8) (x : ByteArray) (c : Nat) : ∀ (xs : List ByteArray) (cs : List Nat), xs.length = cs.length → dot T (xs ++ [x]) (cs ++ [c]) = dot T xs cs + c * nUp T x.data.toList := by
  intro xs
  induction xs with
  | nil =>
    intro cs h
    cases cs with
    | nil => simp [dot]
    | cons _ _ => simp at h
  | cons y xs ih =>
    intro cs h
    cases cs with
    | nil => simp at h
    | cons e cs =>
      have := ih cs (by simpa using h)
      simp only [List.cons_append, dot, this]
      omega
theorem dot_set (T : List UInt8) (v : Nat) : ∀ (xs : List ByteArray) (cs : List Nat) (p : Nat), xs.length = cs.length → p < cs.length → dot T xs (cs.set p (cs.getD p 0 + v)) = dot T xs cs + v * nUp T (xs.getD p .empty).data.toList := by
  intro xs
  induction xs with
  | nil =>
    intro cs p h hp
    cases cs with
    | nil => simp at hp
    | cons _ _ => simp at h
  | cons y xs ih =>
    intro cs p h hp
    cases cs with
    | nil => simp at hp
    | cons e cs =>
      cases p with
      | zero =>
        simp only [List.set_cons_zero, dot, List.getD_cons_zero, Nat.add_mul]
        omega
      | succ p =>
        have := ih cs p (by simpa using h) (by simpa using hp)
        simp only [List.set_cons_succ, dot, List.getD_cons_succ, this]
        omega
theorem dot_take (T : List UInt8) : ∀ (xs : List ByteArray) (cs : List Nat) (i : Nat), xs.length = cs.length → i < xs.length → dot T (xs.take (i + 1)) (cs.take (i + 1)) = dot T (xs.take i) (cs.take i) + cs.getD i 0 * nUp T (xs.getD i .empty).data.toList := by
  intro xs cs i h hi
  rw [take_snoc_getD xs i .empty hi, take_snoc_getD cs i 0 (by omega)]
  exact dot_snoc T _ _ _ _ (by rw [List.length_take, List.length_take, h])
theorem dot_take_le (T : List UInt8) : ∀ (xs : List ByteArray) (cs : List Nat) (i : Nat), dot T (xs.take i) (cs.take i) ≤ dot T xs cs := by
  intro xs
  induction xs with
  | nil => intro cs i; simp [dot]
  | cons y xs ih =>
    intro cs i
    cases i with
    | zero => simp [dot]
    | succ i =>
      cases cs with
      | nil => simp [dot]
      | cons e cs =>
        have := ih cs i
        simp only [List.take_succ_cons, dot]
        omega
theorem dot_ge (T : List UInt8) : ∀ (xs : List ByteArray) (cs : List Nat) (p : Nat), xs.length = cs.length → p < cs.length → (∀ x ∈ xs, 1 ≤ nUp T x.data.toList) → cs.getD p 0 ≤ dot T xs cs := by
  intro xs
  induction xs with
  | nil =>
    intro cs p h hp _
    cases cs with
    | nil => simp at hp
    | cons _ _ => simp at h
  | cons y xs ih =>
    intro cs p h hp h1
    cases cs with
    | nil => simp at hp
    | cons e cs =>
      have hy := h1 y List.mem_cons_self
      cases p with
      | zero =>
        have : e * 1 ≤ e * nUp T y.data.toList := Nat.mul_le_mul_left _ hy
        simp only [dot, List.getD_cons_zero]
        omega
      | succ p =>
        have := ih cs p (by simpa using h) (by simpa using hp) (fun x hx => h1 x (List.mem_cons_of_mem _ hx))
        simp only [dot, List.getD_cons_succ]
        omega
theorem dot_len (T : List UInt8) : ∀ (xs : List ByteArray) (cs : List Nat), xs.length = cs.length → (∀ x ∈ xs, 1 ≤ nUp T x.data.toList) → (∀ c ∈ cs, 1 ≤ c) → xs.length ≤ dot T xs cs := by
  intro xs
  induction xs with
  | nil => intro cs _ _ _; exact Nat.zero_le _
  | cons y xs ih =>
    intro cs h h1 h2
    cases cs with
    | nil => simp at h
    | cons e cs =>
      have hy := h1 y List.mem_cons_self
      have he := h2 e List.mem_cons_self
      have := ih cs (by simpa using h) (fun x hx => h1 x (List.mem_cons_of_mem _ hx)) (fun x hx => h2 x (List.mem_cons_of_mem _ hx))
      have : 1 * 1 ≤ e * nUp T y.data.toList := Nat.mul_le_mul he hy
      simp only [dot, List.length_cons]
      omega

/-- the names of a level -/
structure Lev (T : List UInt8) (n a : Nat) (xs : List ByteArray) : Prop where
  all : ∀ x ∈ xs, x.size = n ∧ isAbove T x.data.toList = true ∧ gap T x.data.toList = a
  nodup : xs.Nodup
theorem Lev.pos { T : List UInt8} {n a : Nat} {xs : List ByteArray} (h : Lev T n a xs) : ∀ x ∈ xs, 1 ≤ nUp T x.data.toList := fun x hx => nUp_pos a x.data.toList (h.all x hx).2.1 (Nat.le_of_eq (h.all x hx).2.2)
theorem Lev.snoc { T : List UInt8} {n a : Nat} {xs : List ByteArray} {x : ByteArray} (h : Lev T n a xs) (h1 : x.size = n ∧ isAbove T x.data.toList = true ∧ gap T x.data.toList = a) (h2 : ∀ p, p < xs.length → ¬ xs.getD p .empty = x) : Lev T n a (xs ++ [x]) := by
  refine ⟨fun y hy => ?_, ?_⟩
  · rcases List.mem_append.1 hy with hy | hy
    · exact h.all y hy
    · rw [List.mem_singleton.1 hy]; exact h1
  · rw [List.nodup_append]
    refine ⟨h.nodup, by simp, fun y hy z hz e => ?_⟩
    rw [List.mem_singleton.1 hz] at e
    subst e
    obtain ⟨p, hp, hpe⟩ := List.getElem_of_mem hy
    exact h2 p hp (by simpa [List.getD, hp] using hpe)
theorem Lev.nil_ (T : List UInt8) (n a : Nat) : Lev T n a [] := ⟨fun x h => absurd h (by simp), List.nodup_nil⟩
theorem Lev.at_ { T : List UInt8} {n a : Nat} {xs : List ByteArray} (h : Lev T n a xs) {i : Nat} (hi : i < xs.length) : (xs.getD i .empty).size = n ∧ isAbove T (xs.getD i .empty).data.toList = true ∧ gap T (xs.getD i .empty).data.toList = a := by
  have e : xs.getD i .empty = xs[i] := by simp [List.getD, hi]
  rw [e]
  exact h.all _ (List.getElem_mem hi)
/-- the last level -/
theorem Lev.last { t : ByteArray} {n : Nat} {xs : List ByteArray} {cs : List Nat} {N : Nat} (h : Lev t.data.toList n 0 xs) (hl : xs.length = cs.length) (hd : dot t.data.toList xs cs = N) (hN : 1 ≤ N) : cs = [N] := by
  have hx : ∀ x ∈ xs, x = t := fun x hx => list_bytes (gap_zero (h.all x hx).2.1 (h.all x hx).2.2)
  cases xs with
  | nil => simp [dot] at hd; omega
  | cons x xs =>
    cases xs with
    | cons y xs =>
      exfalso
      have h1 := hx x List.mem_cons_self
      have h2 := hx y (List.mem_cons_of_mem _ List.mem_cons_self)
      have h3 := (List.nodup_cons.1 h.nodup).1
      rw [h1, h2] at h3
      exact h3 List.mem_cons_self
    | nil =>
      cases cs with
      | nil => simp at hl
      | cons c cs =>
        cases cs with
        | cons _ _ => simp at hl
        | nil =>
          rw [hx x List.mem_cons_self] at hd
          simp [dot, nUp_self] at hd
          rw [hd]

/-- the ways over the first places -/
def accK (T l : List UInt8) (k : Nat) : Nat := (((List.range k).filter (up T l)).map fun k => nUp T (swp l k)).sum
theorem accK_yes { T l : List UInt8} {k : Nat} (h : up T l k = true) : accK T l (k + 1) = accK T l k + nUp T (swp l k) := by
  unfold accK
  rw [List.range_succ, List.filter_append, List.map_append, List.sum_append]
  simp [h]
theorem accK_no { T l : List UInt8} {k : Nat} (h : up T l k = false) : accK T l (k + 1) = accK T l k := by
  unfold accK
  rw [List.range_succ, List.filter_append, List.map_append, List.sum_append]
  simp [h]
theorem accK_one (T l : List UInt8) : accK T l 1 = 0 := by
  rw [accK_no (up_zero T l)]
  rfl
theorem accK_all { T l : List UInt8} (ha : isAbove T l = true) (hne : l ≠ T) : accK T l l.length = nUp T l := (nUp_step ha hne).symm
theorem accK_mono (T l : List UInt8) (k : Nat) : ∀ m, accK T l k ≤ accK T l (k + m) := by
  intro m
  induction m with
  | zero => exact Nat.le_refl _
  | succ m ih =>
    cases h : up T l (k + m) with
    | true => have := accK_yes h; rw [show k + (m + 1) = k + m + 1 by omega]; omega
    | false => have := accK_no h; rw [show k + (m + 1) = k + m + 1 by omega]; omega
theorem gap_pos_ne { T l : List UInt8} (h : 0 < gap T l) : l ≠ T := fun e => by rw [e, gap_self] at h; omega

end Go.Proofs.Ytjkicfagphielaa
