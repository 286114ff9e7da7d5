
/-
  Plain law of RoomTable: how many ways there are with some room under them; no program in sight.
-/
import Derived.Test.YtpeopfkechbelaaInts0
namespace Go.Proofs.Ytpeopfkechbelaa
open Go.ChangeShapes Go.WideShapes Go.ChangeAt Go.RowKit Go.Deep
set_option linter.unusedVariables false
set_option linter.unusedSimpArgs false

/-- the ways to go d steps down and f steps forward with room r under them -/
def ways : Nat → Nat → Nat → Nat
  | 0, _, r => if r = 0 then 1 else 0
  | _ + 1, 0, r => if r = 0 then 1 else 0
  | d + 1, f + 1, r => ways d (f + 1) r + if d + 1 ≤ r then ways (d + 1) f (r - (d + 1)) else 0
termination_by d f => d + f

theorem ways_down (f r : Nat) : ways 0 f r = if r = 0 then 1 else 0 := by unfold ways; rfl
theorem ways_flat (d r : Nat) : ways d 0 r = if r = 0 then 1 else 0 := by cases d <;> (unfold ways; rfl)
theorem ways_both (d f r : Nat) : ways (d + 1) (f + 1) r = ways d (f + 1) r + if d + 1 ≤ r then ways (d + 1) f (r - (d + 1)) else 0 := by
  conv => lhs; unfold ways

theorem ways_le : ∀ (n d f r : Nat), d + f ≤ n → ways d f r ≤ 2 ^ n := by
  intro n
  induction n with
  | zero =>
    intro d f r h
    obtain rfl : d = 0 := by omega
    rw [ways_down]
    by_cases a : r = 0
    · rw [if_pos a]; exact Nat.le_refl _
    · rw [if_neg a]; exact Nat.zero_le _
  | succ n ih =>
    intro d f r h
    have h1 : 1 ≤ 2 ^ (n + 1) := Nat.one_le_two_pow
    cases d with
    | zero =>
      rw [ways_down]
      by_cases a : r = 0
      · rw [if_pos a]; exact h1
      · rw [if_neg a]; omega
    | succ d =>
      cases f with
      | zero =>
        rw [ways_flat]
        by_cases a : r = 0
        · rw [if_pos a]; exact h1
        · rw [if_neg a]; omega
      | succ f =>
        rw [ways_both]
        have a := ih d (f + 1) r (by omega)
        have b := ih (d + 1) f (r - (d + 1)) (by omega)
        have c : 2 ^ (n + 1) = 2 ^ n + 2 ^ n := by omega
        by_cases q : d + 1 ≤ r
        · rw [if_pos q]; omega
        · rw [if_neg q]; omega
theorem ways_16 {d f : Nat} (r : Nat) (h : d + f ≤ 16) : ways d f r ≤ 65536 := ways_le 16 d f r h

theorem ways_out : ∀ (n d f r : Nat), d + f ≤ n → d * f < r → ways d f r = 0 := by
  intro n
  induction n with
  | zero =>
    intro d f r h hr
    obtain rfl : d = 0 := by omega
    rw [ways_down, if_neg (by omega)]
  | succ n ih =>
    intro d f r h hr
    cases d with
    | zero => rw [ways_down, if_neg (by omega)]
    | succ d =>
      cases f with
      | zero => rw [ways_flat, if_neg (by omega)]
      | succ f =>
        rw [ways_both]
        have e1 : (d + 1) * (f + 1) = d * (f + 1) + (f + 1) := Nat.succ_mul _ _
        have e2 : (d + 1) * (f + 1) = (d + 1) * f + (d + 1) := Nat.mul_succ _ _
        rw [ih d (f + 1) r (by omega) (by omega), Nat.zero_add]
        by_cases q : d + 1 ≤ r
        · rw [if_pos q]
          exact ih (d + 1) f _ (by omega) (by omega)
        · rw [if_neg q]

/-- the whole table -/
def table (d f : Nat) : List Int := (List.range (d * f + 1)).map fun r : Nat => (ways d f r : Int)
theorem table_len (d f : Nat) : (table d f).length = d * f + 1 := by simp [table]
theorem table_get {d f r : Nat} (h : r < d * f + 1) : (table d f).getD r 0 = (ways d f r : Int) := by simp [table, List.getD, h]
theorem table_edge {d f : Nat} (h : d = 0 ∨ f = 0) : table d f = [1] := by
  have e : d * f = 0 := by rcases h with rfl | rfl <;> simp
  unfold table
  rw [e]
  rcases h with rfl | rfl
  · simp [List.range_succ, ways_down]
  · simp [List.range_succ, ways_flat]

/-- n numbers, told by their places -/
def tab (n : Nat) (F : Nat → Int) : List Int := (List.range n).map F
theorem tab_len (n : Nat) (F : Nat → Int) : (tab n F).length = n := by simp [tab]
theorem tab_get {n : Nat} {F : Nat → Int} {r : Nat} (h : r < n) : (tab n F).getD r 0 = F r := by simp [tab, List.getD, h]
theorem tab_congr {n : Nat} {F G : Nat → Int} (h : ∀ r, r < n → F r = G r) : tab n F = tab n G := by
  unfold tab
  exact List.map_congr_left fun r hr => h r (List.mem_range.1 hr)
theorem tab_set {n : Nat} {F G : Nat → Int} {k : Nat} {v : Int} (hk : k < n) (h : G k = v) (ho : ∀ r, r < n → r ≠ k → G r = F r) : (tab n F).set k v = tab n G := by
  apply List.ext_getElem
  · simp [tab]
  · intro i h1 h2
    have hi : i < n := by simpa [tab] using h2
    rw [List.getElem_set]
    by_cases e : k = i
    · subst e
      simp [tab, h]
    · rw [if_neg e]
      simp only [tab, List.getElem_map, List.getElem_range]
      exact (ho i hi (fun x => e x.symm)).symm
theorem tab_zero (n : Nat) : tab n (fun _ => 0) = List.replicate n 0 := by
  unfold tab
  simp [List.map_const']

end Go.Proofs.Ytpeopfkechbelaa
