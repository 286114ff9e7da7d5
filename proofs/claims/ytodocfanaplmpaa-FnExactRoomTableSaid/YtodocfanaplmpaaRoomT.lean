
/-
  The contract of the reference's RoomTable; no condition.
-/
import Derived.Test.YtodocfanaplmpaaRooms
import Derived.Test.YtodocfanaplmpaaKids
import Derived.Deep.AppendLies
import Derived.BigRegion
namespace Go.Proofs.Ytodocfanaplmpaa
open Go.ChangeShapes Go.WideShapes Go.ChangeAt Go.RowKit Go.Deep
set_option linter.unusedVariables false
set_option linter.unusedSimpArgs false

theorem rowInfo : (Try.prog.info? 22).map (fun i => (i.zero, i.size, i.bytes)) = some (some (.slice none 0 0), 1, 24) := by kernel_rfl

theorem Kids.mono {w : World} {base base' : Nat} {o : Option Nat} {vs : List Value} {xss : List (List Int)} (h : Kids w base o vs xss) (hb : base' ≤ base) : Kids w base' o vs xss :=
  ⟨h.len, fun i hi => by obtain ⟨A, c, e, r⟩ := h.row i hi; exact ⟨A, c, e, own_mono r hb⟩, h.apart, h.out⟩
theorem Kids.on {w w' : World} {base : Nat} {o : Option Nat} {vs : List Value} {xss : List (List Int)} (h : Kids w base o vs xss) (hb : Below w.heap.size w w') : Kids w' base o vs xss :=
  h.grown (grown_of_below hb none) (fun _ _ _ _ => by simp)
theorem getD_lt {α : Type} (a b : List α) (j : Nat) (d : α) (h : j < a.length) : (a ++ b).getD j d = a.getD j d := by
  simp [List.getD, List.getElem?_append_left h]
theorem getD_end {α : Type} (a : List α) (x : α) (j : Nat) (d : α) (h : j = a.length) : (a ++ [x]).getD j d = x := by
  subst h
  simp [List.getD]

theorem Kids.snoc {w w' : World} {base : Nat} {v : Value} {vs : List Value} {xss : List (List Int)} {gl c g1 H : Nat} {ys : List Int} (h : Kids w base v.ownBlock vs xss)
    (hl : w.ownsRow base 3 1 (.slice (some ⟨gl, 0, none⟩) ys.length c) ys.length (ys.map (Value.int .i64))) (hk : ∀ i, i < xss.length → ∀ g, (vs.getD i undef).ownBlock = some g → g < gl) (ho : v.ownBlock ≠ some gl)
    (hg : w.grownBy w' v.ownBlock) (hat : v.ownBlock = some g1 ∨ g1 = H) (hH : w.heap.size ≤ H) :
    Kids w' base (some g1) (vs ++ [.slice (some ⟨gl, 0, none⟩) ys.length c]) (xss ++ [ys]) := by
  have hlen := h.len
  have hgl := (hl.lt gl rfl).2
  have hkg := h.grown hg (fun i hi g hgi e => h.out i hi g hgi e)
  refine ⟨by simp [hlen], fun i hi => ?_, fun i j hij hj g hgi => ?_, fun i hi g hgi => ?_⟩
  · by_cases e : i < xss.length
    · rw [getD_lt xss _ _ _ e, getD_lt vs _ _ _ (by omega)]
      exact hkg.row i e
    · have e2 : i = xss.length := by simp at hi; omega
      rw [getD_end xss _ _ _ e2, getD_end vs _ _ _ (by omega)]
      refine ⟨some ⟨gl, 0, none⟩, c, rfl, hl.kept hg (Or.inr ?_)⟩
      intro e3
      exact ho (e3 ▸ rfl)
  · by_cases ej : j < xss.length
    · rw [getD_lt vs _ _ _ (by omega)] at hgi ⊢
      exact h.apart i j hij ej g hgi
    · have e2 : j = xss.length := by simp at hj; omega
      rw [getD_lt vs _ _ _ (by omega)] at hgi
      rw [getD_end vs _ _ _ (by omega)]
      have := hk i (by omega) g hgi
      intro e3
      have e4 : gl = g := by simpa [Value.ownBlock] using e3
      omega
  · by_cases e : i < xss.length
    · rw [getD_lt vs _ _ _ (by omega)] at hgi
      have h1 := h.out i e g hgi
      have h2 := (h.lt e hgi).2
      rcases hat with hat | hat
      · rw [hat] at h1; exact h1
      · intro e3
        have : g1 = g := by simpa using e3
        omega
    · have e2 : i = xss.length := by simp at hi; omega
      rw [getD_end vs _ _ _ (by omega)] at hgi
      have e4 : gl = g := by simpa [Value.ownBlock] using hgi
      rcases hat with hat | hat
      · rw [hat] at ho
        intro e3
        have : g1 = g := by simpa using e3
        exact ho (by rw [this, e4])
      · intro e3
        have : g1 = g := by simpa using e3
        omega

/-- the rows of the table behind f steps forward -/
def rowsAt (m f n : Nat) : List (List Int) := (List.range n).map fun u => tab m (fun r => (ways u f r : Int))
theorem rowsAt_len (m f n : Nat) : (rowsAt m f n).length = n := by simp [rowsAt]
theorem rowsAt_get {m f n u : Nat} (h : u < n) : (rowsAt m f n).getD u [] = tab m (fun r => (ways u f r : Int)) := by simp [rowsAt, List.getD, h]
theorem rowsAt_succ (m f n : Nat) : rowsAt m f (n + 1) = rowsAt m f n ++ [tab m (fun r => (ways n f r : Int))] := by
  unfold rowsAt
  rw [List.range_succ, List.map_append]
  rfl
/-- the first r numbers of a row -/
def upto (u f r x : Nat) : Int := if x < r then (ways u f x : Int) else 0
theorem upto_zero (u f m : Nat) : tab m (upto u f 0) = List.replicate m 0 := by
  rw [← tab_zero]
  exact tab_congr fun r _ => if_neg (by omega)
theorem upto_set {u f r m : Nat} (h : r < m) : (tab m (upto u f r)).set r (ways u f r) = tab m (upto u f (r + 1)) := by
  refine tab_set h (if_pos (by omega)) fun x _ hne => ?_
  unfold upto
  by_cases h : x < r
  · rw [if_pos h, if_pos (by omega)]
  · rw [if_neg h, if_neg (by omega)]
theorem upto_at {u f r m : Nat} (h : r < m) : (tab m (upto u f r)).getD r 0 = 0 := by
  rw [tab_get h]
  exact if_neg (by omega)
theorem upto_all (u f m : Nat) : tab m (upto u f m) = tab m (fun r => (ways u f r : Int)) := tab_congr fun r hr => if_pos hr
theorem first_row (u m : Nat) (h : 0 < m) : (List.replicate m (0 : Int)).set 0 1 = tab m (fun r => (ways u 0 r : Int)) := by
  rw [← tab_zero]
  refine tab_set h (by rw [ways_flat]; rfl) fun r _ hne => ?_
  rw [ways_flat, if_neg hne]
  rfl

theorem ways_a {u k r : Nat} (h : u = 0) : ways u (k + 1) r = ways u k (r - u) := by
  subst h
  rw [ways_down, ways_down, Nat.sub_zero]
theorem ways_b {u k r : Nat} (h : 0 < u) (h2 : r < u) : ways u (k + 1) r = ways (u - 1) (k + 1) r := by
  obtain ⟨v, rfl⟩ : ∃ v, u = v + 1 := ⟨u - 1, by omega⟩
  rw [ways_both, if_neg (by omega)]
  rfl
theorem ways_c {u k r : Nat} (h : 0 < u) (h2 : u ≤ r) : ways u (k + 1) r = ways u k (r - u) + ways (u - 1) (k + 1) r := by
  obtain ⟨v, rfl⟩ : ∃ v, u = v + 1 := ⟨u - 1, by omega⟩
  rw [ways_both, if_pos h2, Nat.add_comm]
  rfl

end Go.Proofs.Ytodocfanaplmpaa
