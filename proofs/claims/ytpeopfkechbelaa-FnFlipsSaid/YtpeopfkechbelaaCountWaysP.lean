
/-
  Plain law of CountWays: the ways up, counted from below and level by level; no program in sight.
-/
import Derived.Test.YtpeopfkechbelaaAreaP
import Derived.Test.YtpeopfkechbelaaRaises
namespace Go.Proofs.Ytpeopfkechbelaa
open Go.ChangeShapes Go.WideShapes Go.ChangeAt Go.RowKit Go.Deep Go.BigFrame
set_option linter.unusedVariables false
set_option linter.unusedSimpArgs false

/-- the ways from s up to t, of n raises at most -/
def upF : Nat → List UInt8 → List UInt8 → Nat
  | 0, t, s => 1
  | n + 1, t, s => if s = t then 1 else (((List.range s.length).filter (up t s)).map fun k => upF n t (swp s k)).sum
def nUp (t s : List UInt8) : Nat := upF (gap t s) t s

theorem nUp_self (t : List UInt8) : nUp t t = 1 := by unfold nUp; rw [gap_self]; rfl
theorem nUp_step { t s : List UInt8} (ha : isAbove t s = true) (hne : s ≠ t) : nUp t s = (((List.range s.length).filter (up t s)).map fun k => nUp t (swp s k)).sum := by
  have hg : 0 < gap t s := by
    refine Nat.pos_of_ne_zero fun h => hne (gap_zero ha h)
  obtain ⟨n, hn⟩ : ∃ n, gap t s = n + 1 := ⟨gap t s - 1, by omega⟩
  unfold nUp
  rw [hn]
  show (if s = t then 1 else (((List.range s.length).filter (up t s)).map fun k => upF n t (swp s k)).sum) = _
  rw [if_neg hne]
  congr 1
  refine List.map_congr_left fun k hk => ?_
  have hu := (List.mem_filter.1 hk).2
  have := gap_up ha hu
  rw [show gap t (swp s k) = n by omega]

theorem sum_le_len (f : Nat → Nat) (b : Nat) : ∀ (ks : List Nat), (∀ k ∈ ks, f k ≤ b) → (ks.map f).sum ≤ ks.length * b := by
  intro ks
  induction ks with
  | nil => intro _; simp
  | cons k ks ih =>
    intro h
    have h1 := h k List.mem_cons_self
    have h2 := ih fun x hx => h x (List.mem_cons_of_mem _ hx)
    simp only [List.map_cons, List.sum_cons, List.length_cons]
    have : (ks.length + 1) * b = ks.length * b + b := Nat.succ_mul _ _
    omega
theorem le_sum_mem (f : Nat → Nat) : ∀ (ks : List Nat) (k : Nat), k ∈ ks → f k ≤ (ks.map f).sum := by
  intro ks
  induction ks with
  | nil => intro k h; exact absurd h (by simp)
  | cons x ks ih =>
    intro k h
    simp only [List.map_cons, List.sum_cons]
    rcases List.mem_cons.1 h with rfl | h
    · omega
    · have := ih k h; omega

theorem nUp_pos { t : List UInt8} : ∀ (n : Nat) (s : List UInt8), isAbove t s = true → gap t s ≤ n → 1 ≤ nUp t s := by
  intro n s ha hg
  refine way_ind (t := t) (Q := fun s => 1 ≤ nUp t s) (by rw [nUp_self]; exact Nat.le_refl _) ?_ n s ha hg
  intro s k ha hu ih
  by_cases e : s = t
  · rw [e, nUp_self]; exact Nat.le_refl _
  · rw [nUp_step ha e]
    have hk : k < s.length := by
      have := hu
      simp only [up, Bool.and_eq_true] at this
      exact (valley_parts this.1).2.2.1
    have := le_sum_mem (fun k => nUp t (swp s k)) ((List.range s.length).filter (up t s)) k (List.mem_filter.2 ⟨List.mem_range.2 hk, hu⟩)
    exact Nat.le_trans ih this
theorem nUp_le { t : List UInt8} : ∀ (n : Nat) (s : List UInt8), isAbove t s = true → gap t s ≤ n → nUp t s ≤ 8 ^ n := by
  intro n
  induction n with
  | zero =>
    intro s ha hg
    rw [gap_zero ha (by omega), nUp_self]
    exact Nat.le_refl _
  | succ n ih =>
    intro s ha hg
    by_cases e : s = t
    · rw [e, nUp_self]; exact Nat.one_le_pow _ _ (by decide)
    · rw [nUp_step ha e]
      have h1 := sum_le_len (fun k => nUp t (swp s k)) (8 ^ n) ((List.range s.length).filter (up t s)) (fun k hk => by
        have hu := (List.mem_filter.1 hk).2
        have g := gap_up ha hu
        simp only [up, Bool.and_eq_true] at hu
        exact ih _ hu.2 (by omega))
      have hs := (sameFrame_parts (isAbove_parts ha).1).2.1
      have h2 : ((List.range s.length).filter (up t s)).length ≤ 8 := by
        have e : ((List.range s.length).filter fun i => decide (at_ s i = 102)).length = fw s := by
          have := hP_all s
          unfold hP at this
          rwa [List.length_map] at this
        have m : ((List.range s.length).filter (up t s)).length ≤ ((List.range s.length).filter fun i => decide (at_ s i = 102)).length := by
          have key : ∀ ks : List Nat, (ks.filter (up t s)).length ≤ (ks.filter fun i => decide (at_ s i = 102)).length := by
            intro ks
            induction ks with
            | nil => exact Nat.le_refl _
            | cons k ks ih =>
              cases hu : up t s k with
              | true =>
                have hv : at_ s k = 102 := by
                  have := hu
                  simp only [up, Bool.and_eq_true] at this
                  exact (valley_parts this.1).2.2.2.2
                rw [List.filter_cons_of_pos hu, List.filter_cons_of_pos (by simp [hv])]
                simp only [List.length_cons]
                omega
              | false =>
                rw [List.filter_cons_of_neg (by rw [hu]; decide)]
                refine Nat.le_trans ih ?_
                rw [List.filter_cons]
                split
                · simp
                · exact Nat.le_refl _
          exact key _
        have := (isStrip_parts hs).2.2.2.2
        omega
      have h3 : ((List.range s.length).filter (up t s)).length * 8 ^ n ≤ 8 * 8 ^ n := Nat.mul_le_mul_right _ h2
      have h4 : 8 ^ (n + 1) = 8 * 8 ^ n := by rw [Nat.pow_succ, Nat.mul_comm]
      omega

/-- how many ways there are from s to t, 0 where t is not above s or too far -/
def countWays (s t : List UInt8) : Int := if isAbove t s = true ∧ gap t s ≤ 12 then (nUp t s : Int) else 0

end Go.Proofs.Ytpeopfkechbelaa
