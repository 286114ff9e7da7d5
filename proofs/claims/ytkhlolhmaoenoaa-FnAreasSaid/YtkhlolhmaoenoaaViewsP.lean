
/-
  Plain laws of the views of a strip: heights fall, heights and depths have the same sum, a strip can be read from its heights; no condition.
-/
import Derived.Test.YtkhlolhmaoenoaaFromH
import Derived.Test.YtkhlolhmaoenoaaAreaP
namespace Go.Proofs.Ytkhlolhmaoenoaa
open Go.ChangeShapes Go.WideShapes Go.ChangeAt Go.RowKit Go.Deep
set_option linter.unusedVariables false
set_option linter.unusedSimpArgs false

theorem hts_in (l : List UInt8) : ∀ z ∈ hts l, 0 ≤ z ∧ z ≤ (dn l : Int) := by
  induction l with
  | nil => intro z hz; simp [hts] at hz
  | cons c l ih =>
    intro z hz
    have e := dn_app [c] l
    rw [List.singleton_append] at e
    by_cases h : c = 102
    · subst h
      rw [hts_yes] at hz
      rcases List.mem_cons.1 hz with rfl | hz
      · omega
      · have := ih z hz; omega
    · rw [hts_no _ _ h] at hz
      have := ih z hz
      omega
theorem hts_mono (l : List UInt8) : ∀ i, i + 1 < (hts l).length → (hts l).getD (i + 1) 0 ≤ (hts l).getD i 0 := by
  induction l with
  | nil => intro i hi; simp [hts] at hi
  | cons c l ih =>
    intro i hi
    by_cases h : c = 102
    · subst h
      rw [hts_yes] at hi ⊢
      cases i with
      | zero =>
        rw [List.getD_cons_succ, List.getD_cons_zero]
        have h0 : 0 < (hts l).length := by simpa using hi
        have : (hts l).getD 0 0 ∈ hts l := by
          rw [List.getD_eq_getElem?_getD, List.getElem?_eq_getElem h0]
          exact List.getElem_mem _
        exact (hts_in l _ this).2
      | succ i =>
        rw [List.getD_cons_succ, List.getD_cons_succ]
        exact ih i (by simpa using hi)
    · rw [hts_no _ _ h] at hi ⊢
      exact ih i hi
theorem sum_add (zs : List Int) (n : Int) : (zs.map (· + n)).sum = zs.sum + (zs.length : Int) * n := by
  induction zs with
  | nil => simp
  | cons z zs ih =>
    simp only [List.map_cons, List.sum_cons, ih, List.length_cons, Int.natCast_add, Int.add_mul]
    omega
theorem dP_sum (l : List UInt8) : ∀ j, j ≤ l.length → (dP l j).sum = (hts (l.take j)).sum := by
  intro j
  induction j with
  | zero => intro _; rfl
  | succ j ih =>
    intro hj
    rw [take_at l j (by omega), hts_app, List.sum_append, sum_add, hts_len]
    have e : (hts [at_ l j]).sum = 0 := by
      by_cases a : at_ l j = 102
      · rw [a, hts_yes]; rfl
      · rw [hts_no _ _ a]; rfl
    rw [e, ← ih (by omega), dn_one]
    by_cases a : at_ l j = 100
    · rw [dP_yes a, if_pos a, List.sum_append]
      simp
    · rw [dP_no a, if_neg a]
      simp
theorem fromH_more (u : Nat) (out : List UInt8) (zs : List Int) (h : ∀ z ∈ zs, z ≤ (u : Int)) : fromH (u + 1) out zs = fromH u (out ++ [100]) zs := by
  have hr : ∀ n, rep (n + 1) = [100] ++ rep n := fun n => rfl
  cases zs with
  | nil =>
    show out ++ rep (u + 1) = (out ++ [100]) ++ rep u
    rw [hr, List.append_assoc]
  | cons z zs =>
    have hz := h z List.mem_cons_self
    show (if _ then _ else _) = (if _ then _ else _)
    by_cases a : 0 ≤ z
    · rw [if_pos ⟨a, by omega⟩, if_pos ⟨a, hz⟩]
      have : u + 1 - z.toNat = (u - z.toNat) + 1 := by omega
      rw [this, hr, ← List.append_assoc]
    · rw [if_neg (fun x => a x.1), if_neg (fun x => a x.1)]
theorem fromH_hts (l : List UInt8) : dn l + fw l = l.length → ∀ out, fromH (dn l) out (hts l) = out ++ l := by
  induction l with
  | nil => intro _ out; rfl
  | cons c l ih =>
    intro hl out
    have e := dn_app [c] l
    have e2 := fw_app [c] l
    rw [List.singleton_append] at e e2
    have hb := both_le l
    rw [dn_one] at e
    rw [fw_one] at e2
    rw [List.length_cons] at hl
    by_cases h : c = 102
    · subst h
      rw [if_neg (by decide)] at e
      rw [if_pos rfl] at e2
      rw [hts_yes, e, Nat.zero_add]
      show (if _ then _ else _) = _
      rw [if_pos ⟨by omega, by omega⟩, Int.toNat_natCast, Nat.sub_self, ih (by omega)]
      show (out ++ rep 0 ++ [102]) ++ l = _
      rw [show rep 0 = [] from rfl, List.append_nil, List.append_assoc, List.singleton_append]
    · rw [if_neg h] at e2
      have h1 : c = 100 := by
        by_cases a : c = 100
        · exact a
        · rw [if_neg a] at e; omega
      subst h1
      rw [if_pos rfl] at e
      rw [hts_no _ _ h, e, Nat.add_comm, fromH_more _ _ _ (fun z hz => (hts_in l z hz).2), ih (by omega), List.append_assoc, List.singleton_append]
theorem views_law {l : List UInt8} (h : isStrip l = true) : (heights l).length = fw l ∧ (depths l).length = dn l ∧ sumI (heights l) = roomOf l ∧ sumI (depths l) = roomOf l ∧ fromHeights (dn l) (heights l) = l ∧ (∀ i, i + 1 < (heights l).length → (heights l).getD (i + 1) 0 ≤ (heights l).getD i 0) := by
  have hp := isStrip_parts h
  have eh : heights l = hts l := (heights_yes h).trans (hts_all h)
  have ed : depths l = dP l l.length := depths_yes h
  have er : roomOf l = sumI (hts l) := by rw [← hts_all h]; exact if_pos h
  have hs := dP_sum l l.length (Nat.le_refl _)
  rw [List.take_length] at hs
  refine ⟨by rw [eh, hts_len], ?_, by rw [eh, er], by rw [ed, er]; exact hs, ?_, by rw [eh]; exact hts_mono l⟩
  · have g : ∀ j, j ≤ l.length → (dP l j).length = dn (l.take j) := by
      intro j
      induction j with
      | zero => intro _; rfl
      | succ j ih =>
        intro hj
        rw [dn_take l j (by omega)]
        by_cases a : at_ l j = 100
        · rw [dP_yes a, if_pos a, List.length_append, ih (by omega)]; rfl
        · rw [dP_no a, if_neg a, ih (by omega)]; rfl
    have := g l.length (Nat.le_refl _)
    rw [List.take_length] at this
    rw [ed, this]
  · unfold fromHeights
    rw [if_pos (andI (inB_iff.2 (by omega)) (inB_iff.2 (by rw [eh, hts_len]; omega))), eh, Int.toNat_natCast, fromH_hts l (by omega)]
    rfl

end Go.Proofs.Ytkhlolhmaoenoaa
