
/-
  Plain laws of the counts of strips: how many are above a strip, and the table of rooms; no condition.
-/
import Derived.Test.YtpeopfkechbelaaWaysP
import Derived.Test.YtpeopfkechbelaaRoomTP
import Derived.Test.YtpeopfkechbelaaRep
namespace Go.Proofs.Ytpeopfkechbelaa
open Go.ChangeShapes Go.WideShapes Go.ChangeAt Go.RowKit Go.Deep
set_option linter.unusedVariables false
set_option linter.unusedSimpArgs false

theorem rowF_mono {l m : List UInt8} (d n : Nat) (h : ∀ k, k ≤ n → fw (l.take k) ≤ fw (m.take k)) : ∀ k, k ≤ n → ∀ x, rowF m d k x ≤ rowF l d k x := by
  intro k
  induction k with
  | zero => intro _ x; exact Int.le_refl _
  | succ k ih =>
    intro hk x
    have a := ih (by omega) x
    have b := ih (by omega) (x - 1)
    have c := h (k + 1) hk
    have e := (rowF_small l d k x).1
    have e2 := (rowF_small l d k (x - 1)).1
    by_cases p : fw (m.take (k + 1)) ≤ x ∧ k + 1 ≤ d + x
    · rw [rowF_yes p.1 p.2, rowF_yes (l := l) (by omega) p.2]
      by_cases z : x = 0
      · rw [if_pos z, if_pos z]; omega
      · rw [if_neg z, if_neg z]; omega
    · rw [rowF_no p]
      exact (rowF_small l d (k + 1) x).1

/-- a path that is nowhere below l -/
structure PathOn (l : List UInt8) (d n : Nat) (X : Nat → Nat) : Prop where
  zero : X 0 = 0
  step : ∀ k, k < n → X (k + 1) = X k ∨ X (k + 1) = X k + 1
  above : ∀ k, k ≤ n → fw (l.take k) ≤ X k
  down : ∀ k, k ≤ n → k ≤ d + X k

theorem rowF_path {l : List UInt8} {d n : Nat} {X : Nat → Nat} (h : PathOn l d n X) : ∀ k, k ≤ n → 1 ≤ rowF l d k (X k) := by
  intro k
  induction k with
  | zero => intro _; rw [h.zero]; exact Int.le_refl _
  | succ k ih =>
    intro hk
    have a := ih (by omega)
    rw [rowF_yes (h.above _ hk) (h.down _ hk)]
    have e := (rowF_small l d k (X (k + 1))).1
    have e2 := (rowF_small l d k (X (k + 1) - 1)).1
    rcases h.step k (by omega) with s | s
    · rw [s] at e e2 ⊢
      by_cases z : X k = 0
      · rw [if_pos z]; omega
      · rw [if_neg z]; omega
    · rw [s, Nat.add_sub_cancel, if_neg (by omega)]
      rw [s] at e
      omega
theorem rowF_two {l : List UInt8} {d n : Nat} {X Y : Nat → Nat} (hx : PathOn l d n X) (hy : PathOn l d n Y) (hle : ∀ k, k ≤ n → Y k ≤ X k) : ∀ k, k ≤ n → X k = Y k → (∃ j, j < k ∧ X j ≠ Y j) → 2 ≤ rowF l d k (X k) := by
  intro k
  induction k with
  | zero => rintro _ _ ⟨j, hj, _⟩; omega
  | succ k ih =>
    rintro hk he ⟨j, hj, hne⟩
    rw [rowF_yes (hx.above _ hk) (hx.down _ hk)]
    have e := (rowF_small l d k (X (k + 1))).1
    have e2 := (rowF_small l d k (X (k + 1) - 1)).1
    by_cases q : X k = Y k
    · have hj2 : j < k := by
        have : j ≠ k := fun e => hne (by rw [e]; exact q)
        omega
      have a := ih (by omega) q ⟨j, hj2, hne⟩
      rcases hx.step k (by omega) with s | s
      · rw [s] at e e2 ⊢
        by_cases z : X k = 0
        · rw [if_pos z]; omega
        · rw [if_neg z]; omega
      · rw [s, Nat.add_sub_cancel, if_neg (by omega)]
        rw [s] at e
        omega
    · have a := rowF_path hx k (by omega)
      have b := rowF_path hy k (by omega)
      have c := hle k (by omega)
      have s := hx.step k (by omega)
      have t := hy.step k (by omega)
      have e3 : X (k + 1) = X k := by omega
      have e4 : X (k + 1) - 1 = Y k := by omega
      rw [if_neg (by omega), e4, e3]
      omega
theorem rowF_strict {l m : List UInt8} {d n : Nat} {X : Nat → Nat} (hx : PathOn l d n X) (h : ∀ k, k ≤ n → fw (l.take k) ≤ fw (m.take k)) : ∀ k, k ≤ n → (∃ j, j ≤ k ∧ X j < fw (m.take j)) → rowF m d k (X k) + 1 ≤ rowF l d k (X k) := by
  intro k
  induction k with
  | zero =>
    rintro _ ⟨j, hj, hne⟩
    obtain rfl : j = 0 := by omega
    simp [fw] at hne
  | succ k ih =>
    rintro hk ⟨j, hj, hne⟩
    have a := rowF_path hx (k + 1) hk
    by_cases p : fw (m.take (k + 1)) ≤ X (k + 1) ∧ k + 1 ≤ d + X (k + 1)
    · have hj2 : j ≤ k := by
        have : j ≠ k + 1 := fun e => by rw [e] at hne; omega
        omega
      have b := ih (by omega) ⟨j, hj2, hne⟩
      rw [rowF_yes p.1 p.2, rowF_yes (hx.above _ hk) (hx.down _ hk)]
      have m1 := rowF_mono d n h k (by omega) (X (k + 1))
      have m2 := rowF_mono d n h k (by omega) (X (k + 1) - 1)
      rcases hx.step k (by omega) with s | s
      · rw [s] at m1 m2 ⊢
        by_cases z : X k = 0
        · rw [if_pos z, if_pos z]; omega
        · rw [if_neg z, if_neg z]; omega
      · rw [s, Nat.add_sub_cancel] at m2
        rw [s, Nat.add_sub_cancel, if_neg (by omega), if_neg (by omega)]
        rw [s] at m1
        omega
    · rw [rowF_no p]
      omega

/-- the letters f among the first -/
def cf (l : List UInt8) (k : Nat) : Nat := fw (l.take k)
theorem cf_step (l : List UInt8) (k : Nat) (hk : k < l.length) : cf l (k + 1) = cf l k ∨ cf l (k + 1) = cf l k + 1 := by
  unfold cf
  rw [fw_take l k hk]
  by_cases a : at_ l k = 102
  · rw [if_pos a]; exact .inr rfl
  · rw [if_neg a]; exact .inl rfl
theorem cf_in {l : List UInt8} (h : isStrip l = true) (k : Nat) (hk : k ≤ l.length) : k ≤ dn l + cf l k ∧ cf l k ≤ fw l ∧ cf l k ≤ k := by
  have a := strip_take h k hk
  have b : dn (l.take k) ≤ dn l := (List.take_sublist k l).count_le _
  have c : fw (l.take k) ≤ fw l := (List.take_sublist k l).count_le _
  unfold cf
  omega
theorem cf_inj {l m : List UInt8} (hl : isStrip l = true) (hm : isStrip m = true) (hlen : l.length = m.length) (h : ∀ k, k ≤ l.length → cf l k = cf m k) : l = m := by
  refine List.ext_getElem hlen fun j h1 h2 => ?_
  have e1 : l[j] = at_ l j := by simp [at_, List.getD, h1]
  have e2 : m[j] = at_ m j := by simp [at_, List.getD, h2]
  have a := h j (by omega)
  have b := h (j + 1) (by omega)
  unfold cf at a b
  rw [fw_take l j h1, fw_take m j h2] at b
  have key : ∀ {x : List UInt8}, isStrip x = true → ∀ {k : Nat}, k < x.length → at_ x k = 100 ∨ at_ x k = 102 := by
    intro x hx k hk
    by_cases p : at_ x k = 100
    · exact .inl p
    · by_cases q : at_ x k = 102
      · exact .inr q
      · have := other_letter x k hk p q
        rw [hx] at this
        exact absurd this (by simp)
  rw [e1, e2]
  rcases key hl h1 with p | p <;> rcases key hm h2 with q | q
  · rw [p, q]
  · rw [if_neg (by rw [p]; decide), if_pos q] at b; omega
  · rw [if_pos p, if_neg (by rw [q]; decide)] at b; omega
  · rw [p, q]

def repF (n : Nat) : List UInt8 := List.replicate n 102
def flat (d f : Nat) : List UInt8 := rep d ++ repF f
def high (d f : Nat) : List UInt8 := repF f ++ rep d
theorem rep_counts (d : Nat) : dn (rep d) = d ∧ fw (rep d) = 0 := by
  unfold rep dn fw
  exact ⟨List.count_replicate_self, by simp [List.count_replicate]⟩
theorem repF_counts (f : Nat) : dn (repF f) = 0 ∧ fw (repF f) = f := by
  unfold repF dn fw
  exact ⟨by simp [List.count_replicate], List.count_replicate_self⟩
theorem flat_counts (d f : Nat) : dn (flat d f) = d ∧ fw (flat d f) = f ∧ (flat d f).length = d + f := by
  have a := rep_counts d
  have b := repF_counts f
  unfold flat
  rw [dn_app, fw_app, List.length_append, rep_len]
  exact ⟨by omega, by omega, by simp [repF]⟩
theorem high_counts (d f : Nat) : dn (high d f) = d ∧ fw (high d f) = f ∧ (high d f).length = d + f := by
  have a := rep_counts d
  have b := repF_counts f
  unfold high
  rw [dn_app, fw_app, List.length_append, rep_len]
  exact ⟨by omega, by omega, by simp [repF]; omega⟩
theorem strip_of {l : List UInt8} {d f : Nat} (h1 : dn l = d) (h2 : fw l = f) (h3 : l.length = d + f) (hd : 1 ≤ d ∧ d ≤ 8) (hf : 1 ≤ f ∧ f ≤ 8) : isStrip l = true := by
  simp only [isStrip, Bool.and_eq_true, decide_eq_true_eq, inB_iff]
  omega
theorem cf_flat (d f k : Nat) (hk : k ≤ d + f) : cf (flat d f) k = k - d := by
  unfold cf flat
  rw [List.take_append, fw_app, rep_len]
  have a : fw ((rep d).take k) = 0 := by
    have := (List.take_sublist k (rep d)).count_le 102
    have b := (rep_counts d).2
    unfold fw at b ⊢
    omega
  have b : (repF f).take (k - d) = repF (k - d) := by
    unfold repF
    rw [List.take_replicate]
    congr 1
    omega
  rw [a, b, (repF_counts _).2]
  omega
theorem cf_high (d f k : Nat) (hk : k ≤ d + f) : cf (high d f) k = min k f := by
  unfold cf high
  rw [List.take_append, fw_app]
  have a : fw ((rep d).take (k - (repF f).length)) = 0 := by
    have := (List.take_sublist (k - (repF f).length) (rep d)).count_le 102
    have b := (rep_counts d).2
    unfold fw at b ⊢
    omega
  have b : (repF f).take k = repF (min k f) := by
    unfold repF
    rw [List.take_replicate]
  rw [a, b, (repF_counts _).2]
  omega
theorem own_path {l : List UInt8} (h : isStrip l = true) {m : List UInt8} (hle : ∀ k, k ≤ l.length → cf m k ≤ cf l k) : PathOn m (dn l) l.length (cf l) :=
  ⟨by simp [cf, fw], fun k hk => cf_step l k hk, hle, fun k hk => (cf_in h k hk).1⟩

/-- what the law says of the strips above a strip -/
theorem above_law {l : List UInt8} {d f : Nat} (h1 : dn l = d) (h2 : fw l = f) (h3 : l.length = d + f) (hd : 1 ≤ d ∧ d ≤ 8) (hf : 1 ≤ f ∧ f ≤ 8) :
    1 ≤ countAbove l ∧ countAbove l ≤ countAbove (flat d f) ∧ (l ≠ flat d f → countAbove l < countAbove (flat d f)) ∧ (l ≠ high d f → 2 ≤ countAbove l) := by
  have hs := strip_of h1 h2 h3 hd hf
  obtain ⟨a1, a2, a3⟩ := flat_counts d f
  obtain ⟨b1, b2, b3⟩ := high_counts d f
  have hfl := strip_of a1 a2 a3 hd hf
  have hhi := strip_of b1 b2 b3 hd hf
  have e1 : countAbove l = rowF l d (d + f) f := by
    rw [show countAbove l = pathsAbove l from if_pos hs]
    unfold pathsAbove
    rw [h1, h2, h3]
  have e2 : countAbove (flat d f) = rowF (flat d f) d (d + f) f := by
    rw [show countAbove (flat d f) = pathsAbove (flat d f) from if_pos hfl]
    unfold pathsAbove
    rw [a1, a2, a3]
  have hlo : ∀ k, k ≤ d + f → cf (flat d f) k ≤ cf l k := fun k hk => by
    rw [cf_flat d f k hk]
    have := cf_in hs k (by omega)
    omega
  have hup : ∀ k, k ≤ d + f → cf l k ≤ cf (high d f) k := fun k hk => by
    rw [cf_high d f k hk]
    have := cf_in hs k (by omega)
    omega
  have p1 : PathOn l d (d + f) (cf l) := by
    have := own_path hs (m := l) (fun k _ => Nat.le_refl _)
    rw [h1, h3] at this
    exact this
  have p2 : PathOn (flat d f) d (d + f) (cf (flat d f)) := by
    have := own_path hfl (m := flat d f) (fun k _ => Nat.le_refl _)
    rw [a1, a3] at this
    exact this
  have p3 : PathOn l d (d + f) (cf (high d f)) := by
    have := own_path hhi (m := l) (fun k hk => hup k (by omega))
    rw [b1, b3] at this
    exact this
  have t1 : cf l (d + f) = f := by unfold cf; rw [← h3, List.take_length, h2]
  have t2 : cf (flat d f) (d + f) = f := by unfold cf; rw [← a3, List.take_length, a2]
  have t3 : cf (high d f) (d + f) = f := by unfold cf; rw [← b3, List.take_length, b2]
  rw [e1, e2]
  refine ⟨?_, rowF_mono d (d + f) hlo _ (Nat.le_refl _) _, fun hne => ?_, fun hne => ?_⟩
  · have := rowF_path p1 (d + f) (Nat.le_refl _)
    rw [t1] at this
    exact this
  · have hx : ∃ j, j ≤ d + f ∧ cf (flat d f) j < fw (l.take j) := by
      refine Classical.byContradiction fun hno => hne ?_
      refine cf_inj hs hfl (by omega) fun k hk => ?_
      have := hlo k (by omega)
      have h4 : ¬ cf (flat d f) k < cf l k := fun h => hno ⟨k, by omega, h⟩
      omega
    have := rowF_strict p2 hlo (d + f) (Nat.le_refl _) hx
    rw [t2] at this
    omega
  · have hx : ∃ j, j < d + f ∧ cf (high d f) j ≠ cf l j := by
      refine Classical.byContradiction fun hno => hne ?_
      refine cf_inj hs hhi (by omega) fun k hk => ?_
      by_cases e : k = d + f
      · rw [e, t1, t3]
      · exact Classical.byContradiction fun h => hno ⟨k, by omega, fun h' => h h'.symm⟩
    have := rowF_two p3 p1 hup (d + f) (Nat.le_refl _) (by rw [t1, t3]) hx
    rw [t3] at this
    exact this

/-- the same counts, by structure -/
def waysF : Nat → Nat → Nat → Nat → Nat
  | 0, _, _, r => if r = 0 then 1 else 0
  | _ + 1, 0, _, r => if r = 0 then 1 else 0
  | _ + 1, _ + 1, 0, r => if r = 0 then 1 else 0
  | n + 1, d + 1, f + 1, r => waysF n d (f + 1) r + if d + 1 ≤ r then waysF n (d + 1) f (r - (d + 1)) else 0
theorem waysF_is : ∀ (n d f r : Nat), d + f ≤ n → waysF n d f r = ways d f r := by
  intro n
  induction n with
  | zero =>
    intro d f r h
    obtain rfl : d = 0 := by omega
    rw [ways_down]
    rfl
  | succ n ih =>
    intro d f r h
    cases d with
    | zero => rw [ways_down]; rfl
    | succ d =>
      cases f with
      | zero => rw [ways_flat]; rfl
      | succ f =>
        rw [ways_both, ← ih d (f + 1) r (by omega), ← ih (d + 1) f (r - (d + 1)) (by omega)]
        rfl
def tableF (d f : Nat) : List Int := (List.range (d * f + 1)).map fun r : Nat => (waysF (d + f) d f r : Int)
theorem tableF_is (d f : Nat) : tableF d f = table d f := by
  unfold tableF table
  refine List.map_congr_left fun r _ => ?_
  rw [waysF_is _ _ _ _ (Nat.le_refl _)]

/-- what the law says of the table of rooms -/
def tableOk (d f : Nat) : Bool := decide ((tableF d f).reverse = tableF d f) && (((tableF d f).all fun z => decide (1 ≤ z)) && (decide ((tableF d f).sum = countAbove (flat d f)) && decide (countAbove (high d f) = 1)))
theorem tables_ok : ∀ d : Fin 6, ∀ f : Fin 6, 1 ≤ d.val → 1 ≤ f.val → tableOk d.val f.val = true := by
  decide +kernel
theorem table22 : (tableF 2 2).sum = 6 := by decide +kernel

end Go.Proofs.Ytpeopfkechbelaa
