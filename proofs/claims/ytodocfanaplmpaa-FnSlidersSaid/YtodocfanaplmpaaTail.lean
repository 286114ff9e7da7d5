
/-
  A law for a region that draws its order: all its operations but the last are quiet in a class of worlds, and the last one waits for all of them. Plain, no condition.
-/
import Derived.Test.YtodocfanaplmpaaMem
namespace Go.Proofs.Ytodocfanaplmpaa
open Go.ChangeShapes Go.WideShapes Go.ChangeAt Go.RowKit Go.Deep
set_option linter.unusedVariables false

/-- an operation that does nothing, in another's place -/
def idle (o : Oper) : Oper := { o with op := .move (.const undef) }

section
variable {P : Program} {md : Region.Mode} {ops : Array Oper} {n : Nat} {o : Oper} {C : World → Prop}

theorem at_idle (ho : ops[n]? = some o) (i : Nat) : (ops.setIfInBounds n (idle o))[i]? = if i = n then some (idle o) else ops[i]? := by
  have hn : n < ops.size := (Array.getElem?_eq_some_iff.1 ho).1
  rw [Array.getElem?_setIfInBounds]
  by_cases e : i = n
  · subst e; rw [if_pos rfl, if_pos hn, if_pos rfl]
  · rw [if_neg (fun h => e h.symm), if_neg e]
theorem ready_idle (ho : ops[n]? = some o) (listed : Array Bool) : Region.ready md (ops.setIfInBounds n (idle o)) listed = Region.ready md ops listed := by
  unfold Region.ready
  rw [Array.size_setIfInBounds]
  refine List.filter_congr (fun i _ => ?_)
  rw [at_idle ho]
  by_cases e : i = n
  · subst e; rw [if_pos rfl, ho]; rfl
  · rw [if_neg e]
theorem yielded_idle (ho : ops[n]? = some o) (t : Array Value) : yielded (ops.setIfInBounds n (idle o)) t = yielded ops t := by
  funext j
  unfold yielded
  rw [at_idle ho]
  by_cases e : j = n
  · subst e; rw [if_pos rfl, ho]; rfl
  · rw [if_neg e]

theorem ready_some (hback : ∀ (i : Nat) oi, ops[i]? = some oi → ∀ e ∈ oi.after, e.on < i) {listed : Array Bool} (hs : listed.size = ops.size) : ∀ (m k : Nat), k ≤ m → k < ops.size → listed.getD k true = false → ∃ j, j ∈ Region.ready md ops listed := by
  intro m
  induction m with
  | zero =>
    intro k hk hlt hl
    obtain rfl : k = 0 := by omega
    refine ⟨0, mem_ready.2 ⟨hl, ops[0], by simp, fun e he _ => ?_⟩⟩
    exact absurd (hback 0 _ (by simp) e he) (by omega)
  | succ m ih =>
    intro k hk hlt hl
    by_cases hall : ∀ e ∈ (ops[k]).after, Region.binds md e = true → listed.getD e.on false = true
    · exact ⟨k, mem_ready.2 ⟨hl, ops[k], by simp, hall⟩⟩
    · obtain ⟨e, he⟩ := Classical.not_forall.1 hall
      obtain ⟨hmem, he2⟩ := Classical.not_imp.1 he
      obtain ⟨_, hun⟩ := Classical.not_imp.1 he2
      have hlt2 := hback k _ (by simp) e hmem
      have hsz : e.on < listed.size := by omega
      refine ih e.on (by omega) (by omega) ?_
      simp only [Array.getD, hsz, dif_pos] at hun ⊢
      simpa using hun

theorem put_none (hd : o.dst = none) (a : Act) (v : Value) : a.put o.dst v = a := by rw [hd]; rfl

theorem wpAny_of_last {Q : Exit → Act → World → Prop} (ho : ops[n]? = some o) (hg : o.guard = none) (hd : o.dst = none) (hn : ops.size = n + 1)
    (hback : ∀ (i : Nat) oi, ops[i]? = some oi → ∀ e ∈ oi.after, e.on < i) (hlast : ∀ j, j < n → ∃ e ∈ o.after, Region.binds md e = true ∧ e.on = j) :
    ∀ (fuel : Nat) (listed : Array Bool) (a : Act) (w : World), C w → listed.size = n + 1 → listed.getD n true = false →
      wpAnyQ P md (ops.setIfInBounds n (idle o)) C (fun a => ∀ w, C w → wpList P ops Q [o] a w) fuel listed a → wpAny P md ops Q fuel listed a w := by
  intro fuel
  induction fuel with
  | zero =>
    intro listed a w hC hs hl h
    obtain ⟨j, hj⟩ := ready_some (md := md) hback (by omega) n n (Nat.le_refl _) (by omega) hl
    have h1 := h.1
    rw [ready_idle ho] at h1
    rw [h1] at hj
    exact absurd hj (by simp)
  | succ fuel ih =>
    intro listed a w hC hs hl h
    obtain ⟨j, hj⟩ := ready_some (md := md) hback (by omega) n n (Nat.le_refl _) (by omega) hl
    refine ⟨fun h0 => absurd hj (by rw [h0]; simp), fun i hi => ?_⟩
    have h2 := h.2 i (by rw [ready_idle ho]; exact hi)
    by_cases e : i = n
    · subst e
      obtain ⟨_, o', ho', hbound⟩ := mem_ready.1 hi
      rw [ho] at ho'
      obtain rfl : o = o' := by simpa using ho'
      have hdone : ∀ m, Region.ready md ops (listed.setIfInBounds i true) = m → m = [] := by
        intro m hm
        cases m with
        | nil => rfl
        | cons x m =>
          exfalso
          have hx : x ∈ Region.ready md ops (listed.setIfInBounds i true) := by rw [hm]; simp
          obtain ⟨hx0, ox, hox, _⟩ := mem_ready.1 hx
          have hxs : x < i + 1 := by rw [← hn]; exact (Array.getElem?_eq_some_iff.1 hox).1
          by_cases ex : x = i
          · subst ex
            simp [Array.getD, hs] at hx0
          · rw [getD_set_ne true (fun e => ex e.symm)] at hx0
            obtain ⟨e, he, hb, heq⟩ := hlast x (by omega)
            have h5 := hbound e he hb
            rw [heq] at h5
            have hxl : x < listed.size := by omega
            simp only [Array.getD, hxl, dif_pos] at h5 hx0
            rw [hx0] at h5
            exact absurd h5 (by decide)
      have hd0 := hdone _ rfl
      unfold qOp at h2
      rw [at_idle ho, if_pos rfl] at h2
      have hwi : ∀ x y, Region.wanted (idle o) (yielded x y) = true := fun x y => by simp [Region.wanted, idle, hg]
      simp only [hwi, if_true] at h2
      obtain ⟨v, _, h3⟩ := h2
      have h4 : a.put (idle o).dst v = a := put_none (o := idle o) hd a v
      rw [h4] at h3
      have hQ : ∀ w, C w → wpList P ops Q [o] a w := by
        cases fuel with
        | zero => exact h3.2
        | succ fuel => exact h3.1 (by rw [ready_idle ho]; exact hd0)
      unfold wpOp
      rw [ho]
      have hwo : ∀ x y, Region.wanted o (yielded x y) = true := fun x y => by simp [Region.wanted, hg]
      have h6 := hQ w hC
      unfold wpList at h6
      simp only [hwo, if_true] at h6 ⊢
      refine h6.imp (Oper.wp_mono (fun a' w' hq => ?_)) id
      cases fuel with
      | zero => exact ⟨hd0, hq⟩
      | succ fuel => exact ⟨fun _ => hq, fun i hi => by rw [hd0] at hi; exact absurd hi (by simp)⟩
    · have hq : qOp P ops C i (wpAnyQ P md (ops.setIfInBounds n (idle o)) C (fun a => ∀ w, C w → wpList P ops Q [o] a w) fuel (listed.setIfInBounds i true)) a := by
        unfold qOp at h2 ⊢
        rw [at_idle ho, if_neg e, yielded_idle ho] at h2
        exact h2
      refine wpOp_of_qOp hC (fun a' w' hw' hh => ih _ a' w' hw' (by simpa using hs) ?_ hh) hq
      rw [getD_set_ne true e]
      exact hl

def backB (ops : Array Oper) : Bool := (List.range ops.size).all fun i => match ops[i]? with | some oi => oi.after.all fun e => decide (e.on < i) | none => true
theorem backB_spec (h : backB ops = true) : ∀ (i : Nat) oi, ops[i]? = some oi → ∀ e ∈ oi.after, e.on < i := by
  intro i oi hi e he
  have hlt : i < ops.size := (Array.getElem?_eq_some_iff.1 hi).1
  have h1 := List.all_eq_true.1 h i (List.mem_range.2 hlt)
  rw [hi] at h1
  have h2 := Array.all_eq_true_iff_forall_mem.1 h1 e he
  simpa using h2
def lastB (md : Region.Mode) (o : Oper) (n : Nat) : Bool := (List.range n).all fun j => o.after.any fun e => Region.binds md e && e.on == j
theorem lastB_spec (h : lastB md o n = true) : ∀ j, j < n → ∃ e ∈ o.after, Region.binds md e = true ∧ e.on = j := by
  intro j hj
  have h1 := List.all_eq_true.1 h j (List.mem_range.2 hj)
  obtain ⟨e, he, hb⟩ := Array.any_eq_true'.1 h1
  simp only [Bool.and_eq_true, beq_iff_eq] at hb
  exact ⟨e, he, hb.1, hb.2⟩

/-- the region: one walk in the order of the text; the last operation in every world of the class -/
theorem wp_region_last {id : Nat} {Q : Exit → Act → World → Prop} {a : Act} {w : World} {l l' : List Oper} (n : Nat) (o : Oper) (hm : P.follows .mixedOrders = true) (ho : l.toArray[n]? = some o) (hl' : l' = l.set n (idle o))
    (hg : o.guard = none) (hd : o.dst = none) (hn : l.length = n + 1) (hb : backB l.toArray = true) (hlast : lastB .any o n = true) (hB : Region.lexB .any l'.toArray = true) (hC : C w.drew)
    (h : wpQuiet P l'.toArray C (fun a => ∀ w, C w → wpList P l.toArray Q [o] a w) l' a) : (Code.region id l.toArray true).wp P Q a w := by
  subst hl'
  simp only [Region.lexB, Bool.and_eq_true] at hB
  refine wp_region_any hm ?_
  have hset : (l.set n (idle o)).toArray = l.toArray.setIfInBounds n (idle o) := by simp
  have hq := wpAnyQ_lex (P := P) (C := C) (md := .any) hB.1 (l.set n (idle o)) 0 (Array.replicate (l.set n (idle o)).toArray.size false) a (by simp) (by simpa using hB.2) h
  rw [hset] at hq
  have hlen : (l.set n (idle o)).length = l.toArray.size := by simp
  have := wpAny_of_last (P := P) (md := .any) (C := C) (Q := Q) ho hg hd (by simpa using hn) (backB_spec hb) (lastB_spec hlast) l.toArray.size (Array.replicate l.toArray.size false) a w.drew hC (by simpa using hn) (by simp [Array.getD, hn]) (by
    rw [hlen] at hq
    simpa using hq)
  exact this
/-- the same, where what is called lets all lie that lay in w -/
theorem wp_region_in_last {id : Nat} {Q : Exit → Act → World → Prop} {a : Act} {w : World} {l l' : List Oper} (n : Nat) (o : Oper) (hm : P.follows .mixedOrders = true) (ho : l.toArray[n]? = some o) (hl' : l' = l.set n (idle o))
    (hg : o.guard = none) (hd : o.dst = none) (hn : l.length = n + 1) (hb : backB l.toArray = true) (hlast : lastB .any o n = true) (hB : Region.lexB .any l'.toArray = true)
    (h : wpQuiet P l'.toArray (fun w' => ∃ u : InW w, w' = u.val) (fun a => ∀ w', (∃ u : InW w, w' = u.val) → wpList P l.toArray Q [o] a w') l' a) : (Code.region id l.toArray true).wp P Q a w :=
  wp_region_last n o hm ho hl' hg hd hn hb hlast hB ⟨⟨w.drew, (Below.refl _ _).drew⟩, rfl⟩ h
end

end Go.Proofs.Ytodocfanaplmpaa
