
/-
  Two laws more for regions that draw their order: the ghosts' values are known behind the region; and a region whose last operation waits for all the others. Plain, no condition.
-/
import Derived.Test.YtodocfanaplmpaaGhost
import Derived.Test.YtodocfanaplmpaaTail
namespace Go.Proofs.Ytodocfanaplmpaa
open Go.ChangeShapes Go.WideShapes Go.ChangeAt Go.RowKit Go.Deep Go.BigFrame
set_option linter.unusedVariables false
set_option linter.unusedSimpArgs false

section
variable {P : Program} {gs : List Ghost} {l : List Oper}
theorem ghost_simT {Q : Exit → Act → World → Prop} {aF : Act} {w0 : World} (hok : GOk gs l) (hback : ∀ (i : Nat) oi, l.toArray[i]? = some oi → ∀ e ∈ oi.after, e.on < i) (hmark : ∀ g ∈ gs, aF.tmps[g.d]? = some gmark)
    (hT : ∀ g ∈ gs, ∀ v w w', g.T v w → Below w.heap.size w w' → g.T v w')
    (hk : ∀ g ∈ gs, ∀ o, l[g.k]? = some o → ∀ a w, (∀ s, .tmp s ∈ o.op.operands → a.eval (.tmp s) = aF.eval (.tmp s)) → Below w0.heap.size w0 w →
      ∀ Q, o.wp P a w (fun a2 w2 => ∃ v, a2 = a.put o.dst v ∧ Below w.heap.size w w2 ∧ g.T v w2) Q)
    (hc : ∀ g ∈ gs, ∀ o, l[g.c]? = some o → ∀ a w, (∀ s, .tmp s ∈ o.op.operands → (∀ g' ∈ gs, g'.d ≠ s) → a.eval (.tmp s) = aF.eval (.tmp s)) → Below w0.heap.size w0 w → g.T (a.eval (.tmp g.d)) w →
      ∀ Q, o.wp P a w (fun a2 w2 => a2 = a.put o.dst g.u ∧ Below w.heap.size w w2) Q)
    (hQ : ∀ (v : Nat → Value) w', Below w0.heap.size w0 w' → (∀ g ∈ gs, g.T (v g.d) w') → Q .normal (putsG gs v aF) w') :
    ∀ (fuel : Nat) (listed : Array Bool) (a a' : Act) (w : World),
      (∀ C, UpC C → (∀ w', C w' → Below w0.heap.size w0 w') → wpAnyQ P .any (virts gs l).toArray (Cls C) (fun x => x = aF) fuel listed a') →
      listed.size = l.length → Agree gs a a' → Below w0.heap.size w0 w → (∀ g ∈ gs, listed.getD g.k false = true → g.T (a.eval (.tmp g.d)) w) → wpAny P .any l.toArray Q fuel listed a w := by
  have hUp0 : ∀ w : World, UpC (fun w' => Below w.heap.size w w') := fun w => ⟨⟨⟨w, Below.refl _ _⟩⟩, fun x y hx hy => below_thru hx hy⟩
  have hall : ∀ (listed : Array Bool), listed.size = l.length → Region.ready .any l.toArray listed = [] → ∀ g ∈ gs, listed.getD g.k false = true := by
    intro listed hsz hr g hg
    obtain ⟨og, hog⟩ := hok.has g hg
    have hlt : g.k < l.length := (List.getElem?_eq_some_iff.1 hog).1
    refine Classical.byContradiction fun hno => ?_
    obtain ⟨j, hj⟩ := ready_some (md := .any) hback (by simpa using hsz) g.k g.k (Nat.le_refl _) (by simpa using hlt) (by
      have hl2 : g.k < listed.size := by omega
      simp only [Array.getD, hl2, dif_pos] at hno ⊢
      simpa using hno)
    rw [hr] at hj
    exact absurd hj (by simp)
  intro fuel
  induction fuel with
  | zero =>
    intro listed a a' w H hsz hag hbw hTg
    obtain ⟨h1, h2⟩ := H _ (hUp0 w0) (fun _ h => h)
    rw [ready_virts] at h1
    subst h2
    refine ⟨h1, ?_⟩
    rw [hag.puts]
    exact hQ _ _ hbw (fun g hg => hTg g hg (hall listed hsz h1 g hg))
  | succ fuel ih =>
    intro listed a a' w H hsz hag hbw hTg
    refine ⟨fun h0 => ?_, fun i hi => ?_⟩
    · have h2 := (H _ (hUp0 w0) (fun _ h => h)).1 (by rw [ready_virts]; exact h0)
      subst h2
      rw [hag.puts]
      exact hQ _ _ hbw (fun g hg => hTg g hg (hall listed hsz h0 g hg))
    obtain ⟨hun, o, ho, hallb⟩ := mem_ready.1 hi
    have hol : l[i]? = some o := by simpa using ho
    have ho' : (virts gs l).toArray[i]? = some { o with op := vop gs i o.op } := by rw [virts_at, ho]; rfl
    have hsub : ∀ w', Below w.heap.size w w' → Below w0.heap.size w0 w' := fun w' h => below_thru hbw h
    have step : ∀ C, UpC C → (∀ w', C w' → Below w0.heap.size w0 w') → ∃ v, YieldsIn P (virts gs l).toArray (Cls C) { o with op := vop gs i o.op } v a' ∧
        wpAnyQ P .any (virts gs l).toArray (Cls C) (fun x => x = aF) fuel (listed.setIfInBounds i true) (a'.put o.dst v) := fun C h1 h2 =>
      yieldsIn_of_qOp ho' ((H C h1 h2).2 i (by rw [ready_virts]; exact hi))
    obtain ⟨v0, hy0, hK0⟩ := step _ (hUp0 w) hsub
    have fin1 : ∀ s, o.dst = some s → ∀ C v, wpAnyQ P .any (virts gs l).toArray (Cls C) (fun x => x = aF) fuel (listed.setIfInBounds i true) (a'.put o.dst v) → (a'.put (some s) v).tmps[s]? = aF.tmps[s]? := by
      intro s hs C v h
      rw [hs] at h
      refine fin_slot s _ _ _ h fun j oj hj hd => ?_
      rw [virts_at] at hj
      cases hjl : l.toArray[j]? with
      | none => rw [hjl] at hj; simp at hj
      | some oj0 =>
        rw [hjl] at hj
        simp only [Option.map_some, Option.some.injEq] at hj
        subst hj
        have := hok.one i j o oj0 s hol (by simpa using hjl) hs hd
        subst this
        exact set_true _ _
    have Hn : ∀ C, UpC C → (∀ w', C w' → Below w0.heap.size w0 w') → wpAnyQ P .any (virts gs l).toArray (Cls C) (fun x => x = aF) fuel (listed.setIfInBounds i true) (a'.put o.dst v0) := by
      intro C h1 h2
      obtain ⟨v, _, hK⟩ := step C h1 h2
      cases hd : o.dst with
      | none => rw [hd] at hK; exact hK
      | some s =>
        have e := put_same ((fin1 s hd _ _ hK).trans (fin1 s hd _ _ hK0).symm)
        rw [hd] at hK
        rw [← e]
        exact hK
    have hwy : Region.wanted { o with op := vop gs i o.op } (yielded (virts gs l).toArray a'.tmps) = Region.wanted o (yielded l.toArray a'.tmps) := by rw [yielded_virts]; rfl
    have hslot : ∀ s, (∀ g ∈ gs, g.d ≠ s) → i ∈ marksOf gs → .tmp s ∈ o.op.operands → a.eval (.tmp s) = aF.eval (.tmp s) := by
      intro s hs hm hin
      rw [hag.eval (x := .tmp s) (fun g hg e => hs g hg (by simpa using e.symm))]
      have e := fin_slot s _ _ _ (H _ (hUp0 w0) (fun _ h => h)) (fun j oj hj hd => by
        rw [virts_at] at hj
        cases hjl : l.toArray[j]? with
        | none => rw [hjl] at hj; simp at hj
        | some oj0 =>
          rw [hjl] at hj
          simp only [Option.map_some, Option.some.injEq] at hj
          subst hj
          obtain ⟨e, he, hb, rfl⟩ := hok.args i o hol hm j oj0 s (by simpa using hjl) hd (List.mem_filterMap.2 ⟨.tmp s, by simpa using hin, rfl⟩)
          exact listed_true (hallb e he hb))
      simp only [Act.eval, Array.getD_eq_getD_getElem?, e]
    have next : (∀ g ∈ gs, i ≠ g.k) → ∀ w', Below w.heap.size w w' → wpAny P .any l.toArray Q fuel (listed.setIfInBounds i true) (a.put o.dst v0) w' := by
      intro hnk w' hb'
      refine ih _ _ _ _ Hn (by simpa using hsz) (hag.put _ _) (hsub _ hb') fun g hg hl => ?_
      rw [getD_set_ne false (hnk g hg)] at hl
      rw [Act.eval_put]
      · exact hT g hg _ _ _ (hTg g hg hl) hb'
      · intro d hd e
        obtain ⟨og, hog⟩ := hok.has g hg
        have e1 : g.d = d := by simpa using e
        exact hnk g hg (hok.one i g.k o og d hol hog hd (by rw [hok.dst g hg og hog, e1]))
    unfold wpOp
    rw [ho]
    by_cases hmk : ∃ g ∈ gs, i = g.k
    · obtain ⟨g, hg, rfl⟩ := hmk
      have hgd := hok.dst g hg o hol
      have hv := fin1 g.d hgd _ _ hK0
      rw [hmark g hg] at hv
      have hlt : g.d < a'.tmps.size := by
        refine Classical.byContradiction fun hno => ?_
        rw [Array.getElem?_eq_none (by simpa [Act.put] using Nat.le_of_not_lt hno)] at hv
        exact absurd hv (by simp)
      have hv0 : v0 = gmark := by simpa [Act.put, hlt] using hv
      have hlook := hok.look g.k o hol (fun g' hg' => hok.kc g hg g' hg')
      have hw : Region.wanted o (yielded l.toArray a.tmps) = true := by
        rw [hag.wanted (fun s hs => hlook s (look_guard hs))]
        rcases hy0 with ⟨h1, _⟩ | ⟨_, h2⟩
        · rw [← hwy]; exact h1
        · rw [hv0] at h2
          exact absurd h2 (by simp [gmark, undef])
      simp only [hw, if_true]
      refine .inl (Oper.wp_mono (fun a2 w2 h => ?_) (hk g hg o hol a w (fun s hs => hslot s (fun g' hg' => hlook s (look_op hs) g' hg') (List.mem_flatMap.2 ⟨g, hg, by simp⟩) hs) hbw Q))
      obtain ⟨v, rfl, hb2, hT2⟩ := h
      refine ih _ _ _ _ Hn (by simpa using hsz) (by rw [hgd]; exact hag.putG hg v v0) (hsub _ hb2) fun g' hg' hl => ?_
      by_cases e : g.k = g'.k
      · obtain rfl := Ghost.same hok.nod hg hg' e
        have hlt2 : g.d < a.tmps.size := by rw [hag.2.1]; exact hlt
        have e2 : (a.put o.dst v).eval (.tmp g.d) = v := by rw [hgd]; simp [Act.put, Act.eval, hlt2]
        rw [e2]
        exact hT2
      · rw [getD_set_ne false e] at hl
        rw [Act.eval_put]
        · exact hT g' hg' _ _ _ (hTg g' hg' hl) hb2
        · intro d hd e3
          obtain ⟨og, hog⟩ := hok.has g' hg'
          have e1 : g'.d = d := by simpa using e3
          exact e (hok.one g.k g'.k o og d hol hog hd (by rw [hok.dst g' hg' og hog, e1]))
    have hnk : ∀ g ∈ gs, i ≠ g.k := fun g hg e => hmk ⟨g, hg, e⟩
    by_cases hcs : ∃ g ∈ gs, i = g.c
    · obtain ⟨g, hg, rfl⟩ := hcs
      have hweq : Region.wanted o (yielded l.toArray a.tmps) = Region.wanted o (yielded l.toArray a'.tmps) := hag.wanted (hok.grd g hg o hol)
      by_cases hw : Region.wanted o (yielded l.toArray a.tmps) = true
      · simp only [hw, if_true]
        have hw' := hw
        rw [hweq, ← hwy] at hw'
        have hv0 : v0 = g.u := by
          rcases hy0 with ⟨_, h2⟩ | ⟨h1, _⟩
          · have h3 := h2 w (Cls.mk_ (Below.refl _ _))
            unfold Oper.quietAt at h3
            rw [run_move (P := P) (.const g.u) (vop_eater gs o.op g hg hok.nod)] at h3
            exact h3.2.symm
          · rw [hw'] at h1; exact absurd h1 (by decide)
        obtain ⟨e, he, hb, hek⟩ := hok.wait g hg o hol
        refine .inl (Oper.wp_mono (fun a2 w2 h => ?_) (hc g hg o hol a w (fun s hs hn => hslot s hn (List.mem_flatMap.2 ⟨g, hg, by simp⟩) hs) hbw (hTg g hg (by rw [← hek]; exact hallb e he hb)) Q))
        obtain ⟨rfl, hb2⟩ := h
        rw [← hv0]
        exact next hnk _ hb2
      · simp only [hw]
        have hv0 : v0 = undef := by
          rcases hy0 with ⟨h1, _⟩ | ⟨_, h2⟩
          · rw [hwy, ← hweq] at h1; exact absurd h1 hw
          · exact h2
        rw [← hv0]
        exact next hnk _ (Below.refl _ _)
    have hnc : ∀ g ∈ gs, i ≠ g.c := fun g hg e => hcs ⟨g, hg, e⟩
    have heq : { o with op := vop gs i o.op } = o := by rw [vop_other gs i o.op fun g hg => ⟨hnk g hg, hnc g hg⟩]
    rw [heq] at hy0 hwy
    have hlook := hok.look i o hol hnc
    have hweq : Region.wanted o (yielded l.toArray a.tmps) = Region.wanted o (yielded l.toArray a'.tmps) := hag.wanted (fun s hs => hlook s (look_guard hs))
    have hex := hag.exec (fun cs b => hok.nosel i o cs b ho) hlook
    by_cases hw : Region.wanted o (yielded l.toArray a.tmps) = true
    · simp only [hw, if_true]
      rcases hy0 with ⟨_, h2⟩ | ⟨h1, _⟩
      · refine .inl (Oper.wp_of_quiet (C := Cls fun w' => Below w.heap.size w w') (K := fun x => x = a.put o.dst v0) (Cls.mk_ (Below.refl _ _)) (fun x w' hw' hx => ?_) ⟨v0, fun w' hw' => ?_, rfl⟩)
        · subst hx
          exact next hnk _ hw'.out
        · have h3 := h2 w' hw'
          unfold Oper.quietAt at h3 ⊢
          rw [hex]
          exact h3
      · rw [hwy, ← hweq, hw] at h1; exact absurd h1 (by decide)
    · simp only [hw]
      have hv0 : v0 = undef := by
        rcases hy0 with ⟨h1, _⟩ | ⟨_, h2⟩
        · rw [hwy, ← hweq] at h1; exact absurd h1 hw
        · exact h2
      rw [← hv0]
      exact next hnk _ (Below.refl _ _)


/-- ghosts whose values are known behind the region -/
theorem wp_region_ghostT {Q : Exit → Act → World → Prop} {a : Act} {w : World} (aF : Act) {l' : List Oper} (hl' : l' = virts gs l) (hok : ghostB gs l = true) (hbk : backB l.toArray = true) (hB : Region.lexB .any l'.toArray = true)
    (hwalk : ∀ C : World → Prop, Nonempty (InC C) → (∀ w w', C w → Below w.heap.size w w' → C w') → (∀ w', C w' → Below w.heap.size w w') → wpQuiet P l'.toArray (fun w' => ∃ u : InC C, w' = u.val) (fun x => x = aF) l' a)
    (hmark : ∀ g ∈ gs, aF.tmps[g.d]? = some gmark)
    (hT : ∀ g ∈ gs, ∀ v w w', g.T v w → Below w.heap.size w w' → g.T v w')
    (hk : ∀ g ∈ gs, ∀ o, l[g.k]? = some o → ∀ a w1, (∀ s, .tmp s ∈ o.op.operands → a.eval (.tmp s) = aF.eval (.tmp s)) → Below w.heap.size w w1 →
      ∀ Q, o.wp P a w1 (fun a2 w2 => ∃ v, a2 = a.put o.dst v ∧ Below w1.heap.size w1 w2 ∧ g.T v w2) Q)
    (hc : ∀ g ∈ gs, ∀ o, l[g.c]? = some o → ∀ a w1, (∀ s, .tmp s ∈ o.op.operands → (∀ g' ∈ gs, g'.d ≠ s) → a.eval (.tmp s) = aF.eval (.tmp s)) → Below w.heap.size w w1 → g.T (a.eval (.tmp g.d)) w1 →
      ∀ Q, o.wp P a w1 (fun a2 w2 => a2 = a.put o.dst g.u ∧ Below w1.heap.size w1 w2) Q)
    (hQ : ∀ (v : Nat → Value) w', Below w.heap.size w w' → (∀ g ∈ gs, g.T (v g.d) w') → Q .normal (putsG gs v aF) w') :
    wpAny P .any l.toArray Q l.toArray.size (Array.replicate l.toArray.size false) a w.drew := by
  subst hl'
  simp only [Region.lexB, Bool.and_eq_true] at hB
  have hlen : (virts gs l).length = l.toArray.size := by simp [virts_length]
  refine ghost_simT (ghostB_spec hok) (backB_spec hbk) hmark hT hk hc hQ _ _ a a _ (fun C h1 h2 => ?_) (by simp) ⟨rfl, rfl, fun _ _ => rfl⟩ (Below.refl _ _).drew (fun g hg h => ?_)
  · have hq := wpAnyQ_lex (P := P) (C := Cls C) (md := .any) hB.1 (virts gs l) 0 (Array.replicate (virts gs l).toArray.size false) a (by simp) (by simpa using hB.2) (hwalk C h1.1 h1.2 h2)
    rw [hlen] at hq
    have e : (virts gs l).toArray.size = l.toArray.size := by simp [virts_length]
    rw [e] at hq
    exact hq
  · simp [Array.getD] at h

theorem wp_then {o : Oper} {a : Act} {w : World} {K K2 : Act → World → Prop} {Q : Exit → Act → World → Prop} (hh : o.wp P a w K (Exit.then K2 Q)) : o.wp P a w K Q := by
  unfold Oper.wp at *
  generalize (execOp a.eval o).run P w = r at *
  cases r with
  | ok n w' =>
    cases n <;> simp only [Oper.upon] at hh ⊢ <;>
      first
        | exact hh
        | exact Calls.mono hh (fun e w'' he => by cases e <;> exact he)
  | halt x w' => cases x <;> simp only [Oper.upon] at hh ⊢ <;> exact hh

theorem idle_wp {o : Oper} {a : Act} {w : World} {K : Act → World → Prop} {Q : Exit → Act → World → Prop} (hd : o.dst = none) (h : (idle o).wp P a w K Q ∨ ((idle o).asks P a w ∧ LetsOut Q)) : K a w := by
  have hr : (execOp a.eval (idle o)).run P w = .ok (.value undef) w := by simp [execOp, idle, Act.eval]
  rcases h with h | ⟨h, _⟩
  · unfold Oper.wp at h
    rw [hr, Oper.upon_value, put_none (o := idle o) hd] at h
    exact h
  · exfalso
    unfold Oper.asks at h
    have h1 : noRoomEvent ∈ (#[] : Array Event) := h.1
    simp at h1

/-- the last operation waits for all the others: the region without it, then it -/
theorem wpAny_of_last1 {md : Region.Mode} {ops : Array Oper} {n : Nat} {o : Oper} {Q : Exit → Act → World → Prop} (ho : ops[n]? = some o) (hg : o.guard = none) (hd : o.dst = none) (hn : ops.size = n + 1)
    (hback : ∀ (i : Nat) oi, ops[i]? = some oi → ∀ e ∈ oi.after, e.on < i) (hlast : ∀ j, j < n → ∃ e ∈ o.after, Region.binds md e = true ∧ e.on = j) :
    ∀ (fuel : Nat) (listed : Array Bool) (a : Act) (w : World), listed.size = n + 1 → listed.getD n true = false →
      wpAny P md (ops.setIfInBounds n (idle o)) (Exit.then (wpList P ops Q [o]) Q) fuel listed a w → wpAny P md ops Q fuel listed a w := by
  intro fuel
  induction fuel with
  | zero =>
    intro listed a w hs hl h
    obtain ⟨j, hj⟩ := ready_some (md := md) hback (by omega) n n (Nat.le_refl _) (by omega) hl
    have h1 := h.1
    rw [ready_idle ho] at h1
    rw [h1] at hj
    exact absurd hj (by simp)
  | succ fuel ih =>
    intro listed a w hs hl h
    obtain ⟨j, hj⟩ := ready_some (md := md) hback (by omega) n n (Nat.le_refl _) (by omega) hl
    refine ⟨fun h0 => absurd hj (by rw [h0]; simp), fun i hi => ?_⟩
    have h2 := h.2 i (by rw [ready_idle ho]; exact hi)
    by_cases e : i = n
    · subst e
      obtain ⟨_, o', ho', hbound⟩ := mem_ready.1 hi
      rw [ho] at ho'
      obtain rfl : o = o' := by simpa using ho'
      have hd0 : Region.ready md ops (listed.setIfInBounds i true) = [] := by
        cases hm : Region.ready md ops (listed.setIfInBounds i true) with
        | nil => rfl
        | cons x m =>
          exfalso
          have hx : x ∈ Region.ready md ops (listed.setIfInBounds i true) := by rw [hm]; simp
          obtain ⟨hx0, ox, hox, _⟩ := mem_ready.1 hx
          have hxs : x < i + 1 := by rw [← hn]; exact (Array.getElem?_eq_some_iff.1 hox).1
          by_cases ex : x = i
          · subst ex
            simp [Array.getD, hs] at hx0
          · rw [getD_set_ne true (fun e => ex e.symm)] at hx0
            obtain ⟨e, he, hb, heq⟩ := hlast x (by omega)
            have h5 := hbound e he hb
            rw [heq] at h5
            have hxl : x < listed.size := by omega
            simp only [Array.getD, hxl, dif_pos] at h5 hx0
            rw [hx0] at h5
            exact absurd h5 (by decide)
      unfold wpOp at h2
      rw [at_idle ho, if_pos rfl] at h2
      have hwi : ∀ x y, Region.wanted (idle o) (yielded x y) = true := fun x y => by simp [Region.wanted, idle, hg]
      simp only [hwi, if_true] at h2
      have h3 := idle_wp hd h2
      have hQ : wpList P ops Q [o] a w := by
        cases fuel with
        | zero => exact h3.2
        | succ fuel => exact h3.1 (by rw [ready_idle ho]; exact hd0)
      unfold wpOp
      rw [ho]
      have hwo : ∀ x y, Region.wanted o (yielded x y) = true := fun x y => by simp [Region.wanted, hg]
      have h6 := hQ
      unfold wpList at h6
      simp only [hwo, if_true] at h6 ⊢
      refine h6.imp (Oper.wp_mono (fun a' w' hq => ?_)) id
      cases fuel with
      | zero => exact ⟨hd0, hq⟩
      | succ fuel => exact ⟨fun _ => hq, fun i hi => by rw [hd0] at hi; exact absurd hi (by simp)⟩
    · unfold wpOp at h2 ⊢
      rw [at_idle ho, if_neg e] at h2
      have hnx : ∀ a w, wpAny P md (ops.setIfInBounds n (idle o)) (Exit.then (wpList P ops Q [o]) Q) fuel (listed.setIfInBounds i true) a w → wpAny P md ops Q fuel (listed.setIfInBounds i true) a w :=
        fun a w hh => ih _ _ _ (by simpa using hs) (by rw [getD_set_ne true e]; exact hl) hh
      split
      · rename_i hno
        rw [hno] at h2
        exact hnx _ _ h2
      · rename_i oi hoi
        rw [hoi, yielded_idle ho] at h2
        simp only at h2
        split
        · rename_i hw
          rw [if_pos hw] at h2
          exact h2.imp (fun x => Oper.wp_mono hnx (wp_then x)) id
        · rename_i hw
          rw [if_neg hw] at h2
          exact hnx _ _ h2

/-- ghosts, and a last operation that waits for all the others -/
theorem wp_region_ghost_last {id : Nat} {Q : Exit → Act → World → Prop} {a : Act} {w : World} (aF : Act) {l1 l' : List Oper} (n : Nat) (o : Oper) (hm : P.follows .mixedOrders = true) (ho : l.toArray[n]? = some o) (hl1 : l1 = l.set n (idle o)) (hl' : l' = virts gs l1)
    (hg : o.guard = none) (hd : o.dst = none) (hn : l.length = n + 1) (hb : backB l.toArray = true) (hb1 : backB l1.toArray = true) (hlast : lastB .any o n = true) (hok : ghostB gs l1 = true) (hB : Region.lexB .any l'.toArray = true)
    (hwalk : ∀ C : World → Prop, Nonempty (InC C) → (∀ w w', C w → Below w.heap.size w w' → C w') → (∀ w', C w' → Below w.heap.size w w') → wpQuiet P l'.toArray (fun w' => ∃ u : InC C, w' = u.val) (fun x => x = aF) l' a)
    (hmark : ∀ g ∈ gs, aF.tmps[g.d]? = some gmark)
    (hT : ∀ g ∈ gs, ∀ v w w', g.T v w → Below w.heap.size w w' → g.T v w')
    (hk : ∀ g ∈ gs, ∀ o, l1[g.k]? = some o → ∀ a w1, (∀ s, .tmp s ∈ o.op.operands → a.eval (.tmp s) = aF.eval (.tmp s)) → Below w.heap.size w w1 →
      ∀ Q, o.wp P a w1 (fun a2 w2 => ∃ v, a2 = a.put o.dst v ∧ Below w1.heap.size w1 w2 ∧ g.T v w2) Q)
    (hc : ∀ g ∈ gs, ∀ o, l1[g.c]? = some o → ∀ a w1, (∀ s, .tmp s ∈ o.op.operands → (∀ g' ∈ gs, g'.d ≠ s) → a.eval (.tmp s) = aF.eval (.tmp s)) → Below w.heap.size w w1 → g.T (a.eval (.tmp g.d)) w1 →
      ∀ Q, o.wp P a w1 (fun a2 w2 => a2 = a.put o.dst g.u ∧ Below w1.heap.size w1 w2) Q)
    (hQ : ∀ (v : Nat → Value) w', Below w.heap.size w w' → (∀ g ∈ gs, g.T (v g.d) w') → wpList P l.toArray Q [o] (putsG gs v aF) w') : (Code.region id l.toArray true).wp P Q a w := by
  refine wp_region_any hm ?_
  have hset : l1.toArray = l.toArray.setIfInBounds n (idle o) := by rw [hl1]; simp
  have hls : l1.toArray.size = l.toArray.size := by rw [hl1]; simp
  refine wpAny_of_last1 (P := P) (md := .any) (Q := Q) ho hg hd (by simpa using hn) (backB_spec hb) (lastB_spec hlast) l.toArray.size (Array.replicate l.toArray.size false) a w.drew (by simpa using hn) (by simp [Array.getD, hn]) ?_
  rw [← hset, ← hls]
  exact wp_region_ghostT (P := P) (gs := gs) (Q := Exit.then (wpList P l.toArray Q [o]) Q) aF hl' hok hb1 hB hwalk hmark hT hk hc hQ
end

end Go.Proofs.Ytodocfanaplmpaa
