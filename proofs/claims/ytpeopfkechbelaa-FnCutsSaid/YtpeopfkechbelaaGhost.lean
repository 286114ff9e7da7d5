
/-
  A law for a region that draws its order and in which some calls hand memory of their own to other calls of the same region: the maker's slot is a ghost that no other operation than its one consumer looks at.
  The walk goes over the same region with the maker and the consumer turned into plain moves. Plain, no condition.
-/
import Derived.Test.YtpeopfkechbelaaMem
namespace Go.Proofs.Ytpeopfkechbelaa
open Go.ChangeShapes Go.WideShapes Go.ChangeAt Go.RowKit Go.Deep Go.BigFrame
set_option linter.unusedVariables false
set_option linter.unusedSimpArgs false

/-- a world of a class -/
structure InC (C : World → Prop) where
  val : World
  on : C val
def Cls (C : World → Prop) : World → Prop := fun w' => ∃ u : InC C, w' = u.val
theorem Cls.mk_ {C : World → Prop} {w : World} (h : C w) : Cls C w := ⟨⟨w, h⟩, rfl⟩
theorem Cls.out {C : World → Prop} {w : World} (h : Cls C w) : C w := by obtain ⟨⟨v, hv⟩, rfl⟩ := h; exact hv
/-- a class that no call leaves which lets lie what lay there -/
def UpC (C : World → Prop) : Prop := Nonempty (InC C) ∧ ∀ w w', C w → Below w.heap.size w w' → C w'

/-- a maker (number k, slot d) and its consumer (number c, result u); T: what the maker's value is -/
structure Ghost where
  k : Nat
  c : Nat
  d : Tmp
  u : Value
  T : Value → World → Prop
def gmark : Value := .bool true

def setOp : List Oper → Nat → Value → List Oper
  | [], _, _ => []
  | o :: l, 0, v => { o with op := .move (.const v) } :: l
  | o :: l, n + 1, v => o :: setOp l n v
theorem setOp_get (v : Value) : ∀ (l : List Oper) (n i : Nat), (setOp l n v)[i]? = (l[i]?).map fun o => if i = n then { o with op := .move (.const v) } else o := by
  intro l
  induction l with
  | nil => intro n i; simp [setOp]
  | cons o l ih =>
    intro n i
    cases n with
    | zero => cases i <;> simp [setOp]
    | succ n => cases i <;> simp [setOp, ih]
def virts : List Ghost → List Oper → List Oper
  | [], l => l
  | g :: gs, l => virts gs (setOp (setOp l g.k gmark) g.c g.u)
def vop : List Ghost → Nat → Op → Op
  | [], _, op => op
  | g :: gs, i, op => vop gs i (if i = g.c then .move (.const g.u) else if i = g.k then .move (.const gmark) else op)
theorem virts_get : ∀ (gs : List Ghost) (l : List Oper) (i : Nat), (virts gs l)[i]? = (l[i]?).map fun o => { o with op := vop gs i o.op } := by
  intro gs
  induction gs with
  | nil => intro l i; cases h : l[i]? <;> simp [virts, vop, h]
  | cons g gs ih =>
    intro l i
    rw [virts, ih, setOp_get, setOp_get]
    cases h : l[i]? with
    | none => rfl
    | some o =>
      simp only [Option.map_some, vop]
      by_cases a : i = g.c
      · by_cases b : i = g.k
        · rw [if_pos a, if_pos a, if_pos b]
        · rw [if_pos a, if_pos a, if_neg b]
      · by_cases b : i = g.k
        · rw [if_neg a, if_neg a, if_pos b, if_pos b]
        · rw [if_neg a, if_neg a, if_neg b, if_neg b]
theorem virts_length : ∀ (gs : List Ghost) (l : List Oper), (virts gs l).length = l.length := by
  intro gs l
  have h := fun i => virts_get gs l i
  rcases Nat.lt_trichotomy (virts gs l).length l.length with a | a | a
  · have := h (virts gs l).length
    simp [List.getElem?_eq_getElem a] at this
  · exact a
  · have := h l.length
    simp [List.getElem?_eq_getElem a] at this
theorem vop_other : ∀ (gs : List Ghost) (i : Nat) (op : Op), (∀ g ∈ gs, i ≠ g.k ∧ i ≠ g.c) → vop gs i op = op := by
  intro gs
  induction gs with
  | nil => intro i op _; rfl
  | cons g gs ih =>
    intro i op h
    have hg := h g (by simp)
    rw [vop, if_neg hg.2, if_neg hg.1]
    exact ih i op fun g' hg' => h g' (by simp [hg'])
def marksOf (gs : List Ghost) : List Nat := gs.flatMap fun g => [g.k, g.c]
theorem vop_maker : ∀ (gs : List Ghost) (op : Op) (g : Ghost), g ∈ gs → (marksOf gs).Nodup → vop gs g.k op = .move (.const gmark) := by
  intro gs
  induction gs with
  | nil => intro op g h; simp at h
  | cons g0 gs ih =>
    intro op g hg hn
    simp only [marksOf, List.flatMap_cons, List.cons_append, List.nil_append, List.nodup_cons, List.mem_cons] at hn
    rcases List.mem_cons.1 hg with rfl | hg
    · rw [vop, if_neg (fun e => hn.1 (.inl e)), if_pos rfl]
      refine vop_other gs _ _ fun g' hg' => ⟨fun e => hn.1 (.inr ?_), fun e => hn.1 (.inr ?_)⟩ <;> exact List.mem_flatMap.2 ⟨g', hg', by simp [e]⟩
    · rw [vop, if_neg, if_neg]
      · exact ih _ g hg hn.2.2
      · intro e; exact hn.1 (.inr (List.mem_flatMap.2 ⟨g, hg, by simp [e]⟩))
      · intro e; exact hn.2.1 (List.mem_flatMap.2 ⟨g, hg, by simp [e]⟩)
theorem vop_eater : ∀ (gs : List Ghost) (op : Op) (g : Ghost), g ∈ gs → (marksOf gs).Nodup → vop gs g.c op = .move (.const g.u) := by
  intro gs
  induction gs with
  | nil => intro op g h; simp at h
  | cons g0 gs ih =>
    intro op g hg hn
    simp only [marksOf, List.flatMap_cons, List.cons_append, List.nil_append, List.nodup_cons, List.mem_cons] at hn
    rcases List.mem_cons.1 hg with rfl | hg
    · rw [vop, if_pos rfl]
      refine vop_other gs _ _ fun g' hg' => ⟨fun e => hn.2.1 ?_, fun e => hn.2.1 ?_⟩ <;> exact List.mem_flatMap.2 ⟨g', hg', by simp [e]⟩
    · rw [vop, if_neg, if_neg]
      · exact ih _ g hg hn.2.2
      · intro e; exact hn.1 (.inr (List.mem_flatMap.2 ⟨g, hg, by simp [e]⟩))
      · intro e; exact hn.2.1 (List.mem_flatMap.2 ⟨g, hg, by simp [e]⟩)

/-- the slots that an operation takes its operands from -/
def slotsIn (o : Oper) : List Tmp := o.op.operands.toList.filterMap fun | .tmp t => some t | _ => none

def allB (l : List Oper) (f : Nat → Oper → Bool) : Bool := (List.range l.length).all fun i => match l[i]? with | some o => f i o | none => true
theorem allB_spec {l : List Oper} {f : Nat → Oper → Bool} (h : allB l f = true) : ∀ i o, l[i]? = some o → f i o = true := by
  intro i o ho
  have hlt : i < l.length := (List.getElem?_eq_some_iff.1 ho).1
  have h1 := List.all_eq_true.1 h i (List.mem_range.2 hlt)
  rw [ho] at h1
  exact h1
def waitsB (o : Oper) (j : Nat) : Bool := o.after.any fun e => Region.binds .any e && e.on == j
theorem waitsB_spec {o : Oper} {j : Nat} (h : waitsB o j = true) : ∃ e ∈ o.after, Region.binds .any e = true ∧ e.on = j := by
  obtain ⟨e, he, hb⟩ := Array.any_eq_true'.1 h
  simp only [Bool.and_eq_true, beq_iff_eq] at hb
  exact ⟨e, he, hb.1, hb.2⟩
def clearB (gs : List Ghost) (ss : List Tmp) : Bool := ss.all fun s => gs.all fun g => g.d != s
theorem clearB_spec {gs : List Ghost} {ss : List Tmp} (h : clearB gs ss = true) : ∀ s ∈ ss, ∀ g ∈ gs, g.d ≠ s := by
  intro s hs g hg
  have h1 := List.all_eq_true.1 (List.all_eq_true.1 h s hs) g hg
  simpa using h1
def guardSlots (l : List Oper) (o : Oper) : List Tmp := match o.guard with | some (q, _) => ((l.toArray[q]?).bind (·.dst)).toList | none => []
/-- what is looked at once, by program -/
def ghostB (gs : List Ghost) (l : List Oper) : Bool :=
  decide (marksOf gs).Nodup && Region.noSelect l.toArray && (gs.all fun g => (l[g.k]?).isSome && gs.all fun g' => g.k != g'.c) &&
  allB l (fun i oi => match oi.dst with | none => true | some s => allB l fun j oj => i == j || oj.dst != some s) &&
  allB l (fun i o => gs.all fun g => g.k != i || o.dst == some g.d) &&
  allB l (fun i o => gs.any (fun g => g.c == i) || clearB gs (o.looksAt l.toArray)) &&
  allB l (fun i o => gs.all fun g => g.c != i || (clearB gs (guardSlots l o) && waitsB o g.k)) &&
  allB l (fun i o => !(marksOf gs).contains i || allB l fun j oj => match oj.dst with | none => true | some s => !(slotsIn o).contains s || waitsB o j)
structure GOk (gs : List Ghost) (l : List Oper) : Prop where
  has : ∀ g ∈ gs, ∃ o, l[g.k]? = some o
  kc : ∀ g ∈ gs, ∀ g' ∈ gs, g.k ≠ g'.c
  nod : (marksOf gs).Nodup
  nosel : ∀ (j : Nat) (o : Oper) cs b, l.toArray[j]? = some o → o.op ≠ .select cs b
  one : ∀ (i j : Nat) (oi oj : Oper) (s : Tmp), l[i]? = some oi → l[j]? = some oj → oi.dst = some s → oj.dst = some s → i = j
  dst : ∀ g ∈ gs, ∀ o : Oper, l[g.k]? = some o → o.dst = some g.d
  look : ∀ (i : Nat) (o : Oper), l[i]? = some o → (∀ g ∈ gs, i ≠ g.c) → ∀ s ∈ o.looksAt l.toArray, ∀ g ∈ gs, g.d ≠ s
  grd : ∀ g ∈ gs, ∀ o : Oper, l[g.c]? = some o → ∀ s ∈ guardSlots l o, ∀ g' ∈ gs, g'.d ≠ s
  wait : ∀ g ∈ gs, ∀ o : Oper, l[g.c]? = some o → ∃ e ∈ o.after, Region.binds .any e = true ∧ e.on = g.k
  args : ∀ (i : Nat) (o : Oper), l[i]? = some o → i ∈ marksOf gs → ∀ (j : Nat) (oj : Oper) (s : Tmp), l[j]? = some oj → oj.dst = some s → s ∈ slotsIn o → ∃ e ∈ o.after, Region.binds .any e = true ∧ e.on = j
theorem ghostB_spec {gs : List Ghost} {l : List Oper} (h : ghostB gs l = true) : GOk gs l := by
  simp only [ghostB, Bool.and_eq_true, decide_eq_true_eq] at h
  obtain ⟨⟨⟨⟨⟨⟨⟨h1, h2⟩, h0⟩, h3⟩, h4⟩, h5⟩, h6⟩, h7⟩ := h
  refine ⟨?_, ?_, h1, Region.noSelect_spec h2, ?_, ?_, ?_, ?_, ?_, ?_⟩
  · intro g hg
    have a := List.all_eq_true.1 h0 g hg
    rw [Bool.and_eq_true] at a
    exact Option.isSome_iff_exists.1 a.1
  · intro g hg g' hg'
    have a := List.all_eq_true.1 h0 g hg
    rw [Bool.and_eq_true] at a
    have b := List.all_eq_true.1 a.2 g' hg'
    simpa using b
  · intro i j oi oj s hi hj e1 e2
    have a := allB_spec h3 i oi hi
    rw [e1] at a
    have b := allB_spec a j oj hj
    rw [e2] at b
    simpa using b
  · intro g hg o ho
    have a := List.all_eq_true.1 (allB_spec h4 _ o ho) g hg
    simpa using a
  · intro i o ho hn
    have a := allB_spec h5 i o ho
    rw [Bool.or_eq_true] at a
    rcases a with a | a
    · obtain ⟨g, hg, e⟩ := List.any_eq_true.1 a
      have e1 : g.c = i := by simpa using e
      exact absurd e1.symm (hn g hg)
    · exact clearB_spec a
  · intro g hg o ho
    have a := List.all_eq_true.1 (allB_spec h6 _ o ho) g hg
    simp only [bne_self_eq_false, Bool.false_or, Bool.and_eq_true] at a
    exact clearB_spec a.1
  · intro g hg o ho
    have a := List.all_eq_true.1 (allB_spec h6 _ o ho) g hg
    simp only [bne_self_eq_false, Bool.false_or, Bool.and_eq_true] at a
    exact waitsB_spec a.2
  · intro i o ho hm j oj s hj hd hs
    have a := allB_spec h7 i o ho
    rw [Bool.or_eq_true] at a
    rcases a with a | a
    · simp [hm] at a
    · have b := allB_spec a j oj hj
      rw [hd] at b
      simp only [Bool.or_eq_true] at b
      rcases b with b | b
      · simp [hs] at b
      · exact waitsB_spec b

section
variable {P : Program} {gs : List Ghost} {l : List Oper} {md : Region.Mode}

theorem virts_at (i : Nat) : (virts gs l).toArray[i]? = (l.toArray[i]?).map fun o => { o with op := vop gs i o.op } := by
  rw [List.getElem?_toArray, List.getElem?_toArray]
  exact virts_get gs l i
theorem dst_virts (i : Nat) : ((virts gs l).toArray[i]?).bind (·.dst) = (l.toArray[i]?).bind (·.dst) := by
  rw [virts_at]
  cases l.toArray[i]? <;> rfl
theorem yielded_virts (t : Array Value) : yielded (virts gs l).toArray t = yielded l.toArray t := by
  funext j
  unfold yielded
  rw [dst_virts]
theorem ready_virts (listed : Array Bool) : Region.ready md (virts gs l).toArray listed = Region.ready md l.toArray listed := by
  unfold Region.ready
  have hs : (virts gs l).toArray.size = l.toArray.size := by simp [virts_length]
  rw [hs]
  refine List.filter_congr (fun i _ => ?_)
  rw [virts_at]
  cases l.toArray[i]? <;> rfl

/-- what stands at the end stands there as soon as none is left that could write it -/
theorem fin_slot {ops : Array Oper} {C : World → Prop} {aF : Act} (s : Tmp) : ∀ (fuel : Nat) (listed : Array Bool) (a : Act),
    wpAnyQ P md ops C (fun x => x = aF) fuel listed a → (∀ j oj, ops[j]? = some oj → oj.dst = some s → listed.getD j true = true) → a.tmps[s]? = aF.tmps[s]? := by
  intro fuel
  induction fuel with
  | zero => intro listed a h _; rw [h.2]
  | succ fuel ih =>
    intro listed a h hs
    cases hr : Region.ready md ops listed with
    | nil => rw [h.1 hr]
    | cons i rs =>
      have hi : i ∈ Region.ready md ops listed := by rw [hr]; simp
      obtain ⟨hun, oi, hoi, _⟩ := mem_ready.1 hi
      obtain ⟨v, _, hK⟩ := yieldsIn_of_qOp hoi (h.2 i hi)
      have h1 := ih _ _ hK (fun j oj hj hd => by
        have := hs j oj hj hd
        by_cases e : i = j
        · subst e; rw [this] at hun; exact absurd hun (by decide)
        · rw [getD_set_ne true e]; exact this)
      rw [← h1]
      cases hd : oi.dst with
      | none => rfl
      | some d =>
        have hne : d ≠ s := fun e => by
          have := hs i oi hoi (by rw [hd, e])
          rw [this] at hun
          exact absurd hun (by decide)
        simp [Act.put, Array.getElem?_setIfInBounds_ne hne]

/-- two frames that agree but at the ghosts' slots -/
def Agree (gs : List Ghost) (a a' : Act) : Prop := a.defers = a'.defers ∧ a.tmps.size = a'.tmps.size ∧ ∀ t, (∀ g ∈ gs, g.d ≠ t) → a.tmps[t]? = a'.tmps[t]?
theorem Agree.eval {a a' : Act} (h : Agree gs a a') {x : Operand} (hx : ∀ g ∈ gs, x ≠ .tmp g.d) : a.eval x = a'.eval x := by
  cases x with
  | tmp t =>
    have := h.2.2 t (fun g hg e => hx g hg (by rw [e]))
    simp only [Act.eval, Array.getD_eq_getD_getElem?, this]
  | _ => rfl
theorem Agree.put {a a' : Act} (h : Agree gs a a') (dst : Option Tmp) (v : Value) : Agree gs (a.put dst v) (a'.put dst v) := by
  cases dst with
  | none => exact h
  | some d =>
    refine ⟨h.1, ?_, fun t ht => ?_⟩
    · simp [Act.put, h.2.1]
    · by_cases e : d = t
      · subst e
        simp only [Act.put, Array.getElem?_setIfInBounds_self, h.2.1]
      · simp only [Act.put, Array.getElem?_setIfInBounds_ne e]
        exact h.2.2 t ht
theorem Agree.putG {a a' : Act} (h : Agree gs a a') {g : Ghost} (hg : g ∈ gs) (v u : Value) : Agree gs (a.put (some g.d) v) (a'.put (some g.d) u) := by
  refine ⟨h.1, ?_, fun t ht => ?_⟩
  · simp [Act.put, h.2.1]
  · have e := ht g hg
    simp only [Act.put, Array.getElem?_setIfInBounds_ne e]
    exact h.2.2 t ht
theorem Agree.yielded {a a' : Act} (h : Agree gs a a') (q : Nat) (hq : ∀ s, (l.toArray[q]?).bind (·.dst) = some s → ∀ g ∈ gs, g.d ≠ s) : yielded l.toArray a.tmps q = yielded l.toArray a'.tmps q := by
  unfold Go.yielded
  cases hd : (l.toArray[q]?).bind (·.dst) with
  | none => rfl
  | some s =>
    have := h.2.2 s (hq s hd)
    simp only [Option.bind_some, this]
theorem Agree.wanted {a a' : Act} (h : Agree gs a a') {o : Oper} (ho : ∀ s ∈ guardSlots l o, ∀ g ∈ gs, g.d ≠ s) : Region.wanted o (Go.yielded l.toArray a.tmps) = Region.wanted o (Go.yielded l.toArray a'.tmps) := by
  unfold Region.wanted
  cases hg : o.guard with
  | none => rfl
  | some p =>
    obtain ⟨q, b⟩ := p
    have := h.yielded (l := l) q (fun s hs => ho s (by unfold guardSlots; rw [hg]; simp only; rw [hs]; simp))
    simp only [this]
theorem look_guard {o : Oper} {s : Tmp} (h : s ∈ guardSlots l o) : s ∈ o.looksAt l.toArray := by
  unfold Oper.looksAt
  exact List.mem_append_right _ h
theorem look_op {o : Oper} {s : Tmp} (h : .tmp s ∈ o.op.operands) : s ∈ o.looksAt l.toArray := by
  unfold Oper.looksAt
  exact List.mem_append_left _ (List.mem_filterMap.2 ⟨.tmp s, by simpa using h, rfl⟩)
theorem Agree.exec {a a' : Act} (h : Agree gs a a') {o : Oper} (hs : ∀ cs b, o.op ≠ .select cs b) (ho : ∀ s ∈ o.looksAt l.toArray, ∀ g ∈ gs, g.d ≠ s) : execOp a.eval o = execOp a'.eval o := by
  refine execOp_congr o hs fun x hx => h.eval fun g hg e => ?_
  subst e
  exact ho g.d (look_op hx) g hg rfl

theorem Ghost.same : ∀ {gs : List Ghost}, (marksOf gs).Nodup → ∀ {g g' : Ghost}, g ∈ gs → g' ∈ gs → g.k = g'.k → g = g' := by
  intro gs
  induction gs with
  | nil => intro _ g g' h; simp at h
  | cons g0 gs ih =>
    intro hn g g' hg hg' e
    simp only [marksOf, List.flatMap_cons, List.cons_append, List.nil_append, List.nodup_cons, List.mem_cons] at hn
    rcases List.mem_cons.1 hg with e1 | h1 <;> rcases List.mem_cons.1 hg' with e2 | h2
    · rw [e1, e2]
    · subst e1
      exact absurd (.inr (List.mem_flatMap.2 ⟨g', h2, by simp [e]⟩)) hn.1
    · subst e2
      exact absurd (.inr (List.mem_flatMap.2 ⟨g, h1, by simp [e]⟩)) hn.1
    · exact ih hn.2.2 h1 h2 e

def putsG (gs : List Ghost) (v : Nat → Value) (a : Act) : Act := gs.foldl (fun a g => a.put (some g.d) (v g.d)) a
theorem putsG_spec (v : Nat → Value) : ∀ (gs : List Ghost) (a : Act), (putsG gs v a).defers = a.defers ∧ (putsG gs v a).tmps.size = a.tmps.size ∧
    ∀ t, (putsG gs v a).tmps[t]? = if (∃ g ∈ gs, g.d = t) ∧ t < a.tmps.size then some (v t) else a.tmps[t]? := by
  intro gs
  induction gs with
  | nil => intro a; exact ⟨rfl, rfl, fun t => by rw [if_neg (by simp)]; rfl⟩
  | cons g gs ih =>
    intro a
    obtain ⟨h1, h2, h3⟩ := ih (a.put (some g.d) (v g.d))
    have hs : (a.put (some g.d) (v g.d)).tmps.size = a.tmps.size := by simp [Act.put]
    refine ⟨h1, h2.trans hs, fun t => ?_⟩
    have e : (putsG (g :: gs) v a).tmps[t]? = (putsG gs v (a.put (some g.d) (v g.d))).tmps[t]? := rfl
    rw [e, h3, hs]
    by_cases c : (∃ g ∈ gs, g.d = t) ∧ t < a.tmps.size
    · rw [if_pos c, if_pos ⟨by obtain ⟨x, hx, e⟩ := c.1; exact ⟨x, List.mem_cons_of_mem _ hx, e⟩, c.2⟩]
    · rw [if_neg c]
      by_cases d : g.d = t
      · subst d
        by_cases z : g.d < a.tmps.size
        · rw [if_pos ⟨⟨g, by simp, rfl⟩, z⟩]
          simp [Act.put, z]
        · rw [if_neg (fun h => z h.2)]
          simp [Act.put, z]
      · have e2 : (a.put (some g.d) (v g.d)).tmps[t]? = a.tmps[t]? := by simp [Act.put, Array.getElem?_setIfInBounds_ne d]
        rw [e2, if_neg]
        rintro ⟨⟨x, hx, e5⟩, z⟩
        rcases List.mem_cons.1 hx with e6 | hx
        · rw [e6] at e5; exact d e5
        · exact c ⟨⟨x, hx, e5⟩, z⟩
theorem Agree.puts {a aF : Act} (h : Agree gs a aF) : a = putsG gs (fun t => a.tmps.getD t undef) aF := by
  obtain ⟨h1, h2, h3⟩ := putsG_spec (fun t => a.tmps.getD t undef) gs aF
  have ht : a.tmps = (putsG gs (fun t => a.tmps.getD t undef) aF).tmps := by
    refine Array.ext_getElem? fun t => ?_
    rw [h3]
    by_cases c : (∃ g ∈ gs, g.d = t) ∧ t < aF.tmps.size
    · rw [if_pos c]
      have : t < a.tmps.size := by rw [h.2.1]; exact c.2
      simp [this]
    · rw [if_neg c]
      by_cases z : t < aF.tmps.size
      · exact h.2.2 t fun g hg e => c ⟨⟨g, hg, e⟩, z⟩
      · rw [Array.getElem?_eq_none (by rw [h.2.1]; exact Nat.le_of_not_lt z), Array.getElem?_eq_none (Nat.le_of_not_lt z)]
  have hd : a.defers = (putsG gs (fun t => a.tmps.getD t undef) aF).defers := h.1.trans h1.symm
  exact congr (congrArg Act.mk ht) hd

theorem put_same {a : Act} {s : Tmp} {v u : Value} (h : (a.put (some s) v).tmps[s]? = (a.put (some s) u).tmps[s]?) : a.put (some s) v = a.put (some s) u := by
  simp only [Act.put] at h ⊢
  by_cases z : s < a.tmps.size
  · simp [z] at h
    rw [h]
  · congr 1
    rw [Array.setIfInBounds_eq_of_size_le (Nat.le_of_not_lt z), Array.setIfInBounds_eq_of_size_le (Nat.le_of_not_lt z)]
theorem set_true (listed : Array Bool) (i : Nat) : (listed.setIfInBounds i true).getD i true = true := by
  by_cases z : i < listed.size
  · simp [z]
  · simp [Array.getD, z]
theorem listed_true {listed : Array Bool} {j : Nat} (h : listed.getD j false = true) : listed.getD j true = true := by
  by_cases z : j < listed.size
  · simpa [Array.getD, z] using h
  · simp [Array.getD, z]

/-- the walk of the turned region serves the region itself -/
theorem ghost_sim {Q : Exit → Act → World → Prop} {aF : Act} {w0 : World} (hok : GOk gs l) (hmark : ∀ g ∈ gs, aF.tmps[g.d]? = some gmark)
    (hT : ∀ g ∈ gs, ∀ v w w', g.T v w → Below w.heap.size w w' → g.T v w')
    (hk : ∀ g ∈ gs, ∀ o, l[g.k]? = some o → ∀ a w, (∀ s, .tmp s ∈ o.op.operands → a.eval (.tmp s) = aF.eval (.tmp s)) → Below w0.heap.size w0 w →
      ∀ Q, o.wp P a w (fun a2 w2 => ∃ v, a2 = a.put o.dst v ∧ Below w.heap.size w w2 ∧ g.T v w2) Q)
    (hc : ∀ g ∈ gs, ∀ o, l[g.c]? = some o → ∀ a w, (∀ s, .tmp s ∈ o.op.operands → (∀ g' ∈ gs, g'.d ≠ s) → a.eval (.tmp s) = aF.eval (.tmp s)) → Below w0.heap.size w0 w → g.T (a.eval (.tmp g.d)) w →
      ∀ Q, o.wp P a w (fun a2 w2 => a2 = a.put o.dst g.u ∧ Below w.heap.size w w2) Q)
    (hQ : ∀ (v : Nat → Value) w', Below w0.heap.size w0 w' → Q .normal (putsG gs v aF) w') :
    ∀ (fuel : Nat) (listed : Array Bool) (a a' : Act) (w : World),
      (∀ C, UpC C → (∀ w', C w' → Below w0.heap.size w0 w') → wpAnyQ P .any (virts gs l).toArray (Cls C) (fun x => x = aF) fuel listed a') →
      Agree gs a a' → Below w0.heap.size w0 w → (∀ g ∈ gs, listed.getD g.k false = true → g.T (a.eval (.tmp g.d)) w) → wpAny P .any l.toArray Q fuel listed a w := by
  have hUp0 : ∀ w : World, UpC (fun w' => Below w.heap.size w w') := fun w => ⟨⟨⟨w, Below.refl _ _⟩⟩, fun x y hx hy => below_thru hx hy⟩
  intro fuel
  induction fuel with
  | zero =>
    intro listed a a' w H hag hbw hTg
    obtain ⟨h1, h2⟩ := H _ (hUp0 w0) (fun _ h => h)
    rw [ready_virts] at h1
    subst h2
    refine ⟨h1, ?_⟩
    rw [hag.puts]
    exact hQ _ _ hbw
  | succ fuel ih =>
    intro listed a a' w H hag hbw hTg
    refine ⟨fun h0 => ?_, fun i hi => ?_⟩
    · have h2 := (H _ (hUp0 w0) (fun _ h => h)).1 (by rw [ready_virts]; exact h0)
      subst h2
      rw [hag.puts]
      exact hQ _ _ hbw
    obtain ⟨hun, o, ho, hall⟩ := mem_ready.1 hi
    have hol : l[i]? = some o := by simpa using ho
    have ho' : (virts gs l).toArray[i]? = some { o with op := vop gs i o.op } := by rw [virts_at, ho]; rfl
    have hsub : ∀ w', Below w.heap.size w w' → Below w0.heap.size w0 w' := fun w' h => below_thru hbw h
    have step : ∀ C, UpC C → (∀ w', C w' → Below w0.heap.size w0 w') → ∃ v, YieldsIn P (virts gs l).toArray (Cls C) { o with op := vop gs i o.op } v a' ∧
        wpAnyQ P .any (virts gs l).toArray (Cls C) (fun x => x = aF) fuel (listed.setIfInBounds i true) (a'.put o.dst v) := fun C h1 h2 =>
      yieldsIn_of_qOp ho' ((H C h1 h2).2 i (by rw [ready_virts]; exact hi))
    obtain ⟨v0, hy0, hK0⟩ := step _ (hUp0 w) hsub
    have fin1 : ∀ s, o.dst = some s → ∀ C v, wpAnyQ P .any (virts gs l).toArray (Cls C) (fun x => x = aF) fuel (listed.setIfInBounds i true) (a'.put o.dst v) → (a'.put (some s) v).tmps[s]? = aF.tmps[s]? := by
      intro s hs C v h
      rw [hs] at h
      refine fin_slot s _ _ _ h fun j oj hj hd => ?_
      rw [virts_at] at hj
      cases hjl : l.toArray[j]? with
      | none => rw [hjl] at hj; simp at hj
      | some oj0 =>
        rw [hjl] at hj
        simp only [Option.map_some, Option.some.injEq] at hj
        subst hj
        have := hok.one i j o oj0 s hol (by simpa using hjl) hs hd
        subst this
        exact set_true _ _
    have Hn : ∀ C, UpC C → (∀ w', C w' → Below w0.heap.size w0 w') → wpAnyQ P .any (virts gs l).toArray (Cls C) (fun x => x = aF) fuel (listed.setIfInBounds i true) (a'.put o.dst v0) := by
      intro C h1 h2
      obtain ⟨v, _, hK⟩ := step C h1 h2
      cases hd : o.dst with
      | none => rw [hd] at hK; exact hK
      | some s =>
        have e := put_same ((fin1 s hd _ _ hK).trans (fin1 s hd _ _ hK0).symm)
        rw [hd] at hK
        rw [← e]
        exact hK
    have hwy : Region.wanted { o with op := vop gs i o.op } (yielded (virts gs l).toArray a'.tmps) = Region.wanted o (yielded l.toArray a'.tmps) := by rw [yielded_virts]; rfl
    have hslot : ∀ s, (∀ g ∈ gs, g.d ≠ s) → i ∈ marksOf gs → .tmp s ∈ o.op.operands → a.eval (.tmp s) = aF.eval (.tmp s) := by
      intro s hs hm hin
      rw [hag.eval (x := .tmp s) (fun g hg e => hs g hg (by simpa using e.symm))]
      have e := fin_slot s _ _ _ (H _ (hUp0 w0) (fun _ h => h)) (fun j oj hj hd => by
        rw [virts_at] at hj
        cases hjl : l.toArray[j]? with
        | none => rw [hjl] at hj; simp at hj
        | some oj0 =>
          rw [hjl] at hj
          simp only [Option.map_some, Option.some.injEq] at hj
          subst hj
          obtain ⟨e, he, hb, rfl⟩ := hok.args i o hol hm j oj0 s (by simpa using hjl) hd (List.mem_filterMap.2 ⟨.tmp s, by simpa using hin, rfl⟩)
          exact listed_true (hall e he hb))
      simp only [Act.eval, Array.getD_eq_getD_getElem?, e]
    have next : (∀ g ∈ gs, i ≠ g.k) → ∀ w', Below w.heap.size w w' → wpAny P .any l.toArray Q fuel (listed.setIfInBounds i true) (a.put o.dst v0) w' := by
      intro hnk w' hb'
      refine ih _ _ _ _ Hn (hag.put _ _) (hsub _ hb') fun g hg hl => ?_
      rw [getD_set_ne false (hnk g hg)] at hl
      rw [Act.eval_put]
      · exact hT g hg _ _ _ (hTg g hg hl) hb'
      · intro d hd e
        obtain ⟨og, hog⟩ := hok.has g hg
        have e1 : g.d = d := by simpa using e
        exact hnk g hg (hok.one i g.k o og d hol hog hd (by rw [hok.dst g hg og hog, e1]))
    unfold wpOp
    rw [ho]
    by_cases hmk : ∃ g ∈ gs, i = g.k
    · obtain ⟨g, hg, rfl⟩ := hmk
      have hgd := hok.dst g hg o hol
      have hv := fin1 g.d hgd _ _ hK0
      rw [hmark g hg] at hv
      have hlt : g.d < a'.tmps.size := by
        refine Classical.byContradiction fun hno => ?_
        rw [Array.getElem?_eq_none (by simpa [Act.put] using Nat.le_of_not_lt hno)] at hv
        exact absurd hv (by simp)
      have hv0 : v0 = gmark := by simpa [Act.put, hlt] using hv
      have hlook := hok.look g.k o hol (fun g' hg' => hok.kc g hg g' hg')
      have hw : Region.wanted o (yielded l.toArray a.tmps) = true := by
        rw [hag.wanted (fun s hs => hlook s (look_guard hs))]
        rcases hy0 with ⟨h1, _⟩ | ⟨_, h2⟩
        · rw [← hwy]; exact h1
        · rw [hv0] at h2
          exact absurd h2 (by simp [gmark, undef])
      simp only [hw, if_true]
      refine .inl (Oper.wp_mono (fun a2 w2 h => ?_) (hk g hg o hol a w (fun s hs => hslot s (fun g' hg' => hlook s (look_op hs) g' hg') (List.mem_flatMap.2 ⟨g, hg, by simp⟩) hs) hbw Q))
      obtain ⟨v, rfl, hb2, hT2⟩ := h
      refine ih _ _ _ _ Hn (by rw [hgd]; exact hag.putG hg v v0) (hsub _ hb2) fun g' hg' hl => ?_
      by_cases e : g.k = g'.k
      · obtain rfl := Ghost.same hok.nod hg hg' e
        have hlt2 : g.d < a.tmps.size := by rw [hag.2.1]; exact hlt
        have e2 : (a.put o.dst v).eval (.tmp g.d) = v := by rw [hgd]; simp [Act.put, Act.eval, hlt2]
        rw [e2]
        exact hT2
      · rw [getD_set_ne false e] at hl
        rw [Act.eval_put]
        · exact hT g' hg' _ _ _ (hTg g' hg' hl) hb2
        · intro d hd e3
          obtain ⟨og, hog⟩ := hok.has g' hg'
          have e1 : g'.d = d := by simpa using e3
          exact e (hok.one g.k g'.k o og d hol hog hd (by rw [hok.dst g' hg' og hog, e1]))
    have hnk : ∀ g ∈ gs, i ≠ g.k := fun g hg e => hmk ⟨g, hg, e⟩
    by_cases hcs : ∃ g ∈ gs, i = g.c
    · obtain ⟨g, hg, rfl⟩ := hcs
      have hweq : Region.wanted o (yielded l.toArray a.tmps) = Region.wanted o (yielded l.toArray a'.tmps) := hag.wanted (hok.grd g hg o hol)
      by_cases hw : Region.wanted o (yielded l.toArray a.tmps) = true
      · simp only [hw, if_true]
        have hw' := hw
        rw [hweq, ← hwy] at hw'
        have hv0 : v0 = g.u := by
          rcases hy0 with ⟨_, h2⟩ | ⟨h1, _⟩
          · have h3 := h2 w (Cls.mk_ (Below.refl _ _))
            unfold Oper.quietAt at h3
            rw [run_move (P := P) (.const g.u) (vop_eater gs o.op g hg hok.nod)] at h3
            exact h3.2.symm
          · rw [hw'] at h1; exact absurd h1 (by decide)
        obtain ⟨e, he, hb, hek⟩ := hok.wait g hg o hol
        refine .inl (Oper.wp_mono (fun a2 w2 h => ?_) (hc g hg o hol a w (fun s hs hn => hslot s hn (List.mem_flatMap.2 ⟨g, hg, by simp⟩) hs) hbw (hTg g hg (by rw [← hek]; exact hall e he hb)) Q))
        obtain ⟨rfl, hb2⟩ := h
        rw [← hv0]
        exact next hnk _ hb2
      · simp only [hw]
        have hv0 : v0 = undef := by
          rcases hy0 with ⟨h1, _⟩ | ⟨_, h2⟩
          · rw [hwy, ← hweq] at h1; exact absurd h1 hw
          · exact h2
        rw [← hv0]
        exact next hnk _ (Below.refl _ _)
    have hnc : ∀ g ∈ gs, i ≠ g.c := fun g hg e => hcs ⟨g, hg, e⟩
    have heq : { o with op := vop gs i o.op } = o := by rw [vop_other gs i o.op fun g hg => ⟨hnk g hg, hnc g hg⟩]
    rw [heq] at hy0 hwy
    have hlook := hok.look i o hol hnc
    have hweq : Region.wanted o (yielded l.toArray a.tmps) = Region.wanted o (yielded l.toArray a'.tmps) := hag.wanted (fun s hs => hlook s (look_guard hs))
    have hex := hag.exec (fun cs b => hok.nosel i o cs b ho) hlook
    by_cases hw : Region.wanted o (yielded l.toArray a.tmps) = true
    · simp only [hw, if_true]
      rcases hy0 with ⟨_, h2⟩ | ⟨h1, _⟩
      · refine .inl (Oper.wp_of_quiet (C := Cls fun w' => Below w.heap.size w w') (K := fun x => x = a.put o.dst v0) (Cls.mk_ (Below.refl _ _)) (fun x w' hw' hx => ?_) ⟨v0, fun w' hw' => ?_, rfl⟩)
        · subst hx
          exact next hnk _ hw'.out
        · have h3 := h2 w' hw'
          unfold Oper.quietAt at h3 ⊢
          rw [hex]
          exact h3
      · rw [hwy, ← hweq, hw] at h1; exact absurd h1 (by decide)
    · simp only [hw]
      have hv0 : v0 = undef := by
        rcases hy0 with ⟨h1, _⟩ | ⟨_, h2⟩
        · rw [hwy, ← hweq] at h1; exact absurd h1 hw
        · exact h2
      rw [← hv0]
      exact next hnk _ (Below.refl _ _)

/-- the region: one walk, in the order of the text, of the turned region, in whatever class of worlds; then the makers and the consumers -/
theorem wp_region_ghost {id : Nat} {Q : Exit → Act → World → Prop} {a : Act} {w : World} (aF : Act) {l' : List Oper} (hm : P.follows .mixedOrders = true) (hl' : l' = virts gs l) (hok : ghostB gs l = true) (hB : Region.lexB .any l'.toArray = true)
    (hwalk : ∀ C : World → Prop, Nonempty (InC C) → (∀ w w', C w → Below w.heap.size w w' → C w') → (∀ w', C w' → Below w.heap.size w w') → wpQuiet P l'.toArray (fun w' => ∃ u : InC C, w' = u.val) (fun x => x = aF) l' a)
    (hmark : ∀ g ∈ gs, aF.tmps[g.d]? = some gmark)
    (hT : ∀ g ∈ gs, ∀ v w w', g.T v w → Below w.heap.size w w' → g.T v w')
    (hk : ∀ g ∈ gs, ∀ o, l[g.k]? = some o → ∀ a w1, (∀ s, .tmp s ∈ o.op.operands → a.eval (.tmp s) = aF.eval (.tmp s)) → Below w.heap.size w w1 →
      ∀ Q, o.wp P a w1 (fun a2 w2 => ∃ v, a2 = a.put o.dst v ∧ Below w1.heap.size w1 w2 ∧ g.T v w2) Q)
    (hc : ∀ g ∈ gs, ∀ o, l[g.c]? = some o → ∀ a w1, (∀ s, .tmp s ∈ o.op.operands → (∀ g' ∈ gs, g'.d ≠ s) → a.eval (.tmp s) = aF.eval (.tmp s)) → Below w.heap.size w w1 → g.T (a.eval (.tmp g.d)) w1 →
      ∀ Q, o.wp P a w1 (fun a2 w2 => a2 = a.put o.dst g.u ∧ Below w1.heap.size w1 w2) Q)
    (hQ : ∀ (v : Nat → Value) w', Below w.heap.size w w' → Q .normal (putsG gs v aF) w') : (Code.region id l.toArray true).wp P Q a w := by
  subst hl'
  simp only [Region.lexB, Bool.and_eq_true] at hB
  refine wp_region_any hm ?_
  have hlen : (virts gs l).length = l.toArray.size := by simp [virts_length]
  refine ghost_sim (ghostB_spec hok) hmark hT hk hc hQ _ _ a a _ (fun C h1 h2 => ?_) ⟨rfl, rfl, fun _ _ => rfl⟩ (Below.refl _ _).drew (fun g hg h => ?_)
  · have hq := wpAnyQ_lex (P := P) (C := Cls C) (md := .any) hB.1 (virts gs l) 0 (Array.replicate (virts gs l).toArray.size false) a (by simp) (by simpa using hB.2) (hwalk C h1.1 h1.2 h2)
    rw [hlen] at hq
    have e : (virts gs l).toArray.size = l.toArray.size := by simp [virts_length]
    rw [e] at hq
    exact hq
  · simp [Array.getD] at h

/-- a call that the text names, in a frame of which only the arguments are known -/
theorem wp_call {o : Oper} {a : Act} {w : World} {f : FuncId} {xs : Array Operand} {ats : Array TypeId} (ho : o.op = .call { callee := .value (.func f), args := xs, argTypes := ats }) {vs : Array Value} (hv : xs.map a.eval = vs)
    (hf : (callFunc f vs).run P w = .ok (.enter f vs) w) {R : Value → World → Prop} (h : Calls P f vs w fun e w' => ∃ v, e = .returned v ∧ R v w') {K : Act → World → Prop} (hK : ∀ v w', R v w' → K (a.put o.dst v) w') (Q : Exit → Act → World → Prop) : o.wp P a w K Q := by
  have e : (execOp a.eval o).run P w = .ok (.enter f vs) w := by
    obtain ⟨dst, op, type, pos, after, guard⟩ := o
    simp only at ho
    subst ho
    rw [execOp_call_go, hv]
    simp only [Array.append_empty, Array.empty_append]
    exact hf
  unfold Oper.wp
  rw [e]
  unfold Oper.upon
  refine h.mono ?_
  rintro e w' ⟨v, rfl, hR⟩
  exact hK v w' hR

/-- 'len' of a slice in a slot -/
theorem wp_len {o : Oper} {a : Act} {w : World} { t : Tmp} {ats : Array TypeId} (ho : o.op = .call { callee := .builtin .len, args := #[.tmp t], argTypes := ats }) {A : Option Addr} {n c : Nat} (he : a.eval (.tmp t) = .slice A n c)
    (hf : (Builtin.len_ ats o.type #[.slice A n c]).run P w = .ok (.int .i64 n) w) {K : Act → World → Prop} (hK : K (a.put o.dst (.int .i64 n)) w) (Q : Exit → Act → World → Prop) : o.wp P a w K Q := by
  have e : (execOp a.eval o).run P w = .ok (.value (.int .i64 n)) w := by
    obtain ⟨dst, op, type, pos, after, guard⟩ := o
    simp only at ho
    subst ho
    simp only at hf
    have h2 : Array.map a.eval #[Operand.tmp t] = #[.slice A n c] := by simp [he]
    simp [go_sem, h2, hf]
  unfold Oper.wp
  rw [e]
  exact hK

end

end Go.Proofs.Ytpeopfkechbelaa
