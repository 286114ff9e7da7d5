
/-
  Closed facts on the whole translation, asked once for all laws of the seat; the long head of the translation is never taken apart to its end.
-/
import Derived.Test.YtpeopfkechbelaaHead
import Derived.JoinedOf
import Derived.KernelRfl
namespace Go.Proofs.Ytpeopfkechbelaa

/-- a word without a blank, then a blank: it is the first word -/
theorem words_cons {b : Char} (hb : " ".toList = [b]) : ∀ (a r : List Char), b ∉ a → wordsSigns (a ++ b :: r) = a :: wordsSigns r := by
  have hb' : b = Char.ofNat 32 := by
    have : " ".toList = [Char.ofNat 32] := by decide
    rw [this] at hb
    injection hb with h _
    exact h.symm
  subst hb'
  intro a
  induction a with
  | nil =>
    intro r _
    simp [wordsSigns]
  | cons c a ih =>
    intro r h
    have hc : c ≠ Char.ofNat 32 := fun e => h (by rw [e]; exact List.mem_cons_self)
    have ha : Char.ofNat 32 ∉ a := fun e => h (List.mem_cons_of_mem _ e)
    rw [List.cons_append]
    have e := ih r ha
    conv => lhs; unfold wordsSigns
    split
    · rename_i h0
      cases h0
    · rename_i r2 h0
      injection h0 with h1 _
      exact absurd h1 hc
    · rename_i c2 r2 _ h0
      injection h0 with h1 h2
      rw [← h1, ← h2, e]

theorem words_first {b : Char} (hb : " ".toList = [b]) (l a : List Char) (n : Nat) (h1 : l.take n = a) (h2 : (l.drop n).head? = some b) (h3 : b ∉ a) : wordsSigns l = a :: wordsSigns (l.drop (n + 1)) := by
  have e : l = a ++ b :: l.drop (n + 1) := by
    have h4 : l.drop n = b :: l.drop (n + 1) := by
      cases hd : l.drop n with
      | nil => rw [hd] at h2; simp at h2
      | cons x r =>
        rw [hd] at h2
        simp at h2
        rw [h2]
        have : l.drop (n + 1) = (l.drop n).drop 1 := by rw [List.drop_drop]
        rw [this, hd]
        rfl
    rw [← h1, ← h4, List.take_append_drop]
  have e2 := words_cons hb a (l.drop (n + 1)) h3
  rw [← e] at e2
  exact e2

/-- what stands behind the head's first two words -/
theorem head_is (l s : List Char) (hb : " ".toList = [Char.ofNat 32]) (a1 : l.take 7 = "harness".toList) (a2 : (l.drop 7).head? = some (Char.ofNat 32))
    (b1 : (l.drop 8).take 64 = s) (b2 : ((l.drop 8).drop 64).head? = some (Char.ofNat 32)) (b3 : isSumSigns s = true) (b4 : Char.ofNat 32 ∉ s)
    (c1 : ((l.drop 8).drop 65).take 3 = "cut".toList) (c2 : (((l.drop 8).drop 65).drop 3).head? = some (Char.ofNat 32)) :
    ∃ rest, behindMainWord (wordsSigns l) = "cut".toList :: rest := by
  have w1 := words_first hb l _ 7 a1 a2 (by decide)
  have w2 := words_first hb (l.drop 8) _ 64 b1 b2 b4
  have w3 := words_first hb ((l.drop 8).drop 65) _ 3 c1 c2 (by decide)
  refine ⟨wordsSigns (((l.drop 8).drop 65).drop 4), ?_⟩
  rw [w1, w2, w3]
  show (if (("harness".toList == "harness".toList || "harness".toList == "ownmain".toList) && isSumSigns s) = true then _ else _) = _
  rw [b3]
  simp

theorem headText : ∃ rest, behindMainWord (wordsSigns Try.prog.initOrder.toList) = "cut".toList :: rest := by
  rw [head_text, String.toList_ofList]
  exact head_is _ _ (by decide) (by as_aux_lemma => kernel_rfl) (by as_aux_lemma => kernel_rfl) rfl (by as_aux_lemma => kernel_rfl) (by as_aux_lemma => kernel_rfl) (of_decide_eq_true (by as_aux_lemma => kernel_rfl)) (by as_aux_lemma => kernel_rfl) (by as_aux_lemma => kernel_rfl)

theorem mayEnter_of (P : Program) (rest : List (List Char)) (h : behindMainWord (wordsSigns P.initOrder.toList) = "cut".toList :: rest) (h1 : P.laysLater = false) (h2 : P.bearsReflect = false) (h3 : P.doorFits [] = true) : P.mayEnter = true := by
  have hs : stripLifts liftWords ("cut".toList :: rest) = ([], "cut".toList :: rest) := rfl
  unfold Program.mayEnter
  rw [h]
  simp only [hs, h1, h2, h3]
  simp

theorem mayEnter : Try.prog.mayEnter = true := by
  obtain ⟨rest, h⟩ := headText
  exact mayEnter_of _ rest h (by as_aux_lemma => kernel_rfl) (by as_aux_lemma => kernel_rfl) (by as_aux_lemma => kernel_rfl)

theorem liftsFinal_of (P : Program) (rest : List (List Char)) (h : behindMainWord (wordsSigns P.initOrder.toList) = "cut".toList :: rest) : P.liftsFinal = false := by
  have hs : stripLifts liftWords ("cut".toList :: rest) = ([], "cut".toList :: rest) := rfl
  unfold Program.liftsFinal Program.headLifts
  rw [h]
  simp only [hs]
  simp

theorem liftsFinal : Try.prog.liftsFinal = false := by
  obtain ⟨rest, h⟩ := headText
  exact liftsFinal_of _ rest h

theorem make_of (P : Program) (rest : List (List Char)) (h : behindMainWord (wordsSigns P.initOrder.toList) = "cut".toList :: rest) : P.make = some .cut := by
  unfold Program.make
  rw [h]
  simp

theorem make_is : Try.prog.make = some .cut := by
  obtain ⟨rest, h⟩ := headText
  exact make_of _ rest h

end Go.Proofs.Ytpeopfkechbelaa
