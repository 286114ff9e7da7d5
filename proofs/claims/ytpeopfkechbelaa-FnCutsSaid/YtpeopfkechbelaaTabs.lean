
/-
  Tables of ints of the call's own: a row of rows, each of its own; plain laws, no condition.
-/
import Derived.Test.YtpeopfkechbelaaKids
import Derived.Deep.AppendLies
namespace Go.Proofs.Ytpeopfkechbelaa
open Go.ChangeShapes Go.WideShapes Go.ChangeAt Go.RowKit Go.Deep
set_option linter.unusedVariables false
set_option linter.unusedSimpArgs false

theorem rowInfo : (Try.prog.info? 51).map (fun i => (i.zero, i.size, i.bytes)) = some (some (.slice none 0 0), 1, 24) := by kernel_rfl

theorem Kids.mono {w : World} {base base' : Nat} {o : Option Nat} {vs : List Value} {xss : List (List Int)} (h : Kids w base o vs xss) (hb : base' ≤ base) : Kids w base' o vs xss :=
  ⟨h.len, fun i hi => by obtain ⟨A, c, e, r⟩ := h.row i hi; exact ⟨A, c, e, own_mono r hb⟩, h.apart, h.out⟩
theorem Kids.on {w w' : World} {base : Nat} {o : Option Nat} {vs : List Value} {xss : List (List Int)} (h : Kids w base o vs xss) (hb : Below w.heap.size w w') : Kids w' base o vs xss :=
  h.grown (grown_of_below hb none) (fun _ _ _ _ => by simp)
theorem getD_lt {α : Type} (a b : List α) (j : Nat) (d : α) (h : j < a.length) : (a ++ b).getD j d = a.getD j d := by
  simp [List.getD, List.getElem?_append_left h]
theorem getD_end {α : Type} (a : List α) (x : α) (j : Nat) (d : α) (h : j = a.length) : (a ++ [x]).getD j d = x := by
  subst h
  simp [List.getD]

/-- a row more: kv, apart from all that is there -/
theorem Kids.snocV {w w' : World} {base : Nat} {v kv : Value} {vs : List Value} {xss : List (List Int)} {Ak : Option Addr} {ck g1 H : Nat} {ys : List Int} (hkv : kv = .slice Ak ys.length ck) (h : Kids w base v.ownBlock vs xss)
    (hl : w.ownsRow base 3 1 kv ys.length (ys.map (Value.int .i64))) (hk : ∀ i, i < xss.length → ∀ g, (vs.getD i undef).ownBlock = some g → kv.ownBlock ≠ some g) (ho : ∀ g, kv.ownBlock = some g → v.ownBlock ≠ some g)
    (hg : w.grownBy w' v.ownBlock) (hat : v.ownBlock = some g1 ∨ g1 = H) (hH : w.heap.size ≤ H) :
    Kids w' base (some g1) (vs ++ [kv]) (xss ++ [ys]) := by
  have hlen := h.len
  have hkg := h.grown hg (fun i hi g hgi e => h.out i hi g hgi e)
  refine ⟨by simp [hlen], fun i hi => ?_, fun i j hij hj g hgi => ?_, fun i hi g hgi => ?_⟩
  · by_cases e : i < xss.length
    · rw [getD_lt xss _ _ _ e, getD_lt vs _ _ _ (by omega)]
      exact hkg.row i e
    · have e2 : i = xss.length := by simp at hi; omega
      rw [getD_end xss _ _ _ e2, getD_end vs _ _ _ (by omega)]
      refine ⟨Ak, ck, hkv, ?_⟩
      rw [← hkv]
      refine hl.kept hg ?_
      cases hko : kv.ownBlock with
      | none => exact .inl rfl
      | some g => exact .inr (fun e3 => ho g hko e3.symm)
  · by_cases ej : j < xss.length
    · rw [getD_lt vs _ _ _ (by omega)] at hgi ⊢
      exact h.apart i j hij ej g hgi
    · have e2 : j = xss.length := by simp at hj; omega
      rw [getD_lt vs _ _ _ (by omega)] at hgi
      rw [getD_end vs _ _ _ (by omega)]
      exact hk i (by omega) g hgi
  · by_cases e : i < xss.length
    · rw [getD_lt vs _ _ _ (by omega)] at hgi
      have h1 := h.out i e g hgi
      have h2 := (h.lt e hgi).2
      rcases hat with hat | hat
      · rw [hat] at h1; exact h1
      · intro e3
        have : g1 = g := by simpa using e3
        omega
    · have e2 : i = xss.length := by simp at hi; omega
      rw [getD_end vs _ _ _ (by omega)] at hgi
      rcases hat with hat | hat
      · have h3 := ho g hgi
        rw [hat] at h3
        exact h3
      · intro e3
        have h4 : g1 = g := by simpa using e3
        have := (hl.lt g hgi).2
        omega

/-- the table, or what there is of it: a row of rows of the call's own -/
def Tab (w : World) (base : Nat) (v : Value) (n : Nat) (xss : List (List Int)) : Prop := ∃ vs, w.ownsRow base 51 1 v n vs ∧ Kids w base v.ownBlock vs xss
theorem Tab.on {w w' : World} {base n : Nat} {v : Value} {xss : List (List Int)} (h : Tab w base v n xss) (hb : Below w.heap.size w w') : Tab w' base v n xss := by
  obtain ⟨vs, h1, h2⟩ := h
  exact ⟨vs, own_on h1 hb, h2.on hb⟩
theorem Tab.mono {w : World} {base base' n : Nat} {v : Value} {xss : List (List Int)} (h : Tab w base v n xss) (hb : base' ≤ base) : Tab w base' v n xss := by
  obtain ⟨vs, h1, h2⟩ := h
  exact ⟨vs, own_mono h1 hb, h2.mono hb⟩
theorem Tab.lrow {w : World} {base c : Nat} {A : Option Addr} {xss : List (List Int)} (h : Tab w base (.slice A xss.length c) xss.length xss) : ∃ vs, LRow w w.heap.size A vs xss := by
  obtain ⟨vs, h1, h2⟩ := h
  obtain ⟨A', c', e', hr⟩ := Row.of_own h1
  obtain ⟨rfl, rfl⟩ : A = A' ∧ c = c' := by simpa using e'
  exact ⟨vs, hr, h2.reads⟩

theorem own_slice9 {w : World} {base size n : Nat} {e : TypeId} {v : Value} {xs : List Value} (h : w.ownsRow base e size v n xs) : ∃ A c, v = .slice A n c ∧ ∀ a, A = some a → a.spot = none := by
  rcases h.2 with ⟨rfl, rfl⟩ | ⟨g, cap, cur, rfl, _⟩
  · exact ⟨none, 0, rfl, fun a h => absurd h (by simp)⟩
  · exact ⟨some ⟨g, 0, none⟩, cap, rfl, fun a h => by simp at h; rw [← h]⟩

/-- a new table of the call's own -/
def NewTab (w : World) (xss : List (List Int)) (e : Ending) (w' : World) : Prop :=
  ∃ A c, e = .returned (.slice A xss.length c) ∧ Tab w' w.heap.size (.slice A xss.length c) xss.length xss ∧ Below w.heap.size w w'

theorem tab_step {w w1 w3 : World} {base k gl1 g1 c1 : Nat} {v kv : Value} {vs : List Value} {xss : List (List Int)} {Ak : Option Addr} {ck : Nat} {ys : List Int} (hkv : kv = .slice Ak ys.length ck)
    (ho : w.ownsRow base 51 1 v k vs) (hk : Kids w base v.ownBlock vs xss) (hn : w1.ownsRow w.heap.size 3 1 kv ys.length (ys.map (Value.int .i64))) (hb : Below w.heap.size w w1) (hbase : base ≤ w.heap.size)
    (hown : w3.ownsRow base 51 1 (.slice (some ⟨g1, 0, none⟩) (k + 1) c1) (k + 1) (vs ++ [kv])) (hgr : w1.grownBy w3 v.ownBlock) (hat : v.ownBlock = some g1 ∨ g1 = gl1) (hH : w1.heap.size ≤ gl1) :
    Tab w3 base (.slice (some ⟨g1, 0, none⟩) (k + 1) c1) (k + 1) (xss ++ [ys]) := by
  refine ⟨_, hown, Kids.snocV hkv (hk.on hb) (own_mono hn hbase) (fun i hi g hg e => ?_) (fun g hg e => ?_) hgr hat hH⟩
  · have h1 := (hk.lt hi hg).2
    have h2 := (hn.lt g e).1
    omega
  · have h1 := (ho.lt g e).2
    have h2 := (hn.lt g hg).1
    omega

end Go.Proofs.Ytpeopfkechbelaa
