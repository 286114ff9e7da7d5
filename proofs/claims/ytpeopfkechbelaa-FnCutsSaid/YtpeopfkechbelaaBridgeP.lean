
/-
  Plain law of bridges: what a bridge is on the letters of a strip; no program in sight.
-/
import Derived.Test.YtpeopfkechbelaaAbove
namespace Go.Proofs.Ytpeopfkechbelaa
open Go.ChangeShapes Go.WideShapes Go.ChangeAt Go.RowKit Go.Deep Go.BigFrame
set_option linter.unusedVariables false
set_option linter.unusedSimpArgs false

/-- the letters from a to b -/
def cutL (l : List UInt8) (a b : Nat) : List UInt8 := (l.drop a).take (b - a)
theorem cutL_len {l : List UInt8} {a b : Nat} (h1 : a ≤ b) (h2 : b ≤ l.length) : (cutL l a b).length = b - a := by
  unfold cutL
  rw [List.length_take, List.length_drop]
  omega
theorem extract_list (s : ByteArray) (a b : Nat) : (s.extract a b).data.toList = cutL s.data.toList a b := by
  simp [cutL]
theorem extract_size' {s : ByteArray} {a b : Nat} (h1 : a ≤ b) (h2 : b ≤ s.size) : (s.extract a b).size = b - a := by
  rw [← size_list, extract_list, cutL_len h1 (by rw [size_list]; exact h2)]

/-- two places of a strip between which a bridge may lie -/
def glued (l : List UInt8) (fr to : Int) : Bool := isStrip l && (decide (0 ≤ fr) && (decide (fr < to) && decide (to ≤ (l.length : Int))))
/-- the bridge fits upon the part -/
def fits (st own : List UInt8) : Bool := decide (st.length = own.length) && (decide (fw st = fw own) && (decide (dn st = dn own) && aboveB st own))
def bridgeOk (l : List UInt8) (fr to : Int) (st : List UInt8) : Bool := glued l fr to && fits st (cutL l fr.toNat to.toNat)
theorem glued_parts {l : List UInt8} {fr to : Int} (h : glued l fr to = true) : isStrip l = true ∧ 0 ≤ fr ∧ fr < to ∧ to ≤ (l.length : Int) := by
  simpa [glued, Bool.and_eq_true] using h
theorem fits_len {st own : List UInt8} (h : ¬ st.length = own.length) : fits st own = false := by simp [fits, h]
theorem fits_fw {st own : List UInt8} (h : ¬ fw st = fw own) : fits st own = false := by simp [fits, h]
theorem fits_dn {st own : List UInt8} (h : ¬ dn st = dn own) : fits st own = false := by simp [fits, h]
theorem fits_yes {st own : List UInt8} (h1 : st.length = own.length) (h2 : fw st = fw own) (h3 : dn st = dn own) : fits st own = aboveB st own := by simp [fits, h1, h2, h3]

/-- the strip with the bridge in its place -/
def bridged (l : List UInt8) (fr to : Int) (st : List UInt8) : List UInt8 := if bridgeOk l fr to st = true then l.take fr.toNat ++ (st ++ l.drop to.toNat) else []
/-- the bridge touches the strip at its ends alone -/
def loose (l : List UInt8) (fr to : Int) (st : List UInt8) : Bool := bridgeOk l fr to st && (List.range st.length).all fun k => decide (k = 0) || !decide (fw (st.take k) = fw ((cutL l fr.toNat to.toNat).take k))

theorem cutL_split (l : List UInt8) (a b : Nat) (h : a ≤ b) : l = l.take a ++ (cutL l a b ++ l.drop b) := by
  have e : l.drop b = (l.drop a).drop (b - a) := by rw [List.drop_drop]; congr 1; omega
  unfold cutL
  rw [e, List.take_append_drop, List.take_append_drop]
theorem cutL_counts {l : List UInt8} {a b : Nat} (h : isStrip l = true) (h1 : a ≤ b) (h2 : b ≤ l.length) : dn (cutL l a b) + fw (cutL l a b) = b - a ∧ dn (cutL l a b) ≤ 8 ∧ fw (cutL l a b) ≤ 8 := by
  have e := cutL_split l a b h1
  have hl := cutL_len (l := l) h1 h2
  obtain ⟨p1, p2, p3, p4, p5⟩ := isStrip_parts h
  have b1 := both_le (l.take a)
  have b2 := both_le (cutL l a b)
  have b3 := both_le (l.drop b)
  have d1 : dn l = dn (l.take a) + (dn (cutL l a b) + dn (l.drop b)) := by
    conv => lhs; rw [e]
    rw [dn_app, dn_app]
  have f1 : fw l = fw (l.take a) + (fw (cutL l a b) + fw (l.drop b)) := by
    conv => lhs; rw [e]
    rw [fw_app, fw_app]
  have l1 : (l.take a).length = a := by rw [List.length_take]; omega
  have l2 : (l.drop b).length = l.length - b := List.length_drop
  omega

end Go.Proofs.Ytpeopfkechbelaa
