
/-
  Contracts of TurnStrip on both sides; no condition beyond the length of the text.
-/
import Derived.Test.YtpeopfkechbelaaCorner
import Derived.Test.YtpeopfkechbelaaInts0
import Derived.Lib.ConvBytes
import Derived.Lib.BufferWrite
import Derived.Laws.IdiomStrings
namespace Go.Proofs.Ytpeopfkechbelaa
open Go.ChangeShapes Go.WideShapes Go.ChangeAt Go.RowKit Go.Deep Go.BigFrame
set_option linter.unusedVariables false

theorem bs_app (a b : List UInt8) : bs a ++ bs b = bs (a ++ b) := by
  unfold bs
  apply ByteArray.ext
  simp [ByteArray.data_append]
theorem bs_102 : (⟨#[102]⟩ : ByteArray) = bs [102] := rfl
theorem bs_100 : (⟨#[100]⟩ : ByteArray) = bs [100] := rfl
theorem bs_nil : (⟨#[]⟩ : ByteArray) = bs [] := rfl

/-- d and f exchanged -/
def ex (c : UInt8) : UInt8 := if c = 100 then 102 else 100
def turnL (l : List UInt8) : List UInt8 := l.reverse.map ex
def turnStrip (l : List UInt8) : List UInt8 := if isStrip l = true then turnL l else []

/-- what stands there after j letters, from behind -/
def outR (l : List UInt8) (j : Nat) : List UInt8 := (l.reverse.take j).map ex

theorem rev_take (l : List UInt8) (j : Nat) (h : j < l.length) : l.reverse.take (j + 1) = l.reverse.take j ++ [at_ l (l.length - 1 - j)] := by
  rw [List.take_succ_eq_append_getElem (by simpa using h)]
  congr 2
  rw [List.getElem_reverse]
  unfold at_
  rw [List.getD_eq_getElem?_getD, List.getElem?_eq_getElem (by omega)]
  rfl

theorem outR_zero (l : List UInt8) : outR l 0 = [] := rfl
theorem outR_succ (l : List UInt8) (j n : Nat) (h : j < l.length) (hn : n = l.length - 1 - j) : outR l (j + 1) = outR l j ++ [ex (at_ l n)] := by
  unfold outR
  rw [rev_take l j h, List.map_append, hn]
  rfl
theorem outR_size (l : List UInt8) (j : Nat) : (bs (outR l j)).size ≤ l.length := by
  rw [bs_size]
  unfold outR
  rw [List.length_map, List.length_take, List.length_reverse]
  exact Nat.min_le_right _ _
theorem outR_all (l : List UInt8) : outR l l.length = turnL l := by
  unfold outR turnL
  rw [List.take_of_length_le (by simp)]

theorem byteInfo : (Try.prog.info? 5).map (fun i => (i.zero, i.size, i.bytes)) = some (some (.int .u8 0), 1, 1) := by kernel_rfl

/-- the cell of a byte -/
def cb (c : UInt8) : Value := .int .u8 (c.toNat : Int)

/-- what stands there after j letters, exchanged -/
def exT (l : List UInt8) (j : Nat) : List UInt8 := (l.take j).map ex
theorem exT_zero (l : List UInt8) : exT l 0 = [] := rfl
theorem exT_succ (l : List UInt8) (j : Nat) (h : j < l.length) : exT l (j + 1) = exT l j ++ [ex (at_ l j)] := by
  unfold exT
  rw [take_at l j h, List.map_append]
  rfl
theorem exT_all (l : List UInt8) : exT l l.length = l.map ex := by
  unfold exT
  rw [List.take_length]
theorem exT_len (l : List UInt8) (j : Nat) (h : j ≤ l.length) : (exT l j).length = j := by
  unfold exT
  rw [List.length_map, List.length_take]
  omega

/-- a byte slice of the call's own as a text -/
theorem conv_own {w : World} {v : Value} {base n : Nat} {R : List UInt8} (h : w.ownsRow base 5 1 v n (R.map cb)) (hl : R.length = n) : (convert 22 9 v).run Try.prog w = .ok (.string (bs R)) w := by
  subst hl
  obtain ⟨A, c, rfl, hr⟩ := Row.of_own h
  rcases Nat.eq_zero_or_pos R.length with h0 | h0
  · have hR : R = [] := List.eq_nil_of_length_eq_zero h0
    subst hR
    cases A with
    | none => exact run_convert_bytes_nil w 22 5 Try.underlying22 Try.underlying5 _ _ _ Try.underlying9
    | some a => exact run_convert_bytes_back w 22 9 5 a c [] Try.underlying22 Try.underlying5 Try.underlying9 (fun j hj => absurd hj (by simp))
  · obtain ⟨b, off, rfl, hb, hc⟩ := hr.2.2 h0
    refine run_convert_bytes_back w 22 9 5 ⟨b, off, none⟩ c R Try.underlying22 Try.underlying5 Try.underlying9 (fun j hj => ?_)
    rw [add_plain, hc j (by omega)]
    simp [hj, cb]

/-- after i exchanges: the first i and the last i are in their new places -/
def revAt (l : List UInt8) (i k : Nat) : UInt8 := if k < i ∨ l.length ≤ k + i then at_ l (l.length - 1 - k) else at_ l k

theorem revAt_zero (l : List UInt8) (k : Nat) (h : k < l.length) : revAt l 0 k = at_ l k := by
  unfold revAt
  rw [if_neg (by omega)]
theorem revAt_a (l : List UInt8) (a : Nat) (h : 2 * a + 1 < l.length) : revAt l (a + 1) a = revAt l a (l.length - 1 - a) := by
  unfold revAt
  rw [if_pos (by omega), if_neg (by omega)]
theorem revAt_b (l : List UInt8) (a b : Nat) (h : 2 * a + 1 < l.length) (hb : b = l.length - 1 - a) : revAt l (a + 1) b = revAt l a a := by
  subst hb
  unfold revAt
  rw [if_pos (by omega), if_neg (by omega)]
  congr 1
  omega
theorem revAt_other (l : List UInt8) (a b k : Nat) (h : 2 * a + 1 < l.length) (hb : b = l.length - 1 - a) (h1 : k ≠ a) (h2 : k ≠ b) (h3 : k < l.length) : revAt l (a + 1) k = revAt l a k := by
  subst hb
  unfold revAt
  by_cases h : k < a ∨ l.length ≤ k + a
  · rw [if_pos h, if_pos (by omega)]
  · rw [if_neg h, if_neg (by omega)]
theorem revAt_end (l : List UInt8) (a k : Nat) (h : l.length ≤ 2 * a + 1) (h2 : 2 * a ≤ l.length + 1) (hk : k < l.length) : revAt l a k = at_ l (l.length - 1 - k) := by
  unfold revAt
  by_cases h : k < a ∨ l.length ≤ k + a
  · rw [if_pos h]
  · rw [if_neg h]
    congr 1
    omega

theorem grown_drew {a b : World} {r : Option Nat} (h : a.grownBy b r) : a.grownBy b.drew r := ⟨h.os, h.tape, h.output, h.size, h.block⟩

theorem back_list (R : List UInt8) : bs R = bs R := rfl

theorem bytes_below (w : World) (e : TypeId) (s : ByteArray) : Below w.heap.size w (Lib.bytesWorld w e s) :=
  ⟨rfl, rfl, rfl, by rw [Lib.bytesWorld_size]; omega, fun j hj => Lib.bytesWorld_at_old w e s j hj⟩

theorem bytes_frozen (w : World) (e : TypeId) (s : ByteArray) (k : Nat) (hk : k < s.size) : (Lib.bytesWorld w e s).frozen? ⟨w.heap.size, k, none⟩ = false := by
  have h : s.size ≤ (Lib.bytesCells w e s).size := by
    unfold Lib.bytesCells
    rw [Array.size_append, Array.size_map]
    exact Nat.le_add_right _ _
  simp only [World.frozen?, Lib.bytesWorld_at_new]
  simp
  omega

end Go.Proofs.Ytpeopfkechbelaa
