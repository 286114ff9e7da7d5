
/-
  Plain law of bridges: the strip with a bridge in place lies above the strip, and the room under it is greater by what lies between; no program in sight.
-/
import Derived.Test.YtpeopfkechbelaaBridge3
import Derived.Test.YtpeopfkechbelaaAreaP
import Derived.Test.YtpeopfkechbelaaAreasP
import Derived.Test.YtpeopfkechbelaaBCount
namespace Go.Proofs.Ytpeopfkechbelaa
open Go.ChangeShapes Go.WideShapes Go.ChangeAt Go.RowKit Go.Deep Go.BigFrame
set_option linter.unusedVariables false
set_option linter.unusedSimpArgs false

theorem fw_take_app (x y : List UInt8) (k : Nat) : fw ((x ++ y).take k) = fw (x.take k) + fw (y.take (k - x.length)) := by rw [List.take_append, fw_app]

/-- a strip l, a part from a to b, a bridge st upon it -/
structure Upon (l : List UInt8) (a b : Nat) (st : List UInt8) : Prop where
  strip : isStrip l = true
  lt : a < b
  le : b ≤ l.length
  len : st.length = b - a
  fws : fw st = fw (cutL l a b)
  dns : dn st = dn (cutL l a b)
  above : ∀ k, fw ((cutL l a b).take k) ≤ fw (st.take k)
theorem upon_of {l st : List UInt8} {fr to : Int} (h : bridgeOk l fr to st = true) : ∃ a b : Nat, fr = a ∧ to = b ∧ Upon l a b st := by
  simp only [bridgeOk, Bool.and_eq_true] at h
  obtain ⟨g0, g1, g2, g3⟩ := glued_parts h.1
  obtain ⟨a, rfl⟩ := Int.eq_ofNat_of_zero_le g1
  obtain ⟨b, rfl⟩ := Int.eq_ofNat_of_zero_le (show 0 ≤ to by omega)
  have f := h.2
  simp only [fits, Bool.and_eq_true, decide_eq_true_eq, Int.toNat_natCast] at f
  obtain ⟨f1, f2, f3, f4⟩ := f
  have hl : (cutL l a b).length = b - a := cutL_len (by omega) (by omega)
  exact ⟨a, b, rfl, rfl, g0, by omega, by omega, by omega, f2, f3, (aboveB_iff f1).1 f4⟩
theorem Upon.ok {l st : List UInt8} {a b : Nat} (h : Upon l a b st) : bridgeOk l a b st = true := by
  have hl : (cutL l a b).length = b - a := cutL_len (Nat.le_of_lt h.lt) h.le
  have e : st.length = (cutL l a b).length := by rw [h.len, hl]
  have h1 := h.lt
  have h2 := h.le
  simp only [bridgeOk, glued, fits, Bool.and_eq_true, decide_eq_true_eq, Int.toNat_natCast]
  exact ⟨⟨h.strip, by omega, by omega, by omega⟩, e, h.fws, h.dns, (aboveB_iff e).2 h.above⟩
theorem Upon.own {l st : List UInt8} {a b : Nat} (h : Upon l a b st) : Upon l a b (cutL l a b) :=
  ⟨h.strip, h.lt, h.le, cutL_len (Nat.le_of_lt h.lt) h.le, rfl, rfl, fun _ => Nat.le_refl _⟩

/-- the strip with the bridge in place -/
def withB (l : List UInt8) (a b : Nat) (st : List UInt8) : List UInt8 := l.take a ++ (st ++ l.drop b)
section
variable {l st : List UInt8} {a b : Nat}
theorem withB_fk (h : Upon l a b st) (k : Nat) : fw ((withB l a b st).take k) + fw ((cutL l a b).take (k - a)) = fw (l.take k) + fw (st.take (k - a)) := by
  have e := cutL_split l a b (Nat.le_of_lt h.lt)
  have hl : (cutL l a b).length = b - a := cutL_len (Nat.le_of_lt h.lt) h.le
  have hb := h.lt
  have hc := h.le
  have ha : (l.take a).length = a := by rw [List.length_take]; omega
  have e2 : fw (l.take k) = fw ((l.take a).take k) + (fw ((cutL l a b).take (k - a)) + fw ((l.drop b).take (k - a - (b - a)))) := by
    conv => lhs; rw [e]
    rw [fw_take_app, fw_take_app, ha, hl]
  unfold withB
  rw [fw_take_app, fw_take_app, ha, h.len, e2]
  omega
theorem withB_own (h : Upon l a b st) : withB l a b (cutL l a b) = l := (cutL_split l a b (Nat.le_of_lt h.lt)).symm
theorem withB_counts (h : Upon l a b st) : fw (withB l a b st) = fw l ∧ dn (withB l a b st) = dn l ∧ (withB l a b st).length = l.length := by
  have e := withB_own h
  have f1 : fw l = fw (l.take a) + (fw (cutL l a b) + fw (l.drop b)) := by
    conv => lhs; rw [← e]
    unfold withB; rw [fw_app, fw_app]
  have f2 : dn l = dn (l.take a) + (dn (cutL l a b) + dn (l.drop b)) := by
    conv => lhs; rw [← e]
    unfold withB; rw [dn_app, dn_app]
  have hl : (cutL l a b).length = b - a := cutL_len (Nat.le_of_lt h.lt) h.le
  have f3 : l.length = (l.take a).length + ((cutL l a b).length + (l.drop b).length) := by
    conv => lhs; rw [← e]
    unfold withB; rw [List.length_append, List.length_append]
  unfold withB
  rw [fw_app, fw_app, dn_app, dn_app, List.length_append, List.length_append, h.len, h.fws, h.dns]
  omega
theorem withB_frame (h : Upon l a b st) : sameFrame (withB l a b st) l = true := by
  obtain ⟨c1, c2, c3⟩ := withB_counts h
  obtain ⟨p1, p2, p3, p4, p5⟩ := isStrip_parts h.strip
  have hs : isStrip (withB l a b st) = true := strip_of (d := dn l) (f := fw l) c2 c1 (by omega) ⟨by omega, by omega⟩ ⟨by omega, by omega⟩
  simp only [sameFrame, Bool.and_eq_true, decide_eq_true_eq]
  exact ⟨hs, h.strip, c2, c1⟩
theorem withB_above (h : Upon l a b st) : isAbove (withB l a b st) l = true :=
  isAbove_mk (withB_frame h) fun k => by have := withB_fk h k; have := h.above (k - a); omega
theorem room_hts {l : List UInt8} (h : isStrip l = true) : roomOf l = (hts l).sum := by
  unfold roomOf sumI
  rw [if_pos h, hts_all h]
theorem withB_room (h : Upon l a b st) : areaOf l (withB l a b st) = roomOf (withB l a b st) - roomOf l ∧ (0 < areaOf l (withB l a b st) ∨ st = cutL l a b) := by
  have ha := withB_above h
  have e1 := (area_above ha).1
  have e2 := (hts_above ha).2
  rw [room_hts (sameFrame_parts (withB_frame h)).1, room_hts h.strip, e1, e2]
  refine ⟨by omega, ?_⟩
  by_cases g : gap (withB l a b st) l = 0
  · right
    have e3 : withB l a b (cutL l a b) = withB l a b st := (withB_own h).trans (gap_zero ha g)
    unfold withB at e3
    exact (List.append_cancel_right (List.append_cancel_left e3)).symm
  · left; omega
theorem take_all_counts {x : List UInt8} (h : dn x + fw x = x.length) : ∀ k, k ≤ x.length → dn (x.take k) + fw (x.take k) = k := by
  intro k hk
  have e : x = x.take k ++ x.drop k := (List.take_append_drop k x).symm
  have b1 := both_le (x.take k)
  have b2 := both_le (x.drop k)
  have e1 : dn x = dn (x.take k) + dn (x.drop k) := by
    conv => lhs; rw [e]
    rw [dn_app]
  have e2 : fw x = fw (x.take k) + fw (x.drop k) := by
    conv => lhs; rw [e]
    rw [fw_app]
  rw [List.length_take] at b1
  rw [List.length_drop] at b2
  omega
theorem letters_ext {x y : List UInt8} (hx : dn x + fw x = x.length) (hy : dn y + fw y = y.length) (hlen : x.length = y.length) (h : ∀ k, k ≤ x.length → fw (x.take k) = fw (y.take k)) : x = y := by
  refine List.ext_getElem hlen fun j h1 h2 => ?_
  have e1 : x[j] = at_ x j := by simp [at_, List.getD, h1]
  have e2 : y[j] = at_ y j := by simp [at_, List.getD, h2]
  have a := h j (by omega)
  have b := h (j + 1) (by omega)
  have c1 := take_all_counts hx j (by omega)
  have c2 := take_all_counts hx (j + 1) (by omega)
  have d1 := take_all_counts hy j (by omega)
  have d2 := take_all_counts hy (j + 1) (by omega)
  rw [fw_take x j h1, fw_take y j h2] at b
  rw [fw_take x j h1, dn_take x j h1] at c2
  rw [fw_take y j h2, dn_take y j h2] at d2
  rw [e1, e2]
  have k1 : at_ x j = 100 ∨ at_ x j = 102 := by
    by_cases p : at_ x j = 100
    · exact .inl p
    · by_cases q : at_ x j = 102
      · exact .inr q
      · rw [if_neg p, if_neg q] at c2; omega
  have k2 : at_ y j = 100 ∨ at_ y j = 102 := by
    by_cases p : at_ y j = 100
    · exact .inl p
    · by_cases q : at_ y j = 102
      · exact .inr q
      · rw [if_neg p, if_neg q] at d2; omega
  rcases k1 with p | p <;> rcases k2 with q | q
  · rw [p, q]
  · rw [if_neg (by rw [p]; decide), if_pos q] at b; omega
  · rw [if_pos p, if_neg (by rw [q]; decide)] at b; omega
  · rw [p, q]
theorem path_on {x y : List UInt8} (hx : dn x + fw x = x.length) (hle : ∀ k, k ≤ x.length → fw (y.take k) ≤ fw (x.take k)) : PathOn y (dn x) x.length (cf x) :=
  ⟨by simp [cf, fw], fun k hk => cf_step x k hk, hle, fun k hk => by
    have a := take_all_counts hx k hk
    have b : dn (x.take k) ≤ dn x := (List.take_sublist k x).count_le _
    unfold cf
    omega⟩
theorem bridges_two (h : Upon l a b st) : 1 ≤ bridgeCount l a b ∧ (1 < bridgeCount l a b ∨ st = cutL l a b) := by
  have hok := h.ok
  have hlt := h.lt
  have hle := h.le
  simp only [bridgeOk, Bool.and_eq_true] at hok
  have e : bridgeCount l a b = pathsAbove (cutL l a b) := by unfold bridgeCount; rw [if_pos hok.1]; rfl
  rw [e]
  obtain ⟨c1, c2, c3⟩ := cutL_counts h.strip (Nat.le_of_lt h.lt) h.le
  have hl : (cutL l a b).length = b - a := cutL_len (Nat.le_of_lt h.lt) h.le
  have f := h.fws
  have d := h.dns
  have n := h.len
  have ab := h.above
  generalize cutL l a b = o at *
  have ho : dn o + fw o = o.length := by omega
  have hs : dn st + fw st = st.length := by omega
  have p1 : PathOn o (dn o) o.length (cf o) := path_on ho fun k _ => Nat.le_refl _
  have p2 : PathOn o (dn o) o.length (cf st) := by
    have := path_on hs (y := o) fun k _ => ab k
    rw [d, show st.length = o.length by omega] at this
    exact this
  have t1 : cf o o.length = fw o := by unfold cf; rw [List.take_length]
  have t2 : cf st o.length = fw o := by unfold cf; rw [show o.length = st.length by omega, List.take_length, f]
  unfold pathsAbove
  constructor
  · have := rowF_path p1 o.length (Nat.le_refl _)
    rw [t1] at this
    exact this
  · by_cases e2 : st = o
    · exact .inr e2
    · left
      have hx : ∃ j, j < o.length ∧ cf st j ≠ cf o j := by
        refine Classical.byContradiction fun hno => e2 ?_
        refine letters_ext hs ho (by omega) fun k hk => ?_
        by_cases e3 : k = o.length
        · have := t1.symm.trans rfl
          rw [e3]
          exact t2.trans t1.symm
        · exact Classical.byContradiction fun h => hno ⟨k, by omega, h⟩
      have := rowF_two p2 p1 (fun k _ => ab k) o.length (Nat.le_refl _) (by rw [t1, t2]) hx
      rw [t2] at this
      omega
/-- the bridge touches the strip behind k steps -/
theorem touch_iff (h : Upon l a b st) (k : Nat) : (fw (l.take k) = fw ((withB l a b st).take k)) ↔ fw (st.take (k - a)) = fw ((cutL l a b).take (k - a)) := by
  have := withB_fk h k
  omega
theorem loose_no (h : Upon l a b st) {k : Nat} (h1 : a + 1 ≤ k) (h2 : k < b) (e : fw (l.take k) = fw ((withB l a b st).take k)) : looseB l a b st = false := by
  unfold looseB
  rw [h.ok, Int.toNat_natCast, Int.toNat_natCast]
  have n := h.len
  rw [apartB_no (k := k - a) (by omega) (by omega) ((touch_iff h k).1 e)]
  rfl
theorem loose_yes (h : Upon l a b st) (hno : ∀ k, a + 1 ≤ k → k < b → ¬ fw (l.take k) = fw ((withB l a b st).take k)) : looseB l a b st = true := by
  unfold looseB
  rw [h.ok, Int.toNat_natCast, Int.toNat_natCast]
  rw [apartB_yes h.len fun j h1 h2 e => hno (j + a) (by omega) (by omega) ((touch_iff h (j + a)).2 (by rw [Nat.add_sub_cancel]; exact e))]
  rfl
end

end Go.Proofs.Ytpeopfkechbelaa
