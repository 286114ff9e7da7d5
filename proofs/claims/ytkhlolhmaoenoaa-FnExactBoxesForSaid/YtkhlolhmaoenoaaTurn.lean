
/-
  Contracts of TurnStrip on both sides; no condition beyond the length of the text.
-/
import Derived.Test.YtkhlolhmaoenoaaCorner
import Derived.Test.YtkhlolhmaoenoaaInts0
import Derived.Lib.ConvBytes
import Derived.Lib.BufferWrite
import Derived.Laws.IdiomStrings
namespace Go.Proofs.Ytkhlolhmaoenoaa
open Go.ChangeShapes Go.WideShapes Go.ChangeAt Go.RowKit Go.Deep Go.BigFrame
set_option linter.unusedVariables false

theorem bs_app (a b : List UInt8) : bs a ++ bs b = bs (a ++ b) := by
  unfold bs
  apply ByteArray.ext
  simp [ByteArray.data_append]
theorem bs_102 : (⟨#[102]⟩ : ByteArray) = bs [102] := rfl
theorem bs_100 : (⟨#[100]⟩ : ByteArray) = bs [100] := rfl
theorem bs_nil : (⟨#[]⟩ : ByteArray) = bs [] := rfl

/-- d and f exchanged -/
def ex (c : UInt8) : UInt8 := if c = 100 then 102 else 100
def turnL (l : List UInt8) : List UInt8 := l.reverse.map ex
def turnStrip (l : List UInt8) : List UInt8 := if isStrip l = true then turnL l else []

/-- what stands there after j letters, from behind -/
def outR (l : List UInt8) (j : Nat) : List UInt8 := (l.reverse.take j).map ex

theorem rev_take (l : List UInt8) (j : Nat) (h : j < l.length) : l.reverse.take (j + 1) = l.reverse.take j ++ [at_ l (l.length - 1 - j)] := by
  rw [List.take_succ_eq_append_getElem (by simpa using h)]
  congr 2
  rw [List.getElem_reverse]
  unfold at_
  rw [List.getD_eq_getElem?_getD, List.getElem?_eq_getElem (by omega)]
  rfl

theorem outR_zero (l : List UInt8) : outR l 0 = [] := rfl
theorem outR_succ (l : List UInt8) (j n : Nat) (h : j < l.length) (hn : n = l.length - 1 - j) : outR l (j + 1) = outR l j ++ [ex (at_ l n)] := by
  unfold outR
  rw [rev_take l j h, List.map_append, hn]
  rfl
theorem outR_size (l : List UInt8) (j : Nat) : (bs (outR l j)).size ≤ l.length := by
  rw [bs_size]
  unfold outR
  rw [List.length_map, List.length_take, List.length_reverse]
  exact Nat.min_le_right _ _
theorem outR_all (l : List UInt8) : outR l l.length = turnL l := by
  unfold outR turnL
  rw [List.take_of_length_le (by simp)]

theorem specTurnStrip_any (s : ByteArray) (w : World) (hs : s.size ≤ 4294967296) : Calls Try.prog 47 #[.string s] w fun e w' => e = .returned (.string (bs (turnStrip s.data.toList))) ∧ w = w' := by
  by_cases h : isStrip s.data.toList = true
  · rw [show turnStrip s.data.toList = turnL s.data.toList from if_pos h]
    obtain ⟨l, hl⟩ : ∃ l, l = s.data.toList := ⟨_, rfl⟩
    have hsz : l.length = s.size := by rw [hl, size_list]
    have hstr := fun w => specIsStrip_any s w hs
    rw [h] at hstr
    rw [← hl]
    have HL := Lib.hid hl
    have HZ := Lib.hid hsz
    have HS := Lib.hid hstr
    clear hl hsz hstr h
    go_enter Try.func47, Try.ntmps47
    go_wp2_with fail
    refine (HS.out _).mono ?_
    rintro e w1 ⟨rfl, rfl⟩
    go_wp2_with fail
    go_loop [3, 4] (fun o i => ∃ j : Nat, j ≤ s.size ∧ i = .int .i64 ((s.size : Int) - 1 - j) ∧ o = .string (bs (outR l j))) (fun _ i => (intOf i + 1).toNat)
    case atStart => exact ⟨0, Nat.zero_le _, by simp, rfl⟩
    case round =>
      obtain ⟨j, hj, rfl, rfl⟩ := hrel
      by_cases hlt : j < s.size
      · have hjl : j < l.length := by rw [HZ.out]; exact hlt
        obtain ⟨n, hn⟩ : ∃ n : Nat, n = s.size - 1 - j := ⟨_, rfl⟩
        have HR := Lib.hid (outR_succ l j n hjl (by rw [HZ.out]; exact hn))
        have hn2 : (s.size : Int) - 1 - j = (n : Int) := by omega
        rw [hn2]
        have hns : n < s.size := by omega
        have hg := at_get s n hns
        rw [← HL.out] at hg
        have HN2 := Lib.hid hn2
        clear hn hn2
        have hbz : (bs (outR l j)).size ≤ 4294967296 := Nat.le_trans (outR_size l j) (by rw [HZ.out]; exact hs)
        generalize at_ l n = c at *
        by_cases h1 : c = 100
        · have hb : ((c.toNat : Int) == 100) = true := by rw [h1]; rfl
          have H1 := Lib.hid h1
          clear h1
          go_wp2_with fail
          go_round
          case rel =>
            refine ⟨j + 1, by omega, by have := HN2.out; congr 1; omega, ?_⟩
            rw [HR.out, H1.out, ← bs_app]
            rfl
          case measure => first | (simp [intOf]; done) | (simp [intOf]; omega)
        · have hb : ((c.toNat : Int) == 100) = false := by rw [show (100 : Int) = ((100 : UInt8).toNat : Int) from rfl, u8_eq]; simp [h1]
          have H1 := Lib.hid h1
          clear h1
          go_wp2_with fail
          go_round
          case rel =>
            refine ⟨j + 1, by omega, by have := HN2.out; congr 1; omega, ?_⟩
            rw [HR.out, ex, if_neg H1.out, ← bs_app]
            rfl
          case measure => first | (simp [intOf]; done) | (simp [intOf]; omega)
      · obtain rfl : j = s.size := by omega
        have e1 := outR_all l
        rw [HZ.out] at e1
        have HE := Lib.hid e1
        clear e1
        go_wp2_with fail
        go_ret
        exact ⟨by rw [← HE.out]; rfl, rfl⟩
  · have h' : isStrip s.data.toList = false := by simpa using h
    rw [show turnStrip s.data.toList = [] from if_neg h]
    go_enter Try.func47, Try.ntmps47
    go_wp2_with fail
    refine (specIsStrip_any _ _ hs).mono ?_
    rw [h']
    rintro e w1 ⟨rfl, rfl⟩
    go_wp2_with fail
    go_ret
    exact ⟨rfl, rfl⟩

theorem byteInfo : (Try.prog.info? 5).map (fun i => (i.zero, i.size, i.bytes)) = some (some (.int .u8 0), 1, 1) := by kernel_rfl

/-- the cell of a byte -/
def cb (c : UInt8) : Value := .int .u8 (c.toNat : Int)

/-- what stands there after j letters, exchanged -/
def exT (l : List UInt8) (j : Nat) : List UInt8 := (l.take j).map ex
theorem exT_zero (l : List UInt8) : exT l 0 = [] := rfl
theorem exT_succ (l : List UInt8) (j : Nat) (h : j < l.length) : exT l (j + 1) = exT l j ++ [ex (at_ l j)] := by
  unfold exT
  rw [take_at l j h, List.map_append]
  rfl
theorem exT_all (l : List UInt8) : exT l l.length = l.map ex := by
  unfold exT
  rw [List.take_length]
theorem exT_len (l : List UInt8) (j : Nat) (h : j ≤ l.length) : (exT l j).length = j := by
  unfold exT
  rw [List.length_map, List.length_take]
  omega

/-- a byte slice of the call's own as a text -/
theorem conv_own {w : World} {v : Value} {base n : Nat} {R : List UInt8} (h : w.ownsRow base 5 1 v n (R.map cb)) (hl : R.length = n) : (convert 41 9 v).run Try.prog w = .ok (.string (bs R)) w := by
  subst hl
  obtain ⟨A, c, rfl, hr⟩ := Row.of_own h
  rcases Nat.eq_zero_or_pos R.length with h0 | h0
  · have hR : R = [] := List.eq_nil_of_length_eq_zero h0
    subst hR
    cases A with
    | none => exact run_convert_bytes_nil w 41 5 Try.underlying41 Try.underlying5 _ _ _ Try.underlying9
    | some a => exact run_convert_bytes_back w 41 9 5 a c [] Try.underlying41 Try.underlying5 Try.underlying9 (fun j hj => absurd hj (by simp))
  · obtain ⟨b, off, rfl, hb, hc⟩ := hr.2.2 h0
    refine run_convert_bytes_back w 41 9 5 ⟨b, off, none⟩ c R Try.underlying41 Try.underlying5 Try.underlying9 (fun j hj => ?_)
    rw [add_plain, hc j (by omega)]
    simp [hj, cb]

theorem exchanged_any (s : ByteArray) (w : World) (hs : s.size ≤ 4294967296) : Calls Try.prog 92 #[.string s] w fun e w' => e = .returned (.string (bs (s.data.toList.map ex))) ∧ Below w.heap.size w w' := by
  obtain ⟨i0, hi0, hz0, hz1, hz2⟩ := info_parts byteInfo
  obtain ⟨l, hl⟩ : ∃ l, l = s.data.toList := ⟨_, rfl⟩
  have hsz : l.length = s.size := by rw [hl, size_list]
  rw [← hl]
  have hall := exT_all l
  rw [hsz] at hall
  generalize l.map ex = R at *
  have HA := Lib.hid hall
  have HL := Lib.hid hl
  have HZ := Lib.hid hsz
  clear hl hsz hall
  go_enter Try.func92, Try.ntmps92
  go_wp2_with fail
  go_loopw [3, 8] (fun o i wr => ∃ j : Nat, j ≤ s.size ∧ i = .int .i64 j ∧ wr.ownsRow w.heap.size 5 1 o j ((exT l j).map cb) ∧ Below w.heap.size w wr) (fun _ i _ => s.size - (intOf i).toNat)
  case atStart => exact ⟨0, Nat.zero_le _, rfl, World.ownsRow_made w #[] 0 (Nat.le_refl _) (Nat.zero_le _) (by simp), (by repeat' (first | exact Below.refl _ _ | assumption | (refine Below.drew ?_) | (refine below_drewN ?_ _) | (refine below_thru ?_ (by assumption)) | (refine below_alloc ?_ _) | (refine Below.setCell ?_ (by first | omega | (simp; done) | (simp; omega)) _) | (refine Below.alloc ?_ (by first | omega | (simp; done) | (simp; omega)) _)))⟩
  case round =>
    obtain ⟨j, hj, rfl, hown, hbr⟩ := hrel
    by_cases hlt : j < s.size
    · have hjl : j < l.length := by rw [HZ.out]; exact hlt
      have HR := Lib.hid (exT_succ l j hjl)
      have hg := at_get s j hlt
      rw [← HL.out] at hg
      have hsz : w.heap.size ≤ wr.heap.size := hbr.size
      have H3 := Lib.hid hown
      have H4 := Lib.hid hbr
      clear hown hbr
      generalize at_ l j = c at *
      by_cases h1 : c = 100
      · have hb : ((c.toNat : Int) == 100) = true := by rw [h1]; rfl
        have H1 := Lib.hid h1
        clear h1
        go_wp2_with (at_builtin; refine wpList_append_own _ rfl _ _ 41 rfl w.heap.size 5 i0 (.int .u8 0) 1 1 Try.underlying41 hi0 hz0 hz1 hz2 rfl (by decide) _ _ _ rfl (H3.out.alloc _) ⟨wr.heap.size, 0, none⟩ 1 1 [cb 102] rfl rfl (news_one _ _ _) (one_one rfl) (by unfold maxLen; omega) (by omega) (by simp; omega) ?_; intro v1 w1 hown1 hgr1 _)
        have hb1 := below_app H4.out H3.out hgr1
        go_wp2_with fail
        go_roundw
        case rel =>
          refine ⟨j + 1, by omega, by go_num, ?_, hb1⟩
          rw [HR.out, List.map_append, H1.out]
          exact hown1
        case measure => simp [intOf]; omega
      · have hb : ((c.toNat : Int) == 100) = false := by rw [show (100 : Int) = ((100 : UInt8).toNat : Int) from rfl, u8_eq]; simp [h1]
        have H1 := Lib.hid h1
        clear h1
        go_wp2_with (at_builtin; refine wpList_append_own _ rfl _ _ 41 rfl w.heap.size 5 i0 (.int .u8 0) 1 1 Try.underlying41 hi0 hz0 hz1 hz2 rfl (by decide) _ _ _ rfl (H3.out.alloc _) ⟨wr.heap.size, 0, none⟩ 1 1 [cb 100] rfl rfl (news_one _ _ _) (one_one rfl) (by unfold maxLen; omega) (by omega) (by simp; omega) ?_; intro v1 w1 hown1 hgr1 _)
        have hb1 := below_app H4.out H3.out hgr1
        go_wp2_with fail
        go_roundw
        case rel =>
          refine ⟨j + 1, by omega, by go_num, ?_, hb1⟩
          rw [HR.out, List.map_append, ex, if_neg H1.out]
          exact hown1
        case measure => simp [intOf]; omega
    · obtain rfl : j = s.size := by omega
      have hl := exT_len l s.size (by rw [HZ.out]; exact Nat.le_refl _)
      rw [HA.out] at hown hl
      have hcv := fun w' (h : w'.ownsRow w.heap.size 5 1 u3 s.size (R.map cb)) => conv_own (w := w') (v := u3) h hl
      have HO := Lib.hid hown
      have HC := Lib.hid (hcv _ hown)
      clear hown hcv
      have hc2 := HC.out
      go_wp2_with fail
      go_ret
      exact ⟨rfl, hbr⟩

/-- after i exchanges: the first i and the last i are in their new places -/
def revAt (l : List UInt8) (i k : Nat) : UInt8 := if k < i ∨ l.length ≤ k + i then at_ l (l.length - 1 - k) else at_ l k

theorem revAt_zero (l : List UInt8) (k : Nat) (h : k < l.length) : revAt l 0 k = at_ l k := by
  unfold revAt
  rw [if_neg (by omega)]
theorem revAt_a (l : List UInt8) (a : Nat) (h : 2 * a + 1 < l.length) : revAt l (a + 1) a = revAt l a (l.length - 1 - a) := by
  unfold revAt
  rw [if_pos (by omega), if_neg (by omega)]
theorem revAt_b (l : List UInt8) (a b : Nat) (h : 2 * a + 1 < l.length) (hb : b = l.length - 1 - a) : revAt l (a + 1) b = revAt l a a := by
  subst hb
  unfold revAt
  rw [if_pos (by omega), if_neg (by omega)]
  congr 1
  omega
theorem revAt_other (l : List UInt8) (a b k : Nat) (h : 2 * a + 1 < l.length) (hb : b = l.length - 1 - a) (h1 : k ≠ a) (h2 : k ≠ b) (h3 : k < l.length) : revAt l (a + 1) k = revAt l a k := by
  subst hb
  unfold revAt
  by_cases h : k < a ∨ l.length ≤ k + a
  · rw [if_pos h, if_pos (by omega)]
  · rw [if_neg h, if_neg (by omega)]
theorem revAt_end (l : List UInt8) (a k : Nat) (h : l.length ≤ 2 * a + 1) (h2 : 2 * a ≤ l.length + 1) (hk : k < l.length) : revAt l a k = at_ l (l.length - 1 - k) := by
  unfold revAt
  by_cases h : k < a ∨ l.length ≤ k + a
  · rw [if_pos h]
  · rw [if_neg h]
    congr 1
    omega

theorem grown_drew {a b : World} {r : Option Nat} (h : a.grownBy b r) : a.grownBy b.drew r := ⟨h.os, h.tape, h.output, h.size, h.block⟩

theorem reverse_any (g c n : Nat) (l : List UInt8) (w : World) (hl : l.length = n) (hn : n ≤ 4294967296) (hc : ∀ k, k < n → w.cell? ⟨g, k, none⟩ = some (cb (at_ l k))) (hf : ∀ k, k < n → w.frozen? ⟨g, k, none⟩ = false) :
    Calls Try.prog 109 #[.slice (some ⟨g, 0, none⟩) n c] w fun e w' => e = .returned (.tuple #[]) ∧ (∀ k, k < n → w'.cell? ⟨g, k, none⟩ = some (cb (at_ l (n - 1 - k)))) ∧ w.grownBy w' (some g) := by
  have HL := Lib.hid hl
  have HC := Lib.hid hc
  have HF := Lib.hid hf
  clear hl hc hf
  go_enter Try.func109, Try.ntmps109
  go_wp2_with fail
  go_loopw [2, 3] (fun i j wr => ∃ a : Nat, 2 * a ≤ n + 1 ∧ i = .int .i64 a ∧ j = .int .i64 ((n : Int) - 1 - a) ∧ (∀ k, k < n → wr.cell? ⟨g, k, none⟩ = some (cb (revAt l a k))) ∧ (∀ k, k < n → wr.frozen? ⟨g, k, none⟩ = false) ∧ w.grownBy wr (some g)) (fun i _ _ => n + 1 - (intOf i).toNat)
  case atStart => exact ⟨0, by omega, rfl, by simp, fun k hk => by rw [revAt_zero l k (by rw [HL.out]; exact hk)]; exact HC.out k hk, HF.out, World.grownBy.refl _ _⟩
  case round =>
    obtain ⟨a, ha, rfl, rfl, hc, hf, hgr⟩ := hrel
    by_cases hlt : 2 * a + 1 < n
    · have h1 : (a : Int) < (n : Int) - 1 - a := by omega
      obtain ⟨b, hb⟩ : ∃ b : Nat, b = n - 1 - a := ⟨_, rfl⟩
      have hb2 : (n : Int) - 1 - a = (b : Int) := by omega
      rw [hb2]
      have hab : a < b := by omega
      have hbn : b < n := by omega
      have c1 := hc a (by omega)
      have c2 := hc b hbn
      have f1 := hf a (by omega)
      have f2 := hf b hbn
      have H1 := Lib.hid hc
      have H2 := Lib.hid hf
      have H3 := Lib.hid hgr
      have H4 := Lib.hid hb
      have H5 := Lib.hid hb2
      have HA := Lib.hid (revAt_a l a (show 2 * a + 1 < l.length by rw [HL.out]; exact hlt))
      have HB := Lib.hid (revAt_b l a b (show 2 * a + 1 < l.length by rw [HL.out]; exact hlt) (by rw [HL.out]; exact hb))
      have HO := Lib.hid (fun k => revAt_other l a b k (show 2 * a + 1 < l.length by rw [HL.out]; exact hlt) (by rw [HL.out]; exact hb))
      clear hc hf hgr hb hb2
      have i1 : (a : Int) < (n : Int) := by omega
      have i2 : (b : Int) < (n : Int) := by omega
      have i3 : (a : Int) < (b : Int) := by omega
      unfold cb at c1 c2
      generalize hx : revAt l a a = x at *
      generalize hy : revAt l a b = y at *
      have HX := Lib.hid hx
      have HY := Lib.hid hy
      clear hx hy
      go_wp2_with fail
      go_region
      go_wp2_with fail
      go_roundw
      case rel =>
        refine ⟨a + 1, by omega, by go_num, by have := H5.out; congr 1; omega, ?_, ?_, ?_⟩
        · intro k hk
          by_cases k1 : k = b
          · rw [k1]
            refine (World.cell?_setCell_same _ _ _ (u := cb y) ?_).trans ?_
            · refine (World.cell?_setCell_other _ _ _ _ (by exact fun e => absurd (congrArg Addr.off e) (by simp only; omega))).trans ?_
              exact c2
            · rw [HB.out]
              rfl
          · refine (World.cell?_setCell_other _ _ _ _ (fun e => k1 (congrArg Addr.off e).symm)).trans ?_
            by_cases k2 : k = a
            · rw [k2]
              refine (World.cell?_setCell_same _ _ _ (u := cb x) ?_).trans ?_
              · exact c1
              · rw [HA.out, HL.out, ← H4.out, HY.out]
                rfl
            · refine (World.cell?_setCell_other _ _ _ _ (fun e => k2 (congrArg Addr.off e).symm)).trans ?_
              rw [HO.out k k2 k1 (by rw [HL.out]; exact hk)]
              exact H1.out k hk
        · intro k hk
          refine (World.frozen?_setCell _ _ _ _).trans ?_
          refine (World.frozen?_setCell _ _ _ _).trans ?_
          exact H2.out k hk
        · exact grown_trans H3.out (grown_trans (Lib.grownBy_setCell _ _ _ _) (grown_drew (Lib.grownBy_setCell _ _ _ _)))
      case measure => simp [intOf]; omega
    · have H1 := Lib.hid hc
      have H3 := Lib.hid hgr
      have hi : ¬ (a : Int) < (n : Int) - 1 - a := by omega
      clear hc hf hgr
      go_wp2_with fail
      go_end0
      refine ⟨rfl, fun k hk => ?_, H3.out⟩
      have := H1.out k hk
      rw [revAt_end l a k (by rw [HL.out]; omega) (by rw [HL.out]; omega) (by rw [HL.out]; exact hk), HL.out] at this
      exact this

theorem back_list (R : List UInt8) : bs R = bs R := rfl

theorem bytes_below (w : World) (e : TypeId) (s : ByteArray) : Below w.heap.size w (Lib.bytesWorld w e s) :=
  ⟨rfl, rfl, rfl, by rw [Lib.bytesWorld_size]; omega, fun j hj => Lib.bytesWorld_at_old w e s j hj⟩

theorem bytes_frozen (w : World) (e : TypeId) (s : ByteArray) (k : Nat) (hk : k < s.size) : (Lib.bytesWorld w e s).frozen? ⟨w.heap.size, k, none⟩ = false := by
  have h : s.size ≤ (Lib.bytesCells w e s).size := by
    unfold Lib.bytesCells
    rw [Array.size_append, Array.size_map]
    exact Nat.le_add_right _ _
  simp only [World.frozen?, Lib.bytesWorld_at_new]
  simp
  omega

theorem implTurnStrip_any (s : ByteArray) (w : World) (hs : s.size ≤ 4294967296) : Calls Try.prog 70 #[.string s] w fun e w' => e = .returned (.string (bs (turnStrip s.data.toList))) ∧ Below w.heap.size w w' := by
  by_cases h : isStrip s.data.toList = true
  · rw [show turnStrip s.data.toList = turnL s.data.toList from if_pos h]
    obtain ⟨R, hR⟩ : ∃ R, R = s.data.toList.map ex := ⟨_, rfl⟩
    have hRl : R.length = s.size := by rw [hR, List.length_map, size_list]
    have hT : turnL s.data.toList = R.reverse := by rw [hR]; unfold turnL; rw [List.map_reverse]
    have hex := fun w => exchanged_any s w hs
    rw [← hR] at hex
    rw [hT]
    have hbz : (bs R).size = s.size := by rw [bs_size, hRl]
    have HZ := Lib.hid hbz
    have HX := Lib.hid hex
    have HL := Lib.hid hRl
    clear hR hT hex hbz hRl
    go_enter Try.func70, Try.ntmps70
    go_wp2_with fail
    refine (implIsStrip_any _ _ hs).mono ?_
    rw [h]
    rintro e w1 ⟨rfl, rfl⟩
    clear h
    go_wp2_with fail
    refine (HX.out _).mono ?_
    rintro e w1 ⟨rfl, hb1⟩
    have hcv := Lib.run_convert_string_bytes (P := Try.prog) w1 9 41 5 (bs R) Try.underlying9 Try.underlying41 Try.underlying5
    go_wp2_with fail
    refine (reverse_any w1.heap.size _ (bs R).size R _ (bs_size R).symm (by rw [HZ.out]; exact hs) (fun k hk => ?_) (fun k hk => bytes_frozen _ _ _ k hk)).mono ?_
    · rw [Lib.bytesWorld_cell _ _ _ k hk, bs_list]
      rfl
    rintro e w2 ⟨rfl, hc2, hg2⟩
    have hb2 : Below w.heap.size w w2 := (below_thru hb1 (bytes_below w1 _ _)).grown hg2 (below_thru hb1 (bytes_below w1 _ _)).size (fun k hk => by cases hk; exact hb1.size)
    have hcv2 := run_convert_bytes_back (P := Try.prog) w2 41 9 5 ⟨w1.heap.size, 0, none⟩ (grownCap w1 (bs R).size 0 5) R.reverse Try.underlying41 Try.underlying5 Try.underlying9 (fun j hj => ?_)
    · rw [List.length_reverse, ← bs_size R] at hcv2
      have HB := Lib.hid hb2
      clear hb2 hb1 hg2 hc2 hcv
      go_wp2_with fail
      go_ret
      exact ⟨rfl, HB.out⟩
    · have hj2 : j < R.length := by simpa using hj
      rw [add_plain]
      have := hc2 j (by rw [bs_size]; exact hj2)
      rw [Nat.zero_add, this, bs_size, cb]
      unfold at_
      rw [List.getD_eq_getElem?_getD, List.getElem?_eq_getElem (by omega), List.getElem_reverse]
      rfl
  · have h' : isStrip s.data.toList = false := by simpa using h
    rw [show turnStrip s.data.toList = [] from if_neg h]
    go_enter Try.func70, Try.ntmps70
    go_wp2_with fail
    refine (implIsStrip_any _ _ hs).mono ?_
    rw [h']
    rintro e w1 ⟨rfl, rfl⟩
    go_wp2_with fail
    go_ret
    exact ⟨rfl, (by repeat' (first | exact Below.refl _ _ | assumption | (refine Below.drew ?_) | (refine below_drewN ?_ _) | (refine below_thru ?_ (by assumption)) | (refine below_alloc ?_ _) | (refine Below.setCell ?_ (by first | omega | (simp; done) | (simp; omega)) _) | (refine Below.alloc ?_ (by first | omega | (simp; done) | (simp; omega)) _)))⟩

end Go.Proofs.Ytkhlolhmaoenoaa
