
/-
  The contract of the program's LinksOk; no condition.
-/
import Derived.Test.YtodocfanaplmpaaLinksQ
import Derived.Test.YtodocfanaplmpaaNum
import Derived.Test.YtodocfanaplmpaaBigVar
import Derived.Deep.Cut
import Derived.BigRegion
namespace Go.Proofs.Ytodocfanaplmpaa
open Go.ChangeShapes Go.WideShapes Go.ChangeAt Go.RowKit Go.Deep Go.BigFrame
set_option linter.unusedVariables false
set_option linter.unusedSimpArgs false

/-- a table of eight rows of eight in a block -/
def Tb (w : World) (g : Nat) (R : Nat → Nat → Bool) : Prop := ∀ i j, i < 8 → j < 8 → w.cell? ⟨g, i * 8 + j, none⟩ = some (.bool (R i j)) ∧ w.frozen? ⟨g, i * 8 + j, none⟩ = false

theorem Tb.on {w w' : World} {g : Nat} { R : Nat → Nat → Bool} (h : Tb w g R) (hg : g < w.heap.size) (hb : Below w.heap.size w w') : Tb w' g R := by
  intro i j hi hj
  obtain ⟨h1, h2⟩ := h i j hi hj
  exact ⟨cell_on hb h1, (World.frozen?_of_block (hb.block g hg)).trans h2⟩
theorem Tb.put {w : World} {g : Nat} { R : Nat → Nat → Bool} (h : Tb w g R) {i j : Nat} (hi : i < 8) (hj : j < 8) (v : Bool) : Tb (w.setCell ⟨g, i * 8 + j, none⟩ (.bool v)) g (put1 R i j v) := by
  intro a b ha hb
  obtain ⟨h1, h2⟩ := h a b ha hb
  refine ⟨?_, (World.frozen?_setCell w ⟨g, i * 8 + j, none⟩ ⟨g, a * 8 + b, none⟩ (.bool v)).trans h2⟩
  unfold put1
  by_cases e : a = i ∧ b = j
  · rw [if_pos e, e.1, e.2]
    exact World.cell?_setCell_same w ⟨g, i * 8 + j, none⟩ (.bool v) (h i j hi hj).1
  · rw [if_neg e]
    exact (World.cell?_setCell_other w ⟨g, i * 8 + j, none⟩ ⟨g, a * 8 + b, none⟩ (.bool v) (fun x => by
      have := congrArg Addr.off x
      simp only at this
      omega)).trans h1
theorem Tb.drew {w : World} {g : Nat} { R : Nat → Nat → Bool} (h : Tb w g R) : Tb w.drew g R := h

theorem all_snoc' {α : Type} (p : α → Bool) (xs : List α) (k : Nat) (d : α) (h : k < xs.length) (h1 : (xs.take k).all p = true) : (xs.take (k + 1)).all p = p (xs.getD k d) := by
  rw [take_snoc_getD xs k d h, List.all_append, h1]; simp
theorem all_false' {α : Type} (p : α → Bool) (xs : List α) (k : Nat) (d : α) (h : k < xs.length) (h1 : p (xs.getD k d) = false) : xs.all p = false := by
  cases e : xs.all p with
  | false => rfl
  | true =>
    rw [List.all_eq_true] at e
    have := e (xs.getD k d) (by rw [List.getD_eq_getElem?_getD, List.getElem?_eq_getElem h]; exact List.getElem_mem h)
    rw [h1] at this
    exact absurd this (by decide)

set_option maxHeartbeats 1000000 in
set_option maxRecDepth 100000 in
theorem implLinksOk_any (n : Int) (A : Option Addr) (c : Nat) (ls : List (Int × Int × Int)) (w : World) (hx : TRow w w.heap.size A ls) :
    Calls Try.prog 15 #[.int .i64 n, .slice A ls.length c] w fun e w' => e = .returned (.bool (linksOk n ls)) ∧ Below w.heap.size w w' := by
  have HW := Lib.hid (fun w => within_any n 1 8 w)
  by_cases hn : inB n 1 8 = true
  case neg =>
    have hn' : inB n 1 8 = false := by simpa using hn
    rw [show linksOk n ls = false from by unfold linksOk; rw [hn']; rfl]
    rw [hn'] at HW
    clear hn hn' hx
    go_enter Try.func15, Try.ntmps15
    go_wp2_with fail
    refine (HW.out _).mono ?_
    rintro e w1 ⟨rfl, rfl⟩
    go_wp2_with fail
    go_ret
    exact ⟨rfl, (by repeat' (first | exact Below.refl _ _ | assumption | (refine Below.drew ?_) | (refine below_drewN ?_ _) | (refine below_thru ?_ (by assumption)) | (refine below_alloc ?_ _) | (refine Below.setCell ?_ (by first | omega | (simp; done) | (simp; omega)) _) | (refine Below.alloc ?_ (by first | omega | (simp; done) | (simp; omega)) _)))⟩
  rw [hn] at HW
  by_cases hl : ls.length ≤ 12
  case neg =>
    rw [show linksOk n ls = false from by unfold linksOk; rw [decide_eq_false hl, Bool.false_and, Bool.and_false]]
    have hli : (12 : Int) < (ls.length : Int) := by omega
    clear hn hx
    go_enter Try.func15, Try.ntmps15
    go_wp2_with fail
    refine (HW.out _).mono ?_
    rintro e w1 ⟨rfl, rfl⟩
    go_wp2_with fail
    go_ret
    exact ⟨rfl, (by repeat' (first | exact Below.refl _ _ | assumption | (refine Below.drew ?_) | (refine below_drewN ?_ _) | (refine below_thru ?_ (by assumption)) | (refine below_alloc ?_ _) | (refine Below.setCell ?_ (by first | omega | (simp; done) | (simp; omega)) _) | (refine Below.alloc ?_ (by first | omega | (simp; done) | (simp; omega)) _)))⟩
  have hli : ¬ (12 : Int) < (ls.length : Int) := by omega
  obtain ⟨m, hm0, hm8, rfl⟩ : ∃ m : Nat, 1 ≤ m ∧ m ≤ 8 ∧ n = (m : Int) := by
    have h := hn
    unfold inB at h
    simp at h
    exact ⟨n.toNat, by omega, by omega, by omega⟩
  have HLF := Lib.hid (show ls.all (linkIn (m : Int)) = false → linksOk (m : Int) ls = false from fun h => by unfold linksOk; rw [h, Bool.false_and, Bool.and_false, Bool.and_false])
  have HLT := Lib.hid (show ls.all (linkIn (m : Int)) = true → linksOk (m : Int) ls = acyc (edge ls) m from fun h => by unfold linksOk; rw [h, hn, decide_eq_true hl, Int.toNat_natCast]; simp)
  generalize linksOk (m : Int) ls = RES at *
  have HX := Lib.hid hx
  have HWI := Lib.hid (fun v w => within_any v 0 ((m : Int) - 1) w)
  obtain ⟨Z, hZ⟩ : ∃ Z : Array Value, Z = Array.replicate 64 (.bool false) := ⟨_, rfl⟩
  have HB0 := Lib.hid (show ∀ w, (Instr.build 63 #[]).run Try.prog w = .ok (.agg Z) w from fun w => by rw [hZ]; exact run_build w _ _ _ (by kernel_rfl))
  have hzi := zero_of_info (P := Try.prog) (t := 63) (v := .agg Z) (n := 64) (by rw [hZ]; kernel_rfl)
  have HZ0 := Lib.hid hzi.1
  have HI0 := Lib.hid (show (Try.prog.info? 63).map (·.size) = some Z.size by rw [hZ]; exact hzi.2)
  have HO0 := Lib.hid (show Z.all (·.oneCell') = true by rw [hZ]; kernel_rfl)
  have HT0 := Lib.hid (show ∀ w : World, Tb (w.alloc (.cells Z 63)) w.heap.size (edge []) from fun w i j hi hj => by
    have hh := heap_alloc_last w (.cells Z 63)
    refine ⟨?_, frozen_of_row _ _ _ _ _ hh⟩
    rw [cell_of_row _ _ _ _ _ _ hh, hZ, Array.getElem?_replicate, if_pos (show i * 8 + j < 64 by omega)]
    rfl)
  clear hZ hzi hx hn hl
  go_enter Try.func15, Try.ntmps15
  go_wp2_with fail
  refine (HW.out _).mono ?_
  rintro e w1 ⟨rfl, rfl⟩
  go_upto_region 3 with (fail)
  go_upto_region 4 with (refine wpList_bigVar 63 Z _ _ HB0.out HZ0.out HI0.out HO0.out rfl rfl rfl rfl rfl rfl rfl rfl ?_)
  have HT1 := Lib.hid (HT0.out w)
  have hb1 : Below w.heap.size w (w.alloc (.cells Z 63)) := below_alloc (Below.refl _ _) _
  have hg1 : w.heap.size < (w.alloc (.cells Z 63)).heap.size := by simp
  have HB1 := Lib.hid hb1
  clear hb1 HT0 HB0 HZ0 HI0 HO0
  generalize w.alloc (.cells Z 63) = wz at *
  go_wp2_with fail
  go_loopw [23] (fun iv wx => ∃ p : Nat, p ≤ ls.length ∧ iv = .int .i64 p ∧ (ls.take p).all (linkIn (m : Int)) = true ∧ Tb wx w.heap.size (edge (ls.take p)) ∧ w.heap.size < wx.heap.size ∧ Below w.heap.size w wx) (fun iv _ => ls.length - (intOf iv).toNat)
  case atStart => exact ⟨0, Nat.zero_le _, rfl, rfl, HT1.out, hg1, HB1.out⟩
  case round =>
    obtain ⟨p, hp, rfl, hall, htb, hgx, hbx⟩ := hrel
    have HT := Lib.hid htb
    have HBX := Lib.hid hbx
    have HAL := Lib.hid hall
    clear HT1 HB1 htb hbx hall
    by_cases hlt : p < ls.length
    · have hpi : (p : Int) < (ls.length : Int) := by omega
      obtain ⟨bA, oA, rfl, hbA, c1, c2, c3⟩ := HX.out.at_ hlt
      have d1 := cell_on HBX.out c1
      have d2 := cell_on HBX.out c2
      have d3 := cell_on HBX.out c3
      have hsn := all_snoc' (linkIn (m : Int)) ls p (0, 0, 0) hlt HAL.out
      have hfl := all_false' (linkIn (m : Int)) ls p (0, 0, 0) hlt
      have hed := fun i j => edge_take hlt i j
      generalize hv : ls.getD p (0, 0, 0) = v at *
      obtain ⟨v1, v2, v3⟩ := v
      dsimp only at d1 d2 d3 hed
      have HSN := Lib.hid hsn
      have HFL := Lib.hid hfl
      have HED := Lib.hid hed
      clear hv c1 c2 c3 hsn hfl hed
      have W1 := HWI.out v1
      have W2 := HWI.out v2
      by_cases h1 : inB v1 0 ((m : Int) - 1) = true
      case neg =>
        have h1' : inB v1 0 ((m : Int) - 1) = false := by simpa using h1
        have HR := Lib.hid (HLF.out (HFL.out (by unfold linkIn; simp [h1'])))
        rw [h1'] at W1
        have W1 := Lib.hid W1
        clear W2 h1 h1'
        go_wp2_with fail
        refine (W1.out _).mono ?_
        rintro e w1 ⟨rfl, rfl⟩
        go_wp2_with fail
        go_ret
        exact ⟨by rw [HR.out]; rfl, below_alloc HBX.out _⟩
      by_cases h2 : inB v2 0 ((m : Int) - 1) = true
      case neg =>
        have h2' : inB v2 0 ((m : Int) - 1) = false := by simpa using h2
        have HR := Lib.hid (HLF.out (HFL.out (by unfold linkIn; simp [h2'])))
        rw [h1] at W1
        rw [h2'] at W2
        have W1 := Lib.hid W1
        have W2 := Lib.hid W2
        clear h1 h2 h2'
        go_wp2_with fail
        refine (W1.out _).mono ?_
        rintro e w1 ⟨rfl, rfl⟩
        go_wp2_with fail
        refine (W2.out _).mono ?_
        rintro e w1 ⟨rfl, rfl⟩
        go_wp2_with fail
        go_ret
        exact ⟨by rw [HR.out]; rfl, below_alloc HBX.out _⟩
      have HLN := Lib.hid (show ¬ v1 = v2 → (v3 = 1 ∨ v3 = -1) → linkIn (m : Int) (v1, v2, v3) = true from fun e1 e2 => by unfold linkIn; rw [h1, h2]; simpa [e1] using e2)
      rw [h1] at W1
      rw [h2] at W2
      have W1 := Lib.hid W1
      have W2 := Lib.hid W2
      obtain ⟨a, ha, rfl⟩ : ∃ a : Nat, a < m ∧ v1 = (a : Int) := by
        have h := h1
        unfold inB at h
        simp at h
        exact ⟨v1.toNat, by omega, by omega⟩
      obtain ⟨b, hb, rfl⟩ : ∃ b : Nat, b < m ∧ v2 = (b : Int) := by
        have h := h2
        unfold inB at h
        simp at h
        exact ⟨v2.toNat, by omega, by omega⟩
      clear h1 h2
      by_cases h3 : (a : Int) = (b : Int)
      · have HR := Lib.hid (HLF.out (HFL.out (by unfold linkIn; simp [h3])))
        have HAB := Lib.hid h3
        have hab : a = b := by omega
        subst hab
        clear h3
        go_wp2_with fail
        refine (W1.out _).mono ?_
        rintro e w1 ⟨rfl, rfl⟩
        go_wp2_with fail
        refine (W2.out _).mono ?_
        rintro e w1 ⟨rfl, rfl⟩
        go_wp2_with fail
        go_ret
        exact ⟨by rw [HR.out]; rfl, below_alloc HBX.out _⟩
      have hTA := HT.out.on hgx (below_alloc (Below.refl wr.heap.size wr) (.cells #[.int .i64 (a : Int), .int .i64 (b : Int), .int .i64 v3] 45))
      obtain ⟨ct, ft⟩ := hTA a b (by omega) (by omega)
      have hput := ((HT.out.put (i := a) (j := b) (by omega) (by omega) true).on (by simpa using hgx) (below_alloc (Below.refl _ _) (.cells #[.int .i64 (a : Int), .int .i64 (b : Int), .int .i64 v3] 45))).drew
      rw [show put1 (edge (ls.take p)) a b true = edge (ls.take (p + 1)) from by
        funext i j
        rw [HED.out]
        unfold put1
        by_cases e : i = a ∧ j = b
        · rw [if_pos e, e.1, e.2]; simp
        · rw [if_neg e, show (decide ((a : Int) = (i : Int)) && decide ((b : Int) = (j : Int))) = false from by
            simp only [Bool.and_eq_false_iff, decide_eq_false_iff_not]
            by_cases e1 : i = a
            · exact .inr (fun h => e ⟨e1, by omega⟩)
            · exact .inl (fun h => e1 (by omega)), Bool.or_false]] at hput
      have HTP := Lib.hid hput
      have HBP := Lib.hid ((below_alloc (HBX.out.setCell (p := ⟨w.heap.size, a * 8 + b, none⟩) (Nat.le_refl _) (.bool true)) (.cells #[.int .i64 (a : Int), .int .i64 (b : Int), .int .i64 v3] 45)).drew)
      have HSZ := Lib.hid (show w.heap.size < ((wr.setCell ⟨w.heap.size, a * 8 + b, none⟩ (.bool true)).alloc (.cells #[.int .i64 (a : Int), .int .i64 (b : Int), .int .i64 v3] 45)).drew.heap.size by simp; omega)
      clear hTA hput
      have ha8 : (a : Int) < 8 := by omega
      have hb8 : (b : Int) < 8 := by omega
      by_cases h4 : v3 = 1
      · have HLI := Lib.hid (HLN.out h3 (.inl h4))
        subst h4
        go_wp2_with fail
        refine (W1.out _).mono ?_
        rintro e w1 ⟨rfl, rfl⟩
        go_wp2_with fail
        refine (W2.out _).mono ?_
        rintro e w1 ⟨rfl, rfl⟩
        go_wp2_with fail
        go_region
        generalize ((wr.setCell ⟨w.heap.size, a * 8 + b, none⟩ (.bool true)).alloc (.cells #[.int .i64 (a : Int), .int .i64 (b : Int), .int .i64 1] 45)).drew = wy at *
        clear ct ft
        go_wp2_with fail
        go_roundw
        case rel => exact ⟨p + 1, by omega, by go_num, HSN.out.trans HLI.out, HTP.out, HSZ.out, HBP.out⟩
        case measure => simp [intOf]; omega
      · by_cases h5 : v3 = -1
        · have HLI := Lib.hid (HLN.out h3 (.inr h5))
          subst h5
          go_wp2_with fail
          refine (W1.out _).mono ?_
          rintro e w1 ⟨rfl, rfl⟩
          go_wp2_with fail
          refine (W2.out _).mono ?_
          rintro e w1 ⟨rfl, rfl⟩
          go_wp2_with fail
          go_region
          generalize ((wr.setCell ⟨w.heap.size, a * 8 + b, none⟩ (.bool true)).alloc (.cells #[.int .i64 (a : Int), .int .i64 (b : Int), .int .i64 (-1)] 45)).drew = wy at *
          clear ct ft
          go_wp2_with fail
          go_roundw
          case rel => exact ⟨p + 1, by omega, by go_num, HSN.out.trans HLI.out, HTP.out, HSZ.out, HBP.out⟩
          case measure => simp [intOf]; omega
        · have HR := Lib.hid (HLF.out (HFL.out (by unfold linkIn; simp [h4, h5])))
          have q1 : (v3 != 1) = true := by simp [h4]
          have q2 : (v3 != -1) = true := by simp [h5]
          go_wp2_with fail
          refine (W1.out _).mono ?_
          rintro e w1 ⟨rfl, rfl⟩
          go_wp2_with fail
          refine (W2.out _).mono ?_
          rintro e w1 ⟨rfl, rfl⟩
          go_wp2_with fail
          go_ret
          exact ⟨by rw [HR.out]; rfl, below_alloc HBX.out _⟩
    · have hpe : p = ls.length := by omega
      have hpi : ¬ (p : Int) < (ls.length : Int) := by omega
      rw [hpe, List.take_length] at HT HAL
      have HR := Lib.hid (HLT.out HAL.out)
      obtain ⟨E, hE⟩ : ∃ E, E = edge ls := ⟨_, rfl⟩
      rw [← hE] at HT HR
      have HBD := Lib.hid (Bnd.start (E := E) (R := E) (n := m) (fun _ _ _ _ => rfl))
      clear HAL hpe hE HLF HLT
      go_wp2_with fail
      go_loopw [66] (fun kv wx => ∃ (k : Nat) (R : Nat → Nat → Bool), k ≤ m ∧ kv = .int .i64 k ∧ Tb wx w.heap.size R ∧ Bnd E R m k 0 (fun _ => False) ∧ w.heap.size < wx.heap.size ∧ Below w.heap.size w wx) (fun kv _ => m - (intOf kv).toNat)
      case atStart => exact ⟨0, E, Nat.zero_le _, rfl, HT.out, HBD.out, hgx, HBX.out⟩
      case round =>
        obtain ⟨k, R, hk, rfl, htb, hbd, hgk, hbk⟩ := hrel
        have HTk := Lib.hid htb
        have HDk := Lib.hid hbd
        have HBk := Lib.hid hbk
        clear HT HBX HBD htb hbd hbk
        by_cases hkm : k < m
        · have hki : (k : Int) < (m : Int) := by omega
          have hk8 : (k : Int) < 8 := by omega
          go_wp2_with fail
          go_loopw [70] (fun iv wx => ∃ (i : Nat) (R : Nat → Nat → Bool), i ≤ m ∧ iv = .int .i64 i ∧ Tb wx w.heap.size R ∧ Bnd E R m k i (fun _ => False) ∧ w.heap.size < wx.heap.size ∧ Below w.heap.size w wx) (fun iv _ => m - (intOf iv).toNat)
          case atStart => exact ⟨0, R, Nat.zero_le _, rfl, HTk.out, HDk.out, hgk, HBk.out⟩
          case round =>
            obtain ⟨i, R2, hi, rfl, htb, hbd, hgi, hbi⟩ := hrel
            have HTi := Lib.hid htb
            have HDi := Lib.hid hbd
            have HBi := Lib.hid hbi
            clear HTk HDk HBk htb hbd hbi
            by_cases him : i < m
            · have hii : (i : Int) < (m : Int) := by omega
              have hi8 : (i : Int) < 8 := by omega
              go_wp2_with fail
              go_loopw [74] (fun jv wx => ∃ (j : Nat) (R : Nat → Nat → Bool), j ≤ m ∧ jv = .int .i64 j ∧ Tb wx w.heap.size R ∧ Bnd E R m k i (fun b => b < j) ∧ w.heap.size < wx.heap.size ∧ Below w.heap.size w wx) (fun jv _ => m - (intOf jv).toNat)
              case atStart => exact ⟨0, R2, Nat.zero_le _, rfl, HTi.out, HDi.out.weaken (fun b h => absurd h (by omega)), hgi, HBi.out⟩
              case round =>
                obtain ⟨j, R3, hj, rfl, htb, hbd, hgj, hbj⟩ := hrel
                by_cases hjm : j < m
                · have hji : (j : Int) < (m : Int) := by omega
                  have hj8 : (j : Int) < 8 := by omega
                  obtain ⟨c1, f1⟩ := htb i j (by omega) (by omega)
                  have c2 := (htb i k (by omega) (by omega)).1
                  have c3 := (htb k j (by omega) (by omega)).1
                  obtain ⟨v, hv⟩ : ∃ v, v = (R3 i j || (R3 i k && R3 k j)) := ⟨_, rfl⟩
                  have HTP := Lib.hid (htb.put (i := i) (j := j) (by omega) (by omega) v).drew
                  have hone := Bnd.one hkm him hjm hbd
                  rw [← hv] at hone
                  have HDP := Lib.hid hone
                  have HBP := Lib.hid (hbj.setCell (p := ⟨w.heap.size, i * 8 + j, none⟩) (Nat.le_refl _) (.bool v)).drew
                  have HSP := Lib.hid (show w.heap.size < (wr.setCell ⟨w.heap.size, i * 8 + j, none⟩ (.bool v)).drew.heap.size by simpa using hgj)
                  clear HTi HDi HBi htb hbd hbj hone
                  generalize put1 R3 i j v = R4 at *
                  generalize R3 i j = r1 at *
                  generalize R3 i k = r2 at *
                  generalize R3 k j = r3 at *
                  go_wp2_with fail
                  cases r1
                  · cases r2
                    · have hv2 : v = false := by rw [hv]; rfl
                      clear hv
                      subst hv2
                      go_region
                      generalize (wr.setCell ⟨w.heap.size, i * 8 + j, none⟩ (.bool false)).drew = wy at *
                      clear c1 c2 c3 f1
                      go_wp2_with fail
                      go_roundw
                      case rel => exact ⟨j + 1, R4, by omega, by go_num, HTP.out, HDP.out, HSP.out, HBP.out⟩
                      case measure => simp [intOf]; omega
                    · cases r3
                      · have hv2 : v = false := by rw [hv]; rfl
                        clear hv
                        subst hv2
                        go_region
                        generalize (wr.setCell ⟨w.heap.size, i * 8 + j, none⟩ (.bool false)).drew = wy at *
                        clear c1 c2 c3 f1
                        go_wp2_with fail
                        go_roundw
                        case rel => exact ⟨j + 1, R4, by omega, by go_num, HTP.out, HDP.out, HSP.out, HBP.out⟩
                        case measure => simp [intOf]; omega
                      · have hv2 : v = true := by rw [hv]; rfl
                        clear hv
                        subst hv2
                        go_region
                        generalize (wr.setCell ⟨w.heap.size, i * 8 + j, none⟩ (.bool true)).drew = wy at *
                        clear c1 c2 c3 f1
                        go_wp2_with fail
                        go_roundw
                        case rel => exact ⟨j + 1, R4, by omega, by go_num, HTP.out, HDP.out, HSP.out, HBP.out⟩
                        case measure => simp [intOf]; omega
                  · have hv2 : v = true := by rw [hv]; rfl
                    clear hv
                    subst hv2
                    go_region
                    generalize (wr.setCell ⟨w.heap.size, i * 8 + j, none⟩ (.bool true)).drew = wy at *
                    clear c1 c2 c3 f1
                    go_wp2_with fail
                    go_roundw
                    case rel => exact ⟨j + 1, R4, by omega, by go_num, HTP.out, HDP.out, HSP.out, HBP.out⟩
                    case measure => simp [intOf]; omega
                · have hje : j = m := by omega
                  have hji : ¬ (j : Int) < (m : Int) := by omega
                  have HTj := Lib.hid htb
                  have HBj := Lib.hid hbj
                  have HDj := Lib.hid (hbd.nextRow (fun b hb => by omega))
                  clear HTi HDi HBi htb hbd hbj hje
                  go_wp2_with fail
                  go_roundw
                  case rel => exact ⟨i + 1, R3, by omega, by go_num, HTj.out, HDj.out, hgj, HBj.out⟩
                  case measure => simp [intOf]; omega
            · have hie : i = m := by omega
              have hii : ¬ (i : Int) < (m : Int) := by omega
              rw [hie] at HDi
              have HDi2 := Lib.hid HDi.out.nextStep
              clear hie HDi
              go_wp2_with fail
              go_roundw
              case rel => exact ⟨k + 1, R2, by omega, by go_num, HTi.out, HDi2.out, hgi, HBi.out⟩
              case measure => simp [intOf]; omega
        · have hke : k = m := by omega
          have hki : ¬ (k : Int) < (m : Int) := by omega
          rw [hke] at HDk
          clear hke
          go_wp2_with fail
          go_loopw [104] (fun iv wx => ∃ i : Nat, i ≤ m ∧ iv = .int .i64 i ∧ (∀ a, a < i → R a a = false) ∧ Tb wx w.heap.size R ∧ Below w.heap.size w wx) (fun iv _ => m - (intOf iv).toNat)
          case atStart => exact ⟨0, Nat.zero_le _, rfl, fun a ha => absurd ha (by omega), HTk.out, HBk.out⟩
          case round =>
            obtain ⟨i, hi, rfl, hno, htb, hbi⟩ := hrel
            have HNO := Lib.hid hno
            have HTi := Lib.hid htb
            have HBi := Lib.hid hbi
            clear HTk HBk hno htb hbi
            by_cases him : i < m
            · have hii : (i : Int) < (m : Int) := by omega
              have hi8 : (i : Int) < 8 := by omega
              have c1 := (HTi.out i i (by omega) (by omega)).1
              cases hr : R i i with
              | true =>
                rw [hr] at c1
                have HRR := Lib.hid (HR.out.trans (show acyc E m = false from all_range_no him (by rw [← HDk.out.done him, hr]; rfl)))
                clear hr
                go_wp2_with fail
                go_ret
                exact ⟨by rw [HRR.out]; rfl, HBi.out⟩
              | false =>
                rw [hr] at c1
                have HNO2 := Lib.hid (show ∀ a, a < i + 1 → R a a = false from fun a ha => by
                  by_cases e : a = i
                  · rw [e]; exact hr
                  · exact HNO.out a (by omega))
                clear hr
                go_wp2_with fail
                go_roundw
                case rel => exact ⟨i + 1, by omega, by go_num, HNO2.out, HTi.out, HBi.out⟩
                case measure => simp [intOf]; omega
            · have hie : i = m := by omega
              have hii : ¬ (i : Int) < (m : Int) := by omega
              have HRR := Lib.hid (HR.out.trans (show acyc E m = true from all_range_yes (fun a ha => by rw [← HDk.out.done ha, HNO.out a (by omega)]; rfl)))
              clear hie
              go_wp2_with fail
              go_ret
              exact ⟨by rw [HRR.out]; rfl, HBi.out⟩

end Go.Proofs.Ytodocfanaplmpaa
