
/-
  Contracts of the draws of texts and of pairs of texts; no condition.
-/
import Derived.Test.YtpeopfkechbelaaDrawS
import Derived.Test.YtpeopfkechbelaaMix
import Derived.Test.YtpeopfkechbelaaStr0
namespace Go.Proofs.Ytpeopfkechbelaa
open Go.ChangeShapes Go.WideShapes Go.ChangeAt Go.RowKit Go.Deep Go.BigFrame
set_option linter.unusedVariables false
set_option linter.unusedSimpArgs false

theorem l01Pick_any (g : Nat) (A : Option Addr) (c : Nat) (bs : List UInt8) (B : Option Addr) (d : Nat) (zs : List ByteArray) (w : World) (h : Cur w g A c bs) (hz : SRow w w.heap.size B zs) (hB : ∀ b, B = some b → b.block ≠ g) (h1 : 1 ≤ zs.length) (h2 : zs.length ≤ 256) :
    Calls Try.prog 90 #[.pointer (some ⟨g, 0, none⟩), .slice B zs.length d] w fun e w' => ∃ x ∈ zs, e = .returned (.string x) ∧ Drew w w' g A c bs := by
  go_enter Try.func90, Try.ntmps90
  go_wp2_with fail
  refine (l01Below_any g A c bs zs.length w h h1 h2).mono ?_
  rintro e w1 ⟨x, hx, rfl, hd⟩
  obtain ⟨b, off, rfl, hb, hc⟩ := hz.at_ hx
  have hne : b ≠ g := hB _ rfl
  have hc1 := hd.cell hne hc
  have HD := Lib.hid hd
  have hxi : (x : Int) < (zs.length : Int) := by omega
  have hmem : zs.getD x .empty ∈ zs := by simp [List.getD, hx]
  generalize zs.getD x .empty = z at *
  clear hc hd hz hB h
  go_wp2_with fail
  go_ret
  exact ⟨z, hmem, rfl, HD.out⟩

theorem Drew.made {w w' : World} {g : Nat} {A : Option Addr} {c : Nat} {bs : List UInt8} (h : Drew w w' g A c bs) (o : Obj) : Drew w (w'.alloc o) g A c bs :=
  ⟨h.cur.on (below_alloc (Below.refl _ _) o), ⟨h.by_.os, h.by_.tape, h.by_.output, Nat.le_trans h.by_.size (by simp), fun k hk hne => ((World.grownBy_alloc w' o none).block k (Nat.lt_of_lt_of_le hk h.by_.size) (by simp)).trans (h.by_.block k hk hne)⟩⟩
theorem Drew.ofAlloc {w w' : World} {g : Nat} {A : Option Addr} {c : Nat} {bs : List UInt8} {o : Obj} (h : Drew (w.alloc o) w' g A c bs) (hg : g < w.heap.size) : Drew w w' g A c bs :=
  ⟨h.cur, grown_trans (World.grownBy_alloc w o _) h.by_⟩
/-- a literal of texts, just made -/
theorem srow_made (w : World) (xs : List ByteArray) (t : TypeId) (hm : xs.length ≤ 1000) : SRow (w.alloc (.cells (xs.map Value.string).toArray t)) (w.alloc (.cells (xs.map Value.string).toArray t)).heap.size (some ⟨w.heap.size, 0, none⟩) xs := by
  refine ⟨by simp, by unfold maxLen; omega, fun hn => ⟨w.heap.size, 0, rfl, by simp, fun j hj => ?_⟩⟩
  go_simp

theorem l02Any_any (g : Nat) (A : Option Addr) (c : Nat) (cs : List UInt8) (w : World) (h : Cur w g A c cs) :
    Calls Try.prog 65 #[.pointer (some ⟨g, 0, none⟩)] w fun e w' => ∃ s : ByteArray, s.size ≤ 32 ∧ e = .returned (.string s) ∧ Drew w w' g A c cs := by
  have HB := Lib.hid (fun w h => l01Below_any g A c cs 10 w h (by decide) (by decide))
  have H0 := Lib.hid h
  clear h
  go_enter Try.func65, Try.ntmps65
  go_wp2_with fail
  refine (l02Strip_any g A c cs w H0.out).mono ?_
  rintro e w1 ⟨d, f, l, hd, hf, hl, rfl, hd1⟩
  have HD1 := Lib.hid hd1
  have hsz := hl.size
  generalize bs l = s at *
  have hs10 : s.size ≤ 10 := by omega
  clear hd1 hl hsz
  go_wp2_with fail
  refine (HB.out _ HD1.out.cur).mono ?_
  rintro e w2 ⟨x, hx, rfl, hd2⟩
  have HD2 := Lib.hid (HD1.out.trans hd2)
  clear hd2 HD1
  have hg2 := HD2.out.cur.lt
  by_cases x0 : x = 0
  · have x0' : (x : Int) = 0 := by omega
    have HD3 := Lib.hid (HD2.out.made (.cells #[.string ⟨#[120]⟩, .string ⟨#[68]⟩, .string ⟨#[32]⟩, .string ⟨#[100, 100, 100, 100, 100, 100, 100, 100]⟩, .string ⟨#[102, 102, 102, 102, 102, 102, 102, 102]⟩] 9))
    have HR := Lib.hid (srow_made w2 [⟨#[120]⟩, ⟨#[68]⟩, ⟨#[32]⟩, ⟨#[100, 100, 100, 100, 100, 100, 100, 100]⟩, ⟨#[102, 102, 102, 102, 102, 102, 102, 102]⟩] 9 (by decide))
    go_wp2_with fail
    refine (l01Pick_any g A c cs _ 5 [⟨#[120]⟩, ⟨#[68]⟩, ⟨#[32]⟩, ⟨#[100, 100, 100, 100, 100, 100, 100, 100]⟩, ⟨#[102, 102, 102, 102, 102, 102, 102, 102]⟩] _ HD3.out.cur HR.out (fun b e => by simp at e; rw [← e]; simp; omega) (by decide) (by decide)).mono ?_
    rintro e w4 ⟨u, hu, rfl, hd4⟩
    have HD4 := Lib.hid (HD3.out.trans hd4)
    have hu16 : u.size ≤ 16 := by
      simp only [List.mem_cons, List.not_mem_nil, or_false] at hu
      rcases hu with rfl | rfl | rfl | rfl | rfl <;> decide
    clear hd4 hu x0 x0'
    go_wp2_with fail
    go_ret
    exact ⟨s ++ u, by rw [ByteArray.size_append]; omega, rfl, HD4.out⟩
  · have x0' : ¬ (x : Int) = 0 := by omega
    by_cases x1 : x = 1
    · have x1' : (x : Int) = 1 := by omega
      have HD3 := Lib.hid (HD2.out.made (.cells #[.string ⟨#[]⟩, .string ⟨#[100]⟩, .string ⟨#[102]⟩, .string ⟨#[100, 100, 100, 100, 100, 100, 100, 100]⟩, .string ⟨#[100, 100, 100, 100, 100, 100, 100, 100, 102, 102, 102, 102, 102, 102, 102, 102]⟩, .string ⟨#[100, 100, 100, 100, 100, 100, 100, 100, 100, 102]⟩] 9))
      have HR := Lib.hid (srow_made w2 [⟨#[]⟩, ⟨#[100]⟩, ⟨#[102]⟩, ⟨#[100, 100, 100, 100, 100, 100, 100, 100]⟩, ⟨#[100, 100, 100, 100, 100, 100, 100, 100, 102, 102, 102, 102, 102, 102, 102, 102]⟩, ⟨#[100, 100, 100, 100, 100, 100, 100, 100, 100, 102]⟩] 9 (by decide))
      go_wp2_with fail
      refine (l01Pick_any g A c cs _ 6 [⟨#[]⟩, ⟨#[100]⟩, ⟨#[102]⟩, ⟨#[100, 100, 100, 100, 100, 100, 100, 100]⟩, ⟨#[100, 100, 100, 100, 100, 100, 100, 100, 102, 102, 102, 102, 102, 102, 102, 102]⟩, ⟨#[100, 100, 100, 100, 100, 100, 100, 100, 100, 102]⟩] _ HD3.out.cur HR.out (fun b e => by simp at e; rw [← e]; simp; omega) (by decide) (by decide)).mono ?_
      rintro e w4 ⟨u, hu, rfl, hd4⟩
      have HD4 := Lib.hid (HD3.out.trans hd4)
      have hu16 : u.size ≤ 16 := by
        simp only [List.mem_cons, List.not_mem_nil, or_false] at hu
        rcases hu with rfl | rfl | rfl | rfl | rfl | rfl <;> decide
      clear hd4 hu x0 x0' x1 x1'
      go_wp2_with fail
      go_ret
      exact ⟨u, by omega, rfl, HD4.out⟩
    · have x1' : ¬ (x : Int) = 1 := by omega
      go_wp2_with fail
      go_ret
      exact ⟨s, by omega, rfl, HD2.out⟩

theorem l02Pair_any (g : Nat) (A : Option Addr) (c : Nat) (cs : List UInt8) (w : World) (h : Cur w g A c cs) :
    Calls Try.prog 97 #[.pointer (some ⟨g, 0, none⟩)] w fun e w' => ∃ s t : ByteArray, s.size ≤ 32 ∧ t.size ≤ 32 ∧ e = .returned (.tuple #[.string s, .string t]) ∧ Drew w w' g A c cs := by
  have HB := Lib.hid (fun w h => l01Below_any g A c cs 5 w h (by decide) (by decide))
  have H0 := Lib.hid h
  clear h
  go_enter Try.func97, Try.ntmps97
  go_wp2_with fail
  refine (l02Any_any g A c cs w H0.out).mono ?_
  rintro e w1 ⟨s, hs, rfl, hd1⟩
  have HD1 := Lib.hid hd1
  have HST := Lib.hid (fun w => specIsStrip_any s w (by omega))
  have HDN := Lib.hid (fun w => specDownOf_any s w (by omega))
  have HFW := Lib.hid (fun w => specForwardOf_any s w (by omega))
  clear hd1
  cases hst : isStrip s.data.toList
  · rw [hst] at HST
    clear hst
    go_wp2_with fail
    refine (HST.out _).mono ?_
    rintro e w2 ⟨rfl, rfl⟩
    go_wp2_with fail
    refine (l02Any_any g A c cs _ HD1.out.cur).mono ?_
    rintro e w2 ⟨t, ht, rfl, hd2⟩
    have HD2 := Lib.hid (HD1.out.trans hd2)
    clear hd2
    go_wp2_with fail
    go_ret2
    exact ⟨s, t, hs, ht, rfl, HD2.out⟩
  · have hp := isStrip_parts hst
    rw [downOf_yes hst] at HDN
    rw [forwardOf_yes hst] at HFW
    rw [hst] at HST
    generalize dn s.data.toList = d at *
    generalize fw s.data.toList = f at *
    have HDR := Lib.hid (fun w h => l02Draw_any g A c cs d f w h (by omega) (by omega))
    clear hst
    go_wp2_with fail
    refine (HST.out _).mono ?_
    rintro e w2 ⟨rfl, rfl⟩
    go_wp2_with fail
    refine (HB.out _ HD1.out.cur).mono ?_
    rintro e w2 ⟨x, hx, rfl, hd2⟩
    have HD2 := Lib.hid (HD1.out.trans hd2)
    clear hd2 HD1
    by_cases x0 : x = 0
    · have x1 : ¬ (0 : Int) < (x : Int) := by omega
      have x2 : ¬ 0 < x := by omega
      clear x0
      go_wp2_with fail
      refine (l02Any_any g A c cs _ HD2.out.cur).mono ?_
      rintro e w3 ⟨t, ht, rfl, hd3⟩
      have HD3 := Lib.hid (HD2.out.trans hd3)
      clear hd3
      go_wp2_with fail
      go_ret2
      exact ⟨s, t, hs, ht, rfl, HD3.out⟩
    · have x1 : (0 : Int) < (x : Int) := by omega
      have x2 : 0 < x := by omega
      clear x0
      go_wp2_with fail
      refine (HDN.out _).mono ?_
      rintro e w3 ⟨rfl, rfl⟩
      go_wp2_with fail
      refine (HFW.out _).mono ?_
      rintro e w3 ⟨rfl, rfl⟩
      go_wp2_with fail
      refine (HDR.out _ HD2.out.cur).mono ?_
      rintro e w3 ⟨l, hl, rfl, hd3⟩
      have HD3 := Lib.hid (HD2.out.trans hd3)
      have hlz := hl.size
      clear hd3
      go_wp2_with fail
      go_ret2
      exact ⟨s, _, hs, by rw [hlz]; omega, rfl, HD3.out⟩

theorem mix_small (up : Bool) (s t : ByteArray) : (bs (mix up s.data.toList t.data.toList)).size ≤ s.size := by
  rw [bs_size]
  cases h : sameFrame s.data.toList t.data.toList
  · rw [show mix up s.data.toList t.data.toList = [] from if_neg (by rw [h]; simp)]
    exact Nat.zero_le _
  · rw [mix_len h, size_list]
    exact Nat.le_refl _

theorem l10Pair_any (g : Nat) (A : Option Addr) (c : Nat) (cs : List UInt8) (w : World) (h : Cur w g A c cs) :
    Calls Try.prog 74 #[.pointer (some ⟨g, 0, none⟩)] w fun e w' => ∃ s t : ByteArray, s.size ≤ 32 ∧ t.size ≤ 32 ∧ e = .returned (.tuple #[.string s, .string t]) ∧ Drew w w' g A c cs := by
  have HB := Lib.hid (fun w h => l01Below_any g A c cs 5 w h (by decide) (by decide))
  have H0 := Lib.hid h
  clear h
  go_enter Try.func74, Try.ntmps74
  go_wp2_with fail
  refine (l02Pair_any g A c cs w H0.out).mono ?_
  rintro e w1 ⟨s, t, hs, ht, rfl, hd1⟩
  have HD1 := Lib.hid hd1
  have HSF := Lib.hid (fun w => specSameFrame_any s t w (by omega) (by omega))
  have HLO := Lib.hid (fun w => LowerOf_any s t w (by omega) (by omega))
  have HUP := Lib.hid (fun w => UpperOf_any s t w (by omega) (by omega))
  have m1 := mix_small false s t
  have m2 := mix_small true s t
  generalize bs (mix false s.data.toList t.data.toList) = u at *
  generalize bs (mix true s.data.toList t.data.toList) = v at *
  generalize sameFrame s.data.toList t.data.toList = sf at *
  clear hd1
  go_wp2_with fail
  refine (HB.out _ HD1.out.cur).mono ?_
  rintro e w2 ⟨x, hx, rfl, hd2⟩
  have HD2 := Lib.hid (HD1.out.trans hd2)
  clear hd2 HD1
  by_cases x0 : x = 0
  · have x1 : ¬ (0 : Int) < (x : Int) := by omega
    have x2 : ¬ 0 < x := by omega
    clear x0
    go_wp2_with fail
    go_ret2
    exact ⟨s, t, hs, ht, rfl, HD2.out⟩
  · have x1 : (0 : Int) < (x : Int) := by omega
    have x2 : 0 < x := by omega
    clear x0
    cases sf with
    | false =>
      go_wp2_with fail
      refine (HSF.out _).mono ?_
      rintro e w3 ⟨rfl, rfl⟩
      go_wp2_with fail
      go_ret2
      exact ⟨s, t, hs, ht, rfl, HD2.out⟩
    | true =>
      go_wp2_with fail
      refine (HSF.out _).mono ?_
      rintro e w3 ⟨rfl, rfl⟩
      go_wp2_with fail
      refine (HLO.out _).mono ?_
      rintro e w3 ⟨rfl, rfl⟩
      go_wp2_with fail
      refine (HUP.out _).mono ?_
      rintro e w3 ⟨rfl, rfl⟩
      go_wp2_with fail
      go_ret2
      exact ⟨u, v, by omega, by omega, rfl, HD2.out⟩

theorem DrawWayUp_any (A : Option Addr) (c : Nat) (cs : List UInt8) (w : World) (h : BRow w w.heap.size A cs) :
    Calls Try.prog 31 #[.slice A cs.length c] w fun e w' => ∃ s t : ByteArray, s.size ≤ 32 ∧ t.size ≤ 32 ∧ e = .returned (.tuple #[.string s, .string t]) ∧ Below w.heap.size w w' := by
  go_enter Try.func31, Try.ntmps31
  go_wp2_with fail
  refine (l01New_any A c cs w h).mono ?_
  rintro e w1 ⟨g, rfl, hg, hcur, hb⟩
  have HC := Lib.hid hcur
  have HB := Lib.hid hb
  clear hcur hb h
  go_wp2_with fail
  refine (l10Pair_any g A c cs w1 HC.out).mono ?_
  rintro e w2 ⟨s, t, hs, ht, rfl, hdr⟩
  have HBB := Lib.hid (hdr.below HB.out hg HB.out.size)
  clear hdr
  go_wp2_with fail
  go_ret2
  exact ⟨s, t, hs, ht, rfl, HBB.out⟩

end Go.Proofs.Ytpeopfkechbelaa
