
/-
  Contracts of the draw of a card: some valid card, of the call's own; no condition.
-/
import Derived.Test.YtpeopfkechbelaaDrawS
import Derived.Test.YtpeopfkechbelaaTurnC
import Derived.Test.YtpeopfkechbelaaFlat
import Derived.Deep.Cut
namespace Go.Proofs.Ytpeopfkechbelaa
open Go.ChangeShapes Go.WideShapes Go.ChangeAt Go.RowKit Go.Deep Go.BigFrame
set_option linter.unusedVariables false
set_option linter.unusedSimpArgs false

section
variable {w w' w2 : World} {g : Nat} {A : Option Addr} {c : Nat} {bs : List UInt8}
theorem Drew.more {row : Option Nat} (h : Drew w w' g A c bs) (hg : w'.grownBy w2 row) (hr : ∀ r, row = some r → w.heap.size ≤ r ∧ g < r) : Drew w w2 g A c bs := by
  have hlt : w.heap.size ≤ w'.heap.size := h.by_.size
  refine ⟨h.cur.grown hg (fun r e => (hr r e).2), ⟨hg.os.trans h.by_.os, hg.tape.trans h.by_.tape, hg.output.trans h.by_.output, Nat.le_trans hlt hg.size, fun k hk hne => ?_⟩⟩
  rw [hg.block k (by omega) (fun e => by have := (hr k e.symm).1; omega)]
  exact h.by_.block k hk hne
theorem Drew.store (h : Drew w w' g A c bs) {p : Addr} (hp : w.heap.size ≤ p.block ∧ g < p.block) (v : Value) : Drew w (w'.setCell p v) g A c bs :=
  h.more (row := some p.block) ⟨rfl, rfl, rfl, by simp, fun k hk hne => heap_setCell_other w' p k v (fun e => hne (by simp [e]))⟩ (fun r e => by simp at e; omega)
end
theorem StripOf.flat (d f : Nat) : StripOf d f (Go.Proofs.Ytpeopfkechbelaa.flat d f) := flat_counts d f

set_option maxHeartbeats 2000000 in
set_option maxRecDepth 8000 in
theorem l05Card_any (g : Nat) (A : Option Addr) (c : Nat) (cs : List UInt8) (w : World) (h : Cur w g A c cs) :
    Calls Try.prog 57 #[.pointer (some ⟨g, 0, none⟩)] w fun e w' => ∃ (d f : Nat) (ss : List ByteArray) (A' : Option Addr) (c' : Nat), (1 ≤ d ∧ d ≤ 4) ∧ (1 ≤ f ∧ f ≤ 4) ∧ (1 ≤ ss.length ∧ ss.length ≤ 6) ∧ (∀ s ∈ ss, StripOf d f s.data.toList) ∧
      e = .returned (.agg #[.int .i64 d, .int .i64 f, .slice A' ss.length c']) ∧ w'.ownsRow w.heap.size 9 1 (.slice A' ss.length c') ss.length (ss.map Value.string) ∧ Drew w w' g A c cs := by
  obtain ⟨i0, hi0, hz0, hz1, hz2⟩ := info_parts strInfo9
  have HB4 := Lib.hid (fun w h => l01Below_any g A c cs 4 w h (by decide) (by decide))
  have HB6 := Lib.hid (fun w h => l01Below_any g A c cs 6 w h (by decide) (by decide))
  have hg := h.lt
  have HR0 := Lib.hid (show OutAt (w.alloc (.cells #[.int .i64 0, .int .i64 0, .slice none 0 0] 30)) w.heap.size (w.heap.size + 1) 0 0 (.slice none 0 0) [] from ⟨by go_simp, by go_simp, by go_simp, fun j => by go_simp, World.ownsRow_nil _ _ _ _, Nat.lt_succ_self _⟩)
  have HD0 := Lib.hid ((Drew.refl h).more (World.grownBy_alloc w (.cells #[.int .i64 0, .int .i64 0, .slice none 0 0] 30) none) (fun r e => by simp at e))
  clear h
  go_enter Try.func57, Try.ntmps57
  go_upto_region 1 with (fail)
  generalize w.alloc (.cells #[.int .i64 0, .int .i64 0, .slice none 0 0] 30) = w1 at *
  go_wp2_with fail
  refine (HB4.out _ HD0.out.cur).mono ?_
  rintro e w2 ⟨x, hx, rfl, hd1⟩
  have HR1 := Lib.hid (HR0.out.grown2 hd1.by_ hg)
  have HD1 := Lib.hid (HD0.out.trans hd1)
  clear hd1 HR0 HD0
  go_wp2_with fail
  refine (HB4.out _ HD1.out.cur).mono ?_
  rintro e w4 ⟨y, hy, rfl, hd2⟩
  have HR2 := Lib.hid (HR1.out.grown2 hd2.by_ hg)
  have HD2 := Lib.hid (HD1.out.trans hd2)
  clear hd2 HR1 HD1
  have e1 : IntKind.i64.wrap (1 + (x : Int)) = ((1 + x : Nat) : Int) := by rw [IntKind.wrap_i64]; omega
  have e2 : IntKind.i64.wrap (1 + (y : Int)) = ((1 + y : Nat) : Int) := by rw [IntKind.wrap_i64]; omega
  have e1' : 1 + (x : Int) = ((1 + x : Nat) : Int) := by omega
  have e2' : 1 + (y : Int) = ((1 + y : Nat) : Int) := by omega
  obtain ⟨d, hd⟩ : ∃ d, d = 1 + x := ⟨_, rfl⟩
  obtain ⟨f, hf⟩ : ∃ f, f = 1 + y := ⟨_, rfl⟩
  rw [← hd] at e1 e1'
  rw [← hf] at e2 e2'
  have hd4 : 1 ≤ d ∧ d ≤ 4 := by omega
  have hf4 : 1 ≤ f ∧ f ≤ 4 := by omega
  clear hd hf
  go_upto_region 2 with (fail)
  have hgw : g < w4.heap.size ∧ w.heap.size < w4.heap.size := by have a := HD2.out.cur.lt; have b : w.heap.size < w4.heap.size := World.block_lt_of_cell? w4 _ HR2.out.c0; omega
  have hlt4 : w.heap.size ≤ (⟨w4.heap.size, 2, none⟩ : Addr).block ∧ g < (⟨w4.heap.size, 2, none⟩ : Addr).block := by simp; omega
  have HO5 := Lib.hid (show OutAt (w4.alloc (.cells #[.int .i64 d, .int .i64 f, .slice none 0 0] 30)) w4.heap.size (w4.heap.size + 1) d f (.slice none 0 0) [] from ⟨by go_simp, by go_simp, by go_simp, fun j => by go_simp, World.ownsRow_nil _ _ _ _, Nat.lt_succ_self _⟩)
  have HR5 := Lib.hid (HR2.out.on (below_alloc (Below.refl _ _) (.cells #[.int .i64 d, .int .i64 f, .slice none 0 0] 30)))
  have HD5 := Lib.hid (HD2.out.more (World.grownBy_alloc w4 (.cells #[.int .i64 d, .int .i64 f, .slice none 0 0] 30) none) (fun r e => by simp at e))
  generalize w4.alloc (.cells #[.int .i64 d, .int .i64 f, .slice none 0 0] 30) = w5 at *
  clear HR2 HD2 e1 e2 e1' e2' hx hy
  go_wp2_with fail
  refine (HB6.out _ HD5.out.cur).mono ?_
  rintro e w6 ⟨z, hz, rfl, hd6⟩
  have HO6 := Lib.hid (HO5.out.grown2 hd6.by_ hgw.1)
  have HR6 := Lib.hid (HR5.out.grown2 hd6.by_ hg)
  have HD6 := Lib.hid (HD5.out.trans hd6)
  clear hd6 HO5 HR5 HD5
  have e1 : IntKind.i64.wrap (1 + (z : Int)) = ((1 + z : Nat) : Int) := by rw [IntKind.wrap_i64]; omega
  have e1' : 1 + (z : Int) = ((1 + z : Nat) : Int) := by omega
  obtain ⟨n, hn⟩ : ∃ n, n = 1 + z := ⟨_, rfl⟩
  rw [← hn] at e1 e1'
  have hn6 : 1 ≤ n ∧ n ≤ 6 := by omega
  clear hn
  go_wp2_with fail
  clear e1 e1'
  go_loopw [5] (fun kv wr => ∃ (k : Nat) (v : Value) (rs : List ByteArray), k ≤ n ∧ kv = .int .i64 k ∧ rs.length = k ∧ (∀ x ∈ rs, StripOf d f x.data.toList) ∧ OutAt wr w4.heap.size (w4.heap.size + 1) d f v rs ∧ OutAt wr w.heap.size (w.heap.size + 1) 0 0 (.slice none 0 0) [] ∧ Drew w wr g A c cs) (fun kv _ => n - (intOf kv).toNat)
  case atStart => exact ⟨0, _, [], Nat.zero_le _, rfl, rfl, fun x h => absurd h (by simp), HO6.out, HR6.out, HD6.out⟩
  case round =>
    obtain ⟨k, v, rs, hk, rfl, hrl, hs, ho, hr, hd⟩ := hrel
    have HT := Lib.hid ho
    have HR := Lib.hid hr
    have HD := Lib.hid hd
    have HS := Lib.hid hs
    have HRL := Lib.hid hrl
    have hrl6 : rs.length ≤ 6 := by omega
    have hrk : k ≠ 0 → 0 < rs.length := by omega
    have hrj : k ≠ 0 → k - 1 < rs.length := by omega
    obtain ⟨o0, o1, o2, ofz, oown, olt⟩ := ho
    clear HO6 HR6 HD6 hr hd hs hrl oown olt ofz
    by_cases hlt : k < n
    · have hi : (k : Int) < (n : Int) := by omega
      have HDR := Lib.hid (fun w h => l02Draw_any g A c cs d f w h (by omega) (by omega))
      clear o2
      go_wp2_with fail
      refine (HDR.out _ HD.out.cur).mono ?_
      rintro e wA ⟨l, hl, rfl, hdA⟩
      have HL := Lib.hid hl
      have HTA := Lib.hid (HT.out.grown2 hdA.by_ hgw.1)
      have HRA := Lib.hid (HR.out.grown2 hdA.by_ hg)
      have HDA := Lib.hid (HD.out.trans hdA)
      clear hdA hl HT HR HD o0 o1
      go_wp2_with fail
      refine (HB4.out _ HDA.out.cur).mono ?_
      rintro e wB ⟨q, hq, rfl, hdB⟩
      have HTB := Lib.hid (HTA.out.grown2 hdB.by_ hgw.1)
      have HRB := Lib.hid (HRA.out.grown2 hdB.by_ hg)
      have HDB := Lib.hid (HDA.out.trans hdB)
      clear hdB HTA HRA HDA
      obtain ⟨o0, o1, o2, ofz, oown, olt⟩ := HTB.out
      clear oown olt ofz
      by_cases q0 : q = 0
      · have q0' : (q : Int) = 0 := by omega
        have HF := Lib.hid (fun w => specFlatStrip_any d f w (by omega) (by omega))
        obtain ⟨u, hu⟩ : ∃ u, u = bs (flat d f) := ⟨_, rfl⟩
        have HSU := Lib.hid (show StripOf d f u.data.toList by rw [hu, bs_list]; exact StripOf.flat d f)
        rw [← hu] at HF
        clear hu
        clear o2
        go_wp2_with fail
        refine (HF.out _).mono ?_
        rintro e wC ⟨rfl, rfl⟩
        clear o0 o1
        have hz2' : w4.heap.size + 1 ≤ wB.heap.size := World.block_lt_of_cell? wB _ HTB.out.c0
        have hown2 := Lib.hid HTB.out.own
        have hsz2 := Lib.hid hgw
        have o2' := HTB.out.c2
        have f2' := HTB.out.fz 2
        have hl3 : (rs ++ [u]).length = rs.length + 1 := by simp
        skip
        go_wp2_with ((at_builtin; refine wpList_append_lies _ rfl _ _ 28 rfl (w4.heap.size + 1) 9 i0 (.string .empty) 1 16 Try.underlying28 hi0 hz0 hz1 hz2 rfl (by decide) _ _ _ rfl (hown2.out.alloc _) ⟨wB.heap.size, 0, none⟩ 1 1 [.string u] rfl rfl (news_one _ _ _) (one_one rfl) (by decide) (by unfold maxLen; omega) (by omega) (by simp; omega) _ rfl ?_; intro g3 c3 w3 hown3 hgr3 hat3 hlt3); obtain ⟨o3, f3⟩ := HTB.out.still hgr3)
        have HT5 := Lib.hid (HTB.out.app (v' := .slice (some ⟨g3, 0, none⟩) (rs.length + 1) c3) (ss' := rs ++ [u]) (by rw [hl3, List.map_append]; exact hown3) hgr3)
        have HR5 := Lib.hid (HTB.out.beside HRB.out rfl (by omega) hgr3 (v' := .slice (some ⟨g3, 0, none⟩) (rs.length + 1) c3))
        have HD5 := Lib.hid (Drew.store (p := ⟨w4.heap.size, 2, none⟩) (HDB.out.more (grown_trans (World.grownBy_alloc wB (.cells #[.string u] 9) _) hgr3) (fun r hr => by have := (HTB.out.own.lt r hr).1; omega)) hlt4 (.slice (some ⟨g3, 0, none⟩) (rs.length + 1) c3))
        have HL3 := Lib.hid hl3
        have HSN := Lib.hid (show ∀ x ∈ rs ++ [u], StripOf d f x.data.toList from fun x hx => by rcases List.mem_append.1 hx with h | h; exact HS.out x h; rw [List.mem_singleton.1 h]; exact HSU.out)
        clear hl3 o2' f2' hown2 hown3 hgr3 hat3 hlt3 hsz2 o3 f3
        generalize w3.setCell ⟨w4.heap.size, 2, none⟩ (.slice (some ⟨g3, 0, none⟩) (rs.length + 1) c3) = w9 at *
        go_roundw
        case rel => exact ⟨k + 1, _, rs ++ [u], by omega, by go_num, by rw [HL3.out, HRL.out], HSN.out, HT5.out, HR5.out, HD5.out⟩
        case measure => simp [intOf]; omega
      · have q0' : ¬ (q : Int) = 0 := by omega
        obtain ⟨u, hu⟩ : ∃ u, u = bs l := ⟨_, rfl⟩
        have HSU := Lib.hid (show StripOf d f u.data.toList by rw [hu, bs_list]; exact HL.out)
        rw [← hu]
        clear hu
        by_cases q1 : q = 1
        · have q1' : (q : Int) = 1 := by omega
          by_cases k0 : k = 0
          · have k0' : ¬ (0 : Int) < (k : Int) := by omega
            clear o0 o1 o2
            have hz2' : w4.heap.size + 1 ≤ wB.heap.size := World.block_lt_of_cell? wB _ HTB.out.c0
            have hown2 := Lib.hid HTB.out.own
            have hsz2 := Lib.hid hgw
            have o2' := HTB.out.c2
            have f2' := HTB.out.fz 2
            have hl3 : (rs ++ [u]).length = rs.length + 1 := by simp
            skip
            go_wp2_with ((at_builtin; refine wpList_append_lies _ rfl _ _ 28 rfl (w4.heap.size + 1) 9 i0 (.string .empty) 1 16 Try.underlying28 hi0 hz0 hz1 hz2 rfl (by decide) _ _ _ rfl (hown2.out.alloc _) ⟨wB.heap.size, 0, none⟩ 1 1 [.string u] rfl rfl (news_one _ _ _) (one_one rfl) (by decide) (by unfold maxLen; omega) (by omega) (by simp; omega) _ rfl ?_; intro g3 c3 w3 hown3 hgr3 hat3 hlt3); obtain ⟨o3, f3⟩ := HTB.out.still hgr3)
            have HT5 := Lib.hid (HTB.out.app (v' := .slice (some ⟨g3, 0, none⟩) (rs.length + 1) c3) (ss' := rs ++ [u]) (by rw [hl3, List.map_append]; exact hown3) hgr3)
            have HR5 := Lib.hid (HTB.out.beside HRB.out rfl (by omega) hgr3 (v' := .slice (some ⟨g3, 0, none⟩) (rs.length + 1) c3))
            have HD5 := Lib.hid (Drew.store (p := ⟨w4.heap.size, 2, none⟩) (HDB.out.more (grown_trans (World.grownBy_alloc wB (.cells #[.string u] 9) _) hgr3) (fun r hr => by have := (HTB.out.own.lt r hr).1; omega)) hlt4 (.slice (some ⟨g3, 0, none⟩) (rs.length + 1) c3))
            have HL3 := Lib.hid hl3
            have HSN := Lib.hid (show ∀ x ∈ rs ++ [u], StripOf d f x.data.toList from fun x hx => by rcases List.mem_append.1 hx with h | h; exact HS.out x h; rw [List.mem_singleton.1 h]; exact HSU.out)
            clear hl3 o2' f2' hown2 hown3 hgr3 hat3 hlt3 hsz2 o3 f3
            generalize w3.setCell ⟨w4.heap.size, 2, none⟩ (.slice (some ⟨g3, 0, none⟩) (rs.length + 1) c3) = w9 at *
            go_roundw
            case rel => exact ⟨k + 1, _, rs ++ [u], by omega, by go_num, by rw [HL3.out, HRL.out], HSN.out, HT5.out, HR5.out, HD5.out⟩
            case measure => simp [intOf]; omega
          · have k0' : (0 : Int) < (k : Int) := by omega
            have hkk := hrj k0
            have hkm : (k : Int) - 1 = ((k - 1 : Nat) : Int) := by omega
            obtain ⟨gv, cv, rfl, hgv1, hgv2⟩ := HTB.out.own.form (hrk k0)
            have hcv := HTB.out.own.cellAt (k - 1) (by rw [Nat.mul_one]; exact hkk)
            have hmem := HS.out _ (List.getElem_mem hkk)
            have hge : (rs.map Value.string)[k - 1]? = some (Value.string rs[k - 1]) := by rw [List.getElem?_map, List.getElem?_eq_getElem hkk]; rfl
            rw [hge] at hcv
            obtain ⟨u2, hu2⟩ : ∃ u2, u2 = rs[k - 1] := ⟨_, rfl⟩
            rw [← hu2] at hcv hmem
            have hki2 : ((k - 1 : Nat) : Int) < (rs.length : Int) := by omega
            have HSV := Lib.hid hmem
            clear hu2 hge hmem o0 o1
            obtain ⟨k', hk'⟩ : ∃ k', k' = k - 1 := ⟨_, rfl⟩
            rw [← hk'] at hcv hkm hki2
            clear hk' hkk
            have hz2' : w4.heap.size + 1 ≤ wB.heap.size := World.block_lt_of_cell? wB _ HTB.out.c0
            have hown2 := Lib.hid HTB.out.own
            have hsz2 := Lib.hid hgw
            have o2' := HTB.out.c2
            have f2' := HTB.out.fz 2
            have hl3 : (rs ++ [u2]).length = rs.length + 1 := by simp
            skip
            go_wp2_with ((at_builtin; refine wpList_append_lies _ rfl _ _ 28 rfl (w4.heap.size + 1) 9 i0 (.string .empty) 1 16 Try.underlying28 hi0 hz0 hz1 hz2 rfl (by decide) _ _ _ rfl (hown2.out.alloc _) ⟨wB.heap.size, 0, none⟩ 1 1 [.string u2] rfl rfl (news_one _ _ _) (one_one rfl) (by decide) (by unfold maxLen; omega) (by omega) (by simp; omega) _ rfl ?_; intro g3 c3 w3 hown3 hgr3 hat3 hlt3); obtain ⟨o3, f3⟩ := HTB.out.still hgr3)
            have HT5 := Lib.hid (HTB.out.app (v' := .slice (some ⟨g3, 0, none⟩) (rs.length + 1) c3) (ss' := rs ++ [u2]) (by rw [hl3, List.map_append]; exact hown3) hgr3)
            have HR5 := Lib.hid (HTB.out.beside HRB.out rfl (by omega) hgr3 (v' := .slice (some ⟨g3, 0, none⟩) (rs.length + 1) c3))
            have HD5 := Lib.hid (Drew.store (p := ⟨w4.heap.size, 2, none⟩) (HDB.out.more (grown_trans (World.grownBy_alloc wB (.cells #[.string u2] 9) _) hgr3) (fun r hr => by have := (HTB.out.own.lt r hr).1; omega)) hlt4 (.slice (some ⟨g3, 0, none⟩) (rs.length + 1) c3))
            have HL3 := Lib.hid hl3
            have HSN := Lib.hid (show ∀ x ∈ rs ++ [u2], StripOf d f x.data.toList from fun x hx => by rcases List.mem_append.1 hx with h | h; exact HS.out x h; rw [List.mem_singleton.1 h]; exact HSV.out)
            clear hl3 o2' f2' hown2 hown3 hgr3 hat3 hlt3 hsz2 o3 f3
            generalize w3.setCell ⟨w4.heap.size, 2, none⟩ (.slice (some ⟨g3, 0, none⟩) (rs.length + 1) c3) = w9 at *
            go_roundw
            case rel => exact ⟨k + 1, _, rs ++ [u2], by omega, by go_num, by rw [HL3.out, HRL.out], HSN.out, HT5.out, HR5.out, HD5.out⟩
            case measure => simp [intOf]; omega
        · have q1' : ¬ (q : Int) = 1 := by omega
          clear o0 o1 o2
          have hz2' : w4.heap.size + 1 ≤ wB.heap.size := World.block_lt_of_cell? wB _ HTB.out.c0
          have hown2 := Lib.hid HTB.out.own
          have hsz2 := Lib.hid hgw
          have o2' := HTB.out.c2
          have f2' := HTB.out.fz 2
          have hl3 : (rs ++ [u]).length = rs.length + 1 := by simp
          skip
          go_wp2_with ((at_builtin; refine wpList_append_lies _ rfl _ _ 28 rfl (w4.heap.size + 1) 9 i0 (.string .empty) 1 16 Try.underlying28 hi0 hz0 hz1 hz2 rfl (by decide) _ _ _ rfl (hown2.out.alloc _) ⟨wB.heap.size, 0, none⟩ 1 1 [.string u] rfl rfl (news_one _ _ _) (one_one rfl) (by decide) (by unfold maxLen; omega) (by omega) (by simp; omega) _ rfl ?_; intro g3 c3 w3 hown3 hgr3 hat3 hlt3); obtain ⟨o3, f3⟩ := HTB.out.still hgr3)
          have HT5 := Lib.hid (HTB.out.app (v' := .slice (some ⟨g3, 0, none⟩) (rs.length + 1) c3) (ss' := rs ++ [u]) (by rw [hl3, List.map_append]; exact hown3) hgr3)
          have HR5 := Lib.hid (HTB.out.beside HRB.out rfl (by omega) hgr3 (v' := .slice (some ⟨g3, 0, none⟩) (rs.length + 1) c3))
          have HD5 := Lib.hid (Drew.store (p := ⟨w4.heap.size, 2, none⟩) (HDB.out.more (grown_trans (World.grownBy_alloc wB (.cells #[.string u] 9) _) hgr3) (fun r hr => by have := (HTB.out.own.lt r hr).1; omega)) hlt4 (.slice (some ⟨g3, 0, none⟩) (rs.length + 1) c3))
          have HL3 := Lib.hid hl3
          have HSN := Lib.hid (show ∀ x ∈ rs ++ [u], StripOf d f x.data.toList from fun x hx => by rcases List.mem_append.1 hx with h | h; exact HS.out x h; rw [List.mem_singleton.1 h]; exact HSU.out)
          clear hl3 o2' f2' hown2 hown3 hgr3 hat3 hlt3 hsz2 o3 f3
          generalize w3.setCell ⟨w4.heap.size, 2, none⟩ (.slice (some ⟨g3, 0, none⟩) (rs.length + 1) c3) = w9 at *
          go_roundw
          case rel => exact ⟨k + 1, _, rs ++ [u], by omega, by go_num, by rw [HL3.out, HRL.out], HSN.out, HT5.out, HR5.out, HD5.out⟩
          case measure => simp [intOf]; omega
    · obtain rfl : k = n := by omega
      obtain ⟨r0, r1, r2, rfz, rown, rlt⟩ := HR.out
      have f0 := rfz 0
      have f1 := rfz 1
      have f2 := rfz 2
      obtain ⟨A9, c9, e9, _⟩ := own_slice9 HT.out.own
      subst e9
      clear rfz rown rlt
      go_wp2_with fail
      refine bodyPost_ret (v := .agg #[.int .i64 d, .int .i64 f, .slice A9 rs.length c9]) (by simp [results, Try.results57, go_sem, r0, r1, r2]) rfl ?_
      refine ⟨d, f, rs, A9, c9, hd4, hf4, by rw [HRL.out]; exact hn6, HS.out, rfl, ?_, (((HD.out.store (p := ⟨w.heap.size, 0, none⟩) ⟨Nat.le_refl _, hg⟩ _).store (p := ⟨w.heap.size, 1, none⟩) ⟨Nat.le_refl _, hg⟩ _).store (p := ⟨w.heap.size, 2, none⟩) ⟨Nat.le_refl _, hg⟩ _)⟩
      refine own_mono (ownsRow_setCell_below (ownsRow_setCell_below (ownsRow_setCell_below HT.out.own ?_ _) ?_ _) ?_ _) ?_
      all_goals first | omega | (simp; done) | (simp; omega)

/-- a drawn card: valid, of the call's own -/
def NewDrawn (w : World) (e : Ending) (w' : World) : Prop := ∃ (d f : Nat) (ss : List ByteArray) (A' : Option Addr) (c' : Nat), (1 ≤ d ∧ d ≤ 4) ∧ (1 ≤ f ∧ f ≤ 4) ∧ (1 ≤ ss.length ∧ ss.length ≤ 6) ∧ (∀ s ∈ ss, StripOf d f s.data.toList) ∧
      e = .returned (.agg #[.int .i64 d, .int .i64 f, .slice A' ss.length c']) ∧ w'.ownsRow w.heap.size 9 1 (.slice A' ss.length c') ss.length (ss.map Value.string) ∧ Below w.heap.size w w'
theorem drawn_ok {d f : Nat} {ss : List ByteArray} (hd : 1 ≤ d ∧ d ≤ 4) (hf : 1 ≤ f ∧ f ≤ 4) (hl : 1 ≤ ss.length ∧ ss.length ≤ 6) (hs : ∀ s ∈ ss, StripOf d f s.data.toList) : cardOk d f ss = true ∧ (∀ s ∈ ss, s.size ≤ 8) := by
  refine ⟨andI (inB_iff.2 (by omega)) (andI (inB_iff.2 (by omega)) (andI (inB_iff.2 (by omega)) (List.all_eq_true.2 fun s h => ?_))), fun s h => ?_⟩
  · have a := hs s h
    have b := a.strip (by omega) (by omega)
    refine inFrame_yes ?_ ?_
    · rw [downOf_yes b, a.1]
    · rw [forwardOf_yes b, a.2.1]
  · have a := (hs s h).2.2
    rw [size_list] at a
    omega

end Go.Proofs.Ytpeopfkechbelaa
