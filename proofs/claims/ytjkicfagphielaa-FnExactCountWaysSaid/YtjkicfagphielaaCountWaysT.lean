
/-
  The walk of the reference's CountWays; no condition beyond the length of the texts.
-/
import Derived.Test.YtjkicfagphielaaCountWaysS
namespace Go.Proofs.Ytjkicfagphielaa
open Go.ChangeShapes Go.WideShapes Go.ChangeAt Go.RowKit Go.Deep Go.BigFrame
set_option linter.unusedVariables false
set_option linter.unusedSimpArgs false

theorem srow_one' {W : World} {B g : Nat} {S : ByteArray} (hg : g < B) (hc : W.cell? ⟨g, 0, none⟩ = some (.string S)) : SRow W B (some ⟨g, 0, none⟩) [S] := by
  refine ⟨rfl, ?_, fun _ => ⟨g, 0, rfl, hg, fun j hj => ?_⟩⟩
  · show 1 ≤ maxLen
    unfold maxLen
    decide
  · have e : j = 0 := by simpa using hj
    subst e
    simpa using hc
theorem nrow_one {W : World} {B g : Nat} {x : Nat} (hg : g < B) (hc : W.cell? ⟨g, 0, none⟩ = some (.int .i64 (x : Nat))) : NRow W B (some ⟨g, 0, none⟩) [x] := by
  refine ⟨rfl, ?_, fun _ => ⟨g, 0, rfl, hg, fun j hj => ?_⟩⟩
  · show 1 ≤ maxLen
    unfold maxLen
    decide
  · have e : j = 0 := by simpa using hj
    subst e
    simpa [nInt] using hc
theorem NRow.of_own {w : World} {A : Option Addr} {cs : List Nat} {base c : Nat} {e : TypeId} (h : w.ownsRow base e 1 (.slice A cs.length c) cs.length (cs.map nInt)) : NRow w w.heap.size A cs := by
  obtain ⟨A', c', e', hr⟩ := Row.of_own h
  obtain ⟨rfl, rfl⟩ : A = A' ∧ c = c' := by simpa using e'
  exact hr

/-- the next level behind one more name that was there -/
theorem fill_found { T : List UInt8} {xs : List ByteArray} {cs : List Nat} {x : ByteArray} {p v n a : Nat} (hl : xs.length = cs.length) (hp : p < cs.length) (hx : xs.getD p .empty = x) (hc : ∀ c ∈ cs, 1 ≤ c) (hv : 1 ≤ v) (hL : Lev T n a xs) :
    dot T xs (cs.set p (cs.getD p 0 + v)) = dot T xs cs + v * nUp T x.data.toList ∧ (∀ c ∈ cs.set p (cs.getD p 0 + v), 1 ≤ c) ∧ cs.getD p 0 + v ≤ dot T xs cs + v * nUp T x.data.toList := by
  have e := dot_set T v xs cs p hl hp
  rw [hx] at e
  refine ⟨e, fun c h => ?_, ?_⟩
  · rcases List.mem_or_eq_of_mem_set h with h | h
    · exact hc c h
    · omega
  · have g := dot_ge T xs (cs.set p (cs.getD p 0 + v)) p (by simpa using hl) (by simpa using hp) hL.pos
    have e2 : (cs.set p (cs.getD p 0 + v)).getD p 0 = cs.getD p 0 + v := by simp [List.getD, hp]
    omega
theorem fill_new { T : List UInt8} {xs : List ByteArray} {cs : List Nat} {x : ByteArray} {v : Nat} (hl : xs.length = cs.length) (hc : ∀ c ∈ cs, 1 ≤ c) (hv : 1 ≤ v) :
    (cs ++ [0]).set cs.length v = cs ++ [v] ∧ dot T (xs ++ [x]) (cs ++ [v]) = dot T xs cs + v * nUp T x.data.toList ∧ (∀ c ∈ cs ++ [v], 1 ≤ c) := by
  refine ⟨by simp, dot_snoc T x v xs cs hl, fun c h => ?_⟩
  rcases List.mem_append.1 h with h | h
  · exact hc c h
  · rw [List.mem_singleton.1 h]; exact hv

set_option maxHeartbeats 1000000 in
set_option maxRecDepth 100000 in
theorem specCountWays_any (s t : ByteArray) (w : World) (hs : s.size ≤ 4294967296) (ht : t.size ≤ 4294967296) : Calls Try.prog 77 #[.string s, .string t] w fun e w' => e = .returned (.int .i64 (countWays s.data.toList t.data.toList)) ∧ Below w.heap.size w w' := by
  have hab := fun w => specIsAbove_any t s w ht hs
  by_cases ha : isAbove t.data.toList s.data.toList = true
  case neg =>
    have ha' : isAbove t.data.toList s.data.toList = false := by simpa using ha
    rw [show countWays s.data.toList t.data.toList = 0 from if_neg (fun h => ha h.1)]
    rw [ha'] at hab
    clear ha ha'
    go_enter Try.func77, Try.ntmps77
    go_wp2_with fail
    refine (hab _).mono ?_
    rintro e w1 ⟨rfl, rfl⟩
    go_wp2_with fail
    go_ret
    exact ⟨rfl, (by repeat' (first | exact Below.refl _ _ | assumption | (refine Below.drew ?_) | (refine below_drewN ?_ _) | (refine below_thru ?_ (by assumption)) | (refine below_alloc ?_ _) | (refine Below.setCell ?_ (by first | omega | (simp; done) | (simp; omega)) _) | (refine Below.alloc ?_ (by first | omega | (simp; done) | (simp; omega)) _)))⟩
  rw [ha] at hab
  have har := fun w => specAreaBetween_any s t w hs ht
  rw [(area_above ha).1] at har
  have HAB := Lib.hid hab
  have HAR := Lib.hid har
  by_cases h12 : gap t.data.toList s.data.toList ≤ 12
  case neg =>
    rw [show countWays s.data.toList t.data.toList = 0 from if_neg (fun h => h12 h.2)]
    have hgi : (12 : Int) < (gap t.data.toList s.data.toList : Int) := by omega
    clear hab har ha
    generalize gap t.data.toList s.data.toList = g at *
    go_enter Try.func77, Try.ntmps77
    go_wp2_with fail
    refine (HAB.out _).mono ?_
    rintro e w1 ⟨rfl, rfl⟩
    go_wp2_with fail
    refine (HAR.out _).mono ?_
    rintro e w1 ⟨rfl, hb⟩
    go_wp2_with fail
    go_ret
    exact ⟨rfl, (by repeat' (first | exact Below.refl _ _ | assumption | (refine Below.drew ?_) | (refine below_drewN ?_ _) | (refine below_thru ?_ (by assumption)) | (refine below_alloc ?_ _) | (refine Below.setCell ?_ (by first | omega | (simp; done) | (simp; omega)) _) | (refine Below.alloc ?_ (by first | omega | (simp; done) | (simp; omega)) _)))⟩
  rw [show countWays s.data.toList t.data.toList = (nUp t.data.toList s.data.toList : Int) from if_pos ⟨ha, h12⟩]
  obtain ⟨j0, hj0, jz0, jz1, jz2⟩ := info_parts intInfo
  obtain ⟨k0, hk0, kz0, kz1, kz2⟩ := info_parts strInfo'
  have hgi : (gap t.data.toList s.data.toList : Int) ≤ 12 := by omega
  have hs16 : s.size ≤ 16 ∧ 2 ≤ s.size := by
    have h1 := isStrip_parts (sameFrame_parts (isAbove_parts ha).1).2.1
    rw [size_list] at h1
    omega
  have hN1 := nUp_pos 12 s.data.toList ha h12
  have hN2 : nUp t.data.toList s.data.toList ≤ 68719476736 := Nat.le_trans (nUp_le 12 s.data.toList ha h12) (by decide)
  have HR := Lib.hid (fun y (k : Nat) w (h : y.size = s.size) => specRaiseAt_any y (k : Int) w (by omega))
  have HA := Lib.hid (fun x w (h : x.size = s.size) => specIsAbove_any t x w ht (by omega))
  have HL0 : Hid (Lev t.data.toList s.size (gap t.data.toList s.data.toList) [s]) := Lib.hid ⟨fun x hx => by rw [List.mem_singleton.1 hx]; exact ⟨rfl, ha, rfl⟩, by simp⟩
  have HD0 : Hid (dot t.data.toList [s] [1] = nUp t.data.toList s.data.toList) := Lib.hid (by simp [dot])
  obtain ⟨N, hN⟩ : ∃ N, N = nUp t.data.toList s.data.toList := ⟨_, rfl⟩
  rw [← hN] at hN1 hN2 HD0 ⊢
  obtain ⟨n, hn⟩ : ∃ n, n = s.size := ⟨_, rfl⟩
  rw [← hn] at hs16 HR HA HL0
  have hni : (s.size : Int) = (n : Int) := by omega
  clear hab har hN ha hn
  have HLast := Lib.hid (fun xs ws h hl hd => Lev.last (t := t) (n := n) (xs := xs) (cs := ws) (N := N) h hl hd hN1)
  generalize t.data.toList = T at *
  generalize hG : gap T s.data.toList = G at *
  clear hG
  go_enter Try.func77, Try.ntmps77
  go_wp2_with fail
  refine (HAB.out _).mono ?_
  rintro e w1 ⟨rfl, rfl⟩
  go_wp2_with fail
  refine (HAR.out _).mono ?_
  rintro e w1 ⟨rfl, hb1⟩
  have HB1 := Lib.hid hb1
  clear hb1
  go_wp2_with fail
  refine (HAR.out _).mono ?_
  rintro e w2 ⟨rfl, hb2⟩
  have HS0 := Lib.hid (SRow.on (w' := w2) (srow_one' (W := (w1.alloc (.cells #[.string s] 9)).alloc (.cells #[.int .i64 1] 3)) (g := w1.heap.size) (S := s) (by simp; omega) (by go_simp)) hb2)
  have HW0 := Lib.hid (Row.on (w' := w2) (nrow_one (W := (w1.alloc (.cells #[.string s] 9)).alloc (.cells #[.int .i64 1] 3)) (g := w1.heap.size + 1) (x := 1) (by simp) (by go_simp)) hb2)
  have HB2 := Lib.hid (below_thru (below_alloc (below_alloc HB1.out (.cells #[.string s] 9)) (.cells #[.int .i64 1] 3)) hb2)
  clear hb2
  go_wp2_with fail
  go_loopw [5, 6, 7] (fun nv wv av wr => ∃ (a : Nat) (xs : List ByteArray) (ws : List Nat) (A : Option Addr) (c : Nat) (A2 : Option Addr) (c2 : Nat), av = .int .i64 a ∧ nv = .slice A xs.length c ∧ wv = .slice A2 ws.length c2 ∧ SRow wr wr.heap.size A xs ∧ NRow wr wr.heap.size A2 ws ∧ Lev T n a xs ∧ xs.length = ws.length ∧ (∀ c ∈ ws, 1 ≤ c) ∧ dot T xs ws = N ∧ a ≤ 12 ∧ Below w.heap.size w wr) (fun _ _ av _ => (intOf av).toNat)
  case atStart => exact ⟨G, [s], [1], _, _, _, _, rfl, rfl, rfl, HS0.out, HW0.out, HL0.out, rfl, by simp, HD0.out, by omega, HB2.out⟩
  case round =>
    clear HS0 HW0 HB1 HB2 HL0 HD0
    obtain ⟨a, xs, ws, A, c, A2, c2, rfl, rfl, rfl, hsr, hwr, hlev, hlen, hone, hdot, ha12, hbr⟩ := hrel
    have HSR := Lib.hid hsr
    have HWR := Lib.hid hwr
    have HLV := Lib.hid hlev
    have HLN := Lib.hid hlen
    have HON := Lib.hid hone
    have HDT := Lib.hid hdot
    have HB := Lib.hid hbr
    have hxl : xs.length ≤ N := by rw [← hdot]; exact dot_len T xs ws hlen hlev.pos hone
    clear hsr hwr hlev hlen hone hdot hbr
    by_cases h0 : a = 0
    · subst h0
      have hws := HLast.out xs ws HLV.out HLN.out HDT.out
      subst hws
      obtain ⟨b, o, rfl, _, hc⟩ := HWR.out.at_ (k := 0) (by simp)
      simp only [List.getD_cons_zero, Nat.add_zero] at hc
      go_wp2_with fail
      go_ret
      exact ⟨rfl, HB.out⟩
    · obtain ⟨ap, rfl⟩ : ∃ ap, a = ap + 1 := ⟨a - 1, by omega⟩
      have hai : (0 : Int) < ((ap + 1 : Nat) : Int) := by omega
      obtain ⟨wo, hwo⟩ : ∃ wo, wo = wr := ⟨_, rfl⟩
      subst hwo
      clear h0
      go_wp2_with fail
      go_loopw [8, 9, 10] (fun nx ct iv wi => ∃ i : Nat, i ≤ xs.length ∧ iv = .int .i64 i ∧ Fill wi wo.heap.size nx ct T n ap N (dot T (xs.take i) (ws.take i)) ∧ Below wo.heap.size wo wi) (fun _ _ iv _ => xs.length - (intOf iv).toNat)
      case atStart => exact ⟨0, Nat.zero_le _, rfl, ⟨[], [], wo.heap.size, 0, wo.heap.size + 1, 0, rfl, by simp, by omega, (World.ownsRow_made wo #[] 0 (Nat.le_refl _) (Nat.zero_le _) (by simp)).alloc _, by
        have := World.ownsRow_made (base := wo.heap.size) (e := 3) (size := 1) (wo.alloc (.cells #[] 9)) #[] 0 (by simp) (Nat.zero_le _) (by simp)
        simpa using this, Lev.nil_ _ _ _, rfl, by simp, by simp [dot]⟩, ((Below.refl _ _).alloc (Nat.le_refl _) _).alloc (by simp) _⟩
      case round =>
        obtain ⟨i, hi, rfl, hfill, hbi⟩ := hrel
        have HF := Lib.hid hfill
        have HBI := Lib.hid hbi
        clear hfill hbi
        by_cases hlt : i < xs.length
        · have hii : (i : Int) < (xs.length : Int) := by omega
          obtain ⟨bA, oA, rfl, hbA, cA⟩ := HSR.out.at_ hlt
          obtain ⟨bW, oW, rfl, hbW, cW⟩ := HWR.out.at_ (k := i) (by rw [← HLN.out]; exact hlt)
          obtain ⟨y1, y2, y3⟩ := HLV.out.at_ hlt
          have hdt := dot_take T xs ws i HLN.out hlt
          have hdl := dot_take_le T xs ws (i + 1)
          rw [HDT.out, hdt] at hdl
          have hwk : 1 ≤ ws.getD i 0 := HON.out _ (by
            have : i < ws.length := by rw [← HLN.out]; exact hlt
            simp [List.getD, this])
          have hwi : (i : Int) < (ws.length : Int) := by rw [← HLN.out]; exact hii
          have hne : (xs.getD i .empty).data.toList ≠ T := gap_pos_ne (by omega)
          have hall := accK_all y2 hne
          rw [size_list, y1] at hall
          have hmono := fun k m => accK_mono T (xs.getD i .empty).data.toList k m
          have hgu := fun k => gap_up (k := k) y2
          obtain ⟨y, hy⟩ : ∃ y, y = xs.getD i .empty := ⟨_, rfl⟩
          obtain ⟨wk, hwkd⟩ : ∃ wk, wk = ws.getD i 0 := ⟨_, rfl⟩
          rw [← hy] at cA y1 y2 y3 hdl hdt hall hmono hgu
          rw [← hwkd] at cW hdl hdt hwk
          generalize dot T (xs.take i) (ws.take i) = D at *
          have HDN := Lib.hid hdt
          have HALL := Lib.hid hall
          have HMO := Lib.hid hmono
          have HGU := Lib.hid hgu
          have HY1 := Lib.hid y1
          have HY3 := Lib.hid y3
          have HDL := Lib.hid hdl
          have CA := Lib.hid cA
          have CW := Lib.hid cW
          have HRY := Lib.hid (fun k w => HR.out y k w y1)
          clear hy hwkd hdt hall hmono hgu y1 y2 y3 hne hdl cA cW
          go_wp2_with fail
          go_loopw [8, 9, 11] (fun nx ct kv wx => ∃ k : Nat, 1 ≤ k ∧ k ≤ n ∧ kv = .int .i64 k ∧ Fill wx wo.heap.size nx ct T n ap N (D + wk * accK T y.data.toList k) ∧ Below wo.heap.size wo wx) (fun _ _ kv _ => n - (intOf kv).toNat)
          case atStart => exact ⟨1, Nat.le_refl _, by omega, rfl, by rw [accK_one, Nat.mul_zero, Nat.add_zero]; exact HF.out, HBI.out⟩
          case round =>
            clear HF HBI
            obtain ⟨k, hk1, hk2, rfl, hfill, hbi⟩ := hrel
            have HF := Lib.hid hfill
            have HBI := Lib.hid hbi
            clear hfill hbi
            by_cases hkn : k < n
            · have hki : (k : Int) < (n : Int) := by omega
              have cA := cell_on HBI.out CA.out
              have hyz := HY1.out
              have hturn := turnB_list y k hk1 (by omega)
              have hts := turnB_size y k hk1 (by omega)
              have hRk := fun w => HRY.out k w
              cases hf : foldAt 100 y.data.toList (k : Int)
              · rw [hf, if_neg (by decide)] at hRk
                have HRK := Lib.hid hRk
                have HN := Lib.hid (accK_no (up_no_fold (t := T) hf))
                clear hRk hf hturn hts hyz
                go_wp2_with fail
                refine (HRK.out _).mono ?_
                rintro e w3 ⟨rfl, q, rfl⟩
                go_wp2_with fail
                refine ⟨?_, ?measure⟩
                case measure => simp [intOf]; omega
                (repeat apply Exists.intro)
                refine ⟨?rel, rfl⟩
                case rel => exact ⟨k + 1, by omega, by omega, by go_num, by rw [HN.out]; exact HF.out.drewN q, below_drewN HBI.out q⟩
              · rw [hf, if_pos rfl, Int.toNat_natCast] at hRk
                have HRK := Lib.hid hRk
                have hAk := fun w => HA.out (turnB y k) w (by omega)
                rw [hturn] at hAk
                have hupk := up_fold (t := T) hf
                cases hu : isAbove T (swp y.data.toList k)
                · rw [hu] at hAk hupk
                  have HN := Lib.hid (accK_no hupk)
                  have HAK := Lib.hid hAk
                  clear hRk hf hturn hts hAk hupk hu hyz
                  go_wp2_with fail
                  refine (HRK.out _).mono ?_
                  rintro e w3 ⟨rfl, q, rfl⟩
                  go_wp2_with fail
                  refine (HAK.out _).mono ?_
                  rintro e w3 ⟨rfl, rfl⟩
                  go_wp2_with fail
                  refine ⟨?_, ?measure⟩
                  case measure => simp [intOf]; omega
                  (repeat apply Exists.intro)
                  refine ⟨?rel, rfl⟩
                  case rel => exact ⟨k + 1, by omega, by omega, by go_num, by rw [HN.out]; exact HF.out.drewN q, below_drewN HBI.out q⟩
                · rw [hu] at hAk hupk
                  have hY := accK_yes hupk
                  have hgk := HGU.out k hupk
                  have hm := HMO.out (k + 1) (n - (k + 1))
                  rw [show k + 1 + (n - (k + 1)) = n by omega, HALL.out] at hm
                  have hmul : wk * accK T y.data.toList (k + 1) ≤ wk * nUp T y.data.toList := Nat.mul_le_mul_left _ hm
                  have hdl := HDL.out
                  have hadd : wk * accK T y.data.toList (k + 1) = wk * accK T y.data.toList k + wk * nUp T (swp y.data.toList k) := by rw [hY, Nat.mul_add]
                  have hx3 : (turnB y k).size = n ∧ isAbove T (turnB y k).data.toList = true ∧ gap T (turnB y k).data.toList = ap := ⟨by omega, by rw [hturn]; exact hu, by rw [hturn]; have := HY3.out; omega⟩
                  have hnx : nUp T (turnB y k).data.toList = nUp T (swp y.data.toList k) := by rw [hturn]
                  have HADD := Lib.hid hadd
                  have HX3 := Lib.hid hx3
                  have HNX := Lib.hid hnx
                  have HAK := Lib.hid hAk
                  have hdb : D + wk * accK T y.data.toList k + wk * nUp T (swp y.data.toList k) ≤ N := by omega
                  have HDB := Lib.hid hdb
                  clear hRk hf hturn hts hAk hupk hu hyz hY hgk hm hmul hdl hadd hx3 hnx hdb
                  go_wp2_with fail
                  refine (HRK.out _).mono ?_
                  rintro e w3 ⟨rfl, q, rfl⟩
                  go_wp2_with fail
                  refine (HAK.out _).mono ?_
                  rintro e w3 ⟨rfl, rfl⟩
                  have HFq := Lib.hid (HF.out.drewN q)
                  have HBq := Lib.hid (below_drewN HBI.out q)
                  clear cA
                  generalize wr.drewN q = wq at *
                  generalize turnB y k = x at *
                  clear HF HBI
                  obtain ⟨xs', cs', gx, cx, gc, cc, rfl, rfl, hgg, ho1, ho2, hlv, hll, hc1, hdt⟩ := HFq.out
                  have HO1 := Lib.hid ho1
                  have HO2 := Lib.hid ho2
                  have HLV2 := Lib.hid hlv
                  have HLL := Lib.hid hll
                  have HC1 := Lib.hid hc1
                  have HDT2 := Lib.hid hdt
                  have hxl2 : xs'.length ≤ N := by
                    have h1 := dot_len T xs' cs' hll hlv.pos hc1
                    have h2 := HDB.out
                    omega
                  clear ho1 ho2 hlv hll hc1 hdt HFq
                  go_wp2_with fail
                  go_loop [14] (fun pv => ∃ p : Nat, p ≤ xs'.length ∧ pv = .int .i64 p ∧ ∀ r, r < p → ¬ xs'.getD r .empty = x) (fun pv => xs'.length - (intOf pv).toNat)
                  case atStart => exact ⟨0, Nat.zero_le _, rfl, fun r hr => by omega⟩
                  case round =>
                    obtain ⟨p, hp, rfl, hno⟩ := hrel
                    have HNO := Lib.hid hno
                    clear hno
                    have cW := cell_on HBq.out CW.out
                    by_cases hpl : p < xs'.length
                    · have hpi : (p : Int) < (xs'.length : Int) := by omega
                      have cX := srow_cell HO1.out p hpl
                      by_cases hx : xs'.getD p .empty = x
                      · have hlen2 : xs'.length = cs'.length := HLL.out
                        have hpn : ¬ (p : Int) = (xs'.length : Int) := by omega
                        have hpc : (p : Int) < (cs'.length : Int) := by omega
                        rw [hx] at cX
                        have cC := nrow_cell HO2.out p (by omega)
                        have fC := HO2.out.frozenAt p
                        obtain ⟨f1, f2, f3⟩ := fill_found (v := wk) hlen2 (by omega) hx HC1.out hwk HLV2.out
                        have hCB := HDB.out
                        rw [HDT2.out, HNX.out] at f1 f3
                        rw [Nat.add_assoc, ← HADD.out] at f1
                        have F1 := Lib.hid f1
                        have F2 := Lib.hid f2
                        have HLS := Lib.hid (show xs'.length = (cs'.set p (cs'.getD p 0 + wk)).length by simpa using hlen2)
                        have hcp : cs'.getD p 0 + wk ≤ 68719476736 := by omega
                        clear hx f1 f2 f3 hCB hlen2
                        generalize hcv : cs'.getD p 0 = cv at *
                        clear hcv
                        have O1 := Lib.hid (ownsRow_setCell_other HO1.out (a := ⟨gc, p, none⟩) (fun e => hgg (by simpa [Value.ownBlock] using e)) (.int .i64 (cv + wk : Nat)))
                        have O2 := (HO2.out.stored p (.int .i64 (cv + wk : Nat))).1
                        rw [map_nInt_set] at O2
                        have HO2S := Lib.hid O2
                        have HBN := Lib.hid (HBq.out.setCell (p := ⟨gc, p, none⟩) ((HO2.out.lt gc rfl).1) (.int .i64 (cv + wk : Nat))).drew
                        clear O2
                        go_wp2_with fail
                        go_region
                        have ec : (cv : Int) + (wk : Int) = ((cv + wk : Nat) : Int) := by omega
                        rw [ec]
                        have hfill : Fill (wq.setCell ⟨gc, p, none⟩ (.int .i64 (cv + wk : Nat))).drew wo.heap.size (.slice (some ⟨gx, 0, none⟩) xs'.length cx) (.slice (some ⟨gc, 0, none⟩) cs'.length cc) T n ap N (D + wk * accK T y.data.toList (k + 1)) :=
                          ⟨xs', cs'.set p (cv + wk), gx, cx, gc, cc, rfl, by rw [List.length_set], hgg, O1.out.drew, by rw [List.length_set]; exact HO2S.out.drew, HLV2.out, HLS.out, F2.out, F1.out⟩
                        have HFN := Lib.hid hfill
                        clear hfill cC fC cX cW hpn hpc
                        generalize (wq.setCell ⟨gc, p, none⟩ (.int .i64 (cv + wk : Nat))).drew = wz at *
                        go_wp2_with fail
                        refine ⟨?_, ?measure⟩
                        case measure => simp [intOf]; omega
                        (repeat apply Exists.intro)
                        refine ⟨?rel, rfl⟩
                        case rel => exact ⟨k + 1, by omega, by omega, by go_num, HFN.out, HBN.out⟩
                      · have hne := txt_ne hx
                        have HALX := Lib.hid (show ∀ r, r < p + 1 → ¬ xs'[r]?.getD .empty = x from fun r hr => by
                          by_cases e : r = p
                          · rw [e]; simpa [List.getD_eq_getElem?_getD] using hx
                          · simpa [List.getD_eq_getElem?_getD] using HNO.out r (by omega))
                        clear hx
                        generalize xs'.getD p .empty = z at *
                        go_wp2_with fail
                        exact ⟨⟨p + 1, by omega, by first | omega | go_num, HALX.out⟩, by simp [intOf]; omega⟩
                    · have hpe : p = xs'.length := by omega
                      subst hpe
                      have hlev3 := Lev.snoc HLV2.out HX3.out HNO.out
                      obtain ⟨e1, e2, e3⟩ := fill_new (T := T) (x := x) (v := wk) HLL.out HC1.out hwk
                      rw [HDT2.out, HNX.out, Nat.add_assoc, ← HADD.out] at e2
                      have HLV3 := Lib.hid hlev3
                      have E1 := Lib.hid e1
                      have E2 := Lib.hid e2
                      have E3 := Lib.hid e3
                      have hpn : ¬ (xs'.length : Int) < (xs'.length : Int) := by omega
                      have hcl : cs'.length ≤ 68719476736 := by have := HLL.out; omega
                      have hxl3 : xs'.length ≤ 68719476736 := by omega
                      have HOB := Lib.hid (HO2.out.lt gc rfl)
                      have hlc : cs'.length = xs'.length := HLL.out.symm
                      have HLC := Lib.hid hlc
                      have hwks : wk ≤ 68719476736 := by have h1 := HON.out; have h2 := HDB.out; have h3 := nUp_pos ap x.data.toList HX3.out.2.1 (Nat.le_of_eq HX3.out.2.2); rw [HNX.out] at h3; have h4 : wk * 1 ≤ wk * nUp T (swp y.data.toList k) := Nat.mul_le_mul_left _ h3; omega
                      clear hlev3 e1 e2 e3 hlc
                      have hsq : wo.heap.size ≤ wq.heap.size := HBq.out.size
                      obtain ⟨i0, hi0, hz0, hz1, hz2⟩ := info_parts strInfo'
                      go_upto_region 22 with (fail)
                      go_upto_region 23 with (at_builtin; refine wpList_append_lies _ rfl _ _ 54 rfl wo.heap.size 9 i0 (.string .empty) 1 16 Try.underlying54 hi0 hz0 hz1 hz2 rfl (by decide) _ _ _ rfl (HO1.out.alloc _) ⟨wq.heap.size, 0, none⟩ 1 1 [.string x] rfl rfl (news_one _ _ _) (one_one rfl) (by decide) (by unfold maxLen; omega) (by omega) (by simp; omega) _ rfl ?_; intro g1 c1 w3 hown1 hgr1 hat1 hlt1)
                      clear hi0 hz0 hz1 hz2
                      have hg1c : g1 ≠ gc := by
                        intro e
                        have h1 := HOB.out.2
                        rcases hat1 with h | h
                        · exact hgg ((Option.some.inj (show some gx = some g1 from h)).trans e)
                        · simp at h; omega
                      have hb3 := below_app HBq.out HO1.out hgr1
                      have ho3 := World.ownsRow.kept (HO2.out.alloc (.cells #[.string x] 9)) hgr1 (.inr (fun e => hgg (Option.some.inj (show some gc = some gx from e)).symm))
                      have O31 := Lib.hid hown1
                      have O32 := Lib.hid ho3
                      have HB3 := Lib.hid hb3
                      have HG1 := Lib.hid hlt1
                      clear hown1 hgr1 hat1 hlt1 hb3 ho3
                      have hs3 : wo.heap.size ≤ w3.heap.size := HB3.out.size
                      obtain ⟨i0, hi0, hz0, hz1, hz2⟩ := info_parts intInfo
                      go_wp2_with (at_builtin; refine wpList_append_lies _ rfl _ _ 27 rfl wo.heap.size 3 i0 (.int .i64 0) 1 8 Try.underlying27 hi0 hz0 hz1 hz2 rfl (by decide) _ _ _ rfl (O32.out.alloc _) ⟨w3.heap.size, 0, none⟩ 1 1 [.int .i64 0] rfl rfl (news_one _ _ _) (one_one rfl) (by decide) (by unfold maxLen; omega) (by omega) (by simp; omega) _ rfl ?_; intro g2 d2 w4 hown2 hgr2 hat2 hlt2)
                      clear hi0 hz0 hz1 hz2
                      have hg12 : g1 ≠ g2 := by
                        intro e
                        have h1 := HG1.out
                        rcases hat2 with h | h
                        · exact hg1c (e.trans (Option.some.inj (show some gc = some g2 from h)).symm)
                        · simp at h; omega
                      have hb4 := below_app HB3.out O32.out hgr2
                      have ho41 := World.ownsRow.kept (O31.out.alloc (.cells #[.int .i64 0] 3)) hgr2 (.inr (fun e => hg1c (Option.some.inj (show some g1 = some gc from e))))
                      have hown2' : w4.ownsRow wo.heap.size 3 1 (.slice (some ⟨g2, 0, none⟩) (cs' ++ [0]).length d2) (cs' ++ [0]).length ((cs' ++ [0]).map nInt) := by simpa [nInt] using hown2
                      have cC2 := nrow_cell hown2' xs'.length (by have := HLC.out; simp; omega)
                      have hz0' : (cs' ++ [0]).getD xs'.length 0 = 0 := by rw [show xs'.length = cs'.length from HLL.out]; simp [List.getD]
                      rw [hz0'] at cC2
                      clear hz0'
                      have fC2 := hown2'.frozenAt xs'.length
                      have cW2 := cell_on hb4 CW.out
                      have hpc : (xs'.length : Int) < ((cs'.length + 1 : Nat) : Int) := by have := HLC.out; omega
                      have o1 := ownsRow_setCell_other ho41 (a := ⟨g2, xs'.length, none⟩) (fun e => hg12 (by simpa [Value.ownBlock] using e)) (.int .i64 (wk : Nat))
                      have o2 := (hown2'.stored xs'.length (.int .i64 (wk : Nat))).1
                      rw [map_nInt_set, show xs'.length = cs'.length from HLL.out, E1.out, ← (show xs'.length = cs'.length from HLL.out)] at o2
                      have hfill : Fill (w4.setCell ⟨g2, xs'.length, none⟩ (.int .i64 (wk : Nat))).drew wo.heap.size (.slice (some ⟨g1, 0, none⟩) (xs'.length + 1) c1) (.slice (some ⟨g2, 0, none⟩) (cs'.length + 1) d2) T n ap N (D + wk * accK T y.data.toList (k + 1)) :=
                        ⟨xs' ++ [x], cs' ++ [wk], g1, c1, g2, d2, by simp, by simp, hg12, by simpa using o1.drew, by simpa using o2.drew, HLV3.out, by simp [HLL.out], E3.out, E2.out⟩
                      have HFN := Lib.hid hfill
                      have HBN := Lib.hid (hb4.setCell (p := ⟨g2, xs'.length, none⟩) ((hown2'.lt g2 rfl).1) (.int .i64 (wk : Nat))).drew
                      clear hfill o1 o2 hown2 hown2' ho41 hb4 hgr2 hat2 hlt2 hg12
                      go_wp2_with fail
                      go_region
                      generalize (w4.setCell ⟨g2, xs'.length, none⟩ (.int .i64 (wk : Nat))).drew = wz at *
                      clear cC2 fC2 cW2 hpc
                      go_wp2_with fail
                      refine ⟨?_, ?measure⟩
                      case measure => simp [intOf]; omega
                      (repeat apply Exists.intro)
                      refine ⟨?rel, rfl⟩
                      case rel => exact ⟨k + 1, by omega, by omega, by go_num, HFN.out, HBN.out⟩
            · have hke : k = n := by omega
              have hki : ¬ (k : Int) < (n : Int) := by omega
              rw [hke, HALL.out, ← HDN.out] at HF
              clear hke
              go_wp2_with fail
              go_roundw
              case rel => exact ⟨i + 1, by omega, by go_num, HF.out, HBI.out⟩
              case measure => simp [intOf]; omega
        · have hie : i = xs.length := by omega
          have hii : ¬ (i : Int) < (xs.length : Int) := by omega
          have hd : dot T (xs.take i) (ws.take i) = N := by rw [hie, List.take_length, show xs.length = ws.length from HLN.out, List.take_length]; exact HDT.out
          rw [hd] at HF
          clear hie hd
          obtain ⟨xs', cs', gx, cx, gc, cc, rfl, rfl, hgg, ho1, ho2, hlv, hll, hc1, hdt⟩ := HF.out
          have HS' := Lib.hid (SRow.of_own ho1)
          have HW' := Lib.hid (NRow.of_own ho2)
          have HLV2 := Lib.hid hlv
          have HLL := Lib.hid hll
          have HC1 := Lib.hid hc1
          have HDT2 := Lib.hid hdt
          clear ho1 ho2 hlv hll hc1 hdt HF
          go_wp2_with fail
          go_roundw
          case rel => exact ⟨ap, xs', cs', _, _, _, _, by go_num, rfl, rfl, HS'.out, HW'.out, HLV2.out, HLL.out, HC1.out, HDT2.out, by omega, below_thru HB.out HBI.out⟩
          case measure => simp [intOf] <;> omega

end Go.Proofs.Ytjkicfagphielaa
