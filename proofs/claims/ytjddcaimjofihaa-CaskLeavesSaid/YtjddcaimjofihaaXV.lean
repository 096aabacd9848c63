/- The walk of the law CaskLeaves; no condition. -/
import Derived.Test.YtjddcaimjofihaaXG
import Derived.Test.YtjddcaimjofihaaT6
namespace Go.Proofs.Ytjddcaimjofihaa
open Go.RowKit Go.Shelf
set_option maxRecDepth 100000

theorem thin_hidV {b : Bool} (c : Ce) (HB : Hid (b = thinB c)) (v : Value) (n : Nat) (w : World) (hn : n ≤ w.heap.size) (h : CeV (Lt n) w v c) :
    Calls Try.prog 19 #[v] w fun e w' => e = .returned (.bool b) ∧ Below w.heap.size w w' := by
  rw [HB.out]; exact thin_any c v n w hn h
theorem faultL_hidV {f : Int} (c : Ce) (HB : Hid (f = fault c)) (v : Value) (n : Nat) (w : World) (hn : n ≤ w.heap.size) (h : CeV (Lt n) w v c) (hsm : Small c) :
    Calls Try.prog 25 #[v] w fun e w' => e = .returned (.int .i64 f) ∧ Below w.heap.size w w' := by
  rw [HB.out]; exact faultL_any c v n w hn h hsm
/-- What First and Leave return. -/
def FirstIs (c : Ce) (k e : Int) : Prop := ∀ (vc : Value) (n : Nat) (w : World), n ≤ w.heap.size → CeV (Lt n) w vc c → Calls Try.prog 29 #[vc] w (RetTwo k e w)
def LeaveIs (c : Ce) (l : List Int) (e : Int) : Prop := ∀ (vc : Value) (n : Nat) (w : World), n ≤ w.heap.size → CeV (Lt n) w vc c → Calls Try.prog 30 #[vc] w (RetInts l e w)
def FirstRIs (c : Ce) (z : Int) : Prop := ∀ (v vl : Value) (n : Nat) (w : World), n ≤ w.heap.size → CeV (Lt n) w v c → Ints (Lt n) w vl (castL (allR c)) → Calls Try.prog 34 #[v, vl] w fun e w' => e = .returned (.int .i64 z) ∧ Below w.heap.size w w'

set_option maxHeartbeats 8000000 in
theorem CaskLeaves_walk (c : Ce) (v : Value) {w : World} (h : CeV (Lt w.heap.size) w v c) : Calls Try.prog 4 #[v] w (RetT w) := by
  have h' := h
  obtain ⟨ha, hc, ka, kc, ta, tc, rfl, hp1, hp2, hp3⟩ := h.open
  have HOP := hid (And.intro hp1 (And.intro hp2 hp3))
  clear hp1 hp2 hp3
  obtain ⟨W, hW⟩ : ∃ W, W = w.alloc (Obj.cells #[.slice ha c.heaps.length hc, .slice ka c.casks.length kc, .slice ta c.trials.length tc] 26) := ⟨_, rfl⟩
  have hWs : W.heap.size = w.heap.size + 1 := by rw [hW]; simp
  have hWb : Below w.heap.size w W := by rw [hW]; exact below_alloc1 (Nat.le_refl _) _
  have hWr : W.heap[w.heap.size]? = some (.cells #[.slice ha c.heaps.length hc, .slice ka c.casks.length kc, .slice ta c.trials.length tc] 26 (0, 0)) := by rw [hW]; exact heap_new _ _
  have HBOX := hid (fun w1 (hb : Below W.heap.size W w1) => (hb.block w.heap.size (by omega)).trans hWr : ∀ w1, Below W.heap.size W w1 → w1.heap[w.heap.size]? = _)
  have HCE := hid (fun w1 (hb : Below W.heap.size W w1) => h'.below (hWb.trans (hb.mono (by omega)) |>.mono (Nat.le_refl _)) : ∀ w1, Below W.heap.size W w1 → CeV (Lt _) w1 _ c)
  clear hWr h' h
  obtain ⟨tb, htb⟩ : ∃ tb, tb = thinB c := ⟨_, rfl⟩
  have HTB := hid htb
  clear htb HOP
  cases tb with
  | false =>
    go_enter Try.func4, Try.ntmps4
    go_wp2_with fail
    rw [← hW]
    clear hW
    refine (thin_hidV c HTB _ w.heap.size W (by omega) (HCE.out W (Below.refl _ _))).mono ?_
    rintro e w1 ⟨rfl, hb1⟩
    have HB1 := hid hb1
    have hs1 := hb1.size
    clear hb1
    go_wp2_with (go_at_call 20; refine (awake_any _).mono ?_; rintro e wz ⟨rfl, hbz⟩)
    go_ret
    exact ⟨rfl, hWb.trans ((below_after HB1.out hbz (Nat.le_refl _)).mono (by omega))⟩
  | true =>
    have HSM := hid (thin_small HTB.out.symm)
    obtain ⟨f, hfc⟩ : ∃ f, f = fault c := ⟨_, rfl⟩
    have HFA := hid hfc
    by_cases hf : f = 0
    · subst hf
      have hgood := (fault_good hfc.symm).1
      have HFZ := hid hfc.symm
      obtain ⟨⟨g1, g2, g3, g4⟩, -⟩ := hgood.facts
      have HLV := hid (show LeaveIs c (leaveR c) 0 from fun vc n w hn h => Leave_ok c vc n w hn h hfc.symm _ (leaveOf_eq hfc.symm))
      have HFR := hid (show FirstRIs c (firstZ (firstR c)) ∧ FirstIs c (firstN (firstR c)) (firstE (firstR c)) from ⟨fun v vl n w hn h hl => firstRf_any c hfc.symm v vl n w hn h hl (by have := (manyR_eq hfc.symm).2.1; simp [allR]; omega), fun vc n w hn h => by
        have := First_ok c vc n w hn h hfc.symm
        rwa [firstOf_eq hfc.symm] at this⟩)
      have hal : (allR c).length ≤ 100000 := by have := (manyR_eq hfc.symm).2.1; simp [allR]; omega
      have HAL := hid hal
      have hll : (leaveR c).length ≤ 10 := by unfold leaveR; exact bestR_length _ _ (bitsL_length _) _
      obtain ⟨L, hL⟩ : ∃ L, L = leaveR c := ⟨_, rfl⟩
      rw [← hL] at hll HLV
      have HLE := hid hL
      clear hfc hgood hal hL
      cases hfr : firstR c with
      | none =>
        have HFI := hid (show FirstIs c 0 7 by have := HFR.out.2; rwa [hfr] at this)
        have HFQ := hid (show FirstRIs c (-1) by have := HFR.out.1; rwa [hfr] at this)
        clear hfr HFR
        go_enter Try.func4, Try.ntmps4
        go_wp2_with fail
        rw [← hW]
        clear hW
        refine (thin_hidV c HTB _ w.heap.size W (by omega) (HCE.out W (Below.refl _ _))).mono ?_
        rintro e w1 ⟨rfl, hb1⟩
        have HB1 := hid hb1
        have hs1 := hb1.size
        clear hb1
        have j0 := cell_of_row (HBOX.out w1 HB1.out) 0
        have j1 := cell_of_row (HBOX.out w1 HB1.out) 1
        have j2 := cell_of_row (HBOX.out w1 HB1.out) 2
        simp only [List.getElem?_toArray, List.getElem?_cons_zero, List.getElem?_cons_succ] at j0 j1 j2
        go_wp2_with fail
        refine (CellarL_any c _ w.heap.size w1 (by omega) (HCE.out w1 HB1.out) HSM.out).mono ?_
        rintro e w2 ⟨v2, rfl, hc2, hb2⟩
        have HB2 := hid (below_after HB1.out hb2 (Nat.le_refl _))
        have hs2 := HB2.out.size
        have hd2 := hb2.size
        clear hb2 j0 j1 j2
        obtain ⟨_, _, _, _, _, _, rfl, -⟩ := id hc2.open
        go_wp2_with fail
        refine (HFI.out _ _ w2 (Nat.le_refl _) hc2).mono ?_
        rintro e w3 ⟨rfl, hb3⟩
        have HB3 := hid (below_after HB2.out hb3 (Nat.le_refl _))
        have hs3 := HB3.out.size
        have hd3 := hb3.size
        clear hb3
        clear hc2
        have j0 := cell_of_row (HBOX.out w3 HB3.out) 0
        have j1 := cell_of_row (HBOX.out w3 HB3.out) 1
        have j2 := cell_of_row (HBOX.out w3 HB3.out) 2
        simp only [List.getElem?_toArray, List.getElem?_cons_zero, List.getElem?_cons_succ] at j0 j1 j2
        go_wp2_with fail
        refine (CellarL_any c _ w.heap.size w3 (by omega) (HCE.out w3 HB3.out) HSM.out).mono ?_
        rintro e w4 ⟨v4, rfl, hc4, hb4⟩
        have HB4 := hid (below_after HB3.out hb4 (Nat.le_refl _))
        have hs4 := HB4.out.size
        have hd4 := hb4.size
        clear hb4 j0 j1 j2
        obtain ⟨_, _, _, _, _, _, rfl, -⟩ := id hc4.open
        go_wp2_with fail
        refine (HLV.out _ _ w4 (Nat.le_refl _) hc4).mono ?_
        rintro e w5 ⟨v5, rfl, hi5, hb5⟩
        have HB5 := hid (below_after HB4.out hb5 (Nat.le_refl _))
        have hs5 := HB5.out.size
        have hd5 := hb5.size
        clear hb5
        obtain ⟨xa5, xc5, rfl, -, -⟩ := id hi5.open1
        have HI5 := hid hi5
        have HL5 := hid (Below.refl w5.heap.size w5)
        clear hc4 hi5
        have j0 := cell_of_row (HBOX.out w5 HB5.out) 0
        have j1 := cell_of_row (HBOX.out w5 HB5.out) 1
        have j2 := cell_of_row (HBOX.out w5 HB5.out) 2
        simp only [List.getElem?_toArray, List.getElem?_cons_zero, List.getElem?_cons_succ] at j0 j1 j2
        go_wp2_with fail
        refine (faultL_hidV c HFA _ w.heap.size w5 (by omega) (HCE.out w5 HB5.out) HSM.out).mono ?_
        rintro e w6 ⟨rfl, hb6⟩
        have HB6 := hid (below_after HB5.out hb6 (Nat.le_refl _))
        have hs6 := HB6.out.size
        have hd6 := hb6.size
        have HL6 := hid (below_after HL5.out hb6 (Nat.le_refl _))
        have zHL6 := HL6.out.size
        clear hb6 j0 j1 j2
        have j0 := cell_of_row (HBOX.out w6 HB6.out) 0
        have j1 := cell_of_row (HBOX.out w6 HB6.out) 1
        have j2 := cell_of_row (HBOX.out w6 HB6.out) 2
        simp only [List.getElem?_toArray, List.getElem?_cons_zero, List.getElem?_cons_succ] at j0 j1 j2
        go_wp2_with fail
        refine (allRf_any c HFZ.out _ w.heap.size w6 (by omega) (HCE.out w6 HB6.out)).mono ?_
        rintro e w7 ⟨v7, rfl, ho7, hb7⟩
        have HB7 := hid (below_after HB6.out hb7 (Nat.le_refl _))
        have hs7 := HB7.out.size
        have hd7 := hb7.size
        have HL7 := hid (below_after HL6.out hb7 (Nat.le_refl _))
        have zHL7 := HL7.out.size
        clear hb7 j0 j1 j2
        have hi7 : Ints (Lt w7.heap.size) w7 v7 (castL (allR c)) := ho7.slLt encI_length
        obtain ⟨ya7, yc7, rfl, -, -⟩ := id hi7.open1
        have HI7 := hid hi7
        have HM7 := hid (Below.refl w7.heap.size w7)
        clear ho7 hi7
        have j0 := cell_of_row (HBOX.out w7 HB7.out) 0
        have j1 := cell_of_row (HBOX.out w7 HB7.out) 1
        have j2 := cell_of_row (HBOX.out w7 HB7.out) 2
        simp only [List.getElem?_toArray, List.getElem?_cons_zero, List.getElem?_cons_succ] at j0 j1 j2
        go_wp2_with fail
        refine (leaveRf_any c HFZ.out _ _ w7.heap.size w7 (Nat.le_refl _) (((HCE.out w7 HB7.out)).le (by omega)) HI7.out HAL.out).mono ?_
        rintro e w8 ⟨v8, rfl, hi8, hb8⟩
        have HB8 := hid (below_after HB7.out hb8 (Nat.le_refl _))
        have hs8 := HB8.out.size
        have hd8 := hb8.size
        have HL8 := hid (below_after HL7.out hb8 (Nat.le_refl _))
        have zHL8 := HL8.out.size
        have HM8 := hid (below_after HM7.out hb8 (Nat.le_refl _))
        have zHM8 := HM8.out.size
        clear hb8 j0 j1 j2
        rw [← HLE.out] at hi8
        obtain ⟨za8, zc8, rfl, -, -⟩ := id hi8.open1
        go_wp2_with fail
        refine (same_any L L _ _ w8.heap.size w8 ((HI5.out.below HL8.out).le (by omega)) hi8 (Nat.le_refl _) (by omega) (by omega)).mono ?_
        rintro e w9 ⟨rfl, hb9⟩
        have HB9 := hid (below_after HB8.out hb9 (Nat.le_refl _))
        have hs9 := HB9.out.size
        have hd9 := hb9.size
        have HL9 := hid (below_after HL8.out hb9 (Nat.le_refl _))
        have zHL9 := HL9.out.size
        have HM9 := hid (below_after HM8.out hb9 (Nat.le_refl _))
        have zHM9 := HM9.out.size
        clear hb9
        clear hi8
        have hsame : sameB L L = true := sameB_iff.2 rfl
        have j0 := cell_of_row (HBOX.out w9 HB9.out) 0
        have j1 := cell_of_row (HBOX.out w9 HB9.out) 1
        have j2 := cell_of_row (HBOX.out w9 HB9.out) 2
        simp only [List.getElem?_toArray, List.getElem?_cons_zero, List.getElem?_cons_succ] at j0 j1 j2
        rw [hsame]
        clear hsame
        go_wp2_with fail
        refine (HFQ.out _ _ w7.heap.size w9 (by omega) (((HCE.out w9 HB9.out)).le (by omega)) (HI7.out.below HM9.out)).mono ?_
        rintro e w10 ⟨rfl, hb10⟩
        have HB10 := hid (below_after HB9.out hb10 (Nat.le_refl _))
        have hs10 := HB10.out.size
        have hd10 := hb10.size
        clear hb10
        clear j0 j1 j2
        go_wp2_with (go_at_call 20; refine (awake_any _).mono ?_; rintro e wz ⟨rfl, hbz⟩)
        go_ret
        exact ⟨rfl, hWb.trans ((below_after HB10.out hbz (Nat.le_refl _)).mono (by omega))⟩
      | some k =>
        have HFI := hid (show FirstIs c k 0 by have := HFR.out.2; rwa [hfr] at this)
        have HFQ := hid (show FirstRIs c k by have := HFR.out.1; rwa [hfr] at this)
        clear hfr HFR
        go_enter Try.func4, Try.ntmps4
        go_wp2_with fail
        rw [← hW]
        clear hW
        refine (thin_hidV c HTB _ w.heap.size W (by omega) (HCE.out W (Below.refl _ _))).mono ?_
        rintro e w1 ⟨rfl, hb1⟩
        have HB1 := hid hb1
        have hs1 := hb1.size
        clear hb1
        have j0 := cell_of_row (HBOX.out w1 HB1.out) 0
        have j1 := cell_of_row (HBOX.out w1 HB1.out) 1
        have j2 := cell_of_row (HBOX.out w1 HB1.out) 2
        simp only [List.getElem?_toArray, List.getElem?_cons_zero, List.getElem?_cons_succ] at j0 j1 j2
        go_wp2_with fail
        refine (CellarL_any c _ w.heap.size w1 (by omega) (HCE.out w1 HB1.out) HSM.out).mono ?_
        rintro e w2 ⟨v2, rfl, hc2, hb2⟩
        have HB2 := hid (below_after HB1.out hb2 (Nat.le_refl _))
        have hs2 := HB2.out.size
        have hd2 := hb2.size
        clear hb2 j0 j1 j2
        obtain ⟨_, _, _, _, _, _, rfl, -⟩ := id hc2.open
        go_wp2_with fail
        refine (HFI.out _ _ w2 (Nat.le_refl _) hc2).mono ?_
        rintro e w3 ⟨rfl, hb3⟩
        have HB3 := hid (below_after HB2.out hb3 (Nat.le_refl _))
        have hs3 := HB3.out.size
        have hd3 := hb3.size
        clear hb3
        clear hc2
        have j0 := cell_of_row (HBOX.out w3 HB3.out) 0
        have j1 := cell_of_row (HBOX.out w3 HB3.out) 1
        have j2 := cell_of_row (HBOX.out w3 HB3.out) 2
        simp only [List.getElem?_toArray, List.getElem?_cons_zero, List.getElem?_cons_succ] at j0 j1 j2
        go_wp2_with fail
        refine (CellarL_any c _ w.heap.size w3 (by omega) (HCE.out w3 HB3.out) HSM.out).mono ?_
        rintro e w4 ⟨v4, rfl, hc4, hb4⟩
        have HB4 := hid (below_after HB3.out hb4 (Nat.le_refl _))
        have hs4 := HB4.out.size
        have hd4 := hb4.size
        clear hb4 j0 j1 j2
        obtain ⟨_, _, _, _, _, _, rfl, -⟩ := id hc4.open
        go_wp2_with fail
        refine (HLV.out _ _ w4 (Nat.le_refl _) hc4).mono ?_
        rintro e w5 ⟨v5, rfl, hi5, hb5⟩
        have HB5 := hid (below_after HB4.out hb5 (Nat.le_refl _))
        have hs5 := HB5.out.size
        have hd5 := hb5.size
        clear hb5
        obtain ⟨xa5, xc5, rfl, -, -⟩ := id hi5.open1
        have HI5 := hid hi5
        have HL5 := hid (Below.refl w5.heap.size w5)
        clear hc4 hi5
        have j0 := cell_of_row (HBOX.out w5 HB5.out) 0
        have j1 := cell_of_row (HBOX.out w5 HB5.out) 1
        have j2 := cell_of_row (HBOX.out w5 HB5.out) 2
        simp only [List.getElem?_toArray, List.getElem?_cons_zero, List.getElem?_cons_succ] at j0 j1 j2
        go_wp2_with fail
        refine (faultL_hidV c HFA _ w.heap.size w5 (by omega) (HCE.out w5 HB5.out) HSM.out).mono ?_
        rintro e w6 ⟨rfl, hb6⟩
        have HB6 := hid (below_after HB5.out hb6 (Nat.le_refl _))
        have hs6 := HB6.out.size
        have hd6 := hb6.size
        have HL6 := hid (below_after HL5.out hb6 (Nat.le_refl _))
        have zHL6 := HL6.out.size
        clear hb6 j0 j1 j2
        have j0 := cell_of_row (HBOX.out w6 HB6.out) 0
        have j1 := cell_of_row (HBOX.out w6 HB6.out) 1
        have j2 := cell_of_row (HBOX.out w6 HB6.out) 2
        simp only [List.getElem?_toArray, List.getElem?_cons_zero, List.getElem?_cons_succ] at j0 j1 j2
        go_wp2_with fail
        refine (allRf_any c HFZ.out _ w.heap.size w6 (by omega) (HCE.out w6 HB6.out)).mono ?_
        rintro e w7 ⟨v7, rfl, ho7, hb7⟩
        have HB7 := hid (below_after HB6.out hb7 (Nat.le_refl _))
        have hs7 := HB7.out.size
        have hd7 := hb7.size
        have HL7 := hid (below_after HL6.out hb7 (Nat.le_refl _))
        have zHL7 := HL7.out.size
        clear hb7 j0 j1 j2
        have hi7 : Ints (Lt w7.heap.size) w7 v7 (castL (allR c)) := ho7.slLt encI_length
        obtain ⟨ya7, yc7, rfl, -, -⟩ := id hi7.open1
        have HI7 := hid hi7
        have HM7 := hid (Below.refl w7.heap.size w7)
        clear ho7 hi7
        have j0 := cell_of_row (HBOX.out w7 HB7.out) 0
        have j1 := cell_of_row (HBOX.out w7 HB7.out) 1
        have j2 := cell_of_row (HBOX.out w7 HB7.out) 2
        simp only [List.getElem?_toArray, List.getElem?_cons_zero, List.getElem?_cons_succ] at j0 j1 j2
        go_wp2_with fail
        refine (leaveRf_any c HFZ.out _ _ w7.heap.size w7 (Nat.le_refl _) (((HCE.out w7 HB7.out)).le (by omega)) HI7.out HAL.out).mono ?_
        rintro e w8 ⟨v8, rfl, hi8, hb8⟩
        have HB8 := hid (below_after HB7.out hb8 (Nat.le_refl _))
        have hs8 := HB8.out.size
        have hd8 := hb8.size
        have HL8 := hid (below_after HL7.out hb8 (Nat.le_refl _))
        have zHL8 := HL8.out.size
        have HM8 := hid (below_after HM7.out hb8 (Nat.le_refl _))
        have zHM8 := HM8.out.size
        clear hb8 j0 j1 j2
        rw [← HLE.out] at hi8
        obtain ⟨za8, zc8, rfl, -, -⟩ := id hi8.open1
        go_wp2_with fail
        refine (same_any L L _ _ w8.heap.size w8 ((HI5.out.below HL8.out).le (by omega)) hi8 (Nat.le_refl _) (by omega) (by omega)).mono ?_
        rintro e w9 ⟨rfl, hb9⟩
        have HB9 := hid (below_after HB8.out hb9 (Nat.le_refl _))
        have hs9 := HB9.out.size
        have hd9 := hb9.size
        have HL9 := hid (below_after HL8.out hb9 (Nat.le_refl _))
        have zHL9 := HL9.out.size
        have HM9 := hid (below_after HM8.out hb9 (Nat.le_refl _))
        have zHM9 := HM9.out.size
        clear hb9
        clear hi8
        have hsame : sameB L L = true := sameB_iff.2 rfl
        have j0 := cell_of_row (HBOX.out w9 HB9.out) 0
        have j1 := cell_of_row (HBOX.out w9 HB9.out) 1
        have j2 := cell_of_row (HBOX.out w9 HB9.out) 2
        simp only [List.getElem?_toArray, List.getElem?_cons_zero, List.getElem?_cons_succ] at j0 j1 j2
        rw [hsame]
        clear hsame
        go_wp2_with fail
        refine (HFQ.out _ _ w7.heap.size w9 (by omega) (((HCE.out w9 HB9.out)).le (by omega)) (HI7.out.below HM9.out)).mono ?_
        rintro e w10 ⟨rfl, hb10⟩
        have HB10 := hid (below_after HB9.out hb10 (Nat.le_refl _))
        have hs10 := HB10.out.size
        have hd10 := hb10.size
        clear hb10
        clear j0 j1 j2
        have hkn : ¬ ((k : Int) < 0) := by omega
        have hkd : decide ((k : Int) < 0) = false := decide_eq_false hkn
        go_wp2_with (go_at_call 20; refine (awake_any _).mono ?_; rintro e wz ⟨rfl, hbz⟩)
        go_ret
        exact ⟨rfl, hWb.trans ((below_after HB10.out hbz (Nat.le_refl _)).mono (by omega))⟩
    · have hne : (f == 0) = false := by rw [beq_eq_false_iff_ne]; exact hf
      have hne2 : (f != 0) = true := by simp [hf]
      have HFI := hid (show FirstIs c 0 f from fun vc n w hn h => by rw [hfc]; exact First_fault c vc n w hn h HSM.out (by rw [← hfc]; exact hf))
      have HLV := hid (show LeaveIs c [] f from fun vc n w hn h => by rw [hfc]; exact Leave_fault c vc n w hn h HSM.out (by rw [← hfc]; exact hf))
      clear hfc hf
      go_enter Try.func4, Try.ntmps4
      go_wp2_with fail
      rw [← hW]
      clear hW
      refine (thin_hidV c HTB _ w.heap.size W (by omega) (HCE.out W (Below.refl _ _))).mono ?_
      rintro e w1 ⟨rfl, hb1⟩
      have HB1 := hid hb1
      have hs1 := hb1.size
      clear hb1
      have j0 := cell_of_row (HBOX.out w1 HB1.out) 0
      have j1 := cell_of_row (HBOX.out w1 HB1.out) 1
      have j2 := cell_of_row (HBOX.out w1 HB1.out) 2
      simp only [List.getElem?_toArray, List.getElem?_cons_zero, List.getElem?_cons_succ] at j0 j1 j2
      go_wp2_with fail
      refine (CellarL_any c _ w.heap.size w1 (by omega) (HCE.out w1 HB1.out) HSM.out).mono ?_
      rintro e w2 ⟨v2, rfl, hc2, hb2⟩
      have HB2 := hid (below_after HB1.out hb2 (Nat.le_refl _))
      have hs2 := HB2.out.size
      have hd2 := hb2.size
      clear hb2 j0 j1 j2
      obtain ⟨_, _, _, _, _, _, rfl, -⟩ := id hc2.open
      go_wp2_with fail
      refine (HFI.out _ _ w2 (Nat.le_refl _) hc2).mono ?_
      rintro e w3 ⟨rfl, hb3⟩
      have HB3 := hid (below_after HB2.out hb3 (Nat.le_refl _))
      have hs3 := HB3.out.size
      have hd3 := hb3.size
      clear hb3
      clear hc2
      have j0 := cell_of_row (HBOX.out w3 HB3.out) 0
      have j1 := cell_of_row (HBOX.out w3 HB3.out) 1
      have j2 := cell_of_row (HBOX.out w3 HB3.out) 2
      simp only [List.getElem?_toArray, List.getElem?_cons_zero, List.getElem?_cons_succ] at j0 j1 j2
      go_wp2_with fail
      refine (CellarL_any c _ w.heap.size w3 (by omega) (HCE.out w3 HB3.out) HSM.out).mono ?_
      rintro e w4 ⟨v4, rfl, hc4, hb4⟩
      have HB4 := hid (below_after HB3.out hb4 (Nat.le_refl _))
      have hs4 := HB4.out.size
      have hd4 := hb4.size
      clear hb4 j0 j1 j2
      obtain ⟨_, _, _, _, _, _, rfl, -⟩ := id hc4.open
      go_wp2_with fail
      refine (HLV.out _ _ w4 (Nat.le_refl _) hc4).mono ?_
      rintro e w5 ⟨v5, rfl, hi5, hb5⟩
      have HB5 := hid (below_after HB4.out hb5 (Nat.le_refl _))
      have hs5 := HB5.out.size
      have hd5 := hb5.size
      clear hb5
      obtain ⟨xa5, xc5, rfl, -, -⟩ := id hi5.open1
      have HI5 := hid hi5
      have HL5 := hid (Below.refl w5.heap.size w5)
      clear hc4 hi5
      have j0 := cell_of_row (HBOX.out w5 HB5.out) 0
      have j1 := cell_of_row (HBOX.out w5 HB5.out) 1
      have j2 := cell_of_row (HBOX.out w5 HB5.out) 2
      simp only [List.getElem?_toArray, List.getElem?_cons_zero, List.getElem?_cons_succ] at j0 j1 j2
      go_wp2_with fail
      refine (faultL_hidV c HFA _ w.heap.size w5 (by omega) (HCE.out w5 HB5.out) HSM.out).mono ?_
      rintro e w6 ⟨rfl, hb6⟩
      have HB6 := hid (below_after HB5.out hb6 (Nat.le_refl _))
      have hs6 := HB6.out.size
      have hd6 := hb6.size
      have HL6 := hid (below_after HL5.out hb6 (Nat.le_refl _))
      have zHL6 := HL6.out.size
      clear hb6 j0 j1 j2
      go_wp2_with (go_at_call 20; refine (awake_any _).mono ?_; rintro e wz ⟨rfl, hbz⟩)
      go_ret
      exact ⟨rfl, hWb.trans ((below_after HB6.out hbz (Nat.le_refl _)).mono (by omega))⟩
end Go.Proofs.Ytjddcaimjofihaa
