/- The walk of the law CaskBounds; no condition. -/
import Derived.Test.YtjddcaimjofihaaXG
import Derived.Test.YtjddcaimjofihaaT4
namespace Go.Proofs.Ytjddcaimjofihaa
open Go.RowKit Go.Shelf
set_option maxRecDepth 100000

theorem thin_hidB {b : Bool} (c : Ce) (HB : Hid (b = thinB c)) (v : Value) (n : Nat) (w : World) (hn : n ≤ w.heap.size) (h : CeV (Lt n) w v c) :
    Calls Try.prog 19 #[v] w fun e w' => e = .returned (.bool b) ∧ Below w.heap.size w w' := by
  rw [HB.out]; exact thin_any c v n w hn h
/-- What sure returns. -/
def RetSure (L : List (List Int)) (a : Int) (W : World) (e : Ending) (w' : World) : Prop := ∃ v', e = .returned (.tuple #[v', .int .i64 a]) ∧ Lss (Lt w'.heap.size) w' v' L ∧ Below W.heap.size W w'
def BoundsAre (c : Ce) (A B : List Rg) (a : Int) : Prop := ∀ (vc : Value) (n : Nat) (w : World), n ≤ w.heap.size → CeV (Lt n) w vc c → Calls Try.prog 21 #[vc] w (RetBounds A B a w)
def GradedIs (c : Ce) (k g v d : Int) : Prop := ∀ (vc : Value) (n : Nat) (w : World), n ≤ w.heap.size → CeV (Lt n) w vc c → Calls Try.prog 23 #[vc, .int .i64 k, .int .i64 g] w (RetTwo v d w)
def SureIs (c : Ce) (L : List (List Int)) (a : Int) : Prop := ∀ (vc : Value) (n : Nat) (w : World), n ≤ w.heap.size → CeV (Lt n) w vc c → Calls Try.prog 24 #[vc] w (RetSure L a w)
theorem bounds_are_err {c : Ce} (hsm : Small c) (h : askErr c true ≠ 0) : BoundsAre c [] [] (askErr c true) ∧ SureIs c [] (askErr c true) :=
  ⟨fun vc n w hn hc => Bounds_err c vc n w hn hc hsm h, fun vc n w hn hc => (sure_err c hsm h vc n w hn hc).mono fun e w' ⟨he, hb⟩ => ⟨_, he, (OwnL.nil (base := 0)).lss.mono (fun b hb => hb.2), hb⟩⟩
theorem bounds_are_ok {c : Ce} (hsm : Small c) (h : askErr c true = 0) : BoundsAre c (heapB c) (caskB c) 0 ∧ SureIs c (truthsR c) 0 :=
  ⟨fun vc n w hn hc => Bounds_ok c vc n w hn hc hsm h, fun vc n w hn hc => (sure_ok c hsm h vc n w hn hc).mono fun e w' ⟨v', he, ho, hb⟩ => ⟨v', he, ho.lss.mono (fun b hb => hb.2), hb⟩⟩
theorem graded_is {c : Ce} (hsm : Small c) (k g : Int) : GradedIs c k g (if askErr c (gradedOk c k g) = 0 then gradedV c k g else 0) (askErr c (gradedOk c k g)) := fun vc n w hn hc => Graded_any c vc k g n w hn hc hsm
theorem graded_is_err {c : Ce} (hsm : Small c) {k g d : Int} (h : askErr c (gradedOk c k g) = d) (hd : d ≠ 0) : GradedIs c k g 0 d := by
  have := graded_is hsm k g
  rw [h, if_neg hd] at this; exact this

set_option maxHeartbeats 8000000 in
theorem CaskBounds_walk (c : Ce) (v : Value) {w : World} (h : CeV (Lt w.heap.size) w v c) (k : Int) (_ : -9223372036854775808 ≤ k ∧ k ≤ 9223372036854775807) (g : Int) (_ : -9223372036854775808 ≤ g ∧ g ≤ 9223372036854775807) :
    Calls Try.prog 3 #[v, .int .i64 k, .int .i64 g] w (RetT w) := by
  have h' := h
  obtain ⟨ha, hc, ka, kc, ta, tc, rfl, hp1, hp2, hp3⟩ := h.open
  have HOP := hid (And.intro hp1 (And.intro hp2 hp3))
  clear hp1 hp2 hp3
  obtain ⟨W, hW⟩ : ∃ W, W = w.alloc (Obj.cells #[.slice ha c.heaps.length hc, .slice ka c.casks.length kc, .slice ta c.trials.length tc] 26) := ⟨_, rfl⟩
  have hWs : W.heap.size = w.heap.size + 1 := by rw [hW]; simp
  have hWb : Below w.heap.size w W := by rw [hW]; exact below_alloc1 (Nat.le_refl _) _
  have hWr : W.heap[w.heap.size]? = some (.cells #[.slice ha c.heaps.length hc, .slice ka c.casks.length kc, .slice ta c.trials.length tc] 26 (0, 0)) := by rw [hW]; exact heap_new _ _
  have HBOX := hid (fun w1 (hb : Below W.heap.size W w1) => (hb.block w.heap.size (by omega)).trans hWr : ∀ w1, Below W.heap.size W w1 → w1.heap[w.heap.size]? = _)
  have HCE := hid (fun w1 (hb : Below W.heap.size W w1) => h'.below (hWb.trans (hb.mono (by omega)) |>.mono (Nat.le_refl _)) : ∀ w1, Below W.heap.size W w1 → CeV (Lt _) w1 _ c)
  clear hWr h' h
  obtain ⟨tb, htb⟩ : ∃ tb, tb = thinB c := ⟨_, rfl⟩
  have HTB := hid htb
  clear htb HOP
  cases tb with
  | false =>
    go_enter Try.func3, Try.ntmps3
    go_wp2_with fail
    rw [← hW]
    clear hW
    refine (thin_hidB c HTB _ w.heap.size W (by omega) (HCE.out W (Below.refl _ _))).mono ?_
    rintro e w1 ⟨rfl, hb1⟩
    have HB1 := hid hb1
    have hs1 := hb1.size
    clear hb1
    go_wp2_with (go_at_call 20; refine (awake_any _).mono ?_; rintro e wz ⟨rfl, hbz⟩)
    go_ret
    exact ⟨rfl, hWb.trans ((below_after HB1.out hbz (Nat.le_refl _)).mono (by omega))⟩
  | true =>
    have HSM := hid (thin_small HTB.out.symm)
    obtain ⟨f, hfc⟩ : ∃ f, f = fault c := ⟨_, rfl⟩
    have HFA := hid hfc
    by_cases hf : f = 0
    · subst hf
      have hgood := (fault_good hfc.symm).1
      have HG := hid hgood
      obtain ⟨⟨g1, g2, g3, -⟩, -⟩ := hgood.facts
      have hwr : IntKind.i64.wrap ((c.casks.length : Int) - 1) = (c.casks.length : Int) - 1 := IntWalk.i64_in _ (by omega)
      obtain ⟨b1, hb1⟩ : ∃ b1, b1 = within k 0 ((c.casks.length : Int) - 1) := ⟨_, rfl⟩
      obtain ⟨b2, hb2⟩ : ∃ b2, b2 = within g 0 100 := ⟨_, rfl⟩
      have HW1 := hid hb1
      have HW2 := hid hb2
      have hok : gradedOk c k g = (b1 && b2) := by rw [hb1, hb2]; rfl
      by_cases hT : truthsOf c [] = []
      · have hae : askErr c true = 11 := by unfold askErr; simp [← hfc, hT]
        have HBO := hid (show BoundsAre c [] [] 11 ∧ SureIs c [] 11 by have := bounds_are_err HSM.out (c := c) (by rw [hae]; decide); rwa [hae] at this)
        have had : askErr c (gradedOk c k g) = if (b1 && b2) = true then 11 else 2 := by rw [hok]; unfold askErr; simp [← hfc, hT]
        clear hfc hb1 hb2 hok hT hae hgood
        cases b1 with
        | false =>
          have HGV := hid (graded_is_err HSM.out (k := k) (g := g) (d := 2) (by rw [had]; rfl) (by decide))
          clear had
          go_enter Try.func3, Try.ntmps3
          go_wp2_with fail
          rw [← hW]
          clear hW
          refine (thin_hidB c HTB _ w.heap.size W (by omega) (HCE.out W (Below.refl _ _))).mono ?_
          rintro e w1 ⟨rfl, hb1⟩
          have HB1 := hid hb1
          have hs1 := hb1.size
          clear hb1
          have j0 := cell_of_row (HBOX.out w1 HB1.out) 0
          have j1 := cell_of_row (HBOX.out w1 HB1.out) 1
          have j2 := cell_of_row (HBOX.out w1 HB1.out) 2
          simp only [List.getElem?_toArray, List.getElem?_cons_zero, List.getElem?_cons_succ] at j0 j1 j2
          go_wp2_with fail
          refine (CellarL_any c _ w.heap.size w1 (by omega) (HCE.out w1 HB1.out) HSM.out).mono ?_
          rintro e w2 ⟨v2, rfl, hc2, hb2⟩
          have HB2 := hid (below_after HB1.out hb2 (Nat.le_refl _))
          have hs2 := HB2.out.size
          have hd2 := hb2.size
          clear hb2 j0 j1 j2
          obtain ⟨_, _, _, _, _, _, rfl, -⟩ := id hc2.open
          go_wp2_with fail
          refine (HBO.out.1 _ _ w2 (Nat.le_refl _) hc2).mono ?_
          rintro e w3 ⟨v3, u3, rfl, hx3, hy3, hb3⟩
          have HB3 := hid (below_after HB2.out hb3 (Nat.le_refl _))
          have hs3 := HB3.out.size
          have hd3 := hb3.size
          clear hb3
          obtain ⟨xa3, xc3, rfl, -, -⟩ := id hx3.at
          obtain ⟨ya3, yc3, rfl, -, -⟩ := id hy3.at
          have HX3 := hid hx3
          have HY3 := hid hy3
          have HL3 := hid (Below.refl w3.heap.size w3)
          clear hc2 hx3 hy3
          have j0 := cell_of_row (HBOX.out w3 HB3.out) 0
          have j1 := cell_of_row (HBOX.out w3 HB3.out) 1
          have j2 := cell_of_row (HBOX.out w3 HB3.out) 2
          simp only [List.getElem?_toArray, List.getElem?_cons_zero, List.getElem?_cons_succ] at j0 j1 j2
          go_wp2_with fail
          refine (CellarL_any c _ w.heap.size w3 (by omega) (HCE.out w3 HB3.out) HSM.out).mono ?_
          rintro e w4 ⟨v4, rfl, hc4, hb4⟩
          have HB4 := hid (below_after HB3.out hb4 (Nat.le_refl _))
          have hs4 := HB4.out.size
          have hd4 := hb4.size
          have HL4 := hid (below_after HL3.out hb4 (Nat.le_refl _))
          have zHL4 := HL4.out.size
          clear hb4 j0 j1 j2
          obtain ⟨_, _, _, _, _, _, rfl, -⟩ := id hc4.open
          go_wp2_with fail
          refine (HGV.out _ _ w4 (Nat.le_refl _) hc4).mono ?_
          rintro e w5 ⟨rfl, hb5⟩
          have HB5 := hid (below_after HB4.out hb5 (Nat.le_refl _))
          have hs5 := HB5.out.size
          have hd5 := hb5.size
          have HL5 := hid (below_after HL4.out hb5 (Nat.le_refl _))
          have zHL5 := HL5.out.size
          clear hb5
          clear hc4
          have j0 := cell_of_row (HBOX.out w5 HB5.out) 0
          have j1 := cell_of_row (HBOX.out w5 HB5.out) 1
          have j2 := cell_of_row (HBOX.out w5 HB5.out) 2
          simp only [List.getElem?_toArray, List.getElem?_cons_zero, List.getElem?_cons_succ] at j0 j1 j2
          go_wp2_with fail
          refine (HBO.out.2 _ w.heap.size w5 (by omega) (HCE.out w5 HB5.out)).mono ?_
          rintro e w6 ⟨v6, rfl, hl6, hb6⟩
          have HB6 := hid (below_after HB5.out hb6 (Nat.le_refl _))
          have hs6 := HB6.out.size
          have hd6 := hb6.size
          have HL6 := hid (below_after HL5.out hb6 (Nat.le_refl _))
          have zHL6 := HL6.out.size
          clear hb6 j0 j1 j2
          obtain ⟨la6, lc6, rfl, -, -⟩ := id hl6.open
          have HL6' := hid hl6
          have HM6 := hid (Below.refl w6.heap.size w6)
          clear hl6
          have j0 := cell_of_row (HBOX.out w6 HB6.out) 0
          have j1 := cell_of_row (HBOX.out w6 HB6.out) 1
          have j2 := cell_of_row (HBOX.out w6 HB6.out) 2
          simp only [List.getElem?_toArray, List.getElem?_cons_zero, List.getElem?_cons_succ] at j0 j1 j2
          go_wp2_with fail
          refine (faultL_hid c HFA _ w.heap.size w6 (by omega) (HCE.out w6 HB6.out) HSM.out).mono ?_
          rintro e w7 ⟨rfl, hb7⟩
          have HB7 := hid (below_after HB6.out hb7 (Nat.le_refl _))
          have hs7 := HB7.out.size
          have hd7 := hb7.size
          have HL7 := hid (below_after HL6.out hb7 (Nat.le_refl _))
          have zHL7 := HL7.out.size
          have HM7 := hid (below_after HM6.out hb7 (Nat.le_refl _))
          have zHM7 := HM7.out.size
          clear hb7 j0 j1 j2
          have j0 := cell_of_row (HBOX.out w7 HB7.out) 0
          have j1 := cell_of_row (HBOX.out w7 HB7.out) 1
          have j2 := cell_of_row (HBOX.out w7 HB7.out) 2
          simp only [List.getElem?_toArray, List.getElem?_cons_zero, List.getElem?_cons_succ] at j0 j1 j2
          go_wp2_with fail
          refine (inR_hid _ _ _ HW1 _).mono ?_
          rintro e w' ⟨rfl, rfl⟩
          go_wp2_with (go_at_call 20; refine (awake_any _).mono ?_; rintro e wz ⟨rfl, hbz⟩)
          go_ret
          exact ⟨rfl, hWb.trans ((below_after HB7.out hbz (Nat.le_refl _)).mono (by omega))⟩
        | true =>
          cases b2 with
          | false =>
            have HGV := hid (graded_is_err HSM.out (k := k) (g := g) (d := 2) (by rw [had]; rfl) (by decide))
            clear had
            go_enter Try.func3, Try.ntmps3
            go_wp2_with fail
            rw [← hW]
            clear hW
            refine (thin_hidB c HTB _ w.heap.size W (by omega) (HCE.out W (Below.refl _ _))).mono ?_
            rintro e w1 ⟨rfl, hb1⟩
            have HB1 := hid hb1
            have hs1 := hb1.size
            clear hb1
            have j0 := cell_of_row (HBOX.out w1 HB1.out) 0
            have j1 := cell_of_row (HBOX.out w1 HB1.out) 1
            have j2 := cell_of_row (HBOX.out w1 HB1.out) 2
            simp only [List.getElem?_toArray, List.getElem?_cons_zero, List.getElem?_cons_succ] at j0 j1 j2
            go_wp2_with fail
            refine (CellarL_any c _ w.heap.size w1 (by omega) (HCE.out w1 HB1.out) HSM.out).mono ?_
            rintro e w2 ⟨v2, rfl, hc2, hb2⟩
            have HB2 := hid (below_after HB1.out hb2 (Nat.le_refl _))
            have hs2 := HB2.out.size
            have hd2 := hb2.size
            clear hb2 j0 j1 j2
            obtain ⟨_, _, _, _, _, _, rfl, -⟩ := id hc2.open
            go_wp2_with fail
            refine (HBO.out.1 _ _ w2 (Nat.le_refl _) hc2).mono ?_
            rintro e w3 ⟨v3, u3, rfl, hx3, hy3, hb3⟩
            have HB3 := hid (below_after HB2.out hb3 (Nat.le_refl _))
            have hs3 := HB3.out.size
            have hd3 := hb3.size
            clear hb3
            obtain ⟨xa3, xc3, rfl, -, -⟩ := id hx3.at
            obtain ⟨ya3, yc3, rfl, -, -⟩ := id hy3.at
            have HX3 := hid hx3
            have HY3 := hid hy3
            have HL3 := hid (Below.refl w3.heap.size w3)
            clear hc2 hx3 hy3
            have j0 := cell_of_row (HBOX.out w3 HB3.out) 0
            have j1 := cell_of_row (HBOX.out w3 HB3.out) 1
            have j2 := cell_of_row (HBOX.out w3 HB3.out) 2
            simp only [List.getElem?_toArray, List.getElem?_cons_zero, List.getElem?_cons_succ] at j0 j1 j2
            go_wp2_with fail
            refine (CellarL_any c _ w.heap.size w3 (by omega) (HCE.out w3 HB3.out) HSM.out).mono ?_
            rintro e w4 ⟨v4, rfl, hc4, hb4⟩
            have HB4 := hid (below_after HB3.out hb4 (Nat.le_refl _))
            have hs4 := HB4.out.size
            have hd4 := hb4.size
            have HL4 := hid (below_after HL3.out hb4 (Nat.le_refl _))
            have zHL4 := HL4.out.size
            clear hb4 j0 j1 j2
            obtain ⟨_, _, _, _, _, _, rfl, -⟩ := id hc4.open
            go_wp2_with fail
            refine (HGV.out _ _ w4 (Nat.le_refl _) hc4).mono ?_
            rintro e w5 ⟨rfl, hb5⟩
            have HB5 := hid (below_after HB4.out hb5 (Nat.le_refl _))
            have hs5 := HB5.out.size
            have hd5 := hb5.size
            have HL5 := hid (below_after HL4.out hb5 (Nat.le_refl _))
            have zHL5 := HL5.out.size
            clear hb5
            clear hc4
            have j0 := cell_of_row (HBOX.out w5 HB5.out) 0
            have j1 := cell_of_row (HBOX.out w5 HB5.out) 1
            have j2 := cell_of_row (HBOX.out w5 HB5.out) 2
            simp only [List.getElem?_toArray, List.getElem?_cons_zero, List.getElem?_cons_succ] at j0 j1 j2
            go_wp2_with fail
            refine (HBO.out.2 _ w.heap.size w5 (by omega) (HCE.out w5 HB5.out)).mono ?_
            rintro e w6 ⟨v6, rfl, hl6, hb6⟩
            have HB6 := hid (below_after HB5.out hb6 (Nat.le_refl _))
            have hs6 := HB6.out.size
            have hd6 := hb6.size
            have HL6 := hid (below_after HL5.out hb6 (Nat.le_refl _))
            have zHL6 := HL6.out.size
            clear hb6 j0 j1 j2
            obtain ⟨la6, lc6, rfl, -, -⟩ := id hl6.open
            have HL6' := hid hl6
            have HM6 := hid (Below.refl w6.heap.size w6)
            clear hl6
            have j0 := cell_of_row (HBOX.out w6 HB6.out) 0
            have j1 := cell_of_row (HBOX.out w6 HB6.out) 1
            have j2 := cell_of_row (HBOX.out w6 HB6.out) 2
            simp only [List.getElem?_toArray, List.getElem?_cons_zero, List.getElem?_cons_succ] at j0 j1 j2
            go_wp2_with fail
            refine (faultL_hid c HFA _ w.heap.size w6 (by omega) (HCE.out w6 HB6.out) HSM.out).mono ?_
            rintro e w7 ⟨rfl, hb7⟩
            have HB7 := hid (below_after HB6.out hb7 (Nat.le_refl _))
            have hs7 := HB7.out.size
            have hd7 := hb7.size
            have HL7 := hid (below_after HL6.out hb7 (Nat.le_refl _))
            have zHL7 := HL7.out.size
            have HM7 := hid (below_after HM6.out hb7 (Nat.le_refl _))
            have zHM7 := HM7.out.size
            clear hb7 j0 j1 j2
            have j0 := cell_of_row (HBOX.out w7 HB7.out) 0
            have j1 := cell_of_row (HBOX.out w7 HB7.out) 1
            have j2 := cell_of_row (HBOX.out w7 HB7.out) 2
            simp only [List.getElem?_toArray, List.getElem?_cons_zero, List.getElem?_cons_succ] at j0 j1 j2
            go_wp2_with fail
            refine (inR_hid _ _ _ HW1 _).mono ?_
            rintro e w' ⟨rfl, rfl⟩
            go_wp2_with fail
            refine (inR_hid _ _ _ HW2 _).mono ?_
            rintro e w' ⟨rfl, rfl⟩
            go_wp2_with (go_at_call 20; refine (awake_any _).mono ?_; rintro e wz ⟨rfl, hbz⟩)
            go_ret
            exact ⟨rfl, hWb.trans ((below_after HB7.out hbz (Nat.le_refl _)).mono (by omega))⟩
          | true =>
            have HGV := hid (graded_is_err HSM.out (k := k) (g := g) (d := 11) (by rw [had]; rfl) (by decide))
            clear had
            go_enter Try.func3, Try.ntmps3
            go_wp2_with fail
            rw [← hW]
            clear hW
            refine (thin_hidB c HTB _ w.heap.size W (by omega) (HCE.out W (Below.refl _ _))).mono ?_
            rintro e w1 ⟨rfl, hb1⟩
            have HB1 := hid hb1
            have hs1 := hb1.size
            clear hb1
            have j0 := cell_of_row (HBOX.out w1 HB1.out) 0
            have j1 := cell_of_row (HBOX.out w1 HB1.out) 1
            have j2 := cell_of_row (HBOX.out w1 HB1.out) 2
            simp only [List.getElem?_toArray, List.getElem?_cons_zero, List.getElem?_cons_succ] at j0 j1 j2
            go_wp2_with fail
            refine (CellarL_any c _ w.heap.size w1 (by omega) (HCE.out w1 HB1.out) HSM.out).mono ?_
            rintro e w2 ⟨v2, rfl, hc2, hb2⟩
            have HB2 := hid (below_after HB1.out hb2 (Nat.le_refl _))
            have hs2 := HB2.out.size
            have hd2 := hb2.size
            clear hb2 j0 j1 j2
            obtain ⟨_, _, _, _, _, _, rfl, -⟩ := id hc2.open
            go_wp2_with fail
            refine (HBO.out.1 _ _ w2 (Nat.le_refl _) hc2).mono ?_
            rintro e w3 ⟨v3, u3, rfl, hx3, hy3, hb3⟩
            have HB3 := hid (below_after HB2.out hb3 (Nat.le_refl _))
            have hs3 := HB3.out.size
            have hd3 := hb3.size
            clear hb3
            obtain ⟨xa3, xc3, rfl, -, -⟩ := id hx3.at
            obtain ⟨ya3, yc3, rfl, -, -⟩ := id hy3.at
            have HX3 := hid hx3
            have HY3 := hid hy3
            have HL3 := hid (Below.refl w3.heap.size w3)
            clear hc2 hx3 hy3
            have j0 := cell_of_row (HBOX.out w3 HB3.out) 0
            have j1 := cell_of_row (HBOX.out w3 HB3.out) 1
            have j2 := cell_of_row (HBOX.out w3 HB3.out) 2
            simp only [List.getElem?_toArray, List.getElem?_cons_zero, List.getElem?_cons_succ] at j0 j1 j2
            go_wp2_with fail
            refine (CellarL_any c _ w.heap.size w3 (by omega) (HCE.out w3 HB3.out) HSM.out).mono ?_
            rintro e w4 ⟨v4, rfl, hc4, hb4⟩
            have HB4 := hid (below_after HB3.out hb4 (Nat.le_refl _))
            have hs4 := HB4.out.size
            have hd4 := hb4.size
            have HL4 := hid (below_after HL3.out hb4 (Nat.le_refl _))
            have zHL4 := HL4.out.size
            clear hb4 j0 j1 j2
            obtain ⟨_, _, _, _, _, _, rfl, -⟩ := id hc4.open
            go_wp2_with fail
            refine (HGV.out _ _ w4 (Nat.le_refl _) hc4).mono ?_
            rintro e w5 ⟨rfl, hb5⟩
            have HB5 := hid (below_after HB4.out hb5 (Nat.le_refl _))
            have hs5 := HB5.out.size
            have hd5 := hb5.size
            have HL5 := hid (below_after HL4.out hb5 (Nat.le_refl _))
            have zHL5 := HL5.out.size
            clear hb5
            clear hc4
            have j0 := cell_of_row (HBOX.out w5 HB5.out) 0
            have j1 := cell_of_row (HBOX.out w5 HB5.out) 1
            have j2 := cell_of_row (HBOX.out w5 HB5.out) 2
            simp only [List.getElem?_toArray, List.getElem?_cons_zero, List.getElem?_cons_succ] at j0 j1 j2
            go_wp2_with fail
            refine (HBO.out.2 _ w.heap.size w5 (by omega) (HCE.out w5 HB5.out)).mono ?_
            rintro e w6 ⟨v6, rfl, hl6, hb6⟩
            have HB6 := hid (below_after HB5.out hb6 (Nat.le_refl _))
            have hs6 := HB6.out.size
            have hd6 := hb6.size
            have HL6 := hid (below_after HL5.out hb6 (Nat.le_refl _))
            have zHL6 := HL6.out.size
            clear hb6 j0 j1 j2
            obtain ⟨la6, lc6, rfl, -, -⟩ := id hl6.open
            have HL6' := hid hl6
            have HM6 := hid (Below.refl w6.heap.size w6)
            clear hl6
            have j0 := cell_of_row (HBOX.out w6 HB6.out) 0
            have j1 := cell_of_row (HBOX.out w6 HB6.out) 1
            have j2 := cell_of_row (HBOX.out w6 HB6.out) 2
            simp only [List.getElem?_toArray, List.getElem?_cons_zero, List.getElem?_cons_succ] at j0 j1 j2
            go_wp2_with fail
            refine (faultL_hid c HFA _ w.heap.size w6 (by omega) (HCE.out w6 HB6.out) HSM.out).mono ?_
            rintro e w7 ⟨rfl, hb7⟩
            have HB7 := hid (below_after HB6.out hb7 (Nat.le_refl _))
            have hs7 := HB7.out.size
            have hd7 := hb7.size
            have HL7 := hid (below_after HL6.out hb7 (Nat.le_refl _))
            have zHL7 := HL7.out.size
            have HM7 := hid (below_after HM6.out hb7 (Nat.le_refl _))
            have zHM7 := HM7.out.size
            clear hb7 j0 j1 j2
            have j0 := cell_of_row (HBOX.out w7 HB7.out) 0
            have j1 := cell_of_row (HBOX.out w7 HB7.out) 1
            have j2 := cell_of_row (HBOX.out w7 HB7.out) 2
            simp only [List.getElem?_toArray, List.getElem?_cons_zero, List.getElem?_cons_succ] at j0 j1 j2
            go_wp2_with fail
            refine (inR_hid _ _ _ HW1 _).mono ?_
            rintro e w' ⟨rfl, rfl⟩
            go_wp2_with fail
            refine (inR_hid _ _ _ HW2 _).mono ?_
            rintro e w' ⟨rfl, rfl⟩
            go_wp2_with (go_at_call 20; refine (awake_any _).mono ?_; rintro e wz ⟨rfl, hbz⟩)
            go_ret
            exact ⟨rfl, hWb.trans ((below_after HB7.out hbz (Nat.le_refl _)).mono (by omega))⟩
      · have hae : askErr c true = 0 := by unfold askErr; simp [← hfc, hT]
        have hsr := bounds_are_ok HSM.out hae
        have had : askErr c (gradedOk c k g) = if (b1 && b2) = true then 0 else 2 := by rw [hok]; unfold askErr; simp [← hfc, hT]
        have hAl : (heapB c).length = c.heaps.length := by simp [heapB]
        have hBl : (caskB c).length = c.casks.length := by simp [caskB]
        have hAe : ∀ (i : Nat) (h : i < (heapB c).length), (heapB c)[i] = bndR c i (truthsR c) := fun i h => by
          simp only [heapB, List.getElem_map, List.getElem_range]
          exact bndR_eq hfc.symm hT (by omega) (by omega)
        have hBe : ∀ (i : Nat) (h : i < (caskB c).length), (caskB c)[i] = bndR c (c.heaps.length + i) (truthsR c) := fun i h => by
          simp only [caskB, List.getElem_map, List.getElem_range]
          exact bndR_eq hfc.symm hT (by omega) (by omega)
        have hfit := fun (l : List Int) (hl : l ∈ truthsR c) => fit_listed hgood (mem_truthsOf.1 ((mem_truthsR hfc.symm).1 hl)).1
        have hgr : b1 = true → gradedV c k g = gradedR c (truthsR c) k g := fun e => by
          have := within_iff.1 (hb1.symm.trans e)
          exact gradedR_eq hfc.symm hT (by omega) (by omega) g
        have htm : (truthsR c).length ≤ 150 := by
          have h1 := truthsN_length c (manyR c).toNat
          have h2 : truthsR c = truthsN c (manyR c).toNat := rfl
          have h3 : manyR c ≤ 150 := by
            refine ready_many ?_
            unfold readyB
            rw [← HTB.out, ← hfc]; rfl
          rw [h2]; omega
        obtain ⟨A, hA⟩ : ∃ A, A = heapB c := ⟨_, rfl⟩
        obtain ⟨B, hB⟩ : ∃ B, B = caskB c := ⟨_, rfl⟩
        obtain ⟨T, hTT⟩ : ∃ T, T = truthsR c := ⟨_, rfl⟩
        rw [← hA] at hAl hAe
        rw [← hA, ← hB, ← hTT] at hsr
        rw [← hB] at hBl hBe
        rw [← hTT] at hAe hBe hfit htm hgr
        have HBO := hid hsr
        have HRG := hid (And.intro hAl (And.intro hBl (And.intro hAe (And.intro hBe hfit))))
        have HGR := hid hgr
        clear hfc hb1 hb2 hok hT hae hgood hsr hAl hBl hAe hBe hfit hgr hA hB hTT
        cases b1 with
        | false =>
          have HGV := hid (graded_is_err HSM.out (k := k) (g := g) (d := 2) (by rw [had]; rfl) (by decide))
          clear had
          go_enter Try.func3, Try.ntmps3
          go_wp2_with fail
          rw [← hW]
          clear hW
          refine (thin_hidB c HTB _ w.heap.size W (by omega) (HCE.out W (Below.refl _ _))).mono ?_
          rintro e w1 ⟨rfl, hb1⟩
          have HB1 := hid hb1
          have hs1 := hb1.size
          clear hb1
          have j0 := cell_of_row (HBOX.out w1 HB1.out) 0
          have j1 := cell_of_row (HBOX.out w1 HB1.out) 1
          have j2 := cell_of_row (HBOX.out w1 HB1.out) 2
          simp only [List.getElem?_toArray, List.getElem?_cons_zero, List.getElem?_cons_succ] at j0 j1 j2
          go_wp2_with fail
          refine (CellarL_any c _ w.heap.size w1 (by omega) (HCE.out w1 HB1.out) HSM.out).mono ?_
          rintro e w2 ⟨v2, rfl, hc2, hb2⟩
          have HB2 := hid (below_after HB1.out hb2 (Nat.le_refl _))
          have hs2 := HB2.out.size
          have hd2 := hb2.size
          clear hb2 j0 j1 j2
          obtain ⟨_, _, _, _, _, _, rfl, -⟩ := id hc2.open
          go_wp2_with fail
          refine (HBO.out.1 _ _ w2 (Nat.le_refl _) hc2).mono ?_
          rintro e w3 ⟨v3, u3, rfl, hx3, hy3, hb3⟩
          have HB3 := hid (below_after HB2.out hb3 (Nat.le_refl _))
          have hs3 := HB3.out.size
          have hd3 := hb3.size
          clear hb3
          obtain ⟨xa3, xc3, rfl, -, -⟩ := id hx3.at
          obtain ⟨ya3, yc3, rfl, -, -⟩ := id hy3.at
          have HX3 := hid hx3
          have HY3 := hid hy3
          have HL3 := hid (Below.refl w3.heap.size w3)
          clear hc2 hx3 hy3
          have j0 := cell_of_row (HBOX.out w3 HB3.out) 0
          have j1 := cell_of_row (HBOX.out w3 HB3.out) 1
          have j2 := cell_of_row (HBOX.out w3 HB3.out) 2
          simp only [List.getElem?_toArray, List.getElem?_cons_zero, List.getElem?_cons_succ] at j0 j1 j2
          go_wp2_with fail
          refine (CellarL_any c _ w.heap.size w3 (by omega) (HCE.out w3 HB3.out) HSM.out).mono ?_
          rintro e w4 ⟨v4, rfl, hc4, hb4⟩
          have HB4 := hid (below_after HB3.out hb4 (Nat.le_refl _))
          have hs4 := HB4.out.size
          have hd4 := hb4.size
          have HL4 := hid (below_after HL3.out hb4 (Nat.le_refl _))
          have zHL4 := HL4.out.size
          clear hb4 j0 j1 j2
          obtain ⟨_, _, _, _, _, _, rfl, -⟩ := id hc4.open
          go_wp2_with fail
          refine (HGV.out _ _ w4 (Nat.le_refl _) hc4).mono ?_
          rintro e w5 ⟨rfl, hb5⟩
          have HB5 := hid (below_after HB4.out hb5 (Nat.le_refl _))
          have hs5 := HB5.out.size
          have hd5 := hb5.size
          have HL5 := hid (below_after HL4.out hb5 (Nat.le_refl _))
          have zHL5 := HL5.out.size
          clear hb5
          clear hc4
          have j0 := cell_of_row (HBOX.out w5 HB5.out) 0
          have j1 := cell_of_row (HBOX.out w5 HB5.out) 1
          have j2 := cell_of_row (HBOX.out w5 HB5.out) 2
          simp only [List.getElem?_toArray, List.getElem?_cons_zero, List.getElem?_cons_succ] at j0 j1 j2
          go_wp2_with fail
          refine (HBO.out.2 _ w.heap.size w5 (by omega) (HCE.out w5 HB5.out)).mono ?_
          rintro e w6 ⟨v6, rfl, hl6, hb6⟩
          have HB6 := hid (below_after HB5.out hb6 (Nat.le_refl _))
          have hs6 := HB6.out.size
          have hd6 := hb6.size
          have HL6 := hid (below_after HL5.out hb6 (Nat.le_refl _))
          have zHL6 := HL6.out.size
          clear hb6 j0 j1 j2
          obtain ⟨la6, lc6, rfl, -, -⟩ := id hl6.open
          have HL6' := hid hl6
          have HM6 := hid (Below.refl w6.heap.size w6)
          clear hl6
          have j0 := cell_of_row (HBOX.out w6 HB6.out) 0
          have j1 := cell_of_row (HBOX.out w6 HB6.out) 1
          have j2 := cell_of_row (HBOX.out w6 HB6.out) 2
          simp only [List.getElem?_toArray, List.getElem?_cons_zero, List.getElem?_cons_succ] at j0 j1 j2
          go_wp2_with fail
          refine (faultL_hid c HFA _ w.heap.size w6 (by omega) (HCE.out w6 HB6.out) HSM.out).mono ?_
          rintro e w7 ⟨rfl, hb7⟩
          have HB7 := hid (below_after HB6.out hb7 (Nat.le_refl _))
          have hs7 := HB7.out.size
          have hd7 := hb7.size
          have HL7 := hid (below_after HL6.out hb7 (Nat.le_refl _))
          have zHL7 := HL7.out.size
          have HM7 := hid (below_after HM6.out hb7 (Nat.le_refl _))
          have zHM7 := HM7.out.size
          clear hb7 j0 j1 j2
          have j0 := cell_of_row (HBOX.out w7 HB7.out) 0
          have j1 := cell_of_row (HBOX.out w7 HB7.out) 1
          have j2 := cell_of_row (HBOX.out w7 HB7.out) 2
          simp only [List.getElem?_toArray, List.getElem?_cons_zero, List.getElem?_cons_succ] at j0 j1 j2
          go_wp2_with fail
          refine (inR_hid _ _ _ HW1 _).mono ?_
          rintro e w' ⟨rfl, rfl⟩
          clear j0 j1 j2
          have j0 := cell_of_row (HBOX.out w7 HB7.out) 0
          have j1 := cell_of_row (HBOX.out w7 HB7.out) 1
          have j2 := cell_of_row (HBOX.out w7 HB7.out) 2
          simp only [List.getElem?_toArray, List.getElem?_cons_zero, List.getElem?_cons_succ] at j0 j1 j2
          go_wp2_with fail
          refine (ranges_ok c HG.out T HRG.out.2.2.2.2 (by omega) A B HRG.out.1 HRG.out.2.1 HRG.out.2.2.1 HRG.out.2.2.2.1 _ _ _ _ w7.heap.size w7 (Nat.le_refl _) ((HCE.out w7 HB7.out).le (by omega)) ((HL6'.out.below HM7.out).le (by omega)) ((HX3.out.below HL7.out).le (by omega)) ((HY3.out.below HL7.out).le (by omega))).mono ?_
          rintro e w8 ⟨rfl, hb8⟩
          have HB8 := hid (below_after HB7.out hb8 (Nat.le_refl _))
          have HM8 := hid (below_after HM7.out hb8 (Nat.le_refl _))
          have hs8 := HB8.out.size
          have hd8 := hb8.size
          clear hb8 j0 j1 j2
          go_wp2_with (go_at_call 20; refine (awake_any _).mono ?_; rintro e wz ⟨rfl, hbz⟩)
          go_ret
          exact ⟨rfl, hWb.trans ((below_after HB8.out hbz (Nat.le_refl _)).mono (by omega))⟩
        | true =>
          cases b2 with
          | false =>
            have HGV := hid (graded_is_err HSM.out (k := k) (g := g) (d := 2) (by rw [had]; rfl) (by decide))
            clear had
            go_enter Try.func3, Try.ntmps3
            go_wp2_with fail
            rw [← hW]
            clear hW
            refine (thin_hidB c HTB _ w.heap.size W (by omega) (HCE.out W (Below.refl _ _))).mono ?_
            rintro e w1 ⟨rfl, hb1⟩
            have HB1 := hid hb1
            have hs1 := hb1.size
            clear hb1
            have j0 := cell_of_row (HBOX.out w1 HB1.out) 0
            have j1 := cell_of_row (HBOX.out w1 HB1.out) 1
            have j2 := cell_of_row (HBOX.out w1 HB1.out) 2
            simp only [List.getElem?_toArray, List.getElem?_cons_zero, List.getElem?_cons_succ] at j0 j1 j2
            go_wp2_with fail
            refine (CellarL_any c _ w.heap.size w1 (by omega) (HCE.out w1 HB1.out) HSM.out).mono ?_
            rintro e w2 ⟨v2, rfl, hc2, hb2⟩
            have HB2 := hid (below_after HB1.out hb2 (Nat.le_refl _))
            have hs2 := HB2.out.size
            have hd2 := hb2.size
            clear hb2 j0 j1 j2
            obtain ⟨_, _, _, _, _, _, rfl, -⟩ := id hc2.open
            go_wp2_with fail
            refine (HBO.out.1 _ _ w2 (Nat.le_refl _) hc2).mono ?_
            rintro e w3 ⟨v3, u3, rfl, hx3, hy3, hb3⟩
            have HB3 := hid (below_after HB2.out hb3 (Nat.le_refl _))
            have hs3 := HB3.out.size
            have hd3 := hb3.size
            clear hb3
            obtain ⟨xa3, xc3, rfl, -, -⟩ := id hx3.at
            obtain ⟨ya3, yc3, rfl, -, -⟩ := id hy3.at
            have HX3 := hid hx3
            have HY3 := hid hy3
            have HL3 := hid (Below.refl w3.heap.size w3)
            clear hc2 hx3 hy3
            have j0 := cell_of_row (HBOX.out w3 HB3.out) 0
            have j1 := cell_of_row (HBOX.out w3 HB3.out) 1
            have j2 := cell_of_row (HBOX.out w3 HB3.out) 2
            simp only [List.getElem?_toArray, List.getElem?_cons_zero, List.getElem?_cons_succ] at j0 j1 j2
            go_wp2_with fail
            refine (CellarL_any c _ w.heap.size w3 (by omega) (HCE.out w3 HB3.out) HSM.out).mono ?_
            rintro e w4 ⟨v4, rfl, hc4, hb4⟩
            have HB4 := hid (below_after HB3.out hb4 (Nat.le_refl _))
            have hs4 := HB4.out.size
            have hd4 := hb4.size
            have HL4 := hid (below_after HL3.out hb4 (Nat.le_refl _))
            have zHL4 := HL4.out.size
            clear hb4 j0 j1 j2
            obtain ⟨_, _, _, _, _, _, rfl, -⟩ := id hc4.open
            go_wp2_with fail
            refine (HGV.out _ _ w4 (Nat.le_refl _) hc4).mono ?_
            rintro e w5 ⟨rfl, hb5⟩
            have HB5 := hid (below_after HB4.out hb5 (Nat.le_refl _))
            have hs5 := HB5.out.size
            have hd5 := hb5.size
            have HL5 := hid (below_after HL4.out hb5 (Nat.le_refl _))
            have zHL5 := HL5.out.size
            clear hb5
            clear hc4
            have j0 := cell_of_row (HBOX.out w5 HB5.out) 0
            have j1 := cell_of_row (HBOX.out w5 HB5.out) 1
            have j2 := cell_of_row (HBOX.out w5 HB5.out) 2
            simp only [List.getElem?_toArray, List.getElem?_cons_zero, List.getElem?_cons_succ] at j0 j1 j2
            go_wp2_with fail
            refine (HBO.out.2 _ w.heap.size w5 (by omega) (HCE.out w5 HB5.out)).mono ?_
            rintro e w6 ⟨v6, rfl, hl6, hb6⟩
            have HB6 := hid (below_after HB5.out hb6 (Nat.le_refl _))
            have hs6 := HB6.out.size
            have hd6 := hb6.size
            have HL6 := hid (below_after HL5.out hb6 (Nat.le_refl _))
            have zHL6 := HL6.out.size
            clear hb6 j0 j1 j2
            obtain ⟨la6, lc6, rfl, -, -⟩ := id hl6.open
            have HL6' := hid hl6
            have HM6 := hid (Below.refl w6.heap.size w6)
            clear hl6
            have j0 := cell_of_row (HBOX.out w6 HB6.out) 0
            have j1 := cell_of_row (HBOX.out w6 HB6.out) 1
            have j2 := cell_of_row (HBOX.out w6 HB6.out) 2
            simp only [List.getElem?_toArray, List.getElem?_cons_zero, List.getElem?_cons_succ] at j0 j1 j2
            go_wp2_with fail
            refine (faultL_hid c HFA _ w.heap.size w6 (by omega) (HCE.out w6 HB6.out) HSM.out).mono ?_
            rintro e w7 ⟨rfl, hb7⟩
            have HB7 := hid (below_after HB6.out hb7 (Nat.le_refl _))
            have hs7 := HB7.out.size
            have hd7 := hb7.size
            have HL7 := hid (below_after HL6.out hb7 (Nat.le_refl _))
            have zHL7 := HL7.out.size
            have HM7 := hid (below_after HM6.out hb7 (Nat.le_refl _))
            have zHM7 := HM7.out.size
            clear hb7 j0 j1 j2
            have j0 := cell_of_row (HBOX.out w7 HB7.out) 0
            have j1 := cell_of_row (HBOX.out w7 HB7.out) 1
            have j2 := cell_of_row (HBOX.out w7 HB7.out) 2
            simp only [List.getElem?_toArray, List.getElem?_cons_zero, List.getElem?_cons_succ] at j0 j1 j2
            go_wp2_with fail
            refine (inR_hid _ _ _ HW1 _).mono ?_
            rintro e w' ⟨rfl, rfl⟩
            go_wp2_with fail
            refine (inR_hid _ _ _ HW2 _).mono ?_
            rintro e w' ⟨rfl, rfl⟩
            clear j0 j1 j2
            have j0 := cell_of_row (HBOX.out w7 HB7.out) 0
            have j1 := cell_of_row (HBOX.out w7 HB7.out) 1
            have j2 := cell_of_row (HBOX.out w7 HB7.out) 2
            simp only [List.getElem?_toArray, List.getElem?_cons_zero, List.getElem?_cons_succ] at j0 j1 j2
            go_wp2_with fail
            refine (ranges_ok c HG.out T HRG.out.2.2.2.2 (by omega) A B HRG.out.1 HRG.out.2.1 HRG.out.2.2.1 HRG.out.2.2.2.1 _ _ _ _ w7.heap.size w7 (Nat.le_refl _) ((HCE.out w7 HB7.out).le (by omega)) ((HL6'.out.below HM7.out).le (by omega)) ((HX3.out.below HL7.out).le (by omega)) ((HY3.out.below HL7.out).le (by omega))).mono ?_
            rintro e w8 ⟨rfl, hb8⟩
            have HB8 := hid (below_after HB7.out hb8 (Nat.le_refl _))
            have HM8 := hid (below_after HM7.out hb8 (Nat.le_refl _))
            have hs8 := HB8.out.size
            have hd8 := hb8.size
            clear hb8 j0 j1 j2
            go_wp2_with (go_at_call 20; refine (awake_any _).mono ?_; rintro e wz ⟨rfl, hbz⟩)
            go_ret
            exact ⟨rfl, hWb.trans ((below_after HB8.out hbz (Nat.le_refl _)).mono (by omega))⟩
          | true =>
            have hkin := within_iff.1 HW1.out.symm
            obtain ⟨kk, rfl⟩ := Int.eq_ofNat_of_zero_le hkin.1
            have hkk : kk < c.casks.length := by omega
            obtain ⟨z, hz⟩ : ∃ z, z = gradedV c kk g := ⟨_, rfl⟩
            have HGV := hid (show GradedIs c kk g z 0 by have := graded_is HSM.out (c := c) kk g; rw [had] at this; simpa [← hz] using this)
            have HZR := hid (hz.trans (HGR.out rfl))
            clear had hz hkin
            go_enter Try.func3, Try.ntmps3
            go_wp2_with fail
            rw [← hW]
            clear hW
            refine (thin_hidB c HTB _ w.heap.size W (by omega) (HCE.out W (Below.refl _ _))).mono ?_
            rintro e w1 ⟨rfl, hb1⟩
            have HB1 := hid hb1
            have hs1 := hb1.size
            clear hb1
            have j0 := cell_of_row (HBOX.out w1 HB1.out) 0
            have j1 := cell_of_row (HBOX.out w1 HB1.out) 1
            have j2 := cell_of_row (HBOX.out w1 HB1.out) 2
            simp only [List.getElem?_toArray, List.getElem?_cons_zero, List.getElem?_cons_succ] at j0 j1 j2
            go_wp2_with fail
            refine (CellarL_any c _ w.heap.size w1 (by omega) (HCE.out w1 HB1.out) HSM.out).mono ?_
            rintro e w2 ⟨v2, rfl, hc2, hb2⟩
            have HB2 := hid (below_after HB1.out hb2 (Nat.le_refl _))
            have hs2 := HB2.out.size
            have hd2 := hb2.size
            clear hb2 j0 j1 j2
            obtain ⟨_, _, _, _, _, _, rfl, -⟩ := id hc2.open
            go_wp2_with fail
            refine (HBO.out.1 _ _ w2 (Nat.le_refl _) hc2).mono ?_
            rintro e w3 ⟨v3, u3, rfl, hx3, hy3, hb3⟩
            have HB3 := hid (below_after HB2.out hb3 (Nat.le_refl _))
            have hs3 := HB3.out.size
            have hd3 := hb3.size
            clear hb3
            obtain ⟨xa3, xc3, rfl, -, -⟩ := id hx3.at
            obtain ⟨ya3, yc3, rfl, -, -⟩ := id hy3.at
            have HX3 := hid hx3
            have HY3 := hid hy3
            have HL3 := hid (Below.refl w3.heap.size w3)
            clear hc2 hx3 hy3
            have j0 := cell_of_row (HBOX.out w3 HB3.out) 0
            have j1 := cell_of_row (HBOX.out w3 HB3.out) 1
            have j2 := cell_of_row (HBOX.out w3 HB3.out) 2
            simp only [List.getElem?_toArray, List.getElem?_cons_zero, List.getElem?_cons_succ] at j0 j1 j2
            go_wp2_with fail
            refine (CellarL_any c _ w.heap.size w3 (by omega) (HCE.out w3 HB3.out) HSM.out).mono ?_
            rintro e w4 ⟨v4, rfl, hc4, hb4⟩
            have HB4 := hid (below_after HB3.out hb4 (Nat.le_refl _))
            have hs4 := HB4.out.size
            have hd4 := hb4.size
            have HL4 := hid (below_after HL3.out hb4 (Nat.le_refl _))
            have zHL4 := HL4.out.size
            clear hb4 j0 j1 j2
            obtain ⟨_, _, _, _, _, _, rfl, -⟩ := id hc4.open
            go_wp2_with fail
            refine (HGV.out _ _ w4 (Nat.le_refl _) hc4).mono ?_
            rintro e w5 ⟨rfl, hb5⟩
            have HB5 := hid (below_after HB4.out hb5 (Nat.le_refl _))
            have hs5 := HB5.out.size
            have hd5 := hb5.size
            have HL5 := hid (below_after HL4.out hb5 (Nat.le_refl _))
            have zHL5 := HL5.out.size
            clear hb5
            clear hc4
            have j0 := cell_of_row (HBOX.out w5 HB5.out) 0
            have j1 := cell_of_row (HBOX.out w5 HB5.out) 1
            have j2 := cell_of_row (HBOX.out w5 HB5.out) 2
            simp only [List.getElem?_toArray, List.getElem?_cons_zero, List.getElem?_cons_succ] at j0 j1 j2
            go_wp2_with fail
            refine (HBO.out.2 _ w.heap.size w5 (by omega) (HCE.out w5 HB5.out)).mono ?_
            rintro e w6 ⟨v6, rfl, hl6, hb6⟩
            have HB6 := hid (below_after HB5.out hb6 (Nat.le_refl _))
            have hs6 := HB6.out.size
            have hd6 := hb6.size
            have HL6 := hid (below_after HL5.out hb6 (Nat.le_refl _))
            have zHL6 := HL6.out.size
            clear hb6 j0 j1 j2
            obtain ⟨la6, lc6, rfl, -, -⟩ := id hl6.open
            have HL6' := hid hl6
            have HM6 := hid (Below.refl w6.heap.size w6)
            clear hl6
            have j0 := cell_of_row (HBOX.out w6 HB6.out) 0
            have j1 := cell_of_row (HBOX.out w6 HB6.out) 1
            have j2 := cell_of_row (HBOX.out w6 HB6.out) 2
            simp only [List.getElem?_toArray, List.getElem?_cons_zero, List.getElem?_cons_succ] at j0 j1 j2
            go_wp2_with fail
            refine (faultL_hid c HFA _ w.heap.size w6 (by omega) (HCE.out w6 HB6.out) HSM.out).mono ?_
            rintro e w7 ⟨rfl, hb7⟩
            have HB7 := hid (below_after HB6.out hb7 (Nat.le_refl _))
            have hs7 := HB7.out.size
            have hd7 := hb7.size
            have HL7 := hid (below_after HL6.out hb7 (Nat.le_refl _))
            have zHL7 := HL7.out.size
            have HM7 := hid (below_after HM6.out hb7 (Nat.le_refl _))
            have zHM7 := HM7.out.size
            clear hb7 j0 j1 j2
            have j0 := cell_of_row (HBOX.out w7 HB7.out) 0
            have j1 := cell_of_row (HBOX.out w7 HB7.out) 1
            have j2 := cell_of_row (HBOX.out w7 HB7.out) 2
            simp only [List.getElem?_toArray, List.getElem?_cons_zero, List.getElem?_cons_succ] at j0 j1 j2
            go_wp2_with fail
            refine (inR_hid _ _ _ HW1 _).mono ?_
            rintro e w' ⟨rfl, rfl⟩
            go_wp2_with fail
            refine (inR_hid _ _ _ HW2 _).mono ?_
            rintro e w' ⟨rfl, rfl⟩
            clear j0 j1 j2
            have j0 := cell_of_row (HBOX.out w7 HB7.out) 0
            have j1 := cell_of_row (HBOX.out w7 HB7.out) 1
            have j2 := cell_of_row (HBOX.out w7 HB7.out) 2
            simp only [List.getElem?_toArray, List.getElem?_cons_zero, List.getElem?_cons_succ] at j0 j1 j2
            go_wp2_with fail
            refine (ranges_ok c HG.out T HRG.out.2.2.2.2 (by omega) A B HRG.out.1 HRG.out.2.1 HRG.out.2.2.1 HRG.out.2.2.2.1 _ _ _ _ w7.heap.size w7 (Nat.le_refl _) ((HCE.out w7 HB7.out).le (by omega)) ((HL6'.out.below HM7.out).le (by omega)) ((HX3.out.below HL7.out).le (by omega)) ((HY3.out.below HL7.out).le (by omega))).mono ?_
            rintro e w8 ⟨rfl, hb8⟩
            have HB8 := hid (below_after HB7.out hb8 (Nat.le_refl _))
            have HM8 := hid (below_after HM7.out hb8 (Nat.le_refl _))
            have hs8 := HB8.out.size
            have hd8 := hb8.size
            clear hb8 j0 j1 j2
            have j0 := cell_of_row (HBOX.out w8 HB8.out) 0
            have j1 := cell_of_row (HBOX.out w8 HB8.out) 1
            have j2 := cell_of_row (HBOX.out w8 HB8.out) 2
            simp only [List.getElem?_toArray, List.getElem?_cons_zero, List.getElem?_cons_succ] at j0 j1 j2
            go_wp2_with fail
            refine (gradedRf_any c HG.out T HRG.out.2.2.2.2 (by omega) kk hkk g _ _ w8.heap.size w8 (Nat.le_refl _) ((HCE.out w8 HB8.out).le (by omega)) ((HL6'.out.below HM8.out).le (by omega))).mono ?_
            rw [← HZR.out]
            rintro e w9 ⟨rfl, hb9⟩
            have HB9 := hid (below_after HB8.out hb9 (Nat.le_refl _))
            have hs9 := HB9.out.size
            clear hb9 j0 j1 j2
            go_wp2_with (go_at_call 20; refine (awake_any _).mono ?_; rintro e wz ⟨rfl, hbz⟩)
            go_ret
            exact ⟨rfl, hWb.trans ((below_after HB9.out hbz (Nat.le_refl _)).mono (by omega))⟩
    · have hne : (f == 0) = false := by rw [beq_eq_false_iff_ne]; exact hf
      have hne2 : (f != 0) = true := by simp [hf]
      have hae : askErr c true = f := by unfold askErr; rw [if_pos (by rw [← hfc]; exact hf), hfc]
      have HBO := hid (show BoundsAre c [] [] f ∧ SureIs c [] f by have := bounds_are_err HSM.out (c := c) (by rw [hae]; exact hf); rwa [hae] at this)
      have HGV := hid (graded_is_err HSM.out (k := k) (g := g) (d := f) (by unfold askErr; rw [if_pos (by rw [← hfc]; exact hf), hfc]) hf)
      clear hfc hae hf
      go_enter Try.func3, Try.ntmps3
      go_wp2_with fail
      rw [← hW]
      clear hW
      refine (thin_hidB c HTB _ w.heap.size W (by omega) (HCE.out W (Below.refl _ _))).mono ?_
      rintro e w1 ⟨rfl, hb1⟩
      have HB1 := hid hb1
      have hs1 := hb1.size
      clear hb1
      have j0 := cell_of_row (HBOX.out w1 HB1.out) 0
      have j1 := cell_of_row (HBOX.out w1 HB1.out) 1
      have j2 := cell_of_row (HBOX.out w1 HB1.out) 2
      simp only [List.getElem?_toArray, List.getElem?_cons_zero, List.getElem?_cons_succ] at j0 j1 j2
      go_wp2_with fail
      refine (CellarL_any c _ w.heap.size w1 (by omega) (HCE.out w1 HB1.out) HSM.out).mono ?_
      rintro e w2 ⟨v2, rfl, hc2, hb2⟩
      have HB2 := hid (below_after HB1.out hb2 (Nat.le_refl _))
      have hs2 := HB2.out.size
      have hd2 := hb2.size
      clear hb2 j0 j1 j2
      obtain ⟨_, _, _, _, _, _, rfl, -⟩ := id hc2.open
      go_wp2_with fail
      refine (HBO.out.1 _ _ w2 (Nat.le_refl _) hc2).mono ?_
      rintro e w3 ⟨v3, u3, rfl, hx3, hy3, hb3⟩
      have HB3 := hid (below_after HB2.out hb3 (Nat.le_refl _))
      have hs3 := HB3.out.size
      have hd3 := hb3.size
      clear hb3
      obtain ⟨xa3, xc3, rfl, -, -⟩ := id hx3.at
      obtain ⟨ya3, yc3, rfl, -, -⟩ := id hy3.at
      have HX3 := hid hx3
      have HY3 := hid hy3
      have HL3 := hid (Below.refl w3.heap.size w3)
      clear hc2 hx3 hy3
      have j0 := cell_of_row (HBOX.out w3 HB3.out) 0
      have j1 := cell_of_row (HBOX.out w3 HB3.out) 1
      have j2 := cell_of_row (HBOX.out w3 HB3.out) 2
      simp only [List.getElem?_toArray, List.getElem?_cons_zero, List.getElem?_cons_succ] at j0 j1 j2
      go_wp2_with fail
      refine (CellarL_any c _ w.heap.size w3 (by omega) (HCE.out w3 HB3.out) HSM.out).mono ?_
      rintro e w4 ⟨v4, rfl, hc4, hb4⟩
      have HB4 := hid (below_after HB3.out hb4 (Nat.le_refl _))
      have hs4 := HB4.out.size
      have hd4 := hb4.size
      have HL4 := hid (below_after HL3.out hb4 (Nat.le_refl _))
      have zHL4 := HL4.out.size
      clear hb4 j0 j1 j2
      obtain ⟨_, _, _, _, _, _, rfl, -⟩ := id hc4.open
      go_wp2_with fail
      refine (HGV.out _ _ w4 (Nat.le_refl _) hc4).mono ?_
      rintro e w5 ⟨rfl, hb5⟩
      have HB5 := hid (below_after HB4.out hb5 (Nat.le_refl _))
      have hs5 := HB5.out.size
      have hd5 := hb5.size
      have HL5 := hid (below_after HL4.out hb5 (Nat.le_refl _))
      have zHL5 := HL5.out.size
      clear hb5
      clear hc4
      have j0 := cell_of_row (HBOX.out w5 HB5.out) 0
      have j1 := cell_of_row (HBOX.out w5 HB5.out) 1
      have j2 := cell_of_row (HBOX.out w5 HB5.out) 2
      simp only [List.getElem?_toArray, List.getElem?_cons_zero, List.getElem?_cons_succ] at j0 j1 j2
      go_wp2_with fail
      refine (HBO.out.2 _ w.heap.size w5 (by omega) (HCE.out w5 HB5.out)).mono ?_
      rintro e w6 ⟨v6, rfl, hl6, hb6⟩
      have HB6 := hid (below_after HB5.out hb6 (Nat.le_refl _))
      have hs6 := HB6.out.size
      have hd6 := hb6.size
      have HL6 := hid (below_after HL5.out hb6 (Nat.le_refl _))
      have zHL6 := HL6.out.size
      clear hb6 j0 j1 j2
      obtain ⟨la6, lc6, rfl, -, -⟩ := id hl6.open
      have HL6' := hid hl6
      have HM6 := hid (Below.refl w6.heap.size w6)
      clear hl6
      have j0 := cell_of_row (HBOX.out w6 HB6.out) 0
      have j1 := cell_of_row (HBOX.out w6 HB6.out) 1
      have j2 := cell_of_row (HBOX.out w6 HB6.out) 2
      simp only [List.getElem?_toArray, List.getElem?_cons_zero, List.getElem?_cons_succ] at j0 j1 j2
      go_wp2_with fail
      refine (faultL_hid c HFA _ w.heap.size w6 (by omega) (HCE.out w6 HB6.out) HSM.out).mono ?_
      rintro e w7 ⟨rfl, hb7⟩
      have HB7 := hid (below_after HB6.out hb7 (Nat.le_refl _))
      have hs7 := HB7.out.size
      have hd7 := hb7.size
      have HL7 := hid (below_after HL6.out hb7 (Nat.le_refl _))
      have zHL7 := HL7.out.size
      have HM7 := hid (below_after HM6.out hb7 (Nat.le_refl _))
      have zHM7 := HM7.out.size
      clear hb7 j0 j1 j2
      go_wp2_with (go_at_call 20; refine (awake_any _).mono ?_; rintro e wz ⟨rfl, hbz⟩)
      go_ret
      exact ⟨rfl, hWb.trans ((below_after HB7.out hbz (Nat.le_refl _)).mono (by omega))⟩
end Go.Proofs.Ytjddcaimjofihaa
