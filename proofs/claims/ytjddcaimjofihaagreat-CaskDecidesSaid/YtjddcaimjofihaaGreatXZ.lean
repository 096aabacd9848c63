/- The walk of the law CaskDecides; no condition. -/
import Derived.Test.YtjddcaimjofihaaGreatXG
import Derived.Test.YtjddcaimjofihaaGreatT9
namespace Go.Proofs.YtjddcaimjofihaaGreat
open Go.RowKit Go.Shelf
set_option maxRecDepth 100000

theorem thin_hidZ {b : Bool} (c : Ce) (HB : Hid (b = thinB c)) (v : Value) (n : Nat) (w : World) (hn : n ≤ w.heap.size) (h : CeV (Lt n) w v c) :
    Calls Tryz.prog 4 #[v] w fun e w' => e = .returned (.bool b) ∧ Below w.heap.size w w' := by
  rw [HB.out]; exact thin_any c v n w hn h
def RetSureZ (L : List (List Int)) (a : Int) (W : World) (e : Ending) (w' : World) : Prop := ∃ v', e = .returned (.tuple #[v', .int .i64 a]) ∧ Lss (Lt w'.heap.size) w' v' L ∧ Below W.heap.size W w'
def SureZ (c : Ce) (L : List (List Int)) (a : Int) : Prop := ∀ (vc : Value) (n : Nat) (w : World), n ≤ w.heap.size → CeV (Lt n) w vc c → Calls Tryz.prog 10 #[vc] w (RetSureZ L a w)
def DecZ (c : Ce) (g : Int) (l : List Int) (e : Int) : Prop := ∀ (vc : Value) (n : Nat) (w : World), n ≤ w.heap.size → CeV (Lt n) w vc c → Calls Tryz.prog 6 #[vc, .int .i64 g] w (RetInts l e w)
def ProZ (c : Ce) (g : Int) (ts : List Int) (b : Bool) : Prop := ∀ (vc vt : Value) (n : Nat) (w : World), n ≤ w.heap.size → CeV (Lt n) w vc c → Ints (Lt n) w vt ts → Calls Tryz.prog 8 #[vc, .int .i64 g, vt] w (RetB b w)
def ThiZ (c : Ce) (ts : List Int) (r : Bool) : Prop := ∀ (v vl : Value) (n : Nat) (w : World), n ≤ w.heap.size → CeV (Lt n) w v c → Ints (Lt n) w vl ts →
  Calls Tryz.prog 13 #[v, vl] w fun e w' => ∃ z : Nat, e = .returned (.tuple #[.int .i64 z, .bool r]) ∧ (r = true → bitsL z = ts ∧ z < 2 ^ (c.heaps.length + c.casks.length)) ∧ Below w.heap.size w w'
theorem sure_errZ {c : Ce} (hsm : Small c) (h : askErr c true ≠ 0) : SureZ c [] (askErr c true) :=
  fun vc n w hn hc => (sure_err c hsm h vc n w hn hc).mono fun _ _ ⟨he, hb⟩ => ⟨_, he, (OwnL.nil (base := 0)).lss.mono (fun _ hb => hb.2), hb⟩
theorem sure_okZ {c : Ce} (hsm : Small c) (h : askErr c true = 0) : SureZ c (truthsR c) 0 :=
  fun vc n w hn hc => (sure_ok c hsm h vc n w hn hc).mono fun _ _ ⟨v', he, ho, hb⟩ => ⟨v', he, ho.lss.mono (fun _ hb => hb.2), hb⟩
theorem dec_err {c : Ce} (hsm : Small c) {g d : Int} (h : askErr c (within g 0 100) = d) (hd : d ≠ 0) (ts : List Int) : DecZ c g [] d ∧ ProZ c g ts false :=
  ⟨fun vc n w hn hc => by have := Decide_err c vc g n w hn hc hsm (by rw [h]; exact hd); rwa [h] at this, fun vc vt n w hn hc _ => proveDecide_err c vc g ts vt n w hn hc hsm (by rw [h]; exact hd)⟩
/-- A valid cellar that has a truth, and a grade: whether a list decides it. -/
theorem dec_ok {c : Ce} (hf : fault c = 0) (hsm : Small c) {g : Int} (he : askErr c (within g 0 100) = 0) {ts : List Int} (htl : ts.length ≤ 100) :
    ∃ r pb : Bool, ProZ c g ts pb ∧ ThiZ c ts r ∧ (r = false → pb = false) ∧ (r = true → pb = decP c g ts) := by
  have hg := (fault_good hf).1
  by_cases hr : RisesTo ((c.heaps.length : Int) + c.casks.length) ts ts.length
  · refine ⟨true, decP c g ts, fun vc vt n w hn hc ht => proveDecide_go c vc g ts vt n w hn hc hsm ht (by omega) he _ (fun k hk hno => absurd (hr k hk) hno) (fun _ => rfl), fun v vl n w hn hc hl => isThings_any c hg ts htl (fun _ => rfl) (fun k hk hno => absurd (hr k hk) hno) v vl n w hn hc hl, fun h => (by cases h), fun _ => rfl⟩
  · exact ⟨false, false, fun vc vt n w hn hc ht => proveDecide_go c vc g ts vt n w hn hc hsm ht (by omega) he _ (fun k hk hno => rfl) (fun h => absurd h hr), fun v vl n w hn hc hl => isThings_any c hg ts htl (fun h => absurd h hr) (fun k hk hno => rfl) v vl n w hn hc hl, fun _ => rfl, fun h => (by cases h)⟩

set_option maxHeartbeats 8000000 in
theorem CaskDecides_walk (c : Ce) (v : Value) {w : World} (h : CeV (Lt w.heap.size) w v c) (g : Int) (_ : -9223372036854775808 ≤ g ∧ g ≤ 9223372036854775807) (ts : List Int) (vt : Value) (it : Ints (Lt w.heap.size) w vt ts) :
    Calls Tryz.prog 3 #[v, .int .i64 g, vt] w (RetT w) := by
  have it' := it
  obtain ⟨ta0, tc0, rfl, -, -⟩ := it.open1
  have h' := h
  obtain ⟨ha, hc, ka, kc, ta, tc, rfl, hp1, hp2, hp3⟩ := h.open
  have HOP := hid (And.intro hp1 (And.intro hp2 hp3))
  clear hp1 hp2 hp3
  obtain ⟨W, hW⟩ : ∃ W, W = w.alloc (Obj.cells #[.slice ha c.heaps.length hc, .slice ka c.casks.length kc, .slice ta c.trials.length tc] 26) := ⟨_, rfl⟩
  have hWs : W.heap.size = w.heap.size + 1 := by rw [hW]; simp
  have hWb : Below w.heap.size w W := by rw [hW]; exact below_alloc1 (Nat.le_refl _) _
  have hWr : W.heap[w.heap.size]? = some (.cells #[.slice ha c.heaps.length hc, .slice ka c.casks.length kc, .slice ta c.trials.length tc] 26 (0, 0)) := by rw [hW]; exact heap_new _ _
  have HBOX := hid (fun w1 (hb : Below W.heap.size W w1) => (hb.block w.heap.size (by omega)).trans hWr : ∀ w1, Below W.heap.size W w1 → w1.heap[w.heap.size]? = _)
  have HCE := hid (fun w1 (hb : Below W.heap.size W w1) => h'.below (hWb.trans (hb.mono (by omega)) |>.mono (Nat.le_refl _)) : ∀ w1, Below W.heap.size W w1 → CeV (Lt _) w1 _ c)
  clear hWr h' h
  have HTV := hid (fun w1 (hb : Below W.heap.size W w1) => it'.below (hWb.trans (hb.mono (by omega))) : ∀ w1, Below W.heap.size W w1 → Ints (Lt w.heap.size) w1 _ ts)
  obtain ⟨tb, htb⟩ : ∃ tb, tb = thinB c := ⟨_, rfl⟩
  have HTB := hid htb
  clear htb HOP it it'
  cases tb with
  | false =>
    go_enter Tryz.func3, Tryz.ntmps3
    go_wp2_with fail
    rw [← hW]
    clear hW
    refine (thin_hidZ c HTB _ w.heap.size W (by omega) (HCE.out W (Below.refl _ _))).mono ?_
    rintro e w1 ⟨rfl, hb1⟩
    have HB1 := hid hb1
    have hs1 := hb1.size
    clear hb1
    go_wp2_with (go_at_call 5; refine (awake_any _).mono ?_; rintro e wz ⟨rfl, hbz⟩)
    go_ret
    exact ⟨rfl, hWb.trans ((below_after HB1.out hbz (Nat.le_refl _)).mono (by omega))⟩
  | true =>
    have HSM := hid (thin_small HTB.out.symm)
    by_cases hlong : 9 < ts.length
    · have hlong' : (9 : Int) < (ts.length : Int) := by omega
      go_enter Tryz.func3, Tryz.ntmps3
      go_wp2_with fail
      rw [← hW]
      clear hW
      refine (thin_hidZ c HTB _ w.heap.size W (by omega) (HCE.out W (Below.refl _ _))).mono ?_
      rintro e w1 ⟨rfl, hb1⟩
      have HB1 := hid hb1
      have hs1 := hb1.size
      clear hb1
      go_wp2_with (go_at_call 5; refine (awake_any _).mono ?_; rintro e wz ⟨rfl, hbz⟩)
      go_ret
      exact ⟨rfl, hWb.trans ((below_after HB1.out hbz (Nat.le_refl _)).mono (by omega))⟩
    · have hnl : ¬ (9 : Int) < (ts.length : Int) := by omega
      clear hlong
      obtain ⟨f, hfc⟩ : ∃ f, f = fault c := ⟨_, rfl⟩
      have HFA := hid hfc
      by_cases hf : f = 0
      · subst hf
        obtain ⟨b1, hb1⟩ : ∃ b1, b1 = within g 0 100 := ⟨_, rfl⟩
        have HWG := hid hb1
        cases b1 with
        | false =>
          have hae : askErr c (within g 0 100) = 2 := by rw [← hb1]; unfold askErr; simp [← hfc]
          have HDP := hid (dec_err HSM.out hae (by decide) ts)
          by_cases hT : truthsOf c [] = []
          · have hs : askErr c true = 11 := by unfold askErr; simp [← hfc, hT]
            have HSU := hid (show SureZ c [] 11 by have := sure_errZ HSM.out (c := c) (by rw [hs]; decide); rwa [hs] at this)
            clear hfc hb1 hae hT hs
            go_enter Tryz.func3, Tryz.ntmps3
            go_wp2_with fail
            rw [← hW]
            clear hW
            refine (thin_hidZ c HTB _ w.heap.size W (by omega) (HCE.out W (Below.refl _ _))).mono ?_
            rintro e w1 ⟨rfl, hb1⟩
            have HB1 := hid hb1
            have hs1 := hb1.size
            clear hb1
            have j0 := cell_of_row (HBOX.out w1 HB1.out) 0
            have j1 := cell_of_row (HBOX.out w1 HB1.out) 1
            have j2 := cell_of_row (HBOX.out w1 HB1.out) 2
            simp only [List.getElem?_toArray, List.getElem?_cons_zero, List.getElem?_cons_succ] at j0 j1 j2
            go_wp2_with fail
            refine (CellarL_any c _ w.heap.size w1 (by omega) (HCE.out w1 HB1.out) HSM.out).mono ?_
            rintro e w2 ⟨v2, rfl, hc2, hb2⟩
            have HB2 := hid (below_after HB1.out hb2 (Nat.le_refl _))
            have hs2 := HB2.out.size
            have hd2 := hb2.size
            clear hb2 j0 j1 j2
            obtain ⟨_, _, _, _, _, _, rfl, -⟩ := id hc2.open
            go_wp2_with fail
            refine (HDP.out.1 _ _ w2 (Nat.le_refl _) hc2).mono ?_
            rintro e w3 ⟨v3, rfl, hi3, hb3⟩
            have HB3 := hid (below_after HB2.out hb3 (Nat.le_refl _))
            have hs3 := HB3.out.size
            have hd3 := hb3.size
            clear hb3
            obtain ⟨xa3, xc3, rfl, -, -⟩ := id hi3.open1
            have HI3 := hid hi3
            have HL3 := hid (Below.refl w3.heap.size w3)
            clear hc2 hi3
            have j0 := cell_of_row (HBOX.out w3 HB3.out) 0
            have j1 := cell_of_row (HBOX.out w3 HB3.out) 1
            have j2 := cell_of_row (HBOX.out w3 HB3.out) 2
            simp only [List.getElem?_toArray, List.getElem?_cons_zero, List.getElem?_cons_succ] at j0 j1 j2
            go_wp2_with fail
            refine (CellarL_any c _ w.heap.size w3 (by omega) (HCE.out w3 HB3.out) HSM.out).mono ?_
            rintro e w4 ⟨v4, rfl, hc4, hb4⟩
            have HB4 := hid (below_after HB3.out hb4 (Nat.le_refl _))
            have hs4 := HB4.out.size
            have hd4 := hb4.size
            have HL4 := hid (below_after HL3.out hb4 (Nat.le_refl _))
            have zHL4 := HL4.out.size
            clear hb4 j0 j1 j2
            obtain ⟨_, _, _, _, _, _, rfl, -⟩ := id hc4.open
            go_wp2_with fail
            refine (list_any ts _ w.heap.size w4 (by omega) (HTV.out w4 HB4.out) (by omega)).mono ?_
            rintro e w5 ⟨v5, rfl, ho5, hb5⟩
            have HB5 := hid (below_after HB4.out hb5 (Nat.le_refl _))
            have hs5 := HB5.out.size
            have hd5 := hb5.size
            have HL5 := hid (below_after HL4.out hb5 (Nat.le_refl _))
            have zHL5 := HL5.out.size
            have HI_5 := hid hb5
            clear hb5
            have hi5 : Ints (Lt w5.heap.size) w5 v5 ts := ho5.slLt encI_length
            obtain ⟨_, _, rfl, -, -⟩ := id hi5.open1
            have hc5 := (hc4.below HI_5.out).le hd5
            clear ho5 hc4
            go_wp2_with fail
            refine (HDP.out.2 _ _ _ w5 (Nat.le_refl _) hc5 hi5).mono ?_
            rintro e w6 ⟨rfl, hb6⟩
            have HB6 := hid (below_after HB5.out hb6 (Nat.le_refl _))
            have hs6 := HB6.out.size
            have hd6 := hb6.size
            have HL6 := hid (below_after HL5.out hb6 (Nat.le_refl _))
            have zHL6 := HL6.out.size
            clear hb6
            clear hc5 hi5
            have j0 := cell_of_row (HBOX.out w6 HB6.out) 0
            have j1 := cell_of_row (HBOX.out w6 HB6.out) 1
            have j2 := cell_of_row (HBOX.out w6 HB6.out) 2
            simp only [List.getElem?_toArray, List.getElem?_cons_zero, List.getElem?_cons_succ] at j0 j1 j2
            go_wp2_with fail
            refine (HSU.out _ w.heap.size w6 (by omega) (HCE.out w6 HB6.out)).mono ?_
            rintro e w7 ⟨v7, rfl, hl7, hb7⟩
            have HB7 := hid (below_after HB6.out hb7 (Nat.le_refl _))
            have hs7 := HB7.out.size
            have hd7 := hb7.size
            have HL7 := hid (below_after HL6.out hb7 (Nat.le_refl _))
            have zHL7 := HL7.out.size
            clear hb7 j0 j1 j2
            obtain ⟨la7, lc7, rfl, -, -⟩ := id hl7.open
            have HL7' := hid hl7
            have HM7 := hid (Below.refl w7.heap.size w7)
            clear hl7
            have j0 := cell_of_row (HBOX.out w7 HB7.out) 0
            have j1 := cell_of_row (HBOX.out w7 HB7.out) 1
            have j2 := cell_of_row (HBOX.out w7 HB7.out) 2
            simp only [List.getElem?_toArray, List.getElem?_cons_zero, List.getElem?_cons_succ] at j0 j1 j2
            go_wp2_with fail
            refine (faultL_hid c HFA _ w.heap.size w7 (by omega) (HCE.out w7 HB7.out) HSM.out).mono ?_
            rintro e w8 ⟨rfl, hb8⟩
            have HB8 := hid (below_after HB7.out hb8 (Nat.le_refl _))
            have hs8 := HB8.out.size
            have hd8 := hb8.size
            have HL8 := hid (below_after HL7.out hb8 (Nat.le_refl _))
            have zHL8 := HL8.out.size
            have HM8 := hid (below_after HM7.out hb8 (Nat.le_refl _))
            have zHM8 := HM8.out.size
            clear hb8 j0 j1 j2
            go_wp2_with fail
            refine (inE_hid _ _ _ HWG _).mono ?_
            rintro e w' ⟨rfl, rfl⟩
            go_wp2_with (go_at_call 5; refine (awake_any _).mono ?_; rintro e wz ⟨rfl, hbz⟩)
            go_ret
            exact ⟨rfl, hWb.trans ((below_after HB8.out hbz (Nat.le_refl _)).mono (by omega))⟩
          · have hs : askErr c true = 0 := by unfold askErr; simp [← hfc, hT]
            have HSU := hid (sure_okZ HSM.out hs)
            clear hfc hb1 hae hT hs
            go_enter Tryz.func3, Tryz.ntmps3
            go_wp2_with fail
            rw [← hW]
            clear hW
            refine (thin_hidZ c HTB _ w.heap.size W (by omega) (HCE.out W (Below.refl _ _))).mono ?_
            rintro e w1 ⟨rfl, hb1⟩
            have HB1 := hid hb1
            have hs1 := hb1.size
            clear hb1
            have j0 := cell_of_row (HBOX.out w1 HB1.out) 0
            have j1 := cell_of_row (HBOX.out w1 HB1.out) 1
            have j2 := cell_of_row (HBOX.out w1 HB1.out) 2
            simp only [List.getElem?_toArray, List.getElem?_cons_zero, List.getElem?_cons_succ] at j0 j1 j2
            go_wp2_with fail
            refine (CellarL_any c _ w.heap.size w1 (by omega) (HCE.out w1 HB1.out) HSM.out).mono ?_
            rintro e w2 ⟨v2, rfl, hc2, hb2⟩
            have HB2 := hid (below_after HB1.out hb2 (Nat.le_refl _))
            have hs2 := HB2.out.size
            have hd2 := hb2.size
            clear hb2 j0 j1 j2
            obtain ⟨_, _, _, _, _, _, rfl, -⟩ := id hc2.open
            go_wp2_with fail
            refine (HDP.out.1 _ _ w2 (Nat.le_refl _) hc2).mono ?_
            rintro e w3 ⟨v3, rfl, hi3, hb3⟩
            have HB3 := hid (below_after HB2.out hb3 (Nat.le_refl _))
            have hs3 := HB3.out.size
            have hd3 := hb3.size
            clear hb3
            obtain ⟨xa3, xc3, rfl, -, -⟩ := id hi3.open1
            have HI3 := hid hi3
            have HL3 := hid (Below.refl w3.heap.size w3)
            clear hc2 hi3
            have j0 := cell_of_row (HBOX.out w3 HB3.out) 0
            have j1 := cell_of_row (HBOX.out w3 HB3.out) 1
            have j2 := cell_of_row (HBOX.out w3 HB3.out) 2
            simp only [List.getElem?_toArray, List.getElem?_cons_zero, List.getElem?_cons_succ] at j0 j1 j2
            go_wp2_with fail
            refine (CellarL_any c _ w.heap.size w3 (by omega) (HCE.out w3 HB3.out) HSM.out).mono ?_
            rintro e w4 ⟨v4, rfl, hc4, hb4⟩
            have HB4 := hid (below_after HB3.out hb4 (Nat.le_refl _))
            have hs4 := HB4.out.size
            have hd4 := hb4.size
            have HL4 := hid (below_after HL3.out hb4 (Nat.le_refl _))
            have zHL4 := HL4.out.size
            clear hb4 j0 j1 j2
            obtain ⟨_, _, _, _, _, _, rfl, -⟩ := id hc4.open
            go_wp2_with fail
            refine (list_any ts _ w.heap.size w4 (by omega) (HTV.out w4 HB4.out) (by omega)).mono ?_
            rintro e w5 ⟨v5, rfl, ho5, hb5⟩
            have HB5 := hid (below_after HB4.out hb5 (Nat.le_refl _))
            have hs5 := HB5.out.size
            have hd5 := hb5.size
            have HL5 := hid (below_after HL4.out hb5 (Nat.le_refl _))
            have zHL5 := HL5.out.size
            have HI_5 := hid hb5
            clear hb5
            have hi5 : Ints (Lt w5.heap.size) w5 v5 ts := ho5.slLt encI_length
            obtain ⟨_, _, rfl, -, -⟩ := id hi5.open1
            have hc5 := (hc4.below HI_5.out).le hd5
            clear ho5 hc4
            go_wp2_with fail
            refine (HDP.out.2 _ _ _ w5 (Nat.le_refl _) hc5 hi5).mono ?_
            rintro e w6 ⟨rfl, hb6⟩
            have HB6 := hid (below_after HB5.out hb6 (Nat.le_refl _))
            have hs6 := HB6.out.size
            have hd6 := hb6.size
            have HL6 := hid (below_after HL5.out hb6 (Nat.le_refl _))
            have zHL6 := HL6.out.size
            clear hb6
            clear hc5 hi5
            have j0 := cell_of_row (HBOX.out w6 HB6.out) 0
            have j1 := cell_of_row (HBOX.out w6 HB6.out) 1
            have j2 := cell_of_row (HBOX.out w6 HB6.out) 2
            simp only [List.getElem?_toArray, List.getElem?_cons_zero, List.getElem?_cons_succ] at j0 j1 j2
            go_wp2_with fail
            refine (HSU.out _ w.heap.size w6 (by omega) (HCE.out w6 HB6.out)).mono ?_
            rintro e w7 ⟨v7, rfl, hl7, hb7⟩
            have HB7 := hid (below_after HB6.out hb7 (Nat.le_refl _))
            have hs7 := HB7.out.size
            have hd7 := hb7.size
            have HL7 := hid (below_after HL6.out hb7 (Nat.le_refl _))
            have zHL7 := HL7.out.size
            clear hb7 j0 j1 j2
            obtain ⟨la7, lc7, rfl, -, -⟩ := id hl7.open
            have HL7' := hid hl7
            have HM7 := hid (Below.refl w7.heap.size w7)
            clear hl7
            have j0 := cell_of_row (HBOX.out w7 HB7.out) 0
            have j1 := cell_of_row (HBOX.out w7 HB7.out) 1
            have j2 := cell_of_row (HBOX.out w7 HB7.out) 2
            simp only [List.getElem?_toArray, List.getElem?_cons_zero, List.getElem?_cons_succ] at j0 j1 j2
            go_wp2_with fail
            refine (faultL_hid c HFA _ w.heap.size w7 (by omega) (HCE.out w7 HB7.out) HSM.out).mono ?_
            rintro e w8 ⟨rfl, hb8⟩
            have HB8 := hid (below_after HB7.out hb8 (Nat.le_refl _))
            have hs8 := HB8.out.size
            have hd8 := hb8.size
            have HL8 := hid (below_after HL7.out hb8 (Nat.le_refl _))
            have zHL8 := HL8.out.size
            have HM8 := hid (below_after HM7.out hb8 (Nat.le_refl _))
            have zHM8 := HM8.out.size
            clear hb8 j0 j1 j2
            go_wp2_with fail
            refine (inE_hid _ _ _ HWG _).mono ?_
            rintro e w' ⟨rfl, rfl⟩
            go_wp2_with (go_at_call 5; refine (awake_any _).mono ?_; rintro e wz ⟨rfl, hbz⟩)
            go_ret
            exact ⟨rfl, hWb.trans ((below_after HB8.out hbz (Nat.le_refl _)).mono (by omega))⟩
        | true =>
          by_cases hT : truthsOf c [] = []
          · have hs : askErr c true = 11 := by unfold askErr; simp [← hfc, hT]
            have hae : askErr c (within g 0 100) = 11 := by rw [← hb1]; exact hs
            have HDP := hid (dec_err HSM.out hae (by decide) ts)
            have HSU := hid (show SureZ c [] 11 by have := sure_errZ HSM.out (c := c) (by rw [hs]; decide); rwa [hs] at this)
            clear hfc hb1 hae hT hs
            go_enter Tryz.func3, Tryz.ntmps3
            go_wp2_with fail
            rw [← hW]
            clear hW
            refine (thin_hidZ c HTB _ w.heap.size W (by omega) (HCE.out W (Below.refl _ _))).mono ?_
            rintro e w1 ⟨rfl, hb1⟩
            have HB1 := hid hb1
            have hs1 := hb1.size
            clear hb1
            have j0 := cell_of_row (HBOX.out w1 HB1.out) 0
            have j1 := cell_of_row (HBOX.out w1 HB1.out) 1
            have j2 := cell_of_row (HBOX.out w1 HB1.out) 2
            simp only [List.getElem?_toArray, List.getElem?_cons_zero, List.getElem?_cons_succ] at j0 j1 j2
            go_wp2_with fail
            refine (CellarL_any c _ w.heap.size w1 (by omega) (HCE.out w1 HB1.out) HSM.out).mono ?_
            rintro e w2 ⟨v2, rfl, hc2, hb2⟩
            have HB2 := hid (below_after HB1.out hb2 (Nat.le_refl _))
            have hs2 := HB2.out.size
            have hd2 := hb2.size
            clear hb2 j0 j1 j2
            obtain ⟨_, _, _, _, _, _, rfl, -⟩ := id hc2.open
            go_wp2_with fail
            refine (HDP.out.1 _ _ w2 (Nat.le_refl _) hc2).mono ?_
            rintro e w3 ⟨v3, rfl, hi3, hb3⟩
            have HB3 := hid (below_after HB2.out hb3 (Nat.le_refl _))
            have hs3 := HB3.out.size
            have hd3 := hb3.size
            clear hb3
            obtain ⟨xa3, xc3, rfl, -, -⟩ := id hi3.open1
            have HI3 := hid hi3
            have HL3 := hid (Below.refl w3.heap.size w3)
            clear hc2 hi3
            have j0 := cell_of_row (HBOX.out w3 HB3.out) 0
            have j1 := cell_of_row (HBOX.out w3 HB3.out) 1
            have j2 := cell_of_row (HBOX.out w3 HB3.out) 2
            simp only [List.getElem?_toArray, List.getElem?_cons_zero, List.getElem?_cons_succ] at j0 j1 j2
            go_wp2_with fail
            refine (CellarL_any c _ w.heap.size w3 (by omega) (HCE.out w3 HB3.out) HSM.out).mono ?_
            rintro e w4 ⟨v4, rfl, hc4, hb4⟩
            have HB4 := hid (below_after HB3.out hb4 (Nat.le_refl _))
            have hs4 := HB4.out.size
            have hd4 := hb4.size
            have HL4 := hid (below_after HL3.out hb4 (Nat.le_refl _))
            have zHL4 := HL4.out.size
            clear hb4 j0 j1 j2
            obtain ⟨_, _, _, _, _, _, rfl, -⟩ := id hc4.open
            go_wp2_with fail
            refine (list_any ts _ w.heap.size w4 (by omega) (HTV.out w4 HB4.out) (by omega)).mono ?_
            rintro e w5 ⟨v5, rfl, ho5, hb5⟩
            have HB5 := hid (below_after HB4.out hb5 (Nat.le_refl _))
            have hs5 := HB5.out.size
            have hd5 := hb5.size
            have HL5 := hid (below_after HL4.out hb5 (Nat.le_refl _))
            have zHL5 := HL5.out.size
            have HI_5 := hid hb5
            clear hb5
            have hi5 : Ints (Lt w5.heap.size) w5 v5 ts := ho5.slLt encI_length
            obtain ⟨_, _, rfl, -, -⟩ := id hi5.open1
            have hc5 := (hc4.below HI_5.out).le hd5
            clear ho5 hc4
            go_wp2_with fail
            refine (HDP.out.2 _ _ _ w5 (Nat.le_refl _) hc5 hi5).mono ?_
            rintro e w6 ⟨rfl, hb6⟩
            have HB6 := hid (below_after HB5.out hb6 (Nat.le_refl _))
            have hs6 := HB6.out.size
            have hd6 := hb6.size
            have HL6 := hid (below_after HL5.out hb6 (Nat.le_refl _))
            have zHL6 := HL6.out.size
            clear hb6
            clear hc5 hi5
            have j0 := cell_of_row (HBOX.out w6 HB6.out) 0
            have j1 := cell_of_row (HBOX.out w6 HB6.out) 1
            have j2 := cell_of_row (HBOX.out w6 HB6.out) 2
            simp only [List.getElem?_toArray, List.getElem?_cons_zero, List.getElem?_cons_succ] at j0 j1 j2
            go_wp2_with fail
            refine (HSU.out _ w.heap.size w6 (by omega) (HCE.out w6 HB6.out)).mono ?_
            rintro e w7 ⟨v7, rfl, hl7, hb7⟩
            have HB7 := hid (below_after HB6.out hb7 (Nat.le_refl _))
            have hs7 := HB7.out.size
            have hd7 := hb7.size
            have HL7 := hid (below_after HL6.out hb7 (Nat.le_refl _))
            have zHL7 := HL7.out.size
            clear hb7 j0 j1 j2
            obtain ⟨la7, lc7, rfl, -, -⟩ := id hl7.open
            have HL7' := hid hl7
            have HM7 := hid (Below.refl w7.heap.size w7)
            clear hl7
            have j0 := cell_of_row (HBOX.out w7 HB7.out) 0
            have j1 := cell_of_row (HBOX.out w7 HB7.out) 1
            have j2 := cell_of_row (HBOX.out w7 HB7.out) 2
            simp only [List.getElem?_toArray, List.getElem?_cons_zero, List.getElem?_cons_succ] at j0 j1 j2
            go_wp2_with fail
            refine (faultL_hid c HFA _ w.heap.size w7 (by omega) (HCE.out w7 HB7.out) HSM.out).mono ?_
            rintro e w8 ⟨rfl, hb8⟩
            have HB8 := hid (below_after HB7.out hb8 (Nat.le_refl _))
            have hs8 := HB8.out.size
            have hd8 := hb8.size
            have HL8 := hid (below_after HL7.out hb8 (Nat.le_refl _))
            have zHL8 := HL8.out.size
            have HM8 := hid (below_after HM7.out hb8 (Nat.le_refl _))
            have zHM8 := HM8.out.size
            clear hb8 j0 j1 j2
            go_wp2_with fail
            refine (inE_hid _ _ _ HWG _).mono ?_
            rintro e w' ⟨rfl, rfl⟩
            go_wp2_with (go_at_call 5; refine (awake_any _).mono ?_; rintro e wz ⟨rfl, hbz⟩)
            go_ret
            exact ⟨rfl, hWb.trans ((below_after HB8.out hbz (Nat.le_refl _)).mono (by omega))⟩
          · have hs : askErr c true = 0 := by unfold askErr; simp [← hfc, hT]
            have hae : askErr c (within g 0 100) = 0 := by rw [← hb1]; exact hs
            have hgood := (fault_good hfc.symm).1
            obtain ⟨x, hx, hfew⟩ := decide_some c g
            have hxR := (decideR_fewest hgood g).unique hfew
            have hxl : x.length ≤ 100 := by
              obtain ⟨⟨g1, g2, g3, -⟩, -⟩ := hgood.facts
              rcases hfew.rises.length with h | h
              · rw [h]; simp
              · omega
            obtain ⟨r, pb, hpro, hthi, hp0, hp1⟩ := dec_ok hfc.symm HSM.out hae (ts := ts) (by omega)
            have HDP := hid (show DecZ c g x 0 ∧ ProZ c g ts pb from ⟨fun vc n w hn hc => Decide_ok c vc g n w hn hc HSM.out hae x hx, hpro⟩)
            have HSU := hid (sure_okZ HSM.out hs)
            have HTH := hid hthi
            have HRF := hid (show ∀ (v vl : Value) (n : Nat) (w : World), n ≤ w.heap.size → CeV (Lt n) w v c → Lss (Lt n) w vl (truthsR c) → Calls Tryz.prog 16 #[v, vl, .int .i64 g] w (RetInts1 x w) from fun v vl n w hn h hl => by rw [← hxR]; exact decideRf_any c hfc.symm g v vl n w hn h hl)
            have hfit := fun (l : List Int) (hl : l ∈ truthsR c) => fit_listed hgood (mem_truthsOf.1 ((mem_truthsR hfc.symm).1 hl)).1
            have htm : (truthsR c).length ≤ 100000 := by
              have h1 := truthsN_length c (manyR c).toNat
              have h2 : truthsR c = truthsN c (manyR c).toNat := rfl
              have h3 := (manyR_eq hfc.symm).2.1
              rw [h2]; omega
            have HFIT := hid hfit
            have HGD := hid hgood
            have HF0 := hid hfc.symm
            have HST := hid (show sameB x x = true from sameB_iff.2 rfl)
            cases r with
            | false =>
              obtain rfl := hp0 rfl
              clear hfc hb1 hae hT hs hgood hx hfew hxR hpro hthi hp0 hp1 hfit
              go_enter Tryz.func3, Tryz.ntmps3
              go_wp2_with fail
              rw [← hW]
              clear hW
              refine (thin_hidZ c HTB _ w.heap.size W (by omega) (HCE.out W (Below.refl _ _))).mono ?_
              rintro e w1 ⟨rfl, hb1⟩
              have HB1 := hid hb1
              have hs1 := hb1.size
              clear hb1
              have j0 := cell_of_row (HBOX.out w1 HB1.out) 0
              have j1 := cell_of_row (HBOX.out w1 HB1.out) 1
              have j2 := cell_of_row (HBOX.out w1 HB1.out) 2
              simp only [List.getElem?_toArray, List.getElem?_cons_zero, List.getElem?_cons_succ] at j0 j1 j2
              go_wp2_with fail
              refine (CellarL_any c _ w.heap.size w1 (by omega) (HCE.out w1 HB1.out) HSM.out).mono ?_
              rintro e w2 ⟨v2, rfl, hc2, hb2⟩
              have HB2 := hid (below_after HB1.out hb2 (Nat.le_refl _))
              have hs2 := HB2.out.size
              have hd2 := hb2.size
              clear hb2 j0 j1 j2
              obtain ⟨_, _, _, _, _, _, rfl, -⟩ := id hc2.open
              go_wp2_with fail
              refine (HDP.out.1 _ _ w2 (Nat.le_refl _) hc2).mono ?_
              rintro e w3 ⟨v3, rfl, hi3, hb3⟩
              have HB3 := hid (below_after HB2.out hb3 (Nat.le_refl _))
              have hs3 := HB3.out.size
              have hd3 := hb3.size
              clear hb3
              obtain ⟨xa3, xc3, rfl, -, -⟩ := id hi3.open1
              have HI3 := hid hi3
              have HL3 := hid (Below.refl w3.heap.size w3)
              clear hc2 hi3
              have j0 := cell_of_row (HBOX.out w3 HB3.out) 0
              have j1 := cell_of_row (HBOX.out w3 HB3.out) 1
              have j2 := cell_of_row (HBOX.out w3 HB3.out) 2
              simp only [List.getElem?_toArray, List.getElem?_cons_zero, List.getElem?_cons_succ] at j0 j1 j2
              go_wp2_with fail
              refine (CellarL_any c _ w.heap.size w3 (by omega) (HCE.out w3 HB3.out) HSM.out).mono ?_
              rintro e w4 ⟨v4, rfl, hc4, hb4⟩
              have HB4 := hid (below_after HB3.out hb4 (Nat.le_refl _))
              have hs4 := HB4.out.size
              have hd4 := hb4.size
              have HL4 := hid (below_after HL3.out hb4 (Nat.le_refl _))
              have zHL4 := HL4.out.size
              clear hb4 j0 j1 j2
              obtain ⟨_, _, _, _, _, _, rfl, -⟩ := id hc4.open
              go_wp2_with fail
              refine (list_any ts _ w.heap.size w4 (by omega) (HTV.out w4 HB4.out) (by omega)).mono ?_
              rintro e w5 ⟨v5, rfl, ho5, hb5⟩
              have HB5 := hid (below_after HB4.out hb5 (Nat.le_refl _))
              have hs5 := HB5.out.size
              have hd5 := hb5.size
              have HL5 := hid (below_after HL4.out hb5 (Nat.le_refl _))
              have zHL5 := HL5.out.size
              have HI_5 := hid hb5
              clear hb5
              have hi5 : Ints (Lt w5.heap.size) w5 v5 ts := ho5.slLt encI_length
              obtain ⟨_, _, rfl, -, -⟩ := id hi5.open1
              have hc5 := (hc4.below HI_5.out).le hd5
              clear ho5 hc4
              go_wp2_with fail
              refine (HDP.out.2 _ _ _ w5 (Nat.le_refl _) hc5 hi5).mono ?_
              rintro e w6 ⟨rfl, hb6⟩
              have HB6 := hid (below_after HB5.out hb6 (Nat.le_refl _))
              have hs6 := HB6.out.size
              have hd6 := hb6.size
              have HL6 := hid (below_after HL5.out hb6 (Nat.le_refl _))
              have zHL6 := HL6.out.size
              clear hb6
              clear hc5 hi5
              have j0 := cell_of_row (HBOX.out w6 HB6.out) 0
              have j1 := cell_of_row (HBOX.out w6 HB6.out) 1
              have j2 := cell_of_row (HBOX.out w6 HB6.out) 2
              simp only [List.getElem?_toArray, List.getElem?_cons_zero, List.getElem?_cons_succ] at j0 j1 j2
              go_wp2_with fail
              refine (HSU.out _ w.heap.size w6 (by omega) (HCE.out w6 HB6.out)).mono ?_
              rintro e w7 ⟨v7, rfl, hl7, hb7⟩
              have HB7 := hid (below_after HB6.out hb7 (Nat.le_refl _))
              have hs7 := HB7.out.size
              have hd7 := hb7.size
              have HL7 := hid (below_after HL6.out hb7 (Nat.le_refl _))
              have zHL7 := HL7.out.size
              clear hb7 j0 j1 j2
              obtain ⟨la7, lc7, rfl, -, -⟩ := id hl7.open
              have HL7' := hid hl7
              have HM7 := hid (Below.refl w7.heap.size w7)
              clear hl7
              have j0 := cell_of_row (HBOX.out w7 HB7.out) 0
              have j1 := cell_of_row (HBOX.out w7 HB7.out) 1
              have j2 := cell_of_row (HBOX.out w7 HB7.out) 2
              simp only [List.getElem?_toArray, List.getElem?_cons_zero, List.getElem?_cons_succ] at j0 j1 j2
              go_wp2_with fail
              refine (faultL_hid c HFA _ w.heap.size w7 (by omega) (HCE.out w7 HB7.out) HSM.out).mono ?_
              rintro e w8 ⟨rfl, hb8⟩
              have HB8 := hid (below_after HB7.out hb8 (Nat.le_refl _))
              have hs8 := HB8.out.size
              have hd8 := hb8.size
              have HL8 := hid (below_after HL7.out hb8 (Nat.le_refl _))
              have zHL8 := HL8.out.size
              have HM8 := hid (below_after HM7.out hb8 (Nat.le_refl _))
              have zHM8 := HM8.out.size
              clear hb8 j0 j1 j2
              go_wp2_with fail
              refine (inE_hid _ _ _ HWG _).mono ?_
              rintro e w' ⟨rfl, rfl⟩
              have j0 := cell_of_row (HBOX.out w8 HB8.out) 0
              have j1 := cell_of_row (HBOX.out w8 HB8.out) 1
              have j2 := cell_of_row (HBOX.out w8 HB8.out) 2
              simp only [List.getElem?_toArray, List.getElem?_cons_zero, List.getElem?_cons_succ] at j0 j1 j2
              go_wp2_with fail
              refine (HTH.out _ _ w.heap.size w8 (by omega) (HCE.out w8 HB8.out) (HTV.out w8 HB8.out)).mono ?_
              rintro e w9 ⟨zz, rfl, hz, hb9⟩
              have HB9 := hid (below_after HB8.out hb9 (Nat.le_refl _))
              have hs9 := HB9.out.size
              have hd9 := hb9.size
              have HL9 := hid (below_after HL8.out hb9 (Nat.le_refl _))
              have zHL9 := HL9.out.size
              have HM9 := hid (below_after HM8.out hb9 (Nat.le_refl _))
              have zHM9 := HM9.out.size
              clear hb9 j0 j1 j2
              clear hz
              have j0 := cell_of_row (HBOX.out w9 HB9.out) 0
              have j1 := cell_of_row (HBOX.out w9 HB9.out) 1
              have j2 := cell_of_row (HBOX.out w9 HB9.out) 2
              simp only [List.getElem?_toArray, List.getElem?_cons_zero, List.getElem?_cons_succ] at j0 j1 j2
              go_wp2_with fail
              refine (HRF.out _ _ w7.heap.size w9 (by omega) (((HCE.out w9 HB9.out)).le (by omega)) ((HL7'.out.below HM9.out))).mono ?_
              rintro e w20 ⟨v20, rfl, hi20, hb20⟩
              have HB20 := hid (below_after HB9.out hb20 (Nat.le_refl _))
              have hs20 := HB20.out.size
              have hd20 := hb20.size
              have HL20 := hid (below_after HL9.out hb20 (Nat.le_refl _))
              have zHL20 := HL20.out.size
              have HM20 := hid (below_after HM9.out hb20 (Nat.le_refl _))
              have zHM20 := HM20.out.size
              clear hb20 j0 j1 j2
              obtain ⟨_, _, rfl, -, -⟩ := id hi20.open1
              go_wp2_with fail
              refine (same_any x x _ _ w20.heap.size w20 ((HI3.out.below HL20.out).le (by omega)) hi20 (Nat.le_refl _) (by omega) (by omega)).mono ?_
              rintro e w21 ⟨rfl, hb21⟩
              have HB21 := hid (below_after HB20.out hb21 (Nat.le_refl _))
              have hs21 := HB21.out.size
              have hd21 := hb21.size
              have HL21 := hid (below_after HL20.out hb21 (Nat.le_refl _))
              have zHL21 := HL21.out.size
              clear hb21
              clear hi20
              rw [HST.out]
              go_wp2_with (go_at_call 5; refine (awake_any _).mono ?_; rintro e wz ⟨rfl, hbz⟩)
              go_ret
              exact ⟨rfl, hWb.trans ((below_after HB21.out hbz (Nat.le_refl _)).mono (by omega))⟩
            | true =>
              have hpp := hp1 rfl
              have HPP := hid hpp
              clear hfc hb1 hae hT hs hgood hx hfew hxR hpro hthi hp0 hp1 hfit hpp
              go_enter Tryz.func3, Tryz.ntmps3
              go_wp2_with fail
              rw [← hW]
              clear hW
              refine (thin_hidZ c HTB _ w.heap.size W (by omega) (HCE.out W (Below.refl _ _))).mono ?_
              rintro e w1 ⟨rfl, hb1⟩
              have HB1 := hid hb1
              have hs1 := hb1.size
              clear hb1
              have j0 := cell_of_row (HBOX.out w1 HB1.out) 0
              have j1 := cell_of_row (HBOX.out w1 HB1.out) 1
              have j2 := cell_of_row (HBOX.out w1 HB1.out) 2
              simp only [List.getElem?_toArray, List.getElem?_cons_zero, List.getElem?_cons_succ] at j0 j1 j2
              go_wp2_with fail
              refine (CellarL_any c _ w.heap.size w1 (by omega) (HCE.out w1 HB1.out) HSM.out).mono ?_
              rintro e w2 ⟨v2, rfl, hc2, hb2⟩
              have HB2 := hid (below_after HB1.out hb2 (Nat.le_refl _))
              have hs2 := HB2.out.size
              have hd2 := hb2.size
              clear hb2 j0 j1 j2
              obtain ⟨_, _, _, _, _, _, rfl, -⟩ := id hc2.open
              go_wp2_with fail
              refine (HDP.out.1 _ _ w2 (Nat.le_refl _) hc2).mono ?_
              rintro e w3 ⟨v3, rfl, hi3, hb3⟩
              have HB3 := hid (below_after HB2.out hb3 (Nat.le_refl _))
              have hs3 := HB3.out.size
              have hd3 := hb3.size
              clear hb3
              obtain ⟨xa3, xc3, rfl, -, -⟩ := id hi3.open1
              have HI3 := hid hi3
              have HL3 := hid (Below.refl w3.heap.size w3)
              clear hc2 hi3
              have j0 := cell_of_row (HBOX.out w3 HB3.out) 0
              have j1 := cell_of_row (HBOX.out w3 HB3.out) 1
              have j2 := cell_of_row (HBOX.out w3 HB3.out) 2
              simp only [List.getElem?_toArray, List.getElem?_cons_zero, List.getElem?_cons_succ] at j0 j1 j2
              go_wp2_with fail
              refine (CellarL_any c _ w.heap.size w3 (by omega) (HCE.out w3 HB3.out) HSM.out).mono ?_
              rintro e w4 ⟨v4, rfl, hc4, hb4⟩
              have HB4 := hid (below_after HB3.out hb4 (Nat.le_refl _))
              have hs4 := HB4.out.size
              have hd4 := hb4.size
              have HL4 := hid (below_after HL3.out hb4 (Nat.le_refl _))
              have zHL4 := HL4.out.size
              clear hb4 j0 j1 j2
              obtain ⟨_, _, _, _, _, _, rfl, -⟩ := id hc4.open
              go_wp2_with fail
              refine (list_any ts _ w.heap.size w4 (by omega) (HTV.out w4 HB4.out) (by omega)).mono ?_
              rintro e w5 ⟨v5, rfl, ho5, hb5⟩
              have HB5 := hid (below_after HB4.out hb5 (Nat.le_refl _))
              have hs5 := HB5.out.size
              have hd5 := hb5.size
              have HL5 := hid (below_after HL4.out hb5 (Nat.le_refl _))
              have zHL5 := HL5.out.size
              have HI_5 := hid hb5
              clear hb5
              have hi5 : Ints (Lt w5.heap.size) w5 v5 ts := ho5.slLt encI_length
              obtain ⟨_, _, rfl, -, -⟩ := id hi5.open1
              have hc5 := (hc4.below HI_5.out).le hd5
              clear ho5 hc4
              go_wp2_with fail
              refine (HDP.out.2 _ _ _ w5 (Nat.le_refl _) hc5 hi5).mono ?_
              rintro e w6 ⟨rfl, hb6⟩
              have HB6 := hid (below_after HB5.out hb6 (Nat.le_refl _))
              have hs6 := HB6.out.size
              have hd6 := hb6.size
              have HL6 := hid (below_after HL5.out hb6 (Nat.le_refl _))
              have zHL6 := HL6.out.size
              clear hb6
              clear hc5 hi5
              have j0 := cell_of_row (HBOX.out w6 HB6.out) 0
              have j1 := cell_of_row (HBOX.out w6 HB6.out) 1
              have j2 := cell_of_row (HBOX.out w6 HB6.out) 2
              simp only [List.getElem?_toArray, List.getElem?_cons_zero, List.getElem?_cons_succ] at j0 j1 j2
              go_wp2_with fail
              refine (HSU.out _ w.heap.size w6 (by omega) (HCE.out w6 HB6.out)).mono ?_
              rintro e w7 ⟨v7, rfl, hl7, hb7⟩
              have HB7 := hid (below_after HB6.out hb7 (Nat.le_refl _))
              have hs7 := HB7.out.size
              have hd7 := hb7.size
              have HL7 := hid (below_after HL6.out hb7 (Nat.le_refl _))
              have zHL7 := HL7.out.size
              clear hb7 j0 j1 j2
              obtain ⟨la7, lc7, rfl, -, -⟩ := id hl7.open
              have HL7' := hid hl7
              have HM7 := hid (Below.refl w7.heap.size w7)
              clear hl7
              have j0 := cell_of_row (HBOX.out w7 HB7.out) 0
              have j1 := cell_of_row (HBOX.out w7 HB7.out) 1
              have j2 := cell_of_row (HBOX.out w7 HB7.out) 2
              simp only [List.getElem?_toArray, List.getElem?_cons_zero, List.getElem?_cons_succ] at j0 j1 j2
              go_wp2_with fail
              refine (faultL_hid c HFA _ w.heap.size w7 (by omega) (HCE.out w7 HB7.out) HSM.out).mono ?_
              rintro e w8 ⟨rfl, hb8⟩
              have HB8 := hid (below_after HB7.out hb8 (Nat.le_refl _))
              have hs8 := HB8.out.size
              have hd8 := hb8.size
              have HL8 := hid (below_after HL7.out hb8 (Nat.le_refl _))
              have zHL8 := HL8.out.size
              have HM8 := hid (below_after HM7.out hb8 (Nat.le_refl _))
              have zHM8 := HM8.out.size
              clear hb8 j0 j1 j2
              go_wp2_with fail
              refine (inE_hid _ _ _ HWG _).mono ?_
              rintro e w' ⟨rfl, rfl⟩
              have j0 := cell_of_row (HBOX.out w8 HB8.out) 0
              have j1 := cell_of_row (HBOX.out w8 HB8.out) 1
              have j2 := cell_of_row (HBOX.out w8 HB8.out) 2
              simp only [List.getElem?_toArray, List.getElem?_cons_zero, List.getElem?_cons_succ] at j0 j1 j2
              go_wp2_with fail
              refine (HTH.out _ _ w.heap.size w8 (by omega) (HCE.out w8 HB8.out) (HTV.out w8 HB8.out)).mono ?_
              rintro e w9 ⟨zz, rfl, hz, hb9⟩
              have HB9 := hid (below_after HB8.out hb9 (Nat.le_refl _))
              have hs9 := HB9.out.size
              have hd9 := hb9.size
              have HL9 := hid (below_after HL8.out hb9 (Nat.le_refl _))
              have zHL9 := HL9.out.size
              have HM9 := hid (below_after HM8.out hb9 (Nat.le_refl _))
              have zHM9 := HM9.out.size
              clear hb9 j0 j1 j2
              obtain ⟨hz1, hz2⟩ := hz rfl
              have HDI := hid (decides_is HF0.out hz2 (b := pb) (g := g) (by rw [hz1]; exact HPP.out))
              obtain ⟨⟨g1, g2, g3, -⟩, -⟩ := HGD.out.facts
              have hzz : zz < 1024 := Nat.lt_of_lt_of_le hz2 (Nat.pow_le_pow_right (by omega) (by omega) : 2 ^ (c.heaps.length + c.casks.length) ≤ 2 ^ 10)
              clear hz hz1 hz2
              have j0 := cell_of_row (HBOX.out w9 HB9.out) 0
              have j1 := cell_of_row (HBOX.out w9 HB9.out) 1
              have j2 := cell_of_row (HBOX.out w9 HB9.out) 2
              simp only [List.getElem?_toArray, List.getElem?_cons_zero, List.getElem?_cons_succ] at j0 j1 j2
              go_wp2_with fail
              refine (decidesRf_any c HGD.out _ HFIT.out htm g zz hzz HDI.out.1 HDI.out.2 _ _ w7.heap.size w9 (by omega) (((HCE.out w9 HB9.out)).le (by omega)) (HL7'.out.below HM9.out)).mono ?_
              rintro e w10 ⟨rfl, hb10⟩
              have HB10 := hid (below_after HB9.out hb10 (Nat.le_refl _))
              have hs10 := HB10.out.size
              have hd10 := hb10.size
              have HL10 := hid (below_after HL9.out hb10 (Nat.le_refl _))
              have zHL10 := HL10.out.size
              have HM10 := hid (below_after HM9.out hb10 (Nat.le_refl _))
              have zHM10 := HM10.out.size
              clear hb10 j0 j1 j2
              have hbb : (pb == pb) = true := by cases pb <;> rfl
              have j0 := cell_of_row (HBOX.out w10 HB10.out) 0
              have j1 := cell_of_row (HBOX.out w10 HB10.out) 1
              have j2 := cell_of_row (HBOX.out w10 HB10.out) 2
              simp only [List.getElem?_toArray, List.getElem?_cons_zero, List.getElem?_cons_succ] at j0 j1 j2
              go_wp2_with fail
              refine (HRF.out _ _ w7.heap.size w10 (by omega) (((HCE.out w10 HB10.out)).le (by omega)) ((HL7'.out.below HM10.out))).mono ?_
              rintro e w20 ⟨v20, rfl, hi20, hb20⟩
              have HB20 := hid (below_after HB10.out hb20 (Nat.le_refl _))
              have hs20 := HB20.out.size
              have hd20 := hb20.size
              have HL20 := hid (below_after HL10.out hb20 (Nat.le_refl _))
              have zHL20 := HL20.out.size
              have HM20 := hid (below_after HM10.out hb20 (Nat.le_refl _))
              have zHM20 := HM20.out.size
              clear hb20 j0 j1 j2
              obtain ⟨_, _, rfl, -, -⟩ := id hi20.open1
              go_wp2_with fail
              refine (same_any x x _ _ w20.heap.size w20 ((HI3.out.below HL20.out).le (by omega)) hi20 (Nat.le_refl _) (by omega) (by omega)).mono ?_
              rintro e w21 ⟨rfl, hb21⟩
              have HB21 := hid (below_after HB20.out hb21 (Nat.le_refl _))
              have hs21 := HB21.out.size
              have hd21 := hb21.size
              have HL21 := hid (below_after HL20.out hb21 (Nat.le_refl _))
              have zHL21 := HL21.out.size
              clear hb21
              clear hi20
              rw [HST.out]
              go_wp2_with (go_at_call 5; refine (awake_any _).mono ?_; rintro e wz ⟨rfl, hbz⟩)
              go_ret
              exact ⟨rfl, hWb.trans ((below_after HB21.out hbz (Nat.le_refl _)).mono (by omega))⟩
      · have hne : (f == 0) = false := by rw [beq_eq_false_iff_ne]; exact hf
        have hne2 : (f != 0) = true := by simp [hf]
        have hs : askErr c true = f := by unfold askErr; rw [if_pos (by rw [← hfc]; exact hf), hfc]
        have hae : askErr c (within g 0 100) = f := by unfold askErr; rw [if_pos (by rw [← hfc]; exact hf), hfc]
        have HDP := hid (dec_err HSM.out hae hf ts)
        have HSU := hid (show SureZ c [] f by have := sure_errZ HSM.out (c := c) (by rw [hs]; exact hf); rwa [hs] at this)
        clear hfc hf hs hae
        go_enter Tryz.func3, Tryz.ntmps3
        go_wp2_with fail
        rw [← hW]
        clear hW
        refine (thin_hidZ c HTB _ w.heap.size W (by omega) (HCE.out W (Below.refl _ _))).mono ?_
        rintro e w1 ⟨rfl, hb1⟩
        have HB1 := hid hb1
        have hs1 := hb1.size
        clear hb1
        have j0 := cell_of_row (HBOX.out w1 HB1.out) 0
        have j1 := cell_of_row (HBOX.out w1 HB1.out) 1
        have j2 := cell_of_row (HBOX.out w1 HB1.out) 2
        simp only [List.getElem?_toArray, List.getElem?_cons_zero, List.getElem?_cons_succ] at j0 j1 j2
        go_wp2_with fail
        refine (CellarL_any c _ w.heap.size w1 (by omega) (HCE.out w1 HB1.out) HSM.out).mono ?_
        rintro e w2 ⟨v2, rfl, hc2, hb2⟩
        have HB2 := hid (below_after HB1.out hb2 (Nat.le_refl _))
        have hs2 := HB2.out.size
        have hd2 := hb2.size
        clear hb2 j0 j1 j2
        obtain ⟨_, _, _, _, _, _, rfl, -⟩ := id hc2.open
        go_wp2_with fail
        refine (HDP.out.1 _ _ w2 (Nat.le_refl _) hc2).mono ?_
        rintro e w3 ⟨v3, rfl, hi3, hb3⟩
        have HB3 := hid (below_after HB2.out hb3 (Nat.le_refl _))
        have hs3 := HB3.out.size
        have hd3 := hb3.size
        clear hb3
        obtain ⟨xa3, xc3, rfl, -, -⟩ := id hi3.open1
        have HI3 := hid hi3
        have HL3 := hid (Below.refl w3.heap.size w3)
        clear hc2 hi3
        have j0 := cell_of_row (HBOX.out w3 HB3.out) 0
        have j1 := cell_of_row (HBOX.out w3 HB3.out) 1
        have j2 := cell_of_row (HBOX.out w3 HB3.out) 2
        simp only [List.getElem?_toArray, List.getElem?_cons_zero, List.getElem?_cons_succ] at j0 j1 j2
        go_wp2_with fail
        refine (CellarL_any c _ w.heap.size w3 (by omega) (HCE.out w3 HB3.out) HSM.out).mono ?_
        rintro e w4 ⟨v4, rfl, hc4, hb4⟩
        have HB4 := hid (below_after HB3.out hb4 (Nat.le_refl _))
        have hs4 := HB4.out.size
        have hd4 := hb4.size
        have HL4 := hid (below_after HL3.out hb4 (Nat.le_refl _))
        have zHL4 := HL4.out.size
        clear hb4 j0 j1 j2
        obtain ⟨_, _, _, _, _, _, rfl, -⟩ := id hc4.open
        go_wp2_with fail
        refine (list_any ts _ w.heap.size w4 (by omega) (HTV.out w4 HB4.out) (by omega)).mono ?_
        rintro e w5 ⟨v5, rfl, ho5, hb5⟩
        have HB5 := hid (below_after HB4.out hb5 (Nat.le_refl _))
        have hs5 := HB5.out.size
        have hd5 := hb5.size
        have HL5 := hid (below_after HL4.out hb5 (Nat.le_refl _))
        have zHL5 := HL5.out.size
        have HI_5 := hid hb5
        clear hb5
        have hi5 : Ints (Lt w5.heap.size) w5 v5 ts := ho5.slLt encI_length
        obtain ⟨_, _, rfl, -, -⟩ := id hi5.open1
        have hc5 := (hc4.below HI_5.out).le hd5
        clear ho5 hc4
        go_wp2_with fail
        refine (HDP.out.2 _ _ _ w5 (Nat.le_refl _) hc5 hi5).mono ?_
        rintro e w6 ⟨rfl, hb6⟩
        have HB6 := hid (below_after HB5.out hb6 (Nat.le_refl _))
        have hs6 := HB6.out.size
        have hd6 := hb6.size
        have HL6 := hid (below_after HL5.out hb6 (Nat.le_refl _))
        have zHL6 := HL6.out.size
        clear hb6
        clear hc5 hi5
        have j0 := cell_of_row (HBOX.out w6 HB6.out) 0
        have j1 := cell_of_row (HBOX.out w6 HB6.out) 1
        have j2 := cell_of_row (HBOX.out w6 HB6.out) 2
        simp only [List.getElem?_toArray, List.getElem?_cons_zero, List.getElem?_cons_succ] at j0 j1 j2
        go_wp2_with fail
        refine (HSU.out _ w.heap.size w6 (by omega) (HCE.out w6 HB6.out)).mono ?_
        rintro e w7 ⟨v7, rfl, hl7, hb7⟩
        have HB7 := hid (below_after HB6.out hb7 (Nat.le_refl _))
        have hs7 := HB7.out.size
        have hd7 := hb7.size
        have HL7 := hid (below_after HL6.out hb7 (Nat.le_refl _))
        have zHL7 := HL7.out.size
        clear hb7 j0 j1 j2
        obtain ⟨la7, lc7, rfl, -, -⟩ := id hl7.open
        have HL7' := hid hl7
        have HM7 := hid (Below.refl w7.heap.size w7)
        clear hl7
        have j0 := cell_of_row (HBOX.out w7 HB7.out) 0
        have j1 := cell_of_row (HBOX.out w7 HB7.out) 1
        have j2 := cell_of_row (HBOX.out w7 HB7.out) 2
        simp only [List.getElem?_toArray, List.getElem?_cons_zero, List.getElem?_cons_succ] at j0 j1 j2
        go_wp2_with fail
        refine (faultL_hid c HFA _ w.heap.size w7 (by omega) (HCE.out w7 HB7.out) HSM.out).mono ?_
        rintro e w8 ⟨rfl, hb8⟩
        have HB8 := hid (below_after HB7.out hb8 (Nat.le_refl _))
        have hs8 := HB8.out.size
        have hd8 := hb8.size
        have HL8 := hid (below_after HL7.out hb8 (Nat.le_refl _))
        have zHL8 := HL8.out.size
        have HM8 := hid (below_after HM7.out hb8 (Nat.le_refl _))
        have zHM8 := HM8.out.size
        clear hb8 j0 j1 j2
        go_wp2_with (go_at_call 5; refine (awake_any _).mono ?_; rintro e wz ⟨rfl, hbz⟩)
        go_ret
        exact ⟨rfl, hWb.trans ((below_after HB8.out hbz (Nat.le_refl _)).mono (by omega))⟩
end Go.Proofs.YtjddcaimjofihaaGreat
