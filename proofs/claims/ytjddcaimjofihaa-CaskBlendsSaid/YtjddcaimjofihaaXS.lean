/- The walk of the law CaskBlends; no condition. -/
import Derived.Test.YtjddcaimjofihaaXB
import Derived.Test.YtjddcaimjofihaaT8
import Derived.Test.YtjddcaimjofihaaC1
namespace Go.Proofs.Ytjddcaimjofihaa
open Go.RowKit Go.Shelf
set_option maxRecDepth 100000

def BlIs (c : Ce) (st : List Int) (wt g : Int) (l : List Int) (e : Int) : Prop := ∀ (vc vs : Value) (n : Nat) (w : World), n ≤ w.heap.size → CeV (Lt n) w vc c → Ints (Lt n) w vs st → Calls Try.prog 64 #[vc, vs, .int .i64 wt, .int .i64 g] w (RetInts l e w)
def PbIs (c : Ce) (st : List Int) (wt g : Int) (ws : List Int) (b : Bool) : Prop := ∀ (vc vs vw : Value) (n : Nat) (w : World), n ≤ w.heap.size → CeV (Lt n) w vc c → Ints (Lt n) w vs st → Ints (Lt n) w vw ws → Calls Try.prog 65 #[vc, vs, .int .i64 wt, .int .i64 g, vw] w (RetB b w)
theorem bl_err {c : Ce} (hsm : Small c) {st : List Int} (hsl : st.length ≤ 1000) {wt g d : Int} (h : askErr c (blendOk c st wt g) = d) (hd : d ≠ 0) (ws : List Int) : BlIs c st wt g [] d ∧ PbIs c st wt g ws false :=
  ⟨fun vc vs n w hn hc hs => by have := Blend_err c vc st vs wt g n w hn hc hsm hs hsl (by rw [h]; exact hd); rwa [h] at this,
   fun vc vs vw n w hn hc hs _ => proveBlend_err c vc st vs wt g ws vw n w hn hc hsm hs hsl (by rw [h]; exact hd)⟩
theorem bl_facts {c : Ce} {st : List Int} {wt g : Int} (h : blendOk c st wt g = true) : st.length = c.heaps.length ∧ (∀ x ∈ st, 0 ≤ x ∧ x ≤ 30) ∧ (1 ≤ wt ∧ wt ≤ 90) ∧ 0 ≤ g ∧ g ≤ 100 := by
  simp only [blendOk, weightsB, Bool.and_eq_true, beq_iff_eq, List.all_eq_true, isW, within_iff] at h
  exact ⟨h.1.1.1, h.1.1.2, h.1.2, h.2⟩
theorem pb_ok {c : Ce} (hsm : Small c) {st ws : List Int} (hwl : ws.length ≤ 1000) {wt g : Int} (he : askErr c (blendOk c st wt g) = 0) : PbIs c st wt g ws (isBlendR (truthsR c) st wt g ws) := fun vc vs vw n w hn hc hs hw => by
  obtain ⟨hf, hok, -⟩ := askErr_zero he
  obtain ⟨f1, f2, f3, f4⟩ := bl_facts hok
  obtain ⟨⟨g1, g2, g3, -⟩, -⟩ := (fault_good hf).1.facts
  refine proveBlend_go c vc st vs wt g ws vw n w hn hc hsm hs (by omega) hw hwl he _ (fun h0 => ?_) (fun h0 => ?_) (fun k hk h0 => ?_) (fun h0 h1 h2 => ?_)
  · cases e : isBlendR (truthsR c) st wt g ws
    · rfl
    · obtain ⟨i1, -, -⟩ := isBlendR_iff.1 e
      have hst : st.all isW = true := List.all_eq_true.2 fun x hx => within_iff.2 (f2 x hx)
      obtain ⟨j1, j2, -⟩ := (inStock_iff st ws hst).1 i1
      rw [weightsB, j2, Bool.and_true, beq_eq_false_iff_ne] at h0
      exact absurd (j1.trans f1) h0
  · cases e : isBlendR (truthsR c) st wt g ws
    · rfl
    · exact absurd (isBlendR_iff.1 e).2.1 h0
  · cases e : isBlendR (truthsR c) st wt g ws
    · rfl
    · have := (((inStock_idx st ws).1 (isBlendR_iff.1 e).1).2 k hk).2
      omega
  · simp only [weightsB, Bool.and_eq_true, beq_iff_eq, List.all_eq_true, isW, within_iff] at h0
    have hin : inStock st ws = true := (inStock_idx st ws).2 ⟨h0.1.trans f1.symm, fun i hi => ⟨by rw [← getD_at hi]; exact (h0.2 _ (List.getElem_mem hi)).1, h2 i hi⟩⟩
    rw [Bool.eq_iff_iff, isBlendR_iff]
    have hk := okB_iff hf f4.2 (ws := ws) h0.1
    unfold okB at hk
    rw [hk]
    exact ⟨fun h => h.2.2, fun h => ⟨hin, h1, h⟩⟩
theorem pick_is {c : Ce} (hf : fault c = 0) {g wt : Int} (hg : g ≤ 100) {st : List Int} (hst : st.length = c.heaps.length) :
    (∀ t, Best (fun ws => isBlendR (truthsR c) st wt g ws = true) t → pickB (okB (truthsOf c []) g) st wt [] = some t) ∧ ((∀ t, isBlendR (truthsR c) st wt g t = false) → pickB (okB (truthsOf c []) g) st wt [] = none) := by
  obtain ⟨h1, h2⟩ := pick_best hf (wt := wt) hg hst
  cases hr : pickB (okB (truthsOf c []) g) st wt [] with
  | none => exact ⟨fun t ht => (by have h3 := h2 hr t; rw [ht.good] at h3; cases h3), fun _ => rfl⟩
  | some r => exact ⟨fun t ht => (by rw [(h1 r hr).unique ht]), fun h => (by have h3 := (h1 r hr).good; rw [h r] at h3; cases h3)⟩

set_option maxHeartbeats 16000000 in
theorem CaskBlends_walk (c : Ce) (v : Value) {w : World} (h : CeV (Lt w.heap.size) w v c) (st : List Int) (vs : Value) (is : Ints (Lt w.heap.size) w vs st) (wt : Int) (_ : -9223372036854775808 ≤ wt ∧ wt ≤ 9223372036854775807) (g : Int) (_ : -9223372036854775808 ≤ g ∧ g ≤ 9223372036854775807) (ws : List Int) (vw : Value) (iw : Ints (Lt w.heap.size) w vw ws) :
    Calls Try.prog 14 #[v, vs, .int .i64 wt, .int .i64 g, vw] w (RetT w) := by
  have is' := is
  have iw' := iw
  obtain ⟨sa, sc, rfl, -, -⟩ := is.open1
  obtain ⟨wa, wc, rfl, -, -⟩ := iw.open1
  have h' := h
  obtain ⟨ha, hc, ka, kc, ta, tc, rfl, hp1, hp2, hp3⟩ := h.open
  have HOP := hid (And.intro hp1 (And.intro hp2 hp3))
  clear hp1 hp2 hp3
  obtain ⟨W, hW⟩ : ∃ W, W = w.alloc (Obj.cells #[.slice ha c.heaps.length hc, .slice ka c.casks.length kc, .slice ta c.trials.length tc] 26) := ⟨_, rfl⟩
  have hWs : W.heap.size = w.heap.size + 1 := by rw [hW]; simp
  have hWb : Below w.heap.size w W := by rw [hW]; exact below_alloc1 (Nat.le_refl _) _
  have hWr : W.heap[w.heap.size]? = some (.cells #[.slice ha c.heaps.length hc, .slice ka c.casks.length kc, .slice ta c.trials.length tc] 26 (0, 0)) := by rw [hW]; exact heap_new _ _
  have HBOX := hid (fun w1 (hb : Below W.heap.size W w1) => (hb.block w.heap.size (by omega)).trans hWr : ∀ w1, Below W.heap.size W w1 → w1.heap[w.heap.size]? = _)
  have HCE := hid (fun w1 (hb : Below W.heap.size W w1) => h'.below (hWb.trans (hb.mono (by omega)) |>.mono (Nat.le_refl _)) : ∀ w1, Below W.heap.size W w1 → CeV (Lt _) w1 _ c)
  clear hWr h' h
  have HSV := hid (fun w1 (hb : Below W.heap.size W w1) => is'.below (hWb.trans (hb.mono (by omega))) : ∀ w1, Below W.heap.size W w1 → Ints (Lt w.heap.size) w1 _ st)
  have HWV := hid (fun w1 (hb : Below W.heap.size W w1) => iw'.below (hWb.trans (hb.mono (by omega))) : ∀ w1, Below W.heap.size W w1 → Ints (Lt w.heap.size) w1 _ ws)
  obtain ⟨tb, htb⟩ : ∃ tb, tb = thinB c := ⟨_, rfl⟩
  have HTB := hid htb
  clear htb HOP is iw is' iw'
  cases tb with
  | false =>
    go_enter Try.func14, Try.ntmps14
    go_wp2_with fail
    rw [← hW]
    clear hW
    refine (thin_hidB c HTB _ w.heap.size W (by omega) (HCE.out W (Below.refl _ _))).mono ?_
    rintro e w1 ⟨rfl, hb1⟩
    have HB1 := hid hb1
    have hs1 := hb1.size
    clear hb1
    go_wp2_with (go_at_call 20; refine (awake_any _).mono ?_; rintro e wz ⟨rfl, hbz⟩)
    go_ret
    exact ⟨rfl, hWb.trans ((below_after HB1.out hbz (Nat.le_refl _)).mono (by omega))⟩
  | true =>
    have HSM := hid (thin_small HTB.out.symm)
    by_cases hlong : 6 < st.length
    · have hlong' : (6 : Int) < (st.length : Int) := by omega
      go_enter Try.func14, Try.ntmps14
      go_wp2_with fail
      rw [← hW]
      clear hW
      refine (thin_hidB c HTB _ w.heap.size W (by omega) (HCE.out W (Below.refl _ _))).mono ?_
      rintro e w1 ⟨rfl, hb1⟩
      have HB1 := hid hb1
      have hs1 := hb1.size
      clear hb1
      go_wp2_with (go_at_call 20; refine (awake_any _).mono ?_; rintro e wz ⟨rfl, hbz⟩)
      go_ret
      exact ⟨rfl, hWb.trans ((below_after HB1.out hbz (Nat.le_refl _)).mono (by omega))⟩
    · by_cases hlongw : 6 < ws.length
      · have hlong' : (6 : Int) < (ws.length : Int) := by omega
        have hnl : ¬ (6 : Int) < (st.length : Int) := by omega
        go_enter Try.func14, Try.ntmps14
        go_wp2_with fail
        rw [← hW]
        clear hW
        refine (thin_hidB c HTB _ w.heap.size W (by omega) (HCE.out W (Below.refl _ _))).mono ?_
        rintro e w1 ⟨rfl, hb1⟩
        have HB1 := hid hb1
        have hs1 := hb1.size
        clear hb1
        go_wp2_with (go_at_call 20; refine (awake_any _).mono ?_; rintro e wz ⟨rfl, hbz⟩)
        go_ret
        exact ⟨rfl, hWb.trans ((below_after HB1.out hbz (Nat.le_refl _)).mono (by omega))⟩
      · have hnl : ¬ (6 : Int) < (st.length : Int) := by omega
        have hnlw : ¬ (6 : Int) < (ws.length : Int) := by omega
        clear hlong hlongw
        obtain ⟨f, hfc⟩ : ∃ f, f = fault c := ⟨_, rfl⟩
        have HFA := hid hfc
        by_cases hf : f = 0
        · subst hf
          have hgood := (fault_good hfc.symm).1
          have HG := hid hgood
          obtain ⟨⟨g1, g2, g3, -⟩, -⟩ := hgood.facts
          obtain ⟨b1, hb1⟩ : ∃ b1, b1 = weightsB c.heaps.length st := ⟨_, rfl⟩
          obtain ⟨b2, hb2⟩ : ∃ b2, b2 = within wt 1 90 := ⟨_, rfl⟩
          obtain ⟨b3, hb3⟩ : ∃ b3, b3 = within g 0 100 := ⟨_, rfl⟩
          have HW1 := hid hb1
          have HW2 := hid hb2
          have HW3 := hid hb3
          have hok : blendOk c st wt g = (b1 && b2 && b3) := by rw [hb1, hb2, hb3]; rfl
          by_cases hbad : (b1 && b2 && b3) = true
          · simp only [Bool.and_eq_true] at hbad
            obtain ⟨⟨rfl, rfl⟩, rfl⟩ := hbad
            have hok' : blendOk c st wt g = true := by rw [hok]; rfl
            obtain ⟨f1, f2, f3, f4⟩ := bl_facts hok'
            by_cases hT : truthsOf c [] = []
            · have hae : askErr c true = 11 := by unfold askErr; simp [← hfc, hT]
              have HBO := hid (show BoundsAre c [] [] 11 ∧ SureIs c [] 11 by have := bounds_are_err HSM.out (c := c) (by rw [hae]; decide); rwa [hae] at this)
              have HBP := hid (bl_err HSM.out (st := st) (by omega) (wt := wt) (g := g) (d := 11) (by rw [hok']; exact hae) (by decide) ws)
              clear hfc hb1 hb2 hb3 hok hok' hT hae hgood f1 f2 f3 f4
              go_enter Try.func14, Try.ntmps14
              go_wp2_with fail
              rw [← hW]
              clear hW
              refine (thin_hidB c HTB _ w.heap.size W (by omega) (HCE.out W (Below.refl _ _))).mono ?_
              rintro e w1 ⟨rfl, hb1⟩
              have HB1 := hid hb1
              have hs1 := hb1.size
              clear hb1
              have j0 := cell_of_row (HBOX.out w1 HB1.out) 0
              have j1 := cell_of_row (HBOX.out w1 HB1.out) 1
              have j2 := cell_of_row (HBOX.out w1 HB1.out) 2
              simp only [List.getElem?_toArray, List.getElem?_cons_zero, List.getElem?_cons_succ] at j0 j1 j2
              go_wp2_with fail
              refine (CellarL_any c _ w.heap.size w1 (by omega) (HCE.out w1 HB1.out) HSM.out).mono ?_
              rintro e w2 ⟨v2, rfl, hc2, hb2⟩
              have HB2 := hid (below_after HB1.out hb2 (Nat.le_refl _))
              have hs2 := HB2.out.size
              have hd2 := hb2.size
              clear hb2 j0 j1 j2
              obtain ⟨_, _, _, _, _, _, rfl, -⟩ := id hc2.open
              go_wp2_with fail
              refine (list_any st _ w.heap.size w2 (by omega) (HSV.out w2 HB2.out) (by omega)).mono ?_
              rintro e w3 ⟨v3, rfl, ho3, hb3⟩
              have HB3 := hid (below_after HB2.out hb3 (Nat.le_refl _))
              have hs3 := HB3.out.size
              have hd3 := hb3.size
              have HI_3 := hid hb3
              clear hb3
              have hi3 : Ints (Lt w3.heap.size) w3 v3 st := ho3.slLt encI_length
              obtain ⟨_, _, rfl, -, -⟩ := id hi3.open1
              clear ho3
              have hc3 := (hc2.below HI_3.out).le hd3
              go_wp2_with fail
              refine (HBP.out.1 _ _ _ w3 (Nat.le_refl _) hc3 hi3).mono ?_
              rintro e w4 ⟨v4, rfl, hi4, hb4⟩
              have HB4 := hid (below_after HB3.out hb4 (Nat.le_refl _))
              have hs4 := HB4.out.size
              have hd4 := hb4.size
              clear hb4
              obtain ⟨xa4, xc4, rfl, -, -⟩ := id hi4.open1
              have HI4 := hid hi4
              have HL4 := hid (Below.refl w4.heap.size w4)
              clear hc2 hc3 hi3 hi4
              have j0 := cell_of_row (HBOX.out w4 HB4.out) 0
              have j1 := cell_of_row (HBOX.out w4 HB4.out) 1
              have j2 := cell_of_row (HBOX.out w4 HB4.out) 2
              simp only [List.getElem?_toArray, List.getElem?_cons_zero, List.getElem?_cons_succ] at j0 j1 j2
              go_wp2_with fail
              refine (CellarL_any c _ w.heap.size w4 (by omega) (HCE.out w4 HB4.out) HSM.out).mono ?_
              rintro e w5 ⟨v5, rfl, hc5, hb5⟩
              have HB5 := hid (below_after HB4.out hb5 (Nat.le_refl _))
              have hs5 := HB5.out.size
              have hd5 := hb5.size
              have HL5 := hid (below_after HL4.out hb5 (Nat.le_refl _))
              have zHL5 := HL5.out.size
              clear hb5 j0 j1 j2
              obtain ⟨_, _, _, _, _, _, rfl, -⟩ := id hc5.open
              go_wp2_with fail
              refine (list_any st _ w.heap.size w5 (by omega) (HSV.out w5 HB5.out) (by omega)).mono ?_
              rintro e w6 ⟨v6, rfl, ho6, hb6⟩
              have HB6 := hid (below_after HB5.out hb6 (Nat.le_refl _))
              have hs6 := HB6.out.size
              have hd6 := hb6.size
              have HL6 := hid (below_after HL5.out hb6 (Nat.le_refl _))
              have zHL6 := HL6.out.size
              have HI_6 := hid hb6
              clear hb6
              have hi6 : Ints (Lt w6.heap.size) w6 v6 st := ho6.slLt encI_length
              obtain ⟨_, _, rfl, -, -⟩ := id hi6.open1
              have hc6 := (hc5.below HI_6.out).le hd6
              clear ho6 hc5
              go_wp2_with fail
              refine (list_any ws _ w.heap.size w6 (by omega) (HWV.out w6 HB6.out) (by omega)).mono ?_
              rintro e w7 ⟨v7, rfl, ho7, hb7⟩
              have HB7 := hid (below_after HB6.out hb7 (Nat.le_refl _))
              have hs7 := HB7.out.size
              have hd7 := hb7.size
              have HL7 := hid (below_after HL6.out hb7 (Nat.le_refl _))
              have zHL7 := HL7.out.size
              have HI_7 := hid hb7
              clear hb7
              have hi7 : Ints (Lt w7.heap.size) w7 v7 ws := ho7.slLt encI_length
              obtain ⟨_, _, rfl, -, -⟩ := id hi7.open1
              have hc7 := (hc6.below HI_7.out).le hd7
              have hi6' := (hi6.below HI_7.out).le hd7
              clear ho7 hc6 hi6
              go_wp2_with fail
              refine (HBP.out.2 _ _ _ _ w7 (Nat.le_refl _) hc7 hi6' hi7).mono ?_
              rintro e w8 ⟨rfl, hb8⟩
              have HB8 := hid (below_after HB7.out hb8 (Nat.le_refl _))
              have hs8 := HB8.out.size
              have hd8 := hb8.size
              have HL8 := hid (below_after HL7.out hb8 (Nat.le_refl _))
              have zHL8 := HL8.out.size
              clear hb8
              clear hc7 hi6' hi7
              have j0 := cell_of_row (HBOX.out w8 HB8.out) 0
              have j1 := cell_of_row (HBOX.out w8 HB8.out) 1
              have j2 := cell_of_row (HBOX.out w8 HB8.out) 2
              simp only [List.getElem?_toArray, List.getElem?_cons_zero, List.getElem?_cons_succ] at j0 j1 j2
              go_wp2_with fail
              refine (HBO.out.2 _ w.heap.size w8 (by omega) (HCE.out w8 HB8.out)).mono ?_
              rintro e w9 ⟨v9, rfl, hl9, hb9⟩
              have HB9 := hid (below_after HB8.out hb9 (Nat.le_refl _))
              have hs9 := HB9.out.size
              have hd9 := hb9.size
              have HL9 := hid (below_after HL8.out hb9 (Nat.le_refl _))
              have zHL9 := HL9.out.size
              clear hb9 j0 j1 j2
              obtain ⟨la9, lc9, rfl, -, -⟩ := id hl9.open
              have HL9' := hid hl9
              have HM9 := hid (Below.refl w9.heap.size w9)
              clear hl9
              have j0 := cell_of_row (HBOX.out w9 HB9.out) 0
              have j1 := cell_of_row (HBOX.out w9 HB9.out) 1
              have j2 := cell_of_row (HBOX.out w9 HB9.out) 2
              simp only [List.getElem?_toArray, List.getElem?_cons_zero, List.getElem?_cons_succ] at j0 j1 j2
              go_wp2_with fail
              refine (faultL_hid c HFA _ w.heap.size w9 (by omega) (HCE.out w9 HB9.out) HSM.out).mono ?_
              rintro e w10 ⟨rfl, hb10⟩
              have HB10 := hid (below_after HB9.out hb10 (Nat.le_refl _))
              have hs10 := HB10.out.size
              have hd10 := hb10.size
              have HL10 := hid (below_after HL9.out hb10 (Nat.le_refl _))
              have zHL10 := HL10.out.size
              have HM10 := hid (below_after HM9.out hb10 (Nat.le_refl _))
              have zHM10 := HM10.out.size
              clear hb10 j0 j1 j2
              have j0 := cell_of_row (HBOX.out w10 HB10.out) 0
              have j1 := cell_of_row (HBOX.out w10 HB10.out) 1
              have j2 := cell_of_row (HBOX.out w10 HB10.out) 2
              simp only [List.getElem?_toArray, List.getElem?_cons_zero, List.getElem?_cons_succ] at j0 j1 j2
              go_wp2_with fail
              refine (isStock_hid _ _ _ _ _ st HW1 _ w.heap.size w10 (by omega) (by omega) (HSV.out w10 HB10.out) (by omega)).mono ?_
              rintro e w11 ⟨rfl, hb11⟩
              have HB11 := hid (below_after HB10.out hb11 (Nat.le_refl _))
              have HM11 := hid (below_after HM10.out hb11 (Nat.le_refl _))
              have HL11 := hid (below_after HL10.out hb11 (Nat.le_refl _))
              have hs11 := HB11.out.size
              have hd11 := hb11.size
              clear hb11 j0 j1 j2
              go_wp2_with fail
              refine (inR_hid _ _ _ HW2 _).mono ?_
              rintro e w' ⟨rfl, rfl⟩
              go_wp2_with fail
              refine (inR_hid _ _ _ HW3 _).mono ?_
              rintro e w' ⟨rfl, rfl⟩
              go_wp2_with (go_at_call 20; refine (awake_any _).mono ?_; rintro e wz ⟨rfl, hbz⟩)
              go_ret
              exact ⟨rfl, hWb.trans ((below_after HB11.out hbz (Nat.le_refl _)).mono (by omega))⟩
            · have hae : askErr c true = 0 := by unfold askErr; simp [← hfc, hT]
              have hae2 : askErr c (blendOk c st wt g) = 0 := by rw [hok']; exact hae
              have HBO := hid (bounds_are_ok HSM.out hae)
              have hfit := fun (l : List Int) (hl : l ∈ truthsR c) => fit_listed hgood (mem_truthsOf.1 ((mem_truthsR hfc.symm).1 hl)).1
              have htm : (truthsR c).length ≤ 100000 := by
                have h1 := truthsN_length c (manyR c).toNat
                have h2 : truthsR c = truthsN c (manyR c).toNat := rfl
                have h3 := (manyR_eq hfc.symm).2.1
                rw [h2]; omega
              obtain ⟨p1, p2⟩ := pick_is hfc.symm (wt := wt) (g := g) f4.2 f1
              have hbl := fun (vc vs : Value) (n : Nat) (w : World) (hn : n ≤ w.heap.size) (hc : CeV (Lt n) w vc c) (hs : Ints (Lt n) w vs st) => Blend_go c vc st vs wt g n w hn hc HSM.out hs (by omega) hae2
              have hpb := pb_ok HSM.out (ws := ws) (by omega) hae2
              obtain ⟨r, hr⟩ : ∃ r, r = pickB (okB (truthsOf c []) g) st wt [] := ⟨_, rfl⟩
              rw [← hr] at p1 p2 hbl
              obtain ⟨b, hb⟩ : ∃ b, b = isBlendR (truthsR c) st wt g ws := ⟨_, rfl⟩
              rw [← hb] at hpb
              have HIB := hid hb
              have HBP := hid (show BlIs c st wt g (r.getD []) (foundErr r) ∧ PbIs c st wt g ws b from ⟨hbl, hpb⟩)
              have HPK := hid (And.intro p1 p2)
              have HRL := hid (show ∀ t, r = some t → t.length ≤ 1000 from fun t ht => by
                have := (pick_best hfc.symm (wt := wt) (g := g) f4.2 f1).1 t (by rw [← hr]; exact ht)
                have := ((inStock_idx st t).1 (isBlendR_iff.1 this.good).1).1
                omega)
              obtain ⟨T, hTT⟩ : ∃ T, T = truthsR c := ⟨_, rfl⟩
              rw [← hTT] at hfit htm HBO HIB HPK
              have HFIT := hid hfit
              have HF2 := hid (And.intro f1 (And.intro f2 f3))
              have hbb : (b != b) = false := by cases b <;> rfl
              clear hfc hb1 hb2 hb3 hok hok' hT hae hae2 hgood f1 f2 f3 f4 p1 p2 hbl hpb hr hb hTT hfit
              cases r with
              | none =>
                go_enter Try.func14, Try.ntmps14
                go_wp2_with fail
                rw [← hW]
                clear hW
                refine (thin_hidB c HTB _ w.heap.size W (by omega) (HCE.out W (Below.refl _ _))).mono ?_
                rintro e w1 ⟨rfl, hb1⟩
                have HB1 := hid hb1
                have hs1 := hb1.size
                clear hb1
                have j0 := cell_of_row (HBOX.out w1 HB1.out) 0
                have j1 := cell_of_row (HBOX.out w1 HB1.out) 1
                have j2 := cell_of_row (HBOX.out w1 HB1.out) 2
                simp only [List.getElem?_toArray, List.getElem?_cons_zero, List.getElem?_cons_succ] at j0 j1 j2
                go_wp2_with fail
                refine (CellarL_any c _ w.heap.size w1 (by omega) (HCE.out w1 HB1.out) HSM.out).mono ?_
                rintro e w2 ⟨v2, rfl, hc2, hb2⟩
                have HB2 := hid (below_after HB1.out hb2 (Nat.le_refl _))
                have hs2 := HB2.out.size
                have hd2 := hb2.size
                clear hb2 j0 j1 j2
                obtain ⟨_, _, _, _, _, _, rfl, -⟩ := id hc2.open
                go_wp2_with fail
                refine (list_any st _ w.heap.size w2 (by omega) (HSV.out w2 HB2.out) (by omega)).mono ?_
                rintro e w3 ⟨v3, rfl, ho3, hb3⟩
                have HB3 := hid (below_after HB2.out hb3 (Nat.le_refl _))
                have hs3 := HB3.out.size
                have hd3 := hb3.size
                have HI_3 := hid hb3
                clear hb3
                have hi3 : Ints (Lt w3.heap.size) w3 v3 st := ho3.slLt encI_length
                obtain ⟨_, _, rfl, -, -⟩ := id hi3.open1
                clear ho3
                have hc3 := (hc2.below HI_3.out).le hd3
                go_wp2_with fail
                refine (HBP.out.1 _ _ _ w3 (Nat.le_refl _) hc3 hi3).mono ?_
                rintro e w4 ⟨v4, rfl, hi4, hb4⟩
                have HB4 := hid (below_after HB3.out hb4 (Nat.le_refl _))
                have hs4 := HB4.out.size
                have hd4 := hb4.size
                clear hb4
                obtain ⟨xa4, xc4, rfl, -, -⟩ := id hi4.open1
                have HI4 := hid hi4
                have HL4 := hid (Below.refl w4.heap.size w4)
                clear hc2 hc3 hi3 hi4
                have j0 := cell_of_row (HBOX.out w4 HB4.out) 0
                have j1 := cell_of_row (HBOX.out w4 HB4.out) 1
                have j2 := cell_of_row (HBOX.out w4 HB4.out) 2
                simp only [List.getElem?_toArray, List.getElem?_cons_zero, List.getElem?_cons_succ] at j0 j1 j2
                go_wp2_with fail
                refine (CellarL_any c _ w.heap.size w4 (by omega) (HCE.out w4 HB4.out) HSM.out).mono ?_
                rintro e w5 ⟨v5, rfl, hc5, hb5⟩
                have HB5 := hid (below_after HB4.out hb5 (Nat.le_refl _))
                have hs5 := HB5.out.size
                have hd5 := hb5.size
                have HL5 := hid (below_after HL4.out hb5 (Nat.le_refl _))
                have zHL5 := HL5.out.size
                clear hb5 j0 j1 j2
                obtain ⟨_, _, _, _, _, _, rfl, -⟩ := id hc5.open
                go_wp2_with fail
                refine (list_any st _ w.heap.size w5 (by omega) (HSV.out w5 HB5.out) (by omega)).mono ?_
                rintro e w6 ⟨v6, rfl, ho6, hb6⟩
                have HB6 := hid (below_after HB5.out hb6 (Nat.le_refl _))
                have hs6 := HB6.out.size
                have hd6 := hb6.size
                have HL6 := hid (below_after HL5.out hb6 (Nat.le_refl _))
                have zHL6 := HL6.out.size
                have HI_6 := hid hb6
                clear hb6
                have hi6 : Ints (Lt w6.heap.size) w6 v6 st := ho6.slLt encI_length
                obtain ⟨_, _, rfl, -, -⟩ := id hi6.open1
                have hc6 := (hc5.below HI_6.out).le hd6
                clear ho6 hc5
                go_wp2_with fail
                refine (list_any ws _ w.heap.size w6 (by omega) (HWV.out w6 HB6.out) (by omega)).mono ?_
                rintro e w7 ⟨v7, rfl, ho7, hb7⟩
                have HB7 := hid (below_after HB6.out hb7 (Nat.le_refl _))
                have hs7 := HB7.out.size
                have hd7 := hb7.size
                have HL7 := hid (below_after HL6.out hb7 (Nat.le_refl _))
                have zHL7 := HL7.out.size
                have HI_7 := hid hb7
                clear hb7
                have hi7 : Ints (Lt w7.heap.size) w7 v7 ws := ho7.slLt encI_length
                obtain ⟨_, _, rfl, -, -⟩ := id hi7.open1
                have hc7 := (hc6.below HI_7.out).le hd7
                have hi6' := (hi6.below HI_7.out).le hd7
                clear ho7 hc6 hi6
                go_wp2_with fail
                refine (HBP.out.2 _ _ _ _ w7 (Nat.le_refl _) hc7 hi6' hi7).mono ?_
                rintro e w8 ⟨rfl, hb8⟩
                have HB8 := hid (below_after HB7.out hb8 (Nat.le_refl _))
                have hs8 := HB8.out.size
                have hd8 := hb8.size
                have HL8 := hid (below_after HL7.out hb8 (Nat.le_refl _))
                have zHL8 := HL8.out.size
                clear hb8
                clear hc7 hi6' hi7
                have j0 := cell_of_row (HBOX.out w8 HB8.out) 0
                have j1 := cell_of_row (HBOX.out w8 HB8.out) 1
                have j2 := cell_of_row (HBOX.out w8 HB8.out) 2
                simp only [List.getElem?_toArray, List.getElem?_cons_zero, List.getElem?_cons_succ] at j0 j1 j2
                go_wp2_with fail
                refine (HBO.out.2 _ w.heap.size w8 (by omega) (HCE.out w8 HB8.out)).mono ?_
                rintro e w9 ⟨v9, rfl, hl9, hb9⟩
                have HB9 := hid (below_after HB8.out hb9 (Nat.le_refl _))
                have hs9 := HB9.out.size
                have hd9 := hb9.size
                have HL9 := hid (below_after HL8.out hb9 (Nat.le_refl _))
                have zHL9 := HL9.out.size
                clear hb9 j0 j1 j2
                obtain ⟨la9, lc9, rfl, -, -⟩ := id hl9.open
                have HL9' := hid hl9
                have HM9 := hid (Below.refl w9.heap.size w9)
                clear hl9
                have j0 := cell_of_row (HBOX.out w9 HB9.out) 0
                have j1 := cell_of_row (HBOX.out w9 HB9.out) 1
                have j2 := cell_of_row (HBOX.out w9 HB9.out) 2
                simp only [List.getElem?_toArray, List.getElem?_cons_zero, List.getElem?_cons_succ] at j0 j1 j2
                go_wp2_with fail
                refine (faultL_hid c HFA _ w.heap.size w9 (by omega) (HCE.out w9 HB9.out) HSM.out).mono ?_
                rintro e w10 ⟨rfl, hb10⟩
                have HB10 := hid (below_after HB9.out hb10 (Nat.le_refl _))
                have hs10 := HB10.out.size
                have hd10 := hb10.size
                have HL10 := hid (below_after HL9.out hb10 (Nat.le_refl _))
                have zHL10 := HL10.out.size
                have HM10 := hid (below_after HM9.out hb10 (Nat.le_refl _))
                have zHM10 := HM10.out.size
                clear hb10 j0 j1 j2
                have j0 := cell_of_row (HBOX.out w10 HB10.out) 0
                have j1 := cell_of_row (HBOX.out w10 HB10.out) 1
                have j2 := cell_of_row (HBOX.out w10 HB10.out) 2
                simp only [List.getElem?_toArray, List.getElem?_cons_zero, List.getElem?_cons_succ] at j0 j1 j2
                go_wp2_with fail
                refine (isStock_hid _ _ _ _ _ st HW1 _ w.heap.size w10 (by omega) (by omega) (HSV.out w10 HB10.out) (by omega)).mono ?_
                rintro e w11 ⟨rfl, hb11⟩
                have HB11 := hid (below_after HB10.out hb11 (Nat.le_refl _))
                have HM11 := hid (below_after HM10.out hb11 (Nat.le_refl _))
                have HL11 := hid (below_after HL10.out hb11 (Nat.le_refl _))
                have hs11 := HB11.out.size
                have hd11 := hb11.size
                clear hb11 j0 j1 j2
                go_wp2_with fail
                refine (inR_hid _ _ _ HW2 _).mono ?_
                rintro e w' ⟨rfl, rfl⟩
                go_wp2_with fail
                refine (inR_hid _ _ _ HW3 _).mono ?_
                rintro e w' ⟨rfl, rfl⟩
                have j0 := cell_of_row (HBOX.out w11 HB11.out) 0
                have j1 := cell_of_row (HBOX.out w11 HB11.out) 1
                have j2 := cell_of_row (HBOX.out w11 HB11.out) 2
                simp only [List.getElem?_toArray, List.getElem?_cons_zero, List.getElem?_cons_succ] at j0 j1 j2
                go_wp2_with fail
                refine (isBlendRf_any c T HFIT.out htm g2 st ws wt g HIB HF2.out.2.1 HF2.out.1 (by omega) HF2.out.2.2.1 _ _ _ _ w11.heap.size w11 (Nat.le_refl _) ((HCE.out w11 HB11.out).le (by omega)) ((HL9'.out.below HM11.out).le (by omega)) ((HSV.out w11 HB11.out).le (by omega)) ((HWV.out w11 HB11.out).le (by omega))).mono ?_
                rintro e w12 ⟨rfl, hb12⟩
                have HB12 := hid (below_after HB11.out hb12 (Nat.le_refl _))
                have HM12 := hid (below_after HM11.out hb12 (Nat.le_refl _))
                have HL12 := hid (below_after HL11.out hb12 (Nat.le_refl _))
                have hs12 := HB12.out.size
                have hd12 := hb12.size
                clear hb12 j0 j1 j2
                have j0 := cell_of_row (HBOX.out w12 HB12.out) 0
                have j1 := cell_of_row (HBOX.out w12 HB12.out) 1
                have j2 := cell_of_row (HBOX.out w12 HB12.out) 2
                simp only [List.getElem?_toArray, List.getElem?_cons_zero, List.getElem?_cons_succ] at j0 j1 j2
                go_wp2_with fail
                refine (blendRf_any c T HFIT.out htm g2 g1 st wt g HF2.out.2.1 HF2.out.1 HF2.out.2.2.1 (by have := HF2.out.2.2.2; omega) _ HPK.out.1 (by first | exact HPK.out.2 | exact fun _ => rfl) _ _ _ w12.heap.size w12 (Nat.le_refl _) ((HCE.out w12 HB12.out).le (by omega)) ((HL9'.out.below HM12.out).le (by omega)) ((HSV.out w12 HB12.out).le (by omega))).mono ?_
                rintro e w13 ⟨v13, rfl, hi13, hb13⟩
                have HB13 := hid (below_after HB12.out hb13 (Nat.le_refl _))
                have HL13 := hid (below_after HL12.out hb13 (Nat.le_refl _))
                have hs13 := HB13.out.size
                have hd13 := hb13.size
                clear hb13 j0 j1 j2
                obtain ⟨_, _, rfl, -, -⟩ := id hi13.open1
                clear hi13
                go_wp2_with (go_at_call 20; refine (awake_any _).mono ?_; rintro e wz ⟨rfl, hbz⟩)
                go_ret
                exact ⟨rfl, hWb.trans ((below_after HB13.out hbz (Nat.le_refl _)).mono (by omega))⟩
              | some t =>
                have htl := HRL.out t rfl
                have HST := hid (show sameB t t = true from sameB_iff.2 rfl)
                simp only [Option.getD_some] at HBP
                go_enter Try.func14, Try.ntmps14
                go_wp2_with fail
                rw [← hW]
                clear hW
                refine (thin_hidB c HTB _ w.heap.size W (by omega) (HCE.out W (Below.refl _ _))).mono ?_
                rintro e w1 ⟨rfl, hb1⟩
                have HB1 := hid hb1
                have hs1 := hb1.size
                clear hb1
                have j0 := cell_of_row (HBOX.out w1 HB1.out) 0
                have j1 := cell_of_row (HBOX.out w1 HB1.out) 1
                have j2 := cell_of_row (HBOX.out w1 HB1.out) 2
                simp only [List.getElem?_toArray, List.getElem?_cons_zero, List.getElem?_cons_succ] at j0 j1 j2
                go_wp2_with fail
                refine (CellarL_any c _ w.heap.size w1 (by omega) (HCE.out w1 HB1.out) HSM.out).mono ?_
                rintro e w2 ⟨v2, rfl, hc2, hb2⟩
                have HB2 := hid (below_after HB1.out hb2 (Nat.le_refl _))
                have hs2 := HB2.out.size
                have hd2 := hb2.size
                clear hb2 j0 j1 j2
                obtain ⟨_, _, _, _, _, _, rfl, -⟩ := id hc2.open
                go_wp2_with fail
                refine (list_any st _ w.heap.size w2 (by omega) (HSV.out w2 HB2.out) (by omega)).mono ?_
                rintro e w3 ⟨v3, rfl, ho3, hb3⟩
                have HB3 := hid (below_after HB2.out hb3 (Nat.le_refl _))
                have hs3 := HB3.out.size
                have hd3 := hb3.size
                have HI_3 := hid hb3
                clear hb3
                have hi3 : Ints (Lt w3.heap.size) w3 v3 st := ho3.slLt encI_length
                obtain ⟨_, _, rfl, -, -⟩ := id hi3.open1
                clear ho3
                have hc3 := (hc2.below HI_3.out).le hd3
                go_wp2_with fail
                refine (HBP.out.1 _ _ _ w3 (Nat.le_refl _) hc3 hi3).mono ?_
                rintro e w4 ⟨v4, rfl, hi4, hb4⟩
                have HB4 := hid (below_after HB3.out hb4 (Nat.le_refl _))
                have hs4 := HB4.out.size
                have hd4 := hb4.size
                clear hb4
                obtain ⟨xa4, xc4, rfl, -, -⟩ := id hi4.open1
                have HI4 := hid hi4
                have HL4 := hid (Below.refl w4.heap.size w4)
                clear hc2 hc3 hi3 hi4
                have j0 := cell_of_row (HBOX.out w4 HB4.out) 0
                have j1 := cell_of_row (HBOX.out w4 HB4.out) 1
                have j2 := cell_of_row (HBOX.out w4 HB4.out) 2
                simp only [List.getElem?_toArray, List.getElem?_cons_zero, List.getElem?_cons_succ] at j0 j1 j2
                go_wp2_with fail
                refine (CellarL_any c _ w.heap.size w4 (by omega) (HCE.out w4 HB4.out) HSM.out).mono ?_
                rintro e w5 ⟨v5, rfl, hc5, hb5⟩
                have HB5 := hid (below_after HB4.out hb5 (Nat.le_refl _))
                have hs5 := HB5.out.size
                have hd5 := hb5.size
                have HL5 := hid (below_after HL4.out hb5 (Nat.le_refl _))
                have zHL5 := HL5.out.size
                clear hb5 j0 j1 j2
                obtain ⟨_, _, _, _, _, _, rfl, -⟩ := id hc5.open
                go_wp2_with fail
                refine (list_any st _ w.heap.size w5 (by omega) (HSV.out w5 HB5.out) (by omega)).mono ?_
                rintro e w6 ⟨v6, rfl, ho6, hb6⟩
                have HB6 := hid (below_after HB5.out hb6 (Nat.le_refl _))
                have hs6 := HB6.out.size
                have hd6 := hb6.size
                have HL6 := hid (below_after HL5.out hb6 (Nat.le_refl _))
                have zHL6 := HL6.out.size
                have HI_6 := hid hb6
                clear hb6
                have hi6 : Ints (Lt w6.heap.size) w6 v6 st := ho6.slLt encI_length
                obtain ⟨_, _, rfl, -, -⟩ := id hi6.open1
                have hc6 := (hc5.below HI_6.out).le hd6
                clear ho6 hc5
                go_wp2_with fail
                refine (list_any ws _ w.heap.size w6 (by omega) (HWV.out w6 HB6.out) (by omega)).mono ?_
                rintro e w7 ⟨v7, rfl, ho7, hb7⟩
                have HB7 := hid (below_after HB6.out hb7 (Nat.le_refl _))
                have hs7 := HB7.out.size
                have hd7 := hb7.size
                have HL7 := hid (below_after HL6.out hb7 (Nat.le_refl _))
                have zHL7 := HL7.out.size
                have HI_7 := hid hb7
                clear hb7
                have hi7 : Ints (Lt w7.heap.size) w7 v7 ws := ho7.slLt encI_length
                obtain ⟨_, _, rfl, -, -⟩ := id hi7.open1
                have hc7 := (hc6.below HI_7.out).le hd7
                have hi6' := (hi6.below HI_7.out).le hd7
                clear ho7 hc6 hi6
                go_wp2_with fail
                refine (HBP.out.2 _ _ _ _ w7 (Nat.le_refl _) hc7 hi6' hi7).mono ?_
                rintro e w8 ⟨rfl, hb8⟩
                have HB8 := hid (below_after HB7.out hb8 (Nat.le_refl _))
                have hs8 := HB8.out.size
                have hd8 := hb8.size
                have HL8 := hid (below_after HL7.out hb8 (Nat.le_refl _))
                have zHL8 := HL8.out.size
                clear hb8
                clear hc7 hi6' hi7
                have j0 := cell_of_row (HBOX.out w8 HB8.out) 0
                have j1 := cell_of_row (HBOX.out w8 HB8.out) 1
                have j2 := cell_of_row (HBOX.out w8 HB8.out) 2
                simp only [List.getElem?_toArray, List.getElem?_cons_zero, List.getElem?_cons_succ] at j0 j1 j2
                go_wp2_with fail
                refine (HBO.out.2 _ w.heap.size w8 (by omega) (HCE.out w8 HB8.out)).mono ?_
                rintro e w9 ⟨v9, rfl, hl9, hb9⟩
                have HB9 := hid (below_after HB8.out hb9 (Nat.le_refl _))
                have hs9 := HB9.out.size
                have hd9 := hb9.size
                have HL9 := hid (below_after HL8.out hb9 (Nat.le_refl _))
                have zHL9 := HL9.out.size
                clear hb9 j0 j1 j2
                obtain ⟨la9, lc9, rfl, -, -⟩ := id hl9.open
                have HL9' := hid hl9
                have HM9 := hid (Below.refl w9.heap.size w9)
                clear hl9
                have j0 := cell_of_row (HBOX.out w9 HB9.out) 0
                have j1 := cell_of_row (HBOX.out w9 HB9.out) 1
                have j2 := cell_of_row (HBOX.out w9 HB9.out) 2
                simp only [List.getElem?_toArray, List.getElem?_cons_zero, List.getElem?_cons_succ] at j0 j1 j2
                go_wp2_with fail
                refine (faultL_hid c HFA _ w.heap.size w9 (by omega) (HCE.out w9 HB9.out) HSM.out).mono ?_
                rintro e w10 ⟨rfl, hb10⟩
                have HB10 := hid (below_after HB9.out hb10 (Nat.le_refl _))
                have hs10 := HB10.out.size
                have hd10 := hb10.size
                have HL10 := hid (below_after HL9.out hb10 (Nat.le_refl _))
                have zHL10 := HL10.out.size
                have HM10 := hid (below_after HM9.out hb10 (Nat.le_refl _))
                have zHM10 := HM10.out.size
                clear hb10 j0 j1 j2
                have j0 := cell_of_row (HBOX.out w10 HB10.out) 0
                have j1 := cell_of_row (HBOX.out w10 HB10.out) 1
                have j2 := cell_of_row (HBOX.out w10 HB10.out) 2
                simp only [List.getElem?_toArray, List.getElem?_cons_zero, List.getElem?_cons_succ] at j0 j1 j2
                go_wp2_with fail
                refine (isStock_hid _ _ _ _ _ st HW1 _ w.heap.size w10 (by omega) (by omega) (HSV.out w10 HB10.out) (by omega)).mono ?_
                rintro e w11 ⟨rfl, hb11⟩
                have HB11 := hid (below_after HB10.out hb11 (Nat.le_refl _))
                have HM11 := hid (below_after HM10.out hb11 (Nat.le_refl _))
                have HL11 := hid (below_after HL10.out hb11 (Nat.le_refl _))
                have hs11 := HB11.out.size
                have hd11 := hb11.size
                clear hb11 j0 j1 j2
                go_wp2_with fail
                refine (inR_hid _ _ _ HW2 _).mono ?_
                rintro e w' ⟨rfl, rfl⟩
                go_wp2_with fail
                refine (inR_hid _ _ _ HW3 _).mono ?_
                rintro e w' ⟨rfl, rfl⟩
                have j0 := cell_of_row (HBOX.out w11 HB11.out) 0
                have j1 := cell_of_row (HBOX.out w11 HB11.out) 1
                have j2 := cell_of_row (HBOX.out w11 HB11.out) 2
                simp only [List.getElem?_toArray, List.getElem?_cons_zero, List.getElem?_cons_succ] at j0 j1 j2
                go_wp2_with fail
                refine (isBlendRf_any c T HFIT.out htm g2 st ws wt g HIB HF2.out.2.1 HF2.out.1 (by omega) HF2.out.2.2.1 _ _ _ _ w11.heap.size w11 (Nat.le_refl _) ((HCE.out w11 HB11.out).le (by omega)) ((HL9'.out.below HM11.out).le (by omega)) ((HSV.out w11 HB11.out).le (by omega)) ((HWV.out w11 HB11.out).le (by omega))).mono ?_
                rintro e w12 ⟨rfl, hb12⟩
                have HB12 := hid (below_after HB11.out hb12 (Nat.le_refl _))
                have HM12 := hid (below_after HM11.out hb12 (Nat.le_refl _))
                have HL12 := hid (below_after HL11.out hb12 (Nat.le_refl _))
                have hs12 := HB12.out.size
                have hd12 := hb12.size
                clear hb12 j0 j1 j2
                have j0 := cell_of_row (HBOX.out w12 HB12.out) 0
                have j1 := cell_of_row (HBOX.out w12 HB12.out) 1
                have j2 := cell_of_row (HBOX.out w12 HB12.out) 2
                simp only [List.getElem?_toArray, List.getElem?_cons_zero, List.getElem?_cons_succ] at j0 j1 j2
                go_wp2_with fail
                refine (blendRf_any c T HFIT.out htm g2 g1 st wt g HF2.out.2.1 HF2.out.1 HF2.out.2.2.1 (by have := HF2.out.2.2.2; omega) _ HPK.out.1 (by first | exact HPK.out.2 | exact fun _ => rfl) _ _ _ w12.heap.size w12 (Nat.le_refl _) ((HCE.out w12 HB12.out).le (by omega)) ((HL9'.out.below HM12.out).le (by omega)) ((HSV.out w12 HB12.out).le (by omega))).mono ?_
                rintro e w13 ⟨v13, rfl, hi13, hb13⟩
                have HB13 := hid (below_after HB12.out hb13 (Nat.le_refl _))
                have HL13 := hid (below_after HL12.out hb13 (Nat.le_refl _))
                have hs13 := HB13.out.size
                have hd13 := hb13.size
                clear hb13 j0 j1 j2
                have hi13' : Ints (Lt w13.heap.size) w13 v13 t := hi13
                obtain ⟨_, _, rfl, -, -⟩ := id hi13'.open1
                clear hi13
                go_wp2_with fail
                refine (same_any t t _ _ w13.heap.size w13 ((HI4.out.below HL13.out).le (by omega)) hi13' (Nat.le_refl _) (by omega) (by omega)).mono ?_
                rw [HST.out]
                rintro e w14 ⟨rfl, hb14⟩
                have HB14 := hid (below_after HB13.out hb14 (Nat.le_refl _))
                clear hb14 hi13'
                go_wp2_with (go_at_call 20; refine (awake_any _).mono ?_; rintro e wz ⟨rfl, hbz⟩)
                go_ret
                exact ⟨rfl, hWb.trans ((below_after HB14.out hbz (Nat.le_refl _)).mono (by omega))⟩
          · have had : ∀ x, (b1 && b2 && b3) = x → x = false := fun x hx => by cases x; rfl; exact absurd hx hbad
            have had2 : askErr c (blendOk c st wt g) = 2 := by rw [hok, had _ rfl]; unfold askErr; simp [← hfc]
            have HBP := hid (bl_err HSM.out (st := st) (by omega) (wt := wt) (g := g) (d := 2) had2 (by decide) ws)
            obtain ⟨A, B, L, ae, HBO⟩ : ∃ A B L ae, Hid (BoundsAre c A B ae ∧ SureIs c L ae) := by
              by_cases h0 : askErr c true = 0
              · exact ⟨_, _, _, _, hid (bounds_are_ok HSM.out h0)⟩
              · exact ⟨_, _, _, _, hid (bounds_are_err HSM.out h0)⟩
            have HBAD := hid hbad
            clear hfc hb1 hb2 hb3 hok had had2 hgood hbad
            cases b1 with
            | false =>
              go_enter Try.func14, Try.ntmps14
              go_wp2_with fail
              rw [← hW]
              clear hW
              refine (thin_hidB c HTB _ w.heap.size W (by omega) (HCE.out W (Below.refl _ _))).mono ?_
              rintro e w1 ⟨rfl, hb1⟩
              have HB1 := hid hb1
              have hs1 := hb1.size
              clear hb1
              have j0 := cell_of_row (HBOX.out w1 HB1.out) 0
              have j1 := cell_of_row (HBOX.out w1 HB1.out) 1
              have j2 := cell_of_row (HBOX.out w1 HB1.out) 2
              simp only [List.getElem?_toArray, List.getElem?_cons_zero, List.getElem?_cons_succ] at j0 j1 j2
              go_wp2_with fail
              refine (CellarL_any c _ w.heap.size w1 (by omega) (HCE.out w1 HB1.out) HSM.out).mono ?_
              rintro e w2 ⟨v2, rfl, hc2, hb2⟩
              have HB2 := hid (below_after HB1.out hb2 (Nat.le_refl _))
              have hs2 := HB2.out.size
              have hd2 := hb2.size
              clear hb2 j0 j1 j2
              obtain ⟨_, _, _, _, _, _, rfl, -⟩ := id hc2.open
              go_wp2_with fail
              refine (list_any st _ w.heap.size w2 (by omega) (HSV.out w2 HB2.out) (by omega)).mono ?_
              rintro e w3 ⟨v3, rfl, ho3, hb3⟩
              have HB3 := hid (below_after HB2.out hb3 (Nat.le_refl _))
              have hs3 := HB3.out.size
              have hd3 := hb3.size
              have HI_3 := hid hb3
              clear hb3
              have hi3 : Ints (Lt w3.heap.size) w3 v3 st := ho3.slLt encI_length
              obtain ⟨_, _, rfl, -, -⟩ := id hi3.open1
              clear ho3
              have hc3 := (hc2.below HI_3.out).le hd3
              go_wp2_with fail
              refine (HBP.out.1 _ _ _ w3 (Nat.le_refl _) hc3 hi3).mono ?_
              rintro e w4 ⟨v4, rfl, hi4, hb4⟩
              have HB4 := hid (below_after HB3.out hb4 (Nat.le_refl _))
              have hs4 := HB4.out.size
              have hd4 := hb4.size
              clear hb4
              obtain ⟨xa4, xc4, rfl, -, -⟩ := id hi4.open1
              have HI4 := hid hi4
              have HL4 := hid (Below.refl w4.heap.size w4)
              clear hc2 hc3 hi3 hi4
              have j0 := cell_of_row (HBOX.out w4 HB4.out) 0
              have j1 := cell_of_row (HBOX.out w4 HB4.out) 1
              have j2 := cell_of_row (HBOX.out w4 HB4.out) 2
              simp only [List.getElem?_toArray, List.getElem?_cons_zero, List.getElem?_cons_succ] at j0 j1 j2
              go_wp2_with fail
              refine (CellarL_any c _ w.heap.size w4 (by omega) (HCE.out w4 HB4.out) HSM.out).mono ?_
              rintro e w5 ⟨v5, rfl, hc5, hb5⟩
              have HB5 := hid (below_after HB4.out hb5 (Nat.le_refl _))
              have hs5 := HB5.out.size
              have hd5 := hb5.size
              have HL5 := hid (below_after HL4.out hb5 (Nat.le_refl _))
              have zHL5 := HL5.out.size
              clear hb5 j0 j1 j2
              obtain ⟨_, _, _, _, _, _, rfl, -⟩ := id hc5.open
              go_wp2_with fail
              refine (list_any st _ w.heap.size w5 (by omega) (HSV.out w5 HB5.out) (by omega)).mono ?_
              rintro e w6 ⟨v6, rfl, ho6, hb6⟩
              have HB6 := hid (below_after HB5.out hb6 (Nat.le_refl _))
              have hs6 := HB6.out.size
              have hd6 := hb6.size
              have HL6 := hid (below_after HL5.out hb6 (Nat.le_refl _))
              have zHL6 := HL6.out.size
              have HI_6 := hid hb6
              clear hb6
              have hi6 : Ints (Lt w6.heap.size) w6 v6 st := ho6.slLt encI_length
              obtain ⟨_, _, rfl, -, -⟩ := id hi6.open1
              have hc6 := (hc5.below HI_6.out).le hd6
              clear ho6 hc5
              go_wp2_with fail
              refine (list_any ws _ w.heap.size w6 (by omega) (HWV.out w6 HB6.out) (by omega)).mono ?_
              rintro e w7 ⟨v7, rfl, ho7, hb7⟩
              have HB7 := hid (below_after HB6.out hb7 (Nat.le_refl _))
              have hs7 := HB7.out.size
              have hd7 := hb7.size
              have HL7 := hid (below_after HL6.out hb7 (Nat.le_refl _))
              have zHL7 := HL7.out.size
              have HI_7 := hid hb7
              clear hb7
              have hi7 : Ints (Lt w7.heap.size) w7 v7 ws := ho7.slLt encI_length
              obtain ⟨_, _, rfl, -, -⟩ := id hi7.open1
              have hc7 := (hc6.below HI_7.out).le hd7
              have hi6' := (hi6.below HI_7.out).le hd7
              clear ho7 hc6 hi6
              go_wp2_with fail
              refine (HBP.out.2 _ _ _ _ w7 (Nat.le_refl _) hc7 hi6' hi7).mono ?_
              rintro e w8 ⟨rfl, hb8⟩
              have HB8 := hid (below_after HB7.out hb8 (Nat.le_refl _))
              have hs8 := HB8.out.size
              have hd8 := hb8.size
              have HL8 := hid (below_after HL7.out hb8 (Nat.le_refl _))
              have zHL8 := HL8.out.size
              clear hb8
              clear hc7 hi6' hi7
              have j0 := cell_of_row (HBOX.out w8 HB8.out) 0
              have j1 := cell_of_row (HBOX.out w8 HB8.out) 1
              have j2 := cell_of_row (HBOX.out w8 HB8.out) 2
              simp only [List.getElem?_toArray, List.getElem?_cons_zero, List.getElem?_cons_succ] at j0 j1 j2
              go_wp2_with fail
              refine (HBO.out.2 _ w.heap.size w8 (by omega) (HCE.out w8 HB8.out)).mono ?_
              rintro e w9 ⟨v9, rfl, hl9, hb9⟩
              have HB9 := hid (below_after HB8.out hb9 (Nat.le_refl _))
              have hs9 := HB9.out.size
              have hd9 := hb9.size
              have HL9 := hid (below_after HL8.out hb9 (Nat.le_refl _))
              have zHL9 := HL9.out.size
              clear hb9 j0 j1 j2
              obtain ⟨la9, lc9, rfl, -, -⟩ := id hl9.open
              have HL9' := hid hl9
              have HM9 := hid (Below.refl w9.heap.size w9)
              clear hl9
              have j0 := cell_of_row (HBOX.out w9 HB9.out) 0
              have j1 := cell_of_row (HBOX.out w9 HB9.out) 1
              have j2 := cell_of_row (HBOX.out w9 HB9.out) 2
              simp only [List.getElem?_toArray, List.getElem?_cons_zero, List.getElem?_cons_succ] at j0 j1 j2
              go_wp2_with fail
              refine (faultL_hid c HFA _ w.heap.size w9 (by omega) (HCE.out w9 HB9.out) HSM.out).mono ?_
              rintro e w10 ⟨rfl, hb10⟩
              have HB10 := hid (below_after HB9.out hb10 (Nat.le_refl _))
              have hs10 := HB10.out.size
              have hd10 := hb10.size
              have HL10 := hid (below_after HL9.out hb10 (Nat.le_refl _))
              have zHL10 := HL10.out.size
              have HM10 := hid (below_after HM9.out hb10 (Nat.le_refl _))
              have zHM10 := HM10.out.size
              clear hb10 j0 j1 j2
              have j0 := cell_of_row (HBOX.out w10 HB10.out) 0
              have j1 := cell_of_row (HBOX.out w10 HB10.out) 1
              have j2 := cell_of_row (HBOX.out w10 HB10.out) 2
              simp only [List.getElem?_toArray, List.getElem?_cons_zero, List.getElem?_cons_succ] at j0 j1 j2
              go_wp2_with fail
              refine (isStock_hid _ _ _ _ _ st HW1 _ w.heap.size w10 (by omega) (by omega) (HSV.out w10 HB10.out) (by omega)).mono ?_
              rintro e w11 ⟨rfl, hb11⟩
              have HB11 := hid (below_after HB10.out hb11 (Nat.le_refl _))
              have HM11 := hid (below_after HM10.out hb11 (Nat.le_refl _))
              have HL11 := hid (below_after HL10.out hb11 (Nat.le_refl _))
              have hs11 := HB11.out.size
              have hd11 := hb11.size
              clear hb11 j0 j1 j2
              go_wp2_with (go_at_call 20; refine (awake_any _).mono ?_; rintro e wz ⟨rfl, hbz⟩)
              go_ret
              exact ⟨rfl, hWb.trans ((below_after HB11.out hbz (Nat.le_refl _)).mono (by omega))⟩
            | true =>
              cases b2 with
              | false =>
                go_enter Try.func14, Try.ntmps14
                go_wp2_with fail
                rw [← hW]
                clear hW
                refine (thin_hidB c HTB _ w.heap.size W (by omega) (HCE.out W (Below.refl _ _))).mono ?_
                rintro e w1 ⟨rfl, hb1⟩
                have HB1 := hid hb1
                have hs1 := hb1.size
                clear hb1
                have j0 := cell_of_row (HBOX.out w1 HB1.out) 0
                have j1 := cell_of_row (HBOX.out w1 HB1.out) 1
                have j2 := cell_of_row (HBOX.out w1 HB1.out) 2
                simp only [List.getElem?_toArray, List.getElem?_cons_zero, List.getElem?_cons_succ] at j0 j1 j2
                go_wp2_with fail
                refine (CellarL_any c _ w.heap.size w1 (by omega) (HCE.out w1 HB1.out) HSM.out).mono ?_
                rintro e w2 ⟨v2, rfl, hc2, hb2⟩
                have HB2 := hid (below_after HB1.out hb2 (Nat.le_refl _))
                have hs2 := HB2.out.size
                have hd2 := hb2.size
                clear hb2 j0 j1 j2
                obtain ⟨_, _, _, _, _, _, rfl, -⟩ := id hc2.open
                go_wp2_with fail
                refine (list_any st _ w.heap.size w2 (by omega) (HSV.out w2 HB2.out) (by omega)).mono ?_
                rintro e w3 ⟨v3, rfl, ho3, hb3⟩
                have HB3 := hid (below_after HB2.out hb3 (Nat.le_refl _))
                have hs3 := HB3.out.size
                have hd3 := hb3.size
                have HI_3 := hid hb3
                clear hb3
                have hi3 : Ints (Lt w3.heap.size) w3 v3 st := ho3.slLt encI_length
                obtain ⟨_, _, rfl, -, -⟩ := id hi3.open1
                clear ho3
                have hc3 := (hc2.below HI_3.out).le hd3
                go_wp2_with fail
                refine (HBP.out.1 _ _ _ w3 (Nat.le_refl _) hc3 hi3).mono ?_
                rintro e w4 ⟨v4, rfl, hi4, hb4⟩
                have HB4 := hid (below_after HB3.out hb4 (Nat.le_refl _))
                have hs4 := HB4.out.size
                have hd4 := hb4.size
                clear hb4
                obtain ⟨xa4, xc4, rfl, -, -⟩ := id hi4.open1
                have HI4 := hid hi4
                have HL4 := hid (Below.refl w4.heap.size w4)
                clear hc2 hc3 hi3 hi4
                have j0 := cell_of_row (HBOX.out w4 HB4.out) 0
                have j1 := cell_of_row (HBOX.out w4 HB4.out) 1
                have j2 := cell_of_row (HBOX.out w4 HB4.out) 2
                simp only [List.getElem?_toArray, List.getElem?_cons_zero, List.getElem?_cons_succ] at j0 j1 j2
                go_wp2_with fail
                refine (CellarL_any c _ w.heap.size w4 (by omega) (HCE.out w4 HB4.out) HSM.out).mono ?_
                rintro e w5 ⟨v5, rfl, hc5, hb5⟩
                have HB5 := hid (below_after HB4.out hb5 (Nat.le_refl _))
                have hs5 := HB5.out.size
                have hd5 := hb5.size
                have HL5 := hid (below_after HL4.out hb5 (Nat.le_refl _))
                have zHL5 := HL5.out.size
                clear hb5 j0 j1 j2
                obtain ⟨_, _, _, _, _, _, rfl, -⟩ := id hc5.open
                go_wp2_with fail
                refine (list_any st _ w.heap.size w5 (by omega) (HSV.out w5 HB5.out) (by omega)).mono ?_
                rintro e w6 ⟨v6, rfl, ho6, hb6⟩
                have HB6 := hid (below_after HB5.out hb6 (Nat.le_refl _))
                have hs6 := HB6.out.size
                have hd6 := hb6.size
                have HL6 := hid (below_after HL5.out hb6 (Nat.le_refl _))
                have zHL6 := HL6.out.size
                have HI_6 := hid hb6
                clear hb6
                have hi6 : Ints (Lt w6.heap.size) w6 v6 st := ho6.slLt encI_length
                obtain ⟨_, _, rfl, -, -⟩ := id hi6.open1
                have hc6 := (hc5.below HI_6.out).le hd6
                clear ho6 hc5
                go_wp2_with fail
                refine (list_any ws _ w.heap.size w6 (by omega) (HWV.out w6 HB6.out) (by omega)).mono ?_
                rintro e w7 ⟨v7, rfl, ho7, hb7⟩
                have HB7 := hid (below_after HB6.out hb7 (Nat.le_refl _))
                have hs7 := HB7.out.size
                have hd7 := hb7.size
                have HL7 := hid (below_after HL6.out hb7 (Nat.le_refl _))
                have zHL7 := HL7.out.size
                have HI_7 := hid hb7
                clear hb7
                have hi7 : Ints (Lt w7.heap.size) w7 v7 ws := ho7.slLt encI_length
                obtain ⟨_, _, rfl, -, -⟩ := id hi7.open1
                have hc7 := (hc6.below HI_7.out).le hd7
                have hi6' := (hi6.below HI_7.out).le hd7
                clear ho7 hc6 hi6
                go_wp2_with fail
                refine (HBP.out.2 _ _ _ _ w7 (Nat.le_refl _) hc7 hi6' hi7).mono ?_
                rintro e w8 ⟨rfl, hb8⟩
                have HB8 := hid (below_after HB7.out hb8 (Nat.le_refl _))
                have hs8 := HB8.out.size
                have hd8 := hb8.size
                have HL8 := hid (below_after HL7.out hb8 (Nat.le_refl _))
                have zHL8 := HL8.out.size
                clear hb8
                clear hc7 hi6' hi7
                have j0 := cell_of_row (HBOX.out w8 HB8.out) 0
                have j1 := cell_of_row (HBOX.out w8 HB8.out) 1
                have j2 := cell_of_row (HBOX.out w8 HB8.out) 2
                simp only [List.getElem?_toArray, List.getElem?_cons_zero, List.getElem?_cons_succ] at j0 j1 j2
                go_wp2_with fail
                refine (HBO.out.2 _ w.heap.size w8 (by omega) (HCE.out w8 HB8.out)).mono ?_
                rintro e w9 ⟨v9, rfl, hl9, hb9⟩
                have HB9 := hid (below_after HB8.out hb9 (Nat.le_refl _))
                have hs9 := HB9.out.size
                have hd9 := hb9.size
                have HL9 := hid (below_after HL8.out hb9 (Nat.le_refl _))
                have zHL9 := HL9.out.size
                clear hb9 j0 j1 j2
                obtain ⟨la9, lc9, rfl, -, -⟩ := id hl9.open
                have HL9' := hid hl9
                have HM9 := hid (Below.refl w9.heap.size w9)
                clear hl9
                have j0 := cell_of_row (HBOX.out w9 HB9.out) 0
                have j1 := cell_of_row (HBOX.out w9 HB9.out) 1
                have j2 := cell_of_row (HBOX.out w9 HB9.out) 2
                simp only [List.getElem?_toArray, List.getElem?_cons_zero, List.getElem?_cons_succ] at j0 j1 j2
                go_wp2_with fail
                refine (faultL_hid c HFA _ w.heap.size w9 (by omega) (HCE.out w9 HB9.out) HSM.out).mono ?_
                rintro e w10 ⟨rfl, hb10⟩
                have HB10 := hid (below_after HB9.out hb10 (Nat.le_refl _))
                have hs10 := HB10.out.size
                have hd10 := hb10.size
                have HL10 := hid (below_after HL9.out hb10 (Nat.le_refl _))
                have zHL10 := HL10.out.size
                have HM10 := hid (below_after HM9.out hb10 (Nat.le_refl _))
                have zHM10 := HM10.out.size
                clear hb10 j0 j1 j2
                have j0 := cell_of_row (HBOX.out w10 HB10.out) 0
                have j1 := cell_of_row (HBOX.out w10 HB10.out) 1
                have j2 := cell_of_row (HBOX.out w10 HB10.out) 2
                simp only [List.getElem?_toArray, List.getElem?_cons_zero, List.getElem?_cons_succ] at j0 j1 j2
                go_wp2_with fail
                refine (isStock_hid _ _ _ _ _ st HW1 _ w.heap.size w10 (by omega) (by omega) (HSV.out w10 HB10.out) (by omega)).mono ?_
                rintro e w11 ⟨rfl, hb11⟩
                have HB11 := hid (below_after HB10.out hb11 (Nat.le_refl _))
                have HM11 := hid (below_after HM10.out hb11 (Nat.le_refl _))
                have HL11 := hid (below_after HL10.out hb11 (Nat.le_refl _))
                have hs11 := HB11.out.size
                have hd11 := hb11.size
                clear hb11 j0 j1 j2
                go_wp2_with fail
                refine (inR_hid _ _ _ HW2 _).mono ?_
                rintro e w' ⟨rfl, rfl⟩
                go_wp2_with (go_at_call 20; refine (awake_any _).mono ?_; rintro e wz ⟨rfl, hbz⟩)
                go_ret
                exact ⟨rfl, hWb.trans ((below_after HB11.out hbz (Nat.le_refl _)).mono (by omega))⟩
              | true =>
                cases b3 with
                | false =>
                  go_enter Try.func14, Try.ntmps14
                  go_wp2_with fail
                  rw [← hW]
                  clear hW
                  refine (thin_hidB c HTB _ w.heap.size W (by omega) (HCE.out W (Below.refl _ _))).mono ?_
                  rintro e w1 ⟨rfl, hb1⟩
                  have HB1 := hid hb1
                  have hs1 := hb1.size
                  clear hb1
                  have j0 := cell_of_row (HBOX.out w1 HB1.out) 0
                  have j1 := cell_of_row (HBOX.out w1 HB1.out) 1
                  have j2 := cell_of_row (HBOX.out w1 HB1.out) 2
                  simp only [List.getElem?_toArray, List.getElem?_cons_zero, List.getElem?_cons_succ] at j0 j1 j2
                  go_wp2_with fail
                  refine (CellarL_any c _ w.heap.size w1 (by omega) (HCE.out w1 HB1.out) HSM.out).mono ?_
                  rintro e w2 ⟨v2, rfl, hc2, hb2⟩
                  have HB2 := hid (below_after HB1.out hb2 (Nat.le_refl _))
                  have hs2 := HB2.out.size
                  have hd2 := hb2.size
                  clear hb2 j0 j1 j2
                  obtain ⟨_, _, _, _, _, _, rfl, -⟩ := id hc2.open
                  go_wp2_with fail
                  refine (list_any st _ w.heap.size w2 (by omega) (HSV.out w2 HB2.out) (by omega)).mono ?_
                  rintro e w3 ⟨v3, rfl, ho3, hb3⟩
                  have HB3 := hid (below_after HB2.out hb3 (Nat.le_refl _))
                  have hs3 := HB3.out.size
                  have hd3 := hb3.size
                  have HI_3 := hid hb3
                  clear hb3
                  have hi3 : Ints (Lt w3.heap.size) w3 v3 st := ho3.slLt encI_length
                  obtain ⟨_, _, rfl, -, -⟩ := id hi3.open1
                  clear ho3
                  have hc3 := (hc2.below HI_3.out).le hd3
                  go_wp2_with fail
                  refine (HBP.out.1 _ _ _ w3 (Nat.le_refl _) hc3 hi3).mono ?_
                  rintro e w4 ⟨v4, rfl, hi4, hb4⟩
                  have HB4 := hid (below_after HB3.out hb4 (Nat.le_refl _))
                  have hs4 := HB4.out.size
                  have hd4 := hb4.size
                  clear hb4
                  obtain ⟨xa4, xc4, rfl, -, -⟩ := id hi4.open1
                  have HI4 := hid hi4
                  have HL4 := hid (Below.refl w4.heap.size w4)
                  clear hc2 hc3 hi3 hi4
                  have j0 := cell_of_row (HBOX.out w4 HB4.out) 0
                  have j1 := cell_of_row (HBOX.out w4 HB4.out) 1
                  have j2 := cell_of_row (HBOX.out w4 HB4.out) 2
                  simp only [List.getElem?_toArray, List.getElem?_cons_zero, List.getElem?_cons_succ] at j0 j1 j2
                  go_wp2_with fail
                  refine (CellarL_any c _ w.heap.size w4 (by omega) (HCE.out w4 HB4.out) HSM.out).mono ?_
                  rintro e w5 ⟨v5, rfl, hc5, hb5⟩
                  have HB5 := hid (below_after HB4.out hb5 (Nat.le_refl _))
                  have hs5 := HB5.out.size
                  have hd5 := hb5.size
                  have HL5 := hid (below_after HL4.out hb5 (Nat.le_refl _))
                  have zHL5 := HL5.out.size
                  clear hb5 j0 j1 j2
                  obtain ⟨_, _, _, _, _, _, rfl, -⟩ := id hc5.open
                  go_wp2_with fail
                  refine (list_any st _ w.heap.size w5 (by omega) (HSV.out w5 HB5.out) (by omega)).mono ?_
                  rintro e w6 ⟨v6, rfl, ho6, hb6⟩
                  have HB6 := hid (below_after HB5.out hb6 (Nat.le_refl _))
                  have hs6 := HB6.out.size
                  have hd6 := hb6.size
                  have HL6 := hid (below_after HL5.out hb6 (Nat.le_refl _))
                  have zHL6 := HL6.out.size
                  have HI_6 := hid hb6
                  clear hb6
                  have hi6 : Ints (Lt w6.heap.size) w6 v6 st := ho6.slLt encI_length
                  obtain ⟨_, _, rfl, -, -⟩ := id hi6.open1
                  have hc6 := (hc5.below HI_6.out).le hd6
                  clear ho6 hc5
                  go_wp2_with fail
                  refine (list_any ws _ w.heap.size w6 (by omega) (HWV.out w6 HB6.out) (by omega)).mono ?_
                  rintro e w7 ⟨v7, rfl, ho7, hb7⟩
                  have HB7 := hid (below_after HB6.out hb7 (Nat.le_refl _))
                  have hs7 := HB7.out.size
                  have hd7 := hb7.size
                  have HL7 := hid (below_after HL6.out hb7 (Nat.le_refl _))
                  have zHL7 := HL7.out.size
                  have HI_7 := hid hb7
                  clear hb7
                  have hi7 : Ints (Lt w7.heap.size) w7 v7 ws := ho7.slLt encI_length
                  obtain ⟨_, _, rfl, -, -⟩ := id hi7.open1
                  have hc7 := (hc6.below HI_7.out).le hd7
                  have hi6' := (hi6.below HI_7.out).le hd7
                  clear ho7 hc6 hi6
                  go_wp2_with fail
                  refine (HBP.out.2 _ _ _ _ w7 (Nat.le_refl _) hc7 hi6' hi7).mono ?_
                  rintro e w8 ⟨rfl, hb8⟩
                  have HB8 := hid (below_after HB7.out hb8 (Nat.le_refl _))
                  have hs8 := HB8.out.size
                  have hd8 := hb8.size
                  have HL8 := hid (below_after HL7.out hb8 (Nat.le_refl _))
                  have zHL8 := HL8.out.size
                  clear hb8
                  clear hc7 hi6' hi7
                  have j0 := cell_of_row (HBOX.out w8 HB8.out) 0
                  have j1 := cell_of_row (HBOX.out w8 HB8.out) 1
                  have j2 := cell_of_row (HBOX.out w8 HB8.out) 2
                  simp only [List.getElem?_toArray, List.getElem?_cons_zero, List.getElem?_cons_succ] at j0 j1 j2
                  go_wp2_with fail
                  refine (HBO.out.2 _ w.heap.size w8 (by omega) (HCE.out w8 HB8.out)).mono ?_
                  rintro e w9 ⟨v9, rfl, hl9, hb9⟩
                  have HB9 := hid (below_after HB8.out hb9 (Nat.le_refl _))
                  have hs9 := HB9.out.size
                  have hd9 := hb9.size
                  have HL9 := hid (below_after HL8.out hb9 (Nat.le_refl _))
                  have zHL9 := HL9.out.size
                  clear hb9 j0 j1 j2
                  obtain ⟨la9, lc9, rfl, -, -⟩ := id hl9.open
                  have HL9' := hid hl9
                  have HM9 := hid (Below.refl w9.heap.size w9)
                  clear hl9
                  have j0 := cell_of_row (HBOX.out w9 HB9.out) 0
                  have j1 := cell_of_row (HBOX.out w9 HB9.out) 1
                  have j2 := cell_of_row (HBOX.out w9 HB9.out) 2
                  simp only [List.getElem?_toArray, List.getElem?_cons_zero, List.getElem?_cons_succ] at j0 j1 j2
                  go_wp2_with fail
                  refine (faultL_hid c HFA _ w.heap.size w9 (by omega) (HCE.out w9 HB9.out) HSM.out).mono ?_
                  rintro e w10 ⟨rfl, hb10⟩
                  have HB10 := hid (below_after HB9.out hb10 (Nat.le_refl _))
                  have hs10 := HB10.out.size
                  have hd10 := hb10.size
                  have HL10 := hid (below_after HL9.out hb10 (Nat.le_refl _))
                  have zHL10 := HL10.out.size
                  have HM10 := hid (below_after HM9.out hb10 (Nat.le_refl _))
                  have zHM10 := HM10.out.size
                  clear hb10 j0 j1 j2
                  have j0 := cell_of_row (HBOX.out w10 HB10.out) 0
                  have j1 := cell_of_row (HBOX.out w10 HB10.out) 1
                  have j2 := cell_of_row (HBOX.out w10 HB10.out) 2
                  simp only [List.getElem?_toArray, List.getElem?_cons_zero, List.getElem?_cons_succ] at j0 j1 j2
                  go_wp2_with fail
                  refine (isStock_hid _ _ _ _ _ st HW1 _ w.heap.size w10 (by omega) (by omega) (HSV.out w10 HB10.out) (by omega)).mono ?_
                  rintro e w11 ⟨rfl, hb11⟩
                  have HB11 := hid (below_after HB10.out hb11 (Nat.le_refl _))
                  have HM11 := hid (below_after HM10.out hb11 (Nat.le_refl _))
                  have HL11 := hid (below_after HL10.out hb11 (Nat.le_refl _))
                  have hs11 := HB11.out.size
                  have hd11 := hb11.size
                  clear hb11 j0 j1 j2
                  go_wp2_with fail
                  refine (inR_hid _ _ _ HW2 _).mono ?_
                  rintro e w' ⟨rfl, rfl⟩
                  go_wp2_with fail
                  refine (inR_hid _ _ _ HW3 _).mono ?_
                  rintro e w' ⟨rfl, rfl⟩
                  go_wp2_with (go_at_call 20; refine (awake_any _).mono ?_; rintro e wz ⟨rfl, hbz⟩)
                  go_ret
                  exact ⟨rfl, hWb.trans ((below_after HB11.out hbz (Nat.le_refl _)).mono (by omega))⟩
                | true => exact absurd rfl HBAD.out
        · have hne : (f == 0) = false := by rw [beq_eq_false_iff_ne]; exact hf
          have hne2 : (f != 0) = true := by simp [hf]
          have hae : askErr c true = f := by unfold askErr; rw [if_pos (by rw [← hfc]; exact hf), hfc]
          have HBO := hid (show BoundsAre c [] [] f ∧ SureIs c [] f by have := bounds_are_err HSM.out (c := c) (by rw [hae]; exact hf); rwa [hae] at this)
          have HBP := hid (bl_err HSM.out (st := st) (by omega) (wt := wt) (g := g) (d := f) (by unfold askErr; rw [if_pos (by rw [← hfc]; exact hf), hfc]) hf ws)
          clear hfc hae hf
          go_enter Try.func14, Try.ntmps14
          go_wp2_with fail
          rw [← hW]
          clear hW
          refine (thin_hidB c HTB _ w.heap.size W (by omega) (HCE.out W (Below.refl _ _))).mono ?_
          rintro e w1 ⟨rfl, hb1⟩
          have HB1 := hid hb1
          have hs1 := hb1.size
          clear hb1
          have j0 := cell_of_row (HBOX.out w1 HB1.out) 0
          have j1 := cell_of_row (HBOX.out w1 HB1.out) 1
          have j2 := cell_of_row (HBOX.out w1 HB1.out) 2
          simp only [List.getElem?_toArray, List.getElem?_cons_zero, List.getElem?_cons_succ] at j0 j1 j2
          go_wp2_with fail
          refine (CellarL_any c _ w.heap.size w1 (by omega) (HCE.out w1 HB1.out) HSM.out).mono ?_
          rintro e w2 ⟨v2, rfl, hc2, hb2⟩
          have HB2 := hid (below_after HB1.out hb2 (Nat.le_refl _))
          have hs2 := HB2.out.size
          have hd2 := hb2.size
          clear hb2 j0 j1 j2
          obtain ⟨_, _, _, _, _, _, rfl, -⟩ := id hc2.open
          go_wp2_with fail
          refine (list_any st _ w.heap.size w2 (by omega) (HSV.out w2 HB2.out) (by omega)).mono ?_
          rintro e w3 ⟨v3, rfl, ho3, hb3⟩
          have HB3 := hid (below_after HB2.out hb3 (Nat.le_refl _))
          have hs3 := HB3.out.size
          have hd3 := hb3.size
          have HI_3 := hid hb3
          clear hb3
          have hi3 : Ints (Lt w3.heap.size) w3 v3 st := ho3.slLt encI_length
          obtain ⟨_, _, rfl, -, -⟩ := id hi3.open1
          clear ho3
          have hc3 := (hc2.below HI_3.out).le hd3
          go_wp2_with fail
          refine (HBP.out.1 _ _ _ w3 (Nat.le_refl _) hc3 hi3).mono ?_
          rintro e w4 ⟨v4, rfl, hi4, hb4⟩
          have HB4 := hid (below_after HB3.out hb4 (Nat.le_refl _))
          have hs4 := HB4.out.size
          have hd4 := hb4.size
          clear hb4
          obtain ⟨xa4, xc4, rfl, -, -⟩ := id hi4.open1
          have HI4 := hid hi4
          have HL4 := hid (Below.refl w4.heap.size w4)
          clear hc2 hc3 hi3 hi4
          have j0 := cell_of_row (HBOX.out w4 HB4.out) 0
          have j1 := cell_of_row (HBOX.out w4 HB4.out) 1
          have j2 := cell_of_row (HBOX.out w4 HB4.out) 2
          simp only [List.getElem?_toArray, List.getElem?_cons_zero, List.getElem?_cons_succ] at j0 j1 j2
          go_wp2_with fail
          refine (CellarL_any c _ w.heap.size w4 (by omega) (HCE.out w4 HB4.out) HSM.out).mono ?_
          rintro e w5 ⟨v5, rfl, hc5, hb5⟩
          have HB5 := hid (below_after HB4.out hb5 (Nat.le_refl _))
          have hs5 := HB5.out.size
          have hd5 := hb5.size
          have HL5 := hid (below_after HL4.out hb5 (Nat.le_refl _))
          have zHL5 := HL5.out.size
          clear hb5 j0 j1 j2
          obtain ⟨_, _, _, _, _, _, rfl, -⟩ := id hc5.open
          go_wp2_with fail
          refine (list_any st _ w.heap.size w5 (by omega) (HSV.out w5 HB5.out) (by omega)).mono ?_
          rintro e w6 ⟨v6, rfl, ho6, hb6⟩
          have HB6 := hid (below_after HB5.out hb6 (Nat.le_refl _))
          have hs6 := HB6.out.size
          have hd6 := hb6.size
          have HL6 := hid (below_after HL5.out hb6 (Nat.le_refl _))
          have zHL6 := HL6.out.size
          have HI_6 := hid hb6
          clear hb6
          have hi6 : Ints (Lt w6.heap.size) w6 v6 st := ho6.slLt encI_length
          obtain ⟨_, _, rfl, -, -⟩ := id hi6.open1
          have hc6 := (hc5.below HI_6.out).le hd6
          clear ho6 hc5
          go_wp2_with fail
          refine (list_any ws _ w.heap.size w6 (by omega) (HWV.out w6 HB6.out) (by omega)).mono ?_
          rintro e w7 ⟨v7, rfl, ho7, hb7⟩
          have HB7 := hid (below_after HB6.out hb7 (Nat.le_refl _))
          have hs7 := HB7.out.size
          have hd7 := hb7.size
          have HL7 := hid (below_after HL6.out hb7 (Nat.le_refl _))
          have zHL7 := HL7.out.size
          have HI_7 := hid hb7
          clear hb7
          have hi7 : Ints (Lt w7.heap.size) w7 v7 ws := ho7.slLt encI_length
          obtain ⟨_, _, rfl, -, -⟩ := id hi7.open1
          have hc7 := (hc6.below HI_7.out).le hd7
          have hi6' := (hi6.below HI_7.out).le hd7
          clear ho7 hc6 hi6
          go_wp2_with fail
          refine (HBP.out.2 _ _ _ _ w7 (Nat.le_refl _) hc7 hi6' hi7).mono ?_
          rintro e w8 ⟨rfl, hb8⟩
          have HB8 := hid (below_after HB7.out hb8 (Nat.le_refl _))
          have hs8 := HB8.out.size
          have hd8 := hb8.size
          have HL8 := hid (below_after HL7.out hb8 (Nat.le_refl _))
          have zHL8 := HL8.out.size
          clear hb8
          clear hc7 hi6' hi7
          have j0 := cell_of_row (HBOX.out w8 HB8.out) 0
          have j1 := cell_of_row (HBOX.out w8 HB8.out) 1
          have j2 := cell_of_row (HBOX.out w8 HB8.out) 2
          simp only [List.getElem?_toArray, List.getElem?_cons_zero, List.getElem?_cons_succ] at j0 j1 j2
          go_wp2_with fail
          refine (HBO.out.2 _ w.heap.size w8 (by omega) (HCE.out w8 HB8.out)).mono ?_
          rintro e w9 ⟨v9, rfl, hl9, hb9⟩
          have HB9 := hid (below_after HB8.out hb9 (Nat.le_refl _))
          have hs9 := HB9.out.size
          have hd9 := hb9.size
          have HL9 := hid (below_after HL8.out hb9 (Nat.le_refl _))
          have zHL9 := HL9.out.size
          clear hb9 j0 j1 j2
          obtain ⟨la9, lc9, rfl, -, -⟩ := id hl9.open
          have HL9' := hid hl9
          have HM9 := hid (Below.refl w9.heap.size w9)
          clear hl9
          have j0 := cell_of_row (HBOX.out w9 HB9.out) 0
          have j1 := cell_of_row (HBOX.out w9 HB9.out) 1
          have j2 := cell_of_row (HBOX.out w9 HB9.out) 2
          simp only [List.getElem?_toArray, List.getElem?_cons_zero, List.getElem?_cons_succ] at j0 j1 j2
          go_wp2_with fail
          refine (faultL_hid c HFA _ w.heap.size w9 (by omega) (HCE.out w9 HB9.out) HSM.out).mono ?_
          rintro e w10 ⟨rfl, hb10⟩
          have HB10 := hid (below_after HB9.out hb10 (Nat.le_refl _))
          have hs10 := HB10.out.size
          have hd10 := hb10.size
          have HL10 := hid (below_after HL9.out hb10 (Nat.le_refl _))
          have zHL10 := HL10.out.size
          have HM10 := hid (below_after HM9.out hb10 (Nat.le_refl _))
          have zHM10 := HM10.out.size
          clear hb10 j0 j1 j2
          go_wp2_with (go_at_call 20; refine (awake_any _).mono ?_; rintro e wz ⟨rfl, hbz⟩)
          go_ret
          exact ⟨rfl, hWb.trans ((below_after HB10.out hbz (Nat.le_refl _)).mono (by omega))⟩
end Go.Proofs.Ytjddcaimjofihaa
