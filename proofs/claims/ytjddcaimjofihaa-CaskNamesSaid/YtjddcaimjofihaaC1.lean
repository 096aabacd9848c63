/- Contracts of package cask: ProveBlend, ProveDecide; no condition. -/
import Derived.Test.YtjddcaimjofihaaB8
namespace Go.Proofs.Ytjddcaimjofihaa
open Go.RowKit Go.Shelf
set_option maxRecDepth 100000

theorem weights_hid {b : Bool} (hl : Nat) (ha : Option Addr) (hcap : Nat) (kv tv : Value) (l : List Int) (HB : Hid (b = weightsB hl l)) (v : Value) (n : Nat) (w : World) (h0 : hl ≤ 1000) (hn : n ≤ w.heap.size) (h : Ints (Lt n) w v l) (hlen : l.length ≤ 1000) :
    Calls Try.prog 121 #[.agg #[.slice ha hl hcap, kv, tv], v] w fun e w' => e = .returned (.bool b) ∧ Below w.heap.size w w' := by
  rw [HB.out]; exact weights_any hl ha hcap kv tv l v n w h0 hn h hlen

theorem proveBlend_err (c : Ce) (vc : Value) (st : List Int) (vs : Value) (wt g : Int) (ws : List Int) (vw : Value) (n : Nat) (w : World) (hn : n ≤ w.heap.size) (h : CeV (Lt n) w vc c) (hsm : Small c) (hst : Ints (Lt n) w vs st) (hsl : st.length ≤ 1000) (he : askErr c (blendOk c st wt g) ≠ 0) :
    Calls Try.prog 65 #[vc, vs, .int .i64 wt, .int .i64 g, vw] w (RetB false w) := by
  have hst' := hst
  obtain ⟨sa, scap, rfl, -, -⟩ := hst.open1
  have h' := h
  obtain ⟨ha, hc, ka, kc, ta, tc, rfl, -, -, -⟩ := h.open
  obtain ⟨W, hW⟩ : ∃ W, W = w.alloc (Obj.cells #[.slice ha c.heaps.length hc, .slice ka c.casks.length kc, .slice ta c.trials.length tc] 35) := ⟨_, rfl⟩
  have hWs : W.heap.size = w.heap.size + 1 := by rw [hW]; simp
  have hWb : Below w.heap.size w W := by rw [hW]; exact below_alloc1 (Nat.le_refl _) _
  have hWr : W.heap[w.heap.size]? = some (.cells #[.slice ha c.heaps.length hc, .slice ka c.casks.length kc, .slice ta c.trials.length tc] 35 (0, 0)) := by rw [hW]; exact heap_new _ _
  have HBOX := hid (fun w1 (hb : Below W.heap.size W w1) => (hb.block w.heap.size (by omega)).trans hWr : ∀ w1, Below W.heap.size W w1 → w1.heap[w.heap.size]? = _)
  have HCE := hid (fun w1 (hb : Below W.heap.size W w1) => h'.below (hWb.trans (hb.mono (by omega)) |>.mono hn) : ∀ w1, Below W.heap.size W w1 → CeV (Lt _) w1 _ c)
  clear hWr h' h
  have HST := hid (hst'.below (hWb.mono hn))
  have hne : (askErr c (blendOk c st wt g) != 0) = true := by simpa using he
  generalize hea : askErr c (blendOk c st wt g) = ea at *
  have HE := hid hea
  have HNE := hid he
  clear he hea hst hst'
  go_enter Try.func65, Try.ntmps65
  go_wp2_with fail
  rw [← hW]
  clear hW
  refine (blending_any c _ st _ wt g n W (by omega) (HCE.out W (Below.refl _ _)) hsm HST.out hsl).mono ?_
  rintro e w2 ⟨hb2, v, rfl, hv0, -⟩
  have hvv := hv0 (by rw [HE.out]; exact HNE.out)
  subst hvv
  rw [HE.out]
  go_wp2
  go_ret
  exact ⟨rfl, hWb.trans (hb2.mono (by omega))⟩

set_option maxHeartbeats 2000000 in
theorem proveBlend_go (c : Ce) (vc : Value) (st : List Int) (vs : Value) (wt g : Int) (ws : List Int) (vw : Value) (n : Nat) (w : World) (hn : n ≤ w.heap.size) (h : CeV (Lt n) w vc c) (hsm : Small c) (hst : Ints (Lt n) w vs st) (hsl : st.length ≤ 1000) (hws : Ints (Lt n) w vw ws) (hwl : ws.length ≤ 1000) (he : askErr c (blendOk c st wt g) = 0)
    (b : Bool) (Hb0 : weightsB c.heaps.length ws = false → b = false) (Hb1 : sumI ws ≠ wt → b = false) (Hb2 : ∀ k, k < ws.length → st.getD k 0 < ws.getD k 0 → b = false) (Hb3 : weightsB c.heaps.length ws = true → sumI ws = wt → (∀ k, k < ws.length → ws.getD k 0 ≤ st.getD k 0) → b = decide (g ≤ leastOf (truthsOf c []) ws)) :
    Calls Try.prog 65 #[vc, vs, .int .i64 wt, .int .i64 g, vw] w (RetB b w) := by
  have hst' := hst
  obtain ⟨sa, scap, rfl, -, hos⟩ := hst.open1
  have hws' := hws
  obtain ⟨wa, wcap, rfl, -, how⟩ := hws.open1
  have h' := h
  obtain ⟨ha, hc, ka, kc, ta, tc, rfl, -, -, -⟩ := h.open
  obtain ⟨W, hW⟩ : ∃ W, W = w.alloc (Obj.cells #[.slice ha c.heaps.length hc, .slice ka c.casks.length kc, .slice ta c.trials.length tc] 35) := ⟨_, rfl⟩
  have hWs : W.heap.size = w.heap.size + 1 := by rw [hW]; simp
  have hWb : Below w.heap.size w W := by rw [hW]; exact below_alloc1 (Nat.le_refl _) _
  have hWr : W.heap[w.heap.size]? = some (.cells #[.slice ha c.heaps.length hc, .slice ka c.casks.length kc, .slice ta c.trials.length tc] 35 (0, 0)) := by rw [hW]; exact heap_new _ _
  have HBOX := hid (fun w1 (hb : Below W.heap.size W w1) => (hb.block w.heap.size (by omega)).trans hWr : ∀ w1, Below W.heap.size W w1 → w1.heap[w.heap.size]? = _)
  have HCE := hid (fun w1 (hb : Below W.heap.size W w1) => h'.below (hWb.trans (hb.mono (by omega)) |>.mono hn) : ∀ w1, Below W.heap.size W w1 → CeV (Lt _) w1 _ c)
  clear hWr h' h
  obtain ⟨hf, hbl, ht0⟩ := askErr_zero he
  have hg := (fault_good hf).1
  obtain ⟨⟨g1, g2, g3, -⟩, -⟩ := hg.facts
  simp only [blendOk, weightsB, Bool.and_eq_true, beq_iff_eq, List.all_eq_true, isW, within_iff] at hbl
  obtain ⟨⟨⟨s1, -⟩, s3⟩, s4⟩ := hbl
  have HS1 := hid s1
  clear s1
  have HT := hid (And.intro (truths_fits hg []) (truthsOf_few hf []))
  have HST := hid (hst'.below (hWb.mono hn))
  have HWS := hid (fun w1 (hb : Below W.heap.size W w1) => hws'.below ((hWb.trans (hb.mono (by omega))).mono hn) : ∀ w1, Below W.heap.size W w1 → Ints (Lt n) w1 _ ws)
  have HOS := hid hos
  have HOW := hid how
  have HE := hid he
  obtain ⟨wb, hwb⟩ : ∃ wb, wb = weightsB c.heaps.length ws := ⟨_, rfl⟩
  have HWB := hid hwb
  rw [← hwb] at Hb0 Hb3
  have H0 := hid Hb0
  have H1 := hid Hb1
  have H2 := hid Hb2
  have H3 := hid Hb3
  clear hst hst' hws hws' hos how he hf ht0 hg hwb Hb0 Hb1 Hb2 Hb3
  go_enter Try.func65, Try.ntmps65
  go_wp2_with fail
  rw [← hW]
  clear hW
  refine (blending_any c _ st _ wt g n W (by omega) (HCE.out W (Below.refl _ _)) hsm HST.out hsl).mono ?_
  rintro e w1 ⟨hb1, v, rfl, -, hw⟩
  replace hw := hw HE.out
  rw [HE.out]
  have hwk := hw
  obtain ⟨bb, _, _, _, _, hvv, -⟩ := hw
  subst hvv
  have HB1 := hid hb1
  have hs1 := hb1.size
  clear hb1
  have j0 := cell_of_row (HBOX.out w1 HB1.out) 0
  have j1 := cell_of_row (HBOX.out w1 HB1.out) 1
  have j2 := cell_of_row (HBOX.out w1 HB1.out) 2
  simp only [List.getElem?_toArray, List.getElem?_cons_zero, List.getElem?_cons_succ] at j0 j1 j2
  go_wp2_with fail
  refine (weights_hid _ _ _ _ _ ws HWB _ n w1 (by omega) (by omega) (HWS.out w1 HB1.out) hwl).mono ?_
  rintro e w2 ⟨rfl, hb2⟩
  have HB2 := hid (below_after HB1.out hb2 (Nat.le_refl _))
  have HC2 := hid hb2
  have hs2 := HB2.out.size
  have hd2 := hb2.size
  clear hb2 j0 j1 j2
  cases wb with
  | false =>
    go_wp2
    go_ret
    obtain rfl := H0.out (by simp)
    exact ⟨rfl, hWb.trans (HB2.out.mono (by omega))⟩
  | true =>
    have hbd := isW_bd HWB.out.symm
    have hw3 : ws.length = c.heaps.length := by have := HWB.out.symm; simp only [weightsB, Bool.and_eq_true, beq_iff_eq] at this; exact this.1
    have HW3 := hid hw3
    clear hw3
    have HBD := hid hbd
    have hsum := sumI_le (l := ws) (m := 1000) fun x hx => (hbd x hx).2
    obtain ⟨sm, hsmI⟩ : ∃ sm, sm = sumI ws := ⟨_, rfl⟩
    have HSM := hid hsmI
    clear hbd
    go_wp2_with fail
    refine (sum_any ws _ n w2 (HWS.out w2 HB2.out) hwl HBD.out).mono ?_
    rw [← hsmI]
    clear hsmI hsum
    rintro e w' ⟨rfl, rfl⟩
    by_cases hse : sm = wt
    · have hse' : (sm != wt) = false := by simp [hse]
      have hse2 : (sm == wt) = true := by simp [hse]
      go_wp2
      go_loopw [39] (fun i wr => ∃ k : Nat, k ≤ ws.length ∧ i = .int .i64 k ∧ Hid (∀ j, j < k → ws.getD j 0 ≤ st.getD j 0) ∧ Below w2.heap.size w2 wr) (fun i _ => ws.length - (intOf i).toNat)
      case atStart => exact ⟨0, by omega, rfl, hid (fun j hj => by omega), Below.refl _ _⟩
      case round =>
        obtain ⟨k, hk, rfl, HI, hbr⟩ := hrel
        have hbrs := hbr.size
        by_cases hlt : k < ws.length
        · have hlt2 : k < st.length := by have := HS1.out; have := HW3.out; omega
          rcases HOW.out with hnil | ⟨b1, off1, rfl, hbn1, hc1⟩
          · rw [hnil] at hlt; simp at hlt
          rcases HOS.out with hnil | ⟨b2, off2, rfl, hbn2, hc2⟩
          · rw [hnil] at hlt2; simp at hlt2
          have hbn1' : b1 < n := hbn1
          have hbn2' : b2 < n := hbn2
          have HAL := hid (hWb.trans (below_after HB2.out hbr (Nat.le_refl _) |>.mono (by omega)))
          have y1 := (HAL.out.cell (p := ⟨b1, off1 + k, none⟩) (by show b1 < _; omega)).trans (hc1 k hlt)
          have y2 := (HAL.out.cell (p := ⟨b2, off2 + k, none⟩) (by show b2 < _; omega)).trans (hc2 k hlt2)
          have hx : ws[k] = ws.getD k 0 := by rw [List.getD_eq_getElem?_getD, List.getElem?_eq_getElem hlt]; rfl
          have hy : st[k] = st.getD k 0 := by rw [List.getD_eq_getElem?_getD, List.getElem?_eq_getElem hlt2]; rfl
          rw [hx] at y1
          rw [hy] at y2
          have HK2 := hid (H2.out k hlt)
          have HNX := hid (fun h j (hj : j < k + 1) => (by
            by_cases e : j = k
            · subst e; exact h
            · exact HI.out j (by omega)) : ws.getD k 0 ≤ st.getD k 0 → ∀ j, j < k + 1 → ws.getD j 0 ≤ st.getD j 0)
          clear hx hy hc1 hc2
          generalize ws.getD k 0 = x at *
          generalize st.getD k 0 = y at *
          by_cases hgt : y < x
          · have hgd : decide (y < x) = true := decide_eq_true hgt
            have HR := hid (HK2.out hgt)
            go_wp2
            go_ret
            obtain rfl := HR.out
            exact ⟨rfl, HAL.out⟩
          · have hgd : decide (y < x) = false := decide_eq_false hgt
            have HR := hid (HNX.out (by omega))
            go_wp2
            go_roundw
            case rel => exact ⟨k + 1, by omega, by go_num, HR, hbr⟩
            case measure => simp [intOf]; omega
        · have hke : k = ws.length := by omega
          subst hke
          have HR := hid (H3.out (by simp) (by rw [← HSM.out]; exact hse) HI.out)
          have HLW := hid ((hwk.below HC2.out).below (hbr.mono (by omega)))
          have hsp : 0 < sumI ws := by rw [← HSM.out]; omega
          have HAL := hid (below_after HB2.out hbr (Nat.le_refl _))
          go_wp2_with fail
          refine (least_any c _ HT.out.1 HT.out.2 _ wr.heap.size ws _ wr (Nat.le_refl _) (HLW.out.le (by omega)) ((HWS.out wr HAL.out).le (by omega)) (by have := HW3.out; omega) HBD.out hsp).mono ?_
          rintro e w5 ⟨rfl, hb5⟩
          go_wp2
          go_ret
          obtain rfl := HR.out
          exact ⟨rfl, hWb.trans ((below_after HAL.out hb5 (Nat.le_refl _)).mono (by omega))⟩
    · have hse' : (sm != wt) = true := by simp [hse]
      have hse2 : (sm == wt) = false := by simp [hse]
      go_wp2
      go_ret
      obtain rfl := H1.out (by rw [← HSM.out]; exact hse)
      exact ⟨rfl, hWb.trans (HB2.out.mono (by omega))⟩

/-! ### ProveDecide -/
theorem ProveDecide1_any (g : Int) (b : Nat) (w : World) (h : w.cell? ⟨b, 0, none⟩ = some (.int .i64 g)) :
    Calls Try.prog 126 #[.pointer (some ⟨b, 0, none⟩)] w fun e w' => e = .returned (.bool (within g 0 100)) ∧ Below w.heap.size w w' := by
  go_enter Try.func126, Try.ntmps126
  go_wp2_with (go_at_call 86; refine (graded_any _ _).mono ?_; rintro e w' ⟨rfl, rfl⟩)
  go_ret
  exact ⟨rfl, Below.refl _ _⟩

/-- The box of ProveDecide, and what it asks. -/
theorem proveDecide_err (c : Ce) (vc : Value) (g : Int) (ts : List Int) (vt : Value) (n : Nat) (w : World) (hn : n ≤ w.heap.size) (h : CeV (Lt n) w vc c) (hsm : Small c) (he : askErr c (within g 0 100) ≠ 0) :
    Calls Try.prog 73 #[vc, .int .i64 g, vt] w (RetB false w) := by
  have hmf : ∀ (fn : Fn) (first cap : Array Value) (w : World), (Instr.makeFunc fn first cap).run Try.prog w = .ok (.func fn first cap) w := fun _ _ _ _ => rfl
  have h' := h
  obtain ⟨ha, hc, ka, kc, ta, tc, rfl, -, -, -⟩ := h.open
  obtain ⟨W, hW⟩ : ∃ W, W = (w.alloc (.cells #[.slice ha c.heaps.length hc, .slice ka c.casks.length kc, .slice ta c.trials.length tc] 35)).alloc (.cells #[.int .i64 g] 3) := ⟨_, rfl⟩
  have hWs : W.heap.size = w.heap.size + 2 := by rw [hW]; simp
  have hWb : Below w.heap.size w W := by rw [hW]; exact below_alloc2 (Nat.le_refl _) _ _
  have q1 : W.heap[w.heap.size + 1]? = some (.cells #[.int .i64 g] 3 (0, 0)) := by rw [hW]; exact heap_new2 _ _ _
  have HASK := hid (asked_any c (.agg #[.slice ha c.heaps.length hc, .slice ka c.casks.length kc, .slice ta c.trials.length tc]) (within g 0 100) 126 #[.pointer (some ⟨w.heap.size + 1, 0, none⟩)] n W (by omega) (h'.below (hWb.mono hn)) hsm (enters_of Try.func126 (by kernel_rfl) rfl)
    (fun _ w2 hb => ProveDecide1_any g _ w2 ((hb.cell (p := ⟨w.heap.size + 1, 0, none⟩) (by show w.heap.size + 1 < _; omega)).trans (cell_of_row q1 0))))
  have hne : (askErr c (within g 0 100) != 0) = true := by simpa using he
  generalize hea : askErr c (within g 0 100) = ea at *
  have HE := hid hea
  have HNE := hid he
  clear he q1 hea h h'
  go_enter Try.func73, Try.ntmps73
  go_wp2_with fail
  rw [← hW]
  refine HASK.out.mono ?_
  rintro e w2 ⟨hb2, v, rfl, hv0, -⟩
  have hvv := hv0 (by rw [HE.out]; exact HNE.out)
  subst hvv
  rw [HE.out]
  go_wp2
  go_ret
  exact ⟨rfl, hWb.trans (hb2.mono (by omega))⟩

theorem isThing_hid {b : Bool} (c : Ce) (ha ka : Option Addr) (hcap kcap : Nat) (tv : Value) (t : Int) (HB : Hid (b = within t 0 ((c.heaps.length : Int) + c.casks.length - 1))) (w : World) (hhl : c.heaps.length ≤ 1000) (hkl : c.casks.length ≤ 1000) :
    Calls Try.prog 127 #[.agg #[.slice ha c.heaps.length hcap, .slice ka c.casks.length kcap, tv], .int .i64 t] w fun e w' => e = .returned (.bool b) ∧ Below w.heap.size w w' := by
  rw [HB.out]; exact isThing_any _ _ ha ka hcap kcap tv t w hhl hkl

/-- A list of things rises up to a number. -/
def RisesTo (N : Int) (ts : List Int) (k : Nat) : Prop := ∀ j, j < k → 0 ≤ ts.getD j 0 ∧ ts.getD j 0 < N ∧ (0 < j → ts.getD (j - 1) 0 < ts.getD j 0)

set_option maxHeartbeats 2000000 in
theorem proveDecide_go (c : Ce) (vc : Value) (g : Int) (ts : List Int) (vt : Value) (n : Nat) (w : World) (hn : n ≤ w.heap.size) (h : CeV (Lt n) w vc c) (hsm : Small c) (hts : Ints (Lt n) w vt ts) (htl : ts.length ≤ 1000) (he : askErr c (within g 0 100) = 0)
    (b : Bool) (Hb0 : ∀ k, k < ts.length → ¬ (0 ≤ ts.getD k 0 ∧ ts.getD k 0 < c.heaps.length + c.casks.length ∧ (0 < k → ts.getD (k - 1) 0 < ts.getD k 0)) → b = false) (Hb1 : RisesTo (c.heaps.length + c.casks.length) ts ts.length → b = decP c g ts) :
    Calls Try.prog 73 #[vc, .int .i64 g, vt] w (RetB b w) := by
  have hmf : ∀ (fn : Fn) (first cap : Array Value) (w : World), (Instr.makeFunc fn first cap).run Try.prog w = .ok (.func fn first cap) w := fun _ _ _ _ => rfl
  have h' := h
  obtain ⟨ha, hc, ka, kc, ta, tc, rfl, -, -, -⟩ := h.open
  have hts' := hts
  obtain ⟨sa, scap, rfl, -, hot⟩ := hts.open1
  obtain ⟨hf, -, ht0⟩ := askErr_zero he
  have hg := (fault_good hf).1
  obtain ⟨⟨g1, g2, g3, -⟩, -⟩ := hg.facts
  obtain ⟨W, hW⟩ : ∃ W, W = (w.alloc (.cells #[.slice ha c.heaps.length hc, .slice ka c.casks.length kc, .slice ta c.trials.length tc] 35)).alloc (.cells #[.int .i64 g] 3) := ⟨_, rfl⟩
  have hWs : W.heap.size = w.heap.size + 2 := by rw [hW]; simp
  have hWb : Below w.heap.size w W := by rw [hW]; exact below_alloc2 (Nat.le_refl _) _ _
  have q1 : W.heap[w.heap.size + 1]? = some (.cells #[.int .i64 g] 3 (0, 0)) := by rw [hW]; exact heap_new2 _ _ _
  have q0 : W.heap[w.heap.size]? = some (.cells #[.slice ha c.heaps.length hc, .slice ka c.casks.length kc, .slice ta c.trials.length tc] 35 (0, 0)) := by rw [hW, Below.heap_alloc _ _ _ (by simp)]; exact heap_new _ _
  have HASK := hid (asked_any c (.agg #[.slice ha c.heaps.length hc, .slice ka c.casks.length kc, .slice ta c.trials.length tc]) (within g 0 100) 126 #[.pointer (some ⟨w.heap.size + 1, 0, none⟩)] n W (by omega) (h'.below (hWb.mono hn)) hsm (enters_of Try.func126 (by kernel_rfl) rfl)
    (fun _ w2 hb => ProveDecide1_any g _ w2 ((hb.cell (p := ⟨w.heap.size + 1, 0, none⟩) (by show w.heap.size + 1 < _; omega)).trans (cell_of_row q1 0))))
  have HBOX := hid (fun w1 (hb : Below W.heap.size W w1) => (hb.block w.heap.size (by omega)).trans q0 : ∀ w1, Below W.heap.size W w1 → w1.heap[w.heap.size]? = _)
  have HBG := hid (fun w1 (hb : Below W.heap.size W w1) => (hb.block (w.heap.size + 1) (by omega)).trans q1 : ∀ w1, Below W.heap.size W w1 → w1.heap[w.heap.size + 1]? = _)
  have HTS := hid (fun w1 (hb : Below W.heap.size W w1) => hts'.below ((hWb.trans (hb.mono (by omega))).mono hn) : ∀ w1, Below W.heap.size W w1 → Ints (Lt n) w1 _ ts)
  have HOT := hid hot
  have HE := hid he
  have HG := hid (And.intro hg (And.intro (truths_fits hg []) (truthsOf_few hf [])))
  have H0 := hid Hb0
  have H1 := hid Hb1
  clear he q1 q0 h h' hts hts' hot hf hg ht0 Hb0 Hb1
  go_enter Try.func73, Try.ntmps73
  go_wp2_with fail
  rw [← hW]
  clear hW
  refine HASK.out.mono ?_
  rintro e w1 ⟨hb1, v, rfl, -, hw⟩
  replace hw := hw HE.out
  rw [HE.out]
  have hwk := hw
  obtain ⟨bb, _, _, _, _, hvv, -⟩ := hw
  subst hvv
  have HWK := hid hwk
  have HB1 := hid hb1
  have hs1 := hb1.size
  clear hb1 hwk HASK
  go_wp2
  go_loopw [21] (fun i wr => ∃ k : Nat, k ≤ ts.length ∧ i = .int .i64 k ∧ Hid (RisesTo (c.heaps.length + c.casks.length) ts k) ∧ Below w1.heap.size w1 wr) (fun i _ => ts.length - (intOf i).toNat)
  case atStart => exact ⟨0, by omega, rfl, hid (fun j hj => by omega), Below.refl _ _⟩
  case round =>
    obtain ⟨k, hk, rfl, HI, hbr⟩ := hrel
    have hbrs := hbr.size
    have HBR := hid (below_after HB1.out hbr (Nat.le_refl _))
    have HLR := hid hbr
    have j0 := cell_of_row (HBOX.out wr HBR.out) 0
    have j1 := cell_of_row (HBOX.out wr HBR.out) 1
    have j2 := cell_of_row (HBOX.out wr HBR.out) 2
    have jg := cell_of_row (HBG.out wr HBR.out) 0
    simp only [List.getElem?_toArray, List.getElem?_cons_zero, List.getElem?_cons_succ] at j0 j1 j2 jg
    clear hbr
    by_cases hlt : k < ts.length
    · rcases HOT.out with hnil | ⟨b1, off1, rfl, hbn1, hc1⟩
      · rw [hnil] at hlt; simp at hlt
      have hbn1' : b1 < n := hbn1
      have HAL := hid (hWb.trans (HBR.out.mono (by omega)))
      have y1 := (HAL.out.cell (p := ⟨b1, off1 + k, none⟩) (by show b1 < _; omega)).trans (hc1 k hlt)
      have hx : ts[k] = ts.getD k 0 := by rw [List.getD_eq_getElem?_getD, List.getElem?_eq_getElem hlt]; rfl
      rw [hx] at y1
      have HK0 := hid (H0.out k hlt)
      have HNX := hid (fun (h : 0 ≤ ts.getD k 0 ∧ ts.getD k 0 < c.heaps.length + c.casks.length ∧ (0 < k → ts.getD (k - 1) 0 < ts.getD k 0)) => (fun j hj => by
        by_cases e : j = k
        · subst e; exact h
        · exact HI.out j (by omega) : RisesTo (c.heaps.length + c.casks.length) ts (k + 1)))
      have HC1 := hid hc1
      obtain ⟨x, hxe⟩ : ∃ x, x = ts.getD k 0 := ⟨_, rfl⟩
      rw [← hxe] at y1 HK0 HNX
      have HXE := hid hxe
      clear hx hc1 hxe
      obtain ⟨tb, htb⟩ : ∃ tb, tb = within x 0 ((c.heaps.length : Int) + c.casks.length - 1) := ⟨_, rfl⟩
      have HTB := hid htb
      clear htb
      go_wp2_with fail
      refine (isThing_hid c _ _ _ _ _ _ HTB wr (by omega) (by omega)).mono ?_
      rintro e w2 ⟨rfl, hb2⟩
      have HB2 := hid (below_after HBR.out hb2 (Nat.le_refl _))
      have HL2 := hid (below_after HLR.out hb2 (Nat.le_refl _))
      have hs2 := HB2.out.size
      have HAL2 := hid (hWb.trans (HB2.out.mono (by omega)))
      clear hb2 j0 j1 j2 jg y1
      cases tb with
      | false =>
        have HR := hid (HK0.out (fun hh => by
          have h1 := HTB.out.symm
          rw [within_iff.2 (by omega)] at h1
          cases h1))
        go_wp2
        go_ret
        obtain rfl := HR.out
        exact ⟨rfl, HAL2.out⟩
      | true =>
        have hin := within_iff.1 HTB.out.symm
        by_cases hz : k = 0
        · subst hz
          have HR := hid (HNX.out ⟨by omega, by omega, fun h => by omega⟩)
          have hd : decide ((0 : Int) < ((0 : Nat) : Int)) = false := rfl
          clear hin
          go_wp2
          go_roundw
          case rel => exact ⟨1, by omega, by go_num, HR, HL2.out⟩
          case measure => simp [intOf]; omega
        · have hd : decide ((0 : Int) < (k : Int)) = true := decide_eq_true (by omega)
          have hdn : decide (0 < k) = true := decide_eq_true (by omega)
          have hkp : 1 ≤ k := by omega
          have hk1 : k - 1 < ts.length := by omega
          have y2 := (HAL2.out.cell (p := ⟨b1, off1 + (k - 1), none⟩) (by show b1 < _; omega)).trans (HC1.out (k - 1) hk1)
          have hy : ts[k - 1] = ts.getD (k - 1) 0 := by rw [List.getD_eq_getElem?_getD, List.getElem?_eq_getElem hk1]; rfl
          rw [hy] at y2
          clear hy
          obtain ⟨y, hye⟩ : ∃ y, y = ts.getD (k - 1) 0 := ⟨_, rfl⟩
          rw [← hye] at y2 HK0 HNX
          clear hye
          have hwr2 : IntKind.i64.wrap ((k : Int) - 1) = (k : Int) - 1 := IntWalk.i64_in _ (by omega)
          by_cases hle : x ≤ y
          · have hled : decide (x ≤ y) = true := decide_eq_true hle
            have HR := hid (HK0.out (fun hh => by have := hh.2.2 (by omega); omega))
            clear hin
            go_wp2
            go_ret
            obtain rfl := HR.out
            exact ⟨rfl, HAL2.out⟩
          · have hled : decide (x ≤ y) = false := decide_eq_false hle
            have HR := hid (HNX.out ⟨by omega, by omega, fun _ => by omega⟩)
            clear hin
            go_wp2
            go_roundw
            case rel => exact ⟨k + 1, by omega, by go_num, HR, HL2.out⟩
            case measure => simp [intOf]; omega
    · have hke : k = ts.length := by omega
      subst hke
      have HR := hid (H1.out HI.out)
      have HLW := hid (HWK.out.below HLR.out)
      go_wp2_with fail
      refine (decides_any c HG.out.1 _ HG.out.2.1 HG.out.2.2 _ wr.heap.size g ts _ (fun t ht => by
        obtain ⟨j, hj, rfl⟩ := List.getElem_of_mem ht
        have := HI.out j hj
        rw [List.getD_eq_getElem?_getD, List.getElem?_eq_getElem hj] at this
        exact ⟨this.1, this.2.1⟩) htl wr (Nat.le_refl _) (HLW.out.le (by omega)) ((HTS.out wr HBR.out).le (by omega))).mono ?_
      rintro e w5 ⟨rfl, hb5⟩
      go_wp2
      go_ret
      obtain rfl := HR.out
      exact ⟨rfl, hWb.trans ((below_after HBR.out hb5 (Nat.le_refl _)).mono (by omega))⟩
end Go.Proofs.Ytjddcaimjofihaa
