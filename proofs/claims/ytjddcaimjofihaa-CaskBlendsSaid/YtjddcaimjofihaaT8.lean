/- The contract of the reference's Blend; no condition. -/
import Derived.Test.YtjddcaimjofihaaT7
namespace Go.Proofs.Ytjddcaimjofihaa
open Go.RowKit Go.Shelf
set_option maxRecDepth 100000

theorem trip_ints {S : Nat → Prop} {w : World} {bl : Nat} {t : TypeId} {n a b d : Nat} (hr : w.heap[bl]? = some (.cells #[.int .i64 a, .int .i64 b, .int .i64 d] t (0, 0))) (hg : S bl) (h3 : n ≤ 3) : Ints S w (.slice (some ⟨bl, 0, none⟩) n 3) (trip n a b d) := by
  have hl : (trip n a b d).length = n := by simp [trip]; omega
  refine ⟨_, 3, by rw [hl], by omega, .inr ⟨bl, 0, rfl, hg, fun j x hx i u hi => ?_⟩⟩
  have hj : j < n := by rw [← hl]; exact (List.getElem?_eq_some_iff.1 hx).1
  cases i with
  | succ i => simp at hi
  | zero =>
    simp only [List.getElem?_cons_zero, Option.some.injEq] at hi
    subst hi
    rw [show 0 + j * 1 + 0 = j by omega, cell_of_row hr]
    unfold trip at hx
    rw [List.getElem?_take, if_pos hj] at hx
    rcases (by omega : j = 0 ∨ j = 1 ∨ j = 2) with rfl | rfl | rfl
    all_goals
      simp at hx ⊢
      exact hx
theorem stN_get {st : List Int} (hst : ∀ x ∈ st, 0 ≤ x ∧ x ≤ 30) (i : Nat) (h : i < (st ++ [0, 0]).length) : (st ++ [(0 : Int), 0])[i] = (stN st i : Int) ∧ stN st i ≤ 30 := by
  unfold stN
  by_cases h1 : i < st.length
  · have := hst st[i] (List.getElem_mem h1)
    rw [List.getElem_append_left h1, List.getD_eq_getElem?_getD, List.getElem?_eq_getElem h1]
    simp only [Option.getD_some]
    omega
  · rw [List.getElem_append_right (by omega), List.getD_eq_getElem?_getD, List.getElem?_eq_none (by omega)]
    simp only [List.length_append, List.length_cons, List.length_nil] at h
    rcases (by omega : i - st.length = 0 ∨ i - st.length = 1) with e | e <;> simp [e]
theorem two_zeros (w : World) : Sl 1 encI (fun _ => True) (w.alloc (Obj.cells #[.int .i64 0, .int .i64 0] 3)) (.slice (some ⟨w.heap.size, 0, none⟩) 2 2) [0, 0] :=
  Sl.of_row (α := Int) (sz := 1) (enc := encI) (S := fun _ => True) (t := 3) (l := [0, 0]) (cs := #[.int .i64 0, .int .i64 0]) (c := 2) (heap_new w _) trivial rfl encI_length (by decide)
/-- What Blend returns. -/
def RetBl (r : Option (List Int)) (W : World) (e : Ending) (w' : World) : Prop := ∃ v, e = .returned (.tuple #[v, .bool r.isSome]) ∧ Ints (Lt w'.heap.size) w' v (r.getD []) ∧ Below W.heap.size W w'

set_option maxHeartbeats 8000000 in
theorem blendRf_any (c : Ce) (L : List (List Int)) (hfit : ∀ l ∈ L, Fit c l) (hLl : L.length ≤ 100000) (hcl : c.heaps.length ≤ 3) (hc1 : 1 ≤ c.heaps.length) (st : List Int) (wt g : Int) (hst : ∀ x ∈ st, 0 ≤ x ∧ x ≤ 30) (hsl : st.length = c.heaps.length) (hwt : 1 ≤ wt) (_ : wt ≤ 1000)
    (r : Option (List Int)) (H1 : ∀ t, Best (fun ws => isBlendR L st wt g ws = true) t → r = some t) (H2 : (∀ t, isBlendR L st wt g t = false) → r = none)
    (v vl vs : Value) (n : Nat) (w : World) (hn : n ≤ w.heap.size) (h : CeV (Lt n) w v c) (hl : Lss (Lt n) w vl L) (hs : Ints (Lt n) w vs st) :
    Calls Try.prog 68 #[v, vl, vs, .int .i64 wt, .int .i64 g] w (RetBl r w) := by
  have hl' := hl
  obtain ⟨la, lc, rfl, -, -⟩ := hl.open
  have hs' := hs
  obtain ⟨sa, sc, rfl, -, -⟩ := hs.open1
  have h' := h
  obtain ⟨ha, hc, ka, kc, ta, tc, rfl, hp1, hp2, hp3⟩ := h.open
  have HOP := hid (And.intro hp1 (And.intro hp2 hp3))
  clear hp1 hp2 hp3
  obtain ⟨W, hW⟩ : ∃ W, W = w.alloc (Obj.cells #[.slice ha c.heaps.length hc, .slice ka c.casks.length kc, .slice ta c.trials.length tc] 26) := ⟨_, rfl⟩
  have hWs : W.heap.size = w.heap.size + 1 := by rw [hW]; simp
  have hWb : Below w.heap.size w W := by rw [hW]; exact below_alloc1 (Nat.le_refl _) _
  have hWr : W.heap[w.heap.size]? = some (.cells #[.slice ha c.heaps.length hc, .slice ka c.casks.length kc, .slice ta c.trials.length tc] 26 (0, 0)) := by rw [hW]; exact heap_new _ _
  have HBOX := hid (fun w1 (hb : Below W.heap.size W w1) => (hb.block w.heap.size (by omega)).trans hWr : ∀ w1, Below W.heap.size W w1 → w1.heap[w.heap.size]? = _)
  have HCE := hid (fun w1 (hb : Below W.heap.size W w1) => h'.below (hWb.trans (hb.mono (by omega)) |>.mono hn) : ∀ w1, Below W.heap.size W w1 → CeV (Lt _) w1 _ c)
  clear hWr h' h
  have HSV := hid (fun w1 (hb : Below W.heap.size W w1) => hs'.below (hWb.trans (hb.mono (by omega)) |>.mono hn) : ∀ w1, Below W.heap.size W w1 → Ints (Lt n) w1 _ st)
  have HLV := hid (fun w1 (hb : Below W.heap.size W w1) => hl'.below (hWb.trans (hb.mono (by omega)) |>.mono hn) : ∀ w1, Below W.heap.size W w1 → Lss (Lt n) w1 _ L)
  have HFIT := hid hfit
  have HST := hid hst
  have HSL := hid hsl
  have HH1 := hid H1
  have HH2 := hid H2
  have hs3 : st.length ≤ 3 := by omega
  have hs1 : 1 ≤ st.length := by omega
  have HX0 := hid (stN_get hst)
  clear hl hl' hs hs' hfit hst hsl H1 H2 HOP
  have HSX := hid ((HSV.out W (Below.refl _ _)).below (below_alloc1 (by omega) (Obj.cells #[] 3)))
  have HEMP := hid (show Own (w.heap.size + 1) 3 1 encI (W.alloc (Obj.cells #[] 3)) (.slice (some ⟨w.heap.size + 1, 0, none⟩) 0 0) ([] : List Int) by have := Own.empty (α := Int) (base := w.heap.size + 1) (e := 3) (sz := 1) (enc := encI) W (by omega); rwa [hWs] at this)
  go_enter Try.func68, Try.ntmps68
  go_wp2_with (first
    | (at_builtin; refine wpList_appendL encI rfl _ _ 47 rfl (w.heap.size + 1) 3 _ 1 8 ints_under infoInt rfl (by decide) encI_length encI_one _ [] rfl (by have := HEMP.out; rw [hW] at this; exact this) _ _ st rfl (by have := HSX.out; rw [hW] at this; exact this) (by simp only [List.length_nil]; omega) (by decide) (by simp) ?_; intro v1 w1 hown1 hgr1
       rw [← hW] at hgr1
       have HOWN1 := hid hown1
       have HCG1 := hid (show Chg (fun b => b = w.heap.size + 1) (W.alloc (Obj.cells #[] 3)) w1 from (chg_grown hgr1).mono (fun b h => by injection h with h; exact h.symm))
       have hsz1 := hgr1.size
       simp only [World.size_alloc] at hsz1
       clear hown1 hgr1)
    | (at_builtin; refine wpList_appendL encI rfl _ _ 47 rfl (w.heap.size + 1) 3 _ 1 8 ints_under infoInt rfl (by decide) encI_length encI_one _ _ rfl (HOWN1.out.below (below_alloc1 (Nat.le_refl _) _)) (fun _ => True) _ [0, 0] rfl (two_zeros w1) (by simp only [List.length_append, List.length_nil, List.length_cons]; omega) (by decide) (by simp; omega) ?_; intro v2 w2 hown2 hgr2
       rw [List.nil_append] at hown2
       have hr2 : Ints (Lt w2.heap.size) w2 v2 (st ++ [0, 0]) := hown2.slLt encI_length
       have HB2 := hid (((below_alloc1 (Nat.le_refl _) (Obj.cells #[] 3)).trans (HCG1.out.below (n := W.heap.size) (by simp) (fun b hb h => by omega))).trans ((below_alloc1 (by omega) (Obj.cells #[.int .i64 0, .int .i64 0] 3)).trans (((chg_grown hgr2).mono (fun b h => HOWN1.out.block b h)).below (n := W.heap.size) (by simp; omega) (fun b hb h => by omega))))
       have hsz2 := hgr2.size
       simp only [World.size_alloc] at hsz2
       clear hown2 hgr2))
  obtain ⟨xa, xc, hvx, -, hxo⟩ := hr2.open1
  obtain ⟨xl, hxl⟩ : ∃ xl, xl = (st ++ [(0 : Int), 0]).length := ⟨_, rfl⟩
  have hxl2 : xl = st.length + 2 := by rw [hxl]; simp
  rw [← hxl] at hvx
  subst hvx
  rcases hxo with hnil | ⟨bx, offx, rfl, hbx, hcx⟩
  · simp at hnil
  have hbx' : bx < w2.heap.size := hbx
  have hc0 := hcx 0 (by omega)
  have hc1' := hcx 1 (by omega)
  have hc2 := hcx 2 (by omega)
  rw [(HX0.out 0 (by omega)).1] at hc0
  rw [(HX0.out 1 (by omega)).1] at hc1'
  rw [(HX0.out 2 (by omega)).1] at hc2
  have hx0 := (HX0.out 0 (by omega)).2
  have hx1 := (HX0.out 1 (by omega)).2
  have hx2 := (HX0.out 2 (by omega)).2
  have HC0 := hid hc0
  have HC1 := hid hc1'
  have HC2 := hid hc2
  have HZ0 := hid (show NoneB (isBlendR L st wt g) st wt 0 0 0 from fun a' b' d' h0 h1 h2 h3 h4 => by omega)
  have HBEST := hid (fun (a b d : Nat) (h : NoneB (isBlendR L st wt g) st wt a b d) (hp : isBlendR L st wt g (trip st.length a b d) = true) => (HH1.out _ (best_of HST.out hs3 hs1 h hp) : r = some (trip st.length a b d)))
  have HNONE := hid (fun (h : NoneB (isBlendR L st wt g) st wt (stN st 0 + 1) 0 0) => (HH2.out (none_of HST.out hs3 hs1 h) : r = none))
  have HNA := hid (fun (a b : Nat) (h : NoneB (isBlendR L st wt g) st wt a b 0) (hd : stN st 1 < b) => h.nextA hd)
  have HNB := hid (fun (a b d : Nat) (h : NoneB (isBlendR L st wt g) st wt a b d) (hd : stN st 2 < d) => h.nextB hd)
  have HND := hid (fun (a b d : Nat) (h : NoneB (isBlendR L st wt g) st wt a b d) (hd : ((a + b + d : Nat) : Int) = wt → isBlendR L st wt g (trip st.length a b d) = false) => h.nextD hd)
  generalize stN st 0 = x0 at *
  generalize stN st 1 = x1 at *
  generalize stN st 2 = x2 at *
  have hxl3 : 3 ≤ xl := by omega
  clear hcx hc0 hc1' hc2 hr2 hxl hbx HOWN1 HCG1 HSX HEMP hxl2
  have hsW2 := HB2.out.size
  go_wp2
  go_loopw [13] (fun i wr => ∃ a : Nat, a ≤ x0 + 1 ∧ i = .int .i64 a ∧ Hid (NoneB (isBlendR L st wt g) st wt a 0 0) ∧ Below w2.heap.size w2 wr) (fun i _ => x0 + 1 - (intOf i).toNat)
  case atStart => exact ⟨0, by omega, rfl, HZ0, Below.refl _ _⟩
  case round =>
    obtain ⟨a, ha1, rfl, HIA, hb3⟩ := hrel
    have HX3 := hid hb3
    have hs3' := hb3.size
    have y0 := (hb3.cell (p := ⟨bx, offx + 0, none⟩) hbx').trans HC0.out
    rw [Nat.add_zero] at y0
    obtain ⟨w3, hw3⟩ : ∃ w3, w3 = wr := ⟨_, rfl⟩
    clear hb3
    by_cases hlt : a ≤ x0
    · have hle : ((a : Int) ≤ (x0 : Int)) := by omega
      go_wp2
      rw [← hw3]
      rw [← hw3] at HX3 hs3'
      clear hw3 y0
      go_loopw [14] (fun i wr => ∃ b : Nat, b ≤ x1 + 1 ∧ i = .int .i64 b ∧ Hid (NoneB (isBlendR L st wt g) st wt a b 0) ∧ Below w3.heap.size w3 wr) (fun i _ => x1 + 1 - (intOf i).toNat)
      case atStart => exact ⟨0, by omega, rfl, HIA, Below.refl _ _⟩
      case round =>
        obtain ⟨b, hb1, rfl, HIB, hb4⟩ := hrel
        have HX4 := hid (HX3.out.trans (hb4.mono hs3'))
        have HL4 := hid hb4
        have hs4' := HX4.out.size
        have hs43 := hb4.size
        have y1 := (HX4.out.cell (p := ⟨bx, offx + 1, none⟩) hbx').trans HC1.out
        obtain ⟨w4, hw4⟩ : ∃ w4, w4 = wr := ⟨_, rfl⟩
        clear hb4
        by_cases hlt2 : b ≤ x1
        · have hle2 : ((b : Int) ≤ (x1 : Int)) := by omega
          go_wp2
          rw [← hw4]
          rw [← hw4] at HX4 HL4 hs4' hs43
          clear hw4 y1
          go_loopw [15] (fun i wr => ∃ d : Nat, d ≤ x2 + 1 ∧ i = .int .i64 d ∧ Hid (NoneB (isBlendR L st wt g) st wt a b d) ∧ Below w4.heap.size w4 wr) (fun i _ => x2 + 1 - (intOf i).toNat)
          case atStart => exact ⟨0, by omega, rfl, HIB, Below.refl _ _⟩
          case round =>
            obtain ⟨d, hd1, rfl, HID, hb5⟩ := hrel
            have HX5 := hid (HX4.out.trans (hb5.mono hs4'))
            have HL5 := hid hb5
            have hs5' := HX5.out.size
            have hs54 := hb5.size
            have y2 := (HX5.out.cell (p := ⟨bx, offx + 2, none⟩) hbx').trans HC2.out
            clear hb5
            by_cases hlt3 : d ≤ x2
            · have hle3 : ((d : Int) ≤ (x2 : Int)) := by omega
              obtain ⟨w6, hw6⟩ : ∃ w6, w6 = wr.alloc (Obj.cells #[.int .i64 a, .int .i64 b, .int .i64 d] 3) := ⟨_, rfl⟩
              have hb56 : Below wr.heap.size wr w6 := by rw [hw6]; exact below_alloc1 (Nat.le_refl _) _
              have hr6 : w6.heap[wr.heap.size]? = some (.cells #[.int .i64 a, .int .i64 b, .int .i64 d] 3 (0, 0)) := by rw [hw6]; exact heap_new _ _
              have hs6 : w6.heap.size = wr.heap.size + 1 := by rw [hw6]; simp
              have hti : Ints (Lt w6.heap.size) w6 (.slice (some ⟨wr.heap.size, 0, none⟩) st.length 3) (trip st.length a b d) := trip_ints hr6 (by show wr.heap.size < _; omega) hs3
              have htl : (trip st.length a b d).length ≤ 1000 := by simp [trip]; omega
              have HB6 := hid (HB2.out.trans ((HX5.out.trans (hb56.mono hs5')).mono (by omega)))
              have HE6 := hid (HL5.out.trans (hb56.mono hs54))
              have hsB6 := HB6.out.size
              have HTI := hid hti
              have HTL := hid htl
              have HNDD := hid (HND.out a b d HID.out)
              have HBB := hid (HBEST.out a b d HID.out)
              clear hti htl hr6 hb56
              by_cases hsum : (a : Int) + b + d = wt
              · have hse : (((a : Int) + b + d) == wt) = true := by simp [hsum]
                obtain ⟨ib, hib⟩ : ∃ ib, ib = isBlendR L st wt g (trip st.length a b d) := ⟨_, rfl⟩
                have HIBB := hid hib
                rw [← hib] at HNDD HBB
                clear hib
                have j0 := cell_of_row (HBOX.out w6 HB6.out) 0
                have j1 := cell_of_row (HBOX.out w6 HB6.out) 1
                have j2 := cell_of_row (HBOX.out w6 HB6.out) 2
                simp only [List.getElem?_toArray, List.getElem?_cons_zero, List.getElem?_cons_succ] at j0 j1 j2
                rw [hw6] at j0 j1 j2
                clear hsum
                go_wp2_with fail
                rw [← hw6]
                clear hw6
                refine (isBlendRf_any c L HFIT.out hLl hcl st (trip st.length a b d) wt g HIBB HST.out HSL.out HTL.out hwt _ _ _ _ w6.heap.size w6 (Nat.le_refl _) ((HCE.out w6 HB6.out).le (by omega)) ((HLV.out w6 HB6.out).le (by omega)) ((HSV.out w6 HB6.out).le (by omega)) HTI.out).mono ?_
                rintro e w7 ⟨rfl, hb7⟩
                have HB7 := hid (below_after HB6.out hb7 (Nat.le_refl _))
                have HE7 := hid (below_after HE6.out hb7 (Nat.le_refl _))
                have HT7 := hid ((HTI.out.below hb7).le hb7.size)
                clear hb7
                cases ib with
                | true =>
                  have HR := hid (HBB.out rfl)
                  go_wp2
                  go_ret2
                  rw [HR.out]
                  exact ⟨_, rfl, HT7.out, hWb.trans (HB7.out.mono (by omega))⟩
                | false =>
                  have HR := hid (HNDD.out (fun _ => rfl))
                  go_wp2
                  go_roundw
                  case rel => exact ⟨d + 1, by omega, by go_num, HR, HE7.out⟩
                  case measure => simp [intOf]; omega
              · have hse : (((a : Int) + b + d) == wt) = false := by rw [beq_eq_false_iff_ne]; exact hsum
                have HR := hid (HNDD.out (fun e => absurd (by omega) hsum))
                clear hsum
                go_wp2
                rw [← hw6]
                go_roundw
                case rel => exact ⟨d + 1, by omega, by go_num, HR, HE6.out⟩
                case measure => simp [intOf]; omega
            · have hle3 : ¬ ((d : Int) ≤ (x2 : Int)) := by omega
              have HR := hid (HNB.out a b d HID.out (by omega))
              have HE5 := hid (HL4.out.trans (HL5.out.mono hs43))
              go_wp2
              go_roundw
              case rel => exact ⟨b + 1, by omega, by go_num, HR, HE5.out⟩
              case measure => simp [intOf]; omega
        · have hle2 : ¬ ((b : Int) ≤ (x1 : Int)) := by omega
          have HR := hid (HNA.out a b HIB.out (by omega))
          clear hw4
          go_wp2
          go_roundw
          case rel => exact ⟨a + 1, by omega, by go_num, HR, HX4.out⟩
          case measure => simp [intOf]; omega
    · have hle : ¬ ((a : Int) ≤ (x0 : Int)) := by omega
      have hae : a = x0 + 1 := by omega
      subst hae
      have HR := hid (HNONE.out HIA.out)
      clear hw3
      go_wp2
      go_ret2
      rw [HR.out]
      exact ⟨_, rfl, Sl.nil, hWb.trans ((HB2.out.trans (HX3.out.mono (by omega))).mono (by omega))⟩
end Go.Proofs.Ytjddcaimjofihaa
