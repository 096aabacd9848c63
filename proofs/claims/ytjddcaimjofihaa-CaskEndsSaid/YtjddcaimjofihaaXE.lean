/- The walk of the law CaskEnds; no condition. -/
import Derived.Test.YtjddcaimjofihaaXF
import Derived.Test.YtjddcaimjofihaaR3
import Derived.Test.YtjddcaimjofihaaP4
namespace Go.Proofs.Ytjddcaimjofihaa
open Go.RowKit Go.Shelf
set_option maxRecDepth 100000

theorem things_hid {N : Nat} (c : Ce) (HN : Hid (N = c.heaps.length + c.casks.length)) (h3 : c.heaps.length ≤ 1000) (h4 : c.casks.length ≤ 1000) (v : Value) (n : Nat) (w : World) (h : CeV (Lt n) w v c) :
    Calls Try.prog 36 #[v] w fun e w' => e = .returned (.int .i64 N) ∧ Below w.heap.size w w' := by
  have := things_any c h3 h4 v n w h
  rwa [← Int.natCast_add, ← HN.out] at this
set_option maxHeartbeats 8000000 in
theorem CaskEnds_walk (c : Ce) (v : Value) {w : World} (h : CeV (Lt w.heap.size) w v c) (a : Int) (ha0 : 0 ≤ a ∧ a ≤ 255) :
    Calls Try.prog 5 #[v, .int .u8 a] w (RetT w) := by
  have h' := h
  obtain ⟨ha, hc, ka, kc, ta, tc, rfl, -, -, -⟩ := h.open
  obtain ⟨W, hW⟩ : ∃ W, W = w.alloc (Obj.cells #[.slice ha c.heaps.length hc, .slice ka c.casks.length kc, .slice ta c.trials.length tc] 26) := ⟨_, rfl⟩
  have hWs : W.heap.size = w.heap.size + 1 := by rw [hW]; simp
  have hWb : Below w.heap.size w W := by rw [hW]; exact below_alloc1 (Nat.le_refl _) _
  have hWr : W.heap[w.heap.size]? = some (.cells #[.slice ha c.heaps.length hc, .slice ka c.casks.length kc, .slice ta c.trials.length tc] 26 (0, 0)) := by rw [hW]; exact heap_new _ _
  have HBOX := hid (fun w1 (hb : Below W.heap.size W w1) => (hb.block w.heap.size (by omega)).trans hWr : ∀ w1, Below W.heap.size W w1 → w1.heap[w.heap.size]? = _)
  have HCE := hid (fun w1 (hb : Below W.heap.size W w1) => h'.below (hWb.trans (hb.mono (by omega)) |>.mono (Nat.le_refl _)) : ∀ w1, Below W.heap.size W w1 → CeV (Lt _) w1 _ c)
  clear hWr h' h
  obtain ⟨rb, hrb⟩ : ∃ rb, rb = readyB c := ⟨_, rfl⟩
  have HRB := hid hrb
  clear hrb
  cases rb with
  | false =>
    go_enter Try.func5, Try.ntmps5
    go_wp2_with fail
    rw [← hW]
    clear hW
    refine (ready_hid c HRB _ w.heap.size W (by omega) (HCE.out W (Below.refl _ _))).mono ?_
    rintro e w1 ⟨rfl, hb1⟩
    have HB1 := hid hb1
    clear hb1
    go_wp2_with (go_at_call 20; refine (awake_any _).mono ?_; rintro e wz ⟨rfl, hbz⟩)
    go_ret
    exact ⟨rfl, hWb.trans ((below_after HB1.out hbz (Nat.le_refl _)).mono (by omega))⟩
  | true =>
    have hf := ready_fault HRB.out.symm
    have hsm := thin_small (ready_thin HRB.out.symm)
    have hgood := (fault_good hf).1
    obtain ⟨⟨g1, g2, g3, -⟩, -⟩ := hgood.facts
    have HF := hid hf
    have HSM := hid hsm
    have HG0 := hid hgood
    obtain ⟨N, hN⟩ : ∃ N, N = c.heaps.length + c.casks.length := ⟨_, rfl⟩
    have HN := hid hN
    have hN0 : ((N : Int) == 0) = false := by rw [beq_eq_false_iff_ne]; omega
    have hNp : (0 : Int) < N := by omega
    obtain ⟨kk, hkk⟩ := Int.eq_ofNat_of_zero_le (Int.emod_nonneg a (show (N : Int) ≠ 0 by omega))
    have hkN : kk < N := by have := Int.emod_lt_of_pos a hNp; omega
    have HKK := hid hkk
    by_cases hT : truthsOf c [] = []
    · have HTR := hid ((truthsR_nil hf).2 hT)
      have HAE := hid (show askErr c true = 11 by unfold askErr; simp [hf, hT])
      clear hf hsm hgood hT hN hkk
      go_enter Try.func5, Try.ntmps5
      go_wp2_with fail
      rw [← hW]
      clear hW
      refine (ready_hid c HRB _ w.heap.size W (by omega) (HCE.out W (Below.refl _ _))).mono ?_
      rintro e w1 ⟨rfl, hb1⟩
      have HB1 := hid hb1
      have hs1 := HB1.out.size
      clear hb1
      have j0 := cell_of_row (HBOX.out w1 HB1.out) 0
      have j1 := cell_of_row (HBOX.out w1 HB1.out) 1
      have j2 := cell_of_row (HBOX.out w1 HB1.out) 2
      simp only [List.getElem?_toArray, List.getElem?_cons_zero, List.getElem?_cons_succ] at j0 j1 j2
      go_wp2_with fail
      refine (things_hid c HN (by omega) (by omega) _ w.heap.size w1 (HCE.out w1 HB1.out)).mono ?_
      rintro e w2 ⟨rfl, hb2⟩
      have HB2 := hid (below_after HB1.out hb2 (Nat.le_refl _))
      have hs2 := HB2.out.size
      have hd2 := hb2.size
      clear hb2 j0 j1 j2
      have j0 := cell_of_row (HBOX.out w2 HB2.out) 0
      have j1 := cell_of_row (HBOX.out w2 HB2.out) 1
      have j2 := cell_of_row (HBOX.out w2 HB2.out) 2
      simp only [List.getElem?_toArray, List.getElem?_cons_zero, List.getElem?_cons_succ] at j0 j1 j2
      go_wp2_with fail
      refine (CellarL_any c _ w.heap.size w2 (by omega) (HCE.out w2 HB2.out) HSM.out).mono ?_
      rintro e w3 ⟨v3, rfl, hc3, hb3⟩
      have HB3 := hid (below_after HB2.out hb3 (Nat.le_refl _))
      have hs3 := HB3.out.size
      have hd3 := hb3.size
      clear hb3 j0 j1 j2
      obtain ⟨_, _, _, _, _, _, rfl, -⟩ := id hc3.open
      go_wp2_with fail
      refine (bounds_code HAE.out HSM.out _ _ w3 (Nat.le_refl _) hc3).mono ?_
      rintro e w4 ⟨v4, u4, rfl, hb4⟩
      have HB4 := hid (below_after HB3.out hb4 (Nat.le_refl _))
      have hs4 := HB4.out.size
      have hd4 := hb4.size
      clear hb4
      clear hc3
      have j0 := cell_of_row (HBOX.out w4 HB4.out) 0
      have j1 := cell_of_row (HBOX.out w4 HB4.out) 1
      have j2 := cell_of_row (HBOX.out w4 HB4.out) 2
      simp only [List.getElem?_toArray, List.getElem?_cons_zero, List.getElem?_cons_succ] at j0 j1 j2
      go_wp2_with fail
      refine (truthsR_any c HF.out _ w.heap.size w4 (by omega) (HCE.out w4 HB4.out)).mono ?_
      rintro e w5 ⟨v5, rfl, ho5, hb5⟩
      have HB5 := hid (below_after HB4.out hb5 (Nat.le_refl _))
      have hs5 := HB5.out.size
      have hd5 := hb5.size
      clear hb5 j0 j1 j2
      rw [HTR.out] at ho5
      obtain ⟨_, _, rfl⟩ := ho5.open
      go_wp2_with (go_at_call 20; refine (awake_any _).mono ?_; rintro e wz ⟨rfl, hbz⟩)
      go_ret
      exact ⟨rfl, hWb.trans ((below_after HB5.out hbz (Nat.le_refl _)).mono (by omega))⟩
    · have hTR : truthsR c ≠ [] := fun h => hT ((truthsR_nil hf).1 h)
      have hap : askErr c true = 0 := by unfold askErr; simp [hf, hT]
      have HAE := hid hap
      have hmet := ends_met hf hT (k := (kk : Int)) (by omega) (by omega)
      have hat := bounds_at c kk (by omega)
      obtain ⟨r, hr⟩ : ∃ r, r = bnd c kk (truthsOf c []) := ⟨_, rfl⟩
      rw [← hr] at hmet hat
      have hfit := fun (l : List Int) (hl : l ∈ truthsR c) => fit_listed hgood (mem_truthsOf.1 ((mem_truthsR hf).1 hl)).1
      have htm : (truthsR c).length ≤ 150 := by
        have h1 := truthsN_length c (manyR c).toNat
        have h2 : truthsR c = truthsN c (manyR c).toNat := rfl
        have h3 := ready_many HRB.out.symm
        rw [h2]; omega
      obtain ⟨T, hTT⟩ : ∃ T, T = truthsR c := ⟨_, rfl⟩
      have HTT := hid hTT
      rw [← hTT] at hTR hmet hfit htm
      have HMET := hid hmet
      have HFIT := hid hfit
      have hTp : ¬ ((T.length : Int) = 0) := fun h => hTR (List.length_eq_zero_iff.1 (by omega))
      have hTp' : ((T.length : Int) == 0) = false := by rw [beq_eq_false_iff_ne]; exact hTp
      have hL1 : (heapB c).length = c.heaps.length := by simp [heapB]
      have hL2 : (caskB c).length = c.casks.length := by simp [caskB]
      obtain ⟨L1, hL1e⟩ : ∃ L, L = heapB c := ⟨_, rfl⟩
      obtain ⟨L2, hL2e⟩ : ∃ L, L = caskB c := ⟨_, rfl⟩
      have HBO := hid (show ∀ (vc : Value) (n : Nat) (w : World), n ≤ w.heap.size → CeV (Lt n) w vc c → Calls Try.prog 21 #[vc] w (RetBounds L1 L2 0 w) from fun vc n w hn h => by rw [hL1e, hL2e]; exact Bounds_ok c vc n w hn h hsm hap)
      rw [← hL1e] at hL1 hat
      rw [← hL2e] at hL2 hat
      have HAT := hid hat
      have hLN : (L1 ++ L2).length = N := by rw [List.length_append]; omega
      have HLA := hid hL1
      have HLB := hid hL2
      have HLC := hid hLN
      have hLs : L1.length ≤ 3 ∧ L2.length ≤ 3 := by omega
      clear hf hsm hgood hT hN hkk hTR hmet hfit hat hap hTT hTp hL1e hL2e hr hL1 hL2 hLN
      go_enter Try.func5, Try.ntmps5
      go_wp2_with fail
      rw [← hW]
      clear hW
      refine (ready_hid c HRB _ w.heap.size W (by omega) (HCE.out W (Below.refl _ _))).mono ?_
      rintro e w1 ⟨rfl, hb1⟩
      have HB1 := hid hb1
      have hs1 := HB1.out.size
      clear hb1
      have j0 := cell_of_row (HBOX.out w1 HB1.out) 0
      have j1 := cell_of_row (HBOX.out w1 HB1.out) 1
      have j2 := cell_of_row (HBOX.out w1 HB1.out) 2
      simp only [List.getElem?_toArray, List.getElem?_cons_zero, List.getElem?_cons_succ] at j0 j1 j2
      go_wp2_with fail
      refine (things_hid c HN (by omega) (by omega) _ w.heap.size w1 (HCE.out w1 HB1.out)).mono ?_
      rintro e w2 ⟨rfl, hb2⟩
      have HB2 := hid (below_after HB1.out hb2 (Nat.le_refl _))
      have hs2 := HB2.out.size
      have hd2 := hb2.size
      clear hb2 j0 j1 j2
      have j0 := cell_of_row (HBOX.out w2 HB2.out) 0
      have j1 := cell_of_row (HBOX.out w2 HB2.out) 1
      have j2 := cell_of_row (HBOX.out w2 HB2.out) 2
      simp only [List.getElem?_toArray, List.getElem?_cons_zero, List.getElem?_cons_succ] at j0 j1 j2
      go_wp2_with fail
      rw [HKK.out]
      refine (CellarL_any c _ w.heap.size w2 (by omega) (HCE.out w2 HB2.out) HSM.out).mono ?_
      rintro e w3 ⟨v3, rfl, hc3, hb3⟩
      have HB3 := hid (below_after HB2.out hb3 (Nat.le_refl _))
      have hs3 := HB3.out.size
      have hd3 := hb3.size
      clear hb3
      clear j0 j1 j2
      obtain ⟨_, _, _, _, _, _, rfl, -⟩ := id hc3.open
      go_wp2_with fail
      refine (HBO.out _ _ w3 (Nat.le_refl _) hc3).mono ?_
      rintro e w4 ⟨v4, u4, rfl, hx4, hy4, hb4⟩
      have HB4 := hid (below_after HB3.out hb4 (Nat.le_refl _))
      have hs4 := HB4.out.size
      have hd4 := hb4.size
      clear hb4
      obtain ⟨_, _, rfl, -, -⟩ := id hx4.at
      obtain ⟨_, _, rfl, -, -⟩ := id hy4.at
      have HX4 := hid hx4
      have HY4 := hid hy4
      have HL4 := hid (Below.refl w4.heap.size w4)
      clear hc3 hx4 hy4
      have j0 := cell_of_row (HBOX.out w4 HB4.out) 0
      have j1 := cell_of_row (HBOX.out w4 HB4.out) 1
      have j2 := cell_of_row (HBOX.out w4 HB4.out) 2
      simp only [List.getElem?_toArray, List.getElem?_cons_zero, List.getElem?_cons_succ] at j0 j1 j2
      go_wp2_with fail
      refine (truthsR_any c HF.out _ w.heap.size w4 (by omega) (HCE.out w4 HB4.out)).mono ?_
      rintro e w5 ⟨v5, rfl, ho5, hb5⟩
      have HB5 := hid (below_after HB4.out hb5 (Nat.le_refl _))
      have hs5 := HB5.out.size
      have hd5 := hb5.size
      have HL5 := hid (below_after HL4.out hb5 (Nat.le_refl _))
      have zHL5 := HL5.out.size
      clear hb5 j0 j1 j2
      rw [← HTT.out] at ho5
      have hl5 := ho5.lss
      obtain ⟨la5, lc5, rfl, -, hol⟩ := hl5.open
      have HOL := hid hol
      clear ho5 hl5 hol
      have HXX := hid ((HX4.out.below HL5.out).below (below_alloc1 (by omega) (Obj.cells #[] 58)))
      have HYY := hid ((HY4.out.below HL5.out).below (below_alloc1 (by omega) (Obj.cells #[] 58)))
      go_wp2_with (first
        | (at_builtin; refine wpList_appendL encR rfl _ _ 29 rfl w5.heap.size 58 _ 2 16 ranges_under infoRange rfl (by decide) encR_length encR_one _ [] rfl (Own.empty w5 (Nat.le_refl _)) _ _ L1 rfl HXX.out (by simp only [List.length_nil]; omega) (by decide) (by simp) ?_; intro v6 w6 hown6 hgr6; have HOWN6 := hid hown6; have HCG6 := hid (show Chg (fun b => b = w5.heap.size) (w5.alloc (Obj.cells #[] 58)) w6 from (chg_grown hgr6).mono (fun b h => by injection h with h; exact h.symm)); have hs6 := hgr6.size; simp only [World.size_alloc] at hs6; clear hown6 hgr6)
        | (at_builtin; refine wpList_appendL encR rfl _ _ 29 rfl w5.heap.size 58 _ 2 16 ranges_under infoRange rfl (by decide) encR_length encR_one _ _ rfl HOWN6.out _ _ L2 rfl (HYY.out.below (HCG6.out.below (by simp; omega) (fun b hb h => by omega))) (by simp only [List.length_append, List.length_nil]; omega) (by decide) (by omega) ?_; intro v7 w7 hown7 hgr7
           rw [List.nil_append] at hown7
           have hr7 : Rgs (Lt w7.heap.size) w7 v7 (L1 ++ L2) := hown7.slLt encR_length
           obtain ⟨pa7, pc7, hv7, -, hcc7⟩ := hr7.open2
           rw [HLC.out] at hv7
           subst hv7
           have HCC7 := hid hcc7
           have hs7 := hgr7.size
           have HE7 := hid (((below_alloc1 (Nat.le_refl _) (Obj.cells #[] 58)).trans ((HCG6.out.below (n := w5.heap.size) (by simp) (fun b hb h => by omega)).trans (((chg_grown hgr7).mono (fun b h => HOWN6.out.block b h)).below (n := w5.heap.size) (by omega) (fun b hb h => by omega)))))
           have HB7 := hid (HB5.out.trans (HE7.out.mono (by omega)))
           have hsW7 := HB7.out.size
           have j0 := cell_of_row (HBOX.out w7 HB7.out) 0
           have j1 := cell_of_row (HBOX.out w7 HB7.out) 1
           have j2 := cell_of_row (HBOX.out w7 HB7.out) 2
           simp only [List.getElem?_toArray, List.getElem?_cons_zero, List.getElem?_cons_succ] at j0 j1 j2
           clear hown7 hgr7 hr7 hcc7))
      have HA7 := hid (Below.refl w7.heap.size w7)
      have hkL : kk < (L1 ++ L2).length := by rw [HLC.out]; exact hkN
      rcases HCC7.out with hnil | ⟨b7, off7, rfl, hbn7, hcc⟩
      · rw [hnil] at hkL; simp at hkL
      have hbn7' : b7 < w7.heap.size := hbn7
      obtain ⟨y0, y1⟩ := hcc kk hkL
      have hel : (L1 ++ L2)[kk] = r := by have := HAT.out; rw [List.getElem?_eq_getElem hkL] at this; injection this
      rw [hel] at y0 y1
      obtain ⟨rlo, rhi⟩ := r
      simp only at y0 y1
      have HYlo := hid y0
      have HYhi := hid y1
      clear y0 y1 hcc hel hkL HCC7 HAT
      refine (things_hid c HN (by omega) (by omega) _ w.heap.size w7 (HCE.out w7 HB7.out)).mono ?_
      rintro e w8 ⟨rfl, hb8⟩
      have HB8 := hid (below_after HB7.out hb8 (Nat.le_refl _))
      have hs8 := HB8.out.size
      have hd8 := hb8.size
      have HE8 := hid (below_after HE7.out hb8 (Nat.le_refl _))
      have zHE8 := HE8.out.size
      have HA8 := hid (below_after HA7.out hb8 (Nat.le_refl _))
      have zHA8 := HA8.out.size
      clear hb8
      clear j0 j1 j2
      go_wp2
      go_loopw [11, 12] (fun mv i wr => ∃ k : Nat, k ≤ T.length ∧ i = .int .i64 k ∧ mv = .int .i64 (metV (lowB c kk ⟨rlo, rhi⟩ (T.take k)) (highB c kk ⟨rlo, rhi⟩ (T.take k))) ∧ Below w8.heap.size w8 wr) (fun _ i _ => T.length - (intOf i).toNat)
      case atStart => exact ⟨0, by omega, rfl, by simp [lowB, highB, metV], Below.refl _ _⟩
      case round =>
        obtain ⟨k, hk, rfl, rfl, hb9⟩ := hrel
        have HBr := hid (below_after HB8.out hb9 (Nat.le_refl _))
        have HEr := hid (below_after HE8.out hb9 (Nat.le_refl _))
        have HAr := hid (below_after HA8.out hb9 (Nat.le_refl _))
        have HRr := hid hb9
        have hsr := HBr.out.size
        have her := HEr.out.size
        have hrr := HAr.out.size
        clear hb9
        by_cases hlt : k < T.length
        · rcases HOL.out with hnil | ⟨b, off, rfl, hbn, hcc⟩
          · rw [hnil] at hlt; simp at hlt
          have hbn' : b < w5.heap.size := hbn.2
          obtain ⟨xv, y0, hx⟩ := hcc k hlt
          have hx5 : Ints (Lt w5.heap.size) w5 xv T[k] := hx.mono fun _ h => h.2
          have HT1 := hid (lowB_take c kk ⟨rlo, rhi⟩ T k hlt)
          have HT2 := hid (highB_take c kk ⟨rlo, rhi⟩ T k hlt)
          have HFK := hid (HFIT.out T[k] (List.getElem_mem _))
          clear hcc hx
          generalize T[k] = l at *
          obtain ⟨xa, xc, rfl, -, -⟩ := id hx5.open1
          have HXL := hid hx5
          have HYL := hid y0
          obtain ⟨z, hz⟩ : ∃ z, z = ofT c l kk := ⟨_, rfl⟩
          have HZ := hid hz
          rw [← hz] at HT1 HT2
          obtain ⟨A, hA⟩ : ∃ A, A = lowB c kk ⟨rlo, rhi⟩ (T.take k) := ⟨_, rfl⟩
          obtain ⟨B, hB⟩ : ∃ B, B = highB c kk ⟨rlo, rhi⟩ (T.take k) := ⟨_, rfl⟩
          rw [← hA] at HT1
          rw [← hB] at HT2
          rw [← hA, ← hB]
          obtain ⟨mz, hmz⟩ : ∃ mz, mz = metV A B := ⟨_, rfl⟩
          have HMZ := hid hmz
          rw [← hmz]
          clear hmz hA hB hz y0 hx5
          have j0 := cell_of_row (HBOX.out wr HBr.out) 0
          have j1 := cell_of_row (HBOX.out wr HBr.out) 1
          have j2 := cell_of_row (HBOX.out wr HBr.out) 2
          simp only [List.getElem?_toArray, List.getElem?_cons_zero, List.getElem?_cons_succ] at j0 j1 j2
          have z0 := (HEr.out.cell (p := ⟨b, off + k, none⟩) (by show b < _; omega)).trans HYL.out
          have z1 := (HAr.out.cell (p := ⟨b7, off7 + kk * 2, none⟩) (by show b7 < _; omega)).trans HYlo.out
          have hSS := hid (fun w' (h : Below wr.heap.size wr w') => ⟨(h.cell (p := ⟨w.heap.size, 0, none⟩) (by show w.heap.size < _; omega)).trans j0, (h.cell (p := ⟨w.heap.size, 1, none⟩) (by show w.heap.size < _; omega)).trans j1, (h.cell (p := ⟨w.heap.size, 2, none⟩) (by show w.heap.size < _; omega)).trans j2,
            (h.cell (p := ⟨b, off + k, none⟩) (by show b < _; omega)).trans z0, (h.cell (p := ⟨b7, off7 + kk * 2, none⟩) (by show b7 < _; omega)).trans z1⟩ :
            ∀ w', Below wr.heap.size wr w' → w'.cell? ⟨w.heap.size, 0, none⟩ = some (.slice ha c.heaps.length hc) ∧ w'.cell? ⟨w.heap.size, 1, none⟩ = some (.slice ka c.casks.length kc) ∧ w'.cell? ⟨w.heap.size, 2, none⟩ = some (.slice ta c.trials.length tc) ∧ w'.cell? ⟨b, off + k, none⟩ = some (.slice xa l.length xc) ∧ w'.cell? ⟨b7, off7 + kk * 2, none⟩ = some (.int .i64 rlo))
          go_wp2
          refine wp_region_grow (by kernel_rfl) 99 (fun w' => Below wr.heap.size wr w') ?_ ?_
          · exact (Below.refl _ _).drew
          have HG := fun (a b : World) (h : Below wr.heap.size wr a) (k : Below a.heap.size a b) => (h.trans (k.mono h.size) : Below wr.heap.size wr b)
          clear z0 z1 j0 j1 j2
          refine wpG_take (i := 0) (v := .agg #[.slice ha c.heaps.length hc, .slice ka c.casks.length kc, .slice ta c.trials.length tc]) rfl rfl (by kernel_rfl) (by kernel_rfl) (by kernel_rfl) (by kernel_rfl) (fun _ _ _ h => h) (by rfl) (fun w' hS' => grow_value ?_ hS') ?_
          · have ⟨s0, s1, s2, s3, s4⟩ := hSS.out _ hS'; go_simp
          try simp only [List.setIfInBounds_toArray, List.set_cons_zero, List.set_cons_succ]
          refine wpG_take (i := 1) (v := .slice (some ⟨b, off, none⟩) T.length lc5) rfl rfl (by kernel_rfl) (by kernel_rfl) (by kernel_rfl) (by kernel_rfl) (fun _ _ _ h => h) (by rfl) (fun w' hS' => grow_value ?_ hS') ?_
          · go_simp
          try simp only [List.setIfInBounds_toArray, List.set_cons_zero, List.set_cons_succ]
          refine wpG_take (i := 2) (v := .int .i64 k) rfl rfl (by kernel_rfl) (by kernel_rfl) (by kernel_rfl) (by kernel_rfl) (fun _ _ _ h => h) (by rfl) (fun w' hS' => grow_value ?_ hS') ?_
          · go_simp
          try simp only [List.setIfInBounds_toArray, List.set_cons_zero, List.set_cons_succ]
          refine wpG_take (i := 3) (v := .pointer (some ⟨b, off + k, none⟩)) rfl rfl (by kernel_rfl) (by kernel_rfl) (by kernel_rfl) (by kernel_rfl) (fun _ _ _ h => h) (by rfl) (fun w' hS' => grow_value ?_ hS') ?_
          · go_simp
          try simp only [List.setIfInBounds_toArray, List.set_cons_zero, List.set_cons_succ]
          refine wpG_take (i := 4) (v := .slice xa l.length xc) rfl rfl (by kernel_rfl) (by kernel_rfl) (by kernel_rfl) (by kernel_rfl) (fun _ _ _ h => h) (by rfl) (fun w' hS' => grow_value ?_ hS') ?_
          · have ⟨s0, s1, s2, s3, s4⟩ := hSS.out _ hS'; go_simp
          try simp only [List.setIfInBounds_toArray, List.set_cons_zero, List.set_cons_succ]
          refine wpG_take (i := 5) (v := .int .i64 kk) rfl rfl (by kernel_rfl) (by kernel_rfl) (by kernel_rfl) (by kernel_rfl) (fun _ _ _ h => h) (by rfl) (fun w' hS' => grow_value ?_ hS') ?_
          · go_simp
          try simp only [List.setIfInBounds_toArray, List.set_cons_zero, List.set_cons_succ]
          refine wpG_take (i := 6) (v := .int .i64 z) rfl rfl (by kernel_rfl) (by kernel_rfl) (by kernel_rfl) (by kernel_rfl) (fun _ _ _ h => h) (by rfl) (fun w' hS' => grow_make (f := 38) (args := #[.agg #[.slice ha c.heaps.length hc, .slice ka c.casks.length kc, .slice ta c.trials.length tc], .slice xa l.length xc, .int .i64 kk]) ?_ hS' HG ?_) ?_
          · have ⟨s0, s1, s2, s3, s4⟩ := hSS.out _ hS'; go_simp
          · have ⟨s0, s1, s2, s3, s4⟩ := hSS.out _ hS'; exact ofR_hid c HG0.out l HFK.out kk HZ _ _ (by omega) (by have := HN.out; omega) w5.heap.size _ (by have := hS'.size; omega) ((HCE.out _ (HBr.out.trans (hS'.mono (by omega)))).le (by omega)) (HXL.out.below (HEr.out.trans (hS'.mono (by omega))))
          try simp only [List.setIfInBounds_toArray, List.set_cons_zero, List.set_cons_succ]
          refine wpG_take (i := 7) (v := .slice (some ⟨b7, off7, none⟩) N pc7) rfl rfl (by kernel_rfl) (by kernel_rfl) (by kernel_rfl) (by kernel_rfl) (fun _ _ _ h => h) (by rfl) (fun w' hS' => grow_value ?_ hS') ?_
          · go_simp
          try simp only [List.setIfInBounds_toArray, List.set_cons_zero, List.set_cons_succ]
          refine wpG_take (i := 8) (v := .int .i64 kk) rfl rfl (by kernel_rfl) (by kernel_rfl) (by kernel_rfl) (by kernel_rfl) (fun _ _ _ h => h) (by rfl) (fun w' hS' => grow_value ?_ hS') ?_
          · go_simp
          try simp only [List.setIfInBounds_toArray, List.set_cons_zero, List.set_cons_succ]
          refine wpG_take (i := 9) (v := .pointer (some ⟨b7, off7 + kk * 2, none⟩)) rfl rfl (by kernel_rfl) (by kernel_rfl) (by kernel_rfl) (by kernel_rfl) (fun _ _ _ h => h) (by rfl) (fun w' hS' => grow_value ?_ hS') ?_
          · go_simp
          try simp only [List.setIfInBounds_toArray, List.set_cons_zero, List.set_cons_succ]
          refine wpG_take (i := 10) (v := .pointer (some ⟨b7, off7 + kk * 2, none⟩)) rfl rfl (by kernel_rfl) (by kernel_rfl) (by kernel_rfl) (by kernel_rfl) (fun _ _ _ h => h) (by rfl) (fun w' hS' => grow_value ?_ hS') ?_
          · go_simp
          try simp only [List.setIfInBounds_toArray, List.set_cons_zero, List.set_cons_succ]
          refine wpG_take (i := 11) (v := .int .i64 rlo) rfl rfl (by kernel_rfl) (by kernel_rfl) (by kernel_rfl) (by kernel_rfl) (fun _ _ _ h => h) (by rfl) (fun w' hS' => grow_value ?_ hS') ?_
          · have ⟨s0, s1, s2, s3, s4⟩ := hSS.out _ hS'; go_simp
          try simp only [List.setIfInBounds_toArray, List.set_cons_zero, List.set_cons_succ]
          refine wpG_take (i := 12) (v := .bool (z == rlo)) rfl rfl (by kernel_rfl) (by kernel_rfl) (by kernel_rfl) (by kernel_rfl) (fun _ _ _ h => h) (by rfl) (fun w' hS' => grow_value ?_ hS') ?_
          · go_simp
          try simp only [List.setIfInBounds_toArray, List.set_cons_zero, List.set_cons_succ]
          refine wpG_done (by kernel_rfl) (fun w10 hq hbx => ?_) _
          clear hSS HG hq
          have HB10 := hid (below_after HBr.out hbx (Nat.le_refl _))
          have HE10 := hid (below_after HEr.out hbx (Nat.le_refl _))
          have HA10 := hid (below_after HAr.out hbx (Nat.le_refl _))
          have HR10 := hid (below_after HRr.out hbx (Nat.le_refl _))
          have hs10 := HB10.out.size
          have he10 := HE10.out.size
          have hr10 := HA10.out.size
          clear hbx
          cases e1 : (z == rlo)
          all_goals
            have HT1' := hid (HT1.out.trans (by rw [e1]))
            have j0 := cell_of_row (HBOX.out w10 HB10.out) 0
            have j1 := cell_of_row (HBOX.out w10 HB10.out) 1
            have j2 := cell_of_row (HBOX.out w10 HB10.out) 2
            simp only [List.getElem?_toArray, List.getElem?_cons_zero, List.getElem?_cons_succ] at j0 j1 j2
            have z0 := (HE10.out.cell (p := ⟨b, off + k, none⟩) (by show b < _; omega)).trans HYL.out
            have z1 := (HA10.out.cell (p := ⟨b7, off7 + kk * 2+ 1, none⟩) (by show b7 < _; omega)).trans HYhi.out
            have hSS := hid (fun w' (h : Below w10.heap.size w10 w') => ⟨(h.cell (p := ⟨w.heap.size, 0, none⟩) (by show w.heap.size < _; omega)).trans j0, (h.cell (p := ⟨w.heap.size, 1, none⟩) (by show w.heap.size < _; omega)).trans j1, (h.cell (p := ⟨w.heap.size, 2, none⟩) (by show w.heap.size < _; omega)).trans j2,
              (h.cell (p := ⟨b, off + k, none⟩) (by show b < _; omega)).trans z0, (h.cell (p := ⟨b7, off7 + kk * 2+ 1, none⟩) (by show b7 < _; omega)).trans z1⟩ :
              ∀ w', Below w10.heap.size w10 w' → w'.cell? ⟨w.heap.size, 0, none⟩ = some (.slice ha c.heaps.length hc) ∧ w'.cell? ⟨w.heap.size, 1, none⟩ = some (.slice ka c.casks.length kc) ∧ w'.cell? ⟨w.heap.size, 2, none⟩ = some (.slice ta c.trials.length tc) ∧ w'.cell? ⟨b, off + k, none⟩ = some (.slice xa l.length xc) ∧ w'.cell? ⟨b7, off7 + kk * 2+ 1, none⟩ = some (.int .i64 rhi))
            go_wp2
            refine wp_region_grow (by kernel_rfl) 99 (fun w' => Below w10.heap.size w10 w') ?_ ?_
            · exact (Below.refl _ _).drew
            have HG := fun (a b : World) (h : Below w10.heap.size w10 a) (k : Below a.heap.size a b) => (h.trans (k.mono h.size) : Below w10.heap.size w10 b)
            clear z0 z1 j0 j1 j2
            refine wpG_take (i := 0) (v := .agg #[.slice ha c.heaps.length hc, .slice ka c.casks.length kc, .slice ta c.trials.length tc]) rfl rfl (by kernel_rfl) (by kernel_rfl) (by kernel_rfl) (by kernel_rfl) (fun _ _ _ h => h) (by rfl) (fun w' hS' => grow_value ?_ hS') ?_
            · have ⟨s0, s1, s2, s3, s4⟩ := hSS.out _ hS'; go_simp
            try simp only [List.setIfInBounds_toArray, List.set_cons_zero, List.set_cons_succ]
            refine wpG_take (i := 1) (v := .slice (some ⟨b, off, none⟩) T.length lc5) rfl rfl (by kernel_rfl) (by kernel_rfl) (by kernel_rfl) (by kernel_rfl) (fun _ _ _ h => h) (by rfl) (fun w' hS' => grow_value ?_ hS') ?_
            · go_simp
            try simp only [List.setIfInBounds_toArray, List.set_cons_zero, List.set_cons_succ]
            refine wpG_take (i := 2) (v := .int .i64 k) rfl rfl (by kernel_rfl) (by kernel_rfl) (by kernel_rfl) (by kernel_rfl) (fun _ _ _ h => h) (by rfl) (fun w' hS' => grow_value ?_ hS') ?_
            · go_simp
            try simp only [List.setIfInBounds_toArray, List.set_cons_zero, List.set_cons_succ]
            refine wpG_take (i := 3) (v := .pointer (some ⟨b, off + k, none⟩)) rfl rfl (by kernel_rfl) (by kernel_rfl) (by kernel_rfl) (by kernel_rfl) (fun _ _ _ h => h) (by rfl) (fun w' hS' => grow_value ?_ hS') ?_
            · go_simp
            try simp only [List.setIfInBounds_toArray, List.set_cons_zero, List.set_cons_succ]
            refine wpG_take (i := 4) (v := .slice xa l.length xc) rfl rfl (by kernel_rfl) (by kernel_rfl) (by kernel_rfl) (by kernel_rfl) (fun _ _ _ h => h) (by rfl) (fun w' hS' => grow_value ?_ hS') ?_
            · have ⟨s0, s1, s2, s3, s4⟩ := hSS.out _ hS'; go_simp
            try simp only [List.setIfInBounds_toArray, List.set_cons_zero, List.set_cons_succ]
            refine wpG_take (i := 5) (v := .int .i64 kk) rfl rfl (by kernel_rfl) (by kernel_rfl) (by kernel_rfl) (by kernel_rfl) (fun _ _ _ h => h) (by rfl) (fun w' hS' => grow_value ?_ hS') ?_
            · go_simp
            try simp only [List.setIfInBounds_toArray, List.set_cons_zero, List.set_cons_succ]
            refine wpG_take (i := 6) (v := .int .i64 z) rfl rfl (by kernel_rfl) (by kernel_rfl) (by kernel_rfl) (by kernel_rfl) (fun _ _ _ h => h) (by rfl) (fun w' hS' => grow_make (f := 38) (args := #[.agg #[.slice ha c.heaps.length hc, .slice ka c.casks.length kc, .slice ta c.trials.length tc], .slice xa l.length xc, .int .i64 kk]) ?_ hS' HG ?_) ?_
            · have ⟨s0, s1, s2, s3, s4⟩ := hSS.out _ hS'; go_simp
            · have ⟨s0, s1, s2, s3, s4⟩ := hSS.out _ hS'; exact ofR_hid c HG0.out l HFK.out kk HZ _ _ (by omega) (by have := HN.out; omega) w5.heap.size _ (by have := hS'.size; omega) ((HCE.out _ (HB10.out.trans (hS'.mono (by omega)))).le (by omega)) (HXL.out.below (HE10.out.trans (hS'.mono (by omega))))
            try simp only [List.setIfInBounds_toArray, List.set_cons_zero, List.set_cons_succ]
            refine wpG_take (i := 7) (v := .slice (some ⟨b7, off7, none⟩) N pc7) rfl rfl (by kernel_rfl) (by kernel_rfl) (by kernel_rfl) (by kernel_rfl) (fun _ _ _ h => h) (by rfl) (fun w' hS' => grow_value ?_ hS') ?_
            · go_simp
            try simp only [List.setIfInBounds_toArray, List.set_cons_zero, List.set_cons_succ]
            refine wpG_take (i := 8) (v := .int .i64 kk) rfl rfl (by kernel_rfl) (by kernel_rfl) (by kernel_rfl) (by kernel_rfl) (fun _ _ _ h => h) (by rfl) (fun w' hS' => grow_value ?_ hS') ?_
            · go_simp
            try simp only [List.setIfInBounds_toArray, List.set_cons_zero, List.set_cons_succ]
            refine wpG_take (i := 9) (v := .pointer (some ⟨b7, off7 + kk * 2, none⟩)) rfl rfl (by kernel_rfl) (by kernel_rfl) (by kernel_rfl) (by kernel_rfl) (fun _ _ _ h => h) (by rfl) (fun w' hS' => grow_value ?_ hS') ?_
            · go_simp
            try simp only [List.setIfInBounds_toArray, List.set_cons_zero, List.set_cons_succ]
            refine wpG_take (i := 10) (v := .pointer (some ⟨b7, off7 + kk * 2+ 1, none⟩)) rfl rfl (by kernel_rfl) (by kernel_rfl) (by kernel_rfl) (by kernel_rfl) (fun _ _ _ h => h) (by rfl) (fun w' hS' => grow_value ?_ hS') ?_
            · go_simp
            try simp only [List.setIfInBounds_toArray, List.set_cons_zero, List.set_cons_succ]
            refine wpG_take (i := 11) (v := .int .i64 rhi) rfl rfl (by kernel_rfl) (by kernel_rfl) (by kernel_rfl) (by kernel_rfl) (fun _ _ _ h => h) (by rfl) (fun w' hS' => grow_value ?_ hS') ?_
            · have ⟨s0, s1, s2, s3, s4⟩ := hSS.out _ hS'; go_simp
            try simp only [List.setIfInBounds_toArray, List.set_cons_zero, List.set_cons_succ]
            refine wpG_take (i := 12) (v := .bool (z == rhi)) rfl rfl (by kernel_rfl) (by kernel_rfl) (by kernel_rfl) (by kernel_rfl) (fun _ _ _ h => h) (by rfl) (fun w' hS' => grow_value ?_ hS') ?_
            · go_simp
            try simp only [List.setIfInBounds_toArray, List.set_cons_zero, List.set_cons_succ]
            refine wpG_done (by kernel_rfl) (fun w11 hq hbx => ?_) _
            clear hSS HG hq
            have HB11 := hid (below_after HB10.out hbx (Nat.le_refl _))
            have HE11 := hid (below_after HE10.out hbx (Nat.le_refl _))
            have HA11 := hid (below_after HA10.out hbx (Nat.le_refl _))
            have HR11 := hid (below_after HR10.out hbx (Nat.le_refl _))
            have hs11 := HB11.out.size
            have he11 := HE11.out.size
            have hr11 := HA11.out.size
            clear hbx
            cases e2 : (z == rhi)
            all_goals
              have HT2' := hid (HT2.out.trans (by rw [e2]))
              go_wp2
              go_roundw
              case rel => exact ⟨k + 1, by omega, by go_num, by rw [HT1'.out, HT2'.out, HMZ.out]; simp only [Bool.or_false, Bool.or_true, met_low, met_high], HR11.out⟩
              case measure => simp [intOf]; omega
        · have hke : k = T.length := by omega
          subst hke
          have hm3 : metV (lowB c kk ⟨rlo, rhi⟩ (T.take T.length)) (highB c kk ⟨rlo, rhi⟩ (T.take T.length)) = 3 := by rw [List.take_length, HMET.out.1, HMET.out.2]; rfl
          rw [hm3]
          clear hm3
          go_wp2_with (go_at_call 20; refine (awake_any _).mono ?_; rintro e wz ⟨rfl, hbz⟩)
          go_ret
          exact ⟨rfl, hWb.trans ((below_after HBr.out hbz (Nat.le_refl _)).mono (by omega))⟩
end Go.Proofs.Ytjddcaimjofihaa
