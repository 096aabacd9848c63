/- Contracts of the statements' Cellar and some; no condition. -/
import Derived.Test.YtjddcaimjofihaaL0
namespace Go.Proofs.Ytjddcaimjofihaa
open Go.RowKit Go.Shelf
set_option maxRecDepth 100000

theorem ranges_under : Try.prog.underlying 29 = some (.slice 58) := by kernel_rfl
theorem trials_under : Try.prog.underlying 33 = some (.slice 125) := by kernel_rfl
theorem infoTrial : (Try.prog.info? 125).map (fun i => (i.zero, i.size, i.bytes)) = some (some (.agg #[.bool false, .int .i64 0, .int .i64 0, .int .i64 0]), 4, 32) := by kernel_rfl
def encT4 (t : Tl) : List Value := [.bool t.cask, .int .i64 t.num, .int .i64 t.s.lo, .int .i64 t.s.hi]
theorem encT4_one (t : Tl) : ∀ u ∈ encT4 t, u.oneCell' = true := by
  intro u hu
  simp only [encT4, List.mem_cons, List.not_mem_nil, or_false] at hu
  rcases hu with rfl | rfl | rfl | rfl <;> rfl
theorem list_keep {w w' : World} {v : Value} {l : List Int} (h : Own w.heap.size 3 1 encI w' v l) : Ints (fun b => w.heap.size ≤ b ∧ b < w'.heap.size) w' v l := h.sl encI_length
theorem setCell_chg {A : World} {g i : Nat} (v : Value) : Chg (fun b => b = g) A (A.setCell ⟨g, i, none⟩ v) := ⟨rfl, rfl, rfl, by simp [World.setCell], fun b _ hne => Below.heap_setCell _ _ _ _ hne⟩
theorem grown_chg {A B : World} {v : Value} {base : Nat} (h : A.grownBy B v.ownBlock) (hb : ∀ k, v.ownBlock = some k → base ≤ k) : Chg (fun b => base ≤ b) A B :=
  ⟨h.os, h.tape, h.output, h.size, fun b hlt hne => h.block b hlt (fun e => hne (hb b e.symm))⟩

set_option maxHeartbeats 8000000 in
theorem CellarL_any (c : Ce) (v : Value) (n : Nat) (w : World) (hn : n ≤ w.heap.size) (h : CeV (Lt n) w v c) (hsm : Small c) :
    Calls Try.prog 22 #[v] w (RetC c w) := by
  have h' := h
  obtain ⟨ha, hc, ka, kc, ta, tc, rfl, H1, H2, H3⟩ := h.open
  obtain ⟨_, _, he, -, ho1⟩ := H1.open2
  cases he
  obtain ⟨_, _, he, -, ho2⟩ := H2.open
  cases he
  obtain ⟨_, _, he, -, ho3⟩ := H3.open4
  cases he
  have HO1 := hid ho1
  have HO2 := hid ho2
  have HO3 := hid ho3
  obtain ⟨m1, m2, m3, m4⟩ := hsm
  have HM4 := hid m4
  clear H1 H2 H3 ho1 ho2 ho3 m4
  obtain ⟨W, hW⟩ : ∃ W, W = ((w.alloc (Obj.cells #[.slice ha c.heaps.length hc, .slice ka c.casks.length kc, .slice ta c.trials.length tc] 26)).alloc (Obj.cells #[.slice none 0 0, .slice none 0 0, .slice none 0 0] 35)).alloc (Obj.cells #[.slice none 0 0, .slice none 0 0, .slice none 0 0] 35) := ⟨_, rfl⟩
  have hWs : W.heap.size = w.heap.size + 3 := by rw [hW]; simp
  have hWb : Below w.heap.size w W := by rw [hW]; exact below_alloc3 (Nat.le_refl _) _ _ _
  obtain ⟨q0, q1, q2⟩ := hW ▸ heap_three w _ _ _
  have r0 := cell_of_row q0 0
  have r1 := cell_of_row q0 1
  have r2 := cell_of_row q0 2
  simp only [List.getElem?_toArray, List.getElem?_cons_zero, List.getElem?_cons_succ] at r0 r1 r2
  go_enter Try.func22, Try.ntmps22
  have Q0 := hid q0
  have Q1 := hid q1
  have Q2 := hid q2
  clear q0 q1 q2
  go_wp2
  rw [← hW]
  clear hW
  go_loopw [4] (fun i wr => ∃ (k : Nat) (hv : Value), k ≤ c.heaps.length ∧ i = .int .i64 k ∧ Chg (fun b => b = w.heap.size + 1 + 1) W wr ∧ wr.heap[w.heap.size + 1 + 1]? = some (.cells #[hv, .slice none 0 0, .slice none 0 0] 35 (0, 0)) ∧ Own W.heap.size 58 2 encR wr hv (c.heaps.take k)) (fun i _ => c.heaps.length - (intOf i).toNat)
  case atStart => exact ⟨0, .slice none 0 0, by omega, rfl, Chg.refl _ _, Q2.out, Own.nil⟩
  case round =>
    obtain ⟨k, hv, hk, rfl, hch, hrow, hown⟩ := hrel
    have hsz := hch.size
    have j0 := (World.cell?_of_block (a := ⟨w.heap.size, 0, none⟩) (hch.block w.heap.size (by omega) (by omega))).trans r0
    have j1 := (World.cell?_of_block (a := ⟨w.heap.size, 1, none⟩) (hch.block w.heap.size (by omega) (by omega))).trans r1
    have j2 := (World.cell?_of_block (a := ⟨w.heap.size, 2, none⟩) (hch.block w.heap.size (by omega) (by omega))).trans r2
    have l0 : w.heap.size < wr.heap.size := by omega
    by_cases hlt : k < c.heaps.length
    · rcases HO1.out with hnil | ⟨b, off, rfl, hbn, hcc⟩
      · rw [hnil] at hlt; simp at hlt
      obtain ⟨y0, y1⟩ := hcc k hlt
      clear hcc
      have hbl : b < n := hbn
      have z0 := (World.cell?_of_block (a := ⟨b, off + k * 2, none⟩) (hch.block b (by omega) (by omega))).trans ((hWb.cell (p := ⟨b, off + k * 2, none⟩) (by show b < _; omega)).trans y0)
      have z1 := (World.cell?_of_block (a := ⟨b, off + k * 2 + 1, none⟩) (hch.block b (by omega) (by omega))).trans ((hWb.cell (p := ⟨b, off + k * 2 + 1, none⟩) (by show b < _; omega)).trans y1)
      have HT := hid (show c.heaps.take (k + 1) = c.heaps.take k ++ [c.heaps[k]] from List.take_succ_eq_append_getElem hlt)
      clear y0 y1
      generalize c.heaps[k] = r at *
      obtain ⟨lo, hi⟩ := r
      simp only at z0 z1
      have o0 := cell_of_row hrow 0
      simp only [List.getElem?_toArray, List.getElem?_cons_zero] at o0
      obtain ⟨pa, pc, hv0, -, -⟩ := hown.slLt encR_length
      obtain ⟨pm, hpm⟩ : ∃ pm, pm = (c.heaps.take k).length := ⟨_, rfl⟩
      rw [← hpm] at hv0
      have hpk : pm = k := by rw [hpm, List.length_take]; omega
      clear hpm
      subst hpk
      subst hv0
      have HROW := hid hrow
      have HOWN := hid hown
      have HCH := hid hch
      clear hrow hown hch
      go_wp2
      refine wp_region_till (by kernel_rfl) 11 (fun w' => w'.cell? ⟨w.heap.size + 1 + 1, 0, none⟩ = some (.slice pa pm pc) ∧ w'.cell? ⟨w.heap.size, 0, none⟩ = some (.slice (some ⟨b, off, none⟩) c.heaps.length hc) ∧ w'.cell? ⟨b, off + pm * 2, none⟩ = some (.int .i64 lo) ∧ w'.cell? ⟨b, off + pm * 2 + 1, none⟩ = some (.int .i64 hi)) ?_
      have hS0 : wr.drew.cell? ⟨w.heap.size + 1 + 1, 0, none⟩ = some (.slice pa pm pc) ∧ wr.drew.cell? ⟨w.heap.size, 0, none⟩ = some (.slice (some ⟨b, off, none⟩) c.heaps.length hc) ∧ wr.drew.cell? ⟨b, off + pm * 2, none⟩ = some (.int .i64 lo) ∧ wr.drew.cell? ⟨b, off + pm * 2 + 1, none⟩ = some (.int .i64 hi) := ⟨o0, j0, z0, z1⟩
      have hD : Below wr.heap.size wr wr.drew := (Below.refl _ _).drew
      have hDs : wr.drew.heap.size = wr.heap.size := rfl
      generalize wr.drew = D at *
      clear o0 j0 z0 z1
      refine wpTill_take (i := 0) (v := .pointer (some ⟨w.heap.size + 1 + 1, 0, none⟩)) rfl (by kernel_rfl) (by kernel_rfl) (by kernel_rfl) (by kernel_rfl) (fun _ _ _ h => h) (by rfl) ?_ hS0 ?_
      · rintro w ⟨g0, g1, g2, g3⟩
        go_simp
      simp only [Act.put, List.setIfInBounds_toArray]
      refine wpTill_take (i := 1) (v := .slice pa pm pc) rfl (by kernel_rfl) (by kernel_rfl) (by kernel_rfl) (by kernel_rfl) (fun _ _ _ h => h) (by rfl) ?_ hS0 ?_
      · rintro w ⟨g0, g1, g2, g3⟩
        go_simp
      simp only [Act.put]
      refine wpTill_take (i := 2) (v := .pointer (some ⟨w.heap.size, 0, none⟩)) rfl (by kernel_rfl) (by kernel_rfl) (by kernel_rfl) (by kernel_rfl) (fun _ _ _ h => h) (by rfl) ?_ hS0 ?_
      · rintro w ⟨g0, g1, g2, g3⟩
        go_simp
      simp only [Act.put]
      refine wpTill_take (i := 3) (v := .slice (some ⟨b, off, none⟩) c.heaps.length hc) rfl (by kernel_rfl) (by kernel_rfl) (by kernel_rfl) (by kernel_rfl) (fun _ _ _ h => h) (by rfl) ?_ hS0 ?_
      · rintro w ⟨g0, g1, g2, g3⟩
        go_simp
      simp only [Act.put]
      refine wpTill_take (i := 4) (v := .int .i64 pm) rfl (by kernel_rfl) (by kernel_rfl) (by kernel_rfl) (by kernel_rfl) (fun _ _ _ h => h) (by rfl) ?_ hS0 ?_
      · rintro w ⟨g0, g1, g2, g3⟩
        go_simp
      simp only [Act.put]
      refine wpTill_take (i := 5) (v := .pointer (some ⟨b, off + pm * 2, none⟩)) rfl (by kernel_rfl) (by kernel_rfl) (by kernel_rfl) (by kernel_rfl) (fun _ _ _ h => h) (by rfl) ?_ hS0 ?_
      · rintro w ⟨g0, g1, g2, g3⟩
        go_simp
      simp only [Act.put]
      refine wpTill_take (i := 6) (v := .agg #[.int .i64 lo, .int .i64 hi]) rfl (by kernel_rfl) (by kernel_rfl) (by kernel_rfl) (by kernel_rfl) (fun _ _ _ h => h) (by rfl) ?_ hS0 ?_
      · rintro w ⟨g0, g1, g2, g3⟩
        go_simp
      simp only [Act.put]
      have HSK : ∀ w2 : World, (∀ bb, bb < W.heap.size → w2.heap[bb]? = D.heap[bb]?) → (w2.cell? ⟨w.heap.size + 1 + 1, 0, none⟩ = some (.slice pa pm pc) ∧ w2.cell? ⟨w.heap.size, 0, none⟩ = some (.slice (some ⟨b, off, none⟩) c.heaps.length hc) ∧ w2.cell? ⟨b, off + pm * 2, none⟩ = some (.int .i64 lo) ∧ w2.cell? ⟨b, off + pm * 2 + 1, none⟩ = some (.int .i64 hi)) := fun w2 hk => ⟨(World.cell?_of_block (w := D) (a := ⟨w.heap.size + 1 + 1, 0, none⟩) (hk _ (by show w.heap.size + 1 + 1 < _; omega))).trans hS0.1, (World.cell?_of_block (w := D) (a := ⟨w.heap.size, 0, none⟩) (hk _ (by show w.heap.size < _; omega))).trans hS0.2.1, (World.cell?_of_block (w := D) (a := ⟨b, off + pm * 2, none⟩) (hk _ (by show b < _; omega))).trans hS0.2.2.1, (World.cell?_of_block (w := D) (a := ⟨b, off + pm * 2 + 1, none⟩) (hk _ (by show b < _; omega))).trans hS0.2.2.2⟩
      have HSKH := hid HSK
      clear HSK
      have HDK := hid (fun bb hb => hD.block bb hb : ∀ bb, bb < wr.heap.size → D.heap[bb]? = wr.heap[bb]?)
      refine wpTill_only (i := 7) rfl (by kernel_rfl) (by rfl) ?_
      go_simp
      refine (to_any lo hi _).mono ?_
      rintro e w5 ⟨rfl, hb5⟩
      have hs5 := hb5.size
      have k5 : ∀ bb, bb < W.heap.size → w5.heap[bb]? = D.heap[bb]? := fun bb hb => hb5.block bb (by omega)
      have K5 := hid k5
      clear k5
      have HB5 := hid hb5
      clear hb5
      refine ⟨HSKH.out _ K5.out, ?_⟩
      try simp only [Act.put, List.setIfInBounds_toArray, List.set_cons_zero, List.set_cons_succ]
      refine wpTill_only (i := 8) rfl (by kernel_rfl) (by rfl) ?_
      go_simp
      have k6 : ∀ bb, bb < W.heap.size → (w5.alloc (Obj.cells #[.int .i64 lo, .int .i64 hi] 58)).heap[bb]? = D.heap[bb]? := fun bb hb => (Below.heap_alloc _ _ _ (by omega)).trans (K5.out bb hb)
      have K6 := hid k6
      clear k6
      refine ⟨HSKH.out _ K6.out, ?_⟩
      try simp only [Act.put, List.setIfInBounds_toArray, List.set_cons_zero, List.set_cons_succ]
      have hown5 := ((HOWN.out.below hD).below HB5.out).below (below_alloc1 (Nat.le_refl _) (Obj.cells #[.int .i64 lo, .int .i64 hi] 58))
      have hsA : (w5.alloc (Obj.cells #[.int .i64 lo, .int .i64 hi] 58)).heap.size = w5.heap.size + 1 := by simp
      have hnew := cells_new w5 [.int .i64 lo, .int .i64 hi] 58
      refine wpTill_only (i := 9) rfl (by kernel_rfl) (by rfl) ?_
      refine wp_append1 encR _ _ _ rfl W.heap.size 58 _ 2 16 ranges_under infoRange rfl (by omega) encR_length encR_one (.slice pa pm pc) (c.heaps.take pm) (by rfl) hown5 w5.heap.size 1 ⟨lo, hi⟩ (by rfl) hnew (by simp; omega) (by omega) (by omega) ?_
      intro v6 w6 hown6 hgr6
      have hB6 : Below W.heap.size (w5.alloc (Obj.cells #[.int .i64 lo, .int .i64 hi] 58)) w6 := (grown_chg hgr6 (fun k hk => (hown5.block k hk).1)).below (by omega) (fun bb hb => by omega)
      have hs6 := hgr6.size
      have K7 := hid (fun bb hb => (hB6.block bb hb).trans (K6.out bb hb) : ∀ bb, bb < W.heap.size → w6.heap[bb]? = D.heap[bb]?)
      refine ⟨fun _ => HSKH.out _ K7.out, ?_⟩
      simp only [Act.put, List.setIfInBounds_toArray]
      obtain ⟨pa6, pc6, hv6, -, -⟩ := hown6.slLt encR_length
      obtain ⟨pm6, hpm6⟩ : ∃ pm6, pm6 = (c.heaps.take pm ++ [(⟨lo, hi⟩ : Rg)]).length := ⟨_, rfl⟩
      rw [← hpm6] at hv6
      clear hpm6
      subst hv6
      have hrow6 := (K7.out (w.heap.size + 1 + 1) (by omega)).trans ((HDK.out _ (by omega)).trans HROW.out)
      have hch6 : Chg (fun bb => bb = w.heap.size + 1 + 1) W w6 := ⟨hgr6.os.trans (HB5.out.os.trans (hD.os.trans HCH.out.os)), hgr6.tape.trans (HB5.out.tape.trans (hD.tape.trans HCH.out.tape)), hgr6.output.trans (HB5.out.output.trans (hD.output.trans HCH.out.output)), by omega, fun bb hb hne => (K7.out bb hb).trans ((HDK.out bb (by omega)).trans (HCH.out.block bb hb hne))⟩
      have HCH6 := hid hch6
      have HROW6 := hid hrow6
      have HOWN6 := hid hown6
      clear hch6 hrow6 hown6 hgr6 hB6 hown5 hnew
      refine wpTill_only (i := 10) rfl (by kernel_rfl) (by rfl) ?_
      go_simp
      refine ⟨HSKH.out _ K7.out, ?_⟩
      try simp only [Act.put, List.setIfInBounds_toArray, List.set_cons_zero, List.set_cons_succ]
      have c60 := cell_of_row HROW6.out 0
      have f60 := frozen_of_row HROW6.out 0
      simp only [List.getElem?_toArray, List.getElem?_cons_zero] at c60
      refine wpTill_only (i := 11) rfl (by kernel_rfl) (by rfl) ?_
      go_simp
      refine wpTill_done (by kernel_rfl) ?_ _
      have hch7 := HCH6.out.trans (setCell_chg (A := w6) (g := w.heap.size + 1 + 1) (i := 0) (.slice pa6 pm6 pc6))
      have hrow7 := row_set HROW6.out 0 (.slice pa6 pm6 pc6)
      have hown7 := HOWN6.out.chg (setCell_chg (A := w6) (g := w.heap.size + 1 + 1) (i := 0) (.slice pa6 pm6 pc6)) (fun bb hb => by omega)
      have HX7 := hid (And.intro hch7 (And.intro hrow7 hown7))
      clear hch7 hrow7 hown7 c60 f60 j1 j2
      go_wp2_with fail
      go_roundw
      case rel => exact ⟨pm + 1, _, by omega, by go_num, HX7.out.1, HX7.out.2.1, by rw [HT.out]; exact HX7.out.2.2⟩
      case measure => simp [intOf]; omega
    · have hk2 : k = c.heaps.length := by omega
      subst hk2
      have HT1 := hid (show c.heaps.take c.heaps.length = c.heaps from List.take_length)
      rw [HT1.out] at hown
      obtain ⟨ha1, hc1, hhv, -, -⟩ := hown.slLt encR_length
      obtain ⟨hm1, hhm1⟩ : ∃ hm1, hm1 = c.heaps.length := ⟨_, rfl⟩
      rw [← hhm1] at hhv
      subst hhv
      have HHM := hid hhm1
      have hvS : Sl 2 encR (fun bb => W.heap.size ≤ bb ∧ bb < wr.heap.size) wr (.slice ha1 hm1 hc1) c.heaps := hown.sl encR_length
      obtain ⟨W1, hW1⟩ : ∃ W1, W1 = wr := ⟨_, rfl⟩
      have hb01 : Below (w.heap.size + 1 + 1) W wr := hch.below (by omega) (fun bb hb => by omega)
      have HR1 := hid hrow
      have HV1 := hid hvS
      have HB1 := hid hb01
      have hrr1 : Hid (wr.heap[w.heap.size + 1]? = some (.cells #[.slice none 0 0, .slice none 0 0, .slice none 0 0] 35 (0, 0))) := hid ((hb01.block _ (by omega)).trans Q1.out)
      clear hrow hown hvS hb01 hch hhm1
      subst hW1
      go_wp2
      clear j0 j1 j2 l0 hlt hk
      go_loopw [5] (fun i wr2 => ∃ (k : Nat) (kv : Value), k ≤ c.casks.length ∧ i = .int .i64 k ∧ Chg (fun b => b = w.heap.size + 1 + 1) W1 wr2 ∧ wr2.heap[w.heap.size + 1 + 1]? = some (.cells #[.slice ha1 hm1 hc1, kv, .slice none 0 0] 35 (0, 0)) ∧ OwnL W1.heap.size wr2 kv (c.casks.take k)) (fun i _ => c.casks.length - (intOf i).toNat)
      case atStart => exact ⟨0, .slice none 0 0, by omega, rfl, Chg.refl _ _, HR1.out, OwnL.nil⟩
      case round =>
        obtain ⟨k, kv, hk, rfl, hch, hrow, hown⟩ := hrel
        have hsz2 := hch.size
        have hlow : ∀ bb, bb < w.heap.size + 1 + 1 → wr.heap[bb]? = W.heap[bb]? := fun bb hb => (hch.block bb (by omega) (by omega)).trans (HB1.out.block bb hb)
        have HLOW := hid hlow
        clear hlow
        have j1 := (World.cell?_of_block (a := ⟨w.heap.size, 1, none⟩) (HLOW.out w.heap.size (by omega))).trans r1
        have j2 := (World.cell?_of_block (a := ⟨w.heap.size, 2, none⟩) (HLOW.out w.heap.size (by omega))).trans r2
        have l0 : w.heap.size < wr.heap.size := by omega
        by_cases hlt : k < c.casks.length
        · rcases HO2.out with hnil | ⟨b, off, rfl, hbn, hcc⟩
          · rw [hnil] at hlt; simp at hlt
          obtain ⟨xv, y0, hx⟩ := hcc k hlt
          clear hcc
          have hbl : b < n := hbn
          have z0 := (World.cell?_of_block (a := ⟨b, off + k, none⟩) (HLOW.out b (by omega))).trans ((hWb.cell (p := ⟨b, off + k, none⟩) (by show b < _; omega)).trans y0)
          have HT := hid (show c.casks.take (k + 1) = c.casks.take k ++ [c.casks[k]] from List.take_succ_eq_append_getElem hlt)
          have HL4 := HM4.out c.casks[k] (List.getElem_mem _)
          clear y0
          generalize c.casks[k] = ws at *
          obtain ⟨xa, xc, rfl, -, -⟩ := hx.open1
          obtain ⟨xm, hxm⟩ : ∃ xm, xm = ws.length := ⟨_, rfl⟩
          rw [← hxm] at hx z0
          have HXM := hid hxm
          have HX := hid hx
          clear hx hxm
          have o0 := cell_of_row hrow 1
          simp only [List.getElem?_toArray, List.getElem?_cons_zero, List.getElem?_cons_succ] at o0
          obtain ⟨pa, pc, hv0⟩ := hown.open
          obtain ⟨pm, hpm⟩ : ∃ pm, pm = (c.casks.take k).length := ⟨_, rfl⟩
          rw [← hpm] at hv0
          have hpk : pm = k := by rw [hpm, List.length_take]; omega
          clear hpm
          subst hpk
          subst hv0
          have HROW := hid hrow
          have HOWN := hid hown
          have HCH := hid hch
          have HOB := hid hown.block
          clear hrow hown hch
          go_wp2
          refine wp_region_till (by kernel_rfl) 11 (fun w' => w'.cell? ⟨w.heap.size + 1 + 1, 1, none⟩ = some (.slice pa pm pc) ∧ w'.cell? ⟨w.heap.size, 1, none⟩ = some (.slice (some ⟨b, off, none⟩) c.casks.length kc) ∧ w'.cell? ⟨b, off + pm, none⟩ = some (.slice xa xm xc)) ?_
          have hS0 : wr.drew.cell? ⟨w.heap.size + 1 + 1, 1, none⟩ = some (.slice pa pm pc) ∧ wr.drew.cell? ⟨w.heap.size, 1, none⟩ = some (.slice (some ⟨b, off, none⟩) c.casks.length kc) ∧ wr.drew.cell? ⟨b, off + pm, none⟩ = some (.slice xa xm xc) := ⟨o0, j1, z0⟩
          have hD : Below wr.heap.size wr wr.drew := (Below.refl _ _).drew
          have hDs : wr.drew.heap.size = wr.heap.size := rfl
          generalize wr.drew = D at *
          clear o0 j1 z0
          refine wpTill_take (i := 0) (v := .pointer (some ⟨w.heap.size + 1 + 1, 1, none⟩)) rfl (by kernel_rfl) (by kernel_rfl) (by kernel_rfl) (by kernel_rfl) (fun _ _ _ h => h) (by rfl) ?_ hS0 ?_
          · rintro w ⟨g0, g1, g2⟩
            go_simp
          simp only [Act.put, List.setIfInBounds_toArray]
          refine wpTill_take (i := 1) (v := .slice pa pm pc) rfl (by kernel_rfl) (by kernel_rfl) (by kernel_rfl) (by kernel_rfl) (fun _ _ _ h => h) (by rfl) ?_ hS0 ?_
          · rintro w ⟨g0, g1, g2⟩
            go_simp
          simp only [Act.put]
          refine wpTill_take (i := 2) (v := .pointer (some ⟨w.heap.size, 1, none⟩)) rfl (by kernel_rfl) (by kernel_rfl) (by kernel_rfl) (by kernel_rfl) (fun _ _ _ h => h) (by rfl) ?_ hS0 ?_
          · rintro w ⟨g0, g1, g2⟩
            go_simp
          simp only [Act.put]
          refine wpTill_take (i := 3) (v := .slice (some ⟨b, off, none⟩) c.casks.length kc) rfl (by kernel_rfl) (by kernel_rfl) (by kernel_rfl) (by kernel_rfl) (fun _ _ _ h => h) (by rfl) ?_ hS0 ?_
          · rintro w ⟨g0, g1, g2⟩
            go_simp
          simp only [Act.put]
          refine wpTill_take (i := 4) (v := .int .i64 pm) rfl (by kernel_rfl) (by kernel_rfl) (by kernel_rfl) (by kernel_rfl) (fun _ _ _ h => h) (by rfl) ?_ hS0 ?_
          · rintro w ⟨g0, g1, g2⟩
            go_simp
          simp only [Act.put]
          refine wpTill_take (i := 5) (v := .pointer (some ⟨b, off + pm, none⟩)) rfl (by kernel_rfl) (by kernel_rfl) (by kernel_rfl) (by kernel_rfl) (fun _ _ _ h => h) (by rfl) ?_ hS0 ?_
          · rintro w ⟨g0, g1, g2⟩
            go_simp
          simp only [Act.put]
          refine wpTill_take (i := 6) (v := .slice xa xm xc) rfl (by kernel_rfl) (by kernel_rfl) (by kernel_rfl) (by kernel_rfl) (fun _ _ _ h => h) (by rfl) ?_ hS0 ?_
          · rintro w ⟨g0, g1, g2⟩
            go_simp
          simp only [Act.put]
          have HSK : ∀ w2 : World, (∀ bb, bb < W1.heap.size → w2.heap[bb]? = D.heap[bb]?) → (w2.cell? ⟨w.heap.size + 1 + 1, 1, none⟩ = some (.slice pa pm pc) ∧ w2.cell? ⟨w.heap.size, 1, none⟩ = some (.slice (some ⟨b, off, none⟩) c.casks.length kc) ∧ w2.cell? ⟨b, off + pm, none⟩ = some (.slice xa xm xc)) := fun w2 hk => ⟨(World.cell?_of_block (w := D) (a := ⟨w.heap.size + 1 + 1, 1, none⟩) (hk _ (by show w.heap.size + 1 + 1 < _; omega))).trans hS0.1, (World.cell?_of_block (w := D) (a := ⟨w.heap.size, 1, none⟩) (hk _ (by show w.heap.size < _; omega))).trans hS0.2.1, (World.cell?_of_block (w := D) (a := ⟨b, off + pm, none⟩) (hk _ (by show b < _; omega))).trans hS0.2.2⟩
          have HSKH := hid HSK
          clear HSK
          have HDK := hid (fun bb hb => hD.block bb hb : ∀ bb, bb < wr.heap.size → D.heap[bb]? = wr.heap[bb]?)
          have hbD : Below n w D := ⟨hD.os.trans (HCH.out.os.trans (HB1.out.os.trans hWb.os)), hD.tape.trans (HCH.out.tape.trans (HB1.out.tape.trans hWb.tape)), hD.output.trans (HCH.out.output.trans (HB1.out.output.trans hWb.output)), by omega, fun bb hb => (HDK.out bb (by omega)).trans ((HLOW.out bb (by omega)).trans (hWb.block bb (by omega)))⟩
          have HXD := hid (HX.out.below hbD)
          clear hbD
          refine wpTill_only (i := 7) rfl (by kernel_rfl) (by rfl) ?_
          go_simp
          refine (list_any ws _ n D (by omega) HXD.out HL4).mono ?_
          rintro e w5 ⟨v5, rfl, hown5, hb5⟩
          have hi5 := list_keep hown5
          obtain ⟨a5, c5, hv5, -, -⟩ := hown5.slLt encI_length
          obtain ⟨m5, hm5⟩ : ∃ m5, m5 = ws.length := ⟨_, rfl⟩
          rw [← hm5] at hv5
          subst hv5
          clear hm5 hown5
          have hs5 := hb5.size
          have K5 := hid (fun bb hb => hb5.block bb (by omega) : ∀ bb, bb < W1.heap.size → w5.heap[bb]? = D.heap[bb]?)
          have HB5 := hid hb5
          have HI5 := hid hi5
          clear hb5 hi5
          refine ⟨HSKH.out _ K5.out, ?_⟩
          try simp only [Act.put, List.setIfInBounds_toArray, List.set_cons_zero, List.set_cons_succ]
          refine wpTill_only (i := 8) rfl (by kernel_rfl) (by rfl) ?_
          go_simp
          have K6 := hid (fun bb hb => (Below.heap_alloc _ _ _ (by omega)).trans (K5.out bb hb) : ∀ bb, bb < W1.heap.size → (w5.alloc (Obj.cells #[.slice a5 m5 c5] 47)).heap[bb]? = D.heap[bb]?)
          refine ⟨HSKH.out _ K6.out, ?_⟩
          try simp only [Act.put, List.setIfInBounds_toArray, List.set_cons_zero, List.set_cons_succ]
          have hown5 := ((HOWN.out.below hD).below HB5.out).below (below_alloc1 (Nat.le_refl _) (Obj.cells #[.slice a5 m5 c5] 47))
          have hsA : (w5.alloc (Obj.cells #[.slice a5 m5 c5] 47)).heap.size = w5.heap.size + 1 := by simp
          have hnew : (w5.alloc (Obj.cells #[.slice a5 m5 c5] 47)).cell? ⟨w5.heap.size, 0, none⟩ = some (.slice a5 m5 c5) := cells_new w5 [.slice a5 m5 c5] 47 0 _ rfl
          have hxi : Ints (fun bb => W1.heap.size ≤ bb ∧ bb < (w5.alloc (Obj.cells #[.slice a5 m5 c5] 47)).heap.size ∧ (Value.slice pa pm pc).ownBlock ≠ some bb) (w5.alloc (Obj.cells #[.slice a5 m5 c5] 47)) (.slice a5 m5 c5) ws :=
            (HI5.out.keep (w' := w5.alloc (Obj.cells #[.slice a5 m5 c5] 47)) ⟨by omega, fun bb hb => Below.heap_alloc _ _ _ hb.2⟩).mono fun bb hb => ⟨by have := hb.1; omega, by have := hb.2; omega, fun e => by have := HOB.out bb e; have := hb.1; omega⟩
          refine wpTill_only (i := 9) rfl (by kernel_rfl) (by rfl) ?_
          refine wp_append1L _ _ W1.heap.size rfl (.slice pa pm pc) (c.casks.take pm) (by rfl) hown5 w5.heap.size 1 _ ws (by rfl) hnew hxi (by simp; omega) (by omega) ?_
          intro v6 w6 hown6 hgr6
          have hB6 : Below W1.heap.size (w5.alloc (Obj.cells #[.slice a5 m5 c5] 47)) w6 := (grown_chg hgr6 (fun k hk => (hown5.block k hk).1)).below (by omega) (fun bb hb => by omega)
          have hs6 := hgr6.size
          have K7 := hid (fun bb hb => (hB6.block bb hb).trans (K6.out bb hb) : ∀ bb, bb < W1.heap.size → w6.heap[bb]? = D.heap[bb]?)
          refine ⟨fun _ => HSKH.out _ K7.out, ?_⟩
          simp only [Act.put, List.setIfInBounds_toArray]
          obtain ⟨pa6, pc6, hv6⟩ := hown6.open
          obtain ⟨pm6, hpm6⟩ : ∃ pm6, pm6 = (c.casks.take pm ++ [ws]).length := ⟨_, rfl⟩
          rw [← hpm6] at hv6
          clear hpm6
          subst hv6
          have HROW6 := hid ((K7.out (w.heap.size + 1 + 1) (by omega)).trans ((HDK.out _ (by omega)).trans HROW.out))
          have HCH6 := hid (show Chg (fun bb => bb = w.heap.size + 1 + 1) W1 w6 from ⟨hgr6.os.trans (HB5.out.os.trans (hD.os.trans HCH.out.os)), hgr6.tape.trans (HB5.out.tape.trans (hD.tape.trans HCH.out.tape)), hgr6.output.trans (HB5.out.output.trans (hD.output.trans HCH.out.output)), by omega, fun bb hb hne => (K7.out bb hb).trans ((HDK.out bb (by omega)).trans (HCH.out.block bb hb hne))⟩)
          have HOWN6 := hid hown6
          clear hown6 hgr6 hB6 hown5 hnew hxi
          refine wpTill_only (i := 10) rfl (by kernel_rfl) (by rfl) ?_
          go_simp
          refine ⟨HSKH.out _ K7.out, ?_⟩
          try simp only [Act.put, List.setIfInBounds_toArray, List.set_cons_zero, List.set_cons_succ]
          have c60 := cell_of_row HROW6.out 1
          have f60 := frozen_of_row HROW6.out 1
          simp only [List.getElem?_toArray, List.getElem?_cons_zero, List.getElem?_cons_succ] at c60
          refine wpTill_only (i := 11) rfl (by kernel_rfl) (by rfl) ?_
          go_simp
          refine wpTill_done (by kernel_rfl) ?_ _
          have hch7 := HCH6.out.trans (setCell_chg (A := w6) (g := w.heap.size + 1 + 1) (i := 1) (.slice pa6 pm6 pc6))
          have hrow7 := row_set HROW6.out 1 (.slice pa6 pm6 pc6)
          have hown7 := HOWN6.out.chg (setCell_chg (A := w6) (g := w.heap.size + 1 + 1) (i := 1) (.slice pa6 pm6 pc6)) (fun bb hb => by omega)
          have HX7 := hid (And.intro hch7 (And.intro hrow7 hown7))
          clear hch7 hrow7 hown7 c60 f60 j2
          go_wp2_with fail
          go_roundw
          case rel => exact ⟨pm + 1, _, by omega, by go_num, HX7.out.1, HX7.out.2.1, by rw [HT.out]; exact HX7.out.2.2⟩
          case measure => simp [intOf]; omega
        · have hk2 : k = c.casks.length := by omega
          subst hk2
          have HT2 := hid (show c.casks.take c.casks.length = c.casks from List.take_length)
          rw [HT2.out] at hown
          obtain ⟨ka1, kc1, hkv⟩ := hown.open
          obtain ⟨km1, hkm1⟩ : ∃ km1, km1 = c.casks.length := ⟨_, rfl⟩
          rw [← hkm1] at hkv
          subst hkv
          have HKM := hid hkm1
          have HV2 := hid (HV1.out.keep (w' := wr) ⟨hch.size, fun bb hb => hch.block bb (by have := hb.2; omega) (by have := hb.1; omega)⟩)
          have HK2 := hid hown.lss
          have hb02 : Below (w.heap.size + 1 + 1) W wr := HB1.out.trans (hch.below (by omega) (fun bb hb => by omega))
          have HR2 := hid hrow
          have HB2 := hid hb02
          have hrr2 : Hid (wr.heap[w.heap.size + 1]? = some (.cells #[.slice none 0 0, .slice none 0 0, .slice none 0 0] 35 (0, 0))) := hid ((hb02.block _ (by omega)).trans Q1.out)
          have hs12 : W1.heap.size ≤ wr.heap.size := hch.size
          obtain ⟨W2, hW2⟩ : ∃ W2, W2 = wr := ⟨_, rfl⟩
          clear hrow hown hb02 hch hkm1 HLOW HV1 HR1 HB1 hrr1
          subst hW2
          go_wp2
          clear j1 j2 l0 hlt hk
          go_loopw [6] (fun i wr3 => ∃ (k : Nat) (tv : Value), k ≤ c.trials.length ∧ i = .int .i64 k ∧ Chg (fun b => b = w.heap.size + 1 + 1) W2 wr3 ∧ wr3.heap[w.heap.size + 1 + 1]? = some (.cells #[.slice ha1 hm1 hc1, .slice ka1 km1 kc1, tv] 35 (0, 0)) ∧ Own W2.heap.size 125 4 encT4 wr3 tv (c.trials.take k)) (fun i _ => c.trials.length - (intOf i).toNat)
          case atStart => exact ⟨0, .slice none 0 0, by omega, rfl, Chg.refl _ _, HR2.out, Own.nil⟩
          case round =>
            obtain ⟨k, tv, hk, rfl, hch, hrow, hown⟩ := hrel
            have hsz2 := hch.size
            have HLOW := hid (fun bb hb => (hch.block bb (by omega) (by omega)).trans (HB2.out.block bb hb) : ∀ bb, bb < w.heap.size + 1 + 1 → wr.heap[bb]? = W.heap[bb]?)
            have j2 := (World.cell?_of_block (a := ⟨w.heap.size, 2, none⟩) (HLOW.out w.heap.size (by omega))).trans r2
            have l0 : w.heap.size < wr.heap.size := by omega
            by_cases hlt : k < c.trials.length
            · rcases HO3.out with hnil | ⟨b, off, rfl, hbn, hcc⟩
              · rw [hnil] at hlt; simp at hlt
              obtain ⟨y0, y1, y2, y3⟩ := hcc k hlt
              clear hcc
              have hbl : b < n := hbn
              have z0 := (World.cell?_of_block (a := ⟨b, off + k * 4, none⟩) (HLOW.out b (by omega))).trans ((hWb.cell (p := ⟨b, off + k * 4, none⟩) (by show b < _; omega)).trans y0)
              have z1 := (World.cell?_of_block (a := ⟨b, off + k * 4 + 1, none⟩) (HLOW.out b (by omega))).trans ((hWb.cell (p := ⟨b, off + k * 4 + 1, none⟩) (by show b < _; omega)).trans y1)
              have z2 := (World.cell?_of_block (a := ⟨b, off + k * 4 + 2, none⟩) (HLOW.out b (by omega))).trans ((hWb.cell (p := ⟨b, off + k * 4 + 2, none⟩) (by show b < _; omega)).trans y2)
              have z3 := (World.cell?_of_block (a := ⟨b, off + k * 4 + 3, none⟩) (HLOW.out b (by omega))).trans ((hWb.cell (p := ⟨b, off + k * 4 + 3, none⟩) (by show b < _; omega)).trans y3)
              have HT := hid (show c.trials.take (k + 1) = c.trials.take k ++ [c.trials[k]] from List.take_succ_eq_append_getElem hlt)
              clear y0 y1 y2 y3
              generalize c.trials[k] = t at *
              obtain ⟨ck, num, lo, hi⟩ := t
              simp only at z0 z1 z2 z3
              have o0 := cell_of_row hrow 2
              simp only [List.getElem?_toArray, List.getElem?_cons_zero, List.getElem?_cons_succ] at o0
              obtain ⟨pa, pc, hv0, -, -⟩ := hown.slLt (fun _ => rfl)
              obtain ⟨pm, hpm⟩ : ∃ pm, pm = (c.trials.take k).length := ⟨_, rfl⟩
              rw [← hpm] at hv0
              have hpk : pm = k := by rw [hpm, List.length_take]; omega
              clear hpm
              subst hpk
              subst hv0
              have HROW := hid hrow
              have HOWN := hid hown
              have HCH := hid hch
              have HOB := hid hown.block
              clear hrow hown hch
              obtain ⟨E, hE⟩ : ∃ E, E = wr.alloc (Obj.cells #[.bool ck, .int .i64 num, .int .i64 lo, .int .i64 hi] 68) := ⟨_, rfl⟩
              have hEs : E.heap.size = wr.heap.size + 1 := by rw [hE]; simp
              have hEb : Below wr.heap.size wr E := by rw [hE]; exact below_alloc1 (Nat.le_refl _) _
              have hEr : E.heap[wr.heap.size]? = some (.cells #[.bool ck, .int .i64 num, .int .i64 lo, .int .i64 hi] 68 (0, 0)) := by rw [hE]; exact heap_new _ _
              go_wp2
              rw [← hE]
              clear hE
              refine wp_region_till (by kernel_rfl) 13 (fun w' => w'.cell? ⟨w.heap.size + 1 + 1, 2, none⟩ = some (.slice pa pm pc) ∧ w'.cell? ⟨wr.heap.size, 0, none⟩ = some (.bool ck) ∧ w'.cell? ⟨wr.heap.size, 1, none⟩ = some (.int .i64 num) ∧ w'.cell? ⟨wr.heap.size, 2, none⟩ = some (.int .i64 lo) ∧ w'.cell? ⟨wr.heap.size, 3, none⟩ = some (.int .i64 hi)) ?_
              have hDr : E.drew.heap[wr.heap.size]? = some (.cells #[.bool ck, .int .i64 num, .int .i64 lo, .int .i64 hi] 68 (0, 0)) := hEr
              have hS0 : E.drew.cell? ⟨w.heap.size + 1 + 1, 2, none⟩ = some (.slice pa pm pc) ∧ E.drew.cell? ⟨wr.heap.size, 0, none⟩ = some (.bool ck) ∧ E.drew.cell? ⟨wr.heap.size, 1, none⟩ = some (.int .i64 num) ∧ E.drew.cell? ⟨wr.heap.size, 2, none⟩ = some (.int .i64 lo) ∧ E.drew.cell? ⟨wr.heap.size, 3, none⟩ = some (.int .i64 hi) := ⟨(hEb.cell (p := ⟨w.heap.size + 1 + 1, 2, none⟩) (by show w.heap.size + 1 + 1 < _; omega)).trans o0, cell_of_row hDr 0, cell_of_row hDr 1, cell_of_row hDr 2, cell_of_row hDr 3⟩
              have hD : Below wr.heap.size wr E.drew := hEb.drew
              have hDs : E.drew.heap.size = wr.heap.size + 1 := hEs
              generalize E.drew = D at *
              clear o0 z0 z1 z2 z3 hEr hEb hEs hDr
              refine wpTill_take (i := 0) (v := .pointer (some ⟨w.heap.size + 1 + 1, 2, none⟩)) rfl (by kernel_rfl) (by kernel_rfl) (by kernel_rfl) (by kernel_rfl) (fun _ _ _ h => h) (by rfl) ?_ hS0 ?_
              · rintro w ⟨g0, g1, g2, g3, g4⟩
                go_simp
              simp only [Act.put, List.setIfInBounds_toArray]
              refine wpTill_take (i := 1) (v := .slice pa pm pc) rfl (by kernel_rfl) (by kernel_rfl) (by kernel_rfl) (by kernel_rfl) (fun _ _ _ h => h) (by rfl) ?_ hS0 ?_
              · rintro w ⟨g0, g1, g2, g3, g4⟩
                go_simp
              simp only [Act.put]
              refine wpTill_take (i := 2) (v := .pointer (some ⟨wr.heap.size, 0, none⟩)) rfl (by kernel_rfl) (by kernel_rfl) (by kernel_rfl) (by kernel_rfl) (fun _ _ _ h => h) (by rfl) ?_ hS0 ?_
              · rintro w ⟨g0, g1, g2, g3, g4⟩
                go_simp
              simp only [Act.put]
              refine wpTill_take (i := 3) (v := .bool ck) rfl (by kernel_rfl) (by kernel_rfl) (by kernel_rfl) (by kernel_rfl) (fun _ _ _ h => h) (by rfl) ?_ hS0 ?_
              · rintro w ⟨g0, g1, g2, g3, g4⟩
                go_simp
              simp only [Act.put]
              refine wpTill_take (i := 4) (v := .pointer (some ⟨wr.heap.size, 1, none⟩)) rfl (by kernel_rfl) (by kernel_rfl) (by kernel_rfl) (by kernel_rfl) (fun _ _ _ h => h) (by rfl) ?_ hS0 ?_
              · rintro w ⟨g0, g1, g2, g3, g4⟩
                go_simp
              simp only [Act.put]
              refine wpTill_take (i := 5) (v := .int .i64 num) rfl (by kernel_rfl) (by kernel_rfl) (by kernel_rfl) (by kernel_rfl) (fun _ _ _ h => h) (by rfl) ?_ hS0 ?_
              · rintro w ⟨g0, g1, g2, g3, g4⟩
                go_simp
              simp only [Act.put]
              refine wpTill_take (i := 6) (v := .pointer (some ⟨wr.heap.size, 2, none⟩)) rfl (by kernel_rfl) (by kernel_rfl) (by kernel_rfl) (by kernel_rfl) (fun _ _ _ h => h) (by rfl) ?_ hS0 ?_
              · rintro w ⟨g0, g1, g2, g3, g4⟩
                go_simp
              simp only [Act.put]
              refine wpTill_take (i := 7) (v := .agg #[.int .i64 lo, .int .i64 hi]) rfl (by kernel_rfl) (by kernel_rfl) (by kernel_rfl) (by kernel_rfl) (fun _ _ _ h => h) (by rfl) ?_ hS0 ?_
              · rintro w ⟨g0, g1, g2, g3, g4⟩
                go_simp
              simp only [Act.put]
              have HSK : ∀ w2 : World, (∀ bb, bb < W2.heap.size ∨ bb = wr.heap.size → w2.heap[bb]? = D.heap[bb]?) → (w2.cell? ⟨w.heap.size + 1 + 1, 2, none⟩ = some (.slice pa pm pc) ∧ w2.cell? ⟨wr.heap.size, 0, none⟩ = some (.bool ck) ∧ w2.cell? ⟨wr.heap.size, 1, none⟩ = some (.int .i64 num) ∧ w2.cell? ⟨wr.heap.size, 2, none⟩ = some (.int .i64 lo) ∧ w2.cell? ⟨wr.heap.size, 3, none⟩ = some (.int .i64 hi)) := fun w2 hk => ⟨(World.cell?_of_block (w := D) (a := ⟨w.heap.size + 1 + 1, 2, none⟩) (hk _ (by show w.heap.size + 1 + 1 < _ ∨ w.heap.size + 1 + 1 = _; omega))).trans hS0.1, (World.cell?_of_block (w := D) (a := ⟨wr.heap.size, 0, none⟩) (hk _ (by show wr.heap.size < _ ∨ wr.heap.size = _; omega))).trans hS0.2.1, (World.cell?_of_block (w := D) (a := ⟨wr.heap.size, 1, none⟩) (hk _ (by show wr.heap.size < _ ∨ wr.heap.size = _; omega))).trans hS0.2.2.1, (World.cell?_of_block (w := D) (a := ⟨wr.heap.size, 2, none⟩) (hk _ (by show wr.heap.size < _ ∨ wr.heap.size = _; omega))).trans hS0.2.2.2.1, (World.cell?_of_block (w := D) (a := ⟨wr.heap.size, 3, none⟩) (hk _ (by show wr.heap.size < _ ∨ wr.heap.size = _; omega))).trans hS0.2.2.2.2⟩
              have HSKH := hid HSK
              clear HSK
              have HDK := hid (fun bb hb => hD.block bb hb : ∀ bb, bb < wr.heap.size → D.heap[bb]? = wr.heap[bb]?)
              refine wpTill_only (i := 8) rfl (by kernel_rfl) (by rfl) ?_
              go_simp
              refine (to_any lo hi _).mono ?_
              rintro e w5 ⟨rfl, hb5⟩
              have hs5 := hb5.size
              have K5 := hid (fun bb hb => hb5.block bb (by omega) : ∀ bb, bb < W2.heap.size ∨ bb = wr.heap.size → w5.heap[bb]? = D.heap[bb]?)
              have HB5 := hid hb5
              clear hb5
              refine ⟨HSKH.out _ K5.out, ?_⟩
              try simp only [Act.put, List.setIfInBounds_toArray, List.set_cons_zero, List.set_cons_succ]
              refine wpTill_only (i := 9) rfl (by kernel_rfl) (by rfl) ?_
              go_simp
              refine ⟨HSKH.out _ K5.out, ?_⟩
              try simp only [Act.put, List.setIfInBounds_toArray, List.set_cons_zero, List.set_cons_succ]
              refine wpTill_only (i := 10) rfl (by kernel_rfl) (by rfl) ?_
              go_simp
              have K6 := hid (fun bb hb => (Below.heap_alloc _ _ _ (by omega)).trans (K5.out bb hb) : ∀ bb, bb < W2.heap.size ∨ bb = wr.heap.size → (w5.alloc (Obj.cells #[.bool ck, .int .i64 num, .int .i64 lo, .int .i64 hi] 125)).heap[bb]? = D.heap[bb]?)
              refine ⟨HSKH.out _ K6.out, ?_⟩
              try simp only [Act.put, List.setIfInBounds_toArray, List.set_cons_zero, List.set_cons_succ]
              have hown5 := ((HOWN.out.below hD).below HB5.out).below (below_alloc1 (Nat.le_refl _) (Obj.cells #[.bool ck, .int .i64 num, .int .i64 lo, .int .i64 hi] 125))
              have hsA : (w5.alloc (Obj.cells #[.bool ck, .int .i64 num, .int .i64 lo, .int .i64 hi] 125)).heap.size = w5.heap.size + 1 := by simp
              have hnew := cells_new w5 [.bool ck, .int .i64 num, .int .i64 lo, .int .i64 hi] 125
              refine wpTill_only (i := 11) rfl (by kernel_rfl) (by rfl) ?_
              refine wp_append1 encT4 _ _ _ rfl W2.heap.size 125 _ 4 32 trials_under infoTrial rfl (by omega) (fun _ => rfl) encT4_one (.slice pa pm pc) (c.trials.take pm) (by rfl) hown5 w5.heap.size 1 ⟨ck, num, lo, hi⟩ (by rfl) hnew (by simp; omega) (by omega) (by omega) ?_
              intro v6 w6 hown6 hgr6
              have hs6 := hgr6.size
              have K7 := hid (fun bb hb => (hgr6.block bb (by omega) (fun e => by have := HOB.out bb e.symm; omega)).trans (K6.out bb hb) : ∀ bb, bb < W2.heap.size ∨ bb = wr.heap.size → w6.heap[bb]? = D.heap[bb]?)
              refine ⟨fun _ => HSKH.out _ K7.out, ?_⟩
              simp only [Act.put, List.setIfInBounds_toArray]
              obtain ⟨pa6, pc6, hv6, -, -⟩ := hown6.slLt (fun _ => rfl)
              obtain ⟨pm6, hpm6⟩ : ∃ pm6, pm6 = (c.trials.take pm ++ [(⟨ck, num, lo, hi⟩ : Tl)]).length := ⟨_, rfl⟩
              rw [← hpm6] at hv6
              clear hpm6
              subst hv6
              have HROW6 := hid ((K7.out (w.heap.size + 1 + 1) (by omega)).trans ((HDK.out _ (by omega)).trans HROW.out))
              have HCH6 := hid (show Chg (fun bb => bb = w.heap.size + 1 + 1) W2 w6 from ⟨hgr6.os.trans (HB5.out.os.trans (hD.os.trans HCH.out.os)), hgr6.tape.trans (HB5.out.tape.trans (hD.tape.trans HCH.out.tape)), hgr6.output.trans (HB5.out.output.trans (hD.output.trans HCH.out.output)), by omega, fun bb hb hne => (K7.out bb (by omega)).trans ((HDK.out bb (by omega)).trans (HCH.out.block bb hb hne))⟩)
              have HOWN6 := hid hown6
              clear hown6 hgr6 hown5 hnew
              refine wpTill_only (i := 12) rfl (by kernel_rfl) (by rfl) ?_
              go_simp
              refine ⟨HSKH.out _ K7.out, ?_⟩
              try simp only [Act.put, List.setIfInBounds_toArray, List.set_cons_zero, List.set_cons_succ]
              have c60 := cell_of_row HROW6.out 2
              have f60 := frozen_of_row HROW6.out 2
              simp only [List.getElem?_toArray, List.getElem?_cons_zero, List.getElem?_cons_succ] at c60
              refine wpTill_only (i := 13) rfl (by kernel_rfl) (by rfl) ?_
              go_simp
              refine wpTill_done (by kernel_rfl) ?_ _
              have hch7 := HCH6.out.trans (setCell_chg (A := w6) (g := w.heap.size + 1 + 1) (i := 2) (.slice pa6 pm6 pc6))
              have hrow7 := row_set HROW6.out 2 (.slice pa6 pm6 pc6)
              have hown7 := HOWN6.out.chg (setCell_chg (A := w6) (g := w.heap.size + 1 + 1) (i := 2) (.slice pa6 pm6 pc6)) (fun bb hb => by omega)
              have HX7 := hid (And.intro hch7 (And.intro hrow7 hown7))
              clear hch7 hrow7 hown7 c60 f60 j2
              go_wp2_with fail
              go_roundw
              case rel => exact ⟨pm + 1, _, by omega, by go_num, HX7.out.1, HX7.out.2.1, by rw [HT.out]; exact HX7.out.2.2⟩
              case measure => simp [intOf]; omega
            · have hk2 : k = c.trials.length := by omega
              subst hk2
              have HT3 := hid (show c.trials.take c.trials.length = c.trials from List.take_length)
              rw [HT3.out] at hown
              obtain ⟨ta1, tc1, htv, -, -⟩ := hown.slLt (fun _ => rfl)
              obtain ⟨tm1, htm1⟩ : ∃ tm1, tm1 = c.trials.length := ⟨_, rfl⟩
              rw [← htm1] at htv
              subst htv
              have HTM := hid htm1
              have hv3 := HV2.out.keep (w' := wr) ⟨hch.size, fun bb hb => hch.block bb (by have := hb.2; omega) (by have := hb.1; omega)⟩
              have hk3 := HK2.out.keep (w' := wr) ⟨hch.size, fun bb hb => hch.block bb (by have := hb.2; omega) (by have := hb.1; omega)⟩
              have ht3 := hown.sl (fun _ => rfl)
              have hrr3 : wr.heap[w.heap.size + 1]? = some (.cells #[.slice none 0 0, .slice none 0 0, .slice none 0 0] 35 (0, 0)) := (hch.block _ (by omega) (by omega)).trans hrr2.out
              have hb03 : Below w.heap.size w wr := hWb.trans (((HB2.out.mono (by omega)).trans (hch.below (by omega) (fun bb hb => by omega))))
              have o0 := cell_of_row hrow 0
              have o1 := cell_of_row hrow 1
              have o2 := cell_of_row hrow 2
              have p0 := cell_of_row hrr3 0
              have p1 := cell_of_row hrr3 1
              have p2 := cell_of_row hrr3 2
              have f0 := frozen_of_row hrr3 0
              have f1 := frozen_of_row hrr3 1
              have f2 := frozen_of_row hrr3 2
              simp only [List.getElem?_toArray, List.getElem?_cons_zero, List.getElem?_cons_succ] at o0 o1 o2 p0 p1 p2
              have HALL := hid (And.intro hv3 (And.intro hk3 (And.intro ht3 (And.intro hrr3 hb03))))
              clear hv3 hk3 ht3 hrr3 hb03 hown hrow hch htm1
              go_wp2_with fail
              clear o0 o1 o2 p0 p1 p2 f0 f1 f2 j2
              obtain ⟨hv3, hk3, ht3, hrr3, hb03⟩ := HALL.out
              have hr := row_set3 hrr3 (.slice ha1 hm1 hc1) (.slice ka1 km1 kc1) (.slice ta1 tm1 tc1)
              have hB := below_set3 hb03 (show w.heap.size ≤ w.heap.size + 1 by omega) (.slice ha1 hm1 hc1) (.slice ka1 km1 kc1) (.slice ta1 tm1 tc1)
              have hne : ∀ bb, bb ≠ w.heap.size + 1 → (((wr.setCell ⟨w.heap.size + 1, 0, none⟩ (.slice ha1 hm1 hc1)).setCell ⟨w.heap.size + 1, 1, none⟩ (.slice ka1 km1 kc1)).setCell ⟨w.heap.size + 1, 2, none⟩ (.slice ta1 tm1 tc1)).heap[bb]? = wr.heap[bb]? := fun bb hb => by
                rw [Below.heap_setCell _ _ _ _ hb, Below.heap_setCell _ _ _ _ hb, Below.heap_setCell _ _ _ _ hb]
              have hsv : (((wr.setCell ⟨w.heap.size + 1, 0, none⟩ (.slice ha1 hm1 hc1)).setCell ⟨w.heap.size + 1, 1, none⟩ (.slice ka1 km1 kc1)).setCell ⟨w.heap.size + 1, 2, none⟩ (.slice ta1 tm1 tc1)).heap.size = wr.heap.size := by simp [World.setCell]
              generalize (((wr.setCell ⟨w.heap.size + 1, 0, none⟩ (.slice ha1 hm1 hc1)).setCell ⟨w.heap.size + 1, 1, none⟩ (.slice ka1 km1 kc1)).setCell ⟨w.heap.size + 1, 2, none⟩ (.slice ta1 tm1 tc1)) = V at *
              have q0 := cell_of_row hr 0
              have q1 := cell_of_row hr 1
              have q2 := cell_of_row hr 2
              simp only [List.getElem?_toArray, List.getElem?_cons_zero, List.getElem?_cons_succ] at q0 q1 q2
              have hQ : RetC c w (.returned (.agg #[.slice ha1 hm1 hc1, .slice ka1 km1 kc1, .slice ta1 tm1 tc1])) V := by
                refine ⟨_, rfl, ⟨_, _, _, rfl, ?_, ?_, ?_⟩, hB⟩
                · exact (hv3.keep (w' := V) ⟨by omega, fun bb hb => hne bb (by have := hb.1; omega)⟩).mono fun bb hb => by show bb < _; have := hb.2; omega
                · exact (hk3.keep (w' := V) ⟨by omega, fun bb hb => hne bb (by have := hb.1; omega)⟩).mono fun bb hb => by show bb < _; have := hb.2; omega
                · exact (ht3.keep (w' := V) ⟨by omega, fun bb hb => hne bb (by have := hb.1; omega)⟩).mono fun bb hb => by show bb < _; have := hb.2; omega
              exact bodyPost_ret (v := .agg #[.slice ha1 hm1 hc1, .slice ka1 km1 kc1, .slice ta1 tm1 tc1]) (by simp only [results, Try.results22]; simp [go_sem, q0, q1, q2]) rfl hQ
end Go.Proofs.Ytjddcaimjofihaa

namespace Go.Proofs.Ytjddcaimjofihaa
open Go.RowKit Go.Shelf
set_option maxRecDepth 100000

theorem rtrials_under : Try.prog.underlying 24 = some (.slice 68) := by kernel_rfl
theorem infoRTrial : (Try.prog.info? 68).map (fun i => (i.zero, i.size, i.bytes)) = some (some (.agg #[.bool false, .int .i64 0, .int .i64 0, .int .i64 0]), 4, 32) := by kernel_rfl
/-- The trials whose bits are set, from number i on. -/
def someL (bits : Int) : List Tl → Nat → List Tl
  | [], _ => []
  | t :: ts, i => if bits / 2 ^ i % 2 = 1 then t :: someL bits ts (i + 1) else someL bits ts (i + 1)
def someC (c : Ce) (bits : Int) : Ce := { c with trials := someL bits c.trials 0 }
theorem someL_snoc (bits : Int) (ts : List Tl) (t : Tl) : ∀ i, someL bits (ts ++ [t]) i = someL bits ts i ++ if bits / 2 ^ (i + ts.length) % 2 = 1 then [t] else [] := by
  induction ts with
  | nil => intro i; simp only [List.nil_append, someL, List.length_nil, Nat.add_zero]
  | cons x ts ih =>
    intro i
    simp only [List.cons_append, someL, ih, List.length_cons]
    rw [show i + 1 + ts.length = i + (ts.length + 1) by omega]
    split <;> simp
theorem someL_take (bits : Int) (ts : List Tl) (k : Nat) (h : k < ts.length) : someL bits (ts.take (k + 1)) 0 = someL bits (ts.take k) 0 ++ if bits / 2 ^ k % 2 = 1 then [ts[k]] else [] := by
  rw [List.take_succ_eq_append_getElem h, someL_snoc, List.length_take, Nat.min_eq_left (by omega), Nat.zero_add]
theorem someL_length (bits : Int) (ts : List Tl) : ∀ i, (someL bits ts i).length ≤ ts.length := by
  induction ts with
  | nil => intro i; simp [someL]
  | cons t ts ih =>
    intro i
    simp only [someL]
    have := ih (i + 1)
    split <;> simp only [List.length_cons] <;> omega

set_option maxHeartbeats 4000000 in
theorem some_any (c : Ce) (v : Value) (bits : Int) (hb0 : 0 ≤ bits) (n : Nat) (w : World) (hn : n ≤ w.heap.size) (h : CeV (Lt n) w v c) (hsm : c.trials.length ≤ 60) :
    Calls Try.prog 44 #[v, .int .i64 bits] w (RetC (someC c bits) w) := by
  have h' := h
  obtain ⟨ha, hc, ka, kc, ta, tc, rfl, H1, H2, H3⟩ := h.open
  obtain ⟨_, _, he, -, ho3⟩ := H3.open4
  cases he
  have HO3 := hid ho3
  have HH1 := hid H1
  have HH2 := hid H2
  clear H1 H2 H3 ho3
  obtain ⟨W, hW⟩ : ∃ W, W = ((w.alloc (Obj.cells #[.slice ha c.heaps.length hc, .slice ka c.casks.length kc, .slice ta c.trials.length tc] 26)).alloc (Obj.cells #[.slice none 0 0, .slice none 0 0, .slice none 0 0] 26)).alloc (Obj.cells #[.slice ha c.heaps.length hc, .slice ka c.casks.length kc, .slice none 0 0] 26) := ⟨_, rfl⟩
  have hWs : W.heap.size = w.heap.size + 3 := by rw [hW]; simp
  have hWb : Below w.heap.size w W := by rw [hW]; exact below_alloc3 (Nat.le_refl _) _ _ _
  obtain ⟨q0, q1, q2⟩ := hW ▸ heap_three w _ _ _
  have r2 := cell_of_row q0 2
  simp only [List.getElem?_toArray, List.getElem?_cons_zero, List.getElem?_cons_succ] at r2
  go_enter Try.func44, Try.ntmps44
  have Q0 := hid q0
  have Q1 := hid q1
  have Q2 := hid q2
  clear q0 q1 q2
  go_wp2
  rw [← hW]
  clear hW
  go_loopw [6] (fun i wr => ∃ (k : Nat) (tv : Value), k ≤ c.trials.length ∧ i = .int .i64 k ∧ Chg (fun b => b = w.heap.size + 1 + 1) W wr ∧ wr.heap[w.heap.size + 1 + 1]? = some (.cells #[.slice ha c.heaps.length hc, .slice ka c.casks.length kc, tv] 26 (0, 0)) ∧ Own W.heap.size 68 4 encT4 wr tv (someL bits (c.trials.take k) 0)) (fun i _ => c.trials.length - (intOf i).toNat)
  case atStart => exact ⟨0, .slice none 0 0, by omega, rfl, Chg.refl _ _, Q2.out, Own.nil⟩
  case round =>
    obtain ⟨k, tv, hk, rfl, hch, hrow, hown⟩ := hrel
    have hsz2 := hch.size
    have HLOW := hid (fun bb hb => hch.block bb (by omega) (by omega) : ∀ bb, bb < w.heap.size + 1 + 1 → wr.heap[bb]? = W.heap[bb]?)
    have j2 := (World.cell?_of_block (a := ⟨w.heap.size, 2, none⟩) (HLOW.out w.heap.size (by omega))).trans r2
    have l0 : w.heap.size < wr.heap.size := by omega
    by_cases hlt : k < c.trials.length
    · rcases HO3.out with hnil | ⟨b, off, rfl, hbn, hcc⟩
      · rw [hnil] at hlt; simp at hlt
      obtain ⟨y0, y1, y2, y3⟩ := hcc k hlt
      clear hcc
      have hbl : b < n := hbn
      have z0 := (World.cell?_of_block (a := ⟨b, off + k * 4, none⟩) (HLOW.out b (by omega))).trans ((hWb.cell (p := ⟨b, off + k * 4, none⟩) (by show b < _; omega)).trans y0)
      have z1 := (World.cell?_of_block (a := ⟨b, off + k * 4 + 1, none⟩) (HLOW.out b (by omega))).trans ((hWb.cell (p := ⟨b, off + k * 4 + 1, none⟩) (by show b < _; omega)).trans y1)
      have z2 := (World.cell?_of_block (a := ⟨b, off + k * 4 + 2, none⟩) (HLOW.out b (by omega))).trans ((hWb.cell (p := ⟨b, off + k * 4 + 2, none⟩) (by show b < _; omega)).trans y2)
      have z3 := (World.cell?_of_block (a := ⟨b, off + k * 4 + 3, none⟩) (HLOW.out b (by omega))).trans ((hWb.cell (p := ⟨b, off + k * 4 + 3, none⟩) (by show b < _; omega)).trans y3)
      have HT := hid (someL_take bits c.trials k hlt)
      have hlen := someL_length bits (c.trials.take k) 0
      rw [List.length_take] at hlen
      clear y0 y1 y2 y3
      generalize c.trials[k] = t at *
      obtain ⟨ck, num, lo, hi⟩ := t
      simp only at z0 z1 z2 z3
      have hwk : IntKind.u64.wrap (k : Int) = k := by unfold IntKind.wrap; simp [IntKind.bits, IntKind.signed]; omega
      have o0 := cell_of_row hrow 2
      simp only [List.getElem?_toArray, List.getElem?_cons_zero, List.getElem?_cons_succ] at o0
      have HROW := hid hrow
      have HOWN := hid hown
      have HCH := hid hch
      have HOB := hid hown.block
      obtain ⟨pa, pc, hv0, -, -⟩ := hown.slLt (fun _ => rfl)
      obtain ⟨pm, hpm⟩ : ∃ pm, pm = (someL bits (c.trials.take k) 0).length := ⟨_, rfl⟩
      rw [← hpm] at hv0 hlen
      have HPM := hid hpm
      clear hpm hrow hown hch
      subst hv0
      have hd0 : 0 ≤ bits / 2 ^ k := Int.ediv_nonneg hb0 (Int.pow_nonneg (by decide))
      by_cases hbit : bits / 2 ^ k % 2 = 1
      · have HB := hid hbit
        have hb1 : (bits / 2 ^ k % 2 == 1) = true := by simp [hbit]
        clear hbit
        go_wp2
        refine wp_region_till (by kernel_rfl) 10 (fun w' => w'.cell? ⟨w.heap.size + 1 + 1, 2, none⟩ = some (.slice pa pm pc) ∧ w'.cell? ⟨w.heap.size, 2, none⟩ = some (.slice (some ⟨b, off, none⟩) c.trials.length tc) ∧ w'.cell? ⟨b, off + k * 4, none⟩ = some (.bool ck) ∧ w'.cell? ⟨b, off + k * 4 + 1, none⟩ = some (.int .i64 num) ∧ w'.cell? ⟨b, off + k * 4 + 2, none⟩ = some (.int .i64 lo) ∧ w'.cell? ⟨b, off + k * 4 + 3, none⟩ = some (.int .i64 hi)) ?_
        have hS0 : wr.drew.cell? ⟨w.heap.size + 1 + 1, 2, none⟩ = some (.slice pa pm pc) ∧ wr.drew.cell? ⟨w.heap.size, 2, none⟩ = some (.slice (some ⟨b, off, none⟩) c.trials.length tc) ∧ wr.drew.cell? ⟨b, off + k * 4, none⟩ = some (.bool ck) ∧ wr.drew.cell? ⟨b, off + k * 4 + 1, none⟩ = some (.int .i64 num) ∧ wr.drew.cell? ⟨b, off + k * 4 + 2, none⟩ = some (.int .i64 lo) ∧ wr.drew.cell? ⟨b, off + k * 4 + 3, none⟩ = some (.int .i64 hi) := ⟨o0, j2, z0, z1, z2, z3⟩
        have hD : Below wr.heap.size wr wr.drew := (Below.refl _ _).drew
        generalize wr.drew = D at *
        have hDs := hD.size
        clear o0 j2 z0 z1 z2 z3 hb1
        refine wpTill_take (i := 0) (v := .pointer (some ⟨w.heap.size + 1 + 1, 2, none⟩)) rfl (by kernel_rfl) (by kernel_rfl) (by kernel_rfl) (by kernel_rfl) (fun _ _ _ h => h) (by rfl) ?_ hS0 ?_
        · rintro w ⟨g0, g1, g2, g3, g4, g5⟩
          go_simp
        simp only [Act.put, List.setIfInBounds_toArray]
        refine wpTill_take (i := 1) (v := .slice pa pm pc) rfl (by kernel_rfl) (by kernel_rfl) (by kernel_rfl) (by kernel_rfl) (fun _ _ _ h => h) (by rfl) ?_ hS0 ?_
        · rintro w ⟨g0, g1, g2, g3, g4, g5⟩
          go_simp
        simp only [Act.put]
        refine wpTill_take (i := 2) (v := .pointer (some ⟨w.heap.size, 2, none⟩)) rfl (by kernel_rfl) (by kernel_rfl) (by kernel_rfl) (by kernel_rfl) (fun _ _ _ h => h) (by rfl) ?_ hS0 ?_
        · rintro w ⟨g0, g1, g2, g3, g4, g5⟩
          go_simp
        simp only [Act.put]
        refine wpTill_take (i := 3) (v := .slice (some ⟨b, off, none⟩) c.trials.length tc) rfl (by kernel_rfl) (by kernel_rfl) (by kernel_rfl) (by kernel_rfl) (fun _ _ _ h => h) (by rfl) ?_ hS0 ?_
        · rintro w ⟨g0, g1, g2, g3, g4, g5⟩
          go_simp
        simp only [Act.put]
        refine wpTill_take (i := 4) (v := .int .i64 k) rfl (by kernel_rfl) (by kernel_rfl) (by kernel_rfl) (by kernel_rfl) (fun _ _ _ h => h) (by rfl) ?_ hS0 ?_
        · rintro w ⟨g0, g1, g2, g3, g4, g5⟩
          go_simp
        simp only [Act.put]
        refine wpTill_take (i := 5) (v := .pointer (some ⟨b, off + k * 4, none⟩)) rfl (by kernel_rfl) (by kernel_rfl) (by kernel_rfl) (by kernel_rfl) (fun _ _ _ h => h) (by rfl) ?_ hS0 ?_
        · rintro w ⟨g0, g1, g2, g3, g4, g5⟩
          go_simp
        simp only [Act.put]
        refine wpTill_take (i := 6) (v := .agg #[.bool ck, .int .i64 num, .int .i64 lo, .int .i64 hi]) rfl (by kernel_rfl) (by kernel_rfl) (by kernel_rfl) (by kernel_rfl) (fun _ _ _ h => h) (by rfl) ?_ hS0 ?_
        · rintro w ⟨g0, g1, g2, g3, g4, g5⟩
          go_simp
        simp only [Act.put]
        have HSKH := hid (fun w2 hk => ⟨(World.cell?_of_block (w := D) (a := ⟨w.heap.size + 1 + 1, 2, none⟩) (hk _ (by show w.heap.size + 1 + 1 < _; omega))).trans hS0.1, (World.cell?_of_block (w := D) (a := ⟨w.heap.size, 2, none⟩) (hk _ (by show w.heap.size < _; omega))).trans hS0.2.1, (World.cell?_of_block (w := D) (a := ⟨b, off + k * 4, none⟩) (hk _ (by show b < _; omega))).trans hS0.2.2.1, (World.cell?_of_block (w := D) (a := ⟨b, off + k * 4 + 1, none⟩) (hk _ (by show b < _; omega))).trans hS0.2.2.2.1, (World.cell?_of_block (w := D) (a := ⟨b, off + k * 4 + 2, none⟩) (hk _ (by show b < _; omega))).trans hS0.2.2.2.2.1, (World.cell?_of_block (w := D) (a := ⟨b, off + k * 4 + 3, none⟩) (hk _ (by show b < _; omega))).trans hS0.2.2.2.2.2⟩ : ∀ w2 : World, (∀ bb, bb < W.heap.size → w2.heap[bb]? = D.heap[bb]?) → (w2.cell? ⟨w.heap.size + 1 + 1, 2, none⟩ = some (.slice pa pm pc) ∧ w2.cell? ⟨w.heap.size, 2, none⟩ = some (.slice (some ⟨b, off, none⟩) c.trials.length tc) ∧ w2.cell? ⟨b, off + k * 4, none⟩ = some (.bool ck) ∧ w2.cell? ⟨b, off + k * 4 + 1, none⟩ = some (.int .i64 num) ∧ w2.cell? ⟨b, off + k * 4 + 2, none⟩ = some (.int .i64 lo) ∧ w2.cell? ⟨b, off + k * 4 + 3, none⟩ = some (.int .i64 hi)))
        clear hS0
        have HDK := hid (fun bb hb => hD.block bb hb : ∀ bb, bb < wr.heap.size → D.heap[bb]? = wr.heap[bb]?)
        refine wpTill_only (i := 7) rfl (by kernel_rfl) (by rfl) ?_
        go_simp
        have K6 := hid (fun bb hb => Below.heap_alloc _ _ _ (by omega) : ∀ bb, bb < W.heap.size → (D.alloc (Obj.cells #[.bool ck, .int .i64 num, .int .i64 lo, .int .i64 hi] 68)).heap[bb]? = D.heap[bb]?)
        refine ⟨HSKH.out _ K6.out, ?_⟩
        try simp only [Act.put, List.setIfInBounds_toArray, List.set_cons_zero, List.set_cons_succ]
        have hown5 := (HOWN.out.below hD).below (below_alloc1 (Nat.le_refl _) (Obj.cells #[.bool ck, .int .i64 num, .int .i64 lo, .int .i64 hi] 68))
        have hsA : (D.alloc (Obj.cells #[.bool ck, .int .i64 num, .int .i64 lo, .int .i64 hi] 68)).heap.size = D.heap.size + 1 := by simp
        have hnew := cells_new D [.bool ck, .int .i64 num, .int .i64 lo, .int .i64 hi] 68
        refine wpTill_only (i := 8) rfl (by kernel_rfl) (by rfl) ?_
        refine wp_append1 encT4 _ _ _ rfl W.heap.size 68 _ 4 32 rtrials_under infoRTrial rfl (by omega) (fun _ => rfl) encT4_one (.slice pa pm pc) (someL bits (c.trials.take k) 0) (by rfl) hown5 D.heap.size 1 ⟨ck, num, lo, hi⟩ (by rfl) hnew (by have := HPM.out; omega) (by omega) (by omega) ?_
        intro v6 w6 hown6 hgr6
        have hs6 := hgr6.size
        have K7 := hid (fun bb hb => (hgr6.block bb (by omega) (fun e => by have := HOB.out bb e.symm; omega)).trans (K6.out bb hb) : ∀ bb, bb < W.heap.size → w6.heap[bb]? = D.heap[bb]?)
        refine ⟨fun _ => HSKH.out _ K7.out, ?_⟩
        simp only [Act.put, List.setIfInBounds_toArray]
        obtain ⟨pa6, pc6, hv6, -, -⟩ := hown6.slLt (fun _ => rfl)
        obtain ⟨pm6, hpm6⟩ : ∃ pm6, pm6 = (someL bits (c.trials.take k) 0 ++ [(⟨ck, num, lo, hi⟩ : Tl)]).length := ⟨_, rfl⟩
        rw [← hpm6] at hv6
        clear hpm6
        subst hv6
        have HROW6 := hid ((K7.out (w.heap.size + 1 + 1) (by omega)).trans ((HDK.out _ (by omega)).trans HROW.out))
        have HCH6 := hid (show Chg (fun bb => bb = w.heap.size + 1 + 1) W w6 from ⟨hgr6.os.trans (hD.os.trans HCH.out.os), hgr6.tape.trans (hD.tape.trans HCH.out.tape), hgr6.output.trans (hD.output.trans HCH.out.output), by omega, fun bb hb hne => (K7.out bb (by omega)).trans ((HDK.out bb (by omega)).trans (HCH.out.block bb hb hne))⟩)
        have HOWN6 := hid hown6
        clear hown6 hgr6 hown5 hnew
        refine wpTill_only (i := 9) rfl (by kernel_rfl) (by rfl) ?_
        go_simp
        refine ⟨HSKH.out _ K7.out, ?_⟩
        try simp only [Act.put, List.setIfInBounds_toArray, List.set_cons_zero, List.set_cons_succ]
        have c60 := cell_of_row HROW6.out 2
        have f60 := frozen_of_row HROW6.out 2
        simp only [List.getElem?_toArray, List.getElem?_cons_zero, List.getElem?_cons_succ] at c60
        refine wpTill_only (i := 10) rfl (by kernel_rfl) (by rfl) ?_
        go_simp
        refine wpTill_done (by kernel_rfl) ?_ _
        have hch7 := HCH6.out.trans (setCell_chg (A := w6) (g := w.heap.size + 1 + 1) (i := 2) (.slice pa6 pm6 pc6))
        have hrow7 := row_set HROW6.out 2 (.slice pa6 pm6 pc6)
        have hown7 := HOWN6.out.chg (setCell_chg (A := w6) (g := w.heap.size + 1 + 1) (i := 2) (.slice pa6 pm6 pc6)) (fun bb hb => by omega)
        have HX7 := hid (And.intro hch7 (And.intro hrow7 hown7))
        clear hch7 hrow7 hown7 c60 f60
        go_wp2_with fail
        go_roundw
        case rel => exact ⟨k + 1, _, by omega, by go_num, HX7.out.1, HX7.out.2.1, by rw [HT.out, if_pos HB.out]; exact HX7.out.2.2⟩
        case measure => simp [intOf]; omega
      · have HB := hid hbit
        have hb1 : (bits / 2 ^ k % 2 == 1) = false := by simp [hbit]
        clear hbit
        go_wp2
        go_roundw
        case rel => exact ⟨k + 1, _, by omega, by go_num, HCH.out, HROW.out, by rw [HT.out, if_neg HB.out, List.append_nil]; exact HOWN.out⟩
        case measure => simp [intOf]; omega
    · have hk2 : k = c.trials.length := by omega
      subst hk2
      rw [List.take_length] at hown
      obtain ⟨ta1, tc1, htv, -, -⟩ := hown.slLt (fun _ => rfl)
      obtain ⟨tm1, htm1⟩ : ∃ tm1, tm1 = (someL bits c.trials 0).length := ⟨_, rfl⟩
      rw [← htm1] at htv
      subst htv
      have HTM := hid htm1
      have ht3 := hown.sl (fun _ => rfl)
      have hrr3 : wr.heap[w.heap.size + 1]? = some (.cells #[.slice none 0 0, .slice none 0 0, .slice none 0 0] 26 (0, 0)) := (hch.block _ (by omega) (by omega)).trans Q1.out
      have hb03 : Below w.heap.size w wr := hWb.trans (hch.below (by omega) (fun bb hb => by omega))
      have o0 := cell_of_row hrow 0
      have o1 := cell_of_row hrow 1
      have o2 := cell_of_row hrow 2
      have p0 := cell_of_row hrr3 0
      have p1 := cell_of_row hrr3 1
      have p2 := cell_of_row hrr3 2
      have f0 := frozen_of_row hrr3 0
      have f1 := frozen_of_row hrr3 1
      have f2 := frozen_of_row hrr3 2
      simp only [List.getElem?_toArray, List.getElem?_cons_zero, List.getElem?_cons_succ] at o0 o1 o2 p0 p1 p2
      have HALL := hid (And.intro ht3 (And.intro hrr3 hb03))
      clear ht3 hrr3 hb03 hown hrow hch htm1
      go_wp2_with fail
      clear o0 o1 o2 p0 p1 p2 f0 f1 f2 j2
      obtain ⟨ht3, hrr3, hb03⟩ := HALL.out
      have hr := row_set3 hrr3 (.slice ha c.heaps.length hc) (.slice ka c.casks.length kc) (.slice ta1 tm1 tc1)
      have hB := below_set3 hb03 (show w.heap.size ≤ w.heap.size + 1 by omega) (.slice ha c.heaps.length hc) (.slice ka c.casks.length kc) (.slice ta1 tm1 tc1)
      have hne : ∀ bb, bb ≠ w.heap.size + 1 → (((wr.setCell ⟨w.heap.size + 1, 0, none⟩ (.slice ha c.heaps.length hc)).setCell ⟨w.heap.size + 1, 1, none⟩ (.slice ka c.casks.length kc)).setCell ⟨w.heap.size + 1, 2, none⟩ (.slice ta1 tm1 tc1)).heap[bb]? = wr.heap[bb]? := fun bb hb => by
        rw [Below.heap_setCell _ _ _ _ hb, Below.heap_setCell _ _ _ _ hb, Below.heap_setCell _ _ _ _ hb]
      have hsv : (((wr.setCell ⟨w.heap.size + 1, 0, none⟩ (.slice ha c.heaps.length hc)).setCell ⟨w.heap.size + 1, 1, none⟩ (.slice ka c.casks.length kc)).setCell ⟨w.heap.size + 1, 2, none⟩ (.slice ta1 tm1 tc1)).heap.size = wr.heap.size := by simp [World.setCell]
      generalize (((wr.setCell ⟨w.heap.size + 1, 0, none⟩ (.slice ha c.heaps.length hc)).setCell ⟨w.heap.size + 1, 1, none⟩ (.slice ka c.casks.length kc)).setCell ⟨w.heap.size + 1, 2, none⟩ (.slice ta1 tm1 tc1)) = V at *
      have q0 := cell_of_row hr 0
      have q1 := cell_of_row hr 1
      have q2 := cell_of_row hr 2
      simp only [List.getElem?_toArray, List.getElem?_cons_zero, List.getElem?_cons_succ] at q0 q1 q2
      have hQ : RetC (someC c bits) w (.returned (.agg #[.slice ha c.heaps.length hc, .slice ka c.casks.length kc, .slice ta1 tm1 tc1])) V := by
        refine ⟨_, rfl, ⟨_, _, _, rfl, ?_, ?_, ?_⟩, hB⟩
        · exact (HH1.out.below (hB.mono hn)).le (by omega)
        · exact (HH2.out.below (hB.mono hn)).le (by omega)
        · exact (ht3.keep (w' := V) ⟨by omega, fun bb hb => hne bb (by have := hb.1; omega)⟩).mono fun bb hb => by show bb < _; have := hb.2; omega
      exact bodyPost_ret (v := .agg #[.slice ha c.heaps.length hc, .slice ka c.casks.length kc, .slice ta1 tm1 tc1]) (by simp only [results, Try.results44]; simp [go_sem, q0, q1, q2]) rfl hQ
end Go.Proofs.Ytjddcaimjofihaa
