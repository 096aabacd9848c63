/- Contracts of the reference's Nth, Things and Truths; no condition. -/
import Derived.Test.YtjddcaimjofihaaR1
import Derived.Test.YtjddcaimjofihaaRG
namespace Go.Proofs.Ytjddcaimjofihaa
open Go.RowKit Go.Shelf
set_option maxRecDepth 100000

set_option maxHeartbeats 2000000 in
theorem nth_any (c : Ce) (hr : ∀ r ∈ c.heaps, 0 ≤ r.lo ∧ r.lo ≤ r.hi ∧ r.hi ≤ 100) (hhl : c.heaps.length ≤ 1000) (m : Int) (hm : 0 ≤ m ∧ m ≤ 1000000) (v : Value) (n : Nat) (w : World) (hn : n ≤ w.heap.size) (h : CeV (Lt n) w v c) :
    Calls Try.prog 39 #[v, .int .i64 m] w fun e w' => ∃ v', e = .returned v' ∧ Own w.heap.size 3 1 encI w' v' (nthL c.heaps m) ∧ Below w.heap.size w w' := by
  obtain ⟨ha, hc, ka, kc, ta, tc, rfl, H1, -, -⟩ := h.open
  obtain ⟨_, _, he, -, ho⟩ := H1.open2
  cases he
  obtain ⟨W, hW⟩ : ∃ W, W = w.alloc (Obj.cells #[.slice ha c.heaps.length hc, .slice ka c.casks.length kc, .slice ta c.trials.length tc] 26) := ⟨_, rfl⟩
  have hWs : W.heap.size = w.heap.size + 1 := by rw [hW]; simp
  have hWb : Below w.heap.size w W := by rw [hW]; exact below_alloc1 (Nat.le_refl _) _
  have hWr : W.heap[w.heap.size]? = some (.cells #[.slice ha c.heaps.length hc, .slice ka c.casks.length kc, .slice ta c.trials.length tc] 26 (0, 0)) := by rw [hW]; exact heap_new _ _
  have r0 := cell_of_row hWr 0
  simp only [List.getElem?_toArray, List.getElem?_cons_zero] at r0
  have HO := hid ho
  have HRR := hid hr
  clear H1 ho hr h
  go_enter Try.func39, Try.ntmps39
  go_wp2
  rw [← hW]
  clear hW hWr
  go_loopw [1, 5, 6] (fun nv ov i wr => ∃ (k : Nat) (q : Int) (pre : List Int), k ≤ c.heaps.length ∧ i = .int .i64 k ∧ nv = .int .i64 q ∧ 0 ≤ q ∧ q ≤ 1000000 ∧ pre.length = k ∧ Own W.heap.size 3 1 encI wr ov pre ∧ Hid (pre ++ nthL (c.heaps.drop k) q = nthL c.heaps m) ∧ Below W.heap.size W wr) (fun _ _ i _ => c.heaps.length - (intOf i).toNat)
  case atStart => exact ⟨0, m, [], by omega, rfl, rfl, hm.1, hm.2, rfl, Own.nil, hid rfl, Below.refl _ _⟩
  case round =>
    obtain ⟨k, q, pre, hk, rfl, rfl, hq0, hq1, hpl, hown, HI, hb⟩ := hrel
    have k0 := (hb.cell (p := ⟨w.heap.size, 0, none⟩) (by show w.heap.size < _; omega)).trans r0
    have hbs := hb.size
    by_cases hlt : k < c.heaps.length
    · rcases HO.out with hnil | ⟨b, off, rfl, hbn, hcc⟩
      · rw [hnil] at hlt; simp at hlt
      obtain ⟨y0, y1⟩ := hcc k hlt
      clear hcc
      have hbl : b < n := hbn
      have z0 := (hb.cell (p := ⟨b, off + k * 2, none⟩) (by show b < _; omega)).trans ((hWb.cell (p := ⟨b, off + k * 2, none⟩) (by show b < _; omega)).trans y0)
      have z1 := (hb.cell (p := ⟨b, off + k * 2 + 1, none⟩) (by show b < _; omega)).trans ((hWb.cell (p := ⟨b, off + k * 2 + 1, none⟩) (by show b < _; omega)).trans y1)
      have hx := HRR.out c.heaps[k] (List.getElem_mem _)
      have HD := hid (show nthL (c.heaps.drop k) q = (c.heaps[k].lo + q % size c.heaps[k]) :: nthL (c.heaps.drop (k + 1)) (q / size c.heaps[k]) by rw [List.drop_eq_getElem_cons hlt]; rfl)
      clear y0 y1
      generalize c.heaps[k] = r at *
      obtain ⟨lo, hi⟩ := r
      simp only at hx z0 z1 HD
      have hsz : 1 ≤ size ⟨lo, hi⟩ ∧ size ⟨lo, hi⟩ ≤ 101 := by simp only [size]; omega
      have HX := hid hx
      obtain ⟨s, hs⟩ : ∃ s, s = size ⟨lo, hi⟩ := ⟨_, rfl⟩
      rw [← hs] at hsz HD
      have HS := hid hs
      clear hs
      have hsz0 : (s == 0) = false := by rw [beq_eq_false_iff_ne]; omega
      have hsne : ¬ s = 0 := by omega
      have hm0 := Int.emod_nonneg q (show s ≠ 0 by omega)
      have hm1 := Int.emod_lt_of_pos q (show 0 < s by omega)
      have hwr : IntKind.i64.wrap (lo + q % s) = lo + q % s := IntWalk.i64_in _ (by omega)
      have hd0 : 0 ≤ q / s := Int.ediv_nonneg hq0 (by omega)
      have hd1 : q / s ≤ q := Int.ediv_le_self s hq0
      have hwq : IntKind.i64.wrap (q / s) = q / s := IntWalk.i64_in _ (by omega)
      have ht1 : q.tmod s = q % s := Int.tmod_eq_emod_of_nonneg hq0
      have ht2 : q.tdiv s = q / s := Int.tdiv_eq_ediv_of_nonneg hq0
      have HOWN := hid hown
      have HB := hid hb
      have HOB := hid hown.block
      obtain ⟨pa, pc, hv0, -, -⟩ := hown.slLt encI_length
      rw [hpl] at hv0
      clear hown
      subst hv0
      have hgl : w.heap.size < wr.heap.size := by omega
      have hbw : b < wr.heap.size := by omega
      go_wp2
      obtain ⟨D, hD⟩ : ∃ D, D = (wr.alloc (Obj.cells #[Value.int .i64 lo, Value.int .i64 hi] 66)).drew := ⟨_, rfl⟩
      have hBD : Below wr.heap.size wr D := by rw [hD]; exact (below_alloc1 (Nat.le_refl _) _).drew
      have hsD : D.heap.size = wr.heap.size + 1 := by rw [hD]; simp
      have hbx : D.heap[wr.heap.size]? = some (.cells #[.int .i64 lo, .int .i64 hi] 66 (0, 0)) := by rw [hD]; exact heap_new wr _
      obtain ⟨T, hT⟩ : ∃ T : Nat → Prop, T = fun b => (Value.slice pa k pc).ownBlock = some b := ⟨_, rfl⟩
      have HT := hid (fun b h => HOB.out b (by rw [hT] at h; exact h) : ∀ b, T b → W.heap.size ≤ b ∧ b < wr.heap.size)
      have hnT : ¬ T wr.heap.size := fun h => by have := HT.out _ h; omega
      have x0 := cell_of_row hbx 0
      have x1 := cell_of_row hbx 1
      simp only [List.getElem?_toArray, List.getElem?_cons_zero, List.getElem?_cons_succ] at x0 x1
      have HL := hid (fun w' h => ⟨(h.cell (by omega) hnT).trans x0, (h.cell (by omega) hnT).trans x1⟩ : ∀ w', Chg T D w' → w'.cell? ⟨wr.heap.size, 0, none⟩ = some (.int .i64 lo) ∧ w'.cell? ⟨wr.heap.size, 1, none⟩ = some (.int .i64 hi))
      refine wp_region_grow (by kernel_rfl) 99 (Chg T D) ?_ ?_
      · rw [← hD]; exact Chg.refl _ _
      rw [← hD]
      have HTE := hid hT
      have HG := chg_grow (T := T) D
      clear hD hT x0 x1 hbx z0 z1 k0 r0
      refine wpG_take (i := 0) (v := .slice pa k pc) rfl rfl (by kernel_rfl) (by kernel_rfl) (by kernel_rfl) (by kernel_rfl) (fun _ _ _ h => h) (by rfl) (fun w' hS' => grow_value ?_ hS') ?_
      · go_simp
      try simp only [List.setIfInBounds_toArray, List.set_cons_zero, List.set_cons_succ]
      refine wpG_take (i := 1) (v := .pointer (some ⟨wr.heap.size, 0, none⟩)) rfl rfl (by kernel_rfl) (by kernel_rfl) (by kernel_rfl) (by kernel_rfl) (fun _ _ _ h => h) (by rfl) (fun w' hS' => grow_value ?_ hS') ?_
      · go_simp
      try simp only [List.setIfInBounds_toArray, List.set_cons_zero, List.set_cons_succ]
      refine wpG_take (i := 2) (v := .int .i64 lo) rfl rfl (by kernel_rfl) (by kernel_rfl) (by kernel_rfl) (by kernel_rfl) (fun _ _ _ h => h) (by rfl) (fun w' hS' => grow_value ?_ hS') ?_
      · have ⟨s0, s1⟩ := HL.out _ hS'; go_simp
      try simp only [List.setIfInBounds_toArray, List.set_cons_zero, List.set_cons_succ]
      refine wpG_take (i := 3) (v := .int .i64 q) rfl rfl (by kernel_rfl) (by kernel_rfl) (by kernel_rfl) (by kernel_rfl) (fun _ _ _ h => h) (by rfl) (fun w' hS' => grow_value ?_ hS') ?_
      · go_simp
      try simp only [List.setIfInBounds_toArray, List.set_cons_zero, List.set_cons_succ]
      refine wpG_take (i := 4) (v := .agg #[.int .i64 lo, .int .i64 hi]) rfl rfl (by kernel_rfl) (by kernel_rfl) (by kernel_rfl) (by kernel_rfl) (fun _ _ _ h => h) (by rfl) (fun w' hS' => grow_value ?_ hS') ?_
      · have ⟨s0, s1⟩ := HL.out _ hS'; go_simp
      try simp only [List.setIfInBounds_toArray, List.set_cons_zero, List.set_cons_succ]
      refine wpG_take (i := 5) (v := .int .i64 s) rfl rfl (by kernel_rfl) (by kernel_rfl) (by kernel_rfl) (by kernel_rfl) (fun _ _ _ h => h) (by rfl) (fun w' hS' => grow_make (f := 92) (args := #[.agg #[.int .i64 lo, .int .i64 hi]]) ?_ hS' HG ?_) ?_
      · have ⟨s0, s1⟩ := HL.out _ hS'; go_simp
      · have ⟨s0, s1⟩ := HL.out _ hS'; exact (by rw [HS.out]; exact sizeR_any lo hi _ HX.out)
      try simp only [List.setIfInBounds_toArray, List.set_cons_zero, List.set_cons_succ]
      refine wpG_take (i := 6) (v := .int .i64 (q % s)) rfl rfl (by kernel_rfl) (by kernel_rfl) (by kernel_rfl) (by kernel_rfl) (fun _ _ _ h => h) (by rfl) (fun w' hS' => grow_value ?_ hS') ?_
      · go_simp
      try simp only [List.setIfInBounds_toArray, List.set_cons_zero, List.set_cons_succ]
      refine wpG_take (i := 7) (v := .int .i64 (lo + q % s)) rfl rfl (by kernel_rfl) (by kernel_rfl) (by kernel_rfl) (by kernel_rfl) (fun _ _ _ h => h) (by rfl) (fun w' hS' => grow_value ?_ hS') ?_
      · go_simp
      try simp only [List.setIfInBounds_toArray, List.set_cons_zero, List.set_cons_succ]
      refine wpG_take (i := 10) (v := .int .i64 q) rfl rfl (by kernel_rfl) (by kernel_rfl) (by kernel_rfl) (by kernel_rfl) (fun _ _ _ h => h) (by rfl) (fun w' hS' => grow_value ?_ hS') ?_
      · go_simp
      try simp only [List.setIfInBounds_toArray, List.set_cons_zero, List.set_cons_succ]
      refine wpG_take (i := 11) (v := .agg #[.int .i64 lo, .int .i64 hi]) rfl rfl (by kernel_rfl) (by kernel_rfl) (by kernel_rfl) (by kernel_rfl) (fun _ _ _ h => h) (by rfl) (fun w' hS' => grow_value ?_ hS') ?_
      · have ⟨s0, s1⟩ := HL.out _ hS'; go_simp
      try simp only [List.setIfInBounds_toArray, List.set_cons_zero, List.set_cons_succ]
      refine wpG_only (i := 8) rfl (by rfl) (by kernel_rfl) (by rfl) (fun w1 hb1 hS1 => ?_)
      go_simp
      refine ⟨hS1.trans (chg_alloc _ _), ?_⟩
      have hown1 := (HOWN.out.below (hBD.trans (hb1.mono (by omega)))).below (below_alloc1 (Nat.le_refl _) (Obj.cells #[.int .i64 (lo + q % s)] 3))
      have hnew := cells_new w1 [.int .i64 (lo + q % s)] 3
      have hS2 : Chg T D (w1.alloc (Obj.cells #[.int .i64 (lo + q % s)] 3)) := hS1.trans (chg_alloc _ _)
      have hsA : w1.heap.size < (w1.alloc (Obj.cells #[.int .i64 (lo + q % s)] 3)).heap.size := by simp
      generalize w1.alloc (Obj.cells #[.int .i64 (lo + q % s)] 3) = w2 at *
      refine wpG_only (i := 9) rfl (by rfl) (by kernel_rfl) (by rfl) (fun w3 hb3 hS3 => ?_)
      refine wp_append1 encI _ _ _ rfl W.heap.size 3 _ 1 8 ints_under infoInt rfl (by omega) encI_length encI_one (.slice pa k pc) pre (by rfl) (hown1.below hb3) w1.heap.size 1 (lo + q % s) (by rfl) (fun i u hu => (hb3.cell (p := ⟨w1.heap.size, i, none⟩) hsA).trans (hnew i u hu)) (by omega) (by omega) (by have := hb3.size; have := hS2.size; omega) ?_
      intro v4 w4 hown4 hgr4
      have hS4 : Chg T D w4 := hS3.trans (by rw [HTE.out]; exact chg_grown hgr4)
      refine ⟨hS4, ?_⟩
      try simp only [List.setIfInBounds_toArray, List.set_cons_zero, List.set_cons_succ]
      refine wpG_take (i := 12) (v := .int .i64 s) rfl rfl (by kernel_rfl) (by kernel_rfl) (by kernel_rfl) (by kernel_rfl) (fun _ _ _ h => h) (by rfl) (fun w' hS' => grow_make (f := 92) (args := #[.agg #[.int .i64 lo, .int .i64 hi]]) ?_ hS' HG ?_) ?_
      · have ⟨s0, s1⟩ := HL.out _ hS'; go_simp
      · have ⟨s0, s1⟩ := HL.out _ hS'; exact (by rw [HS.out]; exact sizeR_any lo hi _ HX.out)
      try simp only [List.setIfInBounds_toArray, List.set_cons_zero, List.set_cons_succ]
      refine wpG_take (i := 13) (v := .int .i64 (q / s)) rfl rfl (by kernel_rfl) (by kernel_rfl) (by kernel_rfl) (by kernel_rfl) (fun _ _ _ h => h) (by rfl) (fun w' hS' => grow_value ?_ hS') ?_
      · go_simp
      try simp only [List.setIfInBounds_toArray, List.set_cons_zero, List.set_cons_succ]
      refine wpG_take (i := 14) (v := v4) rfl rfl (by kernel_rfl) (by kernel_rfl) (by kernel_rfl) (by kernel_rfl) (fun _ _ _ h => h) (by rfl) (fun w' hS' => grow_value ?_ hS') ?_
      · go_simp
      try simp only [List.setIfInBounds_toArray, List.set_cons_zero, List.set_cons_succ]
      refine wpG_take (i := 15) (v := .int .i64 (q / s)) rfl rfl (by kernel_rfl) (by kernel_rfl) (by kernel_rfl) (by kernel_rfl) (fun _ _ _ h => h) (by rfl) (fun w' hS' => grow_value ?_ hS') ?_
      · go_simp
      try simp only [List.setIfInBounds_toArray, List.set_cons_zero, List.set_cons_succ]
      refine wpG_done (by kernel_rfl) (fun w5 hb5 hS5 => ?_) _
      have hbE : Below W.heap.size W w5 := HB.out.trans ((hBD.mono (by omega)).trans (hS5.below (by omega) fun b hb h => by have := HT.out b h; omega))
      go_wp2
      go_roundw
      case rel => exact ⟨k + 1, q / s, pre ++ [lo + q % s], by omega, by go_num, rfl, by omega, by omega, by simp [hpl], hown4.below hb5, hid (by rw [← HI.out, HD.out]; simp), hbE⟩
      case measure => simp [intOf]; omega
    · go_wp2
      go_ret
      refine ⟨_, rfl, ?_, hWb.trans (hb.mono (by omega))⟩
      have he : pre = nthL c.heaps m := by rw [← HI.out, List.drop_eq_nil_of_le (by omega)]; simp [nthL]
      rw [← he]
      exact hown.lower (by omega)

theorem things_any (c : Ce) (h3 : c.heaps.length ≤ 1000) (h4 : c.casks.length ≤ 1000) (v : Value) (n : Nat) (w : World) (h : CeV (Lt n) w v c) :
    Calls Try.prog 36 #[v] w fun e w' => e = .returned (.int .i64 (c.heaps.length + c.casks.length)) ∧ Below w.heap.size w w' := by
  obtain ⟨ha, hc, ka, kc, ta, tc, rfl, -, -, -⟩ := h.open
  clear h
  go_enter Try.func36, Try.ntmps36
  go_wp2
  go_ret
  exact ⟨rfl, below_alloc1 (Nat.le_refl _) _⟩
end Go.Proofs.Ytjddcaimjofihaa
