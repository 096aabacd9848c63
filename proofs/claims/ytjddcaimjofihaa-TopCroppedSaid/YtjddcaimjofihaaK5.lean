/- Contracts of the reference's Nth of package crop; no condition. -/
import Derived.Test.YtjddcaimjofihaaK4
import Derived.Test.YtjddcaimjofihaaRJ
import Derived.Test.YtjddcaimjofihaaRH
namespace Go.Proofs.Ytjddcaimjofihaa
open Go.RowKit Go.Shelf
set_option maxRecDepth 100000

set_option maxHeartbeats 4000000 in
theorem nthS_any (f : Fl) (hr : ∀ r ∈ f.growth, 0 ≤ r.lo ∧ r.lo ≤ r.hi ∧ r.hi ≤ 50) (hw : ∀ x ∈ f.wet, 0 ≤ x ∧ x ≤ 2) (hgw : f.growth.length = f.wet.length) (hgs : f.growth.length ≤ 1000) (m : Int) (hm : 0 ≤ m ∧ m ≤ 1000000) (v : Value) (n : Nat) (w : World) (hn : n ≤ w.heap.size) (h : FlV (Lt n) w v f) :
    Calls Try.prog 55 #[v, .int .i64 m] w (RetTwoL (nthG f.growth f.wet m) (nthW f.growth f.wet m) w) := by
  obtain ⟨ga, gc, wa, wc, ba, bc, ca, cc, la, lc, rfl, hp1, hp2, hp3, hp4, hp5⟩ := h.open
  obtain ⟨_, _, he, -, ho1⟩ := hp1.open2
  cases he
  obtain ⟨_, _, he, -, ho2⟩ := hp2.open1
  cases he
  obtain ⟨W, hW⟩ : ∃ W, W = ((w.alloc (Obj.cells #[.int .i64 f.last, .slice ga f.growth.length gc, .slice wa f.wet.length wc, .slice ba f.base.length bc, .slice ca f.crops.length cc, .int .i64 f.ripe, .int .i64 f.late, .int .i64 f.trod, .slice la f.looks.length lc] 78)).alloc (Obj.cells #[.slice none 0 0, .slice none 0 0] 92)).alloc (Obj.cells #[.slice none 0 0, .slice none 0 0] 92) := ⟨_, rfl⟩
  have hWs : W.heap.size = w.heap.size + 3 := by rw [hW]; simp
  have hWb : Below w.heap.size w W := by rw [hW]; exact below_alloc3 (Nat.le_refl _) _ _ _
  obtain ⟨q0, q1, q2⟩ := hW ▸ heap_three w _ _ _
  have HBOX := hid (fun (w1 : World) (hb : Chg (fun b => b = w.heap.size + 1 + 1) W w1) => (hb.block w.heap.size (by omega) (by omega)).trans q0 : ∀ w1, Chg (fun b => b = w.heap.size + 1 + 1) W w1 → w1.heap[w.heap.size]? = _)
  have HB1 := hid (fun (w1 : World) (hb : Chg (fun b => b = w.heap.size + 1 + 1) W w1) => (hb.block (w.heap.size + 1) (by omega) (by omega)).trans q1 : ∀ w1, Chg (fun b => b = w.heap.size + 1 + 1) W w1 → w1.heap[w.heap.size + 1]? = _)
  have Q2 := hid q2
  have HO1 := hid ho1
  have HO2 := hid ho2
  have HR := hid hr
  have HWT := hid hw
  have HGW := hid hgw
  clear hp1 hp2 hp3 hp4 hp5 h ho1 ho2 hr hw hgw q0 q1 q2
  go_enter Try.func55, Try.ntmps55
  go_wp2
  rw [← hW]
  clear hW
  go_loopw [1, 6] (fun nv i wr => ∃ (k : Nat) (q : Int) (gv wv : Value) (pre post : List Int), k ≤ f.growth.length ∧ i = .int .i64 k ∧ nv = .int .i64 q ∧ 0 ≤ q ∧ q ≤ 1000000 ∧ Hid (pre.length = k ∧ post.length = k) ∧ Own W.heap.size 3 1 encI wr gv pre ∧ Own W.heap.size 3 1 encI wr wv post ∧
      Hid (∀ b, gv.ownBlock = some b → wv.ownBlock ≠ some b) ∧ wr.heap[w.heap.size + 1 + 1]? = some (.cells #[gv, wv] 92 (0, 0)) ∧ Hid (pre ++ nthG (f.growth.drop k) (f.wet.drop k) q = nthG f.growth f.wet m) ∧ Hid (post ++ nthW (f.growth.drop k) (f.wet.drop k) q = nthW f.growth f.wet m) ∧ Chg (fun b => b = w.heap.size + 1 + 1) W wr) (fun _ i _ => f.growth.length - (intOf i).toNat)
  case atStart => exact ⟨0, m, .slice none 0 0, .slice none 0 0, [], [], by omega, rfl, rfl, hm.1, hm.2, hid ⟨rfl, rfl⟩, Own.nil, Own.nil, hid (fun b hb => by cases hb), Q2.out, hid rfl, hid rfl, Chg.refl _ _⟩
  case round =>
    obtain ⟨k, q, gv, wv, pre, post, hk, rfl, rfl, hq0, hq1, HLN, hown, hownw, HAP, hrow, HI, HJ, hch⟩ := hrel
    have hsz := hch.size
    have hgl : w.heap.size < wr.heap.size := by omega
    have hBl : w.heap.size + 1 + 1 < wr.heap.size := by omega
    have hBl1 : w.heap.size + 1 < wr.heap.size := by omega
    by_cases hlt : k < f.growth.length
    · have hlt2 : k < f.wet.length := by have := HGW.out; omega
      have hrow := HBOX.out wr hch
      have j0 := cell_of_row hrow 0
      have j1 := cell_of_row hrow 1
      have j2 := cell_of_row hrow 2
      have j3 := cell_of_row hrow 3
      have j4 := cell_of_row hrow 4
      have j5 := cell_of_row hrow 5
      have j6 := cell_of_row hrow 6
      have j7 := cell_of_row hrow 7
      have j8 := cell_of_row hrow 8
      simp only [List.getElem?_toArray, List.getElem?_cons_zero, List.getElem?_cons_succ] at j0 j1 j2 j3 j4 j5 j6 j7 j8
      clear hrow
      clear j0 j3 j4 j5 j6 j7 j8
      rcases HO1.out with hnil | ⟨b1, off1, rfl, hbn1, hc1⟩
      · rw [hnil] at hlt; simp at hlt
      rcases HO2.out with hnil | ⟨b2, off2, rfl, hbn2, hc2⟩
      · rw [hnil] at hlt2; simp at hlt2
      have hbl1 : b1 < n := hbn1
      have hbl2 : b2 < n := hbn2
      have hbw1 : b1 < wr.heap.size := by omega
      have hbw2 : b2 < wr.heap.size := by omega
      have HAL := hid (fun (w1 : World) (hb : Chg (fun b => b = w.heap.size + 1 + 1) W w1) (b o : Nat) (h : b < n) => (World.cell?_of_block (a := ⟨b, o, none⟩) (hb.block b (by omega) (by omega))).trans (hWb.cell (p := ⟨b, o, none⟩) (by show b < _; omega)) : ∀ w1, Chg (fun b => b = w.heap.size + 1 + 1) W w1 → ∀ b o, b < n → w1.cell? ⟨b, o, none⟩ = w.cell? ⟨b, o, none⟩)
      have z0 := (HAL.out wr hch b1 _ hbl1).trans (hc1 k hlt).1
      have z1 := (HAL.out wr hch b1 _ hbl1).trans (hc1 k hlt).2
      have HZ2 := hid (fun w1 h1 => (HAL.out w1 h1 b2 _ hbl2).trans (hc2 k hlt2) : ∀ w1, Chg (fun b => b = w.heap.size + 1 + 1) W w1 → w1.cell? ⟨b2, off2 + k, none⟩ = some (.int .i64 f.wet[k]))
      have hx := HR.out f.growth[k] (List.getElem_mem _)
      have hu := HWT.out f.wet[k] (List.getElem_mem _)
      have HD := hid (show nthG (f.growth.drop k) (f.wet.drop k) q = (f.growth[k].lo + q % size f.growth[k]) :: nthG (f.growth.drop (k + 1)) (f.wet.drop (k + 1)) (restF f.growth[k] f.wet[k] q) by rw [List.drop_eq_getElem_cons hlt, List.drop_eq_getElem_cons hlt2]; rfl)
      have HE := hid (show nthW (f.growth.drop k) (f.wet.drop k) q = (if f.wet[k] = 2 then q / size f.growth[k] % 2 else f.wet[k]) :: nthW (f.growth.drop (k + 1)) (f.wet.drop (k + 1)) (restF f.growth[k] f.wet[k] q) by rw [List.drop_eq_getElem_cons hlt, List.drop_eq_getElem_cons hlt2]; rfl)
      clear hc1 hc2
      generalize f.growth[k] = r at *
      generalize f.wet[k] = u at *
      obtain ⟨lo, hi⟩ := r
      simp only at hx z0 z1 HD HE
      have hsz' : 1 ≤ size ⟨lo, hi⟩ ∧ size ⟨lo, hi⟩ ≤ 51 := by simp only [size]; omega
      have HX := hid hx
      have HU := hid hu
      obtain ⟨s, hs⟩ : ∃ s, s = size ⟨lo, hi⟩ := ⟨_, rfl⟩
      have HRS := hid (show restF ⟨lo, hi⟩ u q = if u = 2 then q / s / 2 else q / s by rw [hs]; rfl)
      rw [← hs] at hsz' HD HE
      have HS := hid hs
      clear hs hu
      have hsz0 : (s == 0) = false := by rw [beq_eq_false_iff_ne]; omega
      have hsne : ¬ s = 0 := by omega
      have hm0 := Int.emod_nonneg q (show s ≠ 0 by omega)
      have hm1 := Int.emod_lt_of_pos q (show 0 < s by omega)
      have hwr : IntKind.i64.wrap (lo + q % s) = lo + q % s := IntWalk.i64_in _ (by omega)
      have hd0 : 0 ≤ q / s := Int.ediv_nonneg hq0 (by omega)
      have hd1 : q / s ≤ q := Int.ediv_le_self s hq0
      have hwq : IntKind.i64.wrap (q / s) = q / s := IntWalk.i64_in _ (by omega)
      have ht1 : q.tmod s = q % s := Int.tmod_eq_emod_of_nonneg hq0
      have ht2 : q.tdiv s = q / s := Int.tdiv_eq_ediv_of_nonneg hq0
      have HOWN := hid hown
      have HOWNW := hid hownw
      have HCH := hid hch
      have HROW := hid hrow
      have HOB := hid hown.block
      have HOBW := hid hownw.block
      obtain ⟨pa, pc, hv0, -, -⟩ := hown.slLt encI_length
      obtain ⟨ua, uc, hv1, -, -⟩ := hownw.slLt encI_length
      rw [HLN.out.1] at hv0
      rw [HLN.out.2] at hv1
      clear hown hownw hch
      subst hv0 hv1
      have o0 := cell_of_row hrow 0
      simp only [List.getElem?_toArray, List.getElem?_cons_zero] at o0
      clear hrow
      go_wp2
      obtain ⟨D, hD⟩ : ∃ D, D = (wr.alloc (Obj.cells #[Value.int .i64 lo, Value.int .i64 hi] 146)).drew := ⟨_, rfl⟩
      have hBD : Below wr.heap.size wr D := by rw [hD]; exact (below_alloc1 (Nat.le_refl _) _).drew
      have hsD : D.heap.size = wr.heap.size + 1 := by rw [hD]; simp
      have hbx : D.heap[wr.heap.size]? = some (.cells #[.int .i64 lo, .int .i64 hi] 146 (0, 0)) := by rw [hD]; exact heap_new wr _
      obtain ⟨T, hT⟩ : ∃ T : Nat → Prop, T = fun b => (Value.slice pa k pc).ownBlock = some b := ⟨_, rfl⟩
      have HT := hid (fun b h => HOB.out b (by rw [hT] at h; exact h) : ∀ b, T b → W.heap.size ≤ b ∧ b < wr.heap.size)
      have hnT : ¬ T wr.heap.size := fun h => by have := HT.out _ h; omega
      have hnB : ¬ T (w.heap.size + 1 + 1) := fun h => by have := HT.out _ h; omega
      have x0 := cell_of_row hbx 0
      have x1 := cell_of_row hbx 1
      have x2 := (hBD.cell (p := ⟨w.heap.size + 1 + 1, 0, none⟩) hBl).trans o0
      simp only [List.getElem?_toArray, List.getElem?_cons_zero, List.getElem?_cons_succ] at x0 x1
      have HL := hid (fun w' h => ⟨(h.cell (by omega) hnT).trans x0, (h.cell (by omega) hnT).trans x1, (h.cell (by omega) hnB).trans x2⟩ : ∀ w', Chg T D w' → w'.cell? ⟨wr.heap.size, 0, none⟩ = some (.int .i64 lo) ∧ w'.cell? ⟨wr.heap.size, 1, none⟩ = some (.int .i64 hi) ∧ w'.cell? ⟨w.heap.size + 1 + 1, 0, none⟩ = some (.slice pa k pc))
      refine wp_region_z (by kernel_rfl) 16 (Chg T D) (fun w' => w'.cell? ⟨wr.heap.size, 0, none⟩ = some (.int .i64 lo) ∧ w'.cell? ⟨wr.heap.size, 1, none⟩ = some (.int .i64 hi)) ?_ ?_
      · rw [← hD]; exact Chg.refl _ _
      rw [← hD]
      have HTE := hid hT
      have HG := chg_grow (T := T) D
      have HROWD := hid ((hBD.block _ hBl).trans HROW.out)
      clear hD hT x0 x1 x2 hbx z0 z1 j1 j2 o0
      refine wpZ_take (i := 0) (v := .pointer (some ⟨w.heap.size + 1 + 1, 0, none⟩)) rfl rfl (by kernel_rfl) (by kernel_rfl) (by kernel_rfl) (by kernel_rfl) (fun _ _ _ h => h) (by rfl) (fun w' hS' => grow_value ?_ hS') ?_
      · go_simp
      try simp only [List.setIfInBounds_toArray, List.set_cons_zero, List.set_cons_succ]
      refine wpZ_take (i := 1) (v := .slice pa k pc) rfl rfl (by kernel_rfl) (by kernel_rfl) (by kernel_rfl) (by kernel_rfl) (fun _ _ _ h => h) (by rfl) (fun w' hS' => grow_value ?_ hS') ?_
      · have ⟨s0, s1, s2⟩ := HL.out _ hS'; go_simp
      try simp only [List.setIfInBounds_toArray, List.set_cons_zero, List.set_cons_succ]
      refine wpZ_take (i := 2) (v := .pointer (some ⟨wr.heap.size, 0, none⟩)) rfl rfl (by kernel_rfl) (by kernel_rfl) (by kernel_rfl) (by kernel_rfl) (fun _ _ _ h => h) (by rfl) (fun w' hS' => grow_value ?_ hS') ?_
      · go_simp
      try simp only [List.setIfInBounds_toArray, List.set_cons_zero, List.set_cons_succ]
      refine wpZ_take (i := 3) (v := .int .i64 lo) rfl rfl (by kernel_rfl) (by kernel_rfl) (by kernel_rfl) (by kernel_rfl) (fun _ _ _ h => h) (by rfl) (fun w' hS' => grow_value ?_ hS') ?_
      · have ⟨s0, s1, s2⟩ := HL.out _ hS'; go_simp
      try simp only [List.setIfInBounds_toArray, List.set_cons_zero, List.set_cons_succ]
      refine wpZ_take (i := 4) (v := .int .i64 q) rfl rfl (by kernel_rfl) (by kernel_rfl) (by kernel_rfl) (by kernel_rfl) (fun _ _ _ h => h) (by rfl) (fun w' hS' => grow_value ?_ hS') ?_
      · go_simp
      try simp only [List.setIfInBounds_toArray, List.set_cons_zero, List.set_cons_succ]
      refine wpZ_take (i := 5) (v := .agg #[.int .i64 lo, .int .i64 hi]) rfl rfl (by kernel_rfl) (by kernel_rfl) (by kernel_rfl) (by kernel_rfl) (fun _ _ _ h => h) (by rfl) (fun w' hS' => grow_value ?_ hS') ?_
      · have ⟨s0, s1, s2⟩ := HL.out _ hS'; go_simp
      try simp only [List.setIfInBounds_toArray, List.set_cons_zero, List.set_cons_succ]
      refine wpZ_take (i := 6) (v := .int .i64 s) rfl rfl (by kernel_rfl) (by kernel_rfl) (by kernel_rfl) (by kernel_rfl) (fun _ _ _ h => h) (by rfl) (fun w' hS' => grow_make (f := 105) (args := #[.agg #[.int .i64 lo, .int .i64 hi]]) ?_ hS' HG ?_) ?_
      · have ⟨s0, s1, s2⟩ := HL.out _ hS'; go_simp
      · have ⟨s0, s1, s2⟩ := HL.out _ hS'; exact (by rw [HS.out]; exact sizeS_any lo hi _ HX.out)
      try simp only [List.setIfInBounds_toArray, List.set_cons_zero, List.set_cons_succ]
      refine wpZ_take (i := 7) (v := .int .i64 (q % s)) rfl rfl (by kernel_rfl) (by kernel_rfl) (by kernel_rfl) (by kernel_rfl) (fun _ _ _ h => h) (by rfl) (fun w' hS' => grow_value ?_ hS') ?_
      · go_simp
      try simp only [List.setIfInBounds_toArray, List.set_cons_zero, List.set_cons_succ]
      refine wpZ_take (i := 8) (v := .int .i64 (lo + q % s)) rfl rfl (by kernel_rfl) (by kernel_rfl) (by kernel_rfl) (by kernel_rfl) (fun _ _ _ h => h) (by rfl) (fun w' hS' => grow_value ?_ hS') ?_
      · go_simp
      try simp only [List.setIfInBounds_toArray, List.set_cons_zero, List.set_cons_succ]
      refine wpZ_load (i := 11) (v := .int .i64 q) rfl rfl (by rfl) (by kernel_rfl) (by kernel_rfl) (by kernel_rfl) (fun _ _ _ h => h) (by rfl) (fun w' hS' => ?_) ?_
      · go_simp
      try simp only [List.setIfInBounds_toArray, List.set_cons_zero, List.set_cons_succ]
      refine wpZ_load (i := 12) (v := .agg #[.int .i64 lo, .int .i64 hi]) rfl rfl (by rfl) (by kernel_rfl) (by kernel_rfl) (by kernel_rfl) (fun _ _ _ h => h) (by rfl) (fun w' hS' => ?_) ?_
      · have ⟨s0, s1⟩ := (hS'.elim (fun h => ⟨(HL.out _ h).1, (HL.out _ h).2.1⟩) id : w'.cell? ⟨wr.heap.size, 0, none⟩ = some (.int .i64 lo) ∧ w'.cell? ⟨wr.heap.size, 1, none⟩ = some (.int .i64 hi)); go_simp
      try simp only [List.setIfInBounds_toArray, List.set_cons_zero, List.set_cons_succ]
      refine wpZ_only (i := 9) rfl (by rfl) (by kernel_rfl) (by rfl) (fun w1 hb1 hS1 => ?_)
      go_simp
      refine ⟨hS1.trans (chg_alloc _ _), ?_⟩
      have hown1 := (HOWN.out.below (hBD.trans (hb1.mono (by omega)))).below (below_alloc1 (Nat.le_refl _) (Obj.cells #[.int .i64 (lo + q % s)] 3))
      have hnew := cells_new w1 [.int .i64 (lo + q % s)] 3
      have hS2 : Chg T D (w1.alloc (Obj.cells #[.int .i64 (lo + q % s)] 3)) := hS1.trans (chg_alloc _ _)
      have hsA : w1.heap.size < (w1.alloc (Obj.cells #[.int .i64 (lo + q % s)] 3)).heap.size := by simp
      generalize w1.alloc (Obj.cells #[.int .i64 (lo + q % s)] 3) = w2 at *
      refine wpZ_only (i := 10) rfl (by rfl) (by kernel_rfl) (by rfl) (fun w3 hb3 hS3 => ?_)
      refine wp_append2 encI _ _ _ rfl W.heap.size 3 _ 1 8 ints_under infoInt rfl (by omega) encI_length encI_one (.slice pa k pc) pre (by rfl) (hown1.below hb3) w1.heap.size 1 (lo + q % s) (by rfl) (fun i u hu => (hb3.cell (p := ⟨w1.heap.size, i, none⟩) hsA).trans (hnew i u hu)) (by have := HLN.out.1; omega) (by omega) (by have := hb3.size; have := hS2.size; omega) ?_
      intro v4 w4 hown4 hgr4 hwh4
      have hS4 : Chg T D w4 := hS3.trans (by rw [HTE.out]; exact chg_grown hgr4)
      refine ⟨hS4, ?_⟩
      try simp only [List.setIfInBounds_toArray, List.set_cons_zero, List.set_cons_succ]
      refine wpZ_take (i := 13) (v := .int .i64 s) rfl rfl (by kernel_rfl) (by kernel_rfl) (by kernel_rfl) (by kernel_rfl) (fun _ _ _ h => h) (by rfl) (fun w' hS' => grow_make (f := 105) (args := #[.agg #[.int .i64 lo, .int .i64 hi]]) ?_ hS' HG ?_) ?_
      · have ⟨s0, s1, s2⟩ := HL.out _ hS'; go_simp
      · have ⟨s0, s1, s2⟩ := HL.out _ hS'; exact (by rw [HS.out]; exact sizeS_any lo hi _ HX.out)
      try simp only [List.setIfInBounds_toArray, List.set_cons_zero, List.set_cons_succ]
      refine wpZ_load (i := 14) (v := .int .i64 (q / s)) rfl rfl (by rfl) (by kernel_rfl) (by kernel_rfl) (by kernel_rfl) (fun _ _ _ h => h) (by rfl) (fun w' hS' => ?_) ?_
      · go_simp
      try simp only [List.setIfInBounds_toArray, List.set_cons_zero, List.set_cons_succ]
      refine wpZ_take (i := 15) (v := .pointer (some ⟨w.heap.size + 1 + 1, 0, none⟩)) rfl rfl (by kernel_rfl) (by kernel_rfl) (by kernel_rfl) (by kernel_rfl) (fun _ _ _ h => h) (by rfl) (fun w' hS' => grow_value ?_ hS') ?_
      · go_simp
      try simp only [List.setIfInBounds_toArray, List.set_cons_zero, List.set_cons_succ]
      obtain ⟨pa4, pc4, hv4, -, -⟩ := hown4.slLt encI_length
      obtain ⟨pm4, hpm4⟩ : ∃ pm4, pm4 = (pre ++ [lo + q % s]).length := ⟨_, rfl⟩
      rw [← hpm4] at hv4
      clear hpm4
      subst hv4
      refine wpZ_last rfl (by kernel_rfl) (by rfl) (fun w5 hb5 hS5 => ?_)
      have hrow5 := row_chg HROWD.out hS5 hnB
      have c5 := cell_of_row hrow5 0
      have f5 := frozen_of_row hrow5 0
      simp only [List.getElem?_toArray, List.getElem?_cons_zero] at c5
      have HS0 := hid (And.intro (HL.out _ hS5).1 (HL.out _ hS5).2.1)
      go_simp
      refine ⟨HS0.out, ?_⟩
      refine wpTs_pure (i := 17) (v := .int .i64 (q / s)) rfl rfl (by kernel_rfl) (by kernel_rfl) (by kernel_rfl) (fun _ _ _ h => h) (by rfl) (fun w' => ?_) ?_
      · go_simp
      try simp only [List.setIfInBounds_toArray, List.set_cons_zero, List.set_cons_succ]
      refine wpTs_done (by kernel_rfl) ?_ _
      clear HS0
      obtain ⟨V, hV⟩ : ∃ V, V = w5.setCell ⟨w.heap.size + 1 + 1, 0, none⟩ (.slice pa4 pm4 pc4) := ⟨_, rfl⟩
      rw [← hV]
      have hVs : w5.heap.size ≤ V.heap.size ∧ V.heap.size ≤ w5.heap.size := by rw [hV]; simp [World.setCell]
      have hcV : Chg (fun b => b = w.heap.size + 1 + 1) w5 V := by rw [hV]; exact setCell_chg _
      have rowV := row_set hrow5 0 (.slice pa4 pm4 pc4)
      rw [← hV] at rowV
      have hchT : Chg T D V ∨ True := .inr trivial
      have hW5 : Chg (fun b => b = w.heap.size + 1 + 1) W V := by
        have h1 : Chg (fun b => b = w.heap.size + 1 + 1) W D := HCH.out.trans (chg_of_below hBD)
        refine ⟨hcV.os.trans (hS5.os.trans h1.os), hcV.tape.trans (hS5.tape.trans h1.tape), hcV.output.trans (hS5.output.trans h1.output), Nat.le_trans h1.size (Nat.le_trans hS5.size hcV.size), fun b hb hne => ?_⟩
        have e1 := hcV.block b (by have := h1.size; have := hS5.size; omega) hne
        have e2 := hS5.block b (by have := h1.size; omega) (fun ht => by have := HT.out b ht; omega)
        exact e1.trans (e2.trans (h1.block b hb hne))
      have hownV : Own W.heap.size 3 1 encI V (.slice pa4 pm4 pc4) (pre ++ [lo + q % s]) := (hown4.below hb5).chg hcV (fun b hb => by omega)
      have hownU : Own W.heap.size 3 1 encI V (.slice ua k uc) post := (((HOWNW.out.below hBD).chg_ne hS5 (fun b hb ht => by rw [HTE.out] at ht; exact HAP.out b ht hb)).chg hcV (fun b hb => by omega))
      have HU1 := hid (fun b hb => (hwh4 b hb).elim (fun h e => HAP.out b h e) (fun h e => by have := HOBW.out b e; have := hb3.size; have := hS2.size; omega) : ∀ b, Value.ownBlock (.slice pa4 pm4 pc4) = some b → Value.ownBlock (.slice ua k uc) ≠ some b)
      have HV1 := hid (And.intro hW5 (And.intro hownV (And.intro hownU rowV)))
      have hVl : wr.heap.size ≤ V.heap.size := by have := hBD.size; have := hS5.size; omega
      have hl4 := hid (hownV.block)
      clear hV hownV hownU hW5 hcV hVs hchT rowV hrow5 c5 f5 hS5 hb5 hS4 hwh4 hgr4 hown4 hS3 hb3 hnew hown1 hS2 hS1 hb1 hsA HG HTE HROWD HL HT
      have hrow := HBOX.out V HV1.out.1
      have j0 := cell_of_row hrow 0
      have j1 := cell_of_row hrow 1
      have j2 := cell_of_row hrow 2
      have j3 := cell_of_row hrow 3
      have j4 := cell_of_row hrow 4
      have j5 := cell_of_row hrow 5
      have j6 := cell_of_row hrow 6
      have j7 := cell_of_row hrow 7
      have j8 := cell_of_row hrow 8
      simp only [List.getElem?_toArray, List.getElem?_cons_zero, List.getElem?_cons_succ] at j0 j1 j2 j3 j4 j5 j6 j7 j8
      clear hrow
      clear j0 j3 j4 j5 j6 j7 j8
      have z2 := HZ2.out V HV1.out.1
      have hgV : w.heap.size < V.heap.size := by omega
      have hbV : b2 < V.heap.size := by omega
      have hBV : w.heap.size + 1 + 1 < V.heap.size := by omega
      have c1 := cell_of_row HV1.out.2.2.2 1
      have f1 := frozen_of_row HV1.out.2.2.2 1
      simp only [List.setIfInBounds_toArray, List.set_cons_zero, List.getElem?_toArray, List.getElem?_cons_zero, List.getElem?_cons_succ] at c1
      have hm20 := Int.emod_nonneg (q / s) (show (2 : Int) ≠ 0 by decide)
      have hm21 := Int.emod_lt_of_pos (q / s) (show (0 : Int) < 2 by decide)
      have hd20 : 0 ≤ q / s / 2 := Int.ediv_nonneg hd0 (by omega)
      have hd21 : q / s / 2 ≤ q / s := Int.ediv_le_self 2 hd0
      have hwq2 : IntKind.i64.wrap (q / s / 2) = q / s / 2 := IntWalk.i64_in _ (by omega)
      have ht3 : (q / s).tmod 2 = q / s % 2 := Int.tmod_eq_emod_of_nonneg hd0
      have ht4 : (q / s).tdiv 2 = q / s / 2 := Int.tdiv_eq_ediv_of_nonneg hd0
      by_cases hu2 : u = 2
      · subst hu2
        go_wp2_with (at_builtin; refine wpList_append2 encI rfl (.tmp 49) (.tmp 51) 47 rfl W.heap.size 3 (.int .i64 0) 1 8 ints_under infoInt rfl (by decide) encI_length encI_one _ post rfl (HV1.out.2.2.1.below (below_alloc1 (Nat.le_refl _) _)) _ _ (q / s % 2) rfl (cells_new _ [.int .i64 (q / s % 2)] _) (by have := HLN.out.2; omega) (by decide) (by simp; omega) ?_; intro v7 w7 hown7 hgr7 hwh7; obtain ⟨pa7, pc7, hv7, -, -⟩ := hown7.slLt encI_length; obtain ⟨pm7, hpm7⟩ : ∃ pm7, pm7 = (post ++ [(q / s % 2)]).length := ⟨_, rfl⟩; rw [← hpm7] at hv7; clear hpm7; subst hv7; have hrow7 := (hgr7.block (w.heap.size + 1 + 1) (by simp; omega) (fun e => by have := HOBW.out _ e.symm; omega)).trans ((Below.heap_alloc _ _ _ hBV).trans HV1.out.2.2.2); simp only [List.setIfInBounds_toArray, List.set_cons_zero] at hrow7; have c7 := cell_of_row hrow7 1; have f7 := frozen_of_row hrow7 1; simp only [List.getElem?_toArray, List.getElem?_cons_zero, List.getElem?_cons_succ] at c7; have hl7 : w.heap.size + 1 + 1 < w7.heap.size := (by have := hgr7.size; simp at this; omega); have HX7 := hid (And.intro hown7 (And.intro hgr7 (And.intro hwh7 hrow7))); clear hown7 hgr7 hwh7 hrow7 c1 f1 j1 j2 z2)
        have hgrow := chg_grown HX7.out.2.1
        have h8 : Chg (fun b => b = w.heap.size + 1 + 1) W w7 := by
          refine ⟨hgrow.os.trans HV1.out.1.os, hgrow.tape.trans HV1.out.1.tape, hgrow.output.trans HV1.out.1.output, Nat.le_trans HV1.out.1.size (Nat.le_trans (by simp) hgrow.size), fun b hb hne => ?_⟩
          have e1 := hgrow.block b (by simp; have := HV1.out.1.size; omega) (fun e => by have := HOBW.out _ e; omega)
          exact e1.trans ((Below.heap_alloc _ _ _ (by have := HV1.out.1.size; omega)).trans (HV1.out.1.block b hb hne))
        have h9 := setCell_chg (A := w7) (g := w.heap.size + 1 + 1) (i := 1) (.slice pa7 pm7 pc7)
        have hrow8 := row_set HX7.out.2.2.2 1 (.slice pa7 pm7 pc7)
        simp only [List.setIfInBounds_toArray, List.set_cons_zero, List.set_cons_succ] at hrow8
        have hown8 := ((HV1.out.2.1.below (below_alloc1 (Nat.le_refl _) (Obj.cells #[.int .i64 (q / s % 2)] 3))).chg_ne hgrow (fun b hb e => HU1.out b hb e)).chg h9 (fun b hb => by omega)
        have hown9 := HX7.out.1.chg h9 (fun b hb => by omega)
        have hap9 : ∀ b, Value.ownBlock (.slice pa4 pm4 pc4) = some b → Value.ownBlock (.slice pa7 pm7 pc7) ≠ some b := fun b hb e => (HX7.out.2.2.1 b e).elim (fun h => HU1.out b hb h) (fun h => by have := hl4.out b hb; simp at h; omega)
        have HF := hid (And.intro (h8.trans h9) (And.intro hown8 (And.intro hown9 (And.intro hap9 hrow8))))
        clear h8 h9 hrow8 hown8 hown9 hap9 hgrow
        go_roundw
        case rel => exact ⟨k + 1, (q / s / 2), _, _, pre ++ [lo + q % s], post ++ [(q / s % 2)], by omega, by go_num, rfl, by omega, by omega, hid ⟨by simp [HLN.out.1], by simp [HLN.out.2]⟩, HF.out.2.1, HF.out.2.2.1, hid HF.out.2.2.2.1, HF.out.2.2.2.2, hid (by rw [← HI.out, HD.out, HRS.out]; simp), hid (by rw [← HJ.out, HE.out, HRS.out]; simp), HF.out.1⟩
        case measure => simp [intOf]; omega
      · have hu3 : (u == 2) = false := by rw [beq_eq_false_iff_ne]; exact hu2
        have HRS := hid (show restF ⟨lo, hi⟩ u q = q / s by rw [HRS.out, if_neg hu2])
        have HE := hid (show nthW (f.growth.drop k) (f.wet.drop k) q = u :: nthW (f.growth.drop (k + 1)) (f.wet.drop (k + 1)) (restF ⟨lo, hi⟩ u q) by rw [HE.out, if_neg hu2])
        clear hu2
        go_wp2_with (at_builtin; refine wpList_append2 encI rfl (.tmp 49) (.tmp 51) 47 rfl W.heap.size 3 (.int .i64 0) 1 8 ints_under infoInt rfl (by decide) encI_length encI_one _ post rfl (HV1.out.2.2.1.below (below_alloc1 (Nat.le_refl _) _)) _ _ u rfl (cells_new _ [.int .i64 u] _) (by have := HLN.out.2; omega) (by decide) (by simp; omega) ?_; intro v7 w7 hown7 hgr7 hwh7; obtain ⟨pa7, pc7, hv7, -, -⟩ := hown7.slLt encI_length; obtain ⟨pm7, hpm7⟩ : ∃ pm7, pm7 = (post ++ [u]).length := ⟨_, rfl⟩; rw [← hpm7] at hv7; clear hpm7; subst hv7; have hrow7 := (hgr7.block (w.heap.size + 1 + 1) (by simp; omega) (fun e => by have := HOBW.out _ e.symm; omega)).trans ((Below.heap_alloc _ _ _ hBV).trans HV1.out.2.2.2); simp only [List.setIfInBounds_toArray, List.set_cons_zero] at hrow7; have c7 := cell_of_row hrow7 1; have f7 := frozen_of_row hrow7 1; simp only [List.getElem?_toArray, List.getElem?_cons_zero, List.getElem?_cons_succ] at c7; have hl7 : w.heap.size + 1 + 1 < w7.heap.size := (by have := hgr7.size; simp at this; omega); have HX7 := hid (And.intro hown7 (And.intro hgr7 (And.intro hwh7 hrow7))); clear hown7 hgr7 hwh7 hrow7 c1 f1 j1 j2 z2)
        have hgrow := chg_grown HX7.out.2.1
        have h8 : Chg (fun b => b = w.heap.size + 1 + 1) W w7 := by
          refine ⟨hgrow.os.trans HV1.out.1.os, hgrow.tape.trans HV1.out.1.tape, hgrow.output.trans HV1.out.1.output, Nat.le_trans HV1.out.1.size (Nat.le_trans (by simp) hgrow.size), fun b hb hne => ?_⟩
          have e1 := hgrow.block b (by simp; have := HV1.out.1.size; omega) (fun e => by have := HOBW.out _ e; omega)
          exact e1.trans ((Below.heap_alloc _ _ _ (by have := HV1.out.1.size; omega)).trans (HV1.out.1.block b hb hne))
        have h9 := setCell_chg (A := w7) (g := w.heap.size + 1 + 1) (i := 1) (.slice pa7 pm7 pc7)
        have hrow8 := row_set HX7.out.2.2.2 1 (.slice pa7 pm7 pc7)
        simp only [List.setIfInBounds_toArray, List.set_cons_zero, List.set_cons_succ] at hrow8
        have hown8 := ((HV1.out.2.1.below (below_alloc1 (Nat.le_refl _) (Obj.cells #[.int .i64 u] 3))).chg_ne hgrow (fun b hb e => HU1.out b hb e)).chg h9 (fun b hb => by omega)
        have hown9 := HX7.out.1.chg h9 (fun b hb => by omega)
        have hap9 : ∀ b, Value.ownBlock (.slice pa4 pm4 pc4) = some b → Value.ownBlock (.slice pa7 pm7 pc7) ≠ some b := fun b hb e => (HX7.out.2.2.1 b e).elim (fun h => HU1.out b hb h) (fun h => by have := hl4.out b hb; simp at h; omega)
        have HF := hid (And.intro (h8.trans h9) (And.intro hown8 (And.intro hown9 (And.intro hap9 hrow8))))
        clear h8 h9 hrow8 hown8 hown9 hap9 hgrow
        go_roundw
        case rel => exact ⟨k + 1, (q / s), _, _, pre ++ [lo + q % s], post ++ [u], by omega, by go_num, rfl, by omega, by omega, hid ⟨by simp [HLN.out.1], by simp [HLN.out.2]⟩, HF.out.2.1, HF.out.2.2.1, hid HF.out.2.2.2.1, HF.out.2.2.2.2, hid (by rw [← HI.out, HD.out, HRS.out]; simp), hid (by rw [← HJ.out, HE.out, HRS.out]; simp), HF.out.1⟩
        case measure => simp [intOf]; omega
    · have HG1 := hid (show pre = nthG f.growth f.wet m by rw [← HI.out, List.drop_eq_nil_of_le (by omega)]; simp [nthG])
      have HG2 := hid (show post = nthW f.growth f.wet m by rw [← HJ.out, List.drop_eq_nil_of_le (by omega)]; simp [nthW])
      have hrow := HBOX.out wr hch
      have j0 := cell_of_row hrow 0
      have j1 := cell_of_row hrow 1
      have j2 := cell_of_row hrow 2
      have j3 := cell_of_row hrow 3
      have j4 := cell_of_row hrow 4
      have j5 := cell_of_row hrow 5
      have j6 := cell_of_row hrow 6
      have j7 := cell_of_row hrow 7
      have j8 := cell_of_row hrow 8
      simp only [List.getElem?_toArray, List.getElem?_cons_zero, List.getElem?_cons_succ] at j0 j1 j2 j3 j4 j5 j6 j7 j8
      clear hrow
      clear j0 j2 j3 j4 j5 j6 j7 j8
      have c0 := cell_of_row hrow 0
      have c1 := cell_of_row hrow 1
      have rr := HB1.out wr hch
      have d0 := cell_of_row rr 0
      have d1 := cell_of_row rr 1
      have f0 := frozen_of_row rr 0
      have f1 := frozen_of_row rr 1
      simp only [List.getElem?_toArray, List.getElem?_cons_zero, List.getElem?_cons_succ] at c0 c1 d0 d1
      obtain ⟨pa, pc, hv0, -, -⟩ := hown.slLt encI_length
      obtain ⟨ua, uc, hv1, -, -⟩ := hownw.slLt encI_length
      rw [HLN.out.1] at hv0
      rw [HLN.out.2] at hv1
      subst hv0 hv1
      have HX0 := hid (And.intro hown hownw)
      have HCH := hid hch
      clear hown hownw hch rr hrow
      go_wp2_with fail
      clear c0 c1 d0 d1 f0 f1
      have rr := HB1.out wr HCH.out
      have hr := row_set (row_set rr 0 (.slice pa k pc)) 1 (.slice ua k uc)
      simp only [List.setIfInBounds_toArray, List.set_cons_zero, List.set_cons_succ] at hr
      obtain ⟨V, hV⟩ : ∃ V, V = (wr.setCell ⟨w.heap.size + 1, 0, none⟩ (.slice pa k pc)).setCell ⟨w.heap.size + 1, 1, none⟩ (.slice ua k uc) := ⟨_, rfl⟩
      rw [← hV] at hr ⊢
      have hc : Chg (fun b => b = w.heap.size + 1) wr V := by rw [hV]; exact (setCell_chg _).trans (setCell_chg _)
      have hVs : V.heap.size ≤ wr.heap.size ∧ wr.heap.size ≤ V.heap.size := by rw [hV]; simp [World.setCell]
      clear hV
      have q0 := cell_of_row hr 0
      have q1 := cell_of_row hr 1
      simp only [List.getElem?_toArray, List.getElem?_cons_zero, List.getElem?_cons_succ] at q0 q1
      have hb : Below w.heap.size w V := (hWb.trans (HCH.out.below (by omega) fun b hb => by omega)).trans (hc.below (by omega) fun b hb => by omega)
      have hQ : RetTwoL (nthG f.growth f.wet m) (nthW f.growth f.wet m) w (.returned (.agg #[.slice pa k pc, .slice ua k uc])) V := by
        refine ⟨_, _, rfl, ?_, ?_, hb⟩
        · rw [← HG1.out]; exact (HX0.out.1.chg hc (fun b hb => by omega)).slLt encI_length
        · rw [← HG2.out]; exact (HX0.out.2.chg hc (fun b hb => by omega)).slLt encI_length
      exact bodyPost_ret (v := .agg #[.slice pa k pc, .slice ua k uc]) (by simp only [results, Try.results55]; simp [go_sem, q0, q1]) rfl hQ
end Go.Proofs.Ytjddcaimjofihaa
