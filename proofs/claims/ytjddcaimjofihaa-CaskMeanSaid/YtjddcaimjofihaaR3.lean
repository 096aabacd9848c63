/- Contracts of the reference's Empty, Wider, Bounds and Graded, and of the statements' sure and ranges; no condition. -/
import Derived.Test.YtjddcaimjofihaaT2
namespace Go.Proofs.Ytjddcaimjofihaa
open Go.RowKit Go.Shelf
set_option maxRecDepth 100000

theorem emptyR_any (w : World) : Calls Try.prog 132 #[] w fun e w' => e = .returned (.agg #[.int .i64 1099511627776, .int .i64 (-1099511627776)]) ∧ Below w.heap.size w w' := by
  go_enter Try.func132, Try.ntmps132
  go_wp2
  refine bodyPost_ret (v := .agg #[.int .i64 1099511627776, .int .i64 (-1099511627776)]) (by simp [results, Try.results132, go_sem]) rfl ⟨rfl, below_alloc1 (Nat.le_refl _) _⟩

theorem widerR_any (lo hi n lo' hi' : Int) (h1 : Hid (lo' = min lo n)) (h2 : Hid (hi' = max hi n)) (w : World) :
    Calls Try.prog 133 #[.agg #[.int .i64 lo, .int .i64 hi], .int .i64 n] w fun e w' => e = .returned (.agg #[.int .i64 lo', .int .i64 hi']) ∧ Below w.heap.size w w' := by
  rcases (by omega : lo ≤ n ∨ n < lo) with a | a <;> rcases (by omega : n ≤ hi ∨ hi < n) with b | b
  · have e1 : lo' = lo := by have := h1.out; omega
    have e2 : hi' = hi := by have := h2.out; omega
    rw [e1, e2]
    clear h1 h2 e1 e2
    go_enter Try.func133, Try.ntmps133
    go_wp2
    refine bodyPost_ret (v := .agg #[.int .i64 lo, .int .i64 hi]) (by simp [results, Try.results133, go_sem]) rfl ⟨rfl, below_alloc2 (Nat.le_refl _) _ _⟩
  · have e1 : lo' = lo := by have := h1.out; omega
    have e2 : hi' = n := by have := h2.out; omega
    rw [e1, e2]
    clear h1 h2 e1 e2
    go_enter Try.func133, Try.ntmps133
    go_wp2
    refine bodyPost_ret (v := .agg #[.int .i64 lo, .int .i64 n]) (by simp [results, Try.results133, go_sem]) rfl ⟨rfl, below_alloc2 (Nat.le_refl _) _ _⟩
  · have e1 : lo' = n := by have := h1.out; omega
    have e2 : hi' = hi := by have := h2.out; omega
    rw [e1, e2]
    clear h1 h2 e1 e2
    go_enter Try.func133, Try.ntmps133
    go_wp2
    refine bodyPost_ret (v := .agg #[.int .i64 n, .int .i64 hi]) (by simp [results, Try.results133, go_sem]) rfl ⟨rfl, below_alloc2 (Nat.le_refl _) _ _⟩
  · have e1 : lo' = n := by have := h1.out; omega
    have e2 : hi' = n := by have := h2.out; omega
    rw [e1, e2]
    clear h1 h2 e1 e2
    go_enter Try.func133, Try.ntmps133
    go_wp2
    refine bodyPost_ret (v := .agg #[.int .i64 n, .int .i64 n]) (by simp [results, Try.results133, go_sem]) rfl ⟨rfl, below_alloc2 (Nat.le_refl _) _ _⟩

theorem ofR_hid {z : Int} (c : Ce) (hg : Good c) (l : List Int) (hf : Fit c l) (t : Int) (HZ : Hid (z = ofT c l t)) (v vl : Value) (h0 : 0 ≤ t) (h1 : t < c.heaps.length + c.casks.length) (n : Nat) (w : World) (hn : n ≤ w.heap.size) (h : CeV (Lt n) w v c) (hl : Ints (Lt n) w vl l) :
    Calls Try.prog 38 #[v, vl, .int .i64 t] w fun e w' => e = .returned (.int .i64 z) ∧ Below w.heap.size w w' := by
  rw [HZ.out]; exact ofR_any c hg l hf v vl t h0 h1 n w hn h hl

def bndN (c : Ce) (t : Int) (L : List (List Int)) : Rg := L.foldl (fun r s => wider r (ofT c s t)) ⟨1099511627776, -1099511627776⟩
theorem bndN_take (c : Ce) (t : Int) (L : List (List Int)) (k : Nat) (h : k < L.length) : bndN c t (L.take (k + 1)) = wider (bndN c t (L.take k)) (ofT c L[k] t) := by
  rw [bndN, bndN, List.take_succ_eq_append_getElem h, List.foldl_append]; rfl

set_option maxHeartbeats 4000000 in
theorem boundsR_any (c : Ce) (hg : Good c) (L : List (List Int)) (hfit : ∀ l ∈ L, Fit c l) (hLl : L.length ≤ 100000) (t : Int) (h0 : 0 ≤ t) (h1 : t < c.heaps.length + c.casks.length) (v vl : Value) (n : Nat) (w : World) (hn : n ≤ w.heap.size) (h : CeV (Lt n) w v c) (hl : Lss (Lt n) w vl L) :
    Calls Try.prog 87 #[v, vl, .int .i64 t] w fun e w' => e = .returned (.agg #[.int .i64 (bndR c t L).lo, .int .i64 (bndR c t L).hi]) ∧ Below w.heap.size w w' := by
  have h' := h
  obtain ⟨ha, hc, ka, kc, ta, tc, rfl, -, -, -⟩ := h.open
  obtain ⟨la, lc, rfl, -, hlo⟩ := hl.open
  obtain ⟨W, hW⟩ : ∃ W, W = (w.alloc (Obj.cells #[.slice ha c.heaps.length hc, .slice ka c.casks.length kc, .slice ta c.trials.length tc] 26)).alloc (Obj.cells #[.int .i64 0, .int .i64 0] 66) := ⟨_, rfl⟩
  have hWs : W.heap.size = w.heap.size + 2 := by rw [hW]; simp
  have hWb : Below w.heap.size w W := by rw [hW]; exact below_alloc2 (Nat.le_refl _) _ _
  have q1 : W.heap[w.heap.size + 1]? = some (.cells #[.int .i64 0, .int .i64 0] 66 (0, 0)) := by rw [hW]; exact heap_new2 _ _ _
  have q0 : W.heap[w.heap.size]? = some (.cells #[.slice ha c.heaps.length hc, .slice ka c.casks.length kc, .slice ta c.trials.length tc] 26 (0, 0)) := by rw [hW, Below.heap_alloc _ _ _ (by simp)]; exact heap_new _ _
  have HBOX := hid (fun w1 (hb : Below W.heap.size W w1) => (hb.block w.heap.size (by omega)).trans q0 : ∀ w1, Below W.heap.size W w1 → w1.heap[w.heap.size]? = _)
  have HRES := hid (fun w1 (hb : Below W.heap.size W w1) => (hb.block (w.heap.size + 1) (by omega)).trans q1 : ∀ w1, Below W.heap.size W w1 → w1.heap[w.heap.size + 1]? = _)
  have HCE := hid (fun w1 (hb : Below W.heap.size W w1) => h'.below (hWb.trans (hb.mono (by omega)) |>.mono hn) : ∀ w1, Below W.heap.size W w1 → CeV (Lt n) w1 _ c)
  have HLO := hid hlo
  have HFIT := hid hfit
  have HN0 := hid (show bndN c t (L.take 0) = ⟨1099511627776, -1099511627776⟩ by simp [bndN])
  have HNE := hid (show bndN c t (L.take L.length) = bndR c t L by rw [List.take_length]; rfl)
  clear q0 q1 h' h hl hlo hfit
  go_enter Try.func87, Try.ntmps87
  go_wp2_with fail
  rw [← hW]
  clear hW
  refine (emptyR_any W).mono ?_
  rintro e w1 ⟨rfl, hb1⟩
  have HB1 := hid hb1
  have hs1 := hb1.size
  have hbW3 : Below W.heap.size W (w1.alloc (Obj.cells #[.int .i64 1099511627776, .int .i64 (-1099511627776)] 66)) := hb1.alloc (by omega) _
  have hr3 : (w1.alloc (Obj.cells #[.int .i64 1099511627776, .int .i64 (-1099511627776)] 66)).heap[w1.heap.size]? = some (.cells #[.int .i64 1099511627776, .int .i64 (-1099511627776)] 66 (0, 0)) := heap_new _ _
  clear hb1
  obtain ⟨W3, hW3⟩ : ∃ W3, W3 = w1.alloc (Obj.cells #[.int .i64 1099511627776, .int .i64 (-1099511627776)] 66) := ⟨_, rfl⟩
  rw [← hW3] at hbW3 hr3
  have hs3 : W3.heap.size = w1.heap.size + 1 := by rw [hW3]; simp
  have HB3 := hid hbW3
  have HR3 := hid hr3
  obtain ⟨G, hG⟩ : ∃ G, G = w1.heap.size := ⟨_, rfl⟩
  clear hbW3 hr3
  go_wp2
  rw [← hW3, ← hG]
  rw [← hG] at HR3 hs3 hs1
  clear hW3 hG
  go_loopw [8] (fun i wr => ∃ (k : Nat) (lo hi : Int), k ≤ L.length ∧ i = .int .i64 k ∧ wr.heap[G]? = some (.cells #[.int .i64 lo, .int .i64 hi] 66 (0, 0)) ∧ Hid (bndN c t (L.take k) = ⟨lo, hi⟩) ∧ Below G W3 wr) (fun i _ => L.length - (intOf i).toNat)
  case atStart => exact ⟨0, _, _, by omega, rfl, HR3.out, HN0, Below.refl _ _⟩
  case round =>
    obtain ⟨k, lo, hi, hk, rfl, hrow, HI, hbr⟩ := hrel
    have hbrs := hbr.size
    have hBW := HB3.out.trans (hbr.mono (by omega))
    have HBR := hid hBW
    have HLR := hid hbr
    have HROW := hid hrow
    have hsr : G < wr.heap.size := by omega
    have hwr : w.heap.size + 1 < G := by omega
    by_cases hlt : k < L.length
    · rcases HLO.out with hnil | ⟨b, off, rfl, hbn, hcc⟩
      · rw [hnil] at hlt; simp at hlt
      obtain ⟨xv, y0, hx⟩ := hcc k hlt
      have hbn' : b < n := hbn
      have HAL := hid (hWb.trans (hBW.mono (by omega)))
      have hx' := hx.below (HAL.out.mono hn)
      have z0 := (HAL.out.cell (p := ⟨b, off + k, none⟩) (by show b < _; omega)).trans y0
      have HFK := hid (HFIT.out L[k] (List.getElem_mem _))
      have HNX := hid (bndN_take c t L k hlt)
      clear hcc y0 hx
      generalize L[k] = l at *
      obtain ⟨xa, xc, rfl, -, -⟩ := id hx'.open1
      obtain ⟨z, hz⟩ : ∃ z, z = ofT c l t := ⟨_, rfl⟩
      have HZ := hid hz
      have HX := hid hx'
      have j0 := cell_of_row (HBOX.out wr hBW) 0
      have j1 := cell_of_row (HBOX.out wr hBW) 1
      have j2 := cell_of_row (HBOX.out wr hBW) 2
      have o0 := cell_of_row hrow 0
      have o1 := cell_of_row hrow 1
      have f0 := frozen_of_row hrow 0
      have f1 := frozen_of_row hrow 1
      simp only [List.getElem?_toArray, List.getElem?_cons_zero, List.getElem?_cons_succ] at j0 j1 j2 o0 o1
      obtain ⟨lo', hlo'⟩ : ∃ x, x = min lo z := ⟨_, rfl⟩
      obtain ⟨hi', hhi'⟩ : ∃ x, x = max hi z := ⟨_, rfl⟩
      have HL' := hid hlo'
      have HH' := hid hhi'
      have HNZ := hid (show bndN c t (L.take (k + 1)) = ⟨lo', hi'⟩ by rw [HNX.out, HI.out, hlo', hhi', hz]; rfl)
      obtain ⟨D, hD⟩ : ∃ D, D = wr.drew := ⟨_, rfl⟩
      have hBD : Below wr.heap.size wr D := by rw [hD]; exact (Below.refl _ _).drew
      have hsD : D.heap.size = wr.heap.size := by rw [hD]; rfl
      have hSS := hid (fun w' (h : Below wr.heap.size D w') => ⟨(h.cell (p := ⟨G, 0, none⟩) hsr).trans ((hBD.cell (p := ⟨G, 0, none⟩) hsr).trans o0), (h.cell (p := ⟨G, 1, none⟩) hsr).trans ((hBD.cell (p := ⟨G, 1, none⟩) hsr).trans o1), (h.cell (p := ⟨w.heap.size, 0, none⟩) (by show w.heap.size < _; omega)).trans ((hBD.cell (p := ⟨w.heap.size, 0, none⟩) (by show w.heap.size < _; omega)).trans j0),
        (h.cell (p := ⟨w.heap.size, 1, none⟩) (by show w.heap.size < _; omega)).trans ((hBD.cell (p := ⟨w.heap.size, 1, none⟩) (by show w.heap.size < _; omega)).trans j1), (h.cell (p := ⟨w.heap.size, 2, none⟩) (by show w.heap.size < _; omega)).trans ((hBD.cell (p := ⟨w.heap.size, 2, none⟩) (by show w.heap.size < _; omega)).trans j2), (h.cell (p := ⟨b, off + k, none⟩) (by show b < _; omega)).trans ((hBD.cell (p := ⟨b, off + k, none⟩) (by show b < _; omega)).trans z0)⟩ :
        ∀ w', Below wr.heap.size D w' → w'.cell? ⟨G, 0, none⟩ = some (.int .i64 lo) ∧ w'.cell? ⟨G, 1, none⟩ = some (.int .i64 hi) ∧ w'.cell? ⟨w.heap.size, 0, none⟩ = some (.slice ha c.heaps.length hc) ∧ w'.cell? ⟨w.heap.size, 1, none⟩ = some (.slice ka c.casks.length kc) ∧ w'.cell? ⟨w.heap.size, 2, none⟩ = some (.slice ta c.trials.length tc) ∧ w'.cell? ⟨b, off + k, none⟩ = some (.slice xa l.length xc))
      have HD := hid hBD
      go_wp2
      refine wp_region_grow (by kernel_rfl) 9 (fun w' => Below wr.heap.size D w') ?_ ?_
      · rw [← hD]; exact Below.refl _ _
      rw [← hD]
      have HG := fun (a b : World) (h : Below wr.heap.size D a) (k : Below a.heap.size a b) => (h.trans (k.mono (by have := h.size; omega)) : Below wr.heap.size D b)
      clear hD j0 j1 j2 o0 o1 f0 f1 z0 hz hlo' hhi' hrow hx' hBD hBW hbr
      refine wpG_take (i := 0) (v := .agg #[.int .i64 lo, .int .i64 hi]) rfl rfl (by kernel_rfl) (by kernel_rfl) (by kernel_rfl) (by kernel_rfl) (fun _ _ _ h => h) (by rfl) (fun w' hS' => grow_value ?_ hS') ?_
      · have ⟨s0, s1, s2, s3, s4, s5⟩ := hSS.out _ hS'; go_simp
      try simp only [List.setIfInBounds_toArray, List.set_cons_zero, List.set_cons_succ]
      refine wpG_take (i := 1) (v := .agg #[.slice ha c.heaps.length hc, .slice ka c.casks.length kc, .slice ta c.trials.length tc]) rfl rfl (by kernel_rfl) (by kernel_rfl) (by kernel_rfl) (by kernel_rfl) (fun _ _ _ h => h) (by rfl) (fun w' hS' => grow_value ?_ hS') ?_
      · have ⟨s0, s1, s2, s3, s4, s5⟩ := hSS.out _ hS'; go_simp
      try simp only [List.setIfInBounds_toArray, List.set_cons_zero, List.set_cons_succ]
      refine wpG_take (i := 2) (v := .slice (some ⟨b, off, none⟩) L.length lc) rfl rfl (by kernel_rfl) (by kernel_rfl) (by kernel_rfl) (by kernel_rfl) (fun _ _ _ h => h) (by rfl) (fun w' hS' => grow_value ?_ hS') ?_
      · go_simp
      try simp only [List.setIfInBounds_toArray, List.set_cons_zero, List.set_cons_succ]
      refine wpG_take (i := 3) (v := .int .i64 k) rfl rfl (by kernel_rfl) (by kernel_rfl) (by kernel_rfl) (by kernel_rfl) (fun _ _ _ h => h) (by rfl) (fun w' hS' => grow_value ?_ hS') ?_
      · go_simp
      try simp only [List.setIfInBounds_toArray, List.set_cons_zero, List.set_cons_succ]
      refine wpG_take (i := 4) (v := .pointer (some ⟨b, off + k, none⟩)) rfl rfl (by kernel_rfl) (by kernel_rfl) (by kernel_rfl) (by kernel_rfl) (fun _ _ _ h => h) (by rfl) (fun w' hS' => grow_value ?_ hS') ?_
      · go_simp
      try simp only [List.setIfInBounds_toArray, List.set_cons_zero, List.set_cons_succ]
      refine wpG_take (i := 5) (v := .slice xa l.length xc) rfl rfl (by kernel_rfl) (by kernel_rfl) (by kernel_rfl) (by kernel_rfl) (fun _ _ _ h => h) (by rfl) (fun w' hS' => grow_value ?_ hS') ?_
      · have ⟨s0, s1, s2, s3, s4, s5⟩ := hSS.out _ hS'; go_simp
      try simp only [List.setIfInBounds_toArray, List.set_cons_zero, List.set_cons_succ]
      refine wpG_take (i := 6) (v := .int .i64 t) rfl rfl (by kernel_rfl) (by kernel_rfl) (by kernel_rfl) (by kernel_rfl) (fun _ _ _ h => h) (by rfl) (fun w' hS' => grow_value ?_ hS') ?_
      · go_simp
      try simp only [List.setIfInBounds_toArray, List.set_cons_zero, List.set_cons_succ]
      refine wpG_take (i := 7) (v := .int .i64 z) rfl rfl (by kernel_rfl) (by kernel_rfl) (by kernel_rfl) (by kernel_rfl) (fun _ _ _ h => h) (by rfl) (fun w' hS' => grow_make (f := 38) (args := #[.agg #[.slice ha c.heaps.length hc, .slice ka c.casks.length kc, .slice ta c.trials.length tc], .slice xa l.length xc, .int .i64 t]) ?_ hS' HG ?_) ?_
      · have ⟨s0, s1, s2, s3, s4, s5⟩ := hSS.out _ hS'; go_simp
      · have ⟨s0, s1, s2, s3, s4, s5⟩ := hSS.out _ hS'; exact ofR_hid c hg l HFK.out t HZ _ _ h0 h1 n _ (by have := hS'.size; omega) (HCE.out _ (HBR.out.trans ((HD.out.trans (hS'.mono (by omega))).mono (by omega)))) (HX.out.below ((HD.out.trans (hS'.mono (by omega))).mono (by omega)))
      try simp only [List.setIfInBounds_toArray, List.set_cons_zero, List.set_cons_succ]
      refine wpG_take (i := 8) (v := .agg #[.int .i64 lo', .int .i64 hi']) rfl rfl (by kernel_rfl) (by kernel_rfl) (by kernel_rfl) (by kernel_rfl) (fun _ _ _ h => h) (by rfl) (fun w' hS' => grow_make (f := 133) (args := #[.agg #[.int .i64 lo, .int .i64 hi], .int .i64 z]) ?_ hS' HG ?_) ?_
      · have ⟨s0, s1, s2, s3, s4, s5⟩ := hSS.out _ hS'; go_simp
      · have ⟨s0, s1, s2, s3, s4, s5⟩ := hSS.out _ hS'; exact widerR_any lo hi z lo' hi' HL' HH' _
      try simp only [List.setIfInBounds_toArray, List.set_cons_zero, List.set_cons_succ]
      refine wpG_last rfl (by kernel_rfl) (by kernel_rfl) (by rfl) (fun w5 hb5 hS5 => ?_)
      have hr5 := (hS5.block G (by omega)).trans ((HD.out.block G (by omega)).trans HROW.out)
      have hb5W : Below G W3 w5 := HLR.out.trans ((HD.out.trans (hS5.mono (by omega))).mono (by omega))
      have c0 := cell_of_row hr5 0
      have c1 := cell_of_row hr5 1
      have f0 := frozen_of_row hr5 0
      have f1 := frozen_of_row hr5 1
      simp only [List.getElem?_toArray, List.getElem?_cons_zero, List.getElem?_cons_succ] at c0 c1
      have HX5 := hid (And.intro (row_set (row_set hr5 0 (.int .i64 lo')) 1 (.int .i64 hi')) ((hb5W.setCell (p := ⟨G, 0, none⟩) (Nat.le_refl _) (.int .i64 lo')).setCell (p := ⟨G, 1, none⟩) (Nat.le_refl _) (.int .i64 hi')))
      clear hr5 hb5W hS5 hb5
      go_simp
      clear c0 c1 f0 f1
      generalize ((w5.setCell ⟨G, 0, none⟩ (.int .i64 lo')).setCell ⟨G, 1, none⟩ (.int .i64 hi')) = V at *
      go_wp2
      go_roundw
      case rel => exact ⟨k + 1, lo', hi', by omega, by go_num, by simpa using HX5.out.1, HNZ, HX5.out.2⟩
      case measure => simp [intOf]; omega
    · have hke : k = L.length := by omega
      subst hke
      have HE2 := hid (show bndR c t L = ⟨lo, hi⟩ by rw [← HNE.out]; exact HI.out)
      have hres := HRES.out wr hBW
      have o0 := cell_of_row hrow 0
      have o1 := cell_of_row hrow 1
      have p0 := cell_of_row hres 0
      have p1 := cell_of_row hres 1
      have f0 := frozen_of_row hres 0
      have f1 := frozen_of_row hres 1
      simp only [List.getElem?_toArray, List.getElem?_cons_zero, List.getElem?_cons_succ] at o0 o1 p0 p1
      have HALL := hid (And.intro hres (hWb.trans (hBW.mono (by omega))))
      clear hrow hres hbr hBW
      go_wp2_with fail
      clear o0 o1 p0 p1 f0 f1
      obtain ⟨hres, hball⟩ := HALL.out
      have hr := row_set (row_set hres 0 (.int .i64 lo)) 1 (.int .i64 hi)
      have hB := (hball.setCell (p := ⟨w.heap.size + 1, 0, none⟩) (by show w.heap.size ≤ w.heap.size + 1; omega) (.int .i64 lo)).setCell (p := ⟨w.heap.size + 1, 1, none⟩) (by show w.heap.size ≤ w.heap.size + 1; omega) (.int .i64 hi)
      generalize ((wr.setCell ⟨w.heap.size + 1, 0, none⟩ (.int .i64 lo)).setCell ⟨w.heap.size + 1, 1, none⟩ (.int .i64 hi)) = V at *
      have q0 := cell_of_row hr 0
      have q1 := cell_of_row hr 1
      simp only [List.setIfInBounds_toArray, List.set_cons_zero, List.set_cons_succ, List.getElem?_toArray, List.getElem?_cons_zero, List.getElem?_cons_succ] at q0 q1
      rw [HE2.out]
      exact bodyPost_ret (v := .agg #[.int .i64 lo, .int .i64 hi]) (by simp only [results, Try.results87]; simp [go_sem, q0, q1]) rfl ⟨rfl, hB⟩
end Go.Proofs.Ytjddcaimjofihaa
