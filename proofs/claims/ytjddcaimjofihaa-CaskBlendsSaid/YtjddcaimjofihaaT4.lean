/- The contract of the statements' ranges; no condition. -/
import Derived.Test.YtjddcaimjofihaaT3
namespace Go.Proofs.Ytjddcaimjofihaa
open Go.RowKit Go.Shelf
set_option maxRecDepth 100000

theorem boundsR_hid {lo hi : Int} (c : Ce) (hg : Good c) (L : List (List Int)) (hfit : ∀ l ∈ L, Fit c l) (hLl : L.length ≤ 100000) (t : Int) (HR : Hid ((⟨lo, hi⟩ : Rg) = bndR c t L)) (h0 : 0 ≤ t) (h1 : t < c.heaps.length + c.casks.length) (v vl : Value) (n : Nat) (w : World) (hn : n ≤ w.heap.size) (h : CeV (Lt n) w v c) (hl : Lss (Lt n) w vl L) :
    Calls Try.prog 87 #[v, vl, .int .i64 t] w fun e w' => e = .returned (.agg #[.int .i64 lo, .int .i64 hi]) ∧ Below w.heap.size w w' := by
  have := boundsR_any c hg L hfit hLl t h0 h1 v vl n w hn h hl
  rwa [← HR.out] at this

set_option maxHeartbeats 4000000 in
theorem ranges_ok (c : Ce) (hg : Good c) (L : List (List Int)) (hfit : ∀ l ∈ L, Fit c l) (hLl : L.length ≤ 100000) (A B : List Rg) (hA : A.length = c.heaps.length) (hB : B.length = c.casks.length)
    (HAe : ∀ (i : Nat) (h : i < A.length), A[i] = bndR c i L) (HBe : ∀ (i : Nat) (h : i < B.length), B[i] = bndR c (c.heaps.length + i) L)
    (v vl va vb : Value) (n : Nat) (w : World) (hn : n ≤ w.heap.size) (h : CeV (Lt n) w v c) (hl : Lss (Lt n) w vl L) (hva : Rgs (Lt n) w va A) (hvb : Rgs (Lt n) w vb B) :
    Calls Try.prog 27 #[v, vl, va, vb] w fun e w' => e = .returned (.bool true) ∧ Below w.heap.size w w' := by
  have hl' := hl
  obtain ⟨la, lc, rfl, -, -⟩ := hl.open
  obtain ⟨aa, ac, rfl, -, hoa⟩ := hva.open2
  obtain ⟨ba, bc, rfl, -, hob⟩ := hvb.open2
  have h' := h
  obtain ⟨ha, hc, ka, kc, ta, tc, rfl, hp1, hp2, hp3⟩ := h.open
  have HOP := hid (And.intro hp1 (And.intro hp2 hp3))
  clear hp1 hp2 hp3
  obtain ⟨W, hW⟩ : ∃ W, W = w.alloc (Obj.cells #[.slice ha c.heaps.length hc, .slice ka c.casks.length kc, .slice ta c.trials.length tc] 26) := ⟨_, rfl⟩
  have hWs : W.heap.size = w.heap.size + 1 := by rw [hW]; simp
  have hWb : Below w.heap.size w W := by rw [hW]; exact below_alloc1 (Nat.le_refl _) _
  have hWr : W.heap[w.heap.size]? = some (.cells #[.slice ha c.heaps.length hc, .slice ka c.casks.length kc, .slice ta c.trials.length tc] 26 (0, 0)) := by rw [hW]; exact heap_new _ _
  have HBOX := hid (fun w1 (hb : Below W.heap.size W w1) => (hb.block w.heap.size (by omega)).trans hWr : ∀ w1, Below W.heap.size W w1 → w1.heap[w.heap.size]? = _)
  have HCE := hid (fun w1 (hb : Below W.heap.size W w1) => h'.below (hWb.trans (hb.mono (by omega)) |>.mono hn) : ∀ w1, Below W.heap.size W w1 → CeV (Lt _) w1 _ c)
  clear hWr h' h
  obtain ⟨⟨g1, g2, g3, -⟩, -⟩ := hg.facts
  have hcA : ((A.length : Int) != (c.heaps.length : Int)) = false := by simp [hA]
  have hcB : ((B.length : Int) != (c.casks.length : Int)) = false := by simp [hB]
  have hcA2 : ((A.length : Int) == (c.heaps.length : Int)) = true := by simp [hA]
  have hcB2 : ((B.length : Int) == (c.casks.length : Int)) = true := by simp [hB]
  have HA := hid hA
  have HB0 := hid hB
  have hA3 : A.length ≤ 3 := by omega
  have hB3 : B.length ≤ 3 := by omega
  have HAE := hid HAe
  have HBE := hid HBe
  have HOA := hid hoa
  have HOB := hid hob
  have HLV := hid (fun w1 (hb : Below W.heap.size W w1) => hl'.below (hWb.trans (hb.mono (by omega)) |>.mono hn) : ∀ w1, Below W.heap.size W w1 → Lss (Lt n) w1 _ L)
  clear hA hB HAe HBe hoa hob hva hvb hl hl'
  go_enter Try.func27, Try.ntmps27
  go_wp2
  rw [← hW]
  clear hW
  go_loopw [9] (fun i wr => ∃ k : Nat, k ≤ A.length ∧ i = .int .i64 k ∧ Below W.heap.size W wr) (fun i _ => A.length - (intOf i).toNat)
  case atStart => exact ⟨0, by omega, rfl, Below.refl _ _⟩
  case round =>
    obtain ⟨k, hk, rfl, hbr⟩ := hrel
    have HBr := hid (below_after (Below.refl W.heap.size W) hbr (Nat.le_refl _))
    have HRr := hid hbr
    have hsr := HBr.out.size
    have hrr := hbr.size
    clear hbr
    by_cases hlt : k < A.length
    · rcases HOA.out with hnil | ⟨b, off, rfl, hbn, hcc⟩
      · rw [hnil] at hlt; simp at hlt
      obtain ⟨y0, y1⟩ := hcc k hlt
      have hbn' : b < n := hbn
      have HAL := hid (hWb.trans (HBr.out.mono (by omega)))
      have he := HAE.out k hlt
      have z0 := (HAL.out.cell (p := ⟨b, off + k * 2, none⟩) (by show b < _; omega)).trans y0
      have z1 := (HAL.out.cell (p := ⟨b, off + k * 2 + 1, none⟩) (by show b < _; omega)).trans y1
      clear hcc y0 y1
      generalize A[k] = r at *
      obtain ⟨lo, hi⟩ := r
      simp only at z0 z1
      have j0 := cell_of_row (HBOX.out wr HBr.out) 0
      have j1 := cell_of_row (HBOX.out wr HBr.out) 1
      have j2 := cell_of_row (HBOX.out wr HBr.out) 2
      simp only [List.getElem?_toArray, List.getElem?_cons_zero, List.getElem?_cons_succ] at j0 j1 j2
      have hSS := hid (fun w' (h : Below wr.heap.size wr w') => ⟨(h.cell (p := ⟨w.heap.size, 0, none⟩) (by show w.heap.size < _; omega)).trans j0, (h.cell (p := ⟨w.heap.size, 1, none⟩) (by show w.heap.size < _; omega)).trans j1, (h.cell (p := ⟨w.heap.size, 2, none⟩) (by show w.heap.size < _; omega)).trans j2,
        (h.cell (p := ⟨b, off + k * 2, none⟩) (by show b < _; omega)).trans z0, (h.cell (p := ⟨b, off + k * 2 + 1, none⟩) (by show b < _; omega)).trans z1⟩ :
        ∀ w', Below wr.heap.size wr w' → w'.cell? ⟨w.heap.size, 0, none⟩ = some (.slice ha c.heaps.length hc) ∧ w'.cell? ⟨w.heap.size, 1, none⟩ = some (.slice ka c.casks.length kc) ∧ w'.cell? ⟨w.heap.size, 2, none⟩ = some (.slice ta c.trials.length tc) ∧ w'.cell? ⟨b, off + k * 2, none⟩ = some (.int .i64 lo) ∧ w'.cell? ⟨b, off + k * 2 + 1, none⟩ = some (.int .i64 hi))
      have HR := hid (show (⟨lo, hi⟩ : Rg) = bndR c (k : Int) L from he)
      clear he
      go_wp2
      refine wp_region_grow (by kernel_rfl) 99 (fun w' => Below wr.heap.size wr w') ?_ ?_
      · exact (Below.refl _ _).drew
      have HG := fun (a b : World) (h : Below wr.heap.size wr a) (k : Below a.heap.size a b) => (h.trans (k.mono h.size) : Below wr.heap.size wr b)
      clear z0 z1 j0 j1 j2
      refine wpG_take (i := 0) (v := .slice (some ⟨b, off, none⟩) A.length ac) rfl rfl (by kernel_rfl) (by kernel_rfl) (by kernel_rfl) (by kernel_rfl) (fun _ _ _ h => h) (by rfl) (fun w' hS' => grow_value ?_ hS') ?_
      · go_simp
      try simp only [List.setIfInBounds_toArray, List.set_cons_zero, List.set_cons_succ]
      refine wpG_take (i := 1) (v := .int .i64 k) rfl rfl (by kernel_rfl) (by kernel_rfl) (by kernel_rfl) (by kernel_rfl) (fun _ _ _ h => h) (by rfl) (fun w' hS' => grow_value ?_ hS') ?_
      · go_simp
      try simp only [List.setIfInBounds_toArray, List.set_cons_zero, List.set_cons_succ]
      refine wpG_take (i := 2) (v := .pointer (some ⟨b, off + k * 2, none⟩)) rfl rfl (by kernel_rfl) (by kernel_rfl) (by kernel_rfl) (by kernel_rfl) (fun _ _ _ h => h) (by rfl) (fun w' hS' => grow_value ?_ hS') ?_
      · go_simp
      try simp only [List.setIfInBounds_toArray, List.set_cons_zero, List.set_cons_succ]
      refine wpG_take (i := 3) (v := .agg #[.int .i64 lo, .int .i64 hi]) rfl rfl (by kernel_rfl) (by kernel_rfl) (by kernel_rfl) (by kernel_rfl) (fun _ _ _ h => h) (by rfl) (fun w' hS' => grow_value ?_ hS') ?_
      · have ⟨s0, s1, s2, s3, s4⟩ := hSS.out _ hS'; go_simp
      try simp only [List.setIfInBounds_toArray, List.set_cons_zero, List.set_cons_succ]
      refine wpG_take (i := 4) (v := .agg #[.slice ha c.heaps.length hc, .slice ka c.casks.length kc, .slice ta c.trials.length tc]) rfl rfl (by kernel_rfl) (by kernel_rfl) (by kernel_rfl) (by kernel_rfl) (fun _ _ _ h => h) (by rfl) (fun w' hS' => grow_value ?_ hS') ?_
      · have ⟨s0, s1, s2, s3, s4⟩ := hSS.out _ hS'; go_simp
      try simp only [List.setIfInBounds_toArray, List.set_cons_zero, List.set_cons_succ]
      refine wpG_take (i := 5) (v := .slice la L.length lc) rfl rfl (by kernel_rfl) (by kernel_rfl) (by kernel_rfl) (by kernel_rfl) (fun _ _ _ h => h) (by rfl) (fun w' hS' => grow_value ?_ hS') ?_
      · go_simp
      try simp only [List.setIfInBounds_toArray, List.set_cons_zero, List.set_cons_succ]
      refine wpG_take (i := 6) (v := .int .i64 k) rfl rfl (by kernel_rfl) (by kernel_rfl) (by kernel_rfl) (by kernel_rfl) (fun _ _ _ h => h) (by rfl) (fun w' hS' => grow_value ?_ hS') ?_
      · go_simp
      try simp only [List.setIfInBounds_toArray, List.set_cons_zero, List.set_cons_succ]
      refine wpG_take (i := 7) (v := .agg #[.int .i64 lo, .int .i64 hi]) rfl rfl (by kernel_rfl) (by kernel_rfl) (by kernel_rfl) (by kernel_rfl) (fun _ _ _ h => h) (by rfl) (fun w' hS' => grow_make (f := 87) (args := #[.agg #[.slice ha c.heaps.length hc, .slice ka c.casks.length kc, .slice ta c.trials.length tc], .slice la L.length lc, .int .i64 k]) ?_ hS' HG ?_) ?_
      · have ⟨s0, s1, s2, s3, s4⟩ := hSS.out _ hS'; go_simp
      · have ⟨s0, s1, s2, s3, s4⟩ := hSS.out _ hS'; exact boundsR_hid c hg L hfit hLl (k : Int) HR (by omega) (by have := HA.out; have := HB0.out; omega) _ _ n _ (by have := hS'.size; omega) (HCE.out _ (HBr.out.trans (hS'.mono (by omega)))) (HLV.out _ (HBr.out.trans (hS'.mono (by omega))))
      try simp only [List.setIfInBounds_toArray, List.set_cons_zero, List.set_cons_succ]
      refine wpG_take (i := 8) (v := .agg #[.int .i64 lo, .int .i64 hi]) rfl rfl (by kernel_rfl) (by kernel_rfl) (by kernel_rfl) (by kernel_rfl) (fun _ _ _ h => h) (by rfl) (fun w' hS' => grow_make (f := 83) (args := #[.agg #[.int .i64 lo, .int .i64 hi]]) ?_ hS' HG ?_) ?_
      · have ⟨s0, s1, s2, s3, s4⟩ := hSS.out _ hS'; go_simp
      · have ⟨s0, s1, s2, s3, s4⟩ := hSS.out _ hS'; exact to_any lo hi _
      try simp only [List.setIfInBounds_toArray, List.set_cons_zero, List.set_cons_succ]
      refine wpG_take (i := 9) (v := .bool false) rfl rfl (by kernel_rfl) (by kernel_rfl) (by kernel_rfl) (by kernel_rfl) (fun _ _ _ h => h) (by rfl) (fun w' hS' => grow_value ?_ hS') ?_
      · go_simp
      try simp only [List.setIfInBounds_toArray, List.set_cons_zero, List.set_cons_succ]
      refine wpG_done (by kernel_rfl) (fun w5 hq hbx => ?_) _
      have HR5 := hid (below_after HRr.out hbx (Nat.le_refl _))
      clear hSS HG hq hbx
      go_wp2
      go_roundw
      case rel => exact ⟨k + 1, by omega, by go_num, HR5.out⟩
      case measure => simp [intOf]; omega
    · go_wp2
      obtain ⟨w1, hw1⟩ : ∃ w1, w1 = wr := ⟨_, rfl⟩
      rw [← hw1]
      have HB1 := hid (show Below W.heap.size W w1 by rw [hw1]; exact HBr.out)
      have hs1 := HB1.out.size
      clear hw1 HBr HRr hsr hrr hk hlt
      go_loopw [10] (fun i wr => ∃ k : Nat, k ≤ B.length ∧ i = .int .i64 k ∧ Below w1.heap.size w1 wr) (fun i _ => B.length - (intOf i).toNat)
      case atStart => exact ⟨0, by omega, rfl, Below.refl _ _⟩
      case round =>
        obtain ⟨k, hk, rfl, hbr⟩ := hrel
        have HBr := hid (below_after HB1.out hbr (Nat.le_refl _))
        have HRr := hid hbr
        have hsr := HBr.out.size
        have hrr := hbr.size
        clear hbr
        by_cases hlt : k < B.length
        · rcases HOB.out with hnil | ⟨b, off, rfl, hbn, hcc⟩
          · rw [hnil] at hlt; simp at hlt
          obtain ⟨y0, y1⟩ := hcc k hlt
          have hbn' : b < n := hbn
          have HAL := hid (hWb.trans (HBr.out.mono (by omega)))
          have he := HBE.out k hlt
          have z0 := (HAL.out.cell (p := ⟨b, off + k * 2, none⟩) (by show b < _; omega)).trans y0
          have z1 := (HAL.out.cell (p := ⟨b, off + k * 2 + 1, none⟩) (by show b < _; omega)).trans y1
          clear hcc y0 y1
          generalize B[k] = r at *
          obtain ⟨lo, hi⟩ := r
          simp only at z0 z1
          have j0 := cell_of_row (HBOX.out wr HBr.out) 0
          have j1 := cell_of_row (HBOX.out wr HBr.out) 1
          have j2 := cell_of_row (HBOX.out wr HBr.out) 2
          simp only [List.getElem?_toArray, List.getElem?_cons_zero, List.getElem?_cons_succ] at j0 j1 j2
          have hSS := hid (fun w' (h : Below wr.heap.size wr w') => ⟨(h.cell (p := ⟨w.heap.size, 0, none⟩) (by show w.heap.size < _; omega)).trans j0, (h.cell (p := ⟨w.heap.size, 1, none⟩) (by show w.heap.size < _; omega)).trans j1, (h.cell (p := ⟨w.heap.size, 2, none⟩) (by show w.heap.size < _; omega)).trans j2,
            (h.cell (p := ⟨b, off + k * 2, none⟩) (by show b < _; omega)).trans z0, (h.cell (p := ⟨b, off + k * 2 + 1, none⟩) (by show b < _; omega)).trans z1⟩ :
            ∀ w', Below wr.heap.size wr w' → w'.cell? ⟨w.heap.size, 0, none⟩ = some (.slice ha c.heaps.length hc) ∧ w'.cell? ⟨w.heap.size, 1, none⟩ = some (.slice ka c.casks.length kc) ∧ w'.cell? ⟨w.heap.size, 2, none⟩ = some (.slice ta c.trials.length tc) ∧ w'.cell? ⟨b, off + k * 2, none⟩ = some (.int .i64 lo) ∧ w'.cell? ⟨b, off + k * 2 + 1, none⟩ = some (.int .i64 hi))
          have hwi : IntKind.i64.wrap ((A.length : Int) + k) = (A.length : Int) + k := IntWalk.i64_in _ (by omega)
          have HR := hid (show (⟨lo, hi⟩ : Rg) = bndR c ((A.length : Int) + k) L by rw [HA.out]; exact he)
          clear he
          go_wp2
          refine wp_region_grow (by kernel_rfl) 99 (fun w' => Below wr.heap.size wr w') ?_ ?_
          · exact (Below.refl _ _).drew
          have HG := fun (a b : World) (h : Below wr.heap.size wr a) (k : Below a.heap.size a b) => (h.trans (k.mono h.size) : Below wr.heap.size wr b)
          clear z0 z1 j0 j1 j2
          refine wpG_take (i := 0) (v := .slice (some ⟨b, off, none⟩) B.length bc) rfl rfl (by kernel_rfl) (by kernel_rfl) (by kernel_rfl) (by kernel_rfl) (fun _ _ _ h => h) (by rfl) (fun w' hS' => grow_value ?_ hS') ?_
          · go_simp
          try simp only [List.setIfInBounds_toArray, List.set_cons_zero, List.set_cons_succ]
          refine wpG_take (i := 1) (v := .int .i64 k) rfl rfl (by kernel_rfl) (by kernel_rfl) (by kernel_rfl) (by kernel_rfl) (fun _ _ _ h => h) (by rfl) (fun w' hS' => grow_value ?_ hS') ?_
          · go_simp
          try simp only [List.setIfInBounds_toArray, List.set_cons_zero, List.set_cons_succ]
          refine wpG_take (i := 2) (v := .pointer (some ⟨b, off + k * 2, none⟩)) rfl rfl (by kernel_rfl) (by kernel_rfl) (by kernel_rfl) (by kernel_rfl) (fun _ _ _ h => h) (by rfl) (fun w' hS' => grow_value ?_ hS') ?_
          · go_simp
          try simp only [List.setIfInBounds_toArray, List.set_cons_zero, List.set_cons_succ]
          refine wpG_take (i := 3) (v := .agg #[.int .i64 lo, .int .i64 hi]) rfl rfl (by kernel_rfl) (by kernel_rfl) (by kernel_rfl) (by kernel_rfl) (fun _ _ _ h => h) (by rfl) (fun w' hS' => grow_value ?_ hS') ?_
          · have ⟨s0, s1, s2, s3, s4⟩ := hSS.out _ hS'; go_simp
          try simp only [List.setIfInBounds_toArray, List.set_cons_zero, List.set_cons_succ]
          refine wpG_take (i := 4) (v := .agg #[.slice ha c.heaps.length hc, .slice ka c.casks.length kc, .slice ta c.trials.length tc]) rfl rfl (by kernel_rfl) (by kernel_rfl) (by kernel_rfl) (by kernel_rfl) (fun _ _ _ h => h) (by rfl) (fun w' hS' => grow_value ?_ hS') ?_
          · have ⟨s0, s1, s2, s3, s4⟩ := hSS.out _ hS'; go_simp
          try simp only [List.setIfInBounds_toArray, List.set_cons_zero, List.set_cons_succ]
          refine wpG_take (i := 5) (v := .slice la L.length lc) rfl rfl (by kernel_rfl) (by kernel_rfl) (by kernel_rfl) (by kernel_rfl) (fun _ _ _ h => h) (by rfl) (fun w' hS' => grow_value ?_ hS') ?_
          · go_simp
          try simp only [List.setIfInBounds_toArray, List.set_cons_zero, List.set_cons_succ]
          refine wpG_take (i := 6) (v := .slice aa A.length ac) rfl rfl (by kernel_rfl) (by kernel_rfl) (by kernel_rfl) (by kernel_rfl) (fun _ _ _ h => h) (by rfl) (fun w' hS' => grow_value ?_ hS') ?_
          · go_simp
          try simp only [List.setIfInBounds_toArray, List.set_cons_zero, List.set_cons_succ]
          refine wpG_take (i := 7) (v := .int .i64 A.length) rfl rfl (by kernel_rfl) (by kernel_rfl) (by kernel_rfl) (by kernel_rfl) (fun _ _ _ h => h) (by rfl) (fun w' hS' => grow_value ?_ hS') ?_
          · go_simp
          try simp only [List.setIfInBounds_toArray, List.set_cons_zero, List.set_cons_succ]
          refine wpG_take (i := 8) (v := .int .i64 k) rfl rfl (by kernel_rfl) (by kernel_rfl) (by kernel_rfl) (by kernel_rfl) (fun _ _ _ h => h) (by rfl) (fun w' hS' => grow_value ?_ hS') ?_
          · go_simp
          try simp only [List.setIfInBounds_toArray, List.set_cons_zero, List.set_cons_succ]
          refine wpG_take (i := 9) (v := .int .i64 ((A.length : Int) + k)) rfl rfl (by kernel_rfl) (by kernel_rfl) (by kernel_rfl) (by kernel_rfl) (fun _ _ _ h => h) (by rfl) (fun w' hS' => grow_value ?_ hS') ?_
          · go_simp
          try simp only [List.setIfInBounds_toArray, List.set_cons_zero, List.set_cons_succ]
          refine wpG_take (i := 10) (v := .agg #[.int .i64 lo, .int .i64 hi]) rfl rfl (by kernel_rfl) (by kernel_rfl) (by kernel_rfl) (by kernel_rfl) (fun _ _ _ h => h) (by rfl) (fun w' hS' => grow_make (f := 87) (args := #[.agg #[.slice ha c.heaps.length hc, .slice ka c.casks.length kc, .slice ta c.trials.length tc], .slice la L.length lc, .int .i64 ((A.length : Int) + k)]) ?_ hS' HG ?_) ?_
          · have ⟨s0, s1, s2, s3, s4⟩ := hSS.out _ hS'; go_simp
          · have ⟨s0, s1, s2, s3, s4⟩ := hSS.out _ hS'; exact boundsR_hid c hg L hfit hLl ((A.length : Int) + k) HR (by omega) (by have := HA.out; have := HB0.out; omega) _ _ n _ (by have := hS'.size; omega) (HCE.out _ (HBr.out.trans (hS'.mono (by omega)))) (HLV.out _ (HBr.out.trans (hS'.mono (by omega))))
          try simp only [List.setIfInBounds_toArray, List.set_cons_zero, List.set_cons_succ]
          refine wpG_take (i := 11) (v := .agg #[.int .i64 lo, .int .i64 hi]) rfl rfl (by kernel_rfl) (by kernel_rfl) (by kernel_rfl) (by kernel_rfl) (fun _ _ _ h => h) (by rfl) (fun w' hS' => grow_make (f := 83) (args := #[.agg #[.int .i64 lo, .int .i64 hi]]) ?_ hS' HG ?_) ?_
          · have ⟨s0, s1, s2, s3, s4⟩ := hSS.out _ hS'; go_simp
          · have ⟨s0, s1, s2, s3, s4⟩ := hSS.out _ hS'; exact to_any lo hi _
          try simp only [List.setIfInBounds_toArray, List.set_cons_zero, List.set_cons_succ]
          refine wpG_take (i := 12) (v := .bool false) rfl rfl (by kernel_rfl) (by kernel_rfl) (by kernel_rfl) (by kernel_rfl) (fun _ _ _ h => h) (by rfl) (fun w' hS' => grow_value ?_ hS') ?_
          · go_simp
          try simp only [List.setIfInBounds_toArray, List.set_cons_zero, List.set_cons_succ]
          refine wpG_done (by kernel_rfl) (fun w5 hq hbx => ?_) _
          have HR5 := hid (below_after HRr.out hbx (Nat.le_refl _))
          clear hSS HG hq hbx
          go_wp2
          go_roundw
          case rel => exact ⟨k + 1, by omega, by go_num, HR5.out⟩
          case measure => simp [intOf]; omega
        · go_wp2
          go_ret
          exact ⟨rfl, hWb.trans (HBr.out.mono (by omega))⟩
end Go.Proofs.Ytjddcaimjofihaa
