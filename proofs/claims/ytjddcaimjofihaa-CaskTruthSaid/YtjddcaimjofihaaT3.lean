/- Contracts of the reference's Graded, and of the statements' sure and ranges; no condition. -/
import Derived.Test.YtjddcaimjofihaaR3
namespace Go.Proofs.Ytjddcaimjofihaa
open Go.RowKit Go.Shelf
set_option maxRecDepth 100000

theorem manyG_take (c : Ce) (L : List (List Int)) (kk : Nat) (g : Int) (i : Nat) (h : i < L.length) (hk : kk < c.casks.length) : manyG c (L.take (i + 1)) kk g = manyG c (L.take i) kk g + if g ≤ mean L[i] c.casks[kk] then 1 else 0 := by
  unfold manyG
  rw [List.take_succ_eq_append_getElem h, List.filter_append, List.length_append, Int.toNat_natCast, List.getD_eq_getElem?_getD, List.getElem?_eq_getElem hk]
  congr 1
  simp only [List.filter_cons, List.filter_nil, Option.getD_some, decide_eq_true_eq]
  split <;> rfl
theorem mean_hid0 {l ws : List Int} {z : Int} (HZ : Hid (z = mean l ws)) (vl vw : Value) (n : Nat) (w : World) (hn : n ≤ w.heap.size) (h : Ints (Lt n) w vl l) (g : Ints (Lt n) w vw ws) (hl : ws.length = l.length) (h3 : l.length ≤ 3) (hw : ∀ x ∈ ws, 0 ≤ x ∧ x ≤ 1000) (hs : ∀ x ∈ l, 0 ≤ x ∧ x ≤ 1000) (hpos : 0 < sumI ws) :
    Calls Try.prog 61 #[vl, vw] w fun e w' => e = .returned (.int .i64 z) ∧ Below w.heap.size w w' := by
  rw [HZ.out]; exact meanR_any l ws vl vw n w hn h g hl h3 hw hs hpos

set_option maxHeartbeats 4000000 in
theorem gradedRf_any (c : Ce) (hg : Good c) (L : List (List Int)) (hfit : ∀ l ∈ L, Fit c l) (hLl : L.length ≤ 100000) (kk : Nat) (hk : kk < c.casks.length) (g : Int) (v vl : Value) (n : Nat) (w : World) (hn : n ≤ w.heap.size) (h : CeV (Lt n) w v c) (hl : Lss (Lt n) w vl L) :
    Calls Try.prog 28 #[v, vl, .int .i64 kk, .int .i64 g] w fun e w' => e = .returned (.int .i64 (gradedR c L kk g)) ∧ Below w.heap.size w w' := by
  obtain ⟨la, lc, rfl, -, hlo⟩ := hl.open
  have h' := h
  obtain ⟨ha, hc, ka, kc, ta, tc, rfl, hp1, hp2, hp3⟩ := h.open
  have HOP := hid (And.intro hp1 (And.intro hp2 hp3))
  clear hp1 hp2 hp3
  obtain ⟨W, hW⟩ : ∃ W, W = w.alloc (Obj.cells #[.slice ha c.heaps.length hc, .slice ka c.casks.length kc, .slice ta c.trials.length tc] 26) := ⟨_, rfl⟩
  have hWs : W.heap.size = w.heap.size + 1 := by rw [hW]; simp
  have hWb : Below w.heap.size w W := by rw [hW]; exact below_alloc1 (Nat.le_refl _) _
  have hWr : W.heap[w.heap.size]? = some (.cells #[.slice ha c.heaps.length hc, .slice ka c.casks.length kc, .slice ta c.trials.length tc] 26 (0, 0)) := by rw [hW]; exact heap_new _ _
  have HBOX := hid (fun w1 (hb : Below W.heap.size W w1) => (hb.block w.heap.size (by omega)).trans hWr : ∀ w1, Below W.heap.size W w1 → w1.heap[w.heap.size]? = _)
  have HCE := hid (fun w1 (hb : Below W.heap.size W w1) => h'.below (hWb.trans (hb.mono (by omega)) |>.mono hn) : ∀ w1, Below W.heap.size W w1 → CeV (Lt _) w1 _ c)
  clear hWr h' h
  have H2 := HOP.out.2.1
  obtain ⟨_, _, he, -, hko⟩ := H2.open
  cases he
  obtain ⟨⟨g1, g2, g3, -⟩, -, g6, -⟩ := hg.facts
  rcases hko with hnil | ⟨bk, offk, rfl, hbk, hck⟩
  · rw [hnil] at hk; simp at hk
  obtain ⟨yv, y0, hy⟩ := hck kk hk
  have hbk' : bk < n := hbk
  obtain ⟨q1, q2, q3⟩ := g6 c.casks[kk] (List.getElem_mem _)
  have HTK := hid (fun i (hi : i < L.length) => manyG_take c L kk g i hi hk)
  have HGR := hid (show gradedR c L kk g = if manyG c L kk g = L.length then 1 else if manyG c L kk g = 0 then 2 else 3 from rfl)
  have HM0 := hid (show manyG c (L.take 0) kk g = 0 by simp [manyG])
  generalize c.casks[kk] = ws at *
  have HY := hid hy
  have HY0 := hid y0
  have HQ := hid (And.intro q1 (And.intro q2 q3))
  have HLO := hid hlo
  have HFIT := hid hfit
  obtain ⟨ya, yc, rfl, -, -⟩ := id hy.open1
  clear hl H2 hck y0 hy q1 q2 q3 g6 hlo hfit hg
  go_enter Try.func28, Try.ntmps28
  go_wp2
  rw [← hW]
  clear hW
  go_loopw [9, 10] (fun mv i wr => ∃ k m : Nat, k ≤ L.length ∧ m ≤ k ∧ i = .int .i64 k ∧ mv = .int .i64 m ∧ Hid (manyG c (L.take k) kk g = m) ∧ Below W.heap.size W wr) (fun _ i _ => L.length - (intOf i).toNat)
  case atStart => exact ⟨0, 0, by omega, by omega, rfl, rfl, HM0, Below.refl _ _⟩
  case round =>
    obtain ⟨k, m, hk2, hmk, rfl, rfl, HI, hbr⟩ := hrel
    have HBr := hid hbr
    have hsr := hbr.size
    clear hbr
    by_cases hlt : k < L.length
    · rcases HLO.out with hnil | ⟨b, off, rfl, hbn, hcc⟩
      · rw [hnil] at hlt; simp at hlt
      obtain ⟨xv, x0, hx⟩ := hcc k hlt
      have hbn' : b < n := hbn
      have HAL := hid (hWb.trans (HBr.out.mono (by omega)))
      have HFK := hid (HFIT.out L[k] (List.getElem_mem _))
      have HNX := hid (HTK.out k hlt)
      have z0 := (HAL.out.cell (p := ⟨b, off + k, none⟩) (by show b < _; omega)).trans x0
      have z1 := (HAL.out.cell (p := ⟨bk, offk + kk, none⟩) (by show bk < _; omega)).trans HY0.out
      have hx' := hx.below (HAL.out.mono hn)
      have hy' := HY.out.below (HAL.out.mono hn)
      clear hcc x0 hx
      generalize L[k] = l at *
      obtain ⟨xa, xc, rfl, -, -⟩ := id hx'.open1
      obtain ⟨z, hz⟩ : ∃ z, z = mean l ws := ⟨_, rfl⟩
      have HZ := hid hz
      rw [← hz, HI.out] at HNX
      have HX := hid hx'
      have HYr := hid hy'
      clear hz hx' hy'
      have j0 := cell_of_row (HBOX.out wr HBr.out) 0
      have j1 := cell_of_row (HBOX.out wr HBr.out) 1
      have j2 := cell_of_row (HBOX.out wr HBr.out) 2
      simp only [List.getElem?_toArray, List.getElem?_cons_zero, List.getElem?_cons_succ] at j0 j1 j2
      have hSS := hid (fun w' (h : Below wr.heap.size wr w') => ⟨(h.cell (p := ⟨w.heap.size, 1, none⟩) (by show w.heap.size < _; omega)).trans j1, (h.cell (p := ⟨b, off + k, none⟩) (by show b < _; omega)).trans z0, (h.cell (p := ⟨bk, offk + kk, none⟩) (by show bk < _; omega)).trans z1⟩ :
        ∀ w', Below wr.heap.size wr w' → w'.cell? ⟨w.heap.size, 1, none⟩ = some (.slice (some ⟨bk, offk, none⟩) c.casks.length _) ∧ w'.cell? ⟨b, off + k, none⟩ = some (.slice xa l.length xc) ∧ w'.cell? ⟨bk, offk + kk, none⟩ = some (.slice ya ws.length yc))
      go_wp2
      refine wp_region_grow (by kernel_rfl) 99 (fun w' => Below wr.heap.size wr w') ?_ ?_
      · exact (Below.refl _ _).drew
      have HG := fun (a b : World) (h : Below wr.heap.size wr a) (k : Below a.heap.size a b) => (h.trans (k.mono h.size) : Below wr.heap.size wr b)
      clear z0 z1 j0 j1 j2
      refine wpG_take (i := 0) (v := .slice (some ⟨b, off, none⟩) L.length lc) rfl rfl (by kernel_rfl) (by kernel_rfl) (by kernel_rfl) (by kernel_rfl) (fun _ _ _ h => h) (by rfl) (fun w' hS' => grow_value ?_ hS') ?_
      · go_simp
      try simp only [List.setIfInBounds_toArray, List.set_cons_zero, List.set_cons_succ]
      refine wpG_take (i := 1) (v := .int .i64 k) rfl rfl (by kernel_rfl) (by kernel_rfl) (by kernel_rfl) (by kernel_rfl) (fun _ _ _ h => h) (by rfl) (fun w' hS' => grow_value ?_ hS') ?_
      · go_simp
      try simp only [List.setIfInBounds_toArray, List.set_cons_zero, List.set_cons_succ]
      refine wpG_take (i := 2) (v := .pointer (some ⟨b, off + k, none⟩)) rfl rfl (by kernel_rfl) (by kernel_rfl) (by kernel_rfl) (by kernel_rfl) (fun _ _ _ h => h) (by rfl) (fun w' hS' => grow_value ?_ hS') ?_
      · go_simp
      try simp only [List.setIfInBounds_toArray, List.set_cons_zero, List.set_cons_succ]
      refine wpG_take (i := 3) (v := .slice xa l.length xc) rfl rfl (by kernel_rfl) (by kernel_rfl) (by kernel_rfl) (by kernel_rfl) (fun _ _ _ h => h) (by rfl) (fun w' hS' => grow_value ?_ hS') ?_
      · have ⟨s0, s1, s2⟩ := hSS.out _ hS'; go_simp
      try simp only [List.setIfInBounds_toArray, List.set_cons_zero, List.set_cons_succ]
      refine wpG_take (i := 4) (v := .pointer (some ⟨w.heap.size, 1, none⟩)) rfl rfl (by kernel_rfl) (by kernel_rfl) (by kernel_rfl) (by kernel_rfl) (fun _ _ _ h => h) (by rfl) (fun w' hS' => grow_value ?_ hS') ?_
      · go_simp
      try simp only [List.setIfInBounds_toArray, List.set_cons_zero, List.set_cons_succ]
      refine wpG_take (i := 5) (v := .slice (some ⟨bk, offk, none⟩) c.casks.length kc) rfl rfl (by kernel_rfl) (by kernel_rfl) (by kernel_rfl) (by kernel_rfl) (fun _ _ _ h => h) (by rfl) (fun w' hS' => grow_value ?_ hS') ?_
      · have ⟨s0, s1, s2⟩ := hSS.out _ hS'; go_simp
      try simp only [List.setIfInBounds_toArray, List.set_cons_zero, List.set_cons_succ]
      refine wpG_take (i := 6) (v := .int .i64 kk) rfl rfl (by kernel_rfl) (by kernel_rfl) (by kernel_rfl) (by kernel_rfl) (fun _ _ _ h => h) (by rfl) (fun w' hS' => grow_value ?_ hS') ?_
      · go_simp
      try simp only [List.setIfInBounds_toArray, List.set_cons_zero, List.set_cons_succ]
      refine wpG_take (i := 7) (v := .pointer (some ⟨bk, offk + kk, none⟩)) rfl rfl (by kernel_rfl) (by kernel_rfl) (by kernel_rfl) (by kernel_rfl) (fun _ _ _ h => h) (by rfl) (fun w' hS' => grow_value ?_ hS') ?_
      · go_simp
      try simp only [List.setIfInBounds_toArray, List.set_cons_zero, List.set_cons_succ]
      refine wpG_take (i := 8) (v := .slice ya ws.length yc) rfl rfl (by kernel_rfl) (by kernel_rfl) (by kernel_rfl) (by kernel_rfl) (fun _ _ _ h => h) (by rfl) (fun w' hS' => grow_value ?_ hS') ?_
      · have ⟨s0, s1, s2⟩ := hSS.out _ hS'; go_simp
      try simp only [List.setIfInBounds_toArray, List.set_cons_zero, List.set_cons_succ]
      refine wpG_take (i := 9) (v := .int .i64 z) rfl rfl (by kernel_rfl) (by kernel_rfl) (by kernel_rfl) (by kernel_rfl) (fun _ _ _ h => h) (by rfl) (fun w' hS' => grow_make (f := 61) (args := #[.slice xa l.length xc, .slice ya ws.length yc]) ?_ hS' HG ?_) ?_
      · have ⟨s0, s1, s2⟩ := hSS.out _ hS'; go_simp
      · have ⟨s0, s1, s2⟩ := hSS.out _ hS'; exact mean_hid0 HZ _ _ n _ (by have := hS'.size; omega) (HX.out.below (hS'.mono (by omega))) (HYr.out.below (hS'.mono (by omega))) (by have := HFK.out.len; have := HQ.out.1; omega) (by have := HFK.out.len; omega) (fun x hx => by have := HQ.out.2.1 x hx; omega) HFK.out.bd HQ.out.2.2
      try simp only [List.setIfInBounds_toArray, List.set_cons_zero, List.set_cons_succ]
      refine wpG_take (i := 10) (v := .int .i64 g) rfl rfl (by kernel_rfl) (by kernel_rfl) (by kernel_rfl) (by kernel_rfl) (fun _ _ _ h => h) (by rfl) (fun w' hS' => grow_value ?_ hS') ?_
      · go_simp
      try simp only [List.setIfInBounds_toArray, List.set_cons_zero, List.set_cons_succ]
      refine wpG_take (i := 11) (v := .bool (decide (g ≤ z))) rfl rfl (by kernel_rfl) (by kernel_rfl) (by kernel_rfl) (by kernel_rfl) (fun _ _ _ h => h) (by rfl) (fun w' hS' => grow_value ?_ hS') ?_
      · go_simp
      try simp only [List.setIfInBounds_toArray, List.set_cons_zero, List.set_cons_succ]
      refine wpG_done (by kernel_rfl) (fun w5 hq hbx => ?_) _
      have HB5 := hid (below_after HBr.out hbx (Nat.le_refl _))
      clear hSS HG hq hbx
      by_cases hgz : g ≤ z
      · have hd : decide (g ≤ z) = true := decide_eq_true hgz
        have HN2 := hid (show manyG c (L.take (k + 1)) kk g = (m + 1 : Nat) by rw [HNX.out, if_pos hgz])
        go_wp2
        go_roundw
        case rel => exact ⟨k + 1, m + 1, by omega, by omega, by go_num, by go_num, HN2, HB5.out⟩
        case measure => simp [intOf]; omega
      · have hd : decide (g ≤ z) = false := decide_eq_false hgz
        have HN2 := hid (show manyG c (L.take (k + 1)) kk g = (m : Nat) by rw [HNX.out, if_neg hgz]; simp)
        go_wp2
        go_roundw
        case rel => exact ⟨k + 1, m, by omega, by omega, by go_num, rfl, HN2, HB5.out⟩
        case measure => simp [intOf]; omega
    · have hke : k = L.length := by omega
      subst hke
      have HMM := hid (show manyG c L kk g = m by have := HI.out; rwa [List.take_length] at this)
      have HE := hid (hWb.trans (HBr.out.mono (by omega)))
      by_cases e1 : m = L.length
      · have HR := hid (show gradedR c L kk g = 1 by rw [HGR.out, HMM.out, if_pos e1])
        have e1' : ((m : Int) == (L.length : Int)) = true := by simp [e1]
        have e1'' : (m == L.length) = true := by simp [e1]
        clear e1
        go_wp2
        go_ret
        rw [HR.out]
        exact ⟨rfl, HE.out⟩
      · have e1' : ((m : Int) == (L.length : Int)) = false := by rw [beq_eq_false_iff_ne]; omega
        have e1'' : (m == L.length) = false := by rw [beq_eq_false_iff_ne]; exact e1
        by_cases e2 : m = 0
        · have HR := hid (show gradedR c L kk g = 2 by rw [HGR.out, HMM.out, if_neg e1, if_pos e2])
          clear e1
          subst e2
          go_wp2
          go_ret
          rw [HR.out]
          exact ⟨rfl, HE.out⟩
        · have HR := hid (show gradedR c L kk g = 3 by rw [HGR.out, HMM.out, if_neg e1, if_neg e2])
          have e2' : ((m : Int) == 0) = false := by rw [beq_eq_false_iff_ne]; omega
          have e2'' : (m == 0) = false := by rw [beq_eq_false_iff_ne]; exact e2
          clear e1
          go_wp2
          go_ret
          rw [HR.out]
          exact ⟨rfl, HE.out⟩

/-! ### sure -/
theorem faultL_hid {f : Int} (c : Ce) (HB : Hid (f = fault c)) (v : Value) (n : Nat) (w : World) (hn : n ≤ w.heap.size) (h : CeV (Lt n) w v c) (hsm : Small c) :
    Calls Try.prog 25 #[v] w fun e w' => e = .returned (.int .i64 f) ∧ Below w.heap.size w w' := by
  rw [HB.out]; exact faultL_any c v n w hn h hsm
theorem sure_err (c : Ce) (hsm : Small c) (he : askErr c true ≠ 0) (v : Value) (n : Nat) (w : World) (hn : n ≤ w.heap.size) (h : CeV (Lt n) w v c) :
    Calls Try.prog 24 #[v] w fun e w' => e = .returned (.tuple #[.slice none 0 0, .int .i64 (askErr c true)]) ∧ Below w.heap.size w w' := by
  have h' := h
  obtain ⟨ha, hc, ka, kc, ta, tc, rfl, hp1, hp2, hp3⟩ := h.open
  have HOP := hid (And.intro hp1 (And.intro hp2 hp3))
  clear hp1 hp2 hp3
  obtain ⟨W, hW⟩ : ∃ W, W = w.alloc (Obj.cells #[.slice ha c.heaps.length hc, .slice ka c.casks.length kc, .slice ta c.trials.length tc] 26) := ⟨_, rfl⟩
  have hWs : W.heap.size = w.heap.size + 1 := by rw [hW]; simp
  have hWb : Below w.heap.size w W := by rw [hW]; exact below_alloc1 (Nat.le_refl _) _
  have hWr : W.heap[w.heap.size]? = some (.cells #[.slice ha c.heaps.length hc, .slice ka c.casks.length kc, .slice ta c.trials.length tc] 26 (0, 0)) := by rw [hW]; exact heap_new _ _
  have HBOX := hid (fun w1 (hb : Below W.heap.size W w1) => (hb.block w.heap.size (by omega)).trans hWr : ∀ w1, Below W.heap.size W w1 → w1.heap[w.heap.size]? = _)
  have HCE := hid (fun w1 (hb : Below W.heap.size W w1) => h'.below (hWb.trans (hb.mono (by omega)) |>.mono hn) : ∀ w1, Below W.heap.size W w1 → CeV (Lt _) w1 _ c)
  clear hWr h' h
  obtain ⟨f, hf⟩ : ∃ f, f = fault c := ⟨_, rfl⟩
  have HF := hid hf
  by_cases h0 : f = 0
  · have hT : truthsOf c [] = [] := by
      by_cases hT : truthsOf c [] = []
      · exact hT
      · exact absurd (show askErr c true = 0 by unfold askErr; simp [← hf, h0, hT]) he
    have HE := hid (show askErr c true = 11 by unfold askErr; simp [← hf, h0, hT])
    have HTR := hid ((truthsR_nil (show fault c = 0 by rw [← hf]; exact h0)).2 hT)
    have HFZ := hid (show fault c = 0 by rw [← hf]; exact h0)
    clear hf he hT
    subst h0
    go_enter Try.func24, Try.ntmps24
    go_wp2_with fail
    rw [← hW]
    clear hW
    refine (faultL_hid c HF _ n W (by omega) (HCE.out W (Below.refl _ _)) hsm).mono ?_
    rintro e w1 ⟨rfl, hb1⟩
    have HB1 := hid hb1
    have hs1 := hb1.size
    clear hb1
    have j0 := cell_of_row (HBOX.out w1 HB1.out) 0
    have j1 := cell_of_row (HBOX.out w1 HB1.out) 1
    have j2 := cell_of_row (HBOX.out w1 HB1.out) 2
    simp only [List.getElem?_toArray, List.getElem?_cons_zero, List.getElem?_cons_succ] at j0 j1 j2
    go_wp2_with fail
    refine (truthsR_any c HFZ.out _ n w1 (by omega) (HCE.out w1 HB1.out)).mono ?_
    rintro e w2 ⟨v2, rfl, ho2, hb2⟩
    have HB2 := hid (below_after HB1.out hb2 (Nat.le_refl _))
    have hs2 := HB2.out.size
    have hd2 := hb2.size
    clear hb2 j0 j1 j2
    rw [HTR.out] at ho2
    obtain ⟨_, _, rfl⟩ := ho2.open
    go_wp2
    go_ret2
    rw [HE.out]
    exact ⟨rfl, hWb.trans (HB2.out.mono (by omega))⟩
  · have hne : (f == 0) = false := by rw [beq_eq_false_iff_ne]; exact h0
    have hne2 : (f != 0) = true := by simp [h0]
    have HE := hid (show askErr c true = f by unfold askErr; rw [if_pos (by rw [← hf]; exact h0), hf])
    clear hf he
    go_enter Try.func24, Try.ntmps24
    go_wp2_with fail
    rw [← hW]
    clear hW
    refine (faultL_hid c HF _ n W (by omega) (HCE.out W (Below.refl _ _)) hsm).mono ?_
    rintro e w1 ⟨rfl, hb1⟩
    have HB1 := hid hb1
    have hs1 := hb1.size
    clear hb1
    go_wp2
    go_ret2
    rw [HE.out]
    exact ⟨rfl, hWb.trans (HB1.out.mono (by omega))⟩
theorem sure_ok (c : Ce) (hsm : Small c) (he : askErr c true = 0) (v : Value) (n : Nat) (w : World) (hn : n ≤ w.heap.size) (h : CeV (Lt n) w v c) :
    Calls Try.prog 24 #[v] w fun e w' => ∃ v', e = .returned (.tuple #[v', .int .i64 0]) ∧ OwnL w.heap.size w' v' (truthsR c) ∧ Below w.heap.size w w' := by
  have h' := h
  obtain ⟨ha, hc, ka, kc, ta, tc, rfl, hp1, hp2, hp3⟩ := h.open
  have HOP := hid (And.intro hp1 (And.intro hp2 hp3))
  clear hp1 hp2 hp3
  obtain ⟨W, hW⟩ : ∃ W, W = w.alloc (Obj.cells #[.slice ha c.heaps.length hc, .slice ka c.casks.length kc, .slice ta c.trials.length tc] 26) := ⟨_, rfl⟩
  have hWs : W.heap.size = w.heap.size + 1 := by rw [hW]; simp
  have hWb : Below w.heap.size w W := by rw [hW]; exact below_alloc1 (Nat.le_refl _) _
  have hWr : W.heap[w.heap.size]? = some (.cells #[.slice ha c.heaps.length hc, .slice ka c.casks.length kc, .slice ta c.trials.length tc] 26 (0, 0)) := by rw [hW]; exact heap_new _ _
  have HBOX := hid (fun w1 (hb : Below W.heap.size W w1) => (hb.block w.heap.size (by omega)).trans hWr : ∀ w1, Below W.heap.size W w1 → w1.heap[w.heap.size]? = _)
  have HCE := hid (fun w1 (hb : Below W.heap.size W w1) => h'.below (hWb.trans (hb.mono (by omega)) |>.mono hn) : ∀ w1, Below W.heap.size W w1 → CeV (Lt _) w1 _ c)
  clear hWr h' h
  obtain ⟨hf, -, hT⟩ := askErr_zero he
  have HF := hid (show (0 : Int) = fault c from hf.symm)
  have HFZ := hid hf
  have HTR := hid (show truthsR c ≠ [] from fun h => hT ((truthsR_nil hf).1 h))
  clear hf he hT
  go_enter Try.func24, Try.ntmps24
  go_wp2_with fail
  rw [← hW]
  clear hW
  refine (faultL_hid c HF _ n W (by omega) (HCE.out W (Below.refl _ _)) hsm).mono ?_
  rintro e w1 ⟨rfl, hb1⟩
  have HB1 := hid hb1
  have hs1 := hb1.size
  clear hb1
  have j0 := cell_of_row (HBOX.out w1 HB1.out) 0
  have j1 := cell_of_row (HBOX.out w1 HB1.out) 1
  have j2 := cell_of_row (HBOX.out w1 HB1.out) 2
  simp only [List.getElem?_toArray, List.getElem?_cons_zero, List.getElem?_cons_succ] at j0 j1 j2
  go_wp2_with fail
  refine (truthsR_any c HFZ.out _ n w1 (by omega) (HCE.out w1 HB1.out)).mono ?_
  rintro e w2 ⟨v2, rfl, ho2, hb2⟩
  have HB2 := hid (below_after HB1.out hb2 (Nat.le_refl _))
  have hs2 := HB2.out.size
  have hd2 := hb2.size
  clear hb2 j0 j1 j2
  obtain ⟨T, hTT⟩ : ∃ T, T = truthsR c := ⟨_, rfl⟩
  rw [← hTT] at ho2
  have hTn : ¬ T.length = 0 := fun h => HTR.out (by rw [← hTT]; exact List.length_eq_zero_iff.1 h)
  have hT1 : ((T.length : Int) == 0) = false := by rw [beq_eq_false_iff_ne]; omega
  have HTT := hid hTT
  have HO2 := hid (ho2.lower (show w.heap.size ≤ w1.heap.size by omega))
  obtain ⟨_, _, rfl⟩ := ho2.open
  clear hTT ho2
  go_wp2
  go_ret2
  rw [← HTT.out]
  exact ⟨_, rfl, HO2.out, hWb.trans (HB2.out.mono (by omega))⟩
end Go.Proofs.Ytjddcaimjofihaa
