/- The walk of the law CaskWider; no condition. -/
import Derived.Test.YtjddcaimjofihaaXF
import Derived.Test.YtjddcaimjofihaaP4
import Derived.Test.YtjddcaimjofihaaU1
import Derived.Test.YtjddcaimjofihaaU4
import Derived.Test.YtjddcaimjofihaaRH
namespace Go.Proofs.Ytjddcaimjofihaa
open Go.RowKit Go.Shelf
set_option maxRecDepth 100000

/-- The cellar that is made: its box, and the two lists of its own. -/
structure FinW (c : Ce) (X : Nat) (kv : Value) (w1 : World) (vH vT : Value) (w9 : World) : Prop where
  row : w9.heap[X]? = some (.cells #[vH, kv, vT] 26 (0, 0))
  oh : Own (X + 1) 66 2 encR w9 vH c.heaps
  ot : Own (X + 1) 68 4 encT4 w9 vT c.trials
  below : Below X w1 w9

def LeavesL (c : Ce) (l : List Int) : Prop := ∀ (vc : Value) (n : Nat) (w : World), n ≤ w.heap.size → CeV (Lt n) w vc c → Calls Try.prog 30 #[vc] w (RetInts l 0 w)
def BoundsL (c : Ce) (a b : List Rg) : Prop := ∀ (vc : Value) (n : Nat) (w : World), n ≤ w.heap.size → CeV (Lt n) w vc c → Calls Try.prog 21 #[vc] w (RetBounds a b 0 w)
/-- What the walk calls for, of the cellar and of the wider one. -/
structure WiderIs (c x : Ce) (L M : List Int) (a b d s : List Rg) : Prop where
  leave : LeavesL c L
  leaveX : LeavesL x M
  less : M.length ≤ L.length
  bounds : L = [] → BoundsL c a b ∧ BoundsL x d s ∧ InB a d ∧ InB b s ∧ a.length ≤ 1000 ∧ b.length ≤ 1000
theorem wider_is {c x : Ce} (hw : Wid c x) (hf : fault c = 0) (hx : fault x = 0) (hsm : Small c) (hsx : Small x) : WiderIs c x (leaveR c) (leaveR x) (heapB c) (caskB c) (heapB x) (caskB x) where
  leave := fun vc n w hn h => Leave_ok c vc n w hn h hf _ (leaveOf_eq hf)
  leaveX := fun vc n w hn h => Leave_ok x vc n w hn h hx _ (leaveOf_eq hx)
  less := hw.leave hf hx
  bounds := fun e => by
    have hT := nil_leave hf e
    obtain ⟨l, hl⟩ := List.exists_mem_of_ne_nil _ hT
    have hTx : truthsOf x [] ≠ [] := ne_nil_of (hw.truths hl)
    have h1 : askErr c true = 0 := by unfold askErr; simp [hf, hT]
    have h2 : askErr x true = 0 := by unfold askErr; simp [hx, hTx]
    obtain ⟨i1, i2⟩ := bounds_in hw.heaps hw.casks (fun l hl => hw.truths hl) hT
    exact ⟨fun vc n w hn h => Bounds_ok c vc n w hn h hsm h1, fun vc n w hn h => Bounds_ok x vc n w hn h hsx h2, i1, i2, by simpa [heapB] using hsm.heaps, by simpa [caskB] using hsm.casks⟩

set_option maxHeartbeats 16000000 in
theorem CaskWider_walk (c : Ce) (v : Value) {w : World} (h : CeV (Lt w.heap.size) w v c) (a : Int) (ha0 : 0 ≤ a ∧ a ≤ 255) (by0 : Int) (hby0 : 0 ≤ by0 ∧ by0 ≤ 255) :
    Calls Try.prog 7 #[v, .int .u8 a, .int .u8 by0] w (RetT w) := by
  have h' := h
  obtain ⟨ha, hc, ka, kc, ta, tc, rfl, hp1, hp2, hp3⟩ := h.open
  have HOP := hid (And.intro hp1 (And.intro hp2 hp3))
  clear hp1 hp2 hp3
  obtain ⟨W, hW⟩ : ∃ W, W = w.alloc (Obj.cells #[.slice ha c.heaps.length hc, .slice ka c.casks.length kc, .slice ta c.trials.length tc] 26) := ⟨_, rfl⟩
  have hWs : W.heap.size = w.heap.size + 1 := by rw [hW]; simp
  have hWb : Below w.heap.size w W := by rw [hW]; exact below_alloc1 (Nat.le_refl _) _
  have hWr : W.heap[w.heap.size]? = some (.cells #[.slice ha c.heaps.length hc, .slice ka c.casks.length kc, .slice ta c.trials.length tc] 26 (0, 0)) := by rw [hW]; exact heap_new _ _
  have HBOX := hid (fun w1 (hb : Below W.heap.size W w1) => (hb.block w.heap.size (by omega)).trans hWr : ∀ w1, Below W.heap.size W w1 → w1.heap[w.heap.size]? = _)
  have HCE := hid (fun w1 (hb : Below W.heap.size W w1) => h'.below (hWb.trans (hb.mono (by omega)) |>.mono (Nat.le_refl _)) : ∀ w1, Below W.heap.size W w1 → CeV (Lt _) w1 _ c)
  clear hWr h' h
  obtain ⟨rb, hrb⟩ : ∃ rb, rb = readyB c := ⟨_, rfl⟩
  have HRB := hid hrb
  clear hrb
  cases rb with
  | false =>
    go_enter Try.func7, Try.ntmps7
    go_wp2_with fail
    rw [← hW]
    clear hW
    refine (ready_hid c HRB _ w.heap.size W (by omega) (HCE.out W (Below.refl _ _))).mono ?_
    rintro e w1 ⟨rfl, hb1⟩
    have HB1 := hid hb1
    have hs1 := hb1.size
    clear hb1
    go_wp2_with (go_at_call 20; refine (awake_any _).mono ?_; rintro e wz ⟨rfl, hbz⟩)
    go_ret
    exact ⟨rfl, hWb.trans ((below_after HB1.out hbz (Nat.le_refl _)).mono (by omega))⟩
  | true =>
    have hf := ready_fault HRB.out.symm
    have hsm := thin_small (ready_thin HRB.out.symm)
    have hgood := (fault_good hf).1
    obtain ⟨⟨g1, g2, g3, g4⟩, gr, -, gt⟩ := hgood.facts
    have HF := hid hf
    have HSM := hid hsm
    have HGR := hid gr
    have HGT := hid gt
    have HP1 := HOP.out.1
    have HP3 := HOP.out.2.2
    obtain ⟨_, _, he1, -, ho1⟩ := HP1.open2
    cases he1
    obtain ⟨_, _, he3, -, ho3⟩ := HP3.open4
    cases he3
    have HO1 := hid ho1
    have HO3 := hid ho3
    have HPP1 := hid HP1
    have HPP3 := hid HP3
    clear hf hsm hgood gr gt ho1 ho3 HP1 HP3
    go_enter Try.func7, Try.ntmps7
    go_wp2_with fail
    rw [← hW]
    clear hW
    refine (ready_hid c HRB _ w.heap.size W (by omega) (HCE.out W (Below.refl _ _))).mono ?_
    rintro e w1 ⟨rfl, hb1⟩
    have HB1 := hid hb1
    have hs1 := hb1.size
    clear hb1
    have j0 := cell_of_row (HBOX.out w1 HB1.out) 0
    have j1 := cell_of_row (HBOX.out w1 HB1.out) 1
    have j2 := cell_of_row (HBOX.out w1 HB1.out) 2
    simp only [List.getElem?_toArray, List.getElem?_cons_zero, List.getElem?_cons_succ] at j0 j1 j2
    go_wp2
    obtain ⟨X, hX⟩ : ∃ X, X = w1.heap.size := ⟨_, rfl⟩
    obtain ⟨w3, hw3⟩ : ∃ w3, w3 = w1.alloc (Obj.cells #[.slice ha c.heaps.length hc, .slice ka c.casks.length kc, .slice ta c.trials.length tc] 26) := ⟨_, rfl⟩
    have hs3 : w3.heap.size = X + 1 := by rw [hw3, hX]; simp
    have hr3 : w3.heap[X]? = some (.cells #[.slice ha c.heaps.length hc, .slice ka c.casks.length kc, .slice ta c.trials.length tc] 26 (0, 0)) := by rw [hw3, hX]; exact heap_new _ _
    have hb3 : Below X w1 w3 := by rw [hw3]; exact below_alloc1 (by omega) _
    have HR3 := hid hr3
    have HS3 := hid hb3
    rw [← hw3, ← hX]
    have hwX : w.heap.size < X := by omega
    have hWX : W.heap.size ≤ X := by omega
    have hXw : w1.heap.size ≤ X ∧ X ≤ w1.heap.size := by omega
    clear hw3 hr3 hb3 hX
    have hSS := hid (fun w' (h : Below X w1 w') => ⟨(h.cell (p := ⟨w.heap.size, 0, none⟩) (by show w.heap.size < X; omega)).trans j0, (h.cell (p := ⟨w.heap.size, 1, none⟩) (by show w.heap.size < X; omega)).trans j1, (h.cell (p := ⟨w.heap.size, 2, none⟩) (by show w.heap.size < X; omega)).trans j2⟩ :
      ∀ w', Below X w1 w' → w'.cell? ⟨w.heap.size, 0, none⟩ = some (.slice ha c.heaps.length hc) ∧ w'.cell? ⟨w.heap.size, 1, none⟩ = some (.slice ka c.casks.length kc) ∧ w'.cell? ⟨w.heap.size, 2, none⟩ = some (.slice ta c.trials.length tc))
    have HOLD := hid (fun w' (h : Below X w1 w') => below_after HB1.out (h.mono (by omega)) (Nat.le_refl _) : ∀ w', Below X w1 w' → Below W.heap.size W w')
    apply wp_via (fun _ _ kH kT aH aT w' => FinW c X (.slice ka c.casks.length kc) w1 (.slice aH c.heaps.length kH) (.slice aT c.trials.length kT) w')
    refine wp_region_grow (by kernel_rfl) 99 (fun w' => Below X w1 w') ?_ ?_
    · exact HS3.out.drew
    have HG := fun (a b : World) (h : Below X w1 a) (k : Below a.heap.size a b) => (h.trans (k.mono (by have := h.size; omega)) : Below X w1 b)
    refine wpG_take (i := 1) (v := .pointer (some ⟨w.heap.size, 0, none⟩)) rfl rfl (by kernel_rfl) (by kernel_rfl) (by kernel_rfl) (by kernel_rfl) (fun _ _ _ h => h) (by rfl) (fun w' hS' => grow_value ?_ hS') ?_
    · go_simp
    try simp only [List.setIfInBounds_toArray, List.set_cons_zero, List.set_cons_succ]
    refine wpG_take (i := 2) (v := .slice ha c.heaps.length hc) rfl rfl (by kernel_rfl) (by kernel_rfl) (by kernel_rfl) (by kernel_rfl) (fun _ _ _ h => h) (by rfl) (fun w' hS' => grow_value ?_ hS') ?_
    · have ⟨s0, s1, s2⟩ := hSS.out _ hS'; go_simp
    try simp only [List.setIfInBounds_toArray, List.set_cons_zero, List.set_cons_succ]
    refine wpG_take (i := 5) (v := .pointer (some ⟨w.heap.size, 2, none⟩)) rfl rfl (by kernel_rfl) (by kernel_rfl) (by kernel_rfl) (by kernel_rfl) (fun _ _ _ h => h) (by rfl) (fun w' hS' => grow_value ?_ hS') ?_
    · go_simp
    try simp only [List.setIfInBounds_toArray, List.set_cons_zero, List.set_cons_succ]
    refine wpG_take (i := 6) (v := .slice ta c.trials.length tc) rfl rfl (by kernel_rfl) (by kernel_rfl) (by kernel_rfl) (by kernel_rfl) (fun _ _ _ h => h) (by rfl) (fun w' hS' => grow_value ?_ hS') ?_
    · have ⟨s0, s1, s2⟩ := hSS.out _ hS'; go_simp
    try simp only [List.setIfInBounds_toArray, List.set_cons_zero, List.set_cons_succ]
    refine wpG_fork (i := 0) (j := 4) rfl rfl (by rfl) (by rfl) (by kernel_rfl) (by rfl) (by rfl) (fun wI hbI hSI => ?_) (fun wI hbI hSI => ?_)
    · skip
      go_simp
      refine ⟨HG wI _ hSI (below_alloc1 (Nat.le_refl _) _), ?_⟩
      have hrI := row_grow (A := w3.drew) HR3.out hbI
      have hlI := (Array.getElem?_eq_some_iff.1 hrI).1
      obtain ⟨P0, hP0⟩ : ∃ p, p = wI.heap.size := ⟨_, rfl⟩
      obtain ⟨w4, hw4⟩ : ∃ w', w' = wI.alloc (Obj.cells #[] 66) := ⟨_, rfl⟩
      have hI4 : Below wI.heap.size wI w4 := by rw [hw4]; exact below_alloc1 (Nat.le_refl _) _
      have E0_4 := hid (show EmpR X P0 66 w4 by rw [hP0, hw4]; exact EmpR.new wI _ hlI)
      have R4 := hid (row_grow hrI hI4)
      have S4 := hid (HG wI _ hSI hI4)
      rw [← hw4, ← hP0]
      clear hw4 hP0 hrI hlI hbI hSI hI4
      clear wI
      try simp only [List.setIfInBounds_toArray, List.set_cons_zero, List.set_cons_succ]
      refine wpG_fork (i := 3) (j := 4) rfl rfl (by rfl) (by rfl) (by kernel_rfl) (by rfl) (by rfl) (fun wI hbI hSI => ?_) (fun wI hbI hSI => ?_)
      · have hrI := row_grow R4.out hbI
        have hE0 := E0_4.out.grow hbI
        have hHB : Rgs (Lt w.heap.size) wI (.slice ha c.heaps.length hc) c.heaps := HPP1.out.below (hWb.trans ((HOLD.out wI hSI).mono (by omega)))
        refine wp_appendL encR (.tmp 25) (.tmp 27) 22 rfl (X + 1) 66 _ 2 16 rranges_under infoRRange rfl (by decide) encR_length encR_one _ [] (by rfl) hE0.own _ _ c.heaps (by rfl) hHB (by simp only [List.length_nil]; omega) (by decide) (by have := hE0.lt; have := hE0.1; omega) ?_
        intro vH w5 hown hgr
        have hch := chg_emp hgr
        have hne0 : X ≠ P0 := by have := hE0.1; omega
        have OH_5 := hid (show Own (X + 1) 66 2 encR w5 vH c.heaps by simpa using hown)
        have R5 := hid (row_chg hrI hch hne0)
        have S5 := hid (hSI.trans (hch.below (n := X) (by have := hE0.lt; have := hE0.1; omega) (fun b hb e => by have := hE0.1; omega)))
        refine ⟨S5.out, ?_⟩
        simp only [Act.put]
        clear hHB hown hgr hch hne0 hrI hE0 hSI hbI wI
        try simp only [List.setIfInBounds_toArray]
        refine wpG_take (i := 8) (v := .pointer (some ⟨X, 0, none⟩)) rfl rfl (by kernel_rfl) (by kernel_rfl) (by kernel_rfl) (by kernel_rfl) (fun _ _ _ h => h) (by rfl) (fun w' hS' => grow_value ?_ hS') ?_
        · go_simp
        try simp only [List.setIfInBounds_toArray, List.set_cons_zero, List.set_cons_succ]
        refine wpG_only (i := 4) rfl (by rfl) (by kernel_rfl) (by rfl) (fun wI hbI hSI => ?_)
        go_simp
        refine ⟨HG wI _ hSI (below_alloc1 (Nat.le_refl _) _), ?_⟩
        have hrI := row_grow R5.out hbI
        have hlI := (Array.getElem?_eq_some_iff.1 hrI).1
        obtain ⟨P1, hP1⟩ : ∃ p, p = wI.heap.size := ⟨_, rfl⟩
        obtain ⟨w6, hw6⟩ : ∃ w', w' = wI.alloc (Obj.cells #[] 68) := ⟨_, rfl⟩
        have hI6 : Below wI.heap.size wI w6 := by rw [hw6]; exact below_alloc1 (Nat.le_refl _) _
        have E1_6 := hid (show EmpR X P1 68 w6 by rw [hP1, hw6]; exact EmpR.new wI _ hlI)
        have R6 := hid (row_grow hrI hI6)
        have S6 := hid (HG wI _ hSI hI6)
        have OH_6 := hid ((OH_5.out.below hbI).below hI6)
        rw [← hw6, ← hP1]
        clear hw6 hP1 hrI hlI hbI hSI hI6
        clear wI
        try simp only [List.setIfInBounds_toArray, List.set_cons_zero, List.set_cons_succ]
        refine wpG_only (i := 7) rfl (by rfl) (by kernel_rfl) (by rfl) (fun wI hbI hSI => ?_)
        have hrI := row_grow R6.out hbI
        have hE1 := E1_6.out.grow hbI
        have hOH := OH_6.out.below hbI
        have hTB : Tls (Lt w.heap.size) wI (.slice ta c.trials.length tc) c.trials := HPP3.out.below (hWb.trans ((HOLD.out wI hSI).mono (by omega)))
        refine wp_appendL encT4 (.tmp 29) (.tmp 31) 24 rfl (X + 1) 68 _ 4 32 rtrials_under infoRTrial rfl (by decide) (fun _ => rfl) encT4_one _ [] (by rfl) hE1.own _ _ c.trials (by rfl) hTB (by simp only [List.length_nil]; omega) (by decide) (by have := hE1.lt; have := hE1.1; omega) ?_
        intro vT w7 hown hgr
        have hch := chg_emp hgr
        have hne1 : X ≠ P1 := by have := hE1.1; omega
        have OT_7 := hid (show Own (X + 1) 68 4 encT4 w7 vT c.trials by simpa using hown)
        have OH_7 := hid (hOH.chg_ne hch (hOH.avoid encR_length (by decide) (List.ne_nil_of_length_pos g1) hE1.2))
        have R7 := hid (row_chg hrI hch hne1)
        have S7 := hid (hSI.trans (hch.below (n := X) (by have := hE1.lt; have := hE1.1; omega) (fun b hb e => by have := hE1.1; omega)))
        refine ⟨S7.out, ?_⟩
        simp only [Act.put]
        clear hTB hown hgr hch hne1 hrI hE1 hOH hSI
        try simp only [List.setIfInBounds_toArray]
        clear hbI wI
        obtain ⟨aH, kH, rfl, -, -⟩ := id (OH_7.out.slLt encR_length).open2
        obtain ⟨aT, kT, rfl, -, -⟩ := id (OT_7.out.slLt (fun _ => rfl)).open4
        refine wpG_only (i := 9) rfl (by rfl) (by kernel_rfl) (by rfl) (fun wI hbI hSI => ?_)
        have hrI := row_grow R7.out hbI
        have f0 := frozen_of_row hrI 0
        have c0 := cell_of_row hrI 0
        simp only [List.getElem?_toArray, List.getElem?_cons_zero] at c0
        have R8 := hid (row_set hrI 0 (.slice aH c.heaps.length kH))
        have S8 := hid (hSI.setCell (p := ⟨X, 0, none⟩) (Nat.le_refl _) (.slice aH c.heaps.length kH))
        have OH_8 := hid ((OH_7.out.below hbI).chg (setCell_chg (A := wI) (g := X) (i := 0) (.slice aH c.heaps.length kH)) (fun bb hb => by omega))
        have OT_8 := hid ((OT_7.out.below hbI).chg (setCell_chg (A := wI) (g := X) (i := 0) (.slice aH c.heaps.length kH)) (fun bb hb => by omega))
        clear hrI hbI hSI
        go_simp
        refine ⟨S8.out, ?_⟩
        clear c0 f0
        generalize wI.setCell ⟨X, 0, none⟩ (.slice aH c.heaps.length kH) = w8 at *
        try simp only [List.setIfInBounds_toArray, List.set_cons_zero, List.set_cons_succ]
        refine wpG_take (i := 10) (v := .pointer (some ⟨X, 2, none⟩)) rfl rfl (by kernel_rfl) (by kernel_rfl) (by kernel_rfl) (by kernel_rfl) (fun _ _ _ h => h) (by rfl) (fun w' hS' => grow_value ?_ hS') ?_
        · go_simp
        try simp only [List.setIfInBounds_toArray, List.set_cons_zero, List.set_cons_succ]
        refine wpG_only (i := 11) rfl (by rfl) (by kernel_rfl) (by rfl) (fun wI hbI hSI => ?_)
        have hrI := row_grow R8.out hbI
        have f0 := frozen_of_row hrI 2
        have c0 := cell_of_row hrI 2
        have R9 := hid (row_set hrI 2 (.slice aT c.trials.length kT))
        simp [] at c0
        have S9 := hid (hSI.setCell (p := ⟨X, 2, none⟩) (Nat.le_refl _) (.slice aT c.trials.length kT))
        have OH_9 := hid ((OH_8.out.below hbI).chg (setCell_chg (A := wI) (g := X) (i := 2) (.slice aT c.trials.length kT)) (fun bb hb => by omega))
        have OT_9 := hid ((OT_8.out.below hbI).chg (setCell_chg (A := wI) (g := X) (i := 2) (.slice aT c.trials.length kT)) (fun bb hb => by omega))
        clear hrI hbI hSI
        go_simp
        refine ⟨S9.out, ?_⟩
        clear c0 f0
        generalize wI.setCell ⟨X, 2, none⟩ (.slice aT c.trials.length kT) = w9 at *
        try simp only [List.setIfInBounds_toArray, List.set_cons_zero, List.set_cons_succ]
        refine wpG_done (by kernel_rfl) (fun wI hbI hSI => ?_) _
        exact ⟨P0, P1, kH, kT, aH, aT, rfl, row_grow (by simpa using R9.out) hbI, OH_9.out.below hbI, OT_9.out.below hbI, hSI⟩
      · skip
        go_simp
        refine ⟨HG wI _ hSI (below_alloc1 (Nat.le_refl _) _), ?_⟩
        have hrI := row_grow R4.out hbI
        have hlI := (Array.getElem?_eq_some_iff.1 hrI).1
        obtain ⟨P1, hP1⟩ : ∃ p, p = wI.heap.size := ⟨_, rfl⟩
        obtain ⟨w5, hw5⟩ : ∃ w', w' = wI.alloc (Obj.cells #[] 68) := ⟨_, rfl⟩
        have hI5 : Below wI.heap.size wI w5 := by rw [hw5]; exact below_alloc1 (Nat.le_refl _) _
        have E1_5 := hid (show EmpR X P1 68 w5 by rw [hP1, hw5]; exact EmpR.new wI _ hlI)
        have R5 := hid (row_grow hrI hI5)
        have S5 := hid (HG wI _ hSI hI5)
        have E0_5 := hid ((E0_4.out.grow hbI).grow hI5)
        have hNE := hid (show P0 ≠ P1 by have := (E0_4.out.grow hbI).lt; omega)
        rw [← hw5, ← hP1]
        clear hw5 hP1 hrI hlI hbI hSI hI5
        clear wI
        try simp only [List.setIfInBounds_toArray, List.set_cons_zero, List.set_cons_succ]
        refine wpG_only (i := 3) rfl (by rfl) (by kernel_rfl) (by rfl) (fun wI hbI hSI => ?_)
        have hrI := row_grow R5.out hbI
        have hE0 := E0_5.out.grow hbI
        have hE1 := E1_5.out.grow hbI
        have hHB : Rgs (Lt w.heap.size) wI (.slice ha c.heaps.length hc) c.heaps := HPP1.out.below (hWb.trans ((HOLD.out wI hSI).mono (by omega)))
        refine wp_appendL encR (.tmp 25) (.tmp 27) 22 rfl (X + 1) 66 _ 2 16 rranges_under infoRRange rfl (by decide) encR_length encR_one _ [] (by rfl) hE0.own _ _ c.heaps (by rfl) hHB (by simp only [List.length_nil]; omega) (by decide) (by have := hE0.lt; have := hE0.1; omega) ?_
        intro vH w6 hown hgr
        have hch := chg_emp hgr
        have hne0 : X ≠ P0 := by have := hE0.1; omega
        have OH_6 := hid (show Own (X + 1) 66 2 encR w6 vH c.heaps by simpa using hown)
        have R6 := hid (row_chg hrI hch hne0)
        have S6 := hid (hSI.trans (hch.below (n := X) (by have := hE0.lt; have := hE0.1; omega) (fun b hb e => by have := hE0.1; omega)))
        have E1_6 := hid (hE1.chg hch (fun e => hNE.out e.symm))
        refine ⟨S6.out, ?_⟩
        simp only [Act.put]
        clear hHB hown hgr hch hne0 hrI hE0 hE1 hSI hbI wI
        try simp only [List.setIfInBounds_toArray]
        refine wpG_take (i := 8) (v := .pointer (some ⟨X, 0, none⟩)) rfl rfl (by kernel_rfl) (by kernel_rfl) (by kernel_rfl) (by kernel_rfl) (fun _ _ _ h => h) (by rfl) (fun w' hS' => grow_value ?_ hS') ?_
        · go_simp
        try simp only [List.setIfInBounds_toArray, List.set_cons_zero, List.set_cons_succ]
        refine wpG_only (i := 7) rfl (by rfl) (by kernel_rfl) (by rfl) (fun wI hbI hSI => ?_)
        have hrI := row_grow R6.out hbI
        have hE1 := E1_6.out.grow hbI
        have hOH := OH_6.out.below hbI
        have hTB : Tls (Lt w.heap.size) wI (.slice ta c.trials.length tc) c.trials := HPP3.out.below (hWb.trans ((HOLD.out wI hSI).mono (by omega)))
        refine wp_appendL encT4 (.tmp 29) (.tmp 31) 24 rfl (X + 1) 68 _ 4 32 rtrials_under infoRTrial rfl (by decide) (fun _ => rfl) encT4_one _ [] (by rfl) hE1.own _ _ c.trials (by rfl) hTB (by simp only [List.length_nil]; omega) (by decide) (by have := hE1.lt; have := hE1.1; omega) ?_
        intro vT w7 hown hgr
        have hch := chg_emp hgr
        have hne1 : X ≠ P1 := by have := hE1.1; omega
        have OT_7 := hid (show Own (X + 1) 68 4 encT4 w7 vT c.trials by simpa using hown)
        have OH_7 := hid (hOH.chg_ne hch (hOH.avoid encR_length (by decide) (List.ne_nil_of_length_pos g1) hE1.2))
        have R7 := hid (row_chg hrI hch hne1)
        have S7 := hid (hSI.trans (hch.below (n := X) (by have := hE1.lt; have := hE1.1; omega) (fun b hb e => by have := hE1.1; omega)))
        refine ⟨S7.out, ?_⟩
        simp only [Act.put]
        clear hTB hown hgr hch hne1 hrI hE1 hOH hSI
        try simp only [List.setIfInBounds_toArray, List.set_cons_zero, List.set_cons_succ]
        clear hbI wI
        obtain ⟨aH, kH, rfl, -, -⟩ := id (OH_7.out.slLt encR_length).open2
        obtain ⟨aT, kT, rfl, -, -⟩ := id (OT_7.out.slLt (fun _ => rfl)).open4
        refine wpG_only (i := 9) rfl (by rfl) (by kernel_rfl) (by rfl) (fun wI hbI hSI => ?_)
        have hrI := row_grow R7.out hbI
        have f0 := frozen_of_row hrI 0
        have c0 := cell_of_row hrI 0
        simp only [List.getElem?_toArray, List.getElem?_cons_zero] at c0
        have R8 := hid (row_set hrI 0 (.slice aH c.heaps.length kH))
        have S8 := hid (hSI.setCell (p := ⟨X, 0, none⟩) (Nat.le_refl _) (.slice aH c.heaps.length kH))
        have OH_8 := hid ((OH_7.out.below hbI).chg (setCell_chg (A := wI) (g := X) (i := 0) (.slice aH c.heaps.length kH)) (fun bb hb => by omega))
        have OT_8 := hid ((OT_7.out.below hbI).chg (setCell_chg (A := wI) (g := X) (i := 0) (.slice aH c.heaps.length kH)) (fun bb hb => by omega))
        clear hrI hbI hSI
        go_simp
        refine ⟨S8.out, ?_⟩
        clear c0 f0
        generalize wI.setCell ⟨X, 0, none⟩ (.slice aH c.heaps.length kH) = w8 at *
        try simp only [List.setIfInBounds_toArray, List.set_cons_zero, List.set_cons_succ]
        refine wpG_take (i := 10) (v := .pointer (some ⟨X, 2, none⟩)) rfl rfl (by kernel_rfl) (by kernel_rfl) (by kernel_rfl) (by kernel_rfl) (fun _ _ _ h => h) (by rfl) (fun w' hS' => grow_value ?_ hS') ?_
        · go_simp
        try simp only [List.setIfInBounds_toArray, List.set_cons_zero, List.set_cons_succ]
        refine wpG_only (i := 11) rfl (by rfl) (by kernel_rfl) (by rfl) (fun wI hbI hSI => ?_)
        have hrI := row_grow R8.out hbI
        have f0 := frozen_of_row hrI 2
        have c0 := cell_of_row hrI 2
        have R9 := hid (row_set hrI 2 (.slice aT c.trials.length kT))
        simp [] at c0
        have S9 := hid (hSI.setCell (p := ⟨X, 2, none⟩) (Nat.le_refl _) (.slice aT c.trials.length kT))
        have OH_9 := hid ((OH_8.out.below hbI).chg (setCell_chg (A := wI) (g := X) (i := 2) (.slice aT c.trials.length kT)) (fun bb hb => by omega))
        have OT_9 := hid ((OT_8.out.below hbI).chg (setCell_chg (A := wI) (g := X) (i := 2) (.slice aT c.trials.length kT)) (fun bb hb => by omega))
        clear hrI hbI hSI
        go_simp
        refine ⟨S9.out, ?_⟩
        clear c0 f0
        generalize wI.setCell ⟨X, 2, none⟩ (.slice aT c.trials.length kT) = w9 at *
        try simp only [List.setIfInBounds_toArray, List.set_cons_zero, List.set_cons_succ]
        refine wpG_done (by kernel_rfl) (fun wI hbI hSI => ?_) _
        exact ⟨P0, P1, kH, kT, aH, aT, rfl, row_grow (by simpa using R9.out) hbI, OH_9.out.below hbI, OT_9.out.below hbI, hSI⟩
    · skip
      go_simp
      refine ⟨HG wI _ hSI (below_alloc1 (Nat.le_refl _) _), ?_⟩
      have hrI := row_grow (A := w3.drew) HR3.out hbI
      have hlI := (Array.getElem?_eq_some_iff.1 hrI).1
      obtain ⟨P1, hP1⟩ : ∃ p, p = wI.heap.size := ⟨_, rfl⟩
      obtain ⟨w4, hw4⟩ : ∃ w', w' = wI.alloc (Obj.cells #[] 68) := ⟨_, rfl⟩
      have hI4 : Below wI.heap.size wI w4 := by rw [hw4]; exact below_alloc1 (Nat.le_refl _) _
      have E1_4 := hid (show EmpR X P1 68 w4 by rw [hP1, hw4]; exact EmpR.new wI _ hlI)
      have R4 := hid (row_grow hrI hI4)
      have S4 := hid (HG wI _ hSI hI4)
      rw [← hw4, ← hP1]
      clear hw4 hP1 hrI hlI hbI hSI hI4
      clear wI
      try simp only [List.setIfInBounds_toArray, List.set_cons_zero, List.set_cons_succ]
      refine wpG_only (i := 0) rfl (by rfl) (by kernel_rfl) (by rfl) (fun wI hbI hSI => ?_)
      go_simp
      refine ⟨HG wI _ hSI (below_alloc1 (Nat.le_refl _) _), ?_⟩
      have hrI := row_grow R4.out hbI
      have hlI := (Array.getElem?_eq_some_iff.1 hrI).1
      obtain ⟨P0, hP0⟩ : ∃ p, p = wI.heap.size := ⟨_, rfl⟩
      obtain ⟨w5, hw5⟩ : ∃ w', w' = wI.alloc (Obj.cells #[] 66) := ⟨_, rfl⟩
      have hI5 : Below wI.heap.size wI w5 := by rw [hw5]; exact below_alloc1 (Nat.le_refl _) _
      have E0_5 := hid (show EmpR X P0 66 w5 by rw [hP0, hw5]; exact EmpR.new wI _ hlI)
      have R5 := hid (row_grow hrI hI5)
      have S5 := hid (HG wI _ hSI hI5)
      have E1_5 := hid ((E1_4.out.grow hbI).grow hI5)
      have hNE := hid (show P0 ≠ P1 by have := (E1_4.out.grow hbI).lt; omega)
      rw [← hw5, ← hP0]
      clear hw5 hP0 hrI hlI hbI hSI hI5
      clear wI
      try simp only [List.setIfInBounds_toArray, List.set_cons_zero, List.set_cons_succ]
      refine wpG_only (i := 3) rfl (by rfl) (by kernel_rfl) (by rfl) (fun wI hbI hSI => ?_)
      have hrI := row_grow R5.out hbI
      have hE0 := E0_5.out.grow hbI
      have hE1 := E1_5.out.grow hbI
      have hHB : Rgs (Lt w.heap.size) wI (.slice ha c.heaps.length hc) c.heaps := HPP1.out.below (hWb.trans ((HOLD.out wI hSI).mono (by omega)))
      refine wp_appendL encR (.tmp 25) (.tmp 27) 22 rfl (X + 1) 66 _ 2 16 rranges_under infoRRange rfl (by decide) encR_length encR_one _ [] (by rfl) hE0.own _ _ c.heaps (by rfl) hHB (by simp only [List.length_nil]; omega) (by decide) (by have := hE0.lt; have := hE0.1; omega) ?_
      intro vH w6 hown hgr
      have hch := chg_emp hgr
      have hne0 : X ≠ P0 := by have := hE0.1; omega
      have OH_6 := hid (show Own (X + 1) 66 2 encR w6 vH c.heaps by simpa using hown)
      have R6 := hid (row_chg hrI hch hne0)
      have S6 := hid (hSI.trans (hch.below (n := X) (by have := hE0.lt; have := hE0.1; omega) (fun b hb e => by have := hE0.1; omega)))
      have E1_6 := hid (hE1.chg hch (fun e => hNE.out e.symm))
      refine ⟨S6.out, ?_⟩
      simp only [Act.put]
      clear hHB hown hgr hch hne0 hrI hE0 hE1 hSI hbI wI
      try simp only [List.setIfInBounds_toArray]
      refine wpG_take (i := 8) (v := .pointer (some ⟨X, 0, none⟩)) rfl rfl (by kernel_rfl) (by kernel_rfl) (by kernel_rfl) (by kernel_rfl) (fun _ _ _ h => h) (by rfl) (fun w' hS' => grow_value ?_ hS') ?_
      · go_simp
      try simp only [List.setIfInBounds_toArray, List.set_cons_zero, List.set_cons_succ]
      refine wpG_only (i := 7) rfl (by rfl) (by kernel_rfl) (by rfl) (fun wI hbI hSI => ?_)
      have hrI := row_grow R6.out hbI
      have hE1 := E1_6.out.grow hbI
      have hOH := OH_6.out.below hbI
      have hTB : Tls (Lt w.heap.size) wI (.slice ta c.trials.length tc) c.trials := HPP3.out.below (hWb.trans ((HOLD.out wI hSI).mono (by omega)))
      refine wp_appendL encT4 (.tmp 29) (.tmp 31) 24 rfl (X + 1) 68 _ 4 32 rtrials_under infoRTrial rfl (by decide) (fun _ => rfl) encT4_one _ [] (by rfl) hE1.own _ _ c.trials (by rfl) hTB (by simp only [List.length_nil]; omega) (by decide) (by have := hE1.lt; have := hE1.1; omega) ?_
      intro vT w7 hown hgr
      have hch := chg_emp hgr
      have hne1 : X ≠ P1 := by have := hE1.1; omega
      have OT_7 := hid (show Own (X + 1) 68 4 encT4 w7 vT c.trials by simpa using hown)
      have OH_7 := hid (hOH.chg_ne hch (hOH.avoid encR_length (by decide) (List.ne_nil_of_length_pos g1) hE1.2))
      have R7 := hid (row_chg hrI hch hne1)
      have S7 := hid (hSI.trans (hch.below (n := X) (by have := hE1.lt; have := hE1.1; omega) (fun b hb e => by have := hE1.1; omega)))
      refine ⟨S7.out, ?_⟩
      simp only [Act.put]
      clear hTB hown hgr hch hne1 hrI hE1 hOH hSI
      try simp only [List.setIfInBounds_toArray, List.set_cons_zero, List.set_cons_succ]
      clear hbI wI
      obtain ⟨aH, kH, rfl, -, -⟩ := id (OH_7.out.slLt encR_length).open2
      obtain ⟨aT, kT, rfl, -, -⟩ := id (OT_7.out.slLt (fun _ => rfl)).open4
      refine wpG_only (i := 9) rfl (by rfl) (by kernel_rfl) (by rfl) (fun wI hbI hSI => ?_)
      have hrI := row_grow R7.out hbI
      have f0 := frozen_of_row hrI 0
      have c0 := cell_of_row hrI 0
      simp only [List.getElem?_toArray, List.getElem?_cons_zero] at c0
      have R8 := hid (row_set hrI 0 (.slice aH c.heaps.length kH))
      have S8 := hid (hSI.setCell (p := ⟨X, 0, none⟩) (Nat.le_refl _) (.slice aH c.heaps.length kH))
      have OH_8 := hid ((OH_7.out.below hbI).chg (setCell_chg (A := wI) (g := X) (i := 0) (.slice aH c.heaps.length kH)) (fun bb hb => by omega))
      have OT_8 := hid ((OT_7.out.below hbI).chg (setCell_chg (A := wI) (g := X) (i := 0) (.slice aH c.heaps.length kH)) (fun bb hb => by omega))
      clear hrI hbI hSI
      go_simp
      refine ⟨S8.out, ?_⟩
      clear c0 f0
      generalize wI.setCell ⟨X, 0, none⟩ (.slice aH c.heaps.length kH) = w8 at *
      try simp only [List.setIfInBounds_toArray, List.set_cons_zero, List.set_cons_succ]
      refine wpG_take (i := 10) (v := .pointer (some ⟨X, 2, none⟩)) rfl rfl (by kernel_rfl) (by kernel_rfl) (by kernel_rfl) (by kernel_rfl) (fun _ _ _ h => h) (by rfl) (fun w' hS' => grow_value ?_ hS') ?_
      · go_simp
      try simp only [List.setIfInBounds_toArray, List.set_cons_zero, List.set_cons_succ]
      refine wpG_only (i := 11) rfl (by rfl) (by kernel_rfl) (by rfl) (fun wI hbI hSI => ?_)
      have hrI := row_grow R8.out hbI
      have f0 := frozen_of_row hrI 2
      have c0 := cell_of_row hrI 2
      have R9 := hid (row_set hrI 2 (.slice aT c.trials.length kT))
      simp [] at c0
      have S9 := hid (hSI.setCell (p := ⟨X, 2, none⟩) (Nat.le_refl _) (.slice aT c.trials.length kT))
      have OH_9 := hid ((OH_8.out.below hbI).chg (setCell_chg (A := wI) (g := X) (i := 2) (.slice aT c.trials.length kT)) (fun bb hb => by omega))
      have OT_9 := hid ((OT_8.out.below hbI).chg (setCell_chg (A := wI) (g := X) (i := 2) (.slice aT c.trials.length kT)) (fun bb hb => by omega))
      clear hrI hbI hSI
      go_simp
      refine ⟨S9.out, ?_⟩
      clear c0 f0
      generalize wI.setCell ⟨X, 2, none⟩ (.slice aT c.trials.length kT) = w9 at *
      try simp only [List.setIfInBounds_toArray, List.set_cons_zero, List.set_cons_succ]
      refine wpG_done (by kernel_rfl) (fun wI hbI hSI => ?_) _
      exact ⟨P0, P1, kH, kT, aH, aT, rfl, row_grow (by simpa using R9.out) hbI, OH_9.out.below hbI, OT_9.out.below hbI, hSI⟩
    intro p0 p1 kH kT aH aT w9 FW
    have HFW := hid FW
    have hs9 := FW.below.size
    have q0 := cell_of_row FW.row 0
    have q1 := cell_of_row FW.row 1
    have q2 := cell_of_row FW.row 2
    simp only [List.getElem?_toArray, List.getElem?_cons_zero, List.getElem?_cons_succ] at q0 q1 q2
    have lX : X < w9.heap.size := (Array.getElem?_eq_some_iff.1 FW.row).1
    clear FW
    have hN0 : (((c.heaps.length : Int) + c.trials.length) == 0) = false := by rw [beq_eq_false_iff_ne]; omega
    have hNn : ((c.heaps.length : Int) + c.trials.length) ≠ 0 := by omega
    have hm0 : 0 ≤ a % ((c.heaps.length : Int) + c.trials.length) := Int.emod_nonneg _ (by omega)
    have hm1 : a % ((c.heaps.length : Int) + c.trials.length) < (c.heaps.length : Int) + c.trials.length := Int.emod_lt_of_pos _ (by omega)
    have hwa : IntKind.i64.wrap a = a := IntWalk.i64_in _ (by omega)
    obtain ⟨kk, hkk⟩ := Int.eq_ofNat_of_zero_le hm0
    have HKK := hid hkk
    have HBY := hid hby0
    rcases HFW.out.oh.2 with ⟨-, hn⟩ | ⟨gH, capH, curH, heH, hgX, hgH, -⟩
    · omega
    injection heH with heH _ heK
    subst heH; subst heK
    by_cases hlt : a % ((c.heaps.length : Int) + c.trials.length) < (c.heaps.length : Int)
    · have hd : decide (a % ((c.heaps.length : Int) + c.trials.length) < (c.heaps.length : Int)) = true := decide_eq_true hlt
      have hkl : kk < c.heaps.length := by omega
      clear hkk
      go_wp2
      simp only [HKK.out, Int.toNat_natCast]
      obtain ⟨w10, hw10⟩ : ∃ w', w' = w9.alloc (Obj.cells #[.int .i64 0, .int .i64 0] 66) := ⟨_, rfl⟩
      have hb10 : Below w9.heap.size w9 w10 := by rw [hw10]; exact below_alloc1 (Nat.le_refl _) _
      rw [← hw10]
      have R10 := hid (row_grow HFW.out.row hb10)
      have S10 := hid (HFW.out.below.trans (hb10.mono (by omega)))
      have OH10 := hid ((HFW.out.oh.below hb10).slIn encR_length)
      have OT10 := hid (HFW.out.ot.below hb10)
      have OA10 := hid ((HFW.out.oh.below hb10).apart OT10.out (by decide))
      have HBW := hid hb10
      clear hw10 hb10
      have hg10 := row_grow hgH HBW.out
      have hcell : w10.cell? ⟨gH, kk * 2, none⟩ = some (.int .i64 c.heaps[kk].lo) ∧ w10.cell? ⟨gH, kk * 2 + 1, none⟩ = some (.int .i64 c.heaps[kk].hi) := by
        obtain ⟨_, _, he, -, hor⟩ := OH10.out.open2
        injection he with he
        rcases hor with h0 | ⟨b, off, e, -, hcc⟩
        · rw [h0] at hkl; simp at hkl
        · rw [e] at he
          injection he with he
          injection he with e1 e2
          subst e1; subst e2
          simpa using hcc kk hkl
      obtain ⟨y0, y1⟩ := hcell
      have hrb := HGR.out c.heaps[kk] (List.getElem_mem _)
      have HGET := hid (show c.heaps[kk]? = some c.heaps[kk] from List.getElem?_eq_getElem hkl)
      generalize c.heaps[kk] = r at *
      obtain ⟨rlo, rhi⟩ := r
      simp only at y0 y1 hrb
      have hwb : IntKind.i64.wrap by0 = by0 := IntWalk.i64_in _ (by omega)
      have hm3 : 0 ≤ by0 % 3 ∧ by0 % 3 ≤ 2 := by omega
      have hm4 : 0 ≤ by0 / 3 % 3 ∧ by0 / 3 % 3 ≤ 2 := by omega
      refine wp_region_ts (by kernel_rfl) [23, 26] (fun w' => w'.cell? ⟨gH, kk * 2, none⟩ = some (.int .i64 rlo) ∧ w'.cell? ⟨gH, kk * 2 + 1, none⟩ = some (.int .i64 rhi)) ?_
      obtain ⟨wD, hwD⟩ : ∃ w', w' = w10.drew := ⟨_, rfl⟩
      have hbD : Below w10.heap.size w10 wD := by rw [hwD]; exact (Below.refl _ _).drew
      have hzD := hbD.size
      have hS0 : (fun w' : World => w'.cell? ⟨gH, kk * 2, none⟩ = some (.int .i64 rlo) ∧ w'.cell? ⟨gH, kk * 2 + 1, none⟩ = some (.int .i64 rhi)) wD := by rw [hwD]; exact ⟨y0, y1⟩
      have RD := hid (row_grow R10.out hbD)
      have GD := hid (row_grow hg10 hbD)
      have SD := hid (S10.out.trans (hbD.mono (by have := S10.out.size; omega)))
      have OHD := hid (OH10.out.keep (w' := wD) ⟨hbD.size, fun b hb => hbD.block b hb.2⟩)
      have OTD := hid (OT10.out.below hbD)
      rw [← hwD]
      clear hwD hbD y0 y1 hg10
      refine wpTs_pure (i := 0) (v := .pointer (some ⟨gH, kk * 2, none⟩)) rfl rfl (by kernel_rfl) (by kernel_rfl) (by kernel_rfl) (fun _ _ _ h => h) (by rfl) (fun w' => ?_) ?_
      · go_simp
      try simp only [List.setIfInBounds_toArray, List.set_cons_zero, List.set_cons_succ]
      refine wpTs_pure (i := 1) (v := .pointer (some ⟨gH, kk * 2, none⟩)) rfl rfl (by kernel_rfl) (by kernel_rfl) (by kernel_rfl) (fun _ _ _ h => h) (by rfl) (fun w' => ?_) ?_
      · go_simp
      try simp only [List.setIfInBounds_toArray, List.set_cons_zero, List.set_cons_succ]
      refine wpTs_pure (i := 2) (v := .pointer (some ⟨gH, kk * 2, none⟩)) rfl rfl (by kernel_rfl) (by kernel_rfl) (by kernel_rfl) (fun _ _ _ h => h) (by rfl) (fun w' => ?_) ?_
      · go_simp
      try simp only [List.setIfInBounds_toArray, List.set_cons_zero, List.set_cons_succ]
      refine wpTs_pure (i := 3) (v := .pointer (some ⟨gH, kk * 2, none⟩)) rfl rfl (by kernel_rfl) (by kernel_rfl) (by kernel_rfl) (fun _ _ _ h => h) (by rfl) (fun w' => ?_) ?_
      · go_simp
      try simp only [List.setIfInBounds_toArray, List.set_cons_zero, List.set_cons_succ]
      refine wpTs_pure (i := 4) (v := .pointer (some ⟨gH, kk * 2, none⟩)) rfl rfl (by kernel_rfl) (by kernel_rfl) (by kernel_rfl) (fun _ _ _ h => h) (by rfl) (fun w' => ?_) ?_
      · go_simp
      try simp only [List.setIfInBounds_toArray, List.set_cons_zero, List.set_cons_succ]
      refine wpTs_take (i := 5) (v := .int .i64 rlo) rfl rfl (by kernel_rfl) (by kernel_rfl) (by kernel_rfl) (by kernel_rfl) (fun _ _ _ h => h) (by rfl) (fun w' hS' => ?_) hS0 ?_
      · obtain ⟨s0, s1⟩ := hS'; go_simp
      try simp only [List.setIfInBounds_toArray, List.set_cons_zero, List.set_cons_succ]
      refine wpTs_pure (i := 6) (v := .int .u8 by0) rfl rfl (by kernel_rfl) (by kernel_rfl) (by kernel_rfl) (fun _ _ _ h => h) (by rfl) (fun w' => ?_) ?_
      · go_simp
      try simp only [List.setIfInBounds_toArray, List.set_cons_zero, List.set_cons_succ]
      refine wpTs_pure (i := 7) (v := .int .i64 by0) rfl rfl (by kernel_rfl) (by kernel_rfl) (by kernel_rfl) (fun _ _ _ h => h) (by rfl) (fun w' => ?_) ?_
      · go_simp
      try simp only [List.setIfInBounds_toArray, List.set_cons_zero, List.set_cons_succ]
      refine wpTs_pure (i := 8) (v := .int .i64 (by0 % 3)) rfl rfl (by kernel_rfl) (by kernel_rfl) (by kernel_rfl) (fun _ _ _ h => h) (by rfl) (fun w' => ?_) ?_
      · go_simp; exact Int.tmod_eq_emod_of_nonneg (by omega)
      try simp only [List.setIfInBounds_toArray, List.set_cons_zero, List.set_cons_succ]
      refine wpTs_pure (i := 9) (v := .int .i64 (rlo - by0 % 3)) rfl rfl (by kernel_rfl) (by kernel_rfl) (by kernel_rfl) (fun _ _ _ h => h) (by rfl) (fun w' => ?_) ?_
      · go_simp; exact IntWalk.i64_in _ (by omega)
      try simp only [List.setIfInBounds_toArray, List.set_cons_zero, List.set_cons_succ]
      refine wpTs_pure (i := 10) (v := .int .i64 (max 0 (rlo - by0 % 3))) rfl rfl (by kernel_rfl) (by kernel_rfl) (by kernel_rfl) (fun _ _ _ h => h) (by rfl) (fun w' => ?_) ?_
      · go_simp; (split <;> omega)
      try simp only [List.setIfInBounds_toArray, List.set_cons_zero, List.set_cons_succ]
      refine wpTs_pure (i := 11) (v := .pointer (some ⟨gH, kk * 2, none⟩)) rfl rfl (by kernel_rfl) (by kernel_rfl) (by kernel_rfl) (fun _ _ _ h => h) (by rfl) (fun w' => ?_) ?_
      · go_simp
      try simp only [List.setIfInBounds_toArray, List.set_cons_zero, List.set_cons_succ]
      refine wpTs_pure (i := 12) (v := .pointer (some ⟨gH, kk * 2, none⟩)) rfl rfl (by kernel_rfl) (by kernel_rfl) (by kernel_rfl) (fun _ _ _ h => h) (by rfl) (fun w' => ?_) ?_
      · go_simp
      try simp only [List.setIfInBounds_toArray, List.set_cons_zero, List.set_cons_succ]
      refine wpTs_pure (i := 13) (v := .pointer (some ⟨gH, kk * 2 + 1, none⟩)) rfl rfl (by kernel_rfl) (by kernel_rfl) (by kernel_rfl) (fun _ _ _ h => h) (by rfl) (fun w' => ?_) ?_
      · go_simp
      try simp only [List.setIfInBounds_toArray, List.set_cons_zero, List.set_cons_succ]
      refine wpTs_take (i := 14) (v := .int .i64 rhi) rfl rfl (by kernel_rfl) (by kernel_rfl) (by kernel_rfl) (by kernel_rfl) (fun _ _ _ h => h) (by rfl) (fun w' hS' => ?_) hS0 ?_
      · obtain ⟨s0, s1⟩ := hS'; go_simp
      try simp only [List.setIfInBounds_toArray, List.set_cons_zero, List.set_cons_succ]
      refine wpTs_pure (i := 15) (v := .int .u8 by0) rfl rfl (by kernel_rfl) (by kernel_rfl) (by kernel_rfl) (fun _ _ _ h => h) (by rfl) (fun w' => ?_) ?_
      · go_simp
      try simp only [List.setIfInBounds_toArray, List.set_cons_zero, List.set_cons_succ]
      refine wpTs_pure (i := 16) (v := .int .i64 by0) rfl rfl (by kernel_rfl) (by kernel_rfl) (by kernel_rfl) (fun _ _ _ h => h) (by rfl) (fun w' => ?_) ?_
      · go_simp
      try simp only [List.setIfInBounds_toArray, List.set_cons_zero, List.set_cons_succ]
      refine wpTs_pure (i := 17) (v := .int .i64 (by0 / 3)) rfl rfl (by kernel_rfl) (by kernel_rfl) (by kernel_rfl) (fun _ _ _ h => h) (by rfl) (fun w' => ?_) ?_
      · go_simp; (rw [Int.tdiv_eq_ediv_of_nonneg (by omega)]; exact IntWalk.i64_in _ (by omega))
      try simp only [List.setIfInBounds_toArray, List.set_cons_zero, List.set_cons_succ]
      refine wpTs_pure (i := 18) (v := .int .i64 (by0 / 3 % 3)) rfl rfl (by kernel_rfl) (by kernel_rfl) (by kernel_rfl) (fun _ _ _ h => h) (by rfl) (fun w' => ?_) ?_
      · go_simp; exact Int.tmod_eq_emod_of_nonneg (by omega)
      try simp only [List.setIfInBounds_toArray, List.set_cons_zero, List.set_cons_succ]
      refine wpTs_pure (i := 19) (v := .int .i64 (rhi + by0 / 3 % 3)) rfl rfl (by kernel_rfl) (by kernel_rfl) (by kernel_rfl) (fun _ _ _ h => h) (by rfl) (fun w' => ?_) ?_
      · go_simp; exact IntWalk.i64_in _ (by omega)
      try simp only [List.setIfInBounds_toArray, List.set_cons_zero, List.set_cons_succ]
      refine wpTs_pure (i := 20) (v := .int .i64 (min 100 (rhi + by0 / 3 % 3))) rfl rfl (by kernel_rfl) (by kernel_rfl) (by kernel_rfl) (fun _ _ _ h => h) (by rfl) (fun w' => ?_) ?_
      · go_simp; (split <;> omega)
      try simp only [List.setIfInBounds_toArray, List.set_cons_zero, List.set_cons_succ]
      refine wpTs_pure (i := 21) (v := .pointer (some ⟨gH, kk * 2, none⟩)) rfl rfl (by kernel_rfl) (by kernel_rfl) (by kernel_rfl) (fun _ _ _ h => h) (by rfl) (fun w' => ?_) ?_
      · go_simp
      try simp only [List.setIfInBounds_toArray, List.set_cons_zero, List.set_cons_succ]
      refine wpTs_pure (i := 22) (v := .pointer (some ⟨gH, kk * 2, none⟩)) rfl rfl (by kernel_rfl) (by kernel_rfl) (by kernel_rfl) (fun _ _ _ h => h) (by rfl) (fun w' => ?_) ?_
      · go_simp
      try simp only [List.setIfInBounds_toArray, List.set_cons_zero, List.set_cons_succ]
      have f0 := frozen_of_row GD.out (kk * 2)
      have f1 := frozen_of_row GD.out (kk * 2 + 1)
      have y0 := hS0.1
      have y1 := hS0.2
      clear hS0
      refine wpTs_only (i := 23) rfl (by kernel_rfl) (by kernel_rfl) (by rfl) ?_
      go_simp
      try simp only [List.setIfInBounds_toArray, List.set_cons_zero, List.set_cons_succ]
      refine wpTs_pure (i := 24) (v := .pointer (some ⟨gH, kk * 2, none⟩)) rfl rfl (by kernel_rfl) (by kernel_rfl) (by kernel_rfl) (fun _ _ _ h => h) (by rfl) (fun w' => ?_) ?_
      · go_simp
      try simp only [List.setIfInBounds_toArray, List.set_cons_zero, List.set_cons_succ]
      refine wpTs_pure (i := 25) (v := .pointer (some ⟨gH, kk * 2 + 1, none⟩)) rfl rfl (by kernel_rfl) (by kernel_rfl) (by kernel_rfl) (fun _ _ _ h => h) (by rfl) (fun w' => ?_) ?_
      · go_simp
      try simp only [List.setIfInBounds_toArray, List.set_cons_zero, List.set_cons_succ]
      refine wpTs_only (i := 26) rfl (by kernel_rfl) (by kernel_rfl) (by rfl) ?_
      go_simp
      refine wpTs_done (by kernel_rfl) ?_ _
      obtain ⟨q, hq⟩ : ∃ q : Rg, q = ⟨max 0 (rlo - by0 % 3), min 100 (rhi + by0 / 3 % 3)⟩ := ⟨_, rfl⟩
      have HWID := hid (show Wid c { c with heaps := c.heaps.set kk q } from wid_heap HGET.out (by rw [hq]; simp only; omega) (by rw [hq]; simp only; omega))
      obtain ⟨wF, hwF⟩ : ∃ w', w' = (wD.setCell ⟨gH, kk * 2, none⟩ (.int .i64 (max 0 (rlo - by0 % 3)))).setCell ⟨gH, kk * 2 + 1, none⟩ (.int .i64 (min 100 (rhi + by0 / 3 % 3))) := ⟨_, rfl⟩
      rw [← hwF]
      have hCH : Chg (fun b => b = gH) wD wF := by rw [hwF]; exact (setCell_chg (A := wD) (g := gH) (i := kk * 2) _).trans (setCell_chg (g := gH) (i := kk * 2 + 1) _)
      have hFs : wD.heap.size ≤ wF.heap.size := hCH.size
      have SF := hid (SD.out.trans (hCH.below (n := X) (by have := (Array.getElem?_eq_some_iff.1 RD.out).1; omega) (fun b hb e => by omega)))
      have RF := hid (row_chg RD.out hCH (by omega))
      have OTF := hid ((OTD.out.chg_ne hCH (fun b hb e => OA10.out gH rfl (by rw [← e]; exact hb))).slLt (fun _ => rfl))
      have hF10 : w10.heap.size ≤ wF.heap.size := by omega
      have OHF := hid (show Rgs (Lt wF.heap.size) wF (.slice (some ⟨gH, 0, none⟩) c.heaps.length kH) (c.heaps.set kk q) by
        have h := Sl.put2 OHD.out encR_length kk hkl q 0 (by decide) (.int .i64 q.lo) (.int .i64 q.hi) rfl rfl (fun i h0 h1 => by
          rw [List.getElem?_eq_none (by simp [encR]; omega), List.getElem?_eq_none (by simp [encR]; omega)])
        rw [hq] at h ⊢
        simp only [Nat.zero_add, Nat.add_zero] at h
        rw [← hwF] at h
        exact h.mono fun b hb => Nat.lt_of_lt_of_le hb.2 hF10)
      have HCX := hid (show CeV (Lt wF.heap.size) wF (.agg #[.slice (some ⟨gH, 0, none⟩) c.heaps.length kH, .slice ka c.casks.length kc, .slice aT c.trials.length kT]) { c with heaps := c.heaps.set kk q } by
        obtain ⟨_, _, _, _, _, _, he, i1, i2, -⟩ := (HCE.out wF (HOLD.out wF SF.out)).open
        cases he
        exact ⟨_, _, _, rfl, OHF.out, i2.le (by have := (HOLD.out wF SF.out).size; omega), OTF.out⟩)
      clear hwF hq hCH f0 f1 y0 y1
      obtain ⟨x, hx⟩ : ∃ x : Ce, x = { c with heaps := c.heaps.set kk q } := ⟨_, rfl⟩
      rw [← hx] at HWID HCX
      clear hx
      have HBF := hid (HOLD.out wF SF.out)
      have hsF := HBF.out.size
      have HFF := hid (Below.refl wF.heap.size wF)
      have lXF : X < wF.heap.size := (Array.getElem?_eq_some_iff.1 RF.out).1
      have HXB := hid (fun w' (hb : Below wF.heap.size wF w') => row_grow RF.out hb : ∀ w', Below wF.heap.size wF w' → w'.heap[X]? = _)
      have HXC := hid (fun w' (hb : Below wF.heap.size wF w') => HCX.out.below hb : ∀ w', Below wF.heap.size wF w' → CeV (Lt wF.heap.size) w' _ x)
      obtain ⟨rx, hrx⟩ : ∃ rx, rx = readyB x := ⟨_, rfl⟩
      have HRX := hid hrx
      clear hrx
      have x0 := cell_of_row RF.out 0
      have x1 := cell_of_row RF.out 1
      have x2 := cell_of_row RF.out 2
      simp only [List.getElem?_toArray, List.getElem?_cons_zero, List.getElem?_cons_succ] at x0 x1 x2
      go_wp2_with fail
      refine (ready_hid x HRX _ wF.heap.size wF (Nat.le_refl _) HCX.out).mono ?_
      rintro e w20 ⟨rfl, hb20⟩
      have HB20 := hid (below_after HBF.out hb20 (Nat.le_refl _))
      have HF20 := hid hb20
      have hs20 := HB20.out.size
      have zHF20 := hb20.size
      clear hb20 x0 x1 x2
      cases rx with
      | false =>
        go_wp2_with (go_at_call 20; refine (awake_any _).mono ?_; rintro e wz ⟨rfl, hbz⟩)
        go_ret
        exact ⟨rfl, hWb.trans ((below_after HB20.out hbz (Nat.le_refl _)).mono (by omega))⟩
      | true =>
        have hfx := ready_fault HRX.out.symm
        have hsx := thin_small (ready_thin HRX.out.symm)
        have HWI := hid (wider_is HWID.out HF.out hfx HSM.out hsx)
        have HSX := hid hsx
        obtain ⟨L, hL⟩ : ∃ L, L = leaveR c := ⟨_, rfl⟩
        obtain ⟨M, hM⟩ : ∃ M, M = leaveR x := ⟨_, rfl⟩
        obtain ⟨bA, hA⟩ : ∃ A, A = heapB c := ⟨_, rfl⟩
        obtain ⟨bB, hB⟩ : ∃ A, A = caskB c := ⟨_, rfl⟩
        obtain ⟨bD, hD⟩ : ∃ A, A = heapB x := ⟨_, rfl⟩
        obtain ⟨bS, hS⟩ : ∃ A, A = caskB x := ⟨_, rfl⟩
        rw [← hL, ← hM, ← hA, ← hB, ← hD, ← hS] at HWI
        clear hfx hsx hL hM hA hB hD hS
        have j0 := cell_of_row (HBOX.out w20 HB20.out) 0
        have j1 := cell_of_row (HBOX.out w20 HB20.out) 1
        have j2 := cell_of_row (HBOX.out w20 HB20.out) 2
        simp only [List.getElem?_toArray, List.getElem?_cons_zero, List.getElem?_cons_succ] at j0 j1 j2
        go_wp2_with fail
        refine (CellarL_any c _ w.heap.size w20 (by omega) (HCE.out w20 HB20.out) HSM.out).mono ?_
        rintro e w21 ⟨v21, rfl, hc21, hb21⟩
        have HB21 := hid (below_after HB20.out hb21 (Nat.le_refl _))
        have hs21 := HB21.out.size
        have hd21 := hb21.size
        have HF21 := hid (below_after HF20.out hb21 (Nat.le_refl _))
        have zHF21 := HF21.out.size
        clear hb21 j0 j1 j2
        obtain ⟨_, _, _, _, _, _, rfl, -⟩ := id hc21.open
        go_wp2_with fail
        refine (HWI.out.leave _ _ w21 (Nat.le_refl _) hc21).mono ?_
        rintro e w22 ⟨v22, rfl, hi22, hb22⟩
        have HB22 := hid (below_after HB21.out hb22 (Nat.le_refl _))
        have hs22 := HB22.out.size
        have hd22 := hb22.size
        have HF22 := hid (below_after HF21.out hb22 (Nat.le_refl _))
        have zHF22 := HF22.out.size
        clear hb22
        obtain ⟨_, _, rfl, -, -⟩ := id hi22.open1
        clear hc21 hi22
        have x0 := cell_of_row (HXB.out w22 HF22.out) 0
        have x1 := cell_of_row (HXB.out w22 HF22.out) 1
        have x2 := cell_of_row (HXB.out w22 HF22.out) 2
        simp only [List.getElem?_toArray, List.getElem?_cons_zero, List.getElem?_cons_succ] at x0 x1 x2
        go_wp2_with fail
        refine (CellarL_any x _ wF.heap.size w22 (by omega) (HXC.out w22 HF22.out) HSX.out).mono ?_
        rintro e w23 ⟨v23, rfl, hc23, hb23⟩
        have HB23 := hid (below_after HB22.out hb23 (Nat.le_refl _))
        have hs23 := HB23.out.size
        have hd23 := hb23.size
        have HF23 := hid (below_after HF22.out hb23 (Nat.le_refl _))
        have zHF23 := HF23.out.size
        clear hb23
        clear x0 x1 x2
        obtain ⟨_, _, _, _, _, _, rfl, -⟩ := id hc23.open
        go_wp2_with fail
        refine (HWI.out.leaveX _ _ w23 (Nat.le_refl _) hc23).mono ?_
        rintro e w24 ⟨v24, rfl, hi24, hb24⟩
        have HB24 := hid (below_after HB23.out hb24 (Nat.le_refl _))
        have hs24 := HB24.out.size
        have hd24 := hb24.size
        have HF24 := hid (below_after HF23.out hb24 (Nat.le_refl _))
        have zHF24 := HF24.out.size
        clear hb24
        obtain ⟨_, _, rfl, -, -⟩ := id hi24.open1
        clear hc23 hi24
        have hle := HWI.out.less
        have hgt : decide ((L.length : Int) < (M.length : Int)) = false := decide_eq_false (by omega)
        have hgt2 : decide (L.length < M.length) = false := decide_eq_false (by omega)
        by_cases hL0 : L.length = 0
        · have hLn : L = [] := List.length_eq_zero_iff.1 hL0
          have hd0 : decide ((0 : Int) < (L.length : Int)) = false := decide_eq_false (by omega)
          have hd1 : decide (0 < L.length) = false := decide_eq_false (by omega)
          obtain ⟨b1, b2, i1, i2, l1, l2⟩ := HWI.out.bounds hLn
          have HB1' := hid b1
          have HB2' := hid b2
          have HI1 := hid i1
          have HI2 := hid i2
          clear b1 b2 i1 i2 hLn
          have j0 := cell_of_row (HBOX.out w24 HB24.out) 0
          have j1 := cell_of_row (HBOX.out w24 HB24.out) 1
          have j2 := cell_of_row (HBOX.out w24 HB24.out) 2
          simp only [List.getElem?_toArray, List.getElem?_cons_zero, List.getElem?_cons_succ] at j0 j1 j2
          go_wp2_with fail
          refine (CellarL_any c _ w.heap.size w24 (by omega) (HCE.out w24 HB24.out) HSM.out).mono ?_
          rintro e w25 ⟨v25, rfl, hc25, hb25⟩
          have HB25 := hid (below_after HB24.out hb25 (Nat.le_refl _))
          have hs25 := HB25.out.size
          have hd25 := hb25.size
          have HF25 := hid (below_after HF24.out hb25 (Nat.le_refl _))
          have zHF25 := HF25.out.size
          clear hb25 j0 j1 j2
          obtain ⟨_, _, _, _, _, _, rfl, -⟩ := id hc25.open
          go_wp2_with fail
          refine (HB1'.out _ _ w25 (Nat.le_refl _) hc25).mono ?_
          rintro e w26 ⟨v26, u26, rfl, hx26, hy26, hb26⟩
          have HB26 := hid (below_after HB25.out hb26 (Nat.le_refl _))
          have hs26 := HB26.out.size
          have hd26 := hb26.size
          have HF26 := hid (below_after HF25.out hb26 (Nat.le_refl _))
          have zHF26 := HF26.out.size
          clear hb26
          obtain ⟨_, _, rfl, -, -⟩ := id hx26.at
          obtain ⟨_, _, rfl, -, -⟩ := id hy26.at
          have HX26 := hid hx26
          have HY26 := hid hy26
          have HL26 := hid (Below.refl w26.heap.size w26)
          clear hc25 hx26 hy26
          have x0 := cell_of_row (HXB.out w26 HF26.out) 0
          have x1 := cell_of_row (HXB.out w26 HF26.out) 1
          have x2 := cell_of_row (HXB.out w26 HF26.out) 2
          simp only [List.getElem?_toArray, List.getElem?_cons_zero, List.getElem?_cons_succ] at x0 x1 x2
          go_wp2_with fail
          refine (CellarL_any x _ wF.heap.size w26 (by omega) (HXC.out w26 HF26.out) HSX.out).mono ?_
          rintro e w27 ⟨v27, rfl, hc27, hb27⟩
          have HB27 := hid (below_after HB26.out hb27 (Nat.le_refl _))
          have hs27 := HB27.out.size
          have hd27 := hb27.size
          have HF27 := hid (below_after HF26.out hb27 (Nat.le_refl _))
          have zHF27 := HF27.out.size
          have HL27 := hid (below_after HL26.out hb27 (Nat.le_refl _))
          have zHL27 := HL27.out.size
          clear hb27
          clear x0 x1 x2
          obtain ⟨_, _, _, _, _, _, rfl, -⟩ := id hc27.open
          go_wp2_with fail
          refine (HB2'.out _ _ w27 (Nat.le_refl _) hc27).mono ?_
          rintro e w28 ⟨v28, u28, rfl, hx28, hy28, hb28⟩
          have HB28 := hid (below_after HB27.out hb28 (Nat.le_refl _))
          have hs28 := HB28.out.size
          have hd28 := hb28.size
          have HF28 := hid (below_after HF27.out hb28 (Nat.le_refl _))
          have zHF28 := HF28.out.size
          have HL28 := hid (below_after HL27.out hb28 (Nat.le_refl _))
          have zHL28 := HL28.out.size
          clear hb28
          obtain ⟨_, _, rfl, -, -⟩ := id hx28.at
          obtain ⟨_, _, rfl, -, -⟩ := id hy28.at
          have HX28 := hid hx28
          have HY28 := hid hy28
          have HM28 := hid (Below.refl w28.heap.size w28)
          clear hc27 hx28 hy28
          go_wp2_with fail
          refine (inside_ok bA bD HI1.out l1 _ _ w28.heap.size w28 (Nat.le_refl _) ((HX26.out.below HL28.out).le (by omega)) HX28.out).mono ?_
          rintro e w29 ⟨rfl, hb29⟩
          have HB29 := hid (below_after HB28.out hb29 (Nat.le_refl _))
          have hs29 := HB29.out.size
          have hd29 := hb29.size
          have HF29 := hid (below_after HF28.out hb29 (Nat.le_refl _))
          have zHF29 := HF29.out.size
          have HL29 := hid (below_after HL28.out hb29 (Nat.le_refl _))
          have zHL29 := HL29.out.size
          have HM29 := hid (below_after HM28.out hb29 (Nat.le_refl _))
          have zHM29 := HM29.out.size
          clear hb29
          go_wp2_with fail
          refine (inside_ok bB bS HI2.out l2 _ _ w28.heap.size w29 (by omega) ((HY26.out.below HL29.out).le (by omega)) (HY28.out.below HM29.out)).mono ?_
          rintro e w30 ⟨rfl, hb30⟩
          have HB30 := hid (below_after HB29.out hb30 (Nat.le_refl _))
          have hs30 := HB30.out.size
          have hd30 := hb30.size
          have HF30 := hid (below_after HF29.out hb30 (Nat.le_refl _))
          have zHF30 := HF30.out.size
          have HL30 := hid (below_after HL29.out hb30 (Nat.le_refl _))
          have zHL30 := HL30.out.size
          have HM30 := hid (below_after HM29.out hb30 (Nat.le_refl _))
          have zHM30 := HM30.out.size
          clear hb30
          go_wp2_with (go_at_call 20; refine (awake_any _).mono ?_; rintro e wz ⟨rfl, hbz⟩)
          go_ret
          exact ⟨rfl, hWb.trans ((below_after HB30.out hbz (Nat.le_refl _)).mono (by omega))⟩
        · have hd0 : decide ((0 : Int) < (L.length : Int)) = true := decide_eq_true (by omega)
          have hd1 : decide (0 < L.length) = true := decide_eq_true (by omega)
          go_wp2_with (go_at_call 20; refine (awake_any _).mono ?_; rintro e wz ⟨rfl, hbz⟩)
          go_ret
          exact ⟨rfl, hWb.trans ((below_after HB24.out hbz (Nat.le_refl _)).mono (by omega))⟩
    · have hd : decide (a % ((c.heaps.length : Int) + c.trials.length) < (c.heaps.length : Int)) = false := decide_eq_false hlt
      have hw2 : IntKind.i64.wrap (a % ((c.heaps.length : Int) + c.trials.length) - c.heaps.length) = a % ((c.heaps.length : Int) + c.trials.length) - c.heaps.length := IntWalk.i64_in _ (by omega)
      have hkl2 : c.heaps.length ≤ kk ∧ kk < c.heaps.length + c.trials.length := by omega
      rcases HFW.out.ot.2 with ⟨-, hn⟩ | ⟨gT, capT, curT, heT, hgY, hgT, -⟩
      · omega
      injection heT with heT _ heK
      subst heT; subst heK
      clear hkk
      go_wp2
      simp only [HKK.out, Int.toNat_natCast]
      obtain ⟨jj, hjj⟩ : ∃ jj, jj = kk - c.heaps.length := ⟨_, rfl⟩
      rw [← hjj]
      have hjl : jj < c.trials.length := by omega
      clear hjj
      obtain ⟨w10, hw10⟩ : ∃ w', w' = w9.alloc (Obj.cells #[.int .i64 0, .int .i64 0] 66) := ⟨_, rfl⟩
      have hb10 : Below w9.heap.size w9 w10 := by rw [hw10]; exact below_alloc1 (Nat.le_refl _) _
      rw [← hw10]
      have R10 := hid (row_grow HFW.out.row hb10)
      have S10 := hid (HFW.out.below.trans (hb10.mono (by omega)))
      have OT10 := hid ((HFW.out.ot.below hb10).slIn (fun _ => rfl))
      have OH10 := hid (HFW.out.oh.below hb10)
      have OA10 := hid ((HFW.out.ot.below hb10).apart OH10.out (by decide))
      have HBW := hid hb10
      clear hw10 hb10
      have hg10 := row_grow hgT HBW.out
      have hcell : w10.cell? ⟨gT, jj * 4 + 2, none⟩ = some (.int .i64 c.trials[jj].s.lo) ∧ w10.cell? ⟨gT, jj * 4 + 3, none⟩ = some (.int .i64 c.trials[jj].s.hi) := by
        obtain ⟨_, _, he, -, hor⟩ := OT10.out.open4
        injection he with he
        rcases hor with h0 | ⟨b, off, e, -, hcc⟩
        · rw [h0] at hjl; simp at hjl
        · rw [e] at he
          injection he with he
          injection he with e1 e2
          subst e1; subst e2
          simpa using (hcc jj hjl).2.2
      obtain ⟨y0, y1⟩ := hcell
      have hrb := HGT.out c.trials[jj] (List.getElem_mem _)
      have HGET := hid (show c.trials[jj]? = some c.trials[jj] from List.getElem?_eq_getElem hjl)
      generalize c.trials[jj] = t at *
      obtain ⟨tcb, tnum, rlo, rhi⟩ := t
      simp only at y0 y1 hrb
      have hwb : IntKind.i64.wrap by0 = by0 := IntWalk.i64_in _ (by omega)
      have hm3 : 0 ≤ by0 % 3 ∧ by0 % 3 ≤ 2 := by omega
      have hm4 : 0 ≤ by0 / 3 % 3 ∧ by0 / 3 % 3 ≤ 2 := by omega
      refine wp_region_ts (by kernel_rfl) [23, 26] (fun w' => w'.cell? ⟨gT, jj * 4 + 2, none⟩ = some (.int .i64 rlo) ∧ w'.cell? ⟨gT, jj * 4 + 3, none⟩ = some (.int .i64 rhi)) ?_
      obtain ⟨wD, hwD⟩ : ∃ w', w' = w10.drew := ⟨_, rfl⟩
      have hbD : Below w10.heap.size w10 wD := by rw [hwD]; exact (Below.refl _ _).drew
      have hzD := hbD.size
      have hS0 : (fun w' : World => w'.cell? ⟨gT, jj * 4 + 2, none⟩ = some (.int .i64 rlo) ∧ w'.cell? ⟨gT, jj * 4 + 3, none⟩ = some (.int .i64 rhi)) wD := by rw [hwD]; exact ⟨y0, y1⟩
      have RD := hid (row_grow R10.out hbD)
      have GD := hid (row_grow hg10 hbD)
      have SD := hid (S10.out.trans (hbD.mono (by have := S10.out.size; omega)))
      have OTD := hid (OT10.out.keep (w' := wD) ⟨hbD.size, fun b hb => hbD.block b hb.2⟩)
      have OHD := hid (OH10.out.below hbD)
      rw [← hwD]
      clear hwD hbD y0 y1 hg10
      refine wpTs_pure (i := 0) (v := .pointer (some ⟨gT, jj * 4 + 2, none⟩)) rfl rfl (by kernel_rfl) (by kernel_rfl) (by kernel_rfl) (fun _ _ _ h => h) (by rfl) (fun w' => ?_) ?_
      · go_simp
      try simp only [List.setIfInBounds_toArray, List.set_cons_zero, List.set_cons_succ]
      refine wpTs_pure (i := 1) (v := .pointer (some ⟨gT, jj * 4 + 2, none⟩)) rfl rfl (by kernel_rfl) (by kernel_rfl) (by kernel_rfl) (fun _ _ _ h => h) (by rfl) (fun w' => ?_) ?_
      · go_simp
      try simp only [List.setIfInBounds_toArray, List.set_cons_zero, List.set_cons_succ]
      refine wpTs_pure (i := 2) (v := .pointer (some ⟨gT, jj * 4 + 2, none⟩)) rfl rfl (by kernel_rfl) (by kernel_rfl) (by kernel_rfl) (fun _ _ _ h => h) (by rfl) (fun w' => ?_) ?_
      · go_simp
      try simp only [List.setIfInBounds_toArray, List.set_cons_zero, List.set_cons_succ]
      refine wpTs_pure (i := 3) (v := .pointer (some ⟨gT, jj * 4 + 2, none⟩)) rfl rfl (by kernel_rfl) (by kernel_rfl) (by kernel_rfl) (fun _ _ _ h => h) (by rfl) (fun w' => ?_) ?_
      · go_simp
      try simp only [List.setIfInBounds_toArray, List.set_cons_zero, List.set_cons_succ]
      refine wpTs_pure (i := 4) (v := .pointer (some ⟨gT, jj * 4 + 2, none⟩)) rfl rfl (by kernel_rfl) (by kernel_rfl) (by kernel_rfl) (fun _ _ _ h => h) (by rfl) (fun w' => ?_) ?_
      · go_simp
      try simp only [List.setIfInBounds_toArray, List.set_cons_zero, List.set_cons_succ]
      refine wpTs_take (i := 5) (v := .int .i64 rlo) rfl rfl (by kernel_rfl) (by kernel_rfl) (by kernel_rfl) (by kernel_rfl) (fun _ _ _ h => h) (by rfl) (fun w' hS' => ?_) hS0 ?_
      · obtain ⟨s0, s1⟩ := hS'; go_simp
      try simp only [List.setIfInBounds_toArray, List.set_cons_zero, List.set_cons_succ]
      refine wpTs_pure (i := 6) (v := .int .u8 by0) rfl rfl (by kernel_rfl) (by kernel_rfl) (by kernel_rfl) (fun _ _ _ h => h) (by rfl) (fun w' => ?_) ?_
      · go_simp
      try simp only [List.setIfInBounds_toArray, List.set_cons_zero, List.set_cons_succ]
      refine wpTs_pure (i := 7) (v := .int .i64 by0) rfl rfl (by kernel_rfl) (by kernel_rfl) (by kernel_rfl) (fun _ _ _ h => h) (by rfl) (fun w' => ?_) ?_
      · go_simp
      try simp only [List.setIfInBounds_toArray, List.set_cons_zero, List.set_cons_succ]
      refine wpTs_pure (i := 8) (v := .int .i64 (by0 % 3)) rfl rfl (by kernel_rfl) (by kernel_rfl) (by kernel_rfl) (fun _ _ _ h => h) (by rfl) (fun w' => ?_) ?_
      · go_simp; exact Int.tmod_eq_emod_of_nonneg (by omega)
      try simp only [List.setIfInBounds_toArray, List.set_cons_zero, List.set_cons_succ]
      refine wpTs_pure (i := 9) (v := .int .i64 (rlo - by0 % 3)) rfl rfl (by kernel_rfl) (by kernel_rfl) (by kernel_rfl) (fun _ _ _ h => h) (by rfl) (fun w' => ?_) ?_
      · go_simp; exact IntWalk.i64_in _ (by omega)
      try simp only [List.setIfInBounds_toArray, List.set_cons_zero, List.set_cons_succ]
      refine wpTs_pure (i := 10) (v := .int .i64 (max 0 (rlo - by0 % 3))) rfl rfl (by kernel_rfl) (by kernel_rfl) (by kernel_rfl) (fun _ _ _ h => h) (by rfl) (fun w' => ?_) ?_
      · go_simp; (split <;> omega)
      try simp only [List.setIfInBounds_toArray, List.set_cons_zero, List.set_cons_succ]
      refine wpTs_pure (i := 11) (v := .pointer (some ⟨gT, jj * 4 + 2, none⟩)) rfl rfl (by kernel_rfl) (by kernel_rfl) (by kernel_rfl) (fun _ _ _ h => h) (by rfl) (fun w' => ?_) ?_
      · go_simp
      try simp only [List.setIfInBounds_toArray, List.set_cons_zero, List.set_cons_succ]
      refine wpTs_pure (i := 12) (v := .pointer (some ⟨gT, jj * 4 + 2, none⟩)) rfl rfl (by kernel_rfl) (by kernel_rfl) (by kernel_rfl) (fun _ _ _ h => h) (by rfl) (fun w' => ?_) ?_
      · go_simp
      try simp only [List.setIfInBounds_toArray, List.set_cons_zero, List.set_cons_succ]
      refine wpTs_pure (i := 13) (v := .pointer (some ⟨gT, jj * 4 + 3, none⟩)) rfl rfl (by kernel_rfl) (by kernel_rfl) (by kernel_rfl) (fun _ _ _ h => h) (by rfl) (fun w' => ?_) ?_
      · go_simp
      try simp only [List.setIfInBounds_toArray, List.set_cons_zero, List.set_cons_succ]
      refine wpTs_take (i := 14) (v := .int .i64 rhi) rfl rfl (by kernel_rfl) (by kernel_rfl) (by kernel_rfl) (by kernel_rfl) (fun _ _ _ h => h) (by rfl) (fun w' hS' => ?_) hS0 ?_
      · obtain ⟨s0, s1⟩ := hS'; go_simp
      try simp only [List.setIfInBounds_toArray, List.set_cons_zero, List.set_cons_succ]
      refine wpTs_pure (i := 15) (v := .int .u8 by0) rfl rfl (by kernel_rfl) (by kernel_rfl) (by kernel_rfl) (fun _ _ _ h => h) (by rfl) (fun w' => ?_) ?_
      · go_simp
      try simp only [List.setIfInBounds_toArray, List.set_cons_zero, List.set_cons_succ]
      refine wpTs_pure (i := 16) (v := .int .i64 by0) rfl rfl (by kernel_rfl) (by kernel_rfl) (by kernel_rfl) (fun _ _ _ h => h) (by rfl) (fun w' => ?_) ?_
      · go_simp
      try simp only [List.setIfInBounds_toArray, List.set_cons_zero, List.set_cons_succ]
      refine wpTs_pure (i := 17) (v := .int .i64 (by0 / 3)) rfl rfl (by kernel_rfl) (by kernel_rfl) (by kernel_rfl) (fun _ _ _ h => h) (by rfl) (fun w' => ?_) ?_
      · go_simp; (rw [Int.tdiv_eq_ediv_of_nonneg (by omega)]; exact IntWalk.i64_in _ (by omega))
      try simp only [List.setIfInBounds_toArray, List.set_cons_zero, List.set_cons_succ]
      refine wpTs_pure (i := 18) (v := .int .i64 (by0 / 3 % 3)) rfl rfl (by kernel_rfl) (by kernel_rfl) (by kernel_rfl) (fun _ _ _ h => h) (by rfl) (fun w' => ?_) ?_
      · go_simp; exact Int.tmod_eq_emod_of_nonneg (by omega)
      try simp only [List.setIfInBounds_toArray, List.set_cons_zero, List.set_cons_succ]
      refine wpTs_pure (i := 19) (v := .int .i64 (rhi + by0 / 3 % 3)) rfl rfl (by kernel_rfl) (by kernel_rfl) (by kernel_rfl) (fun _ _ _ h => h) (by rfl) (fun w' => ?_) ?_
      · go_simp; exact IntWalk.i64_in _ (by omega)
      try simp only [List.setIfInBounds_toArray, List.set_cons_zero, List.set_cons_succ]
      refine wpTs_pure (i := 20) (v := .int .i64 (min 100 (rhi + by0 / 3 % 3))) rfl rfl (by kernel_rfl) (by kernel_rfl) (by kernel_rfl) (fun _ _ _ h => h) (by rfl) (fun w' => ?_) ?_
      · go_simp; (split <;> omega)
      try simp only [List.setIfInBounds_toArray, List.set_cons_zero, List.set_cons_succ]
      refine wpTs_pure (i := 21) (v := .pointer (some ⟨gT, jj * 4 + 2, none⟩)) rfl rfl (by kernel_rfl) (by kernel_rfl) (by kernel_rfl) (fun _ _ _ h => h) (by rfl) (fun w' => ?_) ?_
      · go_simp
      try simp only [List.setIfInBounds_toArray, List.set_cons_zero, List.set_cons_succ]
      refine wpTs_pure (i := 22) (v := .pointer (some ⟨gT, jj * 4 + 2, none⟩)) rfl rfl (by kernel_rfl) (by kernel_rfl) (by kernel_rfl) (fun _ _ _ h => h) (by rfl) (fun w' => ?_) ?_
      · go_simp
      try simp only [List.setIfInBounds_toArray, List.set_cons_zero, List.set_cons_succ]
      have f0 := frozen_of_row GD.out (jj * 4 + 2)
      have f1 := frozen_of_row GD.out (jj * 4 + 3)
      have y0 := hS0.1
      have y1 := hS0.2
      clear hS0
      refine wpTs_only (i := 23) rfl (by kernel_rfl) (by kernel_rfl) (by rfl) ?_
      go_simp
      try simp only [List.setIfInBounds_toArray, List.set_cons_zero, List.set_cons_succ]
      refine wpTs_pure (i := 24) (v := .pointer (some ⟨gT, jj * 4 + 2, none⟩)) rfl rfl (by kernel_rfl) (by kernel_rfl) (by kernel_rfl) (fun _ _ _ h => h) (by rfl) (fun w' => ?_) ?_
      · go_simp
      try simp only [List.setIfInBounds_toArray, List.set_cons_zero, List.set_cons_succ]
      refine wpTs_pure (i := 25) (v := .pointer (some ⟨gT, jj * 4 + 3, none⟩)) rfl rfl (by kernel_rfl) (by kernel_rfl) (by kernel_rfl) (fun _ _ _ h => h) (by rfl) (fun w' => ?_) ?_
      · go_simp
      try simp only [List.setIfInBounds_toArray, List.set_cons_zero, List.set_cons_succ]
      refine wpTs_only (i := 26) rfl (by kernel_rfl) (by kernel_rfl) (by rfl) ?_
      go_simp
      refine wpTs_done (by kernel_rfl) ?_ _
      obtain ⟨q, hq⟩ : ∃ q : Rg, q = ⟨max 0 (rlo - by0 % 3), min 100 (rhi + by0 / 3 % 3)⟩ := ⟨_, rfl⟩
      have HWID := hid (show Wid c { c with trials := c.trials.set jj ⟨tcb, tnum, q⟩ } from wid_trial HGET.out (by rw [hq]; simp only; omega) (by rw [hq]; simp only; omega))
      obtain ⟨wF, hwF⟩ : ∃ w', w' = (wD.setCell ⟨gT, jj * 4 + 2, none⟩ (.int .i64 (max 0 (rlo - by0 % 3)))).setCell ⟨gT, jj * 4 + 3, none⟩ (.int .i64 (min 100 (rhi + by0 / 3 % 3))) := ⟨_, rfl⟩
      rw [← hwF]
      have hCH : Chg (fun b => b = gT) wD wF := by rw [hwF]; exact (setCell_chg (A := wD) (g := gT) (i := jj * 4 + 2) _).trans (setCell_chg (g := gT) (i := jj * 4 + 3) _)
      have hFs : wD.heap.size ≤ wF.heap.size := hCH.size
      have SF := hid (SD.out.trans (hCH.below (n := X) (by have := (Array.getElem?_eq_some_iff.1 RD.out).1; omega) (fun b hb e => by omega)))
      have RF := hid (row_chg RD.out hCH (by omega))
      have OHF := hid ((OHD.out.chg_ne hCH (fun b hb e => OA10.out gT rfl (by rw [← e]; exact hb))).slLt encR_length)
      have hF10 : w10.heap.size ≤ wF.heap.size := by omega
      have OTF := hid (show Tls (Lt wF.heap.size) wF (.slice (some ⟨gT, 0, none⟩) c.trials.length kT) (c.trials.set jj ⟨tcb, tnum, q⟩) by
        have hgt := (List.getElem?_eq_some_iff.1 HGET.out).2
        have h := Sl.put2 OTD.out (fun _ => rfl) jj hjl ⟨tcb, tnum, q⟩ 2 (by decide) (.int .i64 q.lo) (.int .i64 q.hi) rfl rfl (fun i h0 h1 => by
          rw [hgt]
          match i, h0, h1 with
          | 0, _, _ => rfl
          | 1, _, _ => rfl
          | i + 4, _, _ => rfl)
        rw [hq] at h ⊢
        simp only [Nat.zero_add] at h
        rw [← hwF] at h
        exact h.mono fun b hb => Nat.lt_of_lt_of_le hb.2 hF10)
      have HCX := hid (show CeV (Lt wF.heap.size) wF (.agg #[.slice (some ⟨gH, 0, none⟩) c.heaps.length kH, .slice ka c.casks.length kc, .slice (some ⟨gT, 0, none⟩) c.trials.length kT]) { c with trials := c.trials.set jj ⟨tcb, tnum, q⟩ } by
        obtain ⟨_, _, _, _, _, _, he, i1, i2, -⟩ := (HCE.out wF (HOLD.out wF SF.out)).open
        cases he
        exact ⟨_, _, _, rfl, OHF.out, i2.le (by have := (HOLD.out wF SF.out).size; omega), OTF.out⟩)
      clear hwF hq hCH f0 f1 y0 y1
      obtain ⟨x, hx⟩ : ∃ x : Ce, x = { c with trials := c.trials.set jj ⟨tcb, tnum, q⟩ } := ⟨_, rfl⟩
      rw [← hx] at HWID HCX
      clear hx
      have HBF := hid (HOLD.out wF SF.out)
      have hsF := HBF.out.size
      have HFF := hid (Below.refl wF.heap.size wF)
      have lXF : X < wF.heap.size := (Array.getElem?_eq_some_iff.1 RF.out).1
      have HXB := hid (fun w' (hb : Below wF.heap.size wF w') => row_grow RF.out hb : ∀ w', Below wF.heap.size wF w' → w'.heap[X]? = _)
      have HXC := hid (fun w' (hb : Below wF.heap.size wF w') => HCX.out.below hb : ∀ w', Below wF.heap.size wF w' → CeV (Lt wF.heap.size) w' _ x)
      obtain ⟨rx, hrx⟩ : ∃ rx, rx = readyB x := ⟨_, rfl⟩
      have HRX := hid hrx
      clear hrx
      have x0 := cell_of_row RF.out 0
      have x1 := cell_of_row RF.out 1
      have x2 := cell_of_row RF.out 2
      simp only [List.getElem?_toArray, List.getElem?_cons_zero, List.getElem?_cons_succ] at x0 x1 x2
      go_wp2_with fail
      refine (ready_hid x HRX _ wF.heap.size wF (Nat.le_refl _) HCX.out).mono ?_
      rintro e w20 ⟨rfl, hb20⟩
      have HB20 := hid (below_after HBF.out hb20 (Nat.le_refl _))
      have HF20 := hid hb20
      have hs20 := HB20.out.size
      have zHF20 := hb20.size
      clear hb20 x0 x1 x2
      cases rx with
      | false =>
        go_wp2_with (go_at_call 20; refine (awake_any _).mono ?_; rintro e wz ⟨rfl, hbz⟩)
        go_ret
        exact ⟨rfl, hWb.trans ((below_after HB20.out hbz (Nat.le_refl _)).mono (by omega))⟩
      | true =>
        have hfx := ready_fault HRX.out.symm
        have hsx := thin_small (ready_thin HRX.out.symm)
        have HWI := hid (wider_is HWID.out HF.out hfx HSM.out hsx)
        have HSX := hid hsx
        obtain ⟨L, hL⟩ : ∃ L, L = leaveR c := ⟨_, rfl⟩
        obtain ⟨M, hM⟩ : ∃ M, M = leaveR x := ⟨_, rfl⟩
        obtain ⟨bA, hA⟩ : ∃ A, A = heapB c := ⟨_, rfl⟩
        obtain ⟨bB, hB⟩ : ∃ A, A = caskB c := ⟨_, rfl⟩
        obtain ⟨bD, hD⟩ : ∃ A, A = heapB x := ⟨_, rfl⟩
        obtain ⟨bS, hS⟩ : ∃ A, A = caskB x := ⟨_, rfl⟩
        rw [← hL, ← hM, ← hA, ← hB, ← hD, ← hS] at HWI
        clear hfx hsx hL hM hA hB hD hS
        have j0 := cell_of_row (HBOX.out w20 HB20.out) 0
        have j1 := cell_of_row (HBOX.out w20 HB20.out) 1
        have j2 := cell_of_row (HBOX.out w20 HB20.out) 2
        simp only [List.getElem?_toArray, List.getElem?_cons_zero, List.getElem?_cons_succ] at j0 j1 j2
        go_wp2_with fail
        refine (CellarL_any c _ w.heap.size w20 (by omega) (HCE.out w20 HB20.out) HSM.out).mono ?_
        rintro e w21 ⟨v21, rfl, hc21, hb21⟩
        have HB21 := hid (below_after HB20.out hb21 (Nat.le_refl _))
        have hs21 := HB21.out.size
        have hd21 := hb21.size
        have HF21 := hid (below_after HF20.out hb21 (Nat.le_refl _))
        have zHF21 := HF21.out.size
        clear hb21 j0 j1 j2
        obtain ⟨_, _, _, _, _, _, rfl, -⟩ := id hc21.open
        go_wp2_with fail
        refine (HWI.out.leave _ _ w21 (Nat.le_refl _) hc21).mono ?_
        rintro e w22 ⟨v22, rfl, hi22, hb22⟩
        have HB22 := hid (below_after HB21.out hb22 (Nat.le_refl _))
        have hs22 := HB22.out.size
        have hd22 := hb22.size
        have HF22 := hid (below_after HF21.out hb22 (Nat.le_refl _))
        have zHF22 := HF22.out.size
        clear hb22
        obtain ⟨_, _, rfl, -, -⟩ := id hi22.open1
        clear hc21 hi22
        have x0 := cell_of_row (HXB.out w22 HF22.out) 0
        have x1 := cell_of_row (HXB.out w22 HF22.out) 1
        have x2 := cell_of_row (HXB.out w22 HF22.out) 2
        simp only [List.getElem?_toArray, List.getElem?_cons_zero, List.getElem?_cons_succ] at x0 x1 x2
        go_wp2_with fail
        refine (CellarL_any x _ wF.heap.size w22 (by omega) (HXC.out w22 HF22.out) HSX.out).mono ?_
        rintro e w23 ⟨v23, rfl, hc23, hb23⟩
        have HB23 := hid (below_after HB22.out hb23 (Nat.le_refl _))
        have hs23 := HB23.out.size
        have hd23 := hb23.size
        have HF23 := hid (below_after HF22.out hb23 (Nat.le_refl _))
        have zHF23 := HF23.out.size
        clear hb23
        clear x0 x1 x2
        obtain ⟨_, _, _, _, _, _, rfl, -⟩ := id hc23.open
        go_wp2_with fail
        refine (HWI.out.leaveX _ _ w23 (Nat.le_refl _) hc23).mono ?_
        rintro e w24 ⟨v24, rfl, hi24, hb24⟩
        have HB24 := hid (below_after HB23.out hb24 (Nat.le_refl _))
        have hs24 := HB24.out.size
        have hd24 := hb24.size
        have HF24 := hid (below_after HF23.out hb24 (Nat.le_refl _))
        have zHF24 := HF24.out.size
        clear hb24
        obtain ⟨_, _, rfl, -, -⟩ := id hi24.open1
        clear hc23 hi24
        have hle := HWI.out.less
        have hgt : decide ((L.length : Int) < (M.length : Int)) = false := decide_eq_false (by omega)
        have hgt2 : decide (L.length < M.length) = false := decide_eq_false (by omega)
        by_cases hL0 : L.length = 0
        · have hLn : L = [] := List.length_eq_zero_iff.1 hL0
          have hd0 : decide ((0 : Int) < (L.length : Int)) = false := decide_eq_false (by omega)
          have hd1 : decide (0 < L.length) = false := decide_eq_false (by omega)
          obtain ⟨b1, b2, i1, i2, l1, l2⟩ := HWI.out.bounds hLn
          have HB1' := hid b1
          have HB2' := hid b2
          have HI1 := hid i1
          have HI2 := hid i2
          clear b1 b2 i1 i2 hLn
          have j0 := cell_of_row (HBOX.out w24 HB24.out) 0
          have j1 := cell_of_row (HBOX.out w24 HB24.out) 1
          have j2 := cell_of_row (HBOX.out w24 HB24.out) 2
          simp only [List.getElem?_toArray, List.getElem?_cons_zero, List.getElem?_cons_succ] at j0 j1 j2
          go_wp2_with fail
          refine (CellarL_any c _ w.heap.size w24 (by omega) (HCE.out w24 HB24.out) HSM.out).mono ?_
          rintro e w25 ⟨v25, rfl, hc25, hb25⟩
          have HB25 := hid (below_after HB24.out hb25 (Nat.le_refl _))
          have hs25 := HB25.out.size
          have hd25 := hb25.size
          have HF25 := hid (below_after HF24.out hb25 (Nat.le_refl _))
          have zHF25 := HF25.out.size
          clear hb25 j0 j1 j2
          obtain ⟨_, _, _, _, _, _, rfl, -⟩ := id hc25.open
          go_wp2_with fail
          refine (HB1'.out _ _ w25 (Nat.le_refl _) hc25).mono ?_
          rintro e w26 ⟨v26, u26, rfl, hx26, hy26, hb26⟩
          have HB26 := hid (below_after HB25.out hb26 (Nat.le_refl _))
          have hs26 := HB26.out.size
          have hd26 := hb26.size
          have HF26 := hid (below_after HF25.out hb26 (Nat.le_refl _))
          have zHF26 := HF26.out.size
          clear hb26
          obtain ⟨_, _, rfl, -, -⟩ := id hx26.at
          obtain ⟨_, _, rfl, -, -⟩ := id hy26.at
          have HX26 := hid hx26
          have HY26 := hid hy26
          have HL26 := hid (Below.refl w26.heap.size w26)
          clear hc25 hx26 hy26
          have x0 := cell_of_row (HXB.out w26 HF26.out) 0
          have x1 := cell_of_row (HXB.out w26 HF26.out) 1
          have x2 := cell_of_row (HXB.out w26 HF26.out) 2
          simp only [List.getElem?_toArray, List.getElem?_cons_zero, List.getElem?_cons_succ] at x0 x1 x2
          go_wp2_with fail
          refine (CellarL_any x _ wF.heap.size w26 (by omega) (HXC.out w26 HF26.out) HSX.out).mono ?_
          rintro e w27 ⟨v27, rfl, hc27, hb27⟩
          have HB27 := hid (below_after HB26.out hb27 (Nat.le_refl _))
          have hs27 := HB27.out.size
          have hd27 := hb27.size
          have HF27 := hid (below_after HF26.out hb27 (Nat.le_refl _))
          have zHF27 := HF27.out.size
          have HL27 := hid (below_after HL26.out hb27 (Nat.le_refl _))
          have zHL27 := HL27.out.size
          clear hb27
          clear x0 x1 x2
          obtain ⟨_, _, _, _, _, _, rfl, -⟩ := id hc27.open
          go_wp2_with fail
          refine (HB2'.out _ _ w27 (Nat.le_refl _) hc27).mono ?_
          rintro e w28 ⟨v28, u28, rfl, hx28, hy28, hb28⟩
          have HB28 := hid (below_after HB27.out hb28 (Nat.le_refl _))
          have hs28 := HB28.out.size
          have hd28 := hb28.size
          have HF28 := hid (below_after HF27.out hb28 (Nat.le_refl _))
          have zHF28 := HF28.out.size
          have HL28 := hid (below_after HL27.out hb28 (Nat.le_refl _))
          have zHL28 := HL28.out.size
          clear hb28
          obtain ⟨_, _, rfl, -, -⟩ := id hx28.at
          obtain ⟨_, _, rfl, -, -⟩ := id hy28.at
          have HX28 := hid hx28
          have HY28 := hid hy28
          have HM28 := hid (Below.refl w28.heap.size w28)
          clear hc27 hx28 hy28
          go_wp2_with fail
          refine (inside_ok bA bD HI1.out l1 _ _ w28.heap.size w28 (Nat.le_refl _) ((HX26.out.below HL28.out).le (by omega)) HX28.out).mono ?_
          rintro e w29 ⟨rfl, hb29⟩
          have HB29 := hid (below_after HB28.out hb29 (Nat.le_refl _))
          have hs29 := HB29.out.size
          have hd29 := hb29.size
          have HF29 := hid (below_after HF28.out hb29 (Nat.le_refl _))
          have zHF29 := HF29.out.size
          have HL29 := hid (below_after HL28.out hb29 (Nat.le_refl _))
          have zHL29 := HL29.out.size
          have HM29 := hid (below_after HM28.out hb29 (Nat.le_refl _))
          have zHM29 := HM29.out.size
          clear hb29
          go_wp2_with fail
          refine (inside_ok bB bS HI2.out l2 _ _ w28.heap.size w29 (by omega) ((HY26.out.below HL29.out).le (by omega)) (HY28.out.below HM29.out)).mono ?_
          rintro e w30 ⟨rfl, hb30⟩
          have HB30 := hid (below_after HB29.out hb30 (Nat.le_refl _))
          have hs30 := HB30.out.size
          have hd30 := hb30.size
          have HF30 := hid (below_after HF29.out hb30 (Nat.le_refl _))
          have zHF30 := HF30.out.size
          have HL30 := hid (below_after HL29.out hb30 (Nat.le_refl _))
          have zHL30 := HL30.out.size
          have HM30 := hid (below_after HM29.out hb30 (Nat.le_refl _))
          have zHM30 := HM30.out.size
          clear hb30
          go_wp2_with (go_at_call 20; refine (awake_any _).mono ?_; rintro e wz ⟨rfl, hbz⟩)
          go_ret
          exact ⟨rfl, hWb.trans ((below_after HB30.out hbz (Nat.le_refl _)).mono (by omega))⟩
        · have hd0 : decide ((0 : Int) < (L.length : Int)) = true := decide_eq_true (by omega)
          have hd1 : decide (0 < L.length) = true := decide_eq_true (by omega)
          go_wp2_with (go_at_call 20; refine (awake_any _).mono ?_; rintro e wz ⟨rfl, hbz⟩)
          go_ret
          exact ⟨rfl, hWb.trans ((below_after HB24.out hbz (Nat.le_refl _)).mono (by omega))⟩
end Go.Proofs.Ytjddcaimjofihaa
