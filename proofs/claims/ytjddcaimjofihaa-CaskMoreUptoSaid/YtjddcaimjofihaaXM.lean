/- The walk of the law CaskMore; no condition. -/
import Derived.Test.YtjddcaimjofihaaXG
import Derived.Test.YtjddcaimjofihaaXF
import Derived.Test.YtjddcaimjofihaaC2
import Derived.Test.YtjddcaimjofihaaU2
import Derived.Test.YtjddcaimjofihaaRH
namespace Go.Proofs.Ytjddcaimjofihaa
open Go.RowKit Go.Shelf
set_option maxRecDepth 100000

/-- The cellar with one more trial: its box, and the list of its own. -/
structure FinM (c : Ce) (m : Tl) (X : Nat) (hv kv : Value) (w1 : World) (vT : Value) (w9 : World) : Prop where
  row : w9.heap[X]? = some (.cells #[hv, kv, vT] 26 (0, 0))
  ot : Own (X + 1) 68 4 encT4 w9 vT (c.trials ++ [m])
  below : Below X w1 w9
def LeavesM (c : Ce) (l : List Int) : Prop := ∀ (vc : Value) (n : Nat) (w : World), n ≤ w.heap.size → CeV (Lt n) w vc c → Calls Try.prog 30 #[vc] w (RetInts l 0 w)
def BoundsM (c : Ce) (a b : List Rg) : Prop := ∀ (vc : Value) (n : Nat) (w : World), n ≤ w.heap.size → CeV (Lt n) w vc c → Calls Try.prog 21 #[vc] w (RetBounds a b 0 w)
def DecideM (c : Ce) (g : Int) (u : List Int) : Prop := ∀ (vc : Value) (n : Nat) (w : World), n ≤ w.heap.size → CeV (Lt n) w vc c → Calls Try.prog 69 #[vc, .int .i64 g] w (RetInts u 0 w)
def GradedM (c : Ce) (k g p : Int) : Prop := ∀ (vc : Value) (n : Nat) (w : World), n ≤ w.heap.size → CeV (Lt n) w vc c → Calls Try.prog 23 #[vc, .int .i64 k, .int .i64 g] w (RetTwo p 0 w)
/-- What the walk calls for, as long as there is a truth. -/
structure MoreIs (c x : Ce) (g : Int) (a b d s : List Rg) (u v : List Int) : Prop where
  bounds : BoundsM c a b
  boundsX : BoundsM x d s
  in1 : InB d a
  in2 : InB s b
  len1 : d.length ≤ 1000
  len2 : s.length ≤ 1000
  decide : DecideM c g u
  decideX : DecideM x g v
  less : v.length ≤ u.length
  graded : ∀ k : Int, 0 ≤ k → k < c.casks.length → ∃ p q, GradedM c k g p ∧ GradedM x k g q ∧ ((p = 3) ∨ (p = 1 ∧ q = 1) ∨ (p = 2 ∧ q = 2))
  blend : ∀ (st : List Int) (wt : Int), st.length = c.heaps.length → (∀ y ∈ st, 0 ≤ y ∧ y ≤ 30) → 1 ≤ wt → wt ≤ 90 → ∃ r, Bl2 c st wt g (r.getD []) (foundErr r) ∧ (∀ t, r = some t → t.length ≤ 3 ∧ Pb2 x st wt g t true)
theorem more_is {c : Ce} {m : Tl} (hf : fault c = 0) (hx : fault (moreC c m) = 0) (hsm : Small c) (hsx : Small (moreC c m)) (hT : truthsOf (moreC c m) [] ≠ []) {g : Int} (hg : 0 ≤ g ∧ g ≤ 100) :
    ∃ a b d s u v, MoreIs c (moreC c m) g a b d s u v := by
  obtain ⟨l, hl⟩ := List.exists_mem_of_ne_nil _ hT
  have hsub : ∀ l, l ∈ truthsOf (moreC c m) [] → l ∈ truthsOf c [] := fun l hl => more_truths hl
  have hTc : truthsOf c [] ≠ [] := ne_nil_of (hsub l hl)
  have hwg : within g 0 100 = true := within_iff.2 hg
  have e1 : askErr c true = 0 := by unfold askErr; simp [hf, hTc]
  have e2 : askErr (moreC c m) true = 0 := by unfold askErr; simp [hx, hT]
  have e3 : askErr c (within g 0 100) = 0 := by rw [hwg]; exact e1
  have e4 : askErr (moreC c m) (within g 0 100) = 0 := by rw [hwg]; exact e2
  obtain ⟨u, hu, fu⟩ := decide_some c g
  obtain ⟨v, hv, fv⟩ := decide_some (moreC c m) g
  obtain ⟨i1, i2⟩ := bounds_in (c := moreC c m) (x := c) rfl rfl hsub hT
  have hgood := (fault_good hf).1
  obtain ⟨⟨g1, g2, g3, -⟩, -⟩ := hgood.facts
  refine ⟨heapB c, caskB c, heapB (moreC c m), caskB (moreC c m), u, v, ⟨fun vc n w hn h => Bounds_ok c vc n w hn h hsm e1, fun vc n w hn h => Bounds_ok _ vc n w hn h hsx e2, i1, i2, by simpa [heapB] using hsx.heaps, by simpa [caskB] using hsx.casks,
    fun vc n w hn h => Decide_ok c vc g n w hn h hsm e3 u hu, fun vc n w hn h => Decide_ok _ vc g n w hn h hsx e4 v hv, decide_more (c := c) (x := moreC c m) rfl rfl hsub fu fv, fun k h0 h1 => ?_, fun st wt hl hst w1 w2 => ?_⟩⟩
  · refine ⟨gradedV c k g, gradedV (moreC c m) k g, fun vc n w hn h => graded_some hf hTc ⟨h0, h1⟩ hg hsm vc n w hn h, fun vc n w hn h => graded_some hx hT ⟨h0, h1⟩ hg hsx vc n w hn h, ?_⟩
    obtain ⟨-, -, r1, r2⟩ := graded_truth (hsub l hl) k g
    by_cases e : gradedV c k g = 3
    · exact .inl e
    · have := graded_keep (c := c) (x := moreC c m) rfl rfl hsub hT k g e
      omega
  · have F : BlFit c st wt g := ⟨hf, hsm, hTc, hl, hst, ⟨w1, w2⟩, hg⟩
    have FX : BlFit (moreC c m) st wt g := ⟨hx, hsx, hT, hl, hst, ⟨w1, w2⟩, hg⟩
    obtain ⟨r, h1, h2, -⟩ := F.blend
    refine ⟨r, h1, fun t ht => ?_⟩
    obtain ⟨hb, hlen⟩ := h2 t ht
    have := FX.prove (ws := t) (by omega)
    have hb' : isBlendR (truthsR (moreC c m)) st wt g t = true := blend_fewer (fun s hs => (mem_truthsR hf).2 (hsub s ((mem_truthsR hx).1 hs))) hb.good
    rw [hb'] at this
    exact ⟨by omega, this⟩

set_option maxHeartbeats 16000000 in
theorem CaskMore_walk (c : Ce) (v : Value) {w : World} (h : CeV (Lt w.heap.size) w v c) (hbig : c.trials.length ≤ 900000) (m : Tl) (at0 : Int) (hat : 0 ≤ at0 ∧ at0 ≤ 255) (gr : Int) (hgr : 0 ≤ gr ∧ gr ≤ 255) (s0 s1 s2 : Int) (hs0 : 0 ≤ s0 ∧ s0 ≤ 255) (hs1 : 0 ≤ s1 ∧ s1 ≤ 255) (hs2 : 0 ≤ s2 ∧ s2 ≤ 255) (wt : Int) (hwt : 0 ≤ wt ∧ wt ≤ 255) :
    Calls Try.prog 15 #[v, .agg #[.bool m.cask, .int .i64 m.num, .int .i64 m.s.lo, .int .i64 m.s.hi], .int .u8 at0, .int .u8 gr, .agg #[.int .u8 s0, .int .u8 s1, .int .u8 s2], .int .u8 wt] w (RetT w) := by
  obtain ⟨mcb, mnum, mlo, mhi⟩ := m
  simp only
  have h' := h
  obtain ⟨ha, hc, ka, kc, ta, tc, rfl, hp1, hp2, hp3⟩ := h.open
  have HP3 := hid hp3
  obtain ⟨W, hW⟩ : ∃ W, W = ((w.alloc (Obj.cells #[.slice ha c.heaps.length hc, .slice ka c.casks.length kc, .slice ta c.trials.length tc] 26)).alloc (Obj.cells #[.bool mcb, .int .i64 mnum, .int .i64 mlo, .int .i64 mhi] 68)).alloc (Obj.cells #[.int .u8 s0, .int .u8 s1, .int .u8 s2] 112) := ⟨_, rfl⟩
  have hWs : W.heap.size = w.heap.size + 3 := by rw [hW]; simp
  have hWb : Below w.heap.size w W := by rw [hW]; exact below_alloc3 (Nat.le_refl _) _ _ _
  have hWr : W.heap[w.heap.size]? = some (.cells #[.slice ha c.heaps.length hc, .slice ka c.casks.length kc, .slice ta c.trials.length tc] 26 (0, 0)) := by rw [hW, Below.heap_alloc _ _ _ (by simp; omega), Below.heap_alloc _ _ _ (by simp)]; exact heap_new _ _
  have hWt : W.heap[w.heap.size + 1]? = some (.cells #[.bool mcb, .int .i64 mnum, .int .i64 mlo, .int .i64 mhi] 68 (0, 0)) := by rw [hW, Below.heap_alloc _ _ _ (by simp)]; exact heap_new2 _ _ _
  have hWz : W.heap[w.heap.size + 1 + 1]? = some (.cells #[.int .u8 s0, .int .u8 s1, .int .u8 s2] 112 (0, 0)) := by rw [hW]; exact heap_at (by simp) _
  have HBOX := hid (fun w1 (hb : Below W.heap.size W w1) => (hb.block w.heap.size (by omega)).trans hWr : ∀ w1, Below W.heap.size W w1 → w1.heap[w.heap.size]? = _)
  have HBT := hid (fun w1 (hb : Below W.heap.size W w1) => (hb.block (w.heap.size + 1) (by omega)).trans hWt : ∀ w1, Below W.heap.size W w1 → w1.heap[w.heap.size + 1]? = _)
  have HBZ := hid (fun w1 (hb : Below W.heap.size W w1) => (hb.block (w.heap.size + 1 + 1) (by omega)).trans hWz : ∀ w1, Below W.heap.size W w1 → w1.heap[w.heap.size + 1 + 1]? = _)
  have HCE := hid (fun w1 (hb : Below W.heap.size W w1) => h'.below (hWb.trans (hb.mono (by omega))) : ∀ w1, Below W.heap.size W w1 → CeV (Lt w.heap.size) w1 _ c)
  clear hWr hWt hWz h' h hp1 hp2 hp3
  go_enter Try.func15, Try.ntmps15
  go_wp2
  rw [← hW]
  clear hW
  obtain ⟨X, hX⟩ : ∃ X, X = w.heap.size + 1 + 1 + 1 := ⟨_, rfl⟩
  have hXW : W.heap.size = X := by omega
  obtain ⟨w3, hw3⟩ : ∃ w3, w3 = W.alloc (Obj.cells #[.slice ha c.heaps.length hc, .slice ka c.casks.length kc, .slice ta c.trials.length tc] 26) := ⟨_, rfl⟩
  have hs3 : w3.heap.size = X + 1 := by rw [hw3, ← hXW]; simp
  have hr3 : w3.heap[X]? = some (.cells #[.slice ha c.heaps.length hc, .slice ka c.casks.length kc, .slice ta c.trials.length tc] 26 (0, 0)) := by rw [hw3]; exact heap_at hXW _
  have hb3 : Below X W w3 := by rw [hw3]; exact below_alloc1 (by omega) _
  have HR3 := hid hr3
  have HS3 := hid hb3
  rw [← hw3, ← hX]
  have hwX : w.heap.size < X ∧ w.heap.size + 1 < X ∧ w.heap.size + 1 + 1 < X := by omega
  have hXw : W.heap.size ≤ X ∧ X ≤ W.heap.size := by omega
  clear hw3 hr3 hb3 hX hXW
  have HOLD := hid (fun w' (h : Below X W w') => h.mono hXw.1 : ∀ w', Below X W w' → Below W.heap.size W w')
  have hSS := hid (fun w' (h : Below X W w') => ⟨cell_of_row (HBOX.out w' (HOLD.out w' h)) 2, cell_of_row (HBT.out w' (HOLD.out w' h)) 0, cell_of_row (HBT.out w' (HOLD.out w' h)) 1, cell_of_row (HBT.out w' (HOLD.out w' h)) 2, cell_of_row (HBT.out w' (HOLD.out w' h)) 3⟩ :
    ∀ w', Below X W w' → w'.cell? ⟨w.heap.size, 2, none⟩ = some (.slice ta c.trials.length tc) ∧ w'.cell? ⟨w.heap.size + 1, 0, none⟩ = some (.bool mcb) ∧ w'.cell? ⟨w.heap.size + 1, 1, none⟩ = some (.int .i64 mnum) ∧ w'.cell? ⟨w.heap.size + 1, 2, none⟩ = some (.int .i64 mlo) ∧ w'.cell? ⟨w.heap.size + 1, 3, none⟩ = some (.int .i64 mhi))
  apply wp_via (fun _ _ _ kT _ aT w' => FinM c ⟨mcb, mnum, ⟨mlo, mhi⟩⟩ X (.slice ha c.heaps.length hc) (.slice ka c.casks.length kc) W (.slice aT (c.trials.length + 1) kT) w')
  refine wp_region_grow (by kernel_rfl) 99 (fun w' => Below X W w') ?_ ?_
  · exact HS3.out.drew
  have HG := fun (a b : World) (h : Below X W a) (k : Below a.heap.size a b) => (h.trans (k.mono (by have := h.size; omega)) : Below X W b)
  refine wpG_take (i := 1) (v := .pointer (some ⟨w.heap.size, 2, none⟩)) rfl rfl (by kernel_rfl) (by kernel_rfl) (by kernel_rfl) (by kernel_rfl) (fun _ _ _ h => h) (by rfl) (fun w' hS' => grow_value ?_ hS') ?_
  · go_simp
  try simp only [List.setIfInBounds_toArray, List.set_cons_zero, List.set_cons_succ]
  refine wpG_take (i := 2) (v := .slice ta c.trials.length tc) rfl rfl (by kernel_rfl) (by kernel_rfl) (by kernel_rfl) (by kernel_rfl) (fun _ _ _ h => h) (by rfl) (fun w' hS' => grow_value ?_ hS') ?_
  · have ⟨s0, s1, s2, s3, s4⟩ := hSS.out _ hS'; go_simp
  try simp only [List.setIfInBounds_toArray, List.set_cons_zero, List.set_cons_succ]
  refine wpG_take (i := 4) (v := .agg #[.bool mcb, .int .i64 mnum, .int .i64 mlo, .int .i64 mhi]) rfl rfl (by kernel_rfl) (by kernel_rfl) (by kernel_rfl) (by kernel_rfl) (fun _ _ _ h => h) (by rfl) (fun w' hS' => grow_value ?_ hS') ?_
  · have ⟨s0, s1, s2, s3, s4⟩ := hSS.out _ hS'; go_simp
  try simp only [List.setIfInBounds_toArray, List.set_cons_zero, List.set_cons_succ]
  refine wpG_fork (i := 0) (j := 5) rfl rfl (by rfl) (by rfl) (by kernel_rfl) (by rfl) (by rfl) (fun wI hbI hSI => ?_) (fun wI hbI hSI => ?_)
  · skip
    go_simp
    refine ⟨HG wI _ hSI (below_alloc1 (Nat.le_refl _) _), ?_⟩
    have hrI := row_grow (A := w3.drew) HR3.out hbI
    have hlI := (Array.getElem?_eq_some_iff.1 hrI).1
    obtain ⟨P0, hP0⟩ : ∃ p, p = wI.heap.size := ⟨_, rfl⟩
    obtain ⟨w4, hw4⟩ : ∃ w', w' = wI.alloc (Obj.cells #[] 68) := ⟨_, rfl⟩
    have hI4 : Below wI.heap.size wI w4 := by rw [hw4]; exact below_alloc1 (Nat.le_refl _) _
    have E0_4 := hid (show EmpR X P0 68 w4 by rw [hP0, hw4]; exact EmpR.new wI _ hlI)
    have R4 := hid (row_grow hrI hI4)
    have S4 := hid (HG wI _ hSI hI4)
    rw [← hw4, ← hP0]
    clear hw4 hP0 hrI hlI hbI hSI hI4
    clear wI
    try simp only [List.setIfInBounds_toArray, List.set_cons_zero, List.set_cons_succ]
    refine wpG_fork (i := 3) (j := 5) rfl rfl (by rfl) (by rfl) (by kernel_rfl) (by rfl) (by rfl) (fun wI hbI hSI => ?_) (fun wI hbI hSI => ?_)
    · have hrI := row_grow R4.out hbI
      have hE0 := E0_4.out.grow hbI
      have hTB : Tls (Lt w.heap.size) wI (.slice ta c.trials.length tc) c.trials := HP3.out.below (hWb.trans ((HOLD.out wI hSI).mono (by omega)))
      refine wp_appendL encT4 (.tmp 38) (.tmp 40) 24 rfl (X + 1) 68 _ 4 32 rtrials_under infoRTrial rfl (by decide) (fun _ => rfl) encT4_one _ [] (by rfl) hE0.own _ _ c.trials (by rfl) hTB (by simp only [List.length_nil]; omega) (by decide) (by have := hE0.lt; have := hE0.1; omega) ?_
      intro vT w5 hown hgr
      have hch := chg_emp hgr
      have hne0 : X ≠ P0 := by have := hE0.1; omega
      have OT_5 := hid (show Own (X + 1) 68 4 encT4 w5 vT c.trials by simpa using hown)
      obtain ⟨aT, kT, rfl, -, -⟩ := id (OT_5.out.slLt (fun _ => rfl)).open4
      have R5 := hid (row_chg hrI hch hne0)
      have S5 := hid (hSI.trans (hch.below (n := X) (by have := hE0.lt; have := hE0.1; omega) (fun b hb e => by have := hE0.1; omega)))
      refine ⟨S5.out, ?_⟩
      simp only [Act.put]
      clear hTB hown hgr hch hne0 hrI hE0 hSI hbI wI
      try simp only [List.setIfInBounds_toArray]
      refine wpG_only (i := 5) rfl (by rfl) (by kernel_rfl) (by rfl) (fun wI hbI hSI => ?_)
      go_simp
      refine ⟨HG wI _ hSI (below_alloc1 (Nat.le_refl _) _), ?_⟩
      have hrI := row_grow R5.out hbI
      have hlI := (Array.getElem?_eq_some_iff.1 hrI).1
      obtain ⟨P1, hP1⟩ : ∃ p, p = wI.heap.size := ⟨_, rfl⟩
      obtain ⟨w6, hw6⟩ : ∃ w', w' = wI.alloc (Obj.cells #[.bool mcb, .int .i64 mnum, .int .i64 mlo, .int .i64 mhi] 68) := ⟨_, rfl⟩
      have hI6 : Below wI.heap.size wI w6 := by rw [hw6]; exact below_alloc1 (Nat.le_refl _) _
      have N1_6 := hid (show w6.heap[P1]? = some (.cells #[.bool mcb, .int .i64 mnum, .int .i64 mlo, .int .i64 mhi] 68 (0, 0)) by rw [hP1, hw6]; exact heap_new _ _)
      have R6 := hid (row_grow hrI hI6)
      have S6 := hid (HG wI _ hSI hI6)
      have OT_6 := hid ((OT_5.out.below hbI).below hI6)
      rw [← hw6, ← hP1]
      clear hw6 hP1 hrI hlI hbI hSI hI6
      clear wI
      try simp only [List.setIfInBounds_toArray, List.set_cons_zero, List.set_cons_succ]
      refine wpG_only (i := 6) rfl (by rfl) (by kernel_rfl) (by rfl) (fun wI hbI hSI => ?_)
      have hrI := row_grow R6.out hbI
      have hN1 := row_grow N1_6.out hbI
      have hOT := OT_6.out.below hbI
      refine wp_append1 encT4 (.tmp 41) (.tmp 43) 24 rfl (X + 1) 68 _ 4 32 rtrials_under infoRTrial rfl (by decide) (fun _ => rfl) encT4_one _ c.trials (by rfl) hOT P1 1 ⟨mcb, mnum, ⟨mlo, mhi⟩⟩ (by rfl) (fun i u hu => by rw [cell_of_row hN1]; simpa [encT4] using hu) (by omega) (by decide) (by have := (Array.getElem?_eq_some_iff.1 hrI).1; omega) ?_
      intro vU w7 hown hgr
      have hch := chg_grown hgr
      have hbl := hOT.block
      have hlI := (Array.getElem?_eq_some_iff.1 hrI).1
      have OU_7 := hid hown
      have R7 := hid (row_chg hrI hch (fun e => by have := hbl _ e; omega))
      have S7 := hid (hSI.trans (hch.below (n := X) (by omega) (fun b hb e => by have := hbl _ e; omega)))
      refine ⟨S7.out, ?_⟩
      simp only [Act.put]
      clear hown hgr hch hbl hlI hrI hOT hN1 hSI hbI
      clear wI
      try simp only [List.setIfInBounds_toArray]
      obtain ⟨aU, kU, hvU, -, -⟩ := id (OU_7.out.slLt (fun _ => rfl)).open4
      rw [List.length_append, List.length_cons, List.length_nil, Nat.zero_add] at hvU
      subst hvU
      refine wpG_take (i := 7) (v := .pointer (some ⟨X, 2, none⟩)) rfl rfl (by kernel_rfl) (by kernel_rfl) (by kernel_rfl) (by kernel_rfl) (fun _ _ _ h => h) (by rfl) (fun w' hS' => grow_value ?_ hS') ?_
      · go_simp
      try simp only [List.setIfInBounds_toArray, List.set_cons_zero, List.set_cons_succ]
      refine wpG_only (i := 8) rfl (by rfl) (by kernel_rfl) (by rfl) (fun wI hbI hSI => ?_)
      have hrI := row_grow R7.out hbI
      have f0 := frozen_of_row hrI 2
      have c0 := cell_of_row hrI 2
      simp at c0
      have R8 := hid (row_set hrI 2 (.slice aU (c.trials.length + 1) kU))
      have S8 := hid (hSI.setCell (p := ⟨X, 2, none⟩) (Nat.le_refl _) (.slice aU (c.trials.length + 1) kU))
      have OU_8 := hid ((OU_7.out.below hbI).chg (setCell_chg (A := wI) (g := X) (i := 2) (.slice aU (c.trials.length + 1) kU)) (fun bb hb => by omega))
      clear hrI hbI hSI
      go_simp
      refine ⟨S8.out, ?_⟩
      clear c0 f0
      generalize wI.setCell ⟨X, 2, none⟩ (.slice aU (c.trials.length + 1) kU) = w8 at *
      try simp only [List.setIfInBounds_toArray, List.set_cons_zero, List.set_cons_succ]
      refine wpG_done (by kernel_rfl) (fun wI hbI hSI => ?_) _
      exact ⟨P0, P1, kT, kU, aT, aU, rfl, row_grow (by simpa using R8.out) hbI, OU_8.out.below hbI, hSI⟩
    · skip
      go_simp
      refine ⟨HG wI _ hSI (below_alloc1 (Nat.le_refl _) _), ?_⟩
      have hrI := row_grow R4.out hbI
      have hlI := (Array.getElem?_eq_some_iff.1 hrI).1
      obtain ⟨P1, hP1⟩ : ∃ p, p = wI.heap.size := ⟨_, rfl⟩
      obtain ⟨w5, hw5⟩ : ∃ w', w' = wI.alloc (Obj.cells #[.bool mcb, .int .i64 mnum, .int .i64 mlo, .int .i64 mhi] 68) := ⟨_, rfl⟩
      have hI5 : Below wI.heap.size wI w5 := by rw [hw5]; exact below_alloc1 (Nat.le_refl _) _
      have N1_5 := hid (show w5.heap[P1]? = some (.cells #[.bool mcb, .int .i64 mnum, .int .i64 mlo, .int .i64 mhi] 68 (0, 0)) by rw [hP1, hw5]; exact heap_new _ _)
      have R5 := hid (row_grow hrI hI5)
      have S5 := hid (HG wI _ hSI hI5)
      have E0_5 := hid ((E0_4.out.grow hbI).grow hI5)
      have hNE := hid (show P0 ≠ P1 by have := (E0_4.out.grow hbI).lt; omega)
      rw [← hw5, ← hP1]
      clear hw5 hP1 hrI hlI hbI hSI hI5
      clear wI
      try simp only [List.setIfInBounds_toArray, List.set_cons_zero, List.set_cons_succ]
      refine wpG_only (i := 3) rfl (by rfl) (by kernel_rfl) (by rfl) (fun wI hbI hSI => ?_)
      have hrI := row_grow R5.out hbI
      have hE0 := E0_5.out.grow hbI
      have hN0 := row_grow N1_5.out hbI
      have hTB : Tls (Lt w.heap.size) wI (.slice ta c.trials.length tc) c.trials := HP3.out.below (hWb.trans ((HOLD.out wI hSI).mono (by omega)))
      refine wp_appendL encT4 (.tmp 38) (.tmp 40) 24 rfl (X + 1) 68 _ 4 32 rtrials_under infoRTrial rfl (by decide) (fun _ => rfl) encT4_one _ [] (by rfl) hE0.own _ _ c.trials (by rfl) hTB (by simp only [List.length_nil]; omega) (by decide) (by have := hE0.lt; have := hE0.1; omega) ?_
      intro vT w6 hown hgr
      have hch := chg_emp hgr
      have hne0 : X ≠ P0 := by have := hE0.1; omega
      have OT_6 := hid (show Own (X + 1) 68 4 encT4 w6 vT c.trials by simpa using hown)
      obtain ⟨aT, kT, rfl, -, -⟩ := id (OT_6.out.slLt (fun _ => rfl)).open4
      have R6 := hid (row_chg hrI hch hne0)
      have S6 := hid (hSI.trans (hch.below (n := X) (by have := hE0.lt; have := hE0.1; omega) (fun b hb e => by have := hE0.1; omega)))
      have N1_6 := hid (row_chg hN0 hch (fun e => hNE.out e.symm))
      refine ⟨S6.out, ?_⟩
      simp only [Act.put]
      clear hTB hown hgr hch hne0 hrI hE0 hN0 hSI hbI wI
      try simp only [List.setIfInBounds_toArray]
      refine wpG_only (i := 6) rfl (by rfl) (by kernel_rfl) (by rfl) (fun wI hbI hSI => ?_)
      have hrI := row_grow R6.out hbI
      have hN1 := row_grow N1_6.out hbI
      have hOT := OT_6.out.below hbI
      refine wp_append1 encT4 (.tmp 41) (.tmp 43) 24 rfl (X + 1) 68 _ 4 32 rtrials_under infoRTrial rfl (by decide) (fun _ => rfl) encT4_one _ c.trials (by rfl) hOT P1 1 ⟨mcb, mnum, ⟨mlo, mhi⟩⟩ (by rfl) (fun i u hu => by rw [cell_of_row hN1]; simpa [encT4] using hu) (by omega) (by decide) (by have := (Array.getElem?_eq_some_iff.1 hrI).1; omega) ?_
      intro vU w7 hown hgr
      have hch := chg_grown hgr
      have hbl := hOT.block
      have hlI := (Array.getElem?_eq_some_iff.1 hrI).1
      have OU_7 := hid hown
      have R7 := hid (row_chg hrI hch (fun e => by have := hbl _ e; omega))
      have S7 := hid (hSI.trans (hch.below (n := X) (by omega) (fun b hb e => by have := hbl _ e; omega)))
      refine ⟨S7.out, ?_⟩
      simp only [Act.put]
      clear hown hgr hch hbl hlI hrI hOT hN1 hSI hbI
      clear wI
      try simp only [List.setIfInBounds_toArray, List.set_cons_zero, List.set_cons_succ]
      obtain ⟨aU, kU, hvU, -, -⟩ := id (OU_7.out.slLt (fun _ => rfl)).open4
      rw [List.length_append, List.length_cons, List.length_nil, Nat.zero_add] at hvU
      subst hvU
      refine wpG_take (i := 7) (v := .pointer (some ⟨X, 2, none⟩)) rfl rfl (by kernel_rfl) (by kernel_rfl) (by kernel_rfl) (by kernel_rfl) (fun _ _ _ h => h) (by rfl) (fun w' hS' => grow_value ?_ hS') ?_
      · go_simp
      try simp only [List.setIfInBounds_toArray, List.set_cons_zero, List.set_cons_succ]
      refine wpG_only (i := 8) rfl (by rfl) (by kernel_rfl) (by rfl) (fun wI hbI hSI => ?_)
      have hrI := row_grow R7.out hbI
      have f0 := frozen_of_row hrI 2
      have c0 := cell_of_row hrI 2
      simp at c0
      have R8 := hid (row_set hrI 2 (.slice aU (c.trials.length + 1) kU))
      have S8 := hid (hSI.setCell (p := ⟨X, 2, none⟩) (Nat.le_refl _) (.slice aU (c.trials.length + 1) kU))
      have OU_8 := hid ((OU_7.out.below hbI).chg (setCell_chg (A := wI) (g := X) (i := 2) (.slice aU (c.trials.length + 1) kU)) (fun bb hb => by omega))
      clear hrI hbI hSI
      go_simp
      refine ⟨S8.out, ?_⟩
      clear c0 f0
      generalize wI.setCell ⟨X, 2, none⟩ (.slice aU (c.trials.length + 1) kU) = w8 at *
      try simp only [List.setIfInBounds_toArray, List.set_cons_zero, List.set_cons_succ]
      refine wpG_done (by kernel_rfl) (fun wI hbI hSI => ?_) _
      exact ⟨P0, P1, kT, kU, aT, aU, rfl, row_grow (by simpa using R8.out) hbI, OU_8.out.below hbI, hSI⟩
  · skip
    go_simp
    refine ⟨HG wI _ hSI (below_alloc1 (Nat.le_refl _) _), ?_⟩
    have hrI := row_grow (A := w3.drew) HR3.out hbI
    have hlI := (Array.getElem?_eq_some_iff.1 hrI).1
    obtain ⟨P1, hP1⟩ : ∃ p, p = wI.heap.size := ⟨_, rfl⟩
    obtain ⟨w4, hw4⟩ : ∃ w', w' = wI.alloc (Obj.cells #[.bool mcb, .int .i64 mnum, .int .i64 mlo, .int .i64 mhi] 68) := ⟨_, rfl⟩
    have hI4 : Below wI.heap.size wI w4 := by rw [hw4]; exact below_alloc1 (Nat.le_refl _) _
    have N1_4 := hid (show w4.heap[P1]? = some (.cells #[.bool mcb, .int .i64 mnum, .int .i64 mlo, .int .i64 mhi] 68 (0, 0)) by rw [hP1, hw4]; exact heap_new _ _)
    have R4 := hid (row_grow hrI hI4)
    have S4 := hid (HG wI _ hSI hI4)
    rw [← hw4, ← hP1]
    clear hw4 hP1 hrI hlI hbI hSI hI4
    clear wI
    try simp only [List.setIfInBounds_toArray, List.set_cons_zero, List.set_cons_succ]
    refine wpG_only (i := 0) rfl (by rfl) (by kernel_rfl) (by rfl) (fun wI hbI hSI => ?_)
    go_simp
    refine ⟨HG wI _ hSI (below_alloc1 (Nat.le_refl _) _), ?_⟩
    have hrI := row_grow R4.out hbI
    have hlI := (Array.getElem?_eq_some_iff.1 hrI).1
    obtain ⟨P0, hP0⟩ : ∃ p, p = wI.heap.size := ⟨_, rfl⟩
    obtain ⟨w5, hw5⟩ : ∃ w', w' = wI.alloc (Obj.cells #[] 68) := ⟨_, rfl⟩
    have hI5 : Below wI.heap.size wI w5 := by rw [hw5]; exact below_alloc1 (Nat.le_refl _) _
    have E0_5 := hid (show EmpR X P0 68 w5 by rw [hP0, hw5]; exact EmpR.new wI _ hlI)
    have R5 := hid (row_grow hrI hI5)
    have S5 := hid (HG wI _ hSI hI5)
    have N1_5 := hid (row_grow (row_grow N1_4.out hbI) hI5)
    have hNE := hid (show P0 ≠ P1 by have := (Array.getElem?_eq_some_iff.1 (row_grow N1_4.out hbI)).1; omega)
    rw [← hw5, ← hP0]
    clear hw5 hP0 hrI hlI hbI hSI hI5
    clear wI
    try simp only [List.setIfInBounds_toArray, List.set_cons_zero, List.set_cons_succ]
    refine wpG_only (i := 3) rfl (by rfl) (by kernel_rfl) (by rfl) (fun wI hbI hSI => ?_)
    have hrI := row_grow R5.out hbI
    have hE0 := E0_5.out.grow hbI
    have hN0 := row_grow N1_5.out hbI
    have hTB : Tls (Lt w.heap.size) wI (.slice ta c.trials.length tc) c.trials := HP3.out.below (hWb.trans ((HOLD.out wI hSI).mono (by omega)))
    refine wp_appendL encT4 (.tmp 38) (.tmp 40) 24 rfl (X + 1) 68 _ 4 32 rtrials_under infoRTrial rfl (by decide) (fun _ => rfl) encT4_one _ [] (by rfl) hE0.own _ _ c.trials (by rfl) hTB (by simp only [List.length_nil]; omega) (by decide) (by have := hE0.lt; have := hE0.1; omega) ?_
    intro vT w6 hown hgr
    have hch := chg_emp hgr
    have hne0 : X ≠ P0 := by have := hE0.1; omega
    have OT_6 := hid (show Own (X + 1) 68 4 encT4 w6 vT c.trials by simpa using hown)
    obtain ⟨aT, kT, rfl, -, -⟩ := id (OT_6.out.slLt (fun _ => rfl)).open4
    have R6 := hid (row_chg hrI hch hne0)
    have S6 := hid (hSI.trans (hch.below (n := X) (by have := hE0.lt; have := hE0.1; omega) (fun b hb e => by have := hE0.1; omega)))
    have N1_6 := hid (row_chg hN0 hch (fun e => hNE.out e.symm))
    refine ⟨S6.out, ?_⟩
    simp only [Act.put]
    clear hTB hown hgr hch hne0 hrI hE0 hN0 hSI hbI wI
    try simp only [List.setIfInBounds_toArray]
    refine wpG_only (i := 6) rfl (by rfl) (by kernel_rfl) (by rfl) (fun wI hbI hSI => ?_)
    have hrI := row_grow R6.out hbI
    have hN1 := row_grow N1_6.out hbI
    have hOT := OT_6.out.below hbI
    refine wp_append1 encT4 (.tmp 41) (.tmp 43) 24 rfl (X + 1) 68 _ 4 32 rtrials_under infoRTrial rfl (by decide) (fun _ => rfl) encT4_one _ c.trials (by rfl) hOT P1 1 ⟨mcb, mnum, ⟨mlo, mhi⟩⟩ (by rfl) (fun i u hu => by rw [cell_of_row hN1]; simpa [encT4] using hu) (by omega) (by decide) (by have := (Array.getElem?_eq_some_iff.1 hrI).1; omega) ?_
    intro vU w7 hown hgr
    have hch := chg_grown hgr
    have hbl := hOT.block
    have hlI := (Array.getElem?_eq_some_iff.1 hrI).1
    have OU_7 := hid hown
    have R7 := hid (row_chg hrI hch (fun e => by have := hbl _ e; omega))
    have S7 := hid (hSI.trans (hch.below (n := X) (by omega) (fun b hb e => by have := hbl _ e; omega)))
    refine ⟨S7.out, ?_⟩
    simp only [Act.put]
    clear hown hgr hch hbl hlI hrI hOT hN1 hSI hbI
    clear wI
    try simp only [List.setIfInBounds_toArray, List.set_cons_zero, List.set_cons_succ]
    obtain ⟨aU, kU, hvU, -, -⟩ := id (OU_7.out.slLt (fun _ => rfl)).open4
    rw [List.length_append, List.length_cons, List.length_nil, Nat.zero_add] at hvU
    subst hvU
    refine wpG_take (i := 7) (v := .pointer (some ⟨X, 2, none⟩)) rfl rfl (by kernel_rfl) (by kernel_rfl) (by kernel_rfl) (by kernel_rfl) (fun _ _ _ h => h) (by rfl) (fun w' hS' => grow_value ?_ hS') ?_
    · go_simp
    try simp only [List.setIfInBounds_toArray, List.set_cons_zero, List.set_cons_succ]
    refine wpG_only (i := 8) rfl (by rfl) (by kernel_rfl) (by rfl) (fun wI hbI hSI => ?_)
    have hrI := row_grow R7.out hbI
    have f0 := frozen_of_row hrI 2
    have c0 := cell_of_row hrI 2
    simp at c0
    have R8 := hid (row_set hrI 2 (.slice aU (c.trials.length + 1) kU))
    have S8 := hid (hSI.setCell (p := ⟨X, 2, none⟩) (Nat.le_refl _) (.slice aU (c.trials.length + 1) kU))
    have OU_8 := hid ((OU_7.out.below hbI).chg (setCell_chg (A := wI) (g := X) (i := 2) (.slice aU (c.trials.length + 1) kU)) (fun bb hb => by omega))
    clear hrI hbI hSI
    go_simp
    refine ⟨S8.out, ?_⟩
    clear c0 f0
    generalize wI.setCell ⟨X, 2, none⟩ (.slice aU (c.trials.length + 1) kU) = w8 at *
    try simp only [List.setIfInBounds_toArray, List.set_cons_zero, List.set_cons_succ]
    refine wpG_done (by kernel_rfl) (fun wI hbI hSI => ?_) _
    exact ⟨P0, P1, kT, kU, aT, aU, rfl, row_grow (by simpa using R8.out) hbI, OU_8.out.below hbI, hSI⟩
  intro p0 p1 k1 kT a1 aT w9 FW
  have HB9 := hid (HOLD.out w9 FW.below)
  have hs9 := HB9.out.size
  have HF9 := hid (Below.refl w9.heap.size w9)
  have lX : X < w9.heap.size := (Array.getElem?_eq_some_iff.1 FW.row).1
  obtain ⟨x, hx⟩ : ∃ x : Ce, x = moreC c ⟨mcb, mnum, ⟨mlo, mhi⟩⟩ := ⟨_, rfl⟩
  have HXB := hid (fun w' (hb : Below w9.heap.size w9 w') => row_grow FW.row hb : ∀ w', Below w9.heap.size w9 w' → w'.heap[X]? = _)
  have hcx : CeV (Lt w9.heap.size) w9 (.agg #[.slice ha c.heaps.length hc, .slice ka c.casks.length kc, .slice aT (c.trials.length + 1) kT]) x := by
    obtain ⟨_, _, _, _, _, _, he, i1, i2, -⟩ := (HCE.out w9 HB9.out).open
    cases he
    rw [hx]
    have h3 := FW.ot.slLt (fun _ => rfl)
    exact ⟨_, _, _, rfl, i1.le (by omega), i2.le (by omega), h3⟩
  have HXC := hid (fun w' (hb : Below w9.heap.size w9 w') => hcx.below hb : ∀ w', Below w9.heap.size w9 w' → CeV (Lt w9.heap.size) w' _ x)
  have HX := hid hx
  clear FW hcx hx
  obtain ⟨rb, hrb⟩ : ∃ rb, rb = readyB c := ⟨_, rfl⟩
  have HRB := hid hrb
  obtain ⟨rx, hrx⟩ : ∃ rx, rx = readyB x := ⟨_, rfl⟩
  have HRX := hid hrx
  clear hrb hrx
  have j0 := cell_of_row (HBOX.out w9 HB9.out) 0
  have j1 := cell_of_row (HBOX.out w9 HB9.out) 1
  have j2 := cell_of_row (HBOX.out w9 HB9.out) 2
  simp only [List.getElem?_toArray, List.getElem?_cons_zero, List.getElem?_cons_succ] at j0 j1 j2
  go_wp2_with fail
  refine (ready_hid c HRB _ w.heap.size w9 (by omega) (HCE.out w9 HB9.out)).mono ?_
  rintro e w10 ⟨rfl, hb10⟩
  have HB10 := hid (below_after HB9.out hb10 (Nat.le_refl _))
  have hs10 := HB10.out.size
  have hd10 := hb10.size
  have HF10 := hid (below_after HF9.out hb10 (Nat.le_refl _))
  have zHF10 := HF10.out.size
  clear hb10 j0 j1 j2
  cases rb with
  | false =>
    go_wp2_with (go_at_call 20; refine (awake_any _).mono ?_; rintro e wz ⟨rfl, hbz⟩)
    go_ret
    exact ⟨rfl, hWb.trans ((below_after HB10.out hbz (Nat.le_refl _)).mono (by omega))⟩
  | true =>
    have x0 := cell_of_row (HXB.out w10 HF10.out) 0
    have x1 := cell_of_row (HXB.out w10 HF10.out) 1
    have x2 := cell_of_row (HXB.out w10 HF10.out) 2
    simp only [List.getElem?_toArray, List.getElem?_cons_zero, List.getElem?_cons_succ] at x0 x1 x2
    go_wp2_with fail
    refine (ready_hid x HRX _ w9.heap.size w10 (by omega) (HXC.out w10 HF10.out)).mono ?_
    rintro e w11 ⟨rfl, hb11⟩
    have HB11 := hid (below_after HB10.out hb11 (Nat.le_refl _))
    have hs11 := HB11.out.size
    have hd11 := hb11.size
    have HF11 := hid (below_after HF10.out hb11 (Nat.le_refl _))
    have zHF11 := HF11.out.size
    clear hb11
    clear x0 x1 x2
    cases rx with
    | false =>
      go_wp2_with (go_at_call 20; refine (awake_any _).mono ?_; rintro e wz ⟨rfl, hbz⟩)
      go_ret
      exact ⟨rfl, hWb.trans ((below_after HB11.out hbz (Nat.le_refl _)).mono (by omega))⟩
    | true =>
      have hf := ready_fault HRB.out.symm
      have hsm := thin_small (ready_thin HRB.out.symm)
      have hfx := ready_fault HRX.out.symm
      have hsx := thin_small (ready_thin HRX.out.symm)
      obtain ⟨⟨g1, g2, g3, g4⟩, -⟩ := (fault_good hf).1.facts
      have HSM := hid hsm
      have HSX := hid hsx
      have hG : 0 ≤ gr % 101 ∧ gr % 101 ≤ 100 := by omega
      have hW9 : 1 ≤ wt % 90 + 1 ∧ wt % 90 + 1 ≤ 90 := by omega
      have hle := more_leave (m := ⟨mcb, mnum, ⟨mlo, mhi⟩⟩) hf (by rw [← HX.out]; exact hfx)
      have HLC := hid (show LeavesM c (leaveR c) from fun vc n w hn h => Leave_ok c vc n w hn h hf _ (leaveOf_eq hf))
      have HLX := hid (show LeavesM x (leaveR x) from fun vc n w hn h => Leave_ok x vc n w hn h hfx _ (leaveOf_eq hfx))
      have hnil : leaveR x = [] → ∃ a b d s u v, MoreIs c x (gr % 101) a b d s u v := fun e => by
        have := more_is (m := ⟨mcb, mnum, ⟨mlo, mhi⟩⟩) hf (by rw [← HX.out]; exact hfx) hsm (by rw [← HX.out]; exact hsx) (by rw [← HX.out]; exact nil_leave hfx e) hG
        rwa [← HX.out] at this
      rw [← HX.out] at hle
      have hL5 : (leaveR c).length ≤ 5 := by rcases (leaveR_fewest hf).rises.length with h | h; rw [h]; simp; omega
      obtain ⟨L, hL⟩ : ∃ L, L = leaveR c := ⟨_, rfl⟩
      rw [← hL] at hL5
      obtain ⟨M, hM⟩ : ∃ M, M = leaveR x := ⟨_, rfl⟩
      rw [← hL] at hle HLC
      rw [← hM] at hle HLX hnil
      have HNIL := hid hnil
      have hd1 : decide ((M.length : Int) < (L.length : Int)) = false := decide_eq_false (by omega)
      have hd2 : decide (M.length < L.length) = false := decide_eq_false (by omega)
      have hd3 : decide ((L.length : Int) + 1 < (M.length : Int)) = false := decide_eq_false (by omega)
      have hd4 : decide (L.length + 1 < M.length) = false := decide_eq_false (by omega)
      have hwl : IntKind.i64.wrap ((L.length : Int) + 1) = (L.length : Int) + 1 := IntWalk.i64_in _ (by omega)
      clear hf hsm hfx hsx hL hM hnil
      have j0 := cell_of_row (HBOX.out w11 HB11.out) 0
      have j1 := cell_of_row (HBOX.out w11 HB11.out) 1
      have j2 := cell_of_row (HBOX.out w11 HB11.out) 2
      simp only [List.getElem?_toArray, List.getElem?_cons_zero, List.getElem?_cons_succ] at j0 j1 j2
      go_wp2_with fail
      refine (CellarL_any c _ w.heap.size w11 (by omega) (HCE.out w11 HB11.out) HSM.out).mono ?_
      rintro e w12 ⟨v12, rfl, hc12, hb12⟩
      have HB12 := hid (below_after HB11.out hb12 (Nat.le_refl _))
      have hs12 := HB12.out.size
      have hd12 := hb12.size
      have HF12 := hid (below_after HF11.out hb12 (Nat.le_refl _))
      have zHF12 := HF12.out.size
      clear hb12 j0 j1 j2
      obtain ⟨_, _, _, _, _, _, rfl, -⟩ := id hc12.open
      go_wp2_with fail
      refine (HLC.out _ _ w12 (Nat.le_refl _) hc12).mono ?_
      rintro e w13 ⟨v13, rfl, hi13, hb13⟩
      have HB13 := hid (below_after HB12.out hb13 (Nat.le_refl _))
      have hs13 := HB13.out.size
      have hd13 := hb13.size
      have HF13 := hid (below_after HF12.out hb13 (Nat.le_refl _))
      have zHF13 := HF13.out.size
      clear hb13
      obtain ⟨_, _, rfl, -, -⟩ := id hi13.open1
      clear hc12 hi13
      have x0 := cell_of_row (HXB.out w13 HF13.out) 0
      have x1 := cell_of_row (HXB.out w13 HF13.out) 1
      have x2 := cell_of_row (HXB.out w13 HF13.out) 2
      simp only [List.getElem?_toArray, List.getElem?_cons_zero, List.getElem?_cons_succ] at x0 x1 x2
      go_wp2_with fail
      refine (CellarL_any x _ w9.heap.size w13 (by omega) (HXC.out w13 HF13.out) HSX.out).mono ?_
      rintro e w14 ⟨v14, rfl, hc14, hb14⟩
      have HB14 := hid (below_after HB13.out hb14 (Nat.le_refl _))
      have hs14 := HB14.out.size
      have hd14 := hb14.size
      have HF14 := hid (below_after HF13.out hb14 (Nat.le_refl _))
      have zHF14 := HF14.out.size
      clear hb14
      clear x0 x1 x2
      obtain ⟨_, _, _, _, _, _, rfl, -⟩ := id hc14.open
      go_wp2_with fail
      refine (HLX.out _ _ w14 (Nat.le_refl _) hc14).mono ?_
      rintro e w15 ⟨v15, rfl, hi15, hb15⟩
      have HB15 := hid (below_after HB14.out hb15 (Nat.le_refl _))
      have hs15 := HB15.out.size
      have hd15 := hb15.size
      have HF15 := hid (below_after HF14.out hb15 (Nat.le_refl _))
      have zHF15 := HF15.out.size
      clear hb15
      obtain ⟨_, _, rfl, -, -⟩ := id hi15.open1
      clear hc14 hi15
      by_cases hM0 : M.length = 0
      · have hMn : M = [] := List.length_eq_zero_iff.1 hM0
        have hL0 : L.length = 0 := by omega
        obtain ⟨bA, bB, bD, bS, u, v, hmi⟩ := HNIL.out hMn
        have HMI := hid hmi
        have hul := hmi.less
        have l1 := hmi.len1
        have l2 := hmi.len2
        have hwg : IntKind.i64.wrap gr = gr := IntWalk.i64_in _ (by omega)
        clear hmi hMn HNIL hd1 hd2 hd3 hd4 hwl
        have j0 := cell_of_row (HBOX.out w15 HB15.out) 0
        have j1 := cell_of_row (HBOX.out w15 HB15.out) 1
        have j2 := cell_of_row (HBOX.out w15 HB15.out) 2
        simp only [List.getElem?_toArray, List.getElem?_cons_zero, List.getElem?_cons_succ] at j0 j1 j2
        go_wp2_with fail
        refine (CellarL_any c _ w.heap.size w15 (by omega) (HCE.out w15 HB15.out) HSM.out).mono ?_
        rintro e w16 ⟨v16, rfl, hc16, hb16⟩
        have HB16 := hid (below_after HB15.out hb16 (Nat.le_refl _))
        have hs16 := HB16.out.size
        have hd16 := hb16.size
        have HF16 := hid (below_after HF15.out hb16 (Nat.le_refl _))
        have zHF16 := HF16.out.size
        clear hb16 j0 j1 j2
        obtain ⟨_, _, _, _, _, _, rfl, -⟩ := id hc16.open
        go_wp2_with fail
        refine (HMI.out.bounds _ _ w16 (Nat.le_refl _) hc16).mono ?_
        rintro e w17 ⟨v17, u17, rfl, hx17, hy17, hb17⟩
        have HB17 := hid (below_after HB16.out hb17 (Nat.le_refl _))
        have hs17 := HB17.out.size
        have hd17 := hb17.size
        have HF17 := hid (below_after HF16.out hb17 (Nat.le_refl _))
        have zHF17 := HF17.out.size
        clear hb17
        obtain ⟨_, _, rfl, -, -⟩ := id hx17.at
        obtain ⟨_, _, rfl, -, -⟩ := id hy17.at
        have HX17 := hid hx17
        have HY17 := hid hy17
        have HL17 := hid (Below.refl w17.heap.size w17)
        clear hc16 hx17 hy17
        have x0 := cell_of_row (HXB.out w17 HF17.out) 0
        have x1 := cell_of_row (HXB.out w17 HF17.out) 1
        have x2 := cell_of_row (HXB.out w17 HF17.out) 2
        simp only [List.getElem?_toArray, List.getElem?_cons_zero, List.getElem?_cons_succ] at x0 x1 x2
        go_wp2_with fail
        refine (CellarL_any x _ w9.heap.size w17 (by omega) (HXC.out w17 HF17.out) HSX.out).mono ?_
        rintro e w18 ⟨v18, rfl, hc18, hb18⟩
        have HB18 := hid (below_after HB17.out hb18 (Nat.le_refl _))
        have hs18 := HB18.out.size
        have hd18 := hb18.size
        have HF18 := hid (below_after HF17.out hb18 (Nat.le_refl _))
        have zHF18 := HF18.out.size
        have HL18 := hid (below_after HL17.out hb18 (Nat.le_refl _))
        have zHL18 := HL18.out.size
        clear hb18
        clear x0 x1 x2
        obtain ⟨_, _, _, _, _, _, rfl, -⟩ := id hc18.open
        go_wp2_with fail
        refine (HMI.out.boundsX _ _ w18 (Nat.le_refl _) hc18).mono ?_
        rintro e w19 ⟨v19, u19, rfl, hx19, hy19, hb19⟩
        have HB19 := hid (below_after HB18.out hb19 (Nat.le_refl _))
        have hs19 := HB19.out.size
        have hd19 := hb19.size
        have HF19 := hid (below_after HF18.out hb19 (Nat.le_refl _))
        have zHF19 := HF19.out.size
        have HL19 := hid (below_after HL18.out hb19 (Nat.le_refl _))
        have zHL19 := HL19.out.size
        clear hb19
        obtain ⟨_, _, rfl, -, -⟩ := id hx19.at
        obtain ⟨_, _, rfl, -, -⟩ := id hy19.at
        have HX19 := hid hx19
        have HY19 := hid hy19
        have HM19 := hid (Below.refl w19.heap.size w19)
        clear hc18 hx19 hy19
        have j0 := cell_of_row (HBOX.out w19 HB19.out) 0
        have j1 := cell_of_row (HBOX.out w19 HB19.out) 1
        have j2 := cell_of_row (HBOX.out w19 HB19.out) 2
        simp only [List.getElem?_toArray, List.getElem?_cons_zero, List.getElem?_cons_succ] at j0 j1 j2
        go_wp2_with fail
        refine (CellarL_any c _ w.heap.size w19 (by omega) (HCE.out w19 HB19.out) HSM.out).mono ?_
        rintro e w20 ⟨v20, rfl, hc20, hb20⟩
        have HB20 := hid (below_after HB19.out hb20 (Nat.le_refl _))
        have hs20 := HB20.out.size
        have hd20 := hb20.size
        have HF20 := hid (below_after HF19.out hb20 (Nat.le_refl _))
        have zHF20 := HF20.out.size
        have HL20 := hid (below_after HL19.out hb20 (Nat.le_refl _))
        have zHL20 := HL20.out.size
        have HM20 := hid (below_after HM19.out hb20 (Nat.le_refl _))
        have zHM20 := HM20.out.size
        clear hb20 j0 j1 j2
        obtain ⟨_, _, _, _, _, _, rfl, -⟩ := id hc20.open
        go_wp2_with fail
        refine (HMI.out.decide _ _ w20 (Nat.le_refl _) hc20).mono ?_
        rintro e w21 ⟨v21, rfl, hi21, hb21⟩
        have HB21 := hid (below_after HB20.out hb21 (Nat.le_refl _))
        have hs21 := HB21.out.size
        have hd21 := hb21.size
        have HF21 := hid (below_after HF20.out hb21 (Nat.le_refl _))
        have zHF21 := HF21.out.size
        have HL21 := hid (below_after HL20.out hb21 (Nat.le_refl _))
        have zHL21 := HL21.out.size
        have HM21 := hid (below_after HM20.out hb21 (Nat.le_refl _))
        have zHM21 := HM21.out.size
        clear hb21
        obtain ⟨_, _, rfl, -, -⟩ := id hi21.open1
        clear hc20 hi21
        have x0 := cell_of_row (HXB.out w21 HF21.out) 0
        have x1 := cell_of_row (HXB.out w21 HF21.out) 1
        have x2 := cell_of_row (HXB.out w21 HF21.out) 2
        simp only [List.getElem?_toArray, List.getElem?_cons_zero, List.getElem?_cons_succ] at x0 x1 x2
        go_wp2_with fail
        refine (CellarL_any x _ w9.heap.size w21 (by omega) (HXC.out w21 HF21.out) HSX.out).mono ?_
        rintro e w22 ⟨v22, rfl, hc22, hb22⟩
        have HB22 := hid (below_after HB21.out hb22 (Nat.le_refl _))
        have hs22 := HB22.out.size
        have hd22 := hb22.size
        have HF22 := hid (below_after HF21.out hb22 (Nat.le_refl _))
        have zHF22 := HF22.out.size
        have HL22 := hid (below_after HL21.out hb22 (Nat.le_refl _))
        have zHL22 := HL22.out.size
        have HM22 := hid (below_after HM21.out hb22 (Nat.le_refl _))
        have zHM22 := HM22.out.size
        clear hb22
        clear x0 x1 x2
        obtain ⟨_, _, _, _, _, _, rfl, -⟩ := id hc22.open
        go_wp2_with fail
        refine (HMI.out.decideX _ _ w22 (Nat.le_refl _) hc22).mono ?_
        rintro e w23 ⟨v23, rfl, hi23, hb23⟩
        have HB23 := hid (below_after HB22.out hb23 (Nat.le_refl _))
        have hs23 := HB23.out.size
        have hd23 := hb23.size
        have HF23 := hid (below_after HF22.out hb23 (Nat.le_refl _))
        have zHF23 := HF23.out.size
        have HL23 := hid (below_after HL22.out hb23 (Nat.le_refl _))
        have zHL23 := HL23.out.size
        have HM23 := hid (below_after HM22.out hb23 (Nat.le_refl _))
        have zHM23 := HM23.out.size
        clear hb23
        obtain ⟨_, _, rfl, -, -⟩ := id hi23.open1
        clear hc22 hi23
        have hd7 : decide ((u.length : Int) < (v.length : Int)) = false := decide_eq_false (by omega)
        have hd8 : decide (u.length < v.length) = false := decide_eq_false (by omega)
        go_wp2_with fail
        refine (inside_ok bD bA HMI.out.in1 l1 _ _ w19.heap.size w23 (by omega) (HX19.out.below HM23.out) ((HX17.out.below HL23.out).le (by omega))).mono ?_
        rintro e w24 ⟨rfl, hb24⟩
        have HB24 := hid (below_after HB23.out hb24 (Nat.le_refl _))
        have hs24 := HB24.out.size
        have hd24 := hb24.size
        have HF24 := hid (below_after HF23.out hb24 (Nat.le_refl _))
        have zHF24 := HF24.out.size
        have HL24 := hid (below_after HL23.out hb24 (Nat.le_refl _))
        have zHL24 := HL24.out.size
        have HM24 := hid (below_after HM23.out hb24 (Nat.le_refl _))
        have zHM24 := HM24.out.size
        clear hb24
        go_wp2_with fail
        refine (inside_ok bS bB HMI.out.in2 l2 _ _ w19.heap.size w24 (by omega) (HY19.out.below HM24.out) ((HY17.out.below HL24.out).le (by omega))).mono ?_
        rintro e w25 ⟨rfl, hb25⟩
        have HB25 := hid (below_after HB24.out hb25 (Nat.le_refl _))
        have hs25 := HB25.out.size
        have hd25 := hb25.size
        have HF25 := hid (below_after HF24.out hb25 (Nat.le_refl _))
        have zHF25 := HF25.out.size
        have HL25 := hid (below_after HL24.out hb25 (Nat.le_refl _))
        have zHL25 := HL25.out.size
        have HM25 := hid (below_after HM24.out hb25 (Nat.le_refl _))
        have zHM25 := HM25.out.size
        clear hb25
        have hww : IntKind.i64.wrap wt = wt := IntWalk.i64_in _ (by omega)
        have hsl : (stockL [s0, s1, s2] c.heaps.length).length = c.heaps.length := stockL_length _ _ (by simp; omega)
        have hsb := stockL_bd [s0, s1, s2] c.heaps.length
        obtain ⟨r, hbl, hpb⟩ := HMI.out.blend (stockL [s0, s1, s2] c.heaps.length) (wt % 90 + 1) hsl hsb hW9.1 hW9.2
        have hst3 : (stockL [s0, s1, s2] c.heaps.length).length ≤ 3 := by omega
        obtain ⟨st, hst⟩ : ∃ st, st = stockL [s0, s1, s2] c.heaps.length := ⟨_, rfl⟩
        rw [← hst] at hbl hpb hst3
        have HST := hid hst
        have HBL := hid hbl
        have HPB := hid hpb
        clear hsl hsb hbl hpb hst
        by_cases hk0 : c.casks.length = 0
        · have hdk : decide ((0 : Int) < (c.casks.length : Int)) = false := decide_eq_false (by omega)
          have hdk2 : decide (0 < c.casks.length) = false := decide_eq_false (by omega)
          clear hk0
          have z0 := cell_of_row (HBZ.out w25 HB25.out) 0
          have z1 := cell_of_row (HBZ.out w25 HB25.out) 1
          have z2 := cell_of_row (HBZ.out w25 HB25.out) 2
          simp only [List.getElem?_toArray, List.getElem?_cons_zero, List.getElem?_cons_succ] at z0 z1 z2
          have j0 := cell_of_row (HBOX.out w25 HB25.out) 0
          have j1 := cell_of_row (HBOX.out w25 HB25.out) 1
          have j2 := cell_of_row (HBOX.out w25 HB25.out) 2
          simp only [List.getElem?_toArray, List.getElem?_cons_zero, List.getElem?_cons_succ] at j0 j1 j2
          go_wp2_with fail
          refine (stocked_any c g2 s0 s1 s2 hs0 hs1 hs2 _ w.heap.size w25 (by omega) (HCE.out w25 HB25.out)).mono ?_
          rintro e w30 ⟨v30, rfl, ho30, hb30⟩
          have HB30 := hid (below_after HB25.out hb30 (Nat.le_refl _))
          have hs30 := HB30.out.size
          have hd30 := hb30.size
          have HF30 := hid (below_after HF25.out hb30 (Nat.le_refl _))
          have zHF30 := HF30.out.size
          clear hb30 j0 j1 j2
          clear z0 z1 z2
          rw [← HST.out] at ho30
          have hi30 : Ints (Lt w30.heap.size) w30 v30 st := ho30.slLt encI_length
          obtain ⟨_, _, rfl, -, -⟩ := id hi30.open1
          have HI30 := hid hi30
          have HL30 := hid (Below.refl w30.heap.size w30)
          clear ho30 hi30
          have j0 := cell_of_row (HBOX.out w30 HB30.out) 0
          have j1 := cell_of_row (HBOX.out w30 HB30.out) 1
          have j2 := cell_of_row (HBOX.out w30 HB30.out) 2
          simp only [List.getElem?_toArray, List.getElem?_cons_zero, List.getElem?_cons_succ] at j0 j1 j2
          go_wp2_with fail
          refine (CellarL_any c _ w.heap.size w30 (by omega) (HCE.out w30 HB30.out) HSM.out).mono ?_
          rintro e w31 ⟨v31, rfl, hc31, hb31⟩
          have HB31 := hid (below_after HB30.out hb31 (Nat.le_refl _))
          have hs31 := HB31.out.size
          have hd31 := hb31.size
          have HF31 := hid (below_after HF30.out hb31 (Nat.le_refl _))
          have zHF31 := HF31.out.size
          have HL31 := hid (below_after HL30.out hb31 (Nat.le_refl _))
          have zHL31 := HL31.out.size
          clear hb31 j0 j1 j2
          obtain ⟨_, _, _, _, _, _, rfl, -⟩ := id hc31.open
          go_wp2_with fail
          refine (list_any st _ w30.heap.size w31 (by omega) (HI30.out.below HL31.out) (by omega)).mono ?_
          rintro e w32 ⟨v32, rfl, ho32, hb32⟩
          have HB32 := hid (below_after HB31.out hb32 (Nat.le_refl _))
          have hs32 := HB32.out.size
          have hd32 := hb32.size
          have HF32 := hid (below_after HF31.out hb32 (Nat.le_refl _))
          have zHF32 := HF32.out.size
          have HL32 := hid (below_after HL31.out hb32 (Nat.le_refl _))
          have zHL32 := HL32.out.size
          have HI_32 := hid hb32
          clear hb32
          have hi32 : Ints (Lt w32.heap.size) w32 v32 st := ho32.slLt encI_length
          obtain ⟨_, _, rfl, -, -⟩ := id hi32.open1
          have hc32 := (hc31.below HI_32.out).le hd32
          clear ho32 hc31
          cases r with
          | none =>
            have HBL0 := hid (show Bl2 c st (wt % 90 + 1) (gr % 101) [] 10 from HBL.out)
            go_wp2_with fail
            refine (HBL0.out _ _ _ w32 (Nat.le_refl _) hc32 hi32).mono ?_
            rintro e w33 ⟨v33, rfl, hi33, hb33⟩
            have HB33 := hid (below_after HB32.out hb33 (Nat.le_refl _))
            have hs33 := HB33.out.size
            have hd33 := hb33.size
            have HF33 := hid (below_after HF32.out hb33 (Nat.le_refl _))
            have zHF33 := HF33.out.size
            have HL33 := hid (below_after HL32.out hb33 (Nat.le_refl _))
            have zHL33 := HL33.out.size
            clear hb33
            clear hc32 hi32
            obtain ⟨_, _, rfl, -, -⟩ := id hi33.open1
            clear hi33
            go_wp2_with (go_at_call 20; refine (awake_any _).mono ?_; rintro e wz ⟨rfl, hbz⟩)
            go_ret
            exact ⟨rfl, hWb.trans ((below_after HB33.out hbz (Nat.le_refl _)).mono (by omega))⟩
          | some t =>
            have HBL0 := hid (show Bl2 c st (wt % 90 + 1) (gr % 101) t 0 from HBL.out)
            have HPT := hid (HPB.out t rfl)
            go_wp2_with fail
            refine (HBL0.out _ _ _ w32 (Nat.le_refl _) hc32 hi32).mono ?_
            rintro e w33 ⟨v33, rfl, hi33, hb33⟩
            have HB33 := hid (below_after HB32.out hb33 (Nat.le_refl _))
            have hs33 := HB33.out.size
            have hd33 := hb33.size
            have HF33 := hid (below_after HF32.out hb33 (Nat.le_refl _))
            have zHF33 := HF33.out.size
            have HL33 := hid (below_after HL32.out hb33 (Nat.le_refl _))
            have zHL33 := HL33.out.size
            clear hb33
            clear hc32 hi32
            obtain ⟨_, _, rfl, -, -⟩ := id hi33.open1
            have HI33 := hid hi33
            have HM33 := hid (Below.refl w33.heap.size w33)
            clear hi33
            have x0 := cell_of_row (HXB.out w33 HF33.out) 0
            have x1 := cell_of_row (HXB.out w33 HF33.out) 1
            have x2 := cell_of_row (HXB.out w33 HF33.out) 2
            simp only [List.getElem?_toArray, List.getElem?_cons_zero, List.getElem?_cons_succ] at x0 x1 x2
            go_wp2_with fail
            refine (CellarL_any x _ w9.heap.size w33 (by omega) (HXC.out w33 HF33.out) HSX.out).mono ?_
            rintro e w34 ⟨v34, rfl, hc34, hb34⟩
            have HB34 := hid (below_after HB33.out hb34 (Nat.le_refl _))
            have hs34 := HB34.out.size
            have hd34 := hb34.size
            have HF34 := hid (below_after HF33.out hb34 (Nat.le_refl _))
            have zHF34 := HF34.out.size
            have HL34 := hid (below_after HL33.out hb34 (Nat.le_refl _))
            have zHL34 := HL34.out.size
            have HM34 := hid (below_after HM33.out hb34 (Nat.le_refl _))
            have zHM34 := HM34.out.size
            clear hb34
            clear x0 x1 x2
            obtain ⟨_, _, _, _, _, _, rfl, -⟩ := id hc34.open
            go_wp2_with fail
            refine (list_any st _ w30.heap.size w34 (by omega) (HI30.out.below HL34.out) (by omega)).mono ?_
            rintro e w35 ⟨v35, rfl, ho35, hb35⟩
            have HB35 := hid (below_after HB34.out hb35 (Nat.le_refl _))
            have hs35 := HB35.out.size
            have hd35 := hb35.size
            have HF35 := hid (below_after HF34.out hb35 (Nat.le_refl _))
            have zHF35 := HF35.out.size
            have HL35 := hid (below_after HL34.out hb35 (Nat.le_refl _))
            have zHL35 := HL35.out.size
            have HM35 := hid (below_after HM34.out hb35 (Nat.le_refl _))
            have zHM35 := HM35.out.size
            have HI_35 := hid hb35
            clear hb35
            have hi35 : Ints (Lt w35.heap.size) w35 v35 st := ho35.slLt encI_length
            obtain ⟨_, _, rfl, -, -⟩ := id hi35.open1
            have hc35 := (hc34.below HI_35.out).le hd35
            clear ho35 hc34
            go_wp2_with fail
            refine (HPT.out.2 _ _ _ _ w35 (Nat.le_refl _) hc35 hi35 ((HI33.out.below HM35.out).le (by omega))).mono ?_
            rintro e w36 ⟨rfl, hb36⟩
            have HB36 := hid (below_after HB35.out hb36 (Nat.le_refl _))
            have hs36 := HB36.out.size
            have hd36 := hb36.size
            have HF36 := hid (below_after HF35.out hb36 (Nat.le_refl _))
            have zHF36 := HF36.out.size
            have HL36 := hid (below_after HL35.out hb36 (Nat.le_refl _))
            have zHL36 := HL36.out.size
            have HM36 := hid (below_after HM35.out hb36 (Nat.le_refl _))
            have zHM36 := HM36.out.size
            clear hb36
            clear hc35 hi35
            go_wp2_with (go_at_call 20; refine (awake_any _).mono ?_; rintro e wz ⟨rfl, hbz⟩)
            go_ret
            exact ⟨rfl, hWb.trans ((below_after HB36.out hbz (Nat.le_refl _)).mono (by omega))⟩
        · have hdk : decide ((0 : Int) < (c.casks.length : Int)) = true := decide_eq_true (by omega)
          have hdk2 : decide (0 < c.casks.length) = true := decide_eq_true (by omega)
          have hk1 : ((c.casks.length : Int) == 0) = false := by rw [beq_eq_false_iff_ne]; omega
          have hk2 : ¬ (c.casks.length : Int) = 0 := by omega
          have hwk : IntKind.i64.wrap at0 = at0 := IntWalk.i64_in _ (by omega)
          have hkp : 0 ≤ at0 % (c.casks.length : Int) := Int.emod_nonneg _ hk2
          have hkq : at0 % (c.casks.length : Int) < (c.casks.length : Int) := Int.emod_lt_of_pos _ (by omega)
          obtain ⟨gp, gq, hg1, hg2, hg3⟩ := HMI.out.graded _ hkp hkq
          have HG1 := hid hg1
          have HG2 := hid hg2
          clear hg1 hg2
          rcases hg3 with rfl | ⟨rfl, rfl⟩ | ⟨rfl, rfl⟩
          all_goals
            have j0 := cell_of_row (HBOX.out w25 HB25.out) 0
            have j1 := cell_of_row (HBOX.out w25 HB25.out) 1
            have j2 := cell_of_row (HBOX.out w25 HB25.out) 2
            simp only [List.getElem?_toArray, List.getElem?_cons_zero, List.getElem?_cons_succ] at j0 j1 j2
            go_wp2_with fail
            refine (CellarL_any c _ w.heap.size w25 (by omega) (HCE.out w25 HB25.out) HSM.out).mono ?_
            rintro e w26 ⟨v26, rfl, hc26, hb26⟩
            have HB26 := hid (below_after HB25.out hb26 (Nat.le_refl _))
            have hs26 := HB26.out.size
            have hd26 := hb26.size
            have HF26 := hid (below_after HF25.out hb26 (Nat.le_refl _))
            have zHF26 := HF26.out.size
            clear hb26 j0 j1 j2
            obtain ⟨_, _, _, _, _, _, rfl, -⟩ := id hc26.open
            go_wp2_with fail
            refine (HG1.out _ _ w26 (Nat.le_refl _) hc26).mono ?_
            rintro e w27 ⟨rfl, hb27⟩
            have HB27 := hid (below_after HB26.out hb27 (Nat.le_refl _))
            have hs27 := HB27.out.size
            have hd27 := hb27.size
            have HF27 := hid (below_after HF26.out hb27 (Nat.le_refl _))
            have zHF27 := HF27.out.size
            clear hb27
            clear hc26
            have x0 := cell_of_row (HXB.out w27 HF27.out) 0
            have x1 := cell_of_row (HXB.out w27 HF27.out) 1
            have x2 := cell_of_row (HXB.out w27 HF27.out) 2
            simp only [List.getElem?_toArray, List.getElem?_cons_zero, List.getElem?_cons_succ] at x0 x1 x2
            go_wp2_with fail
            refine (CellarL_any x _ w9.heap.size w27 (by omega) (HXC.out w27 HF27.out) HSX.out).mono ?_
            rintro e w28 ⟨v28, rfl, hc28, hb28⟩
            have HB28 := hid (below_after HB27.out hb28 (Nat.le_refl _))
            have hs28 := HB28.out.size
            have hd28 := hb28.size
            have HF28 := hid (below_after HF27.out hb28 (Nat.le_refl _))
            have zHF28 := HF28.out.size
            clear hb28
            clear x0 x1 x2
            obtain ⟨_, _, _, _, _, _, rfl, -⟩ := id hc28.open
            go_wp2_with fail
            refine (HG2.out _ _ w28 (Nat.le_refl _) hc28).mono ?_
            rintro e w29 ⟨rfl, hb29⟩
            have HB29 := hid (below_after HB28.out hb29 (Nat.le_refl _))
            have hs29 := HB29.out.size
            have hd29 := hb29.size
            have HF29 := hid (below_after HF28.out hb29 (Nat.le_refl _))
            have zHF29 := HF29.out.size
            clear hb29
            clear hc28
            have z0 := cell_of_row (HBZ.out w29 HB29.out) 0
            have z1 := cell_of_row (HBZ.out w29 HB29.out) 1
            have z2 := cell_of_row (HBZ.out w29 HB29.out) 2
            simp only [List.getElem?_toArray, List.getElem?_cons_zero, List.getElem?_cons_succ] at z0 z1 z2
            have j0 := cell_of_row (HBOX.out w29 HB29.out) 0
            have j1 := cell_of_row (HBOX.out w29 HB29.out) 1
            have j2 := cell_of_row (HBOX.out w29 HB29.out) 2
            simp only [List.getElem?_toArray, List.getElem?_cons_zero, List.getElem?_cons_succ] at j0 j1 j2
            go_wp2_with fail
            refine (stocked_any c g2 s0 s1 s2 hs0 hs1 hs2 _ w.heap.size w29 (by omega) (HCE.out w29 HB29.out)).mono ?_
            rintro e w30 ⟨v30, rfl, ho30, hb30⟩
            have HB30 := hid (below_after HB29.out hb30 (Nat.le_refl _))
            have hs30 := HB30.out.size
            have hd30 := hb30.size
            have HF30 := hid (below_after HF29.out hb30 (Nat.le_refl _))
            have zHF30 := HF30.out.size
            clear hb30 j0 j1 j2
            clear z0 z1 z2
            rw [← HST.out] at ho30
            have hi30 : Ints (Lt w30.heap.size) w30 v30 st := ho30.slLt encI_length
            obtain ⟨_, _, rfl, -, -⟩ := id hi30.open1
            have HI30 := hid hi30
            have HL30 := hid (Below.refl w30.heap.size w30)
            clear ho30 hi30
            have j0 := cell_of_row (HBOX.out w30 HB30.out) 0
            have j1 := cell_of_row (HBOX.out w30 HB30.out) 1
            have j2 := cell_of_row (HBOX.out w30 HB30.out) 2
            simp only [List.getElem?_toArray, List.getElem?_cons_zero, List.getElem?_cons_succ] at j0 j1 j2
            go_wp2_with fail
            refine (CellarL_any c _ w.heap.size w30 (by omega) (HCE.out w30 HB30.out) HSM.out).mono ?_
            rintro e w31 ⟨v31, rfl, hc31, hb31⟩
            have HB31 := hid (below_after HB30.out hb31 (Nat.le_refl _))
            have hs31 := HB31.out.size
            have hd31 := hb31.size
            have HF31 := hid (below_after HF30.out hb31 (Nat.le_refl _))
            have zHF31 := HF31.out.size
            have HL31 := hid (below_after HL30.out hb31 (Nat.le_refl _))
            have zHL31 := HL31.out.size
            clear hb31 j0 j1 j2
            obtain ⟨_, _, _, _, _, _, rfl, -⟩ := id hc31.open
            go_wp2_with fail
            refine (list_any st _ w30.heap.size w31 (by omega) (HI30.out.below HL31.out) (by omega)).mono ?_
            rintro e w32 ⟨v32, rfl, ho32, hb32⟩
            have HB32 := hid (below_after HB31.out hb32 (Nat.le_refl _))
            have hs32 := HB32.out.size
            have hd32 := hb32.size
            have HF32 := hid (below_after HF31.out hb32 (Nat.le_refl _))
            have zHF32 := HF32.out.size
            have HL32 := hid (below_after HL31.out hb32 (Nat.le_refl _))
            have zHL32 := HL32.out.size
            have HI_32 := hid hb32
            clear hb32
            have hi32 : Ints (Lt w32.heap.size) w32 v32 st := ho32.slLt encI_length
            obtain ⟨_, _, rfl, -, -⟩ := id hi32.open1
            have hc32 := (hc31.below HI_32.out).le hd32
            clear ho32 hc31
            cases r with
            | none =>
              have HBL0 := hid (show Bl2 c st (wt % 90 + 1) (gr % 101) [] 10 from HBL.out)
              go_wp2_with fail
              refine (HBL0.out _ _ _ w32 (Nat.le_refl _) hc32 hi32).mono ?_
              rintro e w33 ⟨v33, rfl, hi33, hb33⟩
              have HB33 := hid (below_after HB32.out hb33 (Nat.le_refl _))
              have hs33 := HB33.out.size
              have hd33 := hb33.size
              have HF33 := hid (below_after HF32.out hb33 (Nat.le_refl _))
              have zHF33 := HF33.out.size
              have HL33 := hid (below_after HL32.out hb33 (Nat.le_refl _))
              have zHL33 := HL33.out.size
              clear hb33
              clear hc32 hi32
              obtain ⟨_, _, rfl, -, -⟩ := id hi33.open1
              clear hi33
              go_wp2_with (go_at_call 20; refine (awake_any _).mono ?_; rintro e wz ⟨rfl, hbz⟩)
              go_ret
              exact ⟨rfl, hWb.trans ((below_after HB33.out hbz (Nat.le_refl _)).mono (by omega))⟩
            | some t =>
              have HBL0 := hid (show Bl2 c st (wt % 90 + 1) (gr % 101) t 0 from HBL.out)
              have HPT := hid (HPB.out t rfl)
              go_wp2_with fail
              refine (HBL0.out _ _ _ w32 (Nat.le_refl _) hc32 hi32).mono ?_
              rintro e w33 ⟨v33, rfl, hi33, hb33⟩
              have HB33 := hid (below_after HB32.out hb33 (Nat.le_refl _))
              have hs33 := HB33.out.size
              have hd33 := hb33.size
              have HF33 := hid (below_after HF32.out hb33 (Nat.le_refl _))
              have zHF33 := HF33.out.size
              have HL33 := hid (below_after HL32.out hb33 (Nat.le_refl _))
              have zHL33 := HL33.out.size
              clear hb33
              clear hc32 hi32
              obtain ⟨_, _, rfl, -, -⟩ := id hi33.open1
              have HI33 := hid hi33
              have HM33 := hid (Below.refl w33.heap.size w33)
              clear hi33
              have x0 := cell_of_row (HXB.out w33 HF33.out) 0
              have x1 := cell_of_row (HXB.out w33 HF33.out) 1
              have x2 := cell_of_row (HXB.out w33 HF33.out) 2
              simp only [List.getElem?_toArray, List.getElem?_cons_zero, List.getElem?_cons_succ] at x0 x1 x2
              go_wp2_with fail
              refine (CellarL_any x _ w9.heap.size w33 (by omega) (HXC.out w33 HF33.out) HSX.out).mono ?_
              rintro e w34 ⟨v34, rfl, hc34, hb34⟩
              have HB34 := hid (below_after HB33.out hb34 (Nat.le_refl _))
              have hs34 := HB34.out.size
              have hd34 := hb34.size
              have HF34 := hid (below_after HF33.out hb34 (Nat.le_refl _))
              have zHF34 := HF34.out.size
              have HL34 := hid (below_after HL33.out hb34 (Nat.le_refl _))
              have zHL34 := HL34.out.size
              have HM34 := hid (below_after HM33.out hb34 (Nat.le_refl _))
              have zHM34 := HM34.out.size
              clear hb34
              clear x0 x1 x2
              obtain ⟨_, _, _, _, _, _, rfl, -⟩ := id hc34.open
              go_wp2_with fail
              refine (list_any st _ w30.heap.size w34 (by omega) (HI30.out.below HL34.out) (by omega)).mono ?_
              rintro e w35 ⟨v35, rfl, ho35, hb35⟩
              have HB35 := hid (below_after HB34.out hb35 (Nat.le_refl _))
              have hs35 := HB35.out.size
              have hd35 := hb35.size
              have HF35 := hid (below_after HF34.out hb35 (Nat.le_refl _))
              have zHF35 := HF35.out.size
              have HL35 := hid (below_after HL34.out hb35 (Nat.le_refl _))
              have zHL35 := HL35.out.size
              have HM35 := hid (below_after HM34.out hb35 (Nat.le_refl _))
              have zHM35 := HM35.out.size
              have HI_35 := hid hb35
              clear hb35
              have hi35 : Ints (Lt w35.heap.size) w35 v35 st := ho35.slLt encI_length
              obtain ⟨_, _, rfl, -, -⟩ := id hi35.open1
              have hc35 := (hc34.below HI_35.out).le hd35
              clear ho35 hc34
              go_wp2_with fail
              refine (HPT.out.2 _ _ _ _ w35 (Nat.le_refl _) hc35 hi35 ((HI33.out.below HM35.out).le (by omega))).mono ?_
              rintro e w36 ⟨rfl, hb36⟩
              have HB36 := hid (below_after HB35.out hb36 (Nat.le_refl _))
              have hs36 := HB36.out.size
              have hd36 := hb36.size
              have HF36 := hid (below_after HF35.out hb36 (Nat.le_refl _))
              have zHF36 := HF36.out.size
              have HL36 := hid (below_after HL35.out hb36 (Nat.le_refl _))
              have zHL36 := HL36.out.size
              have HM36 := hid (below_after HM35.out hb36 (Nat.le_refl _))
              have zHM36 := HM36.out.size
              clear hb36
              clear hc35 hi35
              go_wp2_with (go_at_call 20; refine (awake_any _).mono ?_; rintro e wz ⟨rfl, hbz⟩)
              go_ret
              exact ⟨rfl, hWb.trans ((below_after HB36.out hbz (Nat.le_refl _)).mono (by omega))⟩
      · have hd5 : decide ((0 : Int) < (M.length : Int)) = true := decide_eq_true (by omega)
        have hd6 : decide (0 < M.length) = true := decide_eq_true (by omega)
        go_wp2_with (go_at_call 20; refine (awake_any _).mono ?_; rintro e wz ⟨rfl, hbz⟩)
        go_ret
        exact ⟨rfl, hWb.trans ((below_after HB15.out hbz (Nat.le_refl _)).mono (by omega))⟩
end Go.Proofs.Ytjddcaimjofihaa
