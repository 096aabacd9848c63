/- The walk of the law CaskMean; no condition. -/
import Derived.Test.YtjddcaimjofihaaXG
import Derived.Test.YtjddcaimjofihaaT2
import Derived.Test.YtjddcaimjofihaaR3
import Derived.Test.YtjddcaimjofihaaPA
import Derived.Test.YtjddcaimjofihaaRH
import Derived.Test.YtjddcaimjofihaaU4
import Derived.Deep.Cut
import Derived.Deep.CutRange
namespace Go.Proofs.Ytjddcaimjofihaa
open Go.RowKit Go.Shelf
set_option maxRecDepth 100000

/-- One cell of a list in memory is set. -/
theorem ints_putQ {S : Nat → Prop} {w : World} {b cap n : Nat} {l : List Int} (h : Ints S w (.slice (some ⟨b, 0, none⟩) n cap) l) (hn : n = l.length) (k : Nat) (hk : k < l.length) (x : Int) : Ints S (w.setCell ⟨b, k, none⟩ (.int .i64 x)) (.slice (some ⟨b, 0, none⟩) n cap) (l.set k x) := by
  subst hn
  have hcell : w.cell? ⟨b, k, none⟩ = some (.int .i64 l[k]) := by
    obtain ⟨_, _, he, -, hor⟩ := h.open1
    injection he with he
    rcases hor with h0 | ⟨b', off, e, -, hcc⟩
    · subst h0; simp at hk
    · rw [e] at he
      injection he with he
      injection he with e1 e2
      subst e1; subst e2
      simpa using hcc k hk
  refine Sl.put (sz := 1) (enc := fun n : Int => [Value.int .i64 n]) h (fun _ => rfl) k hk x (fun i c hc => ?_) (fun j _ hne i hi => ?_)
  · match i, hc with
    | 0, hc =>
      simp only [List.getElem?_cons_zero, Option.some.injEq] at hc
      subst hc
      simpa using World.cell?_setCell_same _ _ _ hcell
    | i + 1, hc => simp at hc
  · exact World.cell?_setCell_other _ _ _ _ (by intro e; injection e with _ e; omega)
theorem ints_cell {S : Nat → Prop} {w : World} {b cap n : Nat} {l : List Int} (h : Ints S w (.slice (some ⟨b, 0, none⟩) n cap) l) {k : Nat} {x : Int} (hk : l[k]? = some x) : w.cell? ⟨b, k, none⟩ = some (.int .i64 x) := by
  obtain ⟨_, _, he, -, hor⟩ := h.at
  injection he with he
  have hl := (List.getElem?_eq_some_iff.1 hk).1
  rcases hor with h0 | ⟨b', off, e, -, hcc⟩
  · subst h0; simp at hl
  · rw [e] at he
    injection he with he
    injection he with e1 e2
    subst e1; subst e2
    have := hcc k hl 0 (.int .i64 l[k]) rfl
    rw [(List.getElem?_eq_some_iff.1 hk).2] at this
    simpa using this

theorem ints_off {S : Nat → Prop} {w : World} {b cap n g i : Nat} {l : List Int} (h : Ints S w (.slice (some ⟨b, 0, none⟩) n cap) l) (hne : b ≠ g) (p) (v : Value) : Ints S (w.setCell ⟨g, i, p⟩ v) (.slice (some ⟨b, 0, none⟩) n cap) l := by
  obtain ⟨a, cap', hv, hcap, hor⟩ := h
  refine ⟨a, cap', hv, hcap, ?_⟩
  rcases hor with h | ⟨b', off, ha, hb, hc⟩
  · exact .inl h
  · refine .inr ⟨b', off, ha, hb, fun k x hk i' c hci => ?_⟩
    rw [World.cell?_setCell_other _ _ _ _ (by intro e; injection e with e _; subst ha; injection hv with hv; injection hv with hv; injection hv with hv; omega)]
    exact hc k x hk i' c hci

theorem ints_at {S P : Nat → Prop} {w : World} {b cap n : Nat} {l : List Int} (h : Ints S w (.slice (some ⟨b, 0, none⟩) n cap) l) (hb : P b) : Ints P w (.slice (some ⟨b, 0, none⟩) n cap) l := by
  obtain ⟨a, cap', hv, hcap, hor⟩ := h
  refine ⟨a, cap', hv, hcap, ?_⟩
  rcases hor with h | ⟨b', off, ha, -, hc⟩
  · exact .inl h
  · refine .inr ⟨b', off, ha, ?_, hc⟩
    subst ha
    injection hv with hv
    injection hv with hv
    injection hv with hv
    subst hv
    exact hb

/-- Behind the append to the list of casks: what has turned. -/
theorem after_append {X Y n : Nat} {A D : World} {o : Obj} {v u : Value} {ls : List (List Int)} {l : List Int} {cs : Array Value} {t : TypeId} (hown : OwnL (X + 1) D v (ls ++ [l])) (hg : (A.alloc o).grownBy D (Value.ownBlock (.slice (some ⟨Y, 0, none⟩) 2 2))) (hr : A.heap[X]? = some (.cells cs t (0, 0))) (hXY : X ≠ Y) (hn : (ls ++ [l]).length = n) (hu : cs[1]? = some u) :
    ∃ pa pc, v = .slice pa n pc ∧ Hid (OwnL (X + 1) D (.slice pa n pc) (ls ++ [l])) ∧ Hid (Chg (fun b => b = Y) A D) ∧ Hid (D.heap[X]? = some (.cells cs t (0, 0))) ∧ D.cell? ⟨X, 1, none⟩ = some u ∧ D.frozen? ⟨X, 1, none⟩ = false ∧ X < D.heap.size ∧ A.heap.size ≤ D.heap.size := by
  have hC : Chg (fun b => b = Y) A D := (chg_alloc _ _).trans ((chg_grown hg).mono fun b hb => by simpa [Value.ownBlock] using hb.symm)
  obtain ⟨pa, pc, hv⟩ := hown.open
  subst hv
  have hR := row_chg hr hC hXY
  subst hn
  exact ⟨pa, pc, rfl, hown, hC, hR, (cell_of_row hR 1).trans hu, frozen_of_row hR 1, (Array.getElem?_eq_some_iff.1 hR).1, hC.size⟩

/-- What the comparisons of the law need. -/
structure MeanSays (lo hi y m0 m1 : Int) : Prop where
  low : lo ≤ m0
  high : m0 ≤ hi
  up : m0 ≤ y → m0 ≤ m1
  down : y ≤ m0 → m1 ≤ m0

-- AUX
set_option maxHeartbeats 16000000 in
theorem CaskMean_walk (c : Ce) (v : Value) {w : World} (h : CeV (Lt w.heap.size) w v c) (a : Int) (ha0 : 0 ≤ a ∧ a ≤ 65535) (at0 : Int) (hat : 0 ≤ at0 ∧ at0 ≤ 255) (hp : Int) (hhp : 0 ≤ hp ∧ hp ≤ 255) (mo : Int) (hmo : 0 ≤ mo ∧ mo ≤ 255) :
    Calls Try.prog 6 #[v, .int .u16 a, .int .u8 at0, .int .u8 hp, .int .u8 mo] w (RetT w) := by
  have h' := h
  obtain ⟨ha, hc, ka, kc, ta, tc, rfl, hp1, hp2, hp3⟩ := h.open
  have HOP := hid (And.intro hp1 (And.intro hp2 hp3))
  clear hp1 hp2 hp3
  obtain ⟨W, hW⟩ : ∃ W, W = w.alloc (Obj.cells #[.slice ha c.heaps.length hc, .slice ka c.casks.length kc, .slice ta c.trials.length tc] 26) := ⟨_, rfl⟩
  have hWs : W.heap.size = w.heap.size + 1 := by rw [hW]; simp
  have hWb : Below w.heap.size w W := by rw [hW]; exact below_alloc1 (Nat.le_refl _) _
  have hWr : W.heap[w.heap.size]? = some (.cells #[.slice ha c.heaps.length hc, .slice ka c.casks.length kc, .slice ta c.trials.length tc] 26 (0, 0)) := by rw [hW]; exact heap_new _ _
  have HBOX := hid (fun w1 (hb : Below W.heap.size W w1) => (hb.block w.heap.size (by omega)).trans hWr : ∀ w1, Below W.heap.size W w1 → w1.heap[w.heap.size]? = _)
  have HCE := hid (fun w1 (hb : Below W.heap.size W w1) => h'.below (hWb.trans (hb.mono (by omega)) |>.mono (Nat.le_refl _)) : ∀ w1, Below W.heap.size W w1 → CeV (Lt _) w1 _ c)
  clear hWr h' h
  have HP2 := hid HOP.out.2.1
  clear HOP
  obtain ⟨rb, hrb⟩ : ∃ rb, rb = readyB c := ⟨_, rfl⟩
  have HRB := hid hrb
  clear hrb
  cases rb with
  | false =>
    go_enter Try.func6, Try.ntmps6
    go_wp2_with fail
    rw [← hW]
    clear hW
    refine (ready_hid c HRB _ w.heap.size W (by omega) (HCE.out W (Below.refl _ _))).mono ?_
    rintro e w1 ⟨rfl, hb1⟩
    have HB1 := hid hb1
    have hs1 := hb1.size
    clear hb1
    go_wp2_with (go_at_call 20; refine (awake_any _).mono ?_; rintro e wz ⟨rfl, hbz⟩)
    go_ret
    exact ⟨rfl, hWb.trans ((below_after HB1.out hbz (Nat.le_refl _)).mono (by omega))⟩
  | true =>
    have hf := ready_fault HRB.out.symm
    have hsm := thin_small (ready_thin HRB.out.symm)
    have hgood := (fault_good hf).1
    obtain ⟨⟨g1, g2, g3, g4⟩, gr, gk, -⟩ := hgood.facts
    have HF := hid hf
    have HSM := hid hsm
    have HGD := hid hgood
    have HGR := hid gr
    by_cases hz : c.casks.length = 0
    · have hz1 : ((c.casks.length : Int) == 0) = true := by simp [hz]
      clear hz
      go_enter Try.func6, Try.ntmps6
      go_wp2_with fail
      rw [← hW]
      clear hW
      refine (ready_hid c HRB _ w.heap.size W (by omega) (HCE.out W (Below.refl _ _))).mono ?_
      rintro e w1 ⟨rfl, hb1⟩
      have HB1 := hid hb1
      have hs1 := hb1.size
      clear hb1
      have j0 := cell_of_row (HBOX.out w1 HB1.out) 0
      have j1 := cell_of_row (HBOX.out w1 HB1.out) 1
      have j2 := cell_of_row (HBOX.out w1 HB1.out) 2
      simp only [List.getElem?_toArray, List.getElem?_cons_zero, List.getElem?_cons_succ] at j0 j1 j2
      clear j0 j2
      go_wp2_with (go_at_call 20; refine (awake_any _).mono ?_; rintro e wz ⟨rfl, hbz⟩)
      go_ret
      exact ⟨rfl, hWb.trans ((below_after HB1.out hbz (Nat.le_refl _)).mono (by omega))⟩
    · have hz1 : ((c.casks.length : Int) == 0) = false := by rw [beq_eq_false_iff_ne]; omega
      have hzn : ¬ (c.casks.length : Int) = 0 := by omega
      have hhn : ¬ (c.heaps.length : Int) = 0 := by omega
      have hh1 : ((c.heaps.length : Int) == 0) = false := by rw [beq_eq_false_iff_ne]; exact hhn
      have hwa : IntKind.i64.wrap a = a := IntWalk.i64_in _ (by omega)
      have hwt : IntKind.i64.wrap at0 = at0 := IntWalk.i64_in _ (by omega)
      have hwh : IntKind.i64.wrap hp = hp := IntWalk.i64_in _ (by omega)
      have hwm : IntKind.i64.wrap mo = mo := IntWalk.i64_in _ (by omega)
      obtain ⟨hm2, hm1⟩ := (manyR_eq hf).2
      obtain ⟨M, hM⟩ : ∃ M, M = manyR c := ⟨_, rfl⟩
      rw [← hM] at hm2 hm1
      have HMM := hid hM
      have hmz : ¬ M = 0 := by omega
      have hme : 0 ≤ a % M ∧ a % M ≤ 1000000 := by have := Int.emod_nonneg a hmz; have := Int.emod_lt_of_pos a (show 0 < M by omega); omega
      obtain ⟨kk, hkk⟩ := Int.eq_ofNat_of_zero_le (Int.emod_nonneg at0 hzn)
      have hkl : kk < c.casks.length := by have := Int.emod_lt_of_pos at0 (show (0 : Int) < (c.casks.length : Int) by omega); omega
      obtain ⟨hh, hhh⟩ := Int.eq_ofNat_of_zero_le (Int.emod_nonneg hp hhn)
      have hhl : hh < c.heaps.length := by have := Int.emod_lt_of_pos hp (show (0 : Int) < (c.heaps.length : Int) by omega); omega
      have HKK := hid hkk
      have HHH := hid hhh
      obtain ⟨t, ht⟩ : ∃ t, t = nthL c.heaps (a % M) := ⟨_, rfl⟩
      have hlt : listed c.heaps t = true := by rw [ht]; exact nthL_listed _ (good_size hgood) _
      have HT := hid ht
      have HLT := hid hlt
      have HFT := hid (fit_listed hgood hlt)
      have HTL := hid (listed_length _ _ hlt)
      have ht3 : t.length ≤ 3 := by have := HTL.out; omega
      have hkm : ((c.casks.length : Int) == 0) = false := hz1
      have HKN := hid (show ¬ c.casks = [] from fun e => hz (by rw [e]; rfl))
      have HHN := hid (show ¬ c.heaps = [] from fun e => by rw [e] at g1; simp at g1)
      have hWi : W.heap.size ≤ w.heap.size + 1 ∧ w.heap.size + 1 ≤ W.heap.size := by omega
      clear hf hsm hgood gr hM hkk hhh ht hlt hz hWs
      go_enter Try.func6, Try.ntmps6
      go_wp2_with fail
      rw [← hW]
      clear hW
      refine (ready_hid c HRB _ w.heap.size W (by omega) (HCE.out W (Below.refl _ _))).mono ?_
      rintro e w1 ⟨rfl, hb1⟩
      have HB1 := hid hb1
      have hs1 := hb1.size
      clear hb1
      have j0 := cell_of_row (HBOX.out w1 HB1.out) 0
      have j1 := cell_of_row (HBOX.out w1 HB1.out) 1
      have j2 := cell_of_row (HBOX.out w1 HB1.out) 2
      simp only [List.getElem?_toArray, List.getElem?_cons_zero, List.getElem?_cons_succ] at j0 j1 j2
      go_wp2
      have hSS := hid (fun w' (h : Below W.heap.size W w') => ⟨cell_of_row (HBOX.out w' h) 0, cell_of_row (HBOX.out w' h) 1, cell_of_row (HBOX.out w' h) 2⟩ :
        ∀ w', Below W.heap.size W w' → w'.cell? ⟨w.heap.size, 0, none⟩ = some (.slice ha c.heaps.length hc) ∧ w'.cell? ⟨w.heap.size, 1, none⟩ = some (.slice ka c.casks.length kc) ∧ w'.cell? ⟨w.heap.size, 2, none⟩ = some (.slice ta c.trials.length tc))
      refine wp_region_grow (by as_aux_lemma => kernel_rfl) 7 (fun w' => Below W.heap.size W w') ?_ ?_
      · exact HB1.out.drew
      have HG := fun (a b : World) (h : Below W.heap.size W a) (k : Below a.heap.size a b) => (h.trans (k.mono h.size) : Below W.heap.size W b)
      clear j0 j1 j2
      refine wpG_take (i := 0) (v := .agg #[.slice ha c.heaps.length hc, .slice ka c.casks.length kc, .slice ta c.trials.length tc]) rfl rfl (by as_aux_lemma => kernel_rfl) (by as_aux_lemma => kernel_rfl) (by as_aux_lemma => kernel_rfl) (by as_aux_lemma => kernel_rfl) (fun _ _ _ h => h) (by rfl) (fun w' hS' => grow_value ?_ hS') ?_
      · have ⟨s0, s1, s2⟩ := hSS.out _ hS'; go_simp
      try simp only [List.setIfInBounds_toArray, List.set_cons_zero, List.set_cons_succ]
      refine wpG_take (i := 1) (v := .int .u16 a) rfl rfl (by as_aux_lemma => kernel_rfl) (by as_aux_lemma => kernel_rfl) (by as_aux_lemma => kernel_rfl) (by as_aux_lemma => kernel_rfl) (fun _ _ _ h => h) (by rfl) (fun w' hS' => grow_value ?_ hS') ?_
      · go_simp
      try simp only [List.setIfInBounds_toArray, List.set_cons_zero, List.set_cons_succ]
      refine wpG_take (i := 2) (v := .int .i64 a) rfl rfl (by as_aux_lemma => kernel_rfl) (by as_aux_lemma => kernel_rfl) (by as_aux_lemma => kernel_rfl) (by as_aux_lemma => kernel_rfl) (fun _ _ _ h => h) (by rfl) (fun w' hS' => grow_value ?_ hS') ?_
      · go_simp
      try simp only [List.setIfInBounds_toArray, List.set_cons_zero, List.set_cons_succ]
      refine wpG_take (i := 3) (v := .agg #[.slice ha c.heaps.length hc, .slice ka c.casks.length kc, .slice ta c.trials.length tc]) rfl rfl (by as_aux_lemma => kernel_rfl) (by as_aux_lemma => kernel_rfl) (by as_aux_lemma => kernel_rfl) (by as_aux_lemma => kernel_rfl) (fun _ _ _ h => h) (by rfl) (fun w' hS' => grow_value ?_ hS') ?_
      · have ⟨s0, s1, s2⟩ := hSS.out _ hS'; go_simp
      try simp only [List.setIfInBounds_toArray, List.set_cons_zero, List.set_cons_succ]
      refine wpG_take (i := 4) (v := .int .i64 M) rfl rfl (by as_aux_lemma => kernel_rfl) (by as_aux_lemma => kernel_rfl) (by as_aux_lemma => kernel_rfl) (by as_aux_lemma => kernel_rfl) (fun _ _ _ h => h) (by rfl) (fun w' hS' => grow_make (f := 40) (args := #[.agg #[.slice ha c.heaps.length hc, .slice ka c.casks.length kc, .slice ta c.trials.length tc]]) ?_ hS' HG ?_) ?_
      · have ⟨s0, s1, s2⟩ := hSS.out _ hS'; go_simp
      · have ⟨s0, s1, s2⟩ := hSS.out _ hS'; exact manyR_hid c HMM HGR.out (by omega) _ w.heap.size _ (by have := hS'.size; omega) (HCE.out _ hS')
      try simp only [List.setIfInBounds_toArray, List.set_cons_zero, List.set_cons_succ]
      refine wpG_take (i := 5) (v := .int .i64 (a % M)) rfl rfl (by as_aux_lemma => kernel_rfl) (by as_aux_lemma => kernel_rfl) (by as_aux_lemma => kernel_rfl) (by as_aux_lemma => kernel_rfl) (fun _ _ _ h => h) (by rfl) (fun w' hS' => grow_value ?_ hS') ?_
      · have ⟨s0, s1, s2⟩ := hSS.out _ hS'; go_simp; exact Int.tmod_eq_emod_of_nonneg (by omega)
      try simp only [List.setIfInBounds_toArray, List.set_cons_zero, List.set_cons_succ]
      refine wpG_only (i := 6) rfl (by rfl) (by as_aux_lemma => kernel_rfl) (by rfl) (fun wI hbI hSI => ?_)
      go_simp
      refine (nth_any c HGR.out (by omega) (a % M) hme _ w.heap.size wI (by have := hSI.size; omega) (HCE.out wI hSI)).mono ?_
      rintro e w2 ⟨v2, rfl, ho2, hb2⟩
      have hS2 := HG _ _ hSI hb2
      rw [← HT.out] at ho2
      have hi2 : Ints (Lt w2.heap.size) w2 v2 t := ho2.slLt encI_length
      obtain ⟨ta2, tc2, rfl, -, -⟩ := id hi2.open1
      refine ⟨hS2, ?_⟩
      clear ho2 hb2 hbI hSI
      try simp only [List.setIfInBounds_toArray, List.set_cons_zero, List.set_cons_succ]
      refine wpG_last rfl (by as_aux_lemma => kernel_rfl) (by as_aux_lemma => kernel_rfl) (by rfl) (fun w3 hb3 hS3 => ?_)
      go_simp
      have HB3 := hid hS3
      have HI3 := hid ((hi2.below hb3).le hb3.size)
      have HM3 := hid (Below.refl w3.heap.size w3)
      have hs3 := hS3.size
      clear HG hS2 hi2 hb3 hS3
      go_wp2
      refine wp_region_grow (by as_aux_lemma => kernel_rfl) 99 (fun w' => Below w3.heap.size w3 w') ?_ ?_
      · exact (Below.refl _ _).drew
      have HG := fun (a b : World) (h : Below w3.heap.size w3 a) (k : Below a.heap.size a b) => (h.trans (k.mono h.size) : Below w3.heap.size w3 b)
      have HSX := hid (fun w' (h : Below w3.heap.size w3 w') => hSS.out w' (below_after HB3.out h (Nat.le_refl _)))
      refine wpG_take (i := 0) (v := .int .u8 at0) rfl rfl (by as_aux_lemma => kernel_rfl) (by as_aux_lemma => kernel_rfl) (by as_aux_lemma => kernel_rfl) (by as_aux_lemma => kernel_rfl) (fun _ _ _ h => h) (by rfl) (fun w' hS' => grow_value ?_ hS') ?_
      · go_simp
      try simp only [List.setIfInBounds_toArray, List.set_cons_zero, List.set_cons_succ]
      refine wpG_take (i := 1) (v := .int .i64 at0) rfl rfl (by as_aux_lemma => kernel_rfl) (by as_aux_lemma => kernel_rfl) (by as_aux_lemma => kernel_rfl) (by as_aux_lemma => kernel_rfl) (fun _ _ _ h => h) (by rfl) (fun w' hS' => grow_value ?_ hS') ?_
      · go_simp
      try simp only [List.setIfInBounds_toArray, List.set_cons_zero, List.set_cons_succ]
      refine wpG_take (i := 2) (v := .pointer (some ⟨w.heap.size, 1, none⟩)) rfl rfl (by as_aux_lemma => kernel_rfl) (by as_aux_lemma => kernel_rfl) (by as_aux_lemma => kernel_rfl) (by as_aux_lemma => kernel_rfl) (fun _ _ _ h => h) (by rfl) (fun w' hS' => grow_value ?_ hS') ?_
      · go_simp
      try simp only [List.setIfInBounds_toArray, List.set_cons_zero, List.set_cons_succ]
      refine wpG_take (i := 3) (v := .slice ka c.casks.length kc) rfl rfl (by as_aux_lemma => kernel_rfl) (by as_aux_lemma => kernel_rfl) (by as_aux_lemma => kernel_rfl) (by as_aux_lemma => kernel_rfl) (fun _ _ _ h => h) (by rfl) (fun w' hS' => grow_value ?_ hS') ?_
      · have ⟨s0, s1, s2⟩ := HSX.out _ hS'; go_simp
      try simp only [List.setIfInBounds_toArray, List.set_cons_zero, List.set_cons_succ]
      refine wpG_take (i := 4) (v := .int .i64 c.casks.length) rfl rfl (by as_aux_lemma => kernel_rfl) (by as_aux_lemma => kernel_rfl) (by as_aux_lemma => kernel_rfl) (by as_aux_lemma => kernel_rfl) (fun _ _ _ h => h) (by rfl) (fun w' hS' => grow_value ?_ hS') ?_
      · go_simp
      try simp only [List.setIfInBounds_toArray, List.set_cons_zero, List.set_cons_succ]
      refine wpG_take (i := 5) (v := .int .i64 kk) rfl rfl (by as_aux_lemma => kernel_rfl) (by as_aux_lemma => kernel_rfl) (by as_aux_lemma => kernel_rfl) (by as_aux_lemma => kernel_rfl) (fun _ _ _ h => h) (by rfl) (fun w' hS' => grow_value ?_ hS') ?_
      · have ⟨s0, s1, s2⟩ := HSX.out _ hS'; go_simp; (rw [if_neg HKN.out, ← HKK.out, Int.tmod_eq_emod_of_nonneg hat.1])
      try simp only [List.setIfInBounds_toArray, List.set_cons_zero, List.set_cons_succ]
      refine wpG_take (i := 6) (v := .int .u8 hp) rfl rfl (by as_aux_lemma => kernel_rfl) (by as_aux_lemma => kernel_rfl) (by as_aux_lemma => kernel_rfl) (by as_aux_lemma => kernel_rfl) (fun _ _ _ h => h) (by rfl) (fun w' hS' => grow_value ?_ hS') ?_
      · go_simp
      try simp only [List.setIfInBounds_toArray, List.set_cons_zero, List.set_cons_succ]
      refine wpG_take (i := 7) (v := .int .i64 hp) rfl rfl (by as_aux_lemma => kernel_rfl) (by as_aux_lemma => kernel_rfl) (by as_aux_lemma => kernel_rfl) (by as_aux_lemma => kernel_rfl) (fun _ _ _ h => h) (by rfl) (fun w' hS' => grow_value ?_ hS') ?_
      · go_simp
      try simp only [List.setIfInBounds_toArray, List.set_cons_zero, List.set_cons_succ]
      refine wpG_take (i := 8) (v := .pointer (some ⟨w.heap.size, 0, none⟩)) rfl rfl (by as_aux_lemma => kernel_rfl) (by as_aux_lemma => kernel_rfl) (by as_aux_lemma => kernel_rfl) (by as_aux_lemma => kernel_rfl) (fun _ _ _ h => h) (by rfl) (fun w' hS' => grow_value ?_ hS') ?_
      · go_simp
      try simp only [List.setIfInBounds_toArray, List.set_cons_zero, List.set_cons_succ]
      refine wpG_take (i := 9) (v := .slice ha c.heaps.length hc) rfl rfl (by as_aux_lemma => kernel_rfl) (by as_aux_lemma => kernel_rfl) (by as_aux_lemma => kernel_rfl) (by as_aux_lemma => kernel_rfl) (fun _ _ _ h => h) (by rfl) (fun w' hS' => grow_value ?_ hS') ?_
      · have ⟨s0, s1, s2⟩ := HSX.out _ hS'; go_simp
      try simp only [List.setIfInBounds_toArray, List.set_cons_zero, List.set_cons_succ]
      refine wpG_take (i := 10) (v := .int .i64 c.heaps.length) rfl rfl (by as_aux_lemma => kernel_rfl) (by as_aux_lemma => kernel_rfl) (by as_aux_lemma => kernel_rfl) (by as_aux_lemma => kernel_rfl) (fun _ _ _ h => h) (by rfl) (fun w' hS' => grow_value ?_ hS') ?_
      · go_simp
      try simp only [List.setIfInBounds_toArray, List.set_cons_zero, List.set_cons_succ]
      refine wpG_take (i := 11) (v := .int .i64 hh) rfl rfl (by as_aux_lemma => kernel_rfl) (by as_aux_lemma => kernel_rfl) (by as_aux_lemma => kernel_rfl) (by as_aux_lemma => kernel_rfl) (fun _ _ _ h => h) (by rfl) (fun w' hS' => grow_value ?_ hS') ?_
      · have ⟨s0, s1, s2⟩ := HSX.out _ hS'; go_simp; (rw [if_neg HHN.out, ← HHH.out, Int.tmod_eq_emod_of_nonneg hhp.1])
      try simp only [List.setIfInBounds_toArray, List.set_cons_zero, List.set_cons_succ]
      refine wpG_take (i := 12) (v := .int .i64 kk) rfl rfl (by as_aux_lemma => kernel_rfl) (by as_aux_lemma => kernel_rfl) (by as_aux_lemma => kernel_rfl) (by as_aux_lemma => kernel_rfl) (fun _ _ _ h => h) (by rfl) (fun w' hS' => grow_value ?_ hS') ?_
      · go_simp
      try simp only [List.setIfInBounds_toArray, List.set_cons_zero, List.set_cons_succ]
      refine wpG_take (i := 13) (v := .int .i64 hh) rfl rfl (by as_aux_lemma => kernel_rfl) (by as_aux_lemma => kernel_rfl) (by as_aux_lemma => kernel_rfl) (by as_aux_lemma => kernel_rfl) (fun _ _ _ h => h) (by rfl) (fun w' hS' => grow_value ?_ hS') ?_
      · go_simp
      try simp only [List.setIfInBounds_toArray, List.set_cons_zero, List.set_cons_succ]
      refine wpG_done (by as_aux_lemma => kernel_rfl) (fun w4 hq hbx => ?_) _
      have HB4 := hid (below_after HB3.out hbx (Nat.le_refl _))
      have HM4 := hid hbx
      have hs4 := HB4.out.size
      have zHM4 := hbx.size
      clear HG hq hbx HSX
      have j0 := cell_of_row (HBOX.out w4 HB4.out) 0
      have j1 := cell_of_row (HBOX.out w4 HB4.out) 1
      have j2 := cell_of_row (HBOX.out w4 HB4.out) 2
      simp only [List.getElem?_toArray, List.getElem?_cons_zero, List.getElem?_cons_succ] at j0 j1 j2
      go_wp2
      obtain ⟨X, hX⟩ : ∃ X, X = w4.heap.size := ⟨_, rfl⟩
      obtain ⟨w5, hw5⟩ : ∃ w', w' = w4.alloc (Obj.cells #[.slice ha c.heaps.length hc, .slice ka c.casks.length kc, .slice none 0 0] 26) := ⟨_, rfl⟩
      have hs5 : w5.heap.size = X + 1 := by rw [hw5, hX]; simp
      have hr5 : w5.heap[X]? = some (.cells #[.slice ha c.heaps.length hc, .slice ka c.casks.length kc, .slice none 0 0] 26 (0, 0)) := by rw [hw5, hX]; exact heap_new _ _
      have hb5 : Below w4.heap.size w4 w5 := by rw [hw5]; exact below_alloc1 (Nat.le_refl _) _
      have HB5 := hid (below_after HB4.out hb5 (Nat.le_refl _))
      have HM5 := hid (below_after HM4.out hb5 (Nat.le_refl _))
      have HR5 := hid hr5
      have hX4 : X ≤ w4.heap.size ∧ w4.heap.size ≤ X := by omega
      have zHM5 := HM5.out.size
      have hs5i : w5.heap.size ≤ X + 1 ∧ X + 1 ≤ w5.heap.size := by omega
      rw [← hw5, ← hX]
      clear hw5 hX hr5 hb5 j0 j1 j2 hs5
      -- the cask that is asked for
      obtain ⟨_, _, hke, -, hko⟩ := HP2.out.open
      cases hke
      rcases hko with hnil | ⟨bk, ok, rfl, hbk, hck⟩
      · exact absurd hnil HKN.out
      obtain ⟨kvv, yk, hkx⟩ := hck kk hkl
      have hbk' : bk < w.heap.size := hbk
      have hcw := HGD.out.facts.2.2.1 c.casks[kk] (List.getElem_mem _)
      have HCW := hid hcw
      have HCK := hid (show isCask c.heaps.length c.casks[kk] = true from isCask_iff.2 hcw)
      clear hck hcw
      generalize c.casks[kk] = ws at *
      have hwl3 : ws.length ≤ 3 := by have := HCW.out.1; omega
      obtain ⟨wa0, wcap, rfl, -, -⟩ := id hkx.open1
      have HKX := hid hkx
      have HW5 := hid (fun w' (h : Below w5.heap.size w5 w') => hWb.trans ((below_after HB5.out h (Nat.le_refl _)).mono (by omega)) : ∀ w', Below w5.heap.size w5 w' → Below w.heap.size w w')
      have HSX := hid (fun w' (h : Below w5.heap.size w5 w') => ⟨cell_of_row (HBOX.out w' (below_after HB5.out h (Nat.le_refl _))) 1, ((HW5.out w' h).cell (p := ⟨bk, ok + kk, none⟩) hbk').trans yk⟩ :
        ∀ w', Below w5.heap.size w5 w' → w'.cell? ⟨w.heap.size, 1, none⟩ = some (.slice (some ⟨bk, ok, none⟩) c.casks.length kc) ∧ w'.cell? ⟨bk, ok + kk, none⟩ = some (.slice wa0 ws.length wcap))
      clear yk hkx
      refine wp_region_grow (by as_aux_lemma => kernel_rfl) 13 (fun w' => Below w5.heap.size w5 w') ?_ ?_
      · exact (Below.refl _ _).drew
      have HG := fun (a b : World) (h : Below w5.heap.size w5 a) (k : Below a.heap.size a b) => (h.trans (k.mono h.size) : Below w5.heap.size w5 b)
      refine wpG_take (i := 0) (v := .pointer (some ⟨w.heap.size, 1, none⟩)) rfl rfl (by as_aux_lemma => kernel_rfl) (by as_aux_lemma => kernel_rfl) (by as_aux_lemma => kernel_rfl) (by as_aux_lemma => kernel_rfl) (fun _ _ _ h => h) (by rfl) (fun w' hS' => grow_value ?_ hS') ?_
      · go_simp
      try simp only [List.setIfInBounds_toArray, List.set_cons_zero, List.set_cons_succ]
      refine wpG_take (i := 1) (v := .slice (some ⟨bk, ok, none⟩) c.casks.length kc) rfl rfl (by as_aux_lemma => kernel_rfl) (by as_aux_lemma => kernel_rfl) (by as_aux_lemma => kernel_rfl) (by as_aux_lemma => kernel_rfl) (fun _ _ _ h => h) (by rfl) (fun w' hS' => grow_value ?_ hS') ?_
      · have ⟨s0, s1⟩ := HSX.out _ hS'; go_simp
      try simp only [List.setIfInBounds_toArray, List.set_cons_zero, List.set_cons_succ]
      refine wpG_take (i := 2) (v := .int .i64 kk) rfl rfl (by as_aux_lemma => kernel_rfl) (by as_aux_lemma => kernel_rfl) (by as_aux_lemma => kernel_rfl) (by as_aux_lemma => kernel_rfl) (fun _ _ _ h => h) (by rfl) (fun w' hS' => grow_value ?_ hS') ?_
      · go_simp
      try simp only [List.setIfInBounds_toArray, List.set_cons_zero, List.set_cons_succ]
      refine wpG_take (i := 3) (v := .pointer (some ⟨bk, ok + kk, none⟩)) rfl rfl (by as_aux_lemma => kernel_rfl) (by as_aux_lemma => kernel_rfl) (by as_aux_lemma => kernel_rfl) (by as_aux_lemma => kernel_rfl) (fun _ _ _ h => h) (by rfl) (fun w' hS' => grow_value ?_ hS') ?_
      · go_simp
      try simp only [List.setIfInBounds_toArray, List.set_cons_zero, List.set_cons_succ]
      refine wpG_take (i := 4) (v := .slice wa0 ws.length wcap) rfl rfl (by as_aux_lemma => kernel_rfl) (by as_aux_lemma => kernel_rfl) (by as_aux_lemma => kernel_rfl) (by as_aux_lemma => kernel_rfl) (fun _ _ _ h => h) (by rfl) (fun w' hS' => grow_value ?_ hS') ?_
      · have ⟨s0, s1⟩ := HSX.out _ hS'; go_simp
      try simp only [List.setIfInBounds_toArray, List.set_cons_zero, List.set_cons_succ]
      refine wpG_take (i := 6) (v := .pointer (some ⟨w.heap.size, 1, none⟩)) rfl rfl (by as_aux_lemma => kernel_rfl) (by as_aux_lemma => kernel_rfl) (by as_aux_lemma => kernel_rfl) (by as_aux_lemma => kernel_rfl) (fun _ _ _ h => h) (by rfl) (fun w' hS' => grow_value ?_ hS') ?_
      · go_simp
      try simp only [List.setIfInBounds_toArray, List.set_cons_zero, List.set_cons_succ]
      refine wpG_take (i := 7) (v := .slice (some ⟨bk, ok, none⟩) c.casks.length kc) rfl rfl (by as_aux_lemma => kernel_rfl) (by as_aux_lemma => kernel_rfl) (by as_aux_lemma => kernel_rfl) (by as_aux_lemma => kernel_rfl) (fun _ _ _ h => h) (by rfl) (fun w' hS' => grow_value ?_ hS') ?_
      · have ⟨s0, s1⟩ := HSX.out _ hS'; go_simp
      try simp only [List.setIfInBounds_toArray, List.set_cons_zero, List.set_cons_succ]
      refine wpG_take (i := 8) (v := .int .i64 kk) rfl rfl (by as_aux_lemma => kernel_rfl) (by as_aux_lemma => kernel_rfl) (by as_aux_lemma => kernel_rfl) (by as_aux_lemma => kernel_rfl) (fun _ _ _ h => h) (by rfl) (fun w' hS' => grow_value ?_ hS') ?_
      · go_simp
      try simp only [List.setIfInBounds_toArray, List.set_cons_zero, List.set_cons_succ]
      refine wpG_take (i := 9) (v := .pointer (some ⟨bk, ok + kk, none⟩)) rfl rfl (by as_aux_lemma => kernel_rfl) (by as_aux_lemma => kernel_rfl) (by as_aux_lemma => kernel_rfl) (by as_aux_lemma => kernel_rfl) (fun _ _ _ h => h) (by rfl) (fun w' hS' => grow_value ?_ hS') ?_
      · go_simp
      try simp only [List.setIfInBounds_toArray, List.set_cons_zero, List.set_cons_succ]
      refine wpG_take (i := 10) (v := .slice wa0 ws.length wcap) rfl rfl (by as_aux_lemma => kernel_rfl) (by as_aux_lemma => kernel_rfl) (by as_aux_lemma => kernel_rfl) (by as_aux_lemma => kernel_rfl) (fun _ _ _ h => h) (by rfl) (fun w' hS' => grow_value ?_ hS') ?_
      · have ⟨s0, s1⟩ := HSX.out _ hS'; go_simp
      try simp only [List.setIfInBounds_toArray, List.set_cons_zero, List.set_cons_succ]
      refine wpG_only (i := 5) rfl (by rfl) (by as_aux_lemma => kernel_rfl) (by rfl) (fun wI hbI hSI => ?_)
      go_simp
      refine (list_any ws _ w.heap.size wI (by have := hSI.size; omega) (HKX.out.below (HW5.out wI hSI)) (by omega)).mono ?_
      rintro e w6 ⟨v6, rfl, ho6, hb6⟩
      have hS6 := HG _ _ hSI hb6
      have hq6 : Own (X + 1) 3 1 encI w6 v6 ws := ho6.lower (by have := hSI.size; omega)
      obtain ⟨pa6, pc6, rfl, -, -⟩ := id (hq6.slLt encI_length).open1
      refine ⟨hS6, ?_⟩
      clear ho6 hb6 hbI hSI
      try simp only [List.setIfInBounds_toArray, List.set_cons_zero, List.set_cons_succ]
      refine wpG_only (i := 11) rfl (by rfl) (by as_aux_lemma => kernel_rfl) (by rfl) (fun wI hbI hSI => ?_)
      go_simp
      refine (list_any ws _ w.heap.size wI (by have := hSI.size; omega) (HKX.out.below (HW5.out wI hSI)) (by omega)).mono ?_
      rintro e w7 ⟨v7, rfl, ho7, hb7⟩
      have hS7 := HG _ _ hSI hb7
      have hq7 := (hq6.below hbI).below hb7
      have hlt6 := hq6.block
      have hsz6 := hbI.size
      obtain ⟨pa7, pc7, rfl, -, -⟩ := id (ho7.slLt encI_length).open1
      have HAP := hid (show ∀ b, Value.ownBlock (.slice pa6 ws.length pc6) = some b → Value.ownBlock (.slice pa7 ws.length pc7) ≠ some b from fun b h1 h2 => by have := hlt6 b h1; have := ho7.block b h2; omega)
      have hq7' : Own (X + 1) 3 1 encI w7 (.slice pa7 ws.length pc7) ws := ho7.lower (by have := hSI.size; omega)
      refine ⟨hS7, ?_⟩
      clear ho7 hb7 hbI hSI hq6 hlt6 hsz6
      try simp only [List.setIfInBounds_toArray, List.set_cons_zero, List.set_cons_succ]
      refine wpG_take (i := 12) (v := .slice pa6 ws.length pc6) rfl rfl (by as_aux_lemma => kernel_rfl) (by as_aux_lemma => kernel_rfl) (by as_aux_lemma => kernel_rfl) (by as_aux_lemma => kernel_rfl) (fun _ _ _ h => h) (by rfl) (fun w' hS' => grow_value ?_ hS') ?_
      · go_simp
      try simp only [List.setIfInBounds_toArray, List.set_cons_zero, List.set_cons_succ]
      refine wpG_last rfl (by as_aux_lemma => kernel_rfl) (by as_aux_lemma => kernel_rfl) (by rfl) (fun w8 hb8 hS8 => ?_)
      go_simp
      have HB8 := hid (below_after HB5.out hS8 (Nat.le_refl _))
      have HM8 := hid (below_after HM5.out hS8 (Nat.le_refl _))
      have HY8 := hid hS8
      have HT8 := hid (hq7.below hb8)
      have HE8 := hid (hq7'.below hb8)
      have hs8 := HB8.out.size
      have zHM8 := HM8.out.size
      have zHY8 := hS8.size
      clear HG hS6 hS7 hq7 hq7' hb8 hS8 hSS
      go_wp2
      rcases HT8.out.2 with ⟨-, hn⟩ | ⟨g6, cap6, cur6, he6, hg6, hgg6, -⟩
      · exfalso; have := HCW.out.1; omega
      injection he6 with he6 _ he6'
      subst he6; subst he6'
      rcases HE8.out.2 with ⟨-, hn⟩ | ⟨g7, cap7, cur7, he7, hg7, hgg7, -⟩
      · exfalso; have := HCW.out.1; omega
      injection he7 with he7 _ he7'
      subst he7; subst he7'
      have hne67 : g7 ≠ g6 := fun e => HAP.out g6 rfl (by rw [e]; rfl)
      have hl6 := (Array.getElem?_eq_some_iff.1 hgg6).1
      have hl7 := (Array.getElem?_eq_some_iff.1 hgg7).1
      have HG6 := hid hgg6
      have HIT := hid (show Ints (Lt w8.heap.size) w8 (.slice (some ⟨g6, 0, none⟩) ws.length pc6) (dblL ws 0) by rw [dblL_zero]; exact HT8.out.slLt encI_length)
      clear hgg6 hgg7 HAP
      go_loopw [17, 18, 19, 20] (fun lv hv fv i wr => ∃ (k : Nat) (lo hi : Int) (fb : Bool) (cur : Array Value), k ≤ ws.length ∧ i = .int .i64 k ∧ lv = .int .i64 lo ∧ hv = .int .i64 hi ∧ fv = .bool fb ∧ Hid (lo = lowF 101 (ws.take k) (t.take k) ∧ hi = highF (-1) (ws.take k) (t.take k) ∧ fb = fitB ws k) ∧ Hid (Ints (Lt w8.heap.size) wr (.slice (some ⟨g6, 0, none⟩) ws.length pc6) (dblL ws k)) ∧ Hid (wr.heap[g6]? = some (.cells cur 3 (0, 0))) ∧ Hid (Chg (fun b => b = g6) w8 wr)) (fun _ _ _ i _ => ws.length - (intOf i).toNat)
      case atStart => exact ⟨0, 101, -1, true, cur6, by omega, rfl, rfl, rfl, rfl, hid ⟨rfl, rfl, rfl⟩, HIT, HG6, hid (Chg.refl _ _)⟩
      case round =>
        obtain ⟨k, lo, hi, fb, cur, hk, rfl, rfl, rfl, rfl, HVA, HIK, HGK, HCH⟩ := hrel
        have hcs := HCH.out.size
        have HBr := hid (HB8.out.trans (HCH.out.below (n := W.heap.size) (by omega) (fun b hb e => by omega)))
        have HMr := hid (HM8.out.trans (HCH.out.below (n := w3.heap.size) (by omega) (fun b hb e => by omega)))
        have hsr := HBr.out.size
        have zHMr := HMr.out.size
        have HYr := hid (HY8.out.trans (HCH.out.below (n := w5.heap.size) (by omega) (fun b hb e => by omega)))
        have zHYr := HYr.out.size
        by_cases hlt : k < ws.length
        · have hltt : k < t.length := by have := HTL.out; have := HCW.out.1; omega
          have c6 := ints_cell HIK.out (dblL_get ws k hlt)
          have f6 := frozen_of_row HGK.out k
          obtain ⟨_, _, he3, -, ho3⟩ := HI3.out.open1
          cases he3
          rcases ho3 with hnil | ⟨bt, offt, rfl, hbt, hct⟩
          · rw [hnil] at hltt; simp at hltt
          have hbt' : bt < w3.heap.size := hbt
          have z2 := (HMr.out.cell (p := ⟨bt, offt + k, none⟩) hbt').trans (hct k hltt)
          have hgw := List.getElem?_eq_getElem hlt
          have hgt := List.getElem?_eq_getElem hltt
          have hwx := HCW.out.2.1 ws[k] (List.getElem_mem _)
          have htx := HFT.out.bd t[k] (List.getElem_mem _)
          have HLS := hid (lowF_take ws t 101 k _ _ hgw hgt)
          have HHS := hid (highF_take ws t (-1) k _ _ hgw hgt)
          have HFS := hid (fitB_succ ws k hlt)
          have HDS := hid (dblL_set ws k hlt)
          rw [← HVA.out.1] at HLS
          rw [← HVA.out.2.1] at HHS
          rw [← HVA.out.2.2] at HFS
          clear hct hgw hgt
          generalize ws[k] = x at *
          generalize t[k] = tk at *
          have hw2 : IntKind.i64.wrap (x * 2) = x * 2 := IntWalk.i64_in _ (by omega)
          by_cases hpos : 0 < x
          · have hdp : decide (0 < x) = true := decide_eq_true hpos
            have HL2 := hid (HLS.out.trans (if_pos hpos))
            have HH2 := hid (HHS.out.trans (if_pos hpos))
            clear HLS HHS
            go_wp2
            refine wp_region_ts (by as_aux_lemma => kernel_rfl) [] (fun w' => w'.cell? ⟨bt, offt + k, none⟩ = some (.int .i64 tk)) ?_
            obtain ⟨wD, hwD⟩ : ∃ w', w' = wr.drew := ⟨_, rfl⟩
            have hbD : Below wr.heap.size wr wD := by rw [hwD]; exact (Below.refl _ _).drew
            have hS0 : (fun w' : World => w'.cell? ⟨bt, offt + k, none⟩ = some (.int .i64 tk)) wD := by rw [hwD]; exact z2
            rw [← hwD]
            clear hwD z2
            refine wpTs_pure (i := 0) (v := .int .i64 lo) rfl rfl (by as_aux_lemma => kernel_rfl) (by as_aux_lemma => kernel_rfl) (by as_aux_lemma => kernel_rfl) (fun _ _ _ h => h) (by rfl) (fun w' => ?_) ?_
            · go_simp
            try simp only [List.setIfInBounds_toArray, List.set_cons_zero, List.set_cons_succ]
            refine wpTs_pure (i := 1) (v := .slice (some ⟨bt, offt, none⟩) t.length tc2) rfl rfl (by as_aux_lemma => kernel_rfl) (by as_aux_lemma => kernel_rfl) (by as_aux_lemma => kernel_rfl) (fun _ _ _ h => h) (by rfl) (fun w' => ?_) ?_
            · go_simp
            try simp only [List.setIfInBounds_toArray, List.set_cons_zero, List.set_cons_succ]
            refine wpTs_pure (i := 2) (v := .int .i64 k) rfl rfl (by as_aux_lemma => kernel_rfl) (by as_aux_lemma => kernel_rfl) (by as_aux_lemma => kernel_rfl) (fun _ _ _ h => h) (by rfl) (fun w' => ?_) ?_
            · go_simp
            try simp only [List.setIfInBounds_toArray, List.set_cons_zero, List.set_cons_succ]
            refine wpTs_pure (i := 3) (v := .pointer (some ⟨bt, offt + k, none⟩)) rfl rfl (by as_aux_lemma => kernel_rfl) (by as_aux_lemma => kernel_rfl) (by as_aux_lemma => kernel_rfl) (fun _ _ _ h => h) (by rfl) (fun w' => ?_) ?_
            · go_simp
            try simp only [List.setIfInBounds_toArray, List.set_cons_zero, List.set_cons_succ]
            refine wpTs_take (i := 4) (v := .int .i64 tk) rfl rfl (by as_aux_lemma => kernel_rfl) (by as_aux_lemma => kernel_rfl) (by as_aux_lemma => kernel_rfl) (by as_aux_lemma => kernel_rfl) (fun _ _ _ h => h) (by rfl) (fun w' hS' => ?_) hS0 ?_
            · have s0 := hS'; go_simp
            try simp only [List.setIfInBounds_toArray, List.set_cons_zero, List.set_cons_succ]
            refine wpTs_pure (i := 5) (v := .int .i64 (min lo tk)) rfl rfl (by as_aux_lemma => kernel_rfl) (by as_aux_lemma => kernel_rfl) (by as_aux_lemma => kernel_rfl) (fun _ _ _ h => h) (by rfl) (fun w' => ?_) ?_
            · go_simp; (split <;> omega)
            try simp only [List.setIfInBounds_toArray, List.set_cons_zero, List.set_cons_succ]
            refine wpTs_pure (i := 6) (v := .int .i64 hi) rfl rfl (by as_aux_lemma => kernel_rfl) (by as_aux_lemma => kernel_rfl) (by as_aux_lemma => kernel_rfl) (fun _ _ _ h => h) (by rfl) (fun w' => ?_) ?_
            · go_simp
            try simp only [List.setIfInBounds_toArray, List.set_cons_zero, List.set_cons_succ]
            refine wpTs_pure (i := 7) (v := .slice (some ⟨bt, offt, none⟩) t.length tc2) rfl rfl (by as_aux_lemma => kernel_rfl) (by as_aux_lemma => kernel_rfl) (by as_aux_lemma => kernel_rfl) (fun _ _ _ h => h) (by rfl) (fun w' => ?_) ?_
            · go_simp
            try simp only [List.setIfInBounds_toArray, List.set_cons_zero, List.set_cons_succ]
            refine wpTs_pure (i := 8) (v := .int .i64 k) rfl rfl (by as_aux_lemma => kernel_rfl) (by as_aux_lemma => kernel_rfl) (by as_aux_lemma => kernel_rfl) (fun _ _ _ h => h) (by rfl) (fun w' => ?_) ?_
            · go_simp
            try simp only [List.setIfInBounds_toArray, List.set_cons_zero, List.set_cons_succ]
            refine wpTs_pure (i := 9) (v := .pointer (some ⟨bt, offt + k, none⟩)) rfl rfl (by as_aux_lemma => kernel_rfl) (by as_aux_lemma => kernel_rfl) (by as_aux_lemma => kernel_rfl) (fun _ _ _ h => h) (by rfl) (fun w' => ?_) ?_
            · go_simp
            try simp only [List.setIfInBounds_toArray, List.set_cons_zero, List.set_cons_succ]
            refine wpTs_take (i := 10) (v := .int .i64 tk) rfl rfl (by as_aux_lemma => kernel_rfl) (by as_aux_lemma => kernel_rfl) (by as_aux_lemma => kernel_rfl) (by as_aux_lemma => kernel_rfl) (fun _ _ _ h => h) (by rfl) (fun w' hS' => ?_) hS0 ?_
            · have s0 := hS'; go_simp
            try simp only [List.setIfInBounds_toArray, List.set_cons_zero, List.set_cons_succ]
            refine wpTs_pure (i := 11) (v := .int .i64 (max hi tk)) rfl rfl (by as_aux_lemma => kernel_rfl) (by as_aux_lemma => kernel_rfl) (by as_aux_lemma => kernel_rfl) (fun _ _ _ h => h) (by rfl) (fun w' => ?_) ?_
            · go_simp; (split <;> omega)
            try simp only [List.setIfInBounds_toArray, List.set_cons_zero, List.set_cons_succ]
            refine wpTs_pure (i := 12) (v := .int .i64 (min lo tk)) rfl rfl (by as_aux_lemma => kernel_rfl) (by as_aux_lemma => kernel_rfl) (by as_aux_lemma => kernel_rfl) (fun _ _ _ h => h) (by rfl) (fun w' => ?_) ?_
            · go_simp
            try simp only [List.setIfInBounds_toArray, List.set_cons_zero, List.set_cons_succ]
            refine wpTs_pure (i := 13) (v := .int .i64 (max hi tk)) rfl rfl (by as_aux_lemma => kernel_rfl) (by as_aux_lemma => kernel_rfl) (by as_aux_lemma => kernel_rfl) (fun _ _ _ h => h) (by rfl) (fun w' => ?_) ?_
            · go_simp
            try simp only [List.setIfInBounds_toArray, List.set_cons_zero, List.set_cons_succ]
            refine wpTs_done (by as_aux_lemma => kernel_rfl) ?_ _
            obtain ⟨lo', hlo'⟩ : ∃ lo', lo' = min lo tk := ⟨_, rfl⟩
            obtain ⟨hi', hhi'⟩ : ∃ hi', hi' = max hi tk := ⟨_, rfl⟩
            have HL2 := hid (hlo'.trans HL2.out.symm)
            have HH2 := hid (hhi'.trans HH2.out.symm)
            rw [← hlo', ← hhi']
            have hcD := HCH.out.trans (chg_of_below hbD (T := fun b => b = g6))
            have HCD := hid hcD
            have HID := hid (HIK.out.keep (w' := wD) ⟨hbD.size, fun b hb => hbD.block b (by have : b < w8.heap.size := hb; omega)⟩)
            have HGD2 := hid (row_grow HGK.out hbD)
            have c6 := (hbD.cell (p := ⟨g6, k, none⟩) (by show g6 < _; omega)).trans c6
            have f6 := frozen_of_row HGD2.out k
            have lD : w8.heap.size ≤ wD.heap.size := by have := hbD.size; omega
            clear hlo' hhi' hcD hbD hS0
            cases fb with
            | false =>
              go_wp2
              go_roundw
              case rel => exact ⟨k + 1, lo', hi', _, _, by omega, by go_num, rfl, rfl, rfl, hid ⟨HL2.out, HH2.out, (by rw [HFS.out]; rfl)⟩, hid (by rw [← HDS.out]; exact ints_putQ HID.out (dblL_length ws k).symm k (by rw [dblL_length]; exact hlt) _), hid (row_set HGD2.out k _), hid (HCD.out.trans (setCell_chg (g := g6) (i := k) _))⟩
              case measure => simp [intOf]; omega
            | true =>
              by_cases hle : x * 2 ≤ 30
              · have HFV := hid (show true = fitB ws (k + 1) by rw [HFS.out, decide_eq_true hle]; rfl)
                have hdl : decide (x * 2 ≤ 30) = true := decide_eq_true hle
                go_wp2
                go_roundw
                case rel => exact ⟨k + 1, lo', hi', _, _, by omega, by go_num, rfl, rfl, rfl, hid ⟨HL2.out, HH2.out, (by exact HFV.out)⟩, hid (by rw [← HDS.out]; exact ints_putQ HID.out (dblL_length ws k).symm k (by rw [dblL_length]; exact hlt) _), hid (row_set HGD2.out k _), hid (HCD.out.trans (setCell_chg (g := g6) (i := k) _))⟩
                case measure => simp [intOf]; omega
              · have HFV := hid (show false = fitB ws (k + 1) by rw [HFS.out, decide_eq_false hle]; rfl)
                have hdl : decide (x * 2 ≤ 30) = false := decide_eq_false hle
                go_wp2
                go_roundw
                case rel => exact ⟨k + 1, lo', hi', _, _, by omega, by go_num, rfl, rfl, rfl, hid ⟨HL2.out, HH2.out, (by exact HFV.out)⟩, hid (by rw [← HDS.out]; exact ints_putQ HID.out (dblL_length ws k).symm k (by rw [dblL_length]; exact hlt) _), hid (row_set HGD2.out k _), hid (HCD.out.trans (setCell_chg (g := g6) (i := k) _))⟩
                case measure => simp [intOf]; omega
          · have hdp : decide (0 < x) = false := decide_eq_false hpos
            have HL2 := hid (HLS.out.trans (if_neg hpos)).symm
            have HH2 := hid (HHS.out.trans (if_neg hpos)).symm
            clear HLS HHS
            have HCD := HCH
            have HID := HIK
            have HGD2 := HGK
            obtain ⟨wD, hwD⟩ : ∃ w', w' = wr := ⟨_, rfl⟩
            have HCD := hid (show Chg (fun b => b = g6) w8 wD by rw [hwD]; exact HCH.out)
            have HID := hid (show Ints (Lt w8.heap.size) wD (.slice (some ⟨g6, 0, none⟩) ws.length pc6) (dblL ws k) by rw [hwD]; exact HIK.out)
            have HGD2 := hid (show wD.heap[g6]? = some (.cells cur 3 (0, 0)) by rw [hwD]; exact HGK.out)
            rw [← hwD] at c6 f6 ⊢
            have lD : w8.heap.size ≤ wD.heap.size := by rw [hwD]; exact hcs
            clear hwD z2
            have hle : x * 2 ≤ 30 := by omega
            have hdl : decide (x * 2 ≤ 30) = true := decide_eq_true hle
            cases fb with
            | false =>
              go_wp2
              go_roundw
              case rel => exact ⟨k + 1, lo, hi, _, _, by omega, by go_num, rfl, rfl, rfl, hid ⟨HL2.out, HH2.out, (by rw [HFS.out]; rfl)⟩, hid (by rw [← HDS.out]; exact ints_putQ HID.out (dblL_length ws k).symm k (by rw [dblL_length]; exact hlt) _), hid (row_set HGD2.out k _), hid (HCD.out.trans (setCell_chg (g := g6) (i := k) _))⟩
              case measure => simp [intOf]; omega
            | true =>
              have HFV := hid (show true = fitB ws (k + 1) by rw [HFS.out, decide_eq_true hle]; rfl)
              go_wp2
              go_roundw
              case rel => exact ⟨k + 1, lo, hi, _, _, by omega, by go_num, rfl, rfl, rfl, hid ⟨HL2.out, HH2.out, (by exact HFV.out)⟩, hid (by rw [← HDS.out]; exact ints_putQ HID.out (dblL_length ws k).symm k (by rw [dblL_length]; exact hlt) _), hid (row_set HGD2.out k _), hid (HCD.out.trans (setCell_chg (g := g6) (i := k) _))⟩
              case measure => simp [intOf]; omega
        · have hke : k = ws.length := by omega
          subst hke
          have hva := HVA.out
          rw [List.take_length, List.take_of_length_le (by have := HTL.out; have := HCW.out.1; omega)] at hva
          have HVE := hid hva
          have HI9 := hid (show Ints (Lt w8.heap.size) wr (.slice (some ⟨g6, 0, none⟩) ws.length pc6) (ws.map fun x => x * 2) by rw [← dblL_all]; exact HIK.out)
          have HE9 := hid (HE8.out.chg_ne HCH.out (fun b hb e => by injection hb with hb; exact hne67 (hb.trans e)))
          clear hva HVA HIK HGK HIT HG6 HE8 HT8
          rcases HE9.out.2 with ⟨-, hn⟩ | ⟨g8, cap8, cur8, he8, hg8, hgg8, -⟩
          · exfalso; have := HCW.out.1; omega
          injection he8 with he8 _ he8'
          injection he8 with he8
          injection he8 with he8
          subst he8; subst he8'
          have HIE := hid (HE9.out.slLt encI_length)
          have hhw : hh < ws.length := by have := HCW.out.1; omega
          have hgx := List.getElem?_eq_getElem hhw
          have hcell := ints_cell HIE.out hgx
          have f7 := frozen_of_row hgg8 hh
          have HG8 := hid hgg8
          have hwx := HCW.out.2.1 ws[hh] (List.getElem_mem _)
          have HGX := hid hgx
          clear hgx hgg8
          generalize ws[hh] = x at *
          have hm9 : 0 ≤ mo % 9 ∧ mo % 9 ≤ 8 := by omega
          go_upto_region 16 with fail
          go_cut [] from 103 to 114 (fun wx => ∃ vv : Int, x ≤ vv ∧ vv ≤ 30 ∧ wx = wr.setCell ⟨g7, hh, none⟩ (.int .i64 vv))
          case first =>
            by_cases hmn : x + mo % 9 < 30
            all_goals
              go_wp2_with fail
              go_meet
              case rel => exact ⟨_, by omega, by omega, rfl⟩
          case rest =>
            obtain ⟨vv, hv1, hv2, hwc⟩ := hcut
            have HVV := hid (And.intro hv1 hv2)
            obtain ⟨w10, hw10⟩ : ∃ w', w' = wc := ⟨_, rfl⟩
            rw [← hw10] at hwc ⊢
            clear hw10 hv1 hv2 hcell f7
            have hs10 : w10.heap.size = wr.heap.size := by rw [hwc]; simp [World.setCell]
            have HI10 := hid (show Ints (Lt wr.heap.size) w10 (.slice (some ⟨g7, 0, none⟩) ws.length pc7) (ws.set hh vv) by rw [hwc]; exact ints_putQ HIE.out rfl hh hhw vv)
            have HJ10 := hid (show Ints (Lt w8.heap.size) w10 (.slice (some ⟨g6, 0, none⟩) ws.length pc6) (ws.map fun x => x * 2) by rw [hwc]; exact ints_off HI9.out (Ne.symm hne67) _ _)
            have HB10 := hid (show Below W.heap.size W w10 by rw [hwc]; exact HBr.out.setCell (p := ⟨g7, _, none⟩) (by show W.heap.size ≤ g7; omega) _)
            have HM10 := hid (show Below w3.heap.size w3 w10 by rw [hwc]; exact HMr.out.setCell (p := ⟨g7, _, none⟩) (by show w3.heap.size ≤ g7; omega) _)
            have HY10 := hid (show Below w5.heap.size w5 w10 by rw [hwc]; exact HYr.out.setCell (p := ⟨g7, _, none⟩) (by show w5.heap.size ≤ g7; omega) _)
            have zHM10 := HM10.out.size
            have zHY10 := HY10.out.size
            clear hwc HIE HI9 HE9 HG8
            have ⟨s0, s1⟩ := HSX.out _ HY10.out
            go_wp2_with fail
            refine (list_any ws _ w.heap.size w10 (by omega) (HKX.out.below (HW5.out w10 HY10.out)) (by omega)).mono ?_
            rintro e w11 ⟨v11, rfl, ho11, hb11⟩
            have HB11 := hid (below_after HB10.out hb11 (Nat.le_refl _))
            have hs11 := HB11.out.size
            have hd11 := hb11.size
            have HM11 := hid (below_after HM10.out hb11 (Nat.le_refl _))
            have zHM11 := HM11.out.size
            have HY11 := hid (below_after HY10.out hb11 (Nat.le_refl _))
            have zHY11 := HY11.out.size
            have HK11 := hid hb11
            clear hb11
            rcases ho11.2 with ⟨-, hn⟩ | ⟨g9, cap9, cur9, he9, hg9, hgg9, -⟩
            · exfalso; have := HCW.out.1; omega
            subst he9
            have hl11 := list_keep ho11
            have hl9 := (Array.getElem?_eq_some_iff.1 hgg9).1
            obtain ⟨Y, hY⟩ : ∃ Y, Y = w11.heap.size := ⟨_, rfl⟩
            have hrX := (HY11.out.block X (by omega)).trans HR5.out
            have f1 := frozen_of_row hrX 1
            have q1 := cell_of_row hrX 1
            have HL11 := hid hl11
            have HRX := hid hrX
            clear ho11 hl11 hrX hgg9
            have lX : X < w11.heap.size := by have := HY11.out.size; omega
            go_upto_region 18 with fail
            obtain ⟨w12, hw12⟩ : ∃ w', w' = (w11.setCell ⟨X, 1, none⟩ (.slice (some ⟨w11.heap.size, 0, none⟩) 2 2)).alloc (Obj.cells #[.slice (some ⟨g9, 0, none⟩) ws.length cap9, .slice (some ⟨g7, 0, none⟩) ws.length pc7] 47) := ⟨_, rfl⟩
            rw [← hw12, ← hY]
            rw [← hY] at hw12
            have hs12 : w12.heap.size = Y + 1 := by rw [hw12, hY]; simp [World.setCell]
            have hsr12 : Y ≤ w11.heap.size ∧ w11.heap.size ≤ Y := by omega
            have hR12 : w12.heap[X]? = some (.cells #[.slice ha c.heaps.length hc, .slice (some ⟨Y, 0, none⟩) 2 2, .slice none 0 0] 26 (0, 0)) := by
              rw [hw12]
              exact (Below.heap_alloc _ _ _ (by simp [World.setCell]; omega)).trans (row_set HRX.out 1 _)
            have hRY : w12.heap[Y]? = some (.cells #[.slice (some ⟨g9, 0, none⟩) ws.length cap9, .slice (some ⟨g7, 0, none⟩) ws.length pc7] 47 (0, 0)) := by
              have e1 : (w11.setCell ⟨X, 1, none⟩ (.slice (some ⟨Y, 0, none⟩) 2 2)).heap.size = Y := by simp [World.setCell]; omega
              have e2 := heap_new (w11.setCell ⟨X, 1, none⟩ (.slice (some ⟨Y, 0, none⟩) 2 2)) (Obj.cells #[.slice (some ⟨g9, 0, none⟩) ws.length cap9, .slice (some ⟨g7, 0, none⟩) ws.length pc7] 47)
              rw [e1] at e2
              rw [hw12]
              exact e2
            have hC12 : Chg (fun b => b = X) w11 w12 := by rw [hw12]; exact (setCell_chg _).trans (chg_alloc _ _)
            have hK12 : ∀ {b cap n : Nat} {l : List Int} {S : Nat → Prop}, Ints S w11 (.slice (some ⟨b, 0, none⟩) n cap) l → X + 1 ≤ b → b < Y → Ints (fun b => X + 1 ≤ b ∧ b < Y) w12 (.slice (some ⟨b, 0, none⟩) n cap) l := fun h h1 h2 =>
              (ints_at (P := fun b => X + 1 ≤ b ∧ b < Y) h ⟨h1, h2⟩).keep ⟨hC12.size, fun b hb => hC12.block b (by have := hb.2; omega) (by have := hb.1; omega)⟩
            have HA12 := hid (hK12 HL11.out (by omega) (by omega))
            have HE12 := hid (hK12 ((HI10.out.below (HK11.out.mono (by omega))) ) (by omega) (by omega))
            have HD12 := hid (hK12 ((HJ10.out.below (HK11.out.mono (by omega))) ) (by omega) (by omega))
            have HB12 := hid (HB11.out.trans (hC12.below (n := W.heap.size) (by omega) (fun b hb e => by omega)))
            have HM12 := hid (HM11.out.trans (hC12.below (n := w3.heap.size) (by omega) (fun b hb e => by omega)))
            have hs12' : w12.heap.size ≤ Y + 1 ∧ Y + 1 ≤ w12.heap.size := by omega
            have HRY := hid hRY
            have HR12 := hid hR12
            clear hK12 hC12 hR12 hRY hw12 hY hs12 HK11 HI10 HJ10 HL11 HRX f1 q1 HR5 HY11 HY10 HYr s0 s1
            -- what the law says of the means
            have hhy : hh < t.length := by have := HTL.out; omega
            obtain ⟨y, hy⟩ : ∃ y, t[hh]? = some y := ⟨_, List.getElem?_eq_getElem hhy⟩
            have hms := mean_says (h := hh) (v := vv) HGX.out hy (fun x hx => (HCW.out.2.1 x hx).1) HCW.out.2.2 HVV.out.1 (by have := HTL.out; have := HCW.out.1; omega)
            have HP0 := hid (mean_pad3 ws t (by have := HTL.out; have := HCW.out.1; omega) ht3)
            have HP1 := hid (mean_pad3 (ws.set hh vv) t (by have := HTL.out; have := HCW.out.1; simp; omega) ht3)
            have HP2 := hid (mean_pad3 (ws.map fun x => x * 2) t (by have := HTL.out; have := HCW.out.1; simp; omega) ht3)
            rw [← HVE.out.1, ← HVE.out.2.1] at hms
            obtain ⟨n1, n2, n3, n4, n5⟩ := hms
            rw [n3] at HP2
            generalize mean t ws = m0 at *
            generalize mean t (ws.set hh vv) = m1 at *
            have HMS := hid (MeanSays.mk n1 n2 n4 n5)
            have HSC := hid (set_cask (h := hh) (v := vv) HCK.out HGX.out HVV.out.1 HVV.out.2)
            have HYT := hid hy
            have m01 : lo ≤ m0 := n1
            have m02 : m0 ≤ hi := n2
            clear n3 n4 n5 hy n1 n2
            obtain ⟨_, _, he3, -, ho3⟩ := id HI3.out.open1
            cases he3
            rcases ho3 with hnil | ⟨bt, offt, rfl, hbt, hct⟩
            · rw [hnil] at hhy; simp at hhy
            have hbt' : bt < w3.heap.size := hbt
            have yt := hct hh hhy
            rw [show t[hh] = y from (List.getElem?_eq_some_iff.1 HYT.out).2] at yt
            have HTC := hid (fun w' (hb : Below w3.heap.size w3 w') => (hb.cell (p := ⟨bt, offt + hh, none⟩) hbt').trans yt)
            have q1 : decide (m0 < lo) = false := by simpa using m01
            have q2 : decide (hi < m0) = false := by simpa using m02
            clear hct yt hbt hmo
            cases fb with
            | false =>
              as_aux_lemma =>
                have HFZ := hid (meanC_fault HF.out (ks := [ws, ws.set hh vv]) (by simp) (by intro k hk; simp at hk; rcases hk with rfl | rfl; exact HCK.out; exact HSC.out))
                have HSMZ := hid (fault_good HFZ.out).1.small
                have HPZ := hid (show ((meanC c [ws, ws.set hh vv]).casks.map fun k => mean (pad3 t) k) = [m0, m1] by simp only [meanC, List.map_cons, List.map_nil, HP0.out, HP1.out])
                have HCZ := hid (show CeV (Lt w12.heap.size) w12 (.agg #[.slice ha c.heaps.length hc, .slice (some ⟨Y, 0, none⟩) 2 2, .slice none 0 0]) (meanC c [ws, ws.set hh vv]) by
                  obtain ⟨_, _, _, _, _, _, he, i1, -, -⟩ := (HCE.out w12 HB12.out).open
                  cases he
                  refine ⟨_, _, _, rfl, i1.le (by have := HB12.out.size; omega), ?_, Sl.nil⟩
                  refine Lss.of (vs := [.slice (some ⟨g9, 0, none⟩) ws.length cap9, .slice (some ⟨g7, 0, none⟩) ws.length pc7]) (Sl.of_row (α := Value) (sz := 1) (enc := fun v => [v]) (S := Lt w12.heap.size) (t := 47) (l := [.slice (some ⟨g9, 0, none⟩) ws.length cap9, .slice (some ⟨g7, 0, none⟩) ws.length pc7]) (c := 2) HRY.out (by show Y < _; omega) rfl (fun _ => rfl) (by simp)) rfl (fun j xv l hx hl => ?_)
                  match j, hx, hl with
                  | 0, hx, hl =>
                    simp only [meanC, List.getElem?_cons_zero, Option.some.injEq] at hx hl
                    subst hx; subst hl
                    exact HA12.out.mono fun b hb => by have := hb.2; show b < _; omega
                  | 1, hx, hl =>
                    simp only [meanC, List.getElem?_cons_zero, List.getElem?_cons_succ, Option.some.injEq] at hx hl
                    subst hx; subst hl
                    exact HE12.out.mono fun b hb => by have := hb.2; show b < _; omega
                  | j + 2, hx, hl => simp at hx)
                have HRZ := HR12
                clear HRY HA12 HE12 HD12
                have hc12 := cell_of_row HRZ.out 0
                have hc13 := cell_of_row HRZ.out 1
                have hc14 := cell_of_row HRZ.out 2
                simp only [List.getElem?_toArray, List.getElem?_cons_zero, List.getElem?_cons_succ] at hc12 hc13 hc14
                go_wp2_with fail
                refine (CellarL_any (meanC c [ws, ws.set hh vv]) _ w12.heap.size w12 (Nat.le_refl _) HCZ.out HSMZ.out).mono ?_
                rintro e w40 ⟨v40, rfl, hc40, hb40⟩
                obtain ⟨_, _, _, _, _, _, rfl, -⟩ := id hc40.open
                have HB40 := hid (below_after HB12.out hb40 (Nat.le_refl _))
                have HM40 := hid (below_after HM12.out hb40 (Nat.le_refl _))
                have HR40 := hid ((hb40.block X (by omega)).trans HRZ.out)
                have HC40 := hid hc40
                have hs40 := hb40.size
                have zM40 := HM40.out.size
                clear hb40 hc40 hc12 hc13 hc14
                go_wp2_with fail
                refine (list_any t _ w3.heap.size w40 zM40 (HI3.out.below HM40.out) (by omega)).mono ?_
                rintro e w41 ⟨v41, rfl, ho41, hb41⟩
                have hi41 := ho41.slLt encI_length
                obtain ⟨_, _, rfl, -, -⟩ := id hi41.open1
                have HB41 := hid (below_after HB40.out hb41 (Nat.le_refl _))
                have HM41 := hid (below_after HM40.out hb41 (Nat.le_refl _))
                have HR41 := hid ((hb41.block X (by omega)).trans HR40.out)
                have HC41 := hid ((HC40.out.below hb41).le hb41.size)
                have HI41 := hid hi41
                have hs41 := hb41.size
                have zM41 := HM41.out.size
                clear hb41 hi41 ho41
                go_wp2_with fail
                refine (play_ok (meanC c [ws, ws.set hh vv]) _ _ t _ w41 (Nat.le_refl _) HC41.out HI41.out (by omega) HFZ.out HLT.out).mono ?_
                rw [HPZ.out]
                rintro e w42 ⟨v42, rfl, hi42, hb42⟩
                obtain ⟨_, c42, rfl, -, ho42⟩ := id hi42.open1
                rcases ho42 with hnil | ⟨b42, o42, rfl, l42, hcc⟩
                · simp at hnil
                have d0 := hcc 0 (by simp)
                have d1 := hcc 1 (by simp)
                have d2 := hcc 0 (by simp)
                have HB42 := hid (below_after HB41.out hb42 (Nat.le_refl _))
                have HM42 := hid (below_after HM41.out hb42 (Nat.le_refl _))
                have HR42 := hid ((hb42.block X (by omega)).trans HR41.out)
                have yt := HTC.out _ HM42.out
                have hc13 := cell_of_row HR42.out 1
                simp only [List.getElem?_toArray, List.getElem?_cons_zero, List.getElem?_cons_succ] at hc13 d0 d1 d2
                clear hcc hi42 hb42
                have l42 : b42 < w42.heap.size := l42
                have hs42 := HB42.out.size
                have zM42 := HM42.out.size
                have zX42 := (Array.getElem?_eq_some_iff.1 HR42.out).1
                have HSX := hid (fun w' (h : Below w42.heap.size w42 w') => ⟨(h.cell (p := ⟨X, 1, none⟩) (by show X < _; omega)).trans hc13, (h.cell (p := ⟨b42, o42, none⟩) l42).trans d0, (h.cell (p := ⟨b42, o42 + 1, none⟩) l42).trans d1, (h.cell (p := ⟨b42, o42 + 0, none⟩) l42).trans d2, (h.cell (p := ⟨bt, offt + hh, none⟩) (by show bt < _; omega)).trans yt⟩ :
                  ∀ w', Below w42.heap.size w42 w' → w'.cell? ⟨X, 1, none⟩ = some (.slice (some ⟨Y, 0, none⟩) 2 2) ∧ w'.cell? ⟨b42, o42, none⟩ = some (.int .i64 m0) ∧ w'.cell? ⟨b42, o42 + 1, none⟩ = some (.int .i64 m1) ∧ w'.cell? ⟨b42, o42 + 0, none⟩ = some (.int .i64 m0) ∧ w'.cell? ⟨bt, offt + hh, none⟩ = some (.int .i64 y))
                clear hc13 d0 d1 d2 yt
                go_wp2_with fail
                refine wp_region_grow (by as_aux_lemma => kernel_rfl) 99 (fun w' => Below w42.heap.size w42 w') ?_ ?_
                · exact (Below.refl _ _).drew
                have HG := fun (a b : World) (h : Below w42.heap.size w42 a) (k : Below a.heap.size a b) => (h.trans (k.mono h.size) : Below w42.heap.size w42 b)
                refine wpG_take (i := 0) (v := .int .i64 0) rfl rfl (by as_aux_lemma => kernel_rfl) (by as_aux_lemma => kernel_rfl) (by as_aux_lemma => kernel_rfl) (by as_aux_lemma => kernel_rfl) (fun _ _ _ h => h) (by rfl) (fun w' hS' => grow_value ?_ hS') ?_
                · go_simp
                try simp only [List.setIfInBounds_toArray, List.set_cons_zero, List.set_cons_succ]
                refine wpG_take (i := 1) (v := .bool false) rfl rfl (by as_aux_lemma => kernel_rfl) (by as_aux_lemma => kernel_rfl) (by as_aux_lemma => kernel_rfl) (by as_aux_lemma => kernel_rfl) (fun _ _ _ h => h) (by rfl) (fun w' hS' => grow_value ?_ hS') ?_
                · go_simp
                try simp only [List.setIfInBounds_toArray, List.set_cons_zero, List.set_cons_succ]
                refine wpG_take (i := 2) (v := .bool false) rfl rfl (by as_aux_lemma => kernel_rfl) (by as_aux_lemma => kernel_rfl) (by as_aux_lemma => kernel_rfl) (by as_aux_lemma => kernel_rfl) (fun _ _ _ h => h) (by rfl) (fun w' hS' => grow_value ?_ hS') ?_
                · go_simp
                try simp only [List.setIfInBounds_toArray, List.set_cons_zero, List.set_cons_succ]
                refine wpG_take (i := 3) (v := .slice (some ⟨b42, o42, none⟩) 2 c42) rfl rfl (by as_aux_lemma => kernel_rfl) (by as_aux_lemma => kernel_rfl) (by as_aux_lemma => kernel_rfl) (by as_aux_lemma => kernel_rfl) (fun _ _ _ h => h) (by rfl) (fun w' hS' => grow_value ?_ hS') ?_
                · go_simp
                try simp only [List.setIfInBounds_toArray, List.set_cons_zero, List.set_cons_succ]
                refine wpG_take (i := 4) (v := .int .i64 2) rfl rfl (by as_aux_lemma => kernel_rfl) (by as_aux_lemma => kernel_rfl) (by as_aux_lemma => kernel_rfl) (by as_aux_lemma => kernel_rfl) (fun _ _ _ h => h) (by rfl) (fun w' hS' => grow_value ?_ hS') ?_
                · go_simp
                try simp only [List.setIfInBounds_toArray, List.set_cons_zero, List.set_cons_succ]
                refine wpG_take (i := 5) (v := .pointer (some ⟨X, 1, none⟩)) rfl rfl (by as_aux_lemma => kernel_rfl) (by as_aux_lemma => kernel_rfl) (by as_aux_lemma => kernel_rfl) (by as_aux_lemma => kernel_rfl) (fun _ _ _ h => h) (by rfl) (fun w' hS' => grow_value ?_ hS') ?_
                · go_simp
                try simp only [List.setIfInBounds_toArray, List.set_cons_zero, List.set_cons_succ]
                refine wpG_take (i := 6) (v := .slice (some ⟨Y, 0, none⟩) 2 2) rfl rfl (by as_aux_lemma => kernel_rfl) (by as_aux_lemma => kernel_rfl) (by as_aux_lemma => kernel_rfl) (by as_aux_lemma => kernel_rfl) (fun _ _ _ h => h) (by rfl) (fun w' hS' => grow_value ?_ hS') ?_
                · have ⟨s0, s1, s2, s3, s4⟩ := HSX.out _ hS'; go_simp
                try simp only [List.setIfInBounds_toArray, List.set_cons_zero, List.set_cons_succ]
                refine wpG_take (i := 7) (v := .int .i64 2) rfl rfl (by as_aux_lemma => kernel_rfl) (by as_aux_lemma => kernel_rfl) (by as_aux_lemma => kernel_rfl) (by as_aux_lemma => kernel_rfl) (fun _ _ _ h => h) (by rfl) (fun w' hS' => grow_value ?_ hS') ?_
                · go_simp
                try simp only [List.setIfInBounds_toArray, List.set_cons_zero, List.set_cons_succ]
                refine wpG_take (i := 8) (v := .bool false) rfl rfl (by as_aux_lemma => kernel_rfl) (by as_aux_lemma => kernel_rfl) (by as_aux_lemma => kernel_rfl) (by as_aux_lemma => kernel_rfl) (fun _ _ _ h => h) (by rfl) (fun w' hS' => grow_value ?_ hS') ?_
                · go_simp
                try simp only [List.setIfInBounds_toArray, List.set_cons_zero, List.set_cons_succ]
                refine wpG_take (i := 9) (v := .bool false) rfl rfl (by as_aux_lemma => kernel_rfl) (by as_aux_lemma => kernel_rfl) (by as_aux_lemma => kernel_rfl) (by as_aux_lemma => kernel_rfl) (fun _ _ _ h => h) (by rfl) (fun w' hS' => grow_value ?_ hS') ?_
                · go_simp
                try simp only [List.setIfInBounds_toArray, List.set_cons_zero, List.set_cons_succ]
                refine wpG_take (i := 10) (v := .bool false) rfl rfl (by as_aux_lemma => kernel_rfl) (by as_aux_lemma => kernel_rfl) (by as_aux_lemma => kernel_rfl) (by as_aux_lemma => kernel_rfl) (fun _ _ _ h => h) (by rfl) (fun w' hS' => grow_value ?_ hS') ?_
                · go_simp
                try simp only [List.setIfInBounds_toArray, List.set_cons_zero, List.set_cons_succ]
                refine wpG_take (i := 11) (v := .slice (some ⟨b42, o42, none⟩) 2 c42) rfl rfl (by as_aux_lemma => kernel_rfl) (by as_aux_lemma => kernel_rfl) (by as_aux_lemma => kernel_rfl) (by as_aux_lemma => kernel_rfl) (fun _ _ _ h => h) (by rfl) (fun w' hS' => grow_value ?_ hS') ?_
                · go_simp
                try simp only [List.setIfInBounds_toArray, List.set_cons_zero, List.set_cons_succ]
                refine wpG_take (i := 12) (v := .pointer (some ⟨b42, o42, none⟩)) rfl rfl (by as_aux_lemma => kernel_rfl) (by as_aux_lemma => kernel_rfl) (by as_aux_lemma => kernel_rfl) (by as_aux_lemma => kernel_rfl) (fun _ _ _ h => h) (by rfl) (fun w' hS' => grow_value ?_ hS') ?_
                · go_simp
                try simp only [List.setIfInBounds_toArray, List.set_cons_zero, List.set_cons_succ]
                refine wpG_take (i := 13) (v := .int .i64 m0) rfl rfl (by as_aux_lemma => kernel_rfl) (by as_aux_lemma => kernel_rfl) (by as_aux_lemma => kernel_rfl) (by as_aux_lemma => kernel_rfl) (fun _ _ _ h => h) (by rfl) (fun w' hS' => grow_value ?_ hS') ?_
                · have ⟨s0, s1, s2, s3, s4⟩ := HSX.out _ hS'; go_simp
                try simp only [List.setIfInBounds_toArray, List.set_cons_zero, List.set_cons_succ]
                refine wpG_take (i := 14) (v := .int .i64 lo) rfl rfl (by as_aux_lemma => kernel_rfl) (by as_aux_lemma => kernel_rfl) (by as_aux_lemma => kernel_rfl) (by as_aux_lemma => kernel_rfl) (fun _ _ _ h => h) (by rfl) (fun w' hS' => grow_value ?_ hS') ?_
                · go_simp
                try simp only [List.setIfInBounds_toArray, List.set_cons_zero, List.set_cons_succ]
                refine wpG_take (i := 15) (v := .bool false) rfl rfl (by as_aux_lemma => kernel_rfl) (by as_aux_lemma => kernel_rfl) (by as_aux_lemma => kernel_rfl) (by as_aux_lemma => kernel_rfl) (fun _ _ _ h => h) (by rfl) (fun w' hS' => grow_value ?_ hS') ?_
                · go_simp
                try simp only [List.setIfInBounds_toArray, List.set_cons_zero, List.set_cons_succ]
                refine wpG_take (i := 16) (v := .bool false) rfl rfl (by as_aux_lemma => kernel_rfl) (by as_aux_lemma => kernel_rfl) (by as_aux_lemma => kernel_rfl) (by as_aux_lemma => kernel_rfl) (fun _ _ _ h => h) (by rfl) (fun w' hS' => grow_value ?_ hS') ?_
                · go_simp
                try simp only [List.setIfInBounds_toArray, List.set_cons_zero, List.set_cons_succ]
                refine wpG_take (i := 17) (v := .bool false) rfl rfl (by as_aux_lemma => kernel_rfl) (by as_aux_lemma => kernel_rfl) (by as_aux_lemma => kernel_rfl) (by as_aux_lemma => kernel_rfl) (fun _ _ _ h => h) (by rfl) (fun w' hS' => grow_value ?_ hS') ?_
                · go_simp
                try simp only [List.setIfInBounds_toArray, List.set_cons_zero, List.set_cons_succ]
                refine wpG_take (i := 18) (v := .slice (some ⟨b42, o42, none⟩) 2 c42) rfl rfl (by as_aux_lemma => kernel_rfl) (by as_aux_lemma => kernel_rfl) (by as_aux_lemma => kernel_rfl) (by as_aux_lemma => kernel_rfl) (fun _ _ _ h => h) (by rfl) (fun w' hS' => grow_value ?_ hS') ?_
                · go_simp
                try simp only [List.setIfInBounds_toArray, List.set_cons_zero, List.set_cons_succ]
                refine wpG_take (i := 19) (v := .pointer (some ⟨b42, o42, none⟩)) rfl rfl (by as_aux_lemma => kernel_rfl) (by as_aux_lemma => kernel_rfl) (by as_aux_lemma => kernel_rfl) (by as_aux_lemma => kernel_rfl) (fun _ _ _ h => h) (by rfl) (fun w' hS' => grow_value ?_ hS') ?_
                · go_simp
                try simp only [List.setIfInBounds_toArray, List.set_cons_zero, List.set_cons_succ]
                refine wpG_take (i := 20) (v := .int .i64 m0) rfl rfl (by as_aux_lemma => kernel_rfl) (by as_aux_lemma => kernel_rfl) (by as_aux_lemma => kernel_rfl) (by as_aux_lemma => kernel_rfl) (fun _ _ _ h => h) (by rfl) (fun w' hS' => grow_value ?_ hS') ?_
                · have ⟨s0, s1, s2, s3, s4⟩ := HSX.out _ hS'; go_simp
                try simp only [List.setIfInBounds_toArray, List.set_cons_zero, List.set_cons_succ]
                refine wpG_take (i := 21) (v := .int .i64 hi) rfl rfl (by as_aux_lemma => kernel_rfl) (by as_aux_lemma => kernel_rfl) (by as_aux_lemma => kernel_rfl) (by as_aux_lemma => kernel_rfl) (fun _ _ _ h => h) (by rfl) (fun w' hS' => grow_value ?_ hS') ?_
                · go_simp
                try simp only [List.setIfInBounds_toArray, List.set_cons_zero, List.set_cons_succ]
                refine wpG_take (i := 22) (v := .bool false) rfl rfl (by as_aux_lemma => kernel_rfl) (by as_aux_lemma => kernel_rfl) (by as_aux_lemma => kernel_rfl) (by as_aux_lemma => kernel_rfl) (fun _ _ _ h => h) (by rfl) (fun w' hS' => grow_value ?_ hS') ?_
                · go_simp
                try simp only [List.setIfInBounds_toArray, List.set_cons_zero, List.set_cons_succ]
                refine wpG_take (i := 23) (v := .bool false) rfl rfl (by as_aux_lemma => kernel_rfl) (by as_aux_lemma => kernel_rfl) (by as_aux_lemma => kernel_rfl) (by as_aux_lemma => kernel_rfl) (fun _ _ _ h => h) (by rfl) (fun w' hS' => grow_value ?_ hS') ?_
                · go_simp
                try simp only [List.setIfInBounds_toArray, List.set_cons_zero, List.set_cons_succ]
                refine wpG_take (i := 24) (v := .bool false) rfl rfl (by as_aux_lemma => kernel_rfl) (by as_aux_lemma => kernel_rfl) (by as_aux_lemma => kernel_rfl) (by as_aux_lemma => kernel_rfl) (fun _ _ _ h => h) (by rfl) (fun w' hS' => grow_value ?_ hS') ?_
                · go_simp
                try simp only [List.setIfInBounds_toArray, List.set_cons_zero, List.set_cons_succ]
                refine wpG_take (i := 25) (v := .bool false) rfl rfl (by as_aux_lemma => kernel_rfl) (by as_aux_lemma => kernel_rfl) (by as_aux_lemma => kernel_rfl) (by as_aux_lemma => kernel_rfl) (fun _ _ _ h => h) (by rfl) (fun w' hS' => grow_value ?_ hS') ?_
                · go_simp
                try simp only [List.setIfInBounds_toArray, List.set_cons_zero, List.set_cons_succ]
                refine wpG_take (i := 26) (v := .bool false) rfl rfl (by as_aux_lemma => kernel_rfl) (by as_aux_lemma => kernel_rfl) (by as_aux_lemma => kernel_rfl) (by as_aux_lemma => kernel_rfl) (fun _ _ _ h => h) (by rfl) (fun w' hS' => grow_value ?_ hS') ?_
                · go_simp
                try simp only [List.setIfInBounds_toArray, List.set_cons_zero, List.set_cons_succ]
                refine wpG_skip (i := 27) rfl rfl (by as_aux_lemma => kernel_rfl) (by as_aux_lemma => kernel_rfl) (by as_aux_lemma => kernel_rfl) (by as_aux_lemma => kernel_rfl) (fun _ _ _ h => h) (by rfl) ?_
                try simp only [List.setIfInBounds_toArray, List.set_cons_zero, List.set_cons_succ]
                refine wpG_skip (i := 28) rfl rfl (by as_aux_lemma => kernel_rfl) (by as_aux_lemma => kernel_rfl) (by as_aux_lemma => kernel_rfl) (by as_aux_lemma => kernel_rfl) (fun _ _ _ h => h) (by rfl) ?_
                try simp only [List.setIfInBounds_toArray, List.set_cons_zero, List.set_cons_succ]
                refine wpG_skip (i := 29) rfl rfl (by as_aux_lemma => kernel_rfl) (by as_aux_lemma => kernel_rfl) (by as_aux_lemma => kernel_rfl) (by as_aux_lemma => kernel_rfl) (fun _ _ _ h => h) (by rfl) ?_
                try simp only [List.setIfInBounds_toArray, List.set_cons_zero, List.set_cons_succ]
                refine wpG_skip (i := 30) rfl rfl (by as_aux_lemma => kernel_rfl) (by as_aux_lemma => kernel_rfl) (by as_aux_lemma => kernel_rfl) (by as_aux_lemma => kernel_rfl) (fun _ _ _ h => h) (by rfl) ?_
                try simp only [List.setIfInBounds_toArray, List.set_cons_zero, List.set_cons_succ]
                refine wpG_skip (i := 31) rfl rfl (by as_aux_lemma => kernel_rfl) (by as_aux_lemma => kernel_rfl) (by as_aux_lemma => kernel_rfl) (by as_aux_lemma => kernel_rfl) (fun _ _ _ h => h) (by rfl) ?_
                try simp only [List.setIfInBounds_toArray, List.set_cons_zero, List.set_cons_succ]
                refine wpG_skip (i := 32) rfl rfl (by as_aux_lemma => kernel_rfl) (by as_aux_lemma => kernel_rfl) (by as_aux_lemma => kernel_rfl) (by as_aux_lemma => kernel_rfl) (fun _ _ _ h => h) (by rfl) ?_
                try simp only [List.setIfInBounds_toArray, List.set_cons_zero, List.set_cons_succ]
                refine wpG_skip (i := 33) rfl rfl (by as_aux_lemma => kernel_rfl) (by as_aux_lemma => kernel_rfl) (by as_aux_lemma => kernel_rfl) (by as_aux_lemma => kernel_rfl) (fun _ _ _ h => h) (by rfl) ?_
                try simp only [List.setIfInBounds_toArray, List.set_cons_zero, List.set_cons_succ]
                refine wpG_take (i := 34) (v := .bool false) rfl rfl (by as_aux_lemma => kernel_rfl) (by as_aux_lemma => kernel_rfl) (by as_aux_lemma => kernel_rfl) (by as_aux_lemma => kernel_rfl) (fun _ _ _ h => h) (by rfl) (fun w' hS' => grow_value ?_ hS') ?_
                · go_simp
                try simp only [List.setIfInBounds_toArray, List.set_cons_zero, List.set_cons_succ]
                refine wpG_take (i := 35) (v := .bool false) rfl rfl (by as_aux_lemma => kernel_rfl) (by as_aux_lemma => kernel_rfl) (by as_aux_lemma => kernel_rfl) (by as_aux_lemma => kernel_rfl) (fun _ _ _ h => h) (by rfl) (fun w' hS' => grow_value ?_ hS') ?_
                · go_simp
                try simp only [List.setIfInBounds_toArray, List.set_cons_zero, List.set_cons_succ]
                refine wpG_take (i := 36) (v := .bool false) rfl rfl (by as_aux_lemma => kernel_rfl) (by as_aux_lemma => kernel_rfl) (by as_aux_lemma => kernel_rfl) (by as_aux_lemma => kernel_rfl) (fun _ _ _ h => h) (by rfl) (fun w' hS' => grow_value ?_ hS') ?_
                · go_simp
                try simp only [List.setIfInBounds_toArray, List.set_cons_zero, List.set_cons_succ]
                refine wpG_take (i := 37) (v := .slice (some ⟨bt, offt, none⟩) t.length tc2) rfl rfl (by as_aux_lemma => kernel_rfl) (by as_aux_lemma => kernel_rfl) (by as_aux_lemma => kernel_rfl) (by as_aux_lemma => kernel_rfl) (fun _ _ _ h => h) (by rfl) (fun w' hS' => grow_value ?_ hS') ?_
                · go_simp
                try simp only [List.setIfInBounds_toArray, List.set_cons_zero, List.set_cons_succ]
                refine wpG_take (i := 38) (v := .int .i64 hh) rfl rfl (by as_aux_lemma => kernel_rfl) (by as_aux_lemma => kernel_rfl) (by as_aux_lemma => kernel_rfl) (by as_aux_lemma => kernel_rfl) (fun _ _ _ h => h) (by rfl) (fun w' hS' => grow_value ?_ hS') ?_
                · go_simp
                try simp only [List.setIfInBounds_toArray, List.set_cons_zero, List.set_cons_succ]
                refine wpG_take (i := 39) (v := .pointer (some ⟨bt, offt + hh, none⟩)) rfl rfl (by as_aux_lemma => kernel_rfl) (by as_aux_lemma => kernel_rfl) (by as_aux_lemma => kernel_rfl) (by as_aux_lemma => kernel_rfl) (fun _ _ _ h => h) (by rfl) (fun w' hS' => grow_value ?_ hS') ?_
                · go_simp
                try simp only [List.setIfInBounds_toArray, List.set_cons_zero, List.set_cons_succ]
                refine wpG_take (i := 40) (v := .int .i64 y) rfl rfl (by as_aux_lemma => kernel_rfl) (by as_aux_lemma => kernel_rfl) (by as_aux_lemma => kernel_rfl) (by as_aux_lemma => kernel_rfl) (fun _ _ _ h => h) (by rfl) (fun w' hS' => grow_value ?_ hS') ?_
                · have ⟨s0, s1, s2, s3, s4⟩ := HSX.out _ hS'; go_simp
                try simp only [List.setIfInBounds_toArray, List.set_cons_zero, List.set_cons_succ]
                refine wpG_take (i := 41) (v := .slice (some ⟨b42, o42, none⟩) 2 c42) rfl rfl (by as_aux_lemma => kernel_rfl) (by as_aux_lemma => kernel_rfl) (by as_aux_lemma => kernel_rfl) (by as_aux_lemma => kernel_rfl) (fun _ _ _ h => h) (by rfl) (fun w' hS' => grow_value ?_ hS') ?_
                · go_simp
                try simp only [List.setIfInBounds_toArray, List.set_cons_zero, List.set_cons_succ]
                refine wpG_take (i := 42) (v := .pointer (some ⟨b42, o42, none⟩)) rfl rfl (by as_aux_lemma => kernel_rfl) (by as_aux_lemma => kernel_rfl) (by as_aux_lemma => kernel_rfl) (by as_aux_lemma => kernel_rfl) (fun _ _ _ h => h) (by rfl) (fun w' hS' => grow_value ?_ hS') ?_
                · go_simp
                try simp only [List.setIfInBounds_toArray, List.set_cons_zero, List.set_cons_succ]
                refine wpG_take (i := 43) (v := .int .i64 m0) rfl rfl (by as_aux_lemma => kernel_rfl) (by as_aux_lemma => kernel_rfl) (by as_aux_lemma => kernel_rfl) (by as_aux_lemma => kernel_rfl) (fun _ _ _ h => h) (by rfl) (fun w' hS' => grow_value ?_ hS') ?_
                · have ⟨s0, s1, s2, s3, s4⟩ := HSX.out _ hS'; go_simp
                try simp only [List.setIfInBounds_toArray, List.set_cons_zero, List.set_cons_succ]
                by_cases hge : m0 ≤ y
                · have u1 : m0 ≤ m1 := HMS.out.up hge
                  have u2 : decide (m0 ≤ y) = true := decide_eq_true hge
                  have u3 : decide (m1 < m0) = false := by simpa using u1
                  refine wpG_take (i := 44) (v := .bool true) rfl rfl (by as_aux_lemma => kernel_rfl) (by as_aux_lemma => kernel_rfl) (by as_aux_lemma => kernel_rfl) (by as_aux_lemma => kernel_rfl) (fun _ _ _ h => h) (by rfl) (fun w' hS' => grow_value ?_ hS') ?_
                  · go_simp
                  try simp only [List.setIfInBounds_toArray, List.set_cons_zero, List.set_cons_succ]
                  refine wpG_take (i := 45) (v := .bool true) rfl rfl (by as_aux_lemma => kernel_rfl) (by as_aux_lemma => kernel_rfl) (by as_aux_lemma => kernel_rfl) (by as_aux_lemma => kernel_rfl) (fun _ _ _ h => h) (by rfl) (fun w' hS' => grow_value ?_ hS') ?_
                  · go_simp
                  try simp only [List.setIfInBounds_toArray, List.set_cons_zero, List.set_cons_succ]
                  refine wpG_take (i := 46) (v := .slice (some ⟨b42, o42, none⟩) 2 c42) rfl rfl (by as_aux_lemma => kernel_rfl) (by as_aux_lemma => kernel_rfl) (by as_aux_lemma => kernel_rfl) (by as_aux_lemma => kernel_rfl) (fun _ _ _ h => h) (by rfl) (fun w' hS' => grow_value ?_ hS') ?_
                  · go_simp
                  try simp only [List.setIfInBounds_toArray, List.set_cons_zero, List.set_cons_succ]
                  refine wpG_take (i := 47) (v := .pointer (some ⟨b42, o42 + 1, none⟩)) rfl rfl (by as_aux_lemma => kernel_rfl) (by as_aux_lemma => kernel_rfl) (by as_aux_lemma => kernel_rfl) (by as_aux_lemma => kernel_rfl) (fun _ _ _ h => h) (by rfl) (fun w' hS' => grow_value ?_ hS') ?_
                  · go_simp
                  try simp only [List.setIfInBounds_toArray, List.set_cons_zero, List.set_cons_succ]
                  refine wpG_take (i := 48) (v := .int .i64 m1) rfl rfl (by as_aux_lemma => kernel_rfl) (by as_aux_lemma => kernel_rfl) (by as_aux_lemma => kernel_rfl) (by as_aux_lemma => kernel_rfl) (fun _ _ _ h => h) (by rfl) (fun w' hS' => grow_value ?_ hS') ?_
                  · have ⟨s0, s1, s2, s3, s4⟩ := HSX.out _ hS'; go_simp
                  try simp only [List.setIfInBounds_toArray, List.set_cons_zero, List.set_cons_succ]
                  refine wpG_take (i := 49) (v := .slice (some ⟨b42, o42, none⟩) 2 c42) rfl rfl (by as_aux_lemma => kernel_rfl) (by as_aux_lemma => kernel_rfl) (by as_aux_lemma => kernel_rfl) (by as_aux_lemma => kernel_rfl) (fun _ _ _ h => h) (by rfl) (fun w' hS' => grow_value ?_ hS') ?_
                  · go_simp
                  try simp only [List.setIfInBounds_toArray, List.set_cons_zero, List.set_cons_succ]
                  refine wpG_take (i := 50) (v := .pointer (some ⟨b42, o42, none⟩)) rfl rfl (by as_aux_lemma => kernel_rfl) (by as_aux_lemma => kernel_rfl) (by as_aux_lemma => kernel_rfl) (by as_aux_lemma => kernel_rfl) (fun _ _ _ h => h) (by rfl) (fun w' hS' => grow_value ?_ hS') ?_
                  · go_simp
                  try simp only [List.setIfInBounds_toArray, List.set_cons_zero, List.set_cons_succ]
                  refine wpG_take (i := 51) (v := .int .i64 m0) rfl rfl (by as_aux_lemma => kernel_rfl) (by as_aux_lemma => kernel_rfl) (by as_aux_lemma => kernel_rfl) (by as_aux_lemma => kernel_rfl) (fun _ _ _ h => h) (by rfl) (fun w' hS' => grow_value ?_ hS') ?_
                  · have ⟨s0, s1, s2, s3, s4⟩ := HSX.out _ hS'; go_simp
                  try simp only [List.setIfInBounds_toArray, List.set_cons_zero, List.set_cons_succ]
                  refine wpG_take (i := 52) (v := .bool false) rfl rfl (by as_aux_lemma => kernel_rfl) (by as_aux_lemma => kernel_rfl) (by as_aux_lemma => kernel_rfl) (by as_aux_lemma => kernel_rfl) (fun _ _ _ h => h) (by rfl) (fun w' hS' => grow_value ?_ hS') ?_
                  · go_simp
                  try simp only [List.setIfInBounds_toArray, List.set_cons_zero, List.set_cons_succ]
                  refine wpG_take (i := 53) (v := .bool false) rfl rfl (by as_aux_lemma => kernel_rfl) (by as_aux_lemma => kernel_rfl) (by as_aux_lemma => kernel_rfl) (by as_aux_lemma => kernel_rfl) (fun _ _ _ h => h) (by rfl) (fun w' hS' => grow_value ?_ hS') ?_
                  · go_simp
                  try simp only [List.setIfInBounds_toArray, List.set_cons_zero, List.set_cons_succ]
                  refine wpG_take (i := 54) (v := .bool false) rfl rfl (by as_aux_lemma => kernel_rfl) (by as_aux_lemma => kernel_rfl) (by as_aux_lemma => kernel_rfl) (by as_aux_lemma => kernel_rfl) (fun _ _ _ h => h) (by rfl) (fun w' hS' => grow_value ?_ hS') ?_
                  · go_simp
                  try simp only [List.setIfInBounds_toArray, List.set_cons_zero, List.set_cons_succ]
                  refine wpG_take (i := 55) (v := .bool false) rfl rfl (by as_aux_lemma => kernel_rfl) (by as_aux_lemma => kernel_rfl) (by as_aux_lemma => kernel_rfl) (by as_aux_lemma => kernel_rfl) (fun _ _ _ h => h) (by rfl) (fun w' hS' => grow_value ?_ hS') ?_
                  · go_simp
                  try simp only [List.setIfInBounds_toArray, List.set_cons_zero, List.set_cons_succ]
                  refine wpG_take (i := 56) (v := .slice (some ⟨bt, offt, none⟩) t.length tc2) rfl rfl (by as_aux_lemma => kernel_rfl) (by as_aux_lemma => kernel_rfl) (by as_aux_lemma => kernel_rfl) (by as_aux_lemma => kernel_rfl) (fun _ _ _ h => h) (by rfl) (fun w' hS' => grow_value ?_ hS') ?_
                  · go_simp
                  try simp only [List.setIfInBounds_toArray, List.set_cons_zero, List.set_cons_succ]
                  refine wpG_take (i := 57) (v := .int .i64 hh) rfl rfl (by as_aux_lemma => kernel_rfl) (by as_aux_lemma => kernel_rfl) (by as_aux_lemma => kernel_rfl) (by as_aux_lemma => kernel_rfl) (fun _ _ _ h => h) (by rfl) (fun w' hS' => grow_value ?_ hS') ?_
                  · go_simp
                  try simp only [List.setIfInBounds_toArray, List.set_cons_zero, List.set_cons_succ]
                  refine wpG_take (i := 58) (v := .pointer (some ⟨bt, offt + hh, none⟩)) rfl rfl (by as_aux_lemma => kernel_rfl) (by as_aux_lemma => kernel_rfl) (by as_aux_lemma => kernel_rfl) (by as_aux_lemma => kernel_rfl) (fun _ _ _ h => h) (by rfl) (fun w' hS' => grow_value ?_ hS') ?_
                  · go_simp
                  try simp only [List.setIfInBounds_toArray, List.set_cons_zero, List.set_cons_succ]
                  refine wpG_take (i := 59) (v := .int .i64 y) rfl rfl (by as_aux_lemma => kernel_rfl) (by as_aux_lemma => kernel_rfl) (by as_aux_lemma => kernel_rfl) (by as_aux_lemma => kernel_rfl) (fun _ _ _ h => h) (by rfl) (fun w' hS' => grow_value ?_ hS') ?_
                  · have ⟨s0, s1, s2, s3, s4⟩ := HSX.out _ hS'; go_simp
                  try simp only [List.setIfInBounds_toArray, List.set_cons_zero, List.set_cons_succ]
                  refine wpG_take (i := 60) (v := .slice (some ⟨b42, o42, none⟩) 2 c42) rfl rfl (by as_aux_lemma => kernel_rfl) (by as_aux_lemma => kernel_rfl) (by as_aux_lemma => kernel_rfl) (by as_aux_lemma => kernel_rfl) (fun _ _ _ h => h) (by rfl) (fun w' hS' => grow_value ?_ hS') ?_
                  · go_simp
                  try simp only [List.setIfInBounds_toArray, List.set_cons_zero, List.set_cons_succ]
                  refine wpG_take (i := 61) (v := .pointer (some ⟨b42, o42, none⟩)) rfl rfl (by as_aux_lemma => kernel_rfl) (by as_aux_lemma => kernel_rfl) (by as_aux_lemma => kernel_rfl) (by as_aux_lemma => kernel_rfl) (fun _ _ _ h => h) (by rfl) (fun w' hS' => grow_value ?_ hS') ?_
                  · go_simp
                  try simp only [List.setIfInBounds_toArray, List.set_cons_zero, List.set_cons_succ]
                  refine wpG_take (i := 62) (v := .int .i64 m0) rfl rfl (by as_aux_lemma => kernel_rfl) (by as_aux_lemma => kernel_rfl) (by as_aux_lemma => kernel_rfl) (by as_aux_lemma => kernel_rfl) (fun _ _ _ h => h) (by rfl) (fun w' hS' => grow_value ?_ hS') ?_
                  · have ⟨s0, s1, s2, s3, s4⟩ := HSX.out _ hS'; go_simp
                  try simp only [List.setIfInBounds_toArray, List.set_cons_zero, List.set_cons_succ]
                  by_cases hle : y ≤ m0
                  · have u4 : m1 ≤ m0 := HMS.out.down hle
                    have u5 : decide (y ≤ m0) = true := decide_eq_true hle
                    have u6 : decide (m0 < m1) = false := by simpa using u4
                    refine wpG_take (i := 63) (v := .bool true) rfl rfl (by as_aux_lemma => kernel_rfl) (by as_aux_lemma => kernel_rfl) (by as_aux_lemma => kernel_rfl) (by as_aux_lemma => kernel_rfl) (fun _ _ _ h => h) (by rfl) (fun w' hS' => grow_value ?_ hS') ?_
                    · go_simp
                    try simp only [List.setIfInBounds_toArray, List.set_cons_zero, List.set_cons_succ]
                    refine wpG_take (i := 64) (v := .bool true) rfl rfl (by as_aux_lemma => kernel_rfl) (by as_aux_lemma => kernel_rfl) (by as_aux_lemma => kernel_rfl) (by as_aux_lemma => kernel_rfl) (fun _ _ _ h => h) (by rfl) (fun w' hS' => grow_value ?_ hS') ?_
                    · go_simp
                    try simp only [List.setIfInBounds_toArray, List.set_cons_zero, List.set_cons_succ]
                    refine wpG_take (i := 65) (v := .slice (some ⟨b42, o42, none⟩) 2 c42) rfl rfl (by as_aux_lemma => kernel_rfl) (by as_aux_lemma => kernel_rfl) (by as_aux_lemma => kernel_rfl) (by as_aux_lemma => kernel_rfl) (fun _ _ _ h => h) (by rfl) (fun w' hS' => grow_value ?_ hS') ?_
                    · go_simp
                    try simp only [List.setIfInBounds_toArray, List.set_cons_zero, List.set_cons_succ]
                    refine wpG_take (i := 66) (v := .pointer (some ⟨b42, o42 + 1, none⟩)) rfl rfl (by as_aux_lemma => kernel_rfl) (by as_aux_lemma => kernel_rfl) (by as_aux_lemma => kernel_rfl) (by as_aux_lemma => kernel_rfl) (fun _ _ _ h => h) (by rfl) (fun w' hS' => grow_value ?_ hS') ?_
                    · go_simp
                    try simp only [List.setIfInBounds_toArray, List.set_cons_zero, List.set_cons_succ]
                    refine wpG_take (i := 67) (v := .int .i64 m1) rfl rfl (by as_aux_lemma => kernel_rfl) (by as_aux_lemma => kernel_rfl) (by as_aux_lemma => kernel_rfl) (by as_aux_lemma => kernel_rfl) (fun _ _ _ h => h) (by rfl) (fun w' hS' => grow_value ?_ hS') ?_
                    · have ⟨s0, s1, s2, s3, s4⟩ := HSX.out _ hS'; go_simp
                    try simp only [List.setIfInBounds_toArray, List.set_cons_zero, List.set_cons_succ]
                    refine wpG_take (i := 68) (v := .slice (some ⟨b42, o42, none⟩) 2 c42) rfl rfl (by as_aux_lemma => kernel_rfl) (by as_aux_lemma => kernel_rfl) (by as_aux_lemma => kernel_rfl) (by as_aux_lemma => kernel_rfl) (fun _ _ _ h => h) (by rfl) (fun w' hS' => grow_value ?_ hS') ?_
                    · go_simp
                    try simp only [List.setIfInBounds_toArray, List.set_cons_zero, List.set_cons_succ]
                    refine wpG_take (i := 69) (v := .pointer (some ⟨b42, o42, none⟩)) rfl rfl (by as_aux_lemma => kernel_rfl) (by as_aux_lemma => kernel_rfl) (by as_aux_lemma => kernel_rfl) (by as_aux_lemma => kernel_rfl) (fun _ _ _ h => h) (by rfl) (fun w' hS' => grow_value ?_ hS') ?_
                    · go_simp
                    try simp only [List.setIfInBounds_toArray, List.set_cons_zero, List.set_cons_succ]
                    refine wpG_take (i := 70) (v := .int .i64 m0) rfl rfl (by as_aux_lemma => kernel_rfl) (by as_aux_lemma => kernel_rfl) (by as_aux_lemma => kernel_rfl) (by as_aux_lemma => kernel_rfl) (fun _ _ _ h => h) (by rfl) (fun w' hS' => grow_value ?_ hS') ?_
                    · have ⟨s0, s1, s2, s3, s4⟩ := HSX.out _ hS'; go_simp
                    try simp only [List.setIfInBounds_toArray, List.set_cons_zero, List.set_cons_succ]
                    refine wpG_take (i := 71) (v := .bool false) rfl rfl (by as_aux_lemma => kernel_rfl) (by as_aux_lemma => kernel_rfl) (by as_aux_lemma => kernel_rfl) (by as_aux_lemma => kernel_rfl) (fun _ _ _ h => h) (by rfl) (fun w' hS' => grow_value ?_ hS') ?_
                    · go_simp
                    try simp only [List.setIfInBounds_toArray, List.set_cons_zero, List.set_cons_succ]
                    refine wpG_take (i := 72) (v := .bool false) rfl rfl (by as_aux_lemma => kernel_rfl) (by as_aux_lemma => kernel_rfl) (by as_aux_lemma => kernel_rfl) (by as_aux_lemma => kernel_rfl) (fun _ _ _ h => h) (by rfl) (fun w' hS' => grow_value ?_ hS') ?_
                    · go_simp
                    try simp only [List.setIfInBounds_toArray, List.set_cons_zero, List.set_cons_succ]
                    refine wpG_take (i := 73) (v := .bool false) rfl rfl (by as_aux_lemma => kernel_rfl) (by as_aux_lemma => kernel_rfl) (by as_aux_lemma => kernel_rfl) (by as_aux_lemma => kernel_rfl) (fun _ _ _ h => h) (by rfl) (fun w' hS' => grow_value ?_ hS') ?_
                    · go_simp
                    try simp only [List.setIfInBounds_toArray, List.set_cons_zero, List.set_cons_succ]
                    refine wpG_done (by as_aux_lemma => kernel_rfl) (fun w43 hq hbx => ?_) _
                    have HB43 := hid (below_after HB42.out hbx (Nat.le_refl _))
                    clear HG hq hbx HSX
                    go_wp2_with (go_at_call 20; refine (awake_any _).mono ?_; rintro e wz ⟨rfl, hbz⟩)
                    go_ret
                    exact ⟨rfl, hWb.trans ((below_after HB43.out hbz (Nat.le_refl _)).mono (by omega))⟩
                  · have u5 : decide (y ≤ m0) = false := decide_eq_false hle
                    refine wpG_take (i := 63) (v := .bool false) rfl rfl (by as_aux_lemma => kernel_rfl) (by as_aux_lemma => kernel_rfl) (by as_aux_lemma => kernel_rfl) (by as_aux_lemma => kernel_rfl) (fun _ _ _ h => h) (by rfl) (fun w' hS' => grow_value ?_ hS') ?_
                    · go_simp
                    try simp only [List.setIfInBounds_toArray, List.set_cons_zero, List.set_cons_succ]
                    refine wpG_take (i := 64) (v := .bool false) rfl rfl (by as_aux_lemma => kernel_rfl) (by as_aux_lemma => kernel_rfl) (by as_aux_lemma => kernel_rfl) (by as_aux_lemma => kernel_rfl) (fun _ _ _ h => h) (by rfl) (fun w' hS' => grow_value ?_ hS') ?_
                    · go_simp
                    try simp only [List.setIfInBounds_toArray, List.set_cons_zero, List.set_cons_succ]
                    refine wpG_skip (i := 65) rfl rfl (by as_aux_lemma => kernel_rfl) (by as_aux_lemma => kernel_rfl) (by as_aux_lemma => kernel_rfl) (by as_aux_lemma => kernel_rfl) (fun _ _ _ h => h) (by rfl) ?_
                    try simp only [List.setIfInBounds_toArray, List.set_cons_zero, List.set_cons_succ]
                    refine wpG_skip (i := 66) rfl rfl (by as_aux_lemma => kernel_rfl) (by as_aux_lemma => kernel_rfl) (by as_aux_lemma => kernel_rfl) (by as_aux_lemma => kernel_rfl) (fun _ _ _ h => h) (by rfl) ?_
                    try simp only [List.setIfInBounds_toArray, List.set_cons_zero, List.set_cons_succ]
                    refine wpG_skip (i := 67) rfl rfl (by as_aux_lemma => kernel_rfl) (by as_aux_lemma => kernel_rfl) (by as_aux_lemma => kernel_rfl) (by as_aux_lemma => kernel_rfl) (fun _ _ _ h => h) (by rfl) ?_
                    try simp only [List.setIfInBounds_toArray, List.set_cons_zero, List.set_cons_succ]
                    refine wpG_skip (i := 68) rfl rfl (by as_aux_lemma => kernel_rfl) (by as_aux_lemma => kernel_rfl) (by as_aux_lemma => kernel_rfl) (by as_aux_lemma => kernel_rfl) (fun _ _ _ h => h) (by rfl) ?_
                    try simp only [List.setIfInBounds_toArray, List.set_cons_zero, List.set_cons_succ]
                    refine wpG_skip (i := 69) rfl rfl (by as_aux_lemma => kernel_rfl) (by as_aux_lemma => kernel_rfl) (by as_aux_lemma => kernel_rfl) (by as_aux_lemma => kernel_rfl) (fun _ _ _ h => h) (by rfl) ?_
                    try simp only [List.setIfInBounds_toArray, List.set_cons_zero, List.set_cons_succ]
                    refine wpG_skip (i := 70) rfl rfl (by as_aux_lemma => kernel_rfl) (by as_aux_lemma => kernel_rfl) (by as_aux_lemma => kernel_rfl) (by as_aux_lemma => kernel_rfl) (fun _ _ _ h => h) (by rfl) ?_
                    try simp only [List.setIfInBounds_toArray, List.set_cons_zero, List.set_cons_succ]
                    refine wpG_skip (i := 71) rfl rfl (by as_aux_lemma => kernel_rfl) (by as_aux_lemma => kernel_rfl) (by as_aux_lemma => kernel_rfl) (by as_aux_lemma => kernel_rfl) (fun _ _ _ h => h) (by rfl) ?_
                    try simp only [List.setIfInBounds_toArray, List.set_cons_zero, List.set_cons_succ]
                    refine wpG_take (i := 72) (v := .bool false) rfl rfl (by as_aux_lemma => kernel_rfl) (by as_aux_lemma => kernel_rfl) (by as_aux_lemma => kernel_rfl) (by as_aux_lemma => kernel_rfl) (fun _ _ _ h => h) (by rfl) (fun w' hS' => grow_value ?_ hS') ?_
                    · go_simp
                    try simp only [List.setIfInBounds_toArray, List.set_cons_zero, List.set_cons_succ]
                    refine wpG_take (i := 73) (v := .bool false) rfl rfl (by as_aux_lemma => kernel_rfl) (by as_aux_lemma => kernel_rfl) (by as_aux_lemma => kernel_rfl) (by as_aux_lemma => kernel_rfl) (fun _ _ _ h => h) (by rfl) (fun w' hS' => grow_value ?_ hS') ?_
                    · go_simp
                    try simp only [List.setIfInBounds_toArray, List.set_cons_zero, List.set_cons_succ]
                    refine wpG_done (by as_aux_lemma => kernel_rfl) (fun w43 hq hbx => ?_) _
                    have HB43 := hid (below_after HB42.out hbx (Nat.le_refl _))
                    clear HG hq hbx HSX
                    go_wp2_with (go_at_call 20; refine (awake_any _).mono ?_; rintro e wz ⟨rfl, hbz⟩)
                    go_ret
                    exact ⟨rfl, hWb.trans ((below_after HB43.out hbz (Nat.le_refl _)).mono (by omega))⟩
                · have u2 : decide (m0 ≤ y) = false := decide_eq_false hge
                  have hle : y ≤ m0 := by omega
                  have u4 : m1 ≤ m0 := HMS.out.down hle
                  have u5 : decide (y ≤ m0) = true := decide_eq_true hle
                  have u6 : decide (m0 < m1) = false := by simpa using u4
                  refine wpG_take (i := 44) (v := .bool false) rfl rfl (by as_aux_lemma => kernel_rfl) (by as_aux_lemma => kernel_rfl) (by as_aux_lemma => kernel_rfl) (by as_aux_lemma => kernel_rfl) (fun _ _ _ h => h) (by rfl) (fun w' hS' => grow_value ?_ hS') ?_
                  · go_simp
                  try simp only [List.setIfInBounds_toArray, List.set_cons_zero, List.set_cons_succ]
                  refine wpG_take (i := 45) (v := .bool false) rfl rfl (by as_aux_lemma => kernel_rfl) (by as_aux_lemma => kernel_rfl) (by as_aux_lemma => kernel_rfl) (by as_aux_lemma => kernel_rfl) (fun _ _ _ h => h) (by rfl) (fun w' hS' => grow_value ?_ hS') ?_
                  · go_simp
                  try simp only [List.setIfInBounds_toArray, List.set_cons_zero, List.set_cons_succ]
                  refine wpG_skip (i := 46) rfl rfl (by as_aux_lemma => kernel_rfl) (by as_aux_lemma => kernel_rfl) (by as_aux_lemma => kernel_rfl) (by as_aux_lemma => kernel_rfl) (fun _ _ _ h => h) (by rfl) ?_
                  try simp only [List.setIfInBounds_toArray, List.set_cons_zero, List.set_cons_succ]
                  refine wpG_skip (i := 47) rfl rfl (by as_aux_lemma => kernel_rfl) (by as_aux_lemma => kernel_rfl) (by as_aux_lemma => kernel_rfl) (by as_aux_lemma => kernel_rfl) (fun _ _ _ h => h) (by rfl) ?_
                  try simp only [List.setIfInBounds_toArray, List.set_cons_zero, List.set_cons_succ]
                  refine wpG_skip (i := 48) rfl rfl (by as_aux_lemma => kernel_rfl) (by as_aux_lemma => kernel_rfl) (by as_aux_lemma => kernel_rfl) (by as_aux_lemma => kernel_rfl) (fun _ _ _ h => h) (by rfl) ?_
                  try simp only [List.setIfInBounds_toArray, List.set_cons_zero, List.set_cons_succ]
                  refine wpG_skip (i := 49) rfl rfl (by as_aux_lemma => kernel_rfl) (by as_aux_lemma => kernel_rfl) (by as_aux_lemma => kernel_rfl) (by as_aux_lemma => kernel_rfl) (fun _ _ _ h => h) (by rfl) ?_
                  try simp only [List.setIfInBounds_toArray, List.set_cons_zero, List.set_cons_succ]
                  refine wpG_skip (i := 50) rfl rfl (by as_aux_lemma => kernel_rfl) (by as_aux_lemma => kernel_rfl) (by as_aux_lemma => kernel_rfl) (by as_aux_lemma => kernel_rfl) (fun _ _ _ h => h) (by rfl) ?_
                  try simp only [List.setIfInBounds_toArray, List.set_cons_zero, List.set_cons_succ]
                  refine wpG_skip (i := 51) rfl rfl (by as_aux_lemma => kernel_rfl) (by as_aux_lemma => kernel_rfl) (by as_aux_lemma => kernel_rfl) (by as_aux_lemma => kernel_rfl) (fun _ _ _ h => h) (by rfl) ?_
                  try simp only [List.setIfInBounds_toArray, List.set_cons_zero, List.set_cons_succ]
                  refine wpG_skip (i := 52) rfl rfl (by as_aux_lemma => kernel_rfl) (by as_aux_lemma => kernel_rfl) (by as_aux_lemma => kernel_rfl) (by as_aux_lemma => kernel_rfl) (fun _ _ _ h => h) (by rfl) ?_
                  try simp only [List.setIfInBounds_toArray, List.set_cons_zero, List.set_cons_succ]
                  refine wpG_take (i := 53) (v := .bool false) rfl rfl (by as_aux_lemma => kernel_rfl) (by as_aux_lemma => kernel_rfl) (by as_aux_lemma => kernel_rfl) (by as_aux_lemma => kernel_rfl) (fun _ _ _ h => h) (by rfl) (fun w' hS' => grow_value ?_ hS') ?_
                  · go_simp
                  try simp only [List.setIfInBounds_toArray, List.set_cons_zero, List.set_cons_succ]
                  refine wpG_take (i := 54) (v := .bool false) rfl rfl (by as_aux_lemma => kernel_rfl) (by as_aux_lemma => kernel_rfl) (by as_aux_lemma => kernel_rfl) (by as_aux_lemma => kernel_rfl) (fun _ _ _ h => h) (by rfl) (fun w' hS' => grow_value ?_ hS') ?_
                  · go_simp
                  try simp only [List.setIfInBounds_toArray, List.set_cons_zero, List.set_cons_succ]
                  refine wpG_take (i := 55) (v := .bool false) rfl rfl (by as_aux_lemma => kernel_rfl) (by as_aux_lemma => kernel_rfl) (by as_aux_lemma => kernel_rfl) (by as_aux_lemma => kernel_rfl) (fun _ _ _ h => h) (by rfl) (fun w' hS' => grow_value ?_ hS') ?_
                  · go_simp
                  try simp only [List.setIfInBounds_toArray, List.set_cons_zero, List.set_cons_succ]
                  refine wpG_take (i := 56) (v := .slice (some ⟨bt, offt, none⟩) t.length tc2) rfl rfl (by as_aux_lemma => kernel_rfl) (by as_aux_lemma => kernel_rfl) (by as_aux_lemma => kernel_rfl) (by as_aux_lemma => kernel_rfl) (fun _ _ _ h => h) (by rfl) (fun w' hS' => grow_value ?_ hS') ?_
                  · go_simp
                  try simp only [List.setIfInBounds_toArray, List.set_cons_zero, List.set_cons_succ]
                  refine wpG_take (i := 57) (v := .int .i64 hh) rfl rfl (by as_aux_lemma => kernel_rfl) (by as_aux_lemma => kernel_rfl) (by as_aux_lemma => kernel_rfl) (by as_aux_lemma => kernel_rfl) (fun _ _ _ h => h) (by rfl) (fun w' hS' => grow_value ?_ hS') ?_
                  · go_simp
                  try simp only [List.setIfInBounds_toArray, List.set_cons_zero, List.set_cons_succ]
                  refine wpG_take (i := 58) (v := .pointer (some ⟨bt, offt + hh, none⟩)) rfl rfl (by as_aux_lemma => kernel_rfl) (by as_aux_lemma => kernel_rfl) (by as_aux_lemma => kernel_rfl) (by as_aux_lemma => kernel_rfl) (fun _ _ _ h => h) (by rfl) (fun w' hS' => grow_value ?_ hS') ?_
                  · go_simp
                  try simp only [List.setIfInBounds_toArray, List.set_cons_zero, List.set_cons_succ]
                  refine wpG_take (i := 59) (v := .int .i64 y) rfl rfl (by as_aux_lemma => kernel_rfl) (by as_aux_lemma => kernel_rfl) (by as_aux_lemma => kernel_rfl) (by as_aux_lemma => kernel_rfl) (fun _ _ _ h => h) (by rfl) (fun w' hS' => grow_value ?_ hS') ?_
                  · have ⟨s0, s1, s2, s3, s4⟩ := HSX.out _ hS'; go_simp
                  try simp only [List.setIfInBounds_toArray, List.set_cons_zero, List.set_cons_succ]
                  refine wpG_take (i := 60) (v := .slice (some ⟨b42, o42, none⟩) 2 c42) rfl rfl (by as_aux_lemma => kernel_rfl) (by as_aux_lemma => kernel_rfl) (by as_aux_lemma => kernel_rfl) (by as_aux_lemma => kernel_rfl) (fun _ _ _ h => h) (by rfl) (fun w' hS' => grow_value ?_ hS') ?_
                  · go_simp
                  try simp only [List.setIfInBounds_toArray, List.set_cons_zero, List.set_cons_succ]
                  refine wpG_take (i := 61) (v := .pointer (some ⟨b42, o42, none⟩)) rfl rfl (by as_aux_lemma => kernel_rfl) (by as_aux_lemma => kernel_rfl) (by as_aux_lemma => kernel_rfl) (by as_aux_lemma => kernel_rfl) (fun _ _ _ h => h) (by rfl) (fun w' hS' => grow_value ?_ hS') ?_
                  · go_simp
                  try simp only [List.setIfInBounds_toArray, List.set_cons_zero, List.set_cons_succ]
                  refine wpG_take (i := 62) (v := .int .i64 m0) rfl rfl (by as_aux_lemma => kernel_rfl) (by as_aux_lemma => kernel_rfl) (by as_aux_lemma => kernel_rfl) (by as_aux_lemma => kernel_rfl) (fun _ _ _ h => h) (by rfl) (fun w' hS' => grow_value ?_ hS') ?_
                  · have ⟨s0, s1, s2, s3, s4⟩ := HSX.out _ hS'; go_simp
                  try simp only [List.setIfInBounds_toArray, List.set_cons_zero, List.set_cons_succ]
                  refine wpG_take (i := 63) (v := .bool true) rfl rfl (by as_aux_lemma => kernel_rfl) (by as_aux_lemma => kernel_rfl) (by as_aux_lemma => kernel_rfl) (by as_aux_lemma => kernel_rfl) (fun _ _ _ h => h) (by rfl) (fun w' hS' => grow_value ?_ hS') ?_
                  · go_simp
                  try simp only [List.setIfInBounds_toArray, List.set_cons_zero, List.set_cons_succ]
                  refine wpG_take (i := 64) (v := .bool true) rfl rfl (by as_aux_lemma => kernel_rfl) (by as_aux_lemma => kernel_rfl) (by as_aux_lemma => kernel_rfl) (by as_aux_lemma => kernel_rfl) (fun _ _ _ h => h) (by rfl) (fun w' hS' => grow_value ?_ hS') ?_
                  · go_simp
                  try simp only [List.setIfInBounds_toArray, List.set_cons_zero, List.set_cons_succ]
                  refine wpG_take (i := 65) (v := .slice (some ⟨b42, o42, none⟩) 2 c42) rfl rfl (by as_aux_lemma => kernel_rfl) (by as_aux_lemma => kernel_rfl) (by as_aux_lemma => kernel_rfl) (by as_aux_lemma => kernel_rfl) (fun _ _ _ h => h) (by rfl) (fun w' hS' => grow_value ?_ hS') ?_
                  · go_simp
                  try simp only [List.setIfInBounds_toArray, List.set_cons_zero, List.set_cons_succ]
                  refine wpG_take (i := 66) (v := .pointer (some ⟨b42, o42 + 1, none⟩)) rfl rfl (by as_aux_lemma => kernel_rfl) (by as_aux_lemma => kernel_rfl) (by as_aux_lemma => kernel_rfl) (by as_aux_lemma => kernel_rfl) (fun _ _ _ h => h) (by rfl) (fun w' hS' => grow_value ?_ hS') ?_
                  · go_simp
                  try simp only [List.setIfInBounds_toArray, List.set_cons_zero, List.set_cons_succ]
                  refine wpG_take (i := 67) (v := .int .i64 m1) rfl rfl (by as_aux_lemma => kernel_rfl) (by as_aux_lemma => kernel_rfl) (by as_aux_lemma => kernel_rfl) (by as_aux_lemma => kernel_rfl) (fun _ _ _ h => h) (by rfl) (fun w' hS' => grow_value ?_ hS') ?_
                  · have ⟨s0, s1, s2, s3, s4⟩ := HSX.out _ hS'; go_simp
                  try simp only [List.setIfInBounds_toArray, List.set_cons_zero, List.set_cons_succ]
                  refine wpG_take (i := 68) (v := .slice (some ⟨b42, o42, none⟩) 2 c42) rfl rfl (by as_aux_lemma => kernel_rfl) (by as_aux_lemma => kernel_rfl) (by as_aux_lemma => kernel_rfl) (by as_aux_lemma => kernel_rfl) (fun _ _ _ h => h) (by rfl) (fun w' hS' => grow_value ?_ hS') ?_
                  · go_simp
                  try simp only [List.setIfInBounds_toArray, List.set_cons_zero, List.set_cons_succ]
                  refine wpG_take (i := 69) (v := .pointer (some ⟨b42, o42, none⟩)) rfl rfl (by as_aux_lemma => kernel_rfl) (by as_aux_lemma => kernel_rfl) (by as_aux_lemma => kernel_rfl) (by as_aux_lemma => kernel_rfl) (fun _ _ _ h => h) (by rfl) (fun w' hS' => grow_value ?_ hS') ?_
                  · go_simp
                  try simp only [List.setIfInBounds_toArray, List.set_cons_zero, List.set_cons_succ]
                  refine wpG_take (i := 70) (v := .int .i64 m0) rfl rfl (by as_aux_lemma => kernel_rfl) (by as_aux_lemma => kernel_rfl) (by as_aux_lemma => kernel_rfl) (by as_aux_lemma => kernel_rfl) (fun _ _ _ h => h) (by rfl) (fun w' hS' => grow_value ?_ hS') ?_
                  · have ⟨s0, s1, s2, s3, s4⟩ := HSX.out _ hS'; go_simp
                  try simp only [List.setIfInBounds_toArray, List.set_cons_zero, List.set_cons_succ]
                  refine wpG_take (i := 71) (v := .bool false) rfl rfl (by as_aux_lemma => kernel_rfl) (by as_aux_lemma => kernel_rfl) (by as_aux_lemma => kernel_rfl) (by as_aux_lemma => kernel_rfl) (fun _ _ _ h => h) (by rfl) (fun w' hS' => grow_value ?_ hS') ?_
                  · go_simp
                  try simp only [List.setIfInBounds_toArray, List.set_cons_zero, List.set_cons_succ]
                  refine wpG_take (i := 72) (v := .bool false) rfl rfl (by as_aux_lemma => kernel_rfl) (by as_aux_lemma => kernel_rfl) (by as_aux_lemma => kernel_rfl) (by as_aux_lemma => kernel_rfl) (fun _ _ _ h => h) (by rfl) (fun w' hS' => grow_value ?_ hS') ?_
                  · go_simp
                  try simp only [List.setIfInBounds_toArray, List.set_cons_zero, List.set_cons_succ]
                  refine wpG_take (i := 73) (v := .bool false) rfl rfl (by as_aux_lemma => kernel_rfl) (by as_aux_lemma => kernel_rfl) (by as_aux_lemma => kernel_rfl) (by as_aux_lemma => kernel_rfl) (fun _ _ _ h => h) (by rfl) (fun w' hS' => grow_value ?_ hS') ?_
                  · go_simp
                  try simp only [List.setIfInBounds_toArray, List.set_cons_zero, List.set_cons_succ]
                  refine wpG_done (by as_aux_lemma => kernel_rfl) (fun w43 hq hbx => ?_) _
                  have HB43 := hid (below_after HB42.out hbx (Nat.le_refl _))
                  clear HG hq hbx HSX
                  go_wp2_with (go_at_call 20; refine (awake_any _).mono ?_; rintro e wz ⟨rfl, hbz⟩)
                  go_ret
                  exact ⟨rfl, hWb.trans ((below_after HB43.out hbz (Nat.le_refl _)).mono (by omega))⟩
            | true =>
              as_aux_lemma =>
                have hf2 := fitB_all HVE.out.2.2.symm
                have HFZ := hid (meanC_fault HF.out (ks := [ws, ws.set hh vv, ws.map fun x => x * 2]) (by simp) (by intro k hk; simp at hk; rcases hk with rfl | rfl | rfl; exact HCK.out; exact HSC.out; exact twice_cask HCK.out hf2))
                have HSMZ := hid (fault_good HFZ.out).1.small
                have HPZ := hid (show ((meanC c [ws, ws.set hh vv, ws.map fun x => x * 2]).casks.map fun k => mean (pad3 t) k) = [m0, m1, m0] by simp only [meanC, List.map_cons, List.map_nil, HP0.out, HP1.out, HP2.out])
                clear hf2
                have b1 := cell_of_row HR12.out 1
                simp only [List.getElem?_toArray, List.getElem?_cons_zero, List.getElem?_cons_succ] at b1
                have hown : OwnL (X + 1) w12 (.slice (some ⟨Y, 0, none⟩) 2 2) [ws, ws.set hh vv] := by
                  refine ⟨[.slice (some ⟨g9, 0, none⟩) ws.length cap9, .slice (some ⟨g7, 0, none⟩) ws.length pc7], ⟨rfl, .inr ⟨Y, 2, _, rfl, by omega, HRY.out, by simp, by unfold maxLen; omega, rfl, rfl⟩⟩, rfl, fun j xv l hx hl => ?_⟩
                  · match j, hx, hl with
                    | 0, hx, hl =>
                      simp only [List.getElem?_cons_zero, Option.some.injEq] at hx hl
                      subst hx; subst hl
                      exact HA12.out.mono fun b hb => ⟨hb.1, by have := hb.2; omega, fun e => by injection e with e; have e : Y = b := e; have := hb.2; omega⟩
                    | 1, hx, hl =>
                      simp only [List.getElem?_cons_zero, List.getElem?_cons_succ, Option.some.injEq] at hx hl
                      subst hx; subst hl
                      exact HE12.out.mono fun b hb => ⟨hb.1, by have := hb.2; omega, fun e => by injection e with e; have e : Y = b := e; have := hb.2; omega⟩
                    | j + 2, hx, hl => simp at hx
                have HOWN := hid hown
                clear hown
                have hba := below_alloc1 (Nat.le_refl w12.heap.size) (Obj.cells #[.slice (some ⟨g6, 0, none⟩) ws.length pc6] 47)
                have HOWN2 := hid (HOWN.out.below hba)
                have HNEW := hid (cells_new w12 [.slice (some ⟨g6, 0, none⟩) ws.length pc6] 47)
                have HXL := hid (HD12.out.keep (w' := w12.alloc (Obj.cells #[.slice (some ⟨g6, 0, none⟩) ws.length pc6] 47)) ⟨by simp, fun b hb => hba.block b (by have := hb.2; omega)⟩)
                clear hba
                go_upto_region 20 with (at_builtin; refine wpList_append1L rfl _ _ (X + 1) rfl (.slice (some ⟨Y, 0, none⟩) 2 2) [ws, ws.set hh vv] (by rfl) HOWN2.out w12.heap.size 1 _ (ws.map fun x => x * 2) (by rfl) (HNEW.out 0 _ rfl) (HXL.out.mono (fun b hb => ⟨hb.1, by have := hb.2; simp; omega, fun e => by injection e with e; have e : Y = b := e; have := hb.2; omega⟩)) (by simp) (by simp; omega) ?_; intro v13 w13 hown13 hgr13; obtain ⟨pa, pc, rfl, HOW13, HC13, HR13, c13, f13, l13, l13'⟩ := after_append (n := 3) (u := .slice (some ⟨Y, 0, none⟩) 2 2) hown13 hgr13 HR12.out (by omega) rfl rfl; clear hown13 hgr13)
                clear HOWN2 HNEW HXL HOWN b1
                obtain ⟨w14, hw14⟩ : ∃ w', w' = w13.setCell ⟨X, 1, none⟩ (.slice pa 3 pc) := ⟨_, rfl⟩
                rw [← hw14]
                have hs14 : w14.heap.size = w13.heap.size := by rw [hw14]; simp [World.setCell]
                have hC14 : Chg (fun b => b = X ∨ b = Y) w12 w14 := by rw [hw14]; exact (HC13.out.mono fun b hb => .inr hb).trans ((setCell_chg _).mono fun b hb => .inl hb)
                have hOW14 : Lss (Lt w14.heap.size) w14 (.slice pa 3 pc) [ws, ws.set hh vv, ws.map fun x => x * 2] := by
                  have h1 := (HOW13.out.chg (B := w14) (T := fun b => b = X) (by rw [hw14]; exact setCell_chg _) (fun b hb e => by omega)).lss
                  exact h1.mono fun b hb => hb.2
                have HR14 := hid (show w14.heap[X]? = some (.cells #[.slice ha c.heaps.length hc, .slice pa 3 pc, .slice none 0 0] 26 (0, 0)) by rw [hw14]; exact row_set HR13.out 1 _)
                have hs14' : w12.heap.size ≤ w14.heap.size := by omega
                have HB14 := hid (HB12.out.trans (hC14.below (n := W.heap.size) (by omega) (fun b hb e => by omega)))
                have HM14 := hid (HM12.out.trans (hC14.below (n := w3.heap.size) (by omega) (fun b hb e => by omega)))
                have HOL := hid hOW14
                clear hOW14 hC14 hw14 HC13 HOW13 HR13 c13 f13 l13 l13' hs14
                have HCZ := hid (show CeV (Lt w14.heap.size) w14 (.agg #[.slice ha c.heaps.length hc, .slice pa 3 pc, .slice none 0 0]) (meanC c [ws, ws.set hh vv, ws.map fun x => x * 2]) by
                  obtain ⟨_, _, _, _, _, _, he, i1, -, -⟩ := (HCE.out w14 HB14.out).open
                  cases he
                  exact ⟨_, _, _, rfl, i1.le (by have := HB14.out.size; omega), HOL.out, Sl.nil⟩)
                have HRZ := HR14
                have hlX : X < w14.heap.size := by omega
                clear HRY HA12 HE12 HD12 HOL
                have hc12 := cell_of_row HRZ.out 0
                have hc13 := cell_of_row HRZ.out 1
                have hc14 := cell_of_row HRZ.out 2
                simp only [List.getElem?_toArray, List.getElem?_cons_zero, List.getElem?_cons_succ] at hc12 hc13 hc14
                go_wp2_with fail
                refine (CellarL_any (meanC c [ws, ws.set hh vv, ws.map fun x => x * 2]) _ w14.heap.size w14 (Nat.le_refl _) HCZ.out HSMZ.out).mono ?_
                rintro e w40 ⟨v40, rfl, hc40, hb40⟩
                obtain ⟨_, _, _, _, _, _, rfl, -⟩ := id hc40.open
                have HB40 := hid (below_after HB14.out hb40 (Nat.le_refl _))
                have HM40 := hid (below_after HM14.out hb40 (Nat.le_refl _))
                have HR40 := hid ((hb40.block X (by omega)).trans HRZ.out)
                have HC40 := hid hc40
                have hs40 := hb40.size
                have zM40 := HM40.out.size
                clear hb40 hc40 hc12 hc13 hc14
                go_wp2_with fail
                refine (list_any t _ w3.heap.size w40 zM40 (HI3.out.below HM40.out) (by omega)).mono ?_
                rintro e w41 ⟨v41, rfl, ho41, hb41⟩
                have hi41 := ho41.slLt encI_length
                obtain ⟨_, _, rfl, -, -⟩ := id hi41.open1
                have HB41 := hid (below_after HB40.out hb41 (Nat.le_refl _))
                have HM41 := hid (below_after HM40.out hb41 (Nat.le_refl _))
                have HR41 := hid ((hb41.block X (by omega)).trans HR40.out)
                have HC41 := hid ((HC40.out.below hb41).le hb41.size)
                have HI41 := hid hi41
                have hs41 := hb41.size
                have zM41 := HM41.out.size
                clear hb41 hi41 ho41
                go_wp2_with fail
                refine (play_ok (meanC c [ws, ws.set hh vv, ws.map fun x => x * 2]) _ _ t _ w41 (Nat.le_refl _) HC41.out HI41.out (by omega) HFZ.out HLT.out).mono ?_
                rw [HPZ.out]
                rintro e w42 ⟨v42, rfl, hi42, hb42⟩
                obtain ⟨_, c42, rfl, -, ho42⟩ := id hi42.open1
                rcases ho42 with hnil | ⟨b42, o42, rfl, l42, hcc⟩
                · simp at hnil
                have d0 := hcc 0 (by simp)
                have d1 := hcc 1 (by simp)
                have d2 := hcc 2 (by simp)
                have HB42 := hid (below_after HB41.out hb42 (Nat.le_refl _))
                have HM42 := hid (below_after HM41.out hb42 (Nat.le_refl _))
                have HR42 := hid ((hb42.block X (by omega)).trans HR41.out)
                have yt := HTC.out _ HM42.out
                have hc13 := cell_of_row HR42.out 1
                simp only [List.getElem?_toArray, List.getElem?_cons_zero, List.getElem?_cons_succ] at hc13 d0 d1 d2
                clear hcc hi42 hb42
                have l42 : b42 < w42.heap.size := l42
                have hs42 := HB42.out.size
                have zM42 := HM42.out.size
                have zX42 := (Array.getElem?_eq_some_iff.1 HR42.out).1
                have HSX := hid (fun w' (h : Below w42.heap.size w42 w') => ⟨(h.cell (p := ⟨X, 1, none⟩) (by show X < _; omega)).trans hc13, (h.cell (p := ⟨b42, o42, none⟩) l42).trans d0, (h.cell (p := ⟨b42, o42 + 1, none⟩) l42).trans d1, (h.cell (p := ⟨b42, o42 + 2, none⟩) l42).trans d2, (h.cell (p := ⟨bt, offt + hh, none⟩) (by show bt < _; omega)).trans yt⟩ :
                  ∀ w', Below w42.heap.size w42 w' → w'.cell? ⟨X, 1, none⟩ = some (.slice pa 3 pc) ∧ w'.cell? ⟨b42, o42, none⟩ = some (.int .i64 m0) ∧ w'.cell? ⟨b42, o42 + 1, none⟩ = some (.int .i64 m1) ∧ w'.cell? ⟨b42, o42 + 2, none⟩ = some (.int .i64 m0) ∧ w'.cell? ⟨bt, offt + hh, none⟩ = some (.int .i64 y))
                clear hc13 d0 d1 d2 yt
                go_wp2_with fail
                refine wp_region_grow (by as_aux_lemma => kernel_rfl) 99 (fun w' => Below w42.heap.size w42 w') ?_ ?_
                · exact (Below.refl _ _).drew
                have HG := fun (a b : World) (h : Below w42.heap.size w42 a) (k : Below a.heap.size a b) => (h.trans (k.mono h.size) : Below w42.heap.size w42 b)
                refine wpG_take (i := 0) (v := .int .i64 0) rfl rfl (by as_aux_lemma => kernel_rfl) (by as_aux_lemma => kernel_rfl) (by as_aux_lemma => kernel_rfl) (by as_aux_lemma => kernel_rfl) (fun _ _ _ h => h) (by rfl) (fun w' hS' => grow_value ?_ hS') ?_
                · go_simp
                try simp only [List.setIfInBounds_toArray, List.set_cons_zero, List.set_cons_succ]
                refine wpG_take (i := 1) (v := .bool false) rfl rfl (by as_aux_lemma => kernel_rfl) (by as_aux_lemma => kernel_rfl) (by as_aux_lemma => kernel_rfl) (by as_aux_lemma => kernel_rfl) (fun _ _ _ h => h) (by rfl) (fun w' hS' => grow_value ?_ hS') ?_
                · go_simp
                try simp only [List.setIfInBounds_toArray, List.set_cons_zero, List.set_cons_succ]
                refine wpG_take (i := 2) (v := .bool false) rfl rfl (by as_aux_lemma => kernel_rfl) (by as_aux_lemma => kernel_rfl) (by as_aux_lemma => kernel_rfl) (by as_aux_lemma => kernel_rfl) (fun _ _ _ h => h) (by rfl) (fun w' hS' => grow_value ?_ hS') ?_
                · go_simp
                try simp only [List.setIfInBounds_toArray, List.set_cons_zero, List.set_cons_succ]
                refine wpG_take (i := 3) (v := .slice (some ⟨b42, o42, none⟩) 3 c42) rfl rfl (by as_aux_lemma => kernel_rfl) (by as_aux_lemma => kernel_rfl) (by as_aux_lemma => kernel_rfl) (by as_aux_lemma => kernel_rfl) (fun _ _ _ h => h) (by rfl) (fun w' hS' => grow_value ?_ hS') ?_
                · go_simp
                try simp only [List.setIfInBounds_toArray, List.set_cons_zero, List.set_cons_succ]
                refine wpG_take (i := 4) (v := .int .i64 3) rfl rfl (by as_aux_lemma => kernel_rfl) (by as_aux_lemma => kernel_rfl) (by as_aux_lemma => kernel_rfl) (by as_aux_lemma => kernel_rfl) (fun _ _ _ h => h) (by rfl) (fun w' hS' => grow_value ?_ hS') ?_
                · go_simp
                try simp only [List.setIfInBounds_toArray, List.set_cons_zero, List.set_cons_succ]
                refine wpG_take (i := 5) (v := .pointer (some ⟨X, 1, none⟩)) rfl rfl (by as_aux_lemma => kernel_rfl) (by as_aux_lemma => kernel_rfl) (by as_aux_lemma => kernel_rfl) (by as_aux_lemma => kernel_rfl) (fun _ _ _ h => h) (by rfl) (fun w' hS' => grow_value ?_ hS') ?_
                · go_simp
                try simp only [List.setIfInBounds_toArray, List.set_cons_zero, List.set_cons_succ]
                refine wpG_take (i := 6) (v := .slice pa 3 pc) rfl rfl (by as_aux_lemma => kernel_rfl) (by as_aux_lemma => kernel_rfl) (by as_aux_lemma => kernel_rfl) (by as_aux_lemma => kernel_rfl) (fun _ _ _ h => h) (by rfl) (fun w' hS' => grow_value ?_ hS') ?_
                · have ⟨s0, s1, s2, s3, s4⟩ := HSX.out _ hS'; go_simp
                try simp only [List.setIfInBounds_toArray, List.set_cons_zero, List.set_cons_succ]
                refine wpG_take (i := 7) (v := .int .i64 3) rfl rfl (by as_aux_lemma => kernel_rfl) (by as_aux_lemma => kernel_rfl) (by as_aux_lemma => kernel_rfl) (by as_aux_lemma => kernel_rfl) (fun _ _ _ h => h) (by rfl) (fun w' hS' => grow_value ?_ hS') ?_
                · go_simp
                try simp only [List.setIfInBounds_toArray, List.set_cons_zero, List.set_cons_succ]
                refine wpG_take (i := 8) (v := .bool false) rfl rfl (by as_aux_lemma => kernel_rfl) (by as_aux_lemma => kernel_rfl) (by as_aux_lemma => kernel_rfl) (by as_aux_lemma => kernel_rfl) (fun _ _ _ h => h) (by rfl) (fun w' hS' => grow_value ?_ hS') ?_
                · go_simp
                try simp only [List.setIfInBounds_toArray, List.set_cons_zero, List.set_cons_succ]
                refine wpG_take (i := 9) (v := .bool false) rfl rfl (by as_aux_lemma => kernel_rfl) (by as_aux_lemma => kernel_rfl) (by as_aux_lemma => kernel_rfl) (by as_aux_lemma => kernel_rfl) (fun _ _ _ h => h) (by rfl) (fun w' hS' => grow_value ?_ hS') ?_
                · go_simp
                try simp only [List.setIfInBounds_toArray, List.set_cons_zero, List.set_cons_succ]
                refine wpG_take (i := 10) (v := .bool false) rfl rfl (by as_aux_lemma => kernel_rfl) (by as_aux_lemma => kernel_rfl) (by as_aux_lemma => kernel_rfl) (by as_aux_lemma => kernel_rfl) (fun _ _ _ h => h) (by rfl) (fun w' hS' => grow_value ?_ hS') ?_
                · go_simp
                try simp only [List.setIfInBounds_toArray, List.set_cons_zero, List.set_cons_succ]
                refine wpG_take (i := 11) (v := .slice (some ⟨b42, o42, none⟩) 3 c42) rfl rfl (by as_aux_lemma => kernel_rfl) (by as_aux_lemma => kernel_rfl) (by as_aux_lemma => kernel_rfl) (by as_aux_lemma => kernel_rfl) (fun _ _ _ h => h) (by rfl) (fun w' hS' => grow_value ?_ hS') ?_
                · go_simp
                try simp only [List.setIfInBounds_toArray, List.set_cons_zero, List.set_cons_succ]
                refine wpG_take (i := 12) (v := .pointer (some ⟨b42, o42, none⟩)) rfl rfl (by as_aux_lemma => kernel_rfl) (by as_aux_lemma => kernel_rfl) (by as_aux_lemma => kernel_rfl) (by as_aux_lemma => kernel_rfl) (fun _ _ _ h => h) (by rfl) (fun w' hS' => grow_value ?_ hS') ?_
                · go_simp
                try simp only [List.setIfInBounds_toArray, List.set_cons_zero, List.set_cons_succ]
                refine wpG_take (i := 13) (v := .int .i64 m0) rfl rfl (by as_aux_lemma => kernel_rfl) (by as_aux_lemma => kernel_rfl) (by as_aux_lemma => kernel_rfl) (by as_aux_lemma => kernel_rfl) (fun _ _ _ h => h) (by rfl) (fun w' hS' => grow_value ?_ hS') ?_
                · have ⟨s0, s1, s2, s3, s4⟩ := HSX.out _ hS'; go_simp
                try simp only [List.setIfInBounds_toArray, List.set_cons_zero, List.set_cons_succ]
                refine wpG_take (i := 14) (v := .int .i64 lo) rfl rfl (by as_aux_lemma => kernel_rfl) (by as_aux_lemma => kernel_rfl) (by as_aux_lemma => kernel_rfl) (by as_aux_lemma => kernel_rfl) (fun _ _ _ h => h) (by rfl) (fun w' hS' => grow_value ?_ hS') ?_
                · go_simp
                try simp only [List.setIfInBounds_toArray, List.set_cons_zero, List.set_cons_succ]
                refine wpG_take (i := 15) (v := .bool false) rfl rfl (by as_aux_lemma => kernel_rfl) (by as_aux_lemma => kernel_rfl) (by as_aux_lemma => kernel_rfl) (by as_aux_lemma => kernel_rfl) (fun _ _ _ h => h) (by rfl) (fun w' hS' => grow_value ?_ hS') ?_
                · go_simp
                try simp only [List.setIfInBounds_toArray, List.set_cons_zero, List.set_cons_succ]
                refine wpG_take (i := 16) (v := .bool false) rfl rfl (by as_aux_lemma => kernel_rfl) (by as_aux_lemma => kernel_rfl) (by as_aux_lemma => kernel_rfl) (by as_aux_lemma => kernel_rfl) (fun _ _ _ h => h) (by rfl) (fun w' hS' => grow_value ?_ hS') ?_
                · go_simp
                try simp only [List.setIfInBounds_toArray, List.set_cons_zero, List.set_cons_succ]
                refine wpG_take (i := 17) (v := .bool false) rfl rfl (by as_aux_lemma => kernel_rfl) (by as_aux_lemma => kernel_rfl) (by as_aux_lemma => kernel_rfl) (by as_aux_lemma => kernel_rfl) (fun _ _ _ h => h) (by rfl) (fun w' hS' => grow_value ?_ hS') ?_
                · go_simp
                try simp only [List.setIfInBounds_toArray, List.set_cons_zero, List.set_cons_succ]
                refine wpG_take (i := 18) (v := .slice (some ⟨b42, o42, none⟩) 3 c42) rfl rfl (by as_aux_lemma => kernel_rfl) (by as_aux_lemma => kernel_rfl) (by as_aux_lemma => kernel_rfl) (by as_aux_lemma => kernel_rfl) (fun _ _ _ h => h) (by rfl) (fun w' hS' => grow_value ?_ hS') ?_
                · go_simp
                try simp only [List.setIfInBounds_toArray, List.set_cons_zero, List.set_cons_succ]
                refine wpG_take (i := 19) (v := .pointer (some ⟨b42, o42, none⟩)) rfl rfl (by as_aux_lemma => kernel_rfl) (by as_aux_lemma => kernel_rfl) (by as_aux_lemma => kernel_rfl) (by as_aux_lemma => kernel_rfl) (fun _ _ _ h => h) (by rfl) (fun w' hS' => grow_value ?_ hS') ?_
                · go_simp
                try simp only [List.setIfInBounds_toArray, List.set_cons_zero, List.set_cons_succ]
                refine wpG_take (i := 20) (v := .int .i64 m0) rfl rfl (by as_aux_lemma => kernel_rfl) (by as_aux_lemma => kernel_rfl) (by as_aux_lemma => kernel_rfl) (by as_aux_lemma => kernel_rfl) (fun _ _ _ h => h) (by rfl) (fun w' hS' => grow_value ?_ hS') ?_
                · have ⟨s0, s1, s2, s3, s4⟩ := HSX.out _ hS'; go_simp
                try simp only [List.setIfInBounds_toArray, List.set_cons_zero, List.set_cons_succ]
                refine wpG_take (i := 21) (v := .int .i64 hi) rfl rfl (by as_aux_lemma => kernel_rfl) (by as_aux_lemma => kernel_rfl) (by as_aux_lemma => kernel_rfl) (by as_aux_lemma => kernel_rfl) (fun _ _ _ h => h) (by rfl) (fun w' hS' => grow_value ?_ hS') ?_
                · go_simp
                try simp only [List.setIfInBounds_toArray, List.set_cons_zero, List.set_cons_succ]
                refine wpG_take (i := 22) (v := .bool false) rfl rfl (by as_aux_lemma => kernel_rfl) (by as_aux_lemma => kernel_rfl) (by as_aux_lemma => kernel_rfl) (by as_aux_lemma => kernel_rfl) (fun _ _ _ h => h) (by rfl) (fun w' hS' => grow_value ?_ hS') ?_
                · go_simp
                try simp only [List.setIfInBounds_toArray, List.set_cons_zero, List.set_cons_succ]
                refine wpG_take (i := 23) (v := .bool false) rfl rfl (by as_aux_lemma => kernel_rfl) (by as_aux_lemma => kernel_rfl) (by as_aux_lemma => kernel_rfl) (by as_aux_lemma => kernel_rfl) (fun _ _ _ h => h) (by rfl) (fun w' hS' => grow_value ?_ hS') ?_
                · go_simp
                try simp only [List.setIfInBounds_toArray, List.set_cons_zero, List.set_cons_succ]
                refine wpG_take (i := 24) (v := .bool false) rfl rfl (by as_aux_lemma => kernel_rfl) (by as_aux_lemma => kernel_rfl) (by as_aux_lemma => kernel_rfl) (by as_aux_lemma => kernel_rfl) (fun _ _ _ h => h) (by rfl) (fun w' hS' => grow_value ?_ hS') ?_
                · go_simp
                try simp only [List.setIfInBounds_toArray, List.set_cons_zero, List.set_cons_succ]
                refine wpG_take (i := 25) (v := .bool true) rfl rfl (by as_aux_lemma => kernel_rfl) (by as_aux_lemma => kernel_rfl) (by as_aux_lemma => kernel_rfl) (by as_aux_lemma => kernel_rfl) (fun _ _ _ h => h) (by rfl) (fun w' hS' => grow_value ?_ hS') ?_
                · go_simp
                try simp only [List.setIfInBounds_toArray, List.set_cons_zero, List.set_cons_succ]
                refine wpG_take (i := 26) (v := .bool true) rfl rfl (by as_aux_lemma => kernel_rfl) (by as_aux_lemma => kernel_rfl) (by as_aux_lemma => kernel_rfl) (by as_aux_lemma => kernel_rfl) (fun _ _ _ h => h) (by rfl) (fun w' hS' => grow_value ?_ hS') ?_
                · go_simp
                try simp only [List.setIfInBounds_toArray, List.set_cons_zero, List.set_cons_succ]
                refine wpG_take (i := 27) (v := .slice (some ⟨b42, o42, none⟩) 3 c42) rfl rfl (by as_aux_lemma => kernel_rfl) (by as_aux_lemma => kernel_rfl) (by as_aux_lemma => kernel_rfl) (by as_aux_lemma => kernel_rfl) (fun _ _ _ h => h) (by rfl) (fun w' hS' => grow_value ?_ hS') ?_
                · go_simp
                try simp only [List.setIfInBounds_toArray, List.set_cons_zero, List.set_cons_succ]
                refine wpG_take (i := 28) (v := .pointer (some ⟨b42, o42 + 2, none⟩)) rfl rfl (by as_aux_lemma => kernel_rfl) (by as_aux_lemma => kernel_rfl) (by as_aux_lemma => kernel_rfl) (by as_aux_lemma => kernel_rfl) (fun _ _ _ h => h) (by rfl) (fun w' hS' => grow_value ?_ hS') ?_
                · go_simp
                try simp only [List.setIfInBounds_toArray, List.set_cons_zero, List.set_cons_succ]
                refine wpG_take (i := 29) (v := .int .i64 m0) rfl rfl (by as_aux_lemma => kernel_rfl) (by as_aux_lemma => kernel_rfl) (by as_aux_lemma => kernel_rfl) (by as_aux_lemma => kernel_rfl) (fun _ _ _ h => h) (by rfl) (fun w' hS' => grow_value ?_ hS') ?_
                · have ⟨s0, s1, s2, s3, s4⟩ := HSX.out _ hS'; go_simp
                try simp only [List.setIfInBounds_toArray, List.set_cons_zero, List.set_cons_succ]
                refine wpG_take (i := 30) (v := .slice (some ⟨b42, o42, none⟩) 3 c42) rfl rfl (by as_aux_lemma => kernel_rfl) (by as_aux_lemma => kernel_rfl) (by as_aux_lemma => kernel_rfl) (by as_aux_lemma => kernel_rfl) (fun _ _ _ h => h) (by rfl) (fun w' hS' => grow_value ?_ hS') ?_
                · go_simp
                try simp only [List.setIfInBounds_toArray, List.set_cons_zero, List.set_cons_succ]
                refine wpG_take (i := 31) (v := .pointer (some ⟨b42, o42, none⟩)) rfl rfl (by as_aux_lemma => kernel_rfl) (by as_aux_lemma => kernel_rfl) (by as_aux_lemma => kernel_rfl) (by as_aux_lemma => kernel_rfl) (fun _ _ _ h => h) (by rfl) (fun w' hS' => grow_value ?_ hS') ?_
                · go_simp
                try simp only [List.setIfInBounds_toArray, List.set_cons_zero, List.set_cons_succ]
                refine wpG_take (i := 32) (v := .int .i64 m0) rfl rfl (by as_aux_lemma => kernel_rfl) (by as_aux_lemma => kernel_rfl) (by as_aux_lemma => kernel_rfl) (by as_aux_lemma => kernel_rfl) (fun _ _ _ h => h) (by rfl) (fun w' hS' => grow_value ?_ hS') ?_
                · have ⟨s0, s1, s2, s3, s4⟩ := HSX.out _ hS'; go_simp
                try simp only [List.setIfInBounds_toArray, List.set_cons_zero, List.set_cons_succ]
                refine wpG_take (i := 33) (v := .bool false) rfl rfl (by as_aux_lemma => kernel_rfl) (by as_aux_lemma => kernel_rfl) (by as_aux_lemma => kernel_rfl) (by as_aux_lemma => kernel_rfl) (fun _ _ _ h => h) (by rfl) (fun w' hS' => grow_value ?_ hS') ?_
                · go_simp
                try simp only [List.setIfInBounds_toArray, List.set_cons_zero, List.set_cons_succ]
                refine wpG_take (i := 34) (v := .bool false) rfl rfl (by as_aux_lemma => kernel_rfl) (by as_aux_lemma => kernel_rfl) (by as_aux_lemma => kernel_rfl) (by as_aux_lemma => kernel_rfl) (fun _ _ _ h => h) (by rfl) (fun w' hS' => grow_value ?_ hS') ?_
                · go_simp
                try simp only [List.setIfInBounds_toArray, List.set_cons_zero, List.set_cons_succ]
                refine wpG_take (i := 35) (v := .bool false) rfl rfl (by as_aux_lemma => kernel_rfl) (by as_aux_lemma => kernel_rfl) (by as_aux_lemma => kernel_rfl) (by as_aux_lemma => kernel_rfl) (fun _ _ _ h => h) (by rfl) (fun w' hS' => grow_value ?_ hS') ?_
                · go_simp
                try simp only [List.setIfInBounds_toArray, List.set_cons_zero, List.set_cons_succ]
                refine wpG_take (i := 36) (v := .bool false) rfl rfl (by as_aux_lemma => kernel_rfl) (by as_aux_lemma => kernel_rfl) (by as_aux_lemma => kernel_rfl) (by as_aux_lemma => kernel_rfl) (fun _ _ _ h => h) (by rfl) (fun w' hS' => grow_value ?_ hS') ?_
                · go_simp
                try simp only [List.setIfInBounds_toArray, List.set_cons_zero, List.set_cons_succ]
                refine wpG_take (i := 37) (v := .slice (some ⟨bt, offt, none⟩) t.length tc2) rfl rfl (by as_aux_lemma => kernel_rfl) (by as_aux_lemma => kernel_rfl) (by as_aux_lemma => kernel_rfl) (by as_aux_lemma => kernel_rfl) (fun _ _ _ h => h) (by rfl) (fun w' hS' => grow_value ?_ hS') ?_
                · go_simp
                try simp only [List.setIfInBounds_toArray, List.set_cons_zero, List.set_cons_succ]
                refine wpG_take (i := 38) (v := .int .i64 hh) rfl rfl (by as_aux_lemma => kernel_rfl) (by as_aux_lemma => kernel_rfl) (by as_aux_lemma => kernel_rfl) (by as_aux_lemma => kernel_rfl) (fun _ _ _ h => h) (by rfl) (fun w' hS' => grow_value ?_ hS') ?_
                · go_simp
                try simp only [List.setIfInBounds_toArray, List.set_cons_zero, List.set_cons_succ]
                refine wpG_take (i := 39) (v := .pointer (some ⟨bt, offt + hh, none⟩)) rfl rfl (by as_aux_lemma => kernel_rfl) (by as_aux_lemma => kernel_rfl) (by as_aux_lemma => kernel_rfl) (by as_aux_lemma => kernel_rfl) (fun _ _ _ h => h) (by rfl) (fun w' hS' => grow_value ?_ hS') ?_
                · go_simp
                try simp only [List.setIfInBounds_toArray, List.set_cons_zero, List.set_cons_succ]
                refine wpG_take (i := 40) (v := .int .i64 y) rfl rfl (by as_aux_lemma => kernel_rfl) (by as_aux_lemma => kernel_rfl) (by as_aux_lemma => kernel_rfl) (by as_aux_lemma => kernel_rfl) (fun _ _ _ h => h) (by rfl) (fun w' hS' => grow_value ?_ hS') ?_
                · have ⟨s0, s1, s2, s3, s4⟩ := HSX.out _ hS'; go_simp
                try simp only [List.setIfInBounds_toArray, List.set_cons_zero, List.set_cons_succ]
                refine wpG_take (i := 41) (v := .slice (some ⟨b42, o42, none⟩) 3 c42) rfl rfl (by as_aux_lemma => kernel_rfl) (by as_aux_lemma => kernel_rfl) (by as_aux_lemma => kernel_rfl) (by as_aux_lemma => kernel_rfl) (fun _ _ _ h => h) (by rfl) (fun w' hS' => grow_value ?_ hS') ?_
                · go_simp
                try simp only [List.setIfInBounds_toArray, List.set_cons_zero, List.set_cons_succ]
                refine wpG_take (i := 42) (v := .pointer (some ⟨b42, o42, none⟩)) rfl rfl (by as_aux_lemma => kernel_rfl) (by as_aux_lemma => kernel_rfl) (by as_aux_lemma => kernel_rfl) (by as_aux_lemma => kernel_rfl) (fun _ _ _ h => h) (by rfl) (fun w' hS' => grow_value ?_ hS') ?_
                · go_simp
                try simp only [List.setIfInBounds_toArray, List.set_cons_zero, List.set_cons_succ]
                refine wpG_take (i := 43) (v := .int .i64 m0) rfl rfl (by as_aux_lemma => kernel_rfl) (by as_aux_lemma => kernel_rfl) (by as_aux_lemma => kernel_rfl) (by as_aux_lemma => kernel_rfl) (fun _ _ _ h => h) (by rfl) (fun w' hS' => grow_value ?_ hS') ?_
                · have ⟨s0, s1, s2, s3, s4⟩ := HSX.out _ hS'; go_simp
                try simp only [List.setIfInBounds_toArray, List.set_cons_zero, List.set_cons_succ]
                by_cases hge : m0 ≤ y
                · have u1 : m0 ≤ m1 := HMS.out.up hge
                  have u2 : decide (m0 ≤ y) = true := decide_eq_true hge
                  have u3 : decide (m1 < m0) = false := by simpa using u1
                  refine wpG_take (i := 44) (v := .bool true) rfl rfl (by as_aux_lemma => kernel_rfl) (by as_aux_lemma => kernel_rfl) (by as_aux_lemma => kernel_rfl) (by as_aux_lemma => kernel_rfl) (fun _ _ _ h => h) (by rfl) (fun w' hS' => grow_value ?_ hS') ?_
                  · go_simp
                  try simp only [List.setIfInBounds_toArray, List.set_cons_zero, List.set_cons_succ]
                  refine wpG_take (i := 45) (v := .bool true) rfl rfl (by as_aux_lemma => kernel_rfl) (by as_aux_lemma => kernel_rfl) (by as_aux_lemma => kernel_rfl) (by as_aux_lemma => kernel_rfl) (fun _ _ _ h => h) (by rfl) (fun w' hS' => grow_value ?_ hS') ?_
                  · go_simp
                  try simp only [List.setIfInBounds_toArray, List.set_cons_zero, List.set_cons_succ]
                  refine wpG_take (i := 46) (v := .slice (some ⟨b42, o42, none⟩) 3 c42) rfl rfl (by as_aux_lemma => kernel_rfl) (by as_aux_lemma => kernel_rfl) (by as_aux_lemma => kernel_rfl) (by as_aux_lemma => kernel_rfl) (fun _ _ _ h => h) (by rfl) (fun w' hS' => grow_value ?_ hS') ?_
                  · go_simp
                  try simp only [List.setIfInBounds_toArray, List.set_cons_zero, List.set_cons_succ]
                  refine wpG_take (i := 47) (v := .pointer (some ⟨b42, o42 + 1, none⟩)) rfl rfl (by as_aux_lemma => kernel_rfl) (by as_aux_lemma => kernel_rfl) (by as_aux_lemma => kernel_rfl) (by as_aux_lemma => kernel_rfl) (fun _ _ _ h => h) (by rfl) (fun w' hS' => grow_value ?_ hS') ?_
                  · go_simp
                  try simp only [List.setIfInBounds_toArray, List.set_cons_zero, List.set_cons_succ]
                  refine wpG_take (i := 48) (v := .int .i64 m1) rfl rfl (by as_aux_lemma => kernel_rfl) (by as_aux_lemma => kernel_rfl) (by as_aux_lemma => kernel_rfl) (by as_aux_lemma => kernel_rfl) (fun _ _ _ h => h) (by rfl) (fun w' hS' => grow_value ?_ hS') ?_
                  · have ⟨s0, s1, s2, s3, s4⟩ := HSX.out _ hS'; go_simp
                  try simp only [List.setIfInBounds_toArray, List.set_cons_zero, List.set_cons_succ]
                  refine wpG_take (i := 49) (v := .slice (some ⟨b42, o42, none⟩) 3 c42) rfl rfl (by as_aux_lemma => kernel_rfl) (by as_aux_lemma => kernel_rfl) (by as_aux_lemma => kernel_rfl) (by as_aux_lemma => kernel_rfl) (fun _ _ _ h => h) (by rfl) (fun w' hS' => grow_value ?_ hS') ?_
                  · go_simp
                  try simp only [List.setIfInBounds_toArray, List.set_cons_zero, List.set_cons_succ]
                  refine wpG_take (i := 50) (v := .pointer (some ⟨b42, o42, none⟩)) rfl rfl (by as_aux_lemma => kernel_rfl) (by as_aux_lemma => kernel_rfl) (by as_aux_lemma => kernel_rfl) (by as_aux_lemma => kernel_rfl) (fun _ _ _ h => h) (by rfl) (fun w' hS' => grow_value ?_ hS') ?_
                  · go_simp
                  try simp only [List.setIfInBounds_toArray, List.set_cons_zero, List.set_cons_succ]
                  refine wpG_take (i := 51) (v := .int .i64 m0) rfl rfl (by as_aux_lemma => kernel_rfl) (by as_aux_lemma => kernel_rfl) (by as_aux_lemma => kernel_rfl) (by as_aux_lemma => kernel_rfl) (fun _ _ _ h => h) (by rfl) (fun w' hS' => grow_value ?_ hS') ?_
                  · have ⟨s0, s1, s2, s3, s4⟩ := HSX.out _ hS'; go_simp
                  try simp only [List.setIfInBounds_toArray, List.set_cons_zero, List.set_cons_succ]
                  refine wpG_take (i := 52) (v := .bool false) rfl rfl (by as_aux_lemma => kernel_rfl) (by as_aux_lemma => kernel_rfl) (by as_aux_lemma => kernel_rfl) (by as_aux_lemma => kernel_rfl) (fun _ _ _ h => h) (by rfl) (fun w' hS' => grow_value ?_ hS') ?_
                  · go_simp
                  try simp only [List.setIfInBounds_toArray, List.set_cons_zero, List.set_cons_succ]
                  refine wpG_take (i := 53) (v := .bool false) rfl rfl (by as_aux_lemma => kernel_rfl) (by as_aux_lemma => kernel_rfl) (by as_aux_lemma => kernel_rfl) (by as_aux_lemma => kernel_rfl) (fun _ _ _ h => h) (by rfl) (fun w' hS' => grow_value ?_ hS') ?_
                  · go_simp
                  try simp only [List.setIfInBounds_toArray, List.set_cons_zero, List.set_cons_succ]
                  refine wpG_take (i := 54) (v := .bool false) rfl rfl (by as_aux_lemma => kernel_rfl) (by as_aux_lemma => kernel_rfl) (by as_aux_lemma => kernel_rfl) (by as_aux_lemma => kernel_rfl) (fun _ _ _ h => h) (by rfl) (fun w' hS' => grow_value ?_ hS') ?_
                  · go_simp
                  try simp only [List.setIfInBounds_toArray, List.set_cons_zero, List.set_cons_succ]
                  refine wpG_take (i := 55) (v := .bool false) rfl rfl (by as_aux_lemma => kernel_rfl) (by as_aux_lemma => kernel_rfl) (by as_aux_lemma => kernel_rfl) (by as_aux_lemma => kernel_rfl) (fun _ _ _ h => h) (by rfl) (fun w' hS' => grow_value ?_ hS') ?_
                  · go_simp
                  try simp only [List.setIfInBounds_toArray, List.set_cons_zero, List.set_cons_succ]
                  refine wpG_take (i := 56) (v := .slice (some ⟨bt, offt, none⟩) t.length tc2) rfl rfl (by as_aux_lemma => kernel_rfl) (by as_aux_lemma => kernel_rfl) (by as_aux_lemma => kernel_rfl) (by as_aux_lemma => kernel_rfl) (fun _ _ _ h => h) (by rfl) (fun w' hS' => grow_value ?_ hS') ?_
                  · go_simp
                  try simp only [List.setIfInBounds_toArray, List.set_cons_zero, List.set_cons_succ]
                  refine wpG_take (i := 57) (v := .int .i64 hh) rfl rfl (by as_aux_lemma => kernel_rfl) (by as_aux_lemma => kernel_rfl) (by as_aux_lemma => kernel_rfl) (by as_aux_lemma => kernel_rfl) (fun _ _ _ h => h) (by rfl) (fun w' hS' => grow_value ?_ hS') ?_
                  · go_simp
                  try simp only [List.setIfInBounds_toArray, List.set_cons_zero, List.set_cons_succ]
                  refine wpG_take (i := 58) (v := .pointer (some ⟨bt, offt + hh, none⟩)) rfl rfl (by as_aux_lemma => kernel_rfl) (by as_aux_lemma => kernel_rfl) (by as_aux_lemma => kernel_rfl) (by as_aux_lemma => kernel_rfl) (fun _ _ _ h => h) (by rfl) (fun w' hS' => grow_value ?_ hS') ?_
                  · go_simp
                  try simp only [List.setIfInBounds_toArray, List.set_cons_zero, List.set_cons_succ]
                  refine wpG_take (i := 59) (v := .int .i64 y) rfl rfl (by as_aux_lemma => kernel_rfl) (by as_aux_lemma => kernel_rfl) (by as_aux_lemma => kernel_rfl) (by as_aux_lemma => kernel_rfl) (fun _ _ _ h => h) (by rfl) (fun w' hS' => grow_value ?_ hS') ?_
                  · have ⟨s0, s1, s2, s3, s4⟩ := HSX.out _ hS'; go_simp
                  try simp only [List.setIfInBounds_toArray, List.set_cons_zero, List.set_cons_succ]
                  refine wpG_take (i := 60) (v := .slice (some ⟨b42, o42, none⟩) 3 c42) rfl rfl (by as_aux_lemma => kernel_rfl) (by as_aux_lemma => kernel_rfl) (by as_aux_lemma => kernel_rfl) (by as_aux_lemma => kernel_rfl) (fun _ _ _ h => h) (by rfl) (fun w' hS' => grow_value ?_ hS') ?_
                  · go_simp
                  try simp only [List.setIfInBounds_toArray, List.set_cons_zero, List.set_cons_succ]
                  refine wpG_take (i := 61) (v := .pointer (some ⟨b42, o42, none⟩)) rfl rfl (by as_aux_lemma => kernel_rfl) (by as_aux_lemma => kernel_rfl) (by as_aux_lemma => kernel_rfl) (by as_aux_lemma => kernel_rfl) (fun _ _ _ h => h) (by rfl) (fun w' hS' => grow_value ?_ hS') ?_
                  · go_simp
                  try simp only [List.setIfInBounds_toArray, List.set_cons_zero, List.set_cons_succ]
                  refine wpG_take (i := 62) (v := .int .i64 m0) rfl rfl (by as_aux_lemma => kernel_rfl) (by as_aux_lemma => kernel_rfl) (by as_aux_lemma => kernel_rfl) (by as_aux_lemma => kernel_rfl) (fun _ _ _ h => h) (by rfl) (fun w' hS' => grow_value ?_ hS') ?_
                  · have ⟨s0, s1, s2, s3, s4⟩ := HSX.out _ hS'; go_simp
                  try simp only [List.setIfInBounds_toArray, List.set_cons_zero, List.set_cons_succ]
                  by_cases hle : y ≤ m0
                  · have u4 : m1 ≤ m0 := HMS.out.down hle
                    have u5 : decide (y ≤ m0) = true := decide_eq_true hle
                    have u6 : decide (m0 < m1) = false := by simpa using u4
                    refine wpG_take (i := 63) (v := .bool true) rfl rfl (by as_aux_lemma => kernel_rfl) (by as_aux_lemma => kernel_rfl) (by as_aux_lemma => kernel_rfl) (by as_aux_lemma => kernel_rfl) (fun _ _ _ h => h) (by rfl) (fun w' hS' => grow_value ?_ hS') ?_
                    · go_simp
                    try simp only [List.setIfInBounds_toArray, List.set_cons_zero, List.set_cons_succ]
                    refine wpG_take (i := 64) (v := .bool true) rfl rfl (by as_aux_lemma => kernel_rfl) (by as_aux_lemma => kernel_rfl) (by as_aux_lemma => kernel_rfl) (by as_aux_lemma => kernel_rfl) (fun _ _ _ h => h) (by rfl) (fun w' hS' => grow_value ?_ hS') ?_
                    · go_simp
                    try simp only [List.setIfInBounds_toArray, List.set_cons_zero, List.set_cons_succ]
                    refine wpG_take (i := 65) (v := .slice (some ⟨b42, o42, none⟩) 3 c42) rfl rfl (by as_aux_lemma => kernel_rfl) (by as_aux_lemma => kernel_rfl) (by as_aux_lemma => kernel_rfl) (by as_aux_lemma => kernel_rfl) (fun _ _ _ h => h) (by rfl) (fun w' hS' => grow_value ?_ hS') ?_
                    · go_simp
                    try simp only [List.setIfInBounds_toArray, List.set_cons_zero, List.set_cons_succ]
                    refine wpG_take (i := 66) (v := .pointer (some ⟨b42, o42 + 1, none⟩)) rfl rfl (by as_aux_lemma => kernel_rfl) (by as_aux_lemma => kernel_rfl) (by as_aux_lemma => kernel_rfl) (by as_aux_lemma => kernel_rfl) (fun _ _ _ h => h) (by rfl) (fun w' hS' => grow_value ?_ hS') ?_
                    · go_simp
                    try simp only [List.setIfInBounds_toArray, List.set_cons_zero, List.set_cons_succ]
                    refine wpG_take (i := 67) (v := .int .i64 m1) rfl rfl (by as_aux_lemma => kernel_rfl) (by as_aux_lemma => kernel_rfl) (by as_aux_lemma => kernel_rfl) (by as_aux_lemma => kernel_rfl) (fun _ _ _ h => h) (by rfl) (fun w' hS' => grow_value ?_ hS') ?_
                    · have ⟨s0, s1, s2, s3, s4⟩ := HSX.out _ hS'; go_simp
                    try simp only [List.setIfInBounds_toArray, List.set_cons_zero, List.set_cons_succ]
                    refine wpG_take (i := 68) (v := .slice (some ⟨b42, o42, none⟩) 3 c42) rfl rfl (by as_aux_lemma => kernel_rfl) (by as_aux_lemma => kernel_rfl) (by as_aux_lemma => kernel_rfl) (by as_aux_lemma => kernel_rfl) (fun _ _ _ h => h) (by rfl) (fun w' hS' => grow_value ?_ hS') ?_
                    · go_simp
                    try simp only [List.setIfInBounds_toArray, List.set_cons_zero, List.set_cons_succ]
                    refine wpG_take (i := 69) (v := .pointer (some ⟨b42, o42, none⟩)) rfl rfl (by as_aux_lemma => kernel_rfl) (by as_aux_lemma => kernel_rfl) (by as_aux_lemma => kernel_rfl) (by as_aux_lemma => kernel_rfl) (fun _ _ _ h => h) (by rfl) (fun w' hS' => grow_value ?_ hS') ?_
                    · go_simp
                    try simp only [List.setIfInBounds_toArray, List.set_cons_zero, List.set_cons_succ]
                    refine wpG_take (i := 70) (v := .int .i64 m0) rfl rfl (by as_aux_lemma => kernel_rfl) (by as_aux_lemma => kernel_rfl) (by as_aux_lemma => kernel_rfl) (by as_aux_lemma => kernel_rfl) (fun _ _ _ h => h) (by rfl) (fun w' hS' => grow_value ?_ hS') ?_
                    · have ⟨s0, s1, s2, s3, s4⟩ := HSX.out _ hS'; go_simp
                    try simp only [List.setIfInBounds_toArray, List.set_cons_zero, List.set_cons_succ]
                    refine wpG_take (i := 71) (v := .bool false) rfl rfl (by as_aux_lemma => kernel_rfl) (by as_aux_lemma => kernel_rfl) (by as_aux_lemma => kernel_rfl) (by as_aux_lemma => kernel_rfl) (fun _ _ _ h => h) (by rfl) (fun w' hS' => grow_value ?_ hS') ?_
                    · go_simp
                    try simp only [List.setIfInBounds_toArray, List.set_cons_zero, List.set_cons_succ]
                    refine wpG_take (i := 72) (v := .bool false) rfl rfl (by as_aux_lemma => kernel_rfl) (by as_aux_lemma => kernel_rfl) (by as_aux_lemma => kernel_rfl) (by as_aux_lemma => kernel_rfl) (fun _ _ _ h => h) (by rfl) (fun w' hS' => grow_value ?_ hS') ?_
                    · go_simp
                    try simp only [List.setIfInBounds_toArray, List.set_cons_zero, List.set_cons_succ]
                    refine wpG_take (i := 73) (v := .bool false) rfl rfl (by as_aux_lemma => kernel_rfl) (by as_aux_lemma => kernel_rfl) (by as_aux_lemma => kernel_rfl) (by as_aux_lemma => kernel_rfl) (fun _ _ _ h => h) (by rfl) (fun w' hS' => grow_value ?_ hS') ?_
                    · go_simp
                    try simp only [List.setIfInBounds_toArray, List.set_cons_zero, List.set_cons_succ]
                    refine wpG_done (by as_aux_lemma => kernel_rfl) (fun w43 hq hbx => ?_) _
                    have HB43 := hid (below_after HB42.out hbx (Nat.le_refl _))
                    clear HG hq hbx HSX
                    go_wp2_with (go_at_call 20; refine (awake_any _).mono ?_; rintro e wz ⟨rfl, hbz⟩)
                    go_ret
                    exact ⟨rfl, hWb.trans ((below_after HB43.out hbz (Nat.le_refl _)).mono (by omega))⟩
                  · have u5 : decide (y ≤ m0) = false := decide_eq_false hle
                    refine wpG_take (i := 63) (v := .bool false) rfl rfl (by as_aux_lemma => kernel_rfl) (by as_aux_lemma => kernel_rfl) (by as_aux_lemma => kernel_rfl) (by as_aux_lemma => kernel_rfl) (fun _ _ _ h => h) (by rfl) (fun w' hS' => grow_value ?_ hS') ?_
                    · go_simp
                    try simp only [List.setIfInBounds_toArray, List.set_cons_zero, List.set_cons_succ]
                    refine wpG_take (i := 64) (v := .bool false) rfl rfl (by as_aux_lemma => kernel_rfl) (by as_aux_lemma => kernel_rfl) (by as_aux_lemma => kernel_rfl) (by as_aux_lemma => kernel_rfl) (fun _ _ _ h => h) (by rfl) (fun w' hS' => grow_value ?_ hS') ?_
                    · go_simp
                    try simp only [List.setIfInBounds_toArray, List.set_cons_zero, List.set_cons_succ]
                    refine wpG_skip (i := 65) rfl rfl (by as_aux_lemma => kernel_rfl) (by as_aux_lemma => kernel_rfl) (by as_aux_lemma => kernel_rfl) (by as_aux_lemma => kernel_rfl) (fun _ _ _ h => h) (by rfl) ?_
                    try simp only [List.setIfInBounds_toArray, List.set_cons_zero, List.set_cons_succ]
                    refine wpG_skip (i := 66) rfl rfl (by as_aux_lemma => kernel_rfl) (by as_aux_lemma => kernel_rfl) (by as_aux_lemma => kernel_rfl) (by as_aux_lemma => kernel_rfl) (fun _ _ _ h => h) (by rfl) ?_
                    try simp only [List.setIfInBounds_toArray, List.set_cons_zero, List.set_cons_succ]
                    refine wpG_skip (i := 67) rfl rfl (by as_aux_lemma => kernel_rfl) (by as_aux_lemma => kernel_rfl) (by as_aux_lemma => kernel_rfl) (by as_aux_lemma => kernel_rfl) (fun _ _ _ h => h) (by rfl) ?_
                    try simp only [List.setIfInBounds_toArray, List.set_cons_zero, List.set_cons_succ]
                    refine wpG_skip (i := 68) rfl rfl (by as_aux_lemma => kernel_rfl) (by as_aux_lemma => kernel_rfl) (by as_aux_lemma => kernel_rfl) (by as_aux_lemma => kernel_rfl) (fun _ _ _ h => h) (by rfl) ?_
                    try simp only [List.setIfInBounds_toArray, List.set_cons_zero, List.set_cons_succ]
                    refine wpG_skip (i := 69) rfl rfl (by as_aux_lemma => kernel_rfl) (by as_aux_lemma => kernel_rfl) (by as_aux_lemma => kernel_rfl) (by as_aux_lemma => kernel_rfl) (fun _ _ _ h => h) (by rfl) ?_
                    try simp only [List.setIfInBounds_toArray, List.set_cons_zero, List.set_cons_succ]
                    refine wpG_skip (i := 70) rfl rfl (by as_aux_lemma => kernel_rfl) (by as_aux_lemma => kernel_rfl) (by as_aux_lemma => kernel_rfl) (by as_aux_lemma => kernel_rfl) (fun _ _ _ h => h) (by rfl) ?_
                    try simp only [List.setIfInBounds_toArray, List.set_cons_zero, List.set_cons_succ]
                    refine wpG_skip (i := 71) rfl rfl (by as_aux_lemma => kernel_rfl) (by as_aux_lemma => kernel_rfl) (by as_aux_lemma => kernel_rfl) (by as_aux_lemma => kernel_rfl) (fun _ _ _ h => h) (by rfl) ?_
                    try simp only [List.setIfInBounds_toArray, List.set_cons_zero, List.set_cons_succ]
                    refine wpG_take (i := 72) (v := .bool false) rfl rfl (by as_aux_lemma => kernel_rfl) (by as_aux_lemma => kernel_rfl) (by as_aux_lemma => kernel_rfl) (by as_aux_lemma => kernel_rfl) (fun _ _ _ h => h) (by rfl) (fun w' hS' => grow_value ?_ hS') ?_
                    · go_simp
                    try simp only [List.setIfInBounds_toArray, List.set_cons_zero, List.set_cons_succ]
                    refine wpG_take (i := 73) (v := .bool false) rfl rfl (by as_aux_lemma => kernel_rfl) (by as_aux_lemma => kernel_rfl) (by as_aux_lemma => kernel_rfl) (by as_aux_lemma => kernel_rfl) (fun _ _ _ h => h) (by rfl) (fun w' hS' => grow_value ?_ hS') ?_
                    · go_simp
                    try simp only [List.setIfInBounds_toArray, List.set_cons_zero, List.set_cons_succ]
                    refine wpG_done (by as_aux_lemma => kernel_rfl) (fun w43 hq hbx => ?_) _
                    have HB43 := hid (below_after HB42.out hbx (Nat.le_refl _))
                    clear HG hq hbx HSX
                    go_wp2_with (go_at_call 20; refine (awake_any _).mono ?_; rintro e wz ⟨rfl, hbz⟩)
                    go_ret
                    exact ⟨rfl, hWb.trans ((below_after HB43.out hbz (Nat.le_refl _)).mono (by omega))⟩
                · have u2 : decide (m0 ≤ y) = false := decide_eq_false hge
                  have hle : y ≤ m0 := by omega
                  have u4 : m1 ≤ m0 := HMS.out.down hle
                  have u5 : decide (y ≤ m0) = true := decide_eq_true hle
                  have u6 : decide (m0 < m1) = false := by simpa using u4
                  refine wpG_take (i := 44) (v := .bool false) rfl rfl (by as_aux_lemma => kernel_rfl) (by as_aux_lemma => kernel_rfl) (by as_aux_lemma => kernel_rfl) (by as_aux_lemma => kernel_rfl) (fun _ _ _ h => h) (by rfl) (fun w' hS' => grow_value ?_ hS') ?_
                  · go_simp
                  try simp only [List.setIfInBounds_toArray, List.set_cons_zero, List.set_cons_succ]
                  refine wpG_take (i := 45) (v := .bool false) rfl rfl (by as_aux_lemma => kernel_rfl) (by as_aux_lemma => kernel_rfl) (by as_aux_lemma => kernel_rfl) (by as_aux_lemma => kernel_rfl) (fun _ _ _ h => h) (by rfl) (fun w' hS' => grow_value ?_ hS') ?_
                  · go_simp
                  try simp only [List.setIfInBounds_toArray, List.set_cons_zero, List.set_cons_succ]
                  refine wpG_skip (i := 46) rfl rfl (by as_aux_lemma => kernel_rfl) (by as_aux_lemma => kernel_rfl) (by as_aux_lemma => kernel_rfl) (by as_aux_lemma => kernel_rfl) (fun _ _ _ h => h) (by rfl) ?_
                  try simp only [List.setIfInBounds_toArray, List.set_cons_zero, List.set_cons_succ]
                  refine wpG_skip (i := 47) rfl rfl (by as_aux_lemma => kernel_rfl) (by as_aux_lemma => kernel_rfl) (by as_aux_lemma => kernel_rfl) (by as_aux_lemma => kernel_rfl) (fun _ _ _ h => h) (by rfl) ?_
                  try simp only [List.setIfInBounds_toArray, List.set_cons_zero, List.set_cons_succ]
                  refine wpG_skip (i := 48) rfl rfl (by as_aux_lemma => kernel_rfl) (by as_aux_lemma => kernel_rfl) (by as_aux_lemma => kernel_rfl) (by as_aux_lemma => kernel_rfl) (fun _ _ _ h => h) (by rfl) ?_
                  try simp only [List.setIfInBounds_toArray, List.set_cons_zero, List.set_cons_succ]
                  refine wpG_skip (i := 49) rfl rfl (by as_aux_lemma => kernel_rfl) (by as_aux_lemma => kernel_rfl) (by as_aux_lemma => kernel_rfl) (by as_aux_lemma => kernel_rfl) (fun _ _ _ h => h) (by rfl) ?_
                  try simp only [List.setIfInBounds_toArray, List.set_cons_zero, List.set_cons_succ]
                  refine wpG_skip (i := 50) rfl rfl (by as_aux_lemma => kernel_rfl) (by as_aux_lemma => kernel_rfl) (by as_aux_lemma => kernel_rfl) (by as_aux_lemma => kernel_rfl) (fun _ _ _ h => h) (by rfl) ?_
                  try simp only [List.setIfInBounds_toArray, List.set_cons_zero, List.set_cons_succ]
                  refine wpG_skip (i := 51) rfl rfl (by as_aux_lemma => kernel_rfl) (by as_aux_lemma => kernel_rfl) (by as_aux_lemma => kernel_rfl) (by as_aux_lemma => kernel_rfl) (fun _ _ _ h => h) (by rfl) ?_
                  try simp only [List.setIfInBounds_toArray, List.set_cons_zero, List.set_cons_succ]
                  refine wpG_skip (i := 52) rfl rfl (by as_aux_lemma => kernel_rfl) (by as_aux_lemma => kernel_rfl) (by as_aux_lemma => kernel_rfl) (by as_aux_lemma => kernel_rfl) (fun _ _ _ h => h) (by rfl) ?_
                  try simp only [List.setIfInBounds_toArray, List.set_cons_zero, List.set_cons_succ]
                  refine wpG_take (i := 53) (v := .bool false) rfl rfl (by as_aux_lemma => kernel_rfl) (by as_aux_lemma => kernel_rfl) (by as_aux_lemma => kernel_rfl) (by as_aux_lemma => kernel_rfl) (fun _ _ _ h => h) (by rfl) (fun w' hS' => grow_value ?_ hS') ?_
                  · go_simp
                  try simp only [List.setIfInBounds_toArray, List.set_cons_zero, List.set_cons_succ]
                  refine wpG_take (i := 54) (v := .bool false) rfl rfl (by as_aux_lemma => kernel_rfl) (by as_aux_lemma => kernel_rfl) (by as_aux_lemma => kernel_rfl) (by as_aux_lemma => kernel_rfl) (fun _ _ _ h => h) (by rfl) (fun w' hS' => grow_value ?_ hS') ?_
                  · go_simp
                  try simp only [List.setIfInBounds_toArray, List.set_cons_zero, List.set_cons_succ]
                  refine wpG_take (i := 55) (v := .bool false) rfl rfl (by as_aux_lemma => kernel_rfl) (by as_aux_lemma => kernel_rfl) (by as_aux_lemma => kernel_rfl) (by as_aux_lemma => kernel_rfl) (fun _ _ _ h => h) (by rfl) (fun w' hS' => grow_value ?_ hS') ?_
                  · go_simp
                  try simp only [List.setIfInBounds_toArray, List.set_cons_zero, List.set_cons_succ]
                  refine wpG_take (i := 56) (v := .slice (some ⟨bt, offt, none⟩) t.length tc2) rfl rfl (by as_aux_lemma => kernel_rfl) (by as_aux_lemma => kernel_rfl) (by as_aux_lemma => kernel_rfl) (by as_aux_lemma => kernel_rfl) (fun _ _ _ h => h) (by rfl) (fun w' hS' => grow_value ?_ hS') ?_
                  · go_simp
                  try simp only [List.setIfInBounds_toArray, List.set_cons_zero, List.set_cons_succ]
                  refine wpG_take (i := 57) (v := .int .i64 hh) rfl rfl (by as_aux_lemma => kernel_rfl) (by as_aux_lemma => kernel_rfl) (by as_aux_lemma => kernel_rfl) (by as_aux_lemma => kernel_rfl) (fun _ _ _ h => h) (by rfl) (fun w' hS' => grow_value ?_ hS') ?_
                  · go_simp
                  try simp only [List.setIfInBounds_toArray, List.set_cons_zero, List.set_cons_succ]
                  refine wpG_take (i := 58) (v := .pointer (some ⟨bt, offt + hh, none⟩)) rfl rfl (by as_aux_lemma => kernel_rfl) (by as_aux_lemma => kernel_rfl) (by as_aux_lemma => kernel_rfl) (by as_aux_lemma => kernel_rfl) (fun _ _ _ h => h) (by rfl) (fun w' hS' => grow_value ?_ hS') ?_
                  · go_simp
                  try simp only [List.setIfInBounds_toArray, List.set_cons_zero, List.set_cons_succ]
                  refine wpG_take (i := 59) (v := .int .i64 y) rfl rfl (by as_aux_lemma => kernel_rfl) (by as_aux_lemma => kernel_rfl) (by as_aux_lemma => kernel_rfl) (by as_aux_lemma => kernel_rfl) (fun _ _ _ h => h) (by rfl) (fun w' hS' => grow_value ?_ hS') ?_
                  · have ⟨s0, s1, s2, s3, s4⟩ := HSX.out _ hS'; go_simp
                  try simp only [List.setIfInBounds_toArray, List.set_cons_zero, List.set_cons_succ]
                  refine wpG_take (i := 60) (v := .slice (some ⟨b42, o42, none⟩) 3 c42) rfl rfl (by as_aux_lemma => kernel_rfl) (by as_aux_lemma => kernel_rfl) (by as_aux_lemma => kernel_rfl) (by as_aux_lemma => kernel_rfl) (fun _ _ _ h => h) (by rfl) (fun w' hS' => grow_value ?_ hS') ?_
                  · go_simp
                  try simp only [List.setIfInBounds_toArray, List.set_cons_zero, List.set_cons_succ]
                  refine wpG_take (i := 61) (v := .pointer (some ⟨b42, o42, none⟩)) rfl rfl (by as_aux_lemma => kernel_rfl) (by as_aux_lemma => kernel_rfl) (by as_aux_lemma => kernel_rfl) (by as_aux_lemma => kernel_rfl) (fun _ _ _ h => h) (by rfl) (fun w' hS' => grow_value ?_ hS') ?_
                  · go_simp
                  try simp only [List.setIfInBounds_toArray, List.set_cons_zero, List.set_cons_succ]
                  refine wpG_take (i := 62) (v := .int .i64 m0) rfl rfl (by as_aux_lemma => kernel_rfl) (by as_aux_lemma => kernel_rfl) (by as_aux_lemma => kernel_rfl) (by as_aux_lemma => kernel_rfl) (fun _ _ _ h => h) (by rfl) (fun w' hS' => grow_value ?_ hS') ?_
                  · have ⟨s0, s1, s2, s3, s4⟩ := HSX.out _ hS'; go_simp
                  try simp only [List.setIfInBounds_toArray, List.set_cons_zero, List.set_cons_succ]
                  refine wpG_take (i := 63) (v := .bool true) rfl rfl (by as_aux_lemma => kernel_rfl) (by as_aux_lemma => kernel_rfl) (by as_aux_lemma => kernel_rfl) (by as_aux_lemma => kernel_rfl) (fun _ _ _ h => h) (by rfl) (fun w' hS' => grow_value ?_ hS') ?_
                  · go_simp
                  try simp only [List.setIfInBounds_toArray, List.set_cons_zero, List.set_cons_succ]
                  refine wpG_take (i := 64) (v := .bool true) rfl rfl (by as_aux_lemma => kernel_rfl) (by as_aux_lemma => kernel_rfl) (by as_aux_lemma => kernel_rfl) (by as_aux_lemma => kernel_rfl) (fun _ _ _ h => h) (by rfl) (fun w' hS' => grow_value ?_ hS') ?_
                  · go_simp
                  try simp only [List.setIfInBounds_toArray, List.set_cons_zero, List.set_cons_succ]
                  refine wpG_take (i := 65) (v := .slice (some ⟨b42, o42, none⟩) 3 c42) rfl rfl (by as_aux_lemma => kernel_rfl) (by as_aux_lemma => kernel_rfl) (by as_aux_lemma => kernel_rfl) (by as_aux_lemma => kernel_rfl) (fun _ _ _ h => h) (by rfl) (fun w' hS' => grow_value ?_ hS') ?_
                  · go_simp
                  try simp only [List.setIfInBounds_toArray, List.set_cons_zero, List.set_cons_succ]
                  refine wpG_take (i := 66) (v := .pointer (some ⟨b42, o42 + 1, none⟩)) rfl rfl (by as_aux_lemma => kernel_rfl) (by as_aux_lemma => kernel_rfl) (by as_aux_lemma => kernel_rfl) (by as_aux_lemma => kernel_rfl) (fun _ _ _ h => h) (by rfl) (fun w' hS' => grow_value ?_ hS') ?_
                  · go_simp
                  try simp only [List.setIfInBounds_toArray, List.set_cons_zero, List.set_cons_succ]
                  refine wpG_take (i := 67) (v := .int .i64 m1) rfl rfl (by as_aux_lemma => kernel_rfl) (by as_aux_lemma => kernel_rfl) (by as_aux_lemma => kernel_rfl) (by as_aux_lemma => kernel_rfl) (fun _ _ _ h => h) (by rfl) (fun w' hS' => grow_value ?_ hS') ?_
                  · have ⟨s0, s1, s2, s3, s4⟩ := HSX.out _ hS'; go_simp
                  try simp only [List.setIfInBounds_toArray, List.set_cons_zero, List.set_cons_succ]
                  refine wpG_take (i := 68) (v := .slice (some ⟨b42, o42, none⟩) 3 c42) rfl rfl (by as_aux_lemma => kernel_rfl) (by as_aux_lemma => kernel_rfl) (by as_aux_lemma => kernel_rfl) (by as_aux_lemma => kernel_rfl) (fun _ _ _ h => h) (by rfl) (fun w' hS' => grow_value ?_ hS') ?_
                  · go_simp
                  try simp only [List.setIfInBounds_toArray, List.set_cons_zero, List.set_cons_succ]
                  refine wpG_take (i := 69) (v := .pointer (some ⟨b42, o42, none⟩)) rfl rfl (by as_aux_lemma => kernel_rfl) (by as_aux_lemma => kernel_rfl) (by as_aux_lemma => kernel_rfl) (by as_aux_lemma => kernel_rfl) (fun _ _ _ h => h) (by rfl) (fun w' hS' => grow_value ?_ hS') ?_
                  · go_simp
                  try simp only [List.setIfInBounds_toArray, List.set_cons_zero, List.set_cons_succ]
                  refine wpG_take (i := 70) (v := .int .i64 m0) rfl rfl (by as_aux_lemma => kernel_rfl) (by as_aux_lemma => kernel_rfl) (by as_aux_lemma => kernel_rfl) (by as_aux_lemma => kernel_rfl) (fun _ _ _ h => h) (by rfl) (fun w' hS' => grow_value ?_ hS') ?_
                  · have ⟨s0, s1, s2, s3, s4⟩ := HSX.out _ hS'; go_simp
                  try simp only [List.setIfInBounds_toArray, List.set_cons_zero, List.set_cons_succ]
                  refine wpG_take (i := 71) (v := .bool false) rfl rfl (by as_aux_lemma => kernel_rfl) (by as_aux_lemma => kernel_rfl) (by as_aux_lemma => kernel_rfl) (by as_aux_lemma => kernel_rfl) (fun _ _ _ h => h) (by rfl) (fun w' hS' => grow_value ?_ hS') ?_
                  · go_simp
                  try simp only [List.setIfInBounds_toArray, List.set_cons_zero, List.set_cons_succ]
                  refine wpG_take (i := 72) (v := .bool false) rfl rfl (by as_aux_lemma => kernel_rfl) (by as_aux_lemma => kernel_rfl) (by as_aux_lemma => kernel_rfl) (by as_aux_lemma => kernel_rfl) (fun _ _ _ h => h) (by rfl) (fun w' hS' => grow_value ?_ hS') ?_
                  · go_simp
                  try simp only [List.setIfInBounds_toArray, List.set_cons_zero, List.set_cons_succ]
                  refine wpG_take (i := 73) (v := .bool false) rfl rfl (by as_aux_lemma => kernel_rfl) (by as_aux_lemma => kernel_rfl) (by as_aux_lemma => kernel_rfl) (by as_aux_lemma => kernel_rfl) (fun _ _ _ h => h) (by rfl) (fun w' hS' => grow_value ?_ hS') ?_
                  · go_simp
                  try simp only [List.setIfInBounds_toArray, List.set_cons_zero, List.set_cons_succ]
                  refine wpG_done (by as_aux_lemma => kernel_rfl) (fun w43 hq hbx => ?_) _
                  have HB43 := hid (below_after HB42.out hbx (Nat.le_refl _))
                  clear HG hq hbx HSX
                  go_wp2_with (go_at_call 20; refine (awake_any _).mono ?_; rintro e wz ⟨rfl, hbz⟩)
                  go_ret
                  exact ⟨rfl, hWb.trans ((below_after HB43.out hbz (Nat.le_refl _)).mono (by omega))⟩
end Go.Proofs.Ytjddcaimjofihaa
