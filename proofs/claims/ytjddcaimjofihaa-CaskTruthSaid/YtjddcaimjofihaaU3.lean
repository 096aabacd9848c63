/- The contracts of the statements' word and Tried; no condition. -/
import Derived.Test.YtjddcaimjofihaaXG
import Derived.Test.YtjddcaimjofihaaT2
import Derived.Test.YtjddcaimjofihaaR3
import Derived.Test.YtjddcaimjofihaaP6
import Derived.Test.YtjddcaimjofihaaU1
import Derived.Test.YtjddcaimjofihaaTE
import Derived.Test.YtjddcaimjofihaaRH
import Derived.Deep.Cut
import Derived.Deep.CutRange
namespace Go.Proofs.Ytjddcaimjofihaa
open Go.RowKit Go.Shelf
set_option maxRecDepth 100000

abbrev Words := Sl 1 (fun n : Int => [Value.int .u16 n])
theorem word_any (ws : List Int) (hw : ∀ x ∈ ws, 0 ≤ x ∧ x ≤ 65535) (v : Value) (n : Nat) (w : World) (h : Words (Lt n) w v ws) (at0 : Nat) (hat : at0 ≤ 1000) :
    Calls Try.prog 117 #[v, .int .i64 at0] w fun e w' => e = .returned (.int .i64 (wordN ws at0)) ∧ Below w.heap.size w w' := by
  obtain ⟨wa, wc, rfl, -, ho⟩ := h.open1
  by_cases hl : ws.length = 0
  · have hz : ((ws.length : Int) == 0) = true := by simp [hl]
    have HR := hid (show wordN ws at0 = 0 by unfold wordN; rw [if_pos hl])
    clear hl ho h
    rw [HR.out]
    go_enter Try.func117, Try.ntmps117
    go_wp2
    go_ret
    exact ⟨rfl, Below.refl _ _⟩
  · have hz : ((ws.length : Int) == 0) = false := by rw [beq_eq_false_iff_ne]; omega
    have hn : ¬ (ws.length : Int) = 0 := by omega
    have hm : at0 % ws.length < ws.length := Nat.mod_lt _ (by omega)
    have hm0 : 0 ≤ (at0 : Int) % (ws.length : Int) := Int.emod_nonneg _ hn
    have hm1 : (at0 : Int) % (ws.length : Int) < (ws.length : Int) := Int.emod_lt_of_pos _ (by omega)
    have hmt : ((at0 : Int) % (ws.length : Int)).toNat = at0 % ws.length := by rw [← Int.natCast_emod, Int.toNat_natCast]
    rcases ho with hnil | ⟨b, off, rfl, -, hcc⟩
    · rw [hnil] at hm; simp at hm
    have hx := hcc _ hm
    have hb := hw ws[at0 % ws.length] (List.getElem_mem _)
    have HR := hid (show wordN ws at0 = ws[at0 % ws.length] by unfold wordN; rw [if_neg hl, List.getD_eq_getElem?_getD, List.getElem?_eq_getElem hm]; rfl)
    have hx2 : w.cell? ⟨b, off + ((at0 : Int) % (ws.length : Int)).toNat, none⟩ = some (.int .u16 ws[at0 % ws.length]) := by rw [hmt]; exact hx
    rw [HR.out]
    generalize ws[at0 % ws.length] = x at *
    have hwx : IntKind.i64.wrap x = x := IntWalk.i64_in _ (by omega)
    clear hmt hcc h hl
    go_enter Try.func117, Try.ntmps117
    go_wp2
    go_ret
    exact ⟨rfl, Below.refl _ _⟩
/-- What Tried returns. -/
def RetTried (c : Ce) (t : List Int) (ts : List Tl) (W : World) (e : Ending) (w' : World) : Prop := ∃ x tv, e = .returned (.tuple #[x, tv]) ∧ CeV (Lt w'.heap.size) w' x (triedC c ts) ∧ Ints (Lt w'.heap.size) w' tv t ∧ Below W.heap.size W w'
theorem word_succ (ws : List Int) (hw : ∀ x ∈ ws, 0 ≤ x ∧ x ≤ 65535) (v : Value) (n : Nat) (w : World) (h : Words (Lt n) w v ws) (k : Nat) (hk : k ≤ 900) :
    Calls Try.prog 117 #[v, .int .i64 ((k : Int) + 1)] w fun e w' => e = .returned (.int .i64 (wordN ws (k + 1))) ∧ Below w.heap.size w w' := by
  have := word_any ws hw v n w h (k + 1) (by omega)
  rwa [Int.natCast_add] at this
theorem word_zero (ws : List Int) (hw : ∀ x ∈ ws, 0 ≤ x ∧ x ≤ 65535) (v : Value) (n : Nat) (w : World) (h : Words (Lt n) w v ws) :
    Calls Try.prog 117 #[v, .int .i64 0] w fun e w' => e = .returned (.int .i64 (wordN ws 0)) ∧ Below w.heap.size w w' := word_any ws hw v n w h 0 (by omega)

set_option maxHeartbeats 4000000 in
theorem tried_any (c : Ce) (hf : fault c = 0) (a : Int) (ha0 : 0 ≤ a ∧ a ≤ 65535) (ws : List Int) (hw : ∀ x ∈ ws, 0 ≤ x ∧ x ≤ 65535) (v vw : Value) (n : Nat) (w : World) (hn : n ≤ w.heap.size) (h : CeV (Lt n) w v c) (hv : Words (Lt n) w vw ws) :
    Calls Try.prog 62 #[v, .int .u16 a, vw] w (RetTried c (nthL c.heaps (a % manyR c)) (triesL c (nthL c.heaps (a % manyR c)) ws (wordN ws 0 % 6).toNat) w) := by
  have h' := h
  have hv' := hv
  have hg := (fault_good hf).1
  obtain ⟨⟨g1, g2, g3, g4⟩, gr, -⟩ := hg.facts
  obtain ⟨hm2, hm1⟩ := (manyR_eq hf).2
  obtain ⟨ha, hc, ka, kc, ta, tc, rfl, hp1, hp2, hp3⟩ := h.open
  obtain ⟨wa, wc', rfl, -, -⟩ := hv.open1
  obtain ⟨W, hW⟩ : ∃ W, W = (w.alloc (Obj.cells #[.slice ha c.heaps.length hc, .slice ka c.casks.length kc, .slice ta c.trials.length tc] 26)).alloc (Obj.cells #[.slice none 0 0, .slice none 0 0, .slice none 0 0] 26) := ⟨_, rfl⟩
  have hWs : W.heap.size = w.heap.size + 1 + 1 := by rw [hW]; simp
  have hWb : Below w.heap.size w W := by rw [hW]; exact below_alloc2 (Nat.le_refl _) _ _
  have hWr : W.heap[w.heap.size]? = some (.cells #[.slice ha c.heaps.length hc, .slice ka c.casks.length kc, .slice ta c.trials.length tc] 26 (0, 0)) := by rw [hW, Below.heap_alloc _ _ _ (by simp)]; exact heap_new _ _
  have hWq : W.heap[w.heap.size + 1]? = some (.cells #[.slice none 0 0, .slice none 0 0, .slice none 0 0] 26 (0, 0)) := by rw [hW]; exact heap_new2 _ _ _
  have HBOX := hid (fun w1 (hb : Below W.heap.size W w1) => (hb.block w.heap.size (by omega)).trans hWr : ∀ w1, Below W.heap.size W w1 → w1.heap[w.heap.size]? = _)
  have HRES := hid (fun w1 (hb : Below W.heap.size W w1) => (hb.block (w.heap.size + 1) (by omega)).trans hWq : ∀ w1, Below W.heap.size W w1 → w1.heap[w.heap.size + 1]? = _)
  have HCE := hid (fun w1 (hb : Below W.heap.size W w1) => h'.below ((hWb.trans (hb.mono (by omega))).mono hn) : ∀ w1, Below W.heap.size W w1 → CeV (Lt n) w1 _ c)
  have HWS := hid (fun w1 (hb : Below W.heap.size W w1) => hv'.below ((hWb.trans (hb.mono (by omega))).mono hn) : ∀ w1, Below W.heap.size W w1 → Words (Lt n) w1 _ ws)
  have HW0 := hid hw
  have HF := hid hf
  have HGD := hid hg
  have HGR := hid gr
  obtain ⟨M, hM⟩ : ∃ M, M = manyR c := ⟨_, rfl⟩
  rw [← hM] at hm2 hm1
  rw [← hM]
  have HMM := hid hM
  have hw0 := wordN_bd hw 0
  obtain ⟨m, hm⟩ := Int.eq_ofNat_of_zero_le (show 0 ≤ wordN ws 0 % 6 by omega)
  have hm5 : m ≤ 5 := by omega
  have hmt : (wordN ws 0 % 6).toNat = m := by rw [hm]; rfl
  rw [hmt]
  have HM := hid hm
  obtain ⟨t, ht⟩ : ∃ t, t = nthL c.heaps (a % M) := ⟨_, rfl⟩
  rw [← ht]
  have hlt : listed c.heaps t = true := by rw [ht]; exact nthL_listed _ (good_size hg) _
  have HT := hid ht
  have HFT := hid (fit_listed hg hlt)
  have HLT := hid hlt
  have hmz : ¬ M = 0 := by omega
  have hmz2 : (M == 0) = false := by rw [beq_eq_false_iff_ne]; exact hmz
  have hme : 0 ≤ a % M ∧ a % M ≤ 1000000 := by have := Int.emod_nonneg a hmz; have := Int.emod_lt_of_pos a (show 0 < M by omega); omega
  have hwa : IntKind.i64.wrap a = a := IntWalk.i64_in _ (by omega)
  clear hWr hWq h' hv' h hv hp1 hp2 hp3 hf hg gr hM hmt hm hw ht hlt
  have hWi : W.heap.size ≤ w.heap.size + 1 + 1 ∧ w.heap.size + 1 + 1 ≤ W.heap.size := by omega
  clear hWs
  go_enter Try.func62, Try.ntmps62
  go_wp2
  rw [← hW]
  clear hW
  have j0 := cell_of_row (HBOX.out W (Below.refl _ _)) 0
  have j1 := cell_of_row (HBOX.out W (Below.refl _ _)) 1
  have j2 := cell_of_row (HBOX.out W (Below.refl _ _)) 2
  simp only [List.getElem?_toArray, List.getElem?_cons_zero, List.getElem?_cons_succ] at j0 j1 j2
  have hSS := hid (fun w' (h : Below W.heap.size W w') => ⟨(h.cell (p := ⟨w.heap.size, 0, none⟩) (by show w.heap.size < _; omega)).trans j0, (h.cell (p := ⟨w.heap.size, 1, none⟩) (by show w.heap.size < _; omega)).trans j1, (h.cell (p := ⟨w.heap.size, 2, none⟩) (by show w.heap.size < _; omega)).trans j2⟩ :
    ∀ w', Below W.heap.size W w' → w'.cell? ⟨w.heap.size, 0, none⟩ = some (.slice ha c.heaps.length hc) ∧ w'.cell? ⟨w.heap.size, 1, none⟩ = some (.slice ka c.casks.length kc) ∧ w'.cell? ⟨w.heap.size, 2, none⟩ = some (.slice ta c.trials.length tc))
  refine wp_region_grow (by kernel_rfl) 7 (fun w' => Below W.heap.size W w') ?_ ?_
  · exact (Below.refl _ _).drew
  have HG := fun (a b : World) (h : Below W.heap.size W a) (k : Below a.heap.size a b) => (h.trans (k.mono h.size) : Below W.heap.size W b)
  clear j0 j1 j2
  refine wpG_take (i := 0) (v := .agg #[.slice ha c.heaps.length hc, .slice ka c.casks.length kc, .slice ta c.trials.length tc]) rfl rfl (by kernel_rfl) (by kernel_rfl) (by kernel_rfl) (by kernel_rfl) (fun _ _ _ h => h) (by rfl) (fun w' hS' => grow_value ?_ hS') ?_
  · have ⟨s0, s1, s2⟩ := hSS.out _ hS'; go_simp
  try simp only [List.setIfInBounds_toArray, List.set_cons_zero, List.set_cons_succ]
  refine wpG_take (i := 1) (v := .int .u16 a) rfl rfl (by kernel_rfl) (by kernel_rfl) (by kernel_rfl) (by kernel_rfl) (fun _ _ _ h => h) (by rfl) (fun w' hS' => grow_value ?_ hS') ?_
  · go_simp
  try simp only [List.setIfInBounds_toArray, List.set_cons_zero, List.set_cons_succ]
  refine wpG_take (i := 2) (v := .int .i64 a) rfl rfl (by kernel_rfl) (by kernel_rfl) (by kernel_rfl) (by kernel_rfl) (fun _ _ _ h => h) (by rfl) (fun w' hS' => grow_value ?_ hS') ?_
  · go_simp
  try simp only [List.setIfInBounds_toArray, List.set_cons_zero, List.set_cons_succ]
  refine wpG_take (i := 3) (v := .agg #[.slice ha c.heaps.length hc, .slice ka c.casks.length kc, .slice ta c.trials.length tc]) rfl rfl (by kernel_rfl) (by kernel_rfl) (by kernel_rfl) (by kernel_rfl) (fun _ _ _ h => h) (by rfl) (fun w' hS' => grow_value ?_ hS') ?_
  · have ⟨s0, s1, s2⟩ := hSS.out _ hS'; go_simp
  try simp only [List.setIfInBounds_toArray, List.set_cons_zero, List.set_cons_succ]
  refine wpG_take (i := 4) (v := .int .i64 M) rfl rfl (by kernel_rfl) (by kernel_rfl) (by kernel_rfl) (by kernel_rfl) (fun _ _ _ h => h) (by rfl) (fun w' hS' => grow_make (f := 40) (args := #[.agg #[.slice ha c.heaps.length hc, .slice ka c.casks.length kc, .slice ta c.trials.length tc]]) ?_ hS' HG ?_) ?_
  · have ⟨s0, s1, s2⟩ := hSS.out _ hS'; go_simp
  · have ⟨s0, s1, s2⟩ := hSS.out _ hS'; exact manyR_hid c HMM HGR.out (by omega) _ n _ (by have := hS'.size; omega) (HCE.out _ hS')
  try simp only [List.setIfInBounds_toArray, List.set_cons_zero, List.set_cons_succ]
  refine wpG_take (i := 5) (v := .int .i64 (a % M)) rfl rfl (by kernel_rfl) (by kernel_rfl) (by kernel_rfl) (by kernel_rfl) (fun _ _ _ h => h) (by rfl) (fun w' hS' => grow_value ?_ hS') ?_
  · have ⟨s0, s1, s2⟩ := hSS.out _ hS'; go_simp; exact Int.tmod_eq_emod_of_nonneg (by omega)
  try simp only [List.setIfInBounds_toArray, List.set_cons_zero, List.set_cons_succ]
  refine wpG_only (i := 6) rfl (by rfl) (by kernel_rfl) (by rfl) (fun w1 hb1 hS1 => ?_)
  go_simp
  refine (nth_any c HGR.out (by omega) (a % M) hme _ n w1 (by have := hS1.size; omega) (HCE.out w1 hS1)).mono ?_
  rintro e w2 ⟨v2, rfl, ho2, hb2⟩
  have hS2 := HG _ _ hS1 hb2
  rw [← HT.out] at ho2
  have hi2 : Ints (Lt w2.heap.size) w2 v2 t := ho2.slLt encI_length
  have hil2 := ho2.slIn encI_length
  have hz1 := hS1.size
  obtain ⟨ta2, tc2, rfl, -, hto⟩ := id hi2.open1
  refine ⟨hS2, ?_⟩
  clear ho2 hb2 hb1 hS1
  try simp only [List.setIfInBounds_toArray, List.set_cons_zero, List.set_cons_succ]
  refine wpG_last rfl (by kernel_rfl) (by kernel_rfl) (by rfl) (fun w3 hb3 hS3 => ?_)
  go_simp
  have HB3 := hid hS3
  have HI3 := hid ((hi2.below hb3).le hb3.size)
  have HM3 := hid (Below.refl w3.heap.size w3)
  have HIL3 := hid ((hil2.keep (w' := w3) ⟨hb3.size, fun b hb => hb3.block b hb.2⟩).mono (S' := fun b => W.heap.size ≤ b ∧ b < w3.heap.size) fun b hb => ⟨by have := hb.1; have := hz1; omega, by have := hb.2; have := hb3.size; omega⟩)
  have hs3 := hS3.size
  clear hSS HG hS2 hi2 hto hb3 hS3 hil2 hz1
  have j0 := cell_of_row (HBOX.out w3 HB3.out) 0
  have j1 := cell_of_row (HBOX.out w3 HB3.out) 1
  have j2 := cell_of_row (HBOX.out w3 HB3.out) 2
  simp only [List.getElem?_toArray, List.getElem?_cons_zero, List.getElem?_cons_succ] at j0 j1 j2
  go_wp2
  obtain ⟨X, hX⟩ : ∃ X, X = w3.heap.size := ⟨_, rfl⟩
  obtain ⟨w4, hw4⟩ : ∃ w', w' = w3.alloc (Obj.cells #[.slice ha c.heaps.length hc, .slice ka c.casks.length kc, .slice none 0 0] 26) := ⟨_, rfl⟩
  rw [← hw4, ← hX]
  have hs4 : w4.heap.size = X + 1 := by rw [hw4, hX]; simp
  have hr4 : w4.heap[X]? = some (.cells #[.slice ha c.heaps.length hc, .slice ka c.casks.length kc, .slice none 0 0] 26 (0, 0)) := by rw [hw4, hX]; exact heap_new _ _
  have hb4 : Below w3.heap.size w3 w4 := by rw [hw4]; exact below_alloc1 (Nat.le_refl _) _
  have HB4 := hid (below_after HB3.out hb4 (Nat.le_refl _))
  have HM4 := hid hb4
  have HR4 := hid hr4
  have hX3 : X ≤ w3.heap.size ∧ w3.heap.size ≤ X := by omega
  clear hw4 hX hr4 hb4 j0 j1 j2
  obtain ⟨N, hN⟩ : ∃ N, N = c.heaps.length + c.casks.length := ⟨_, rfl⟩
  have HN := hid hN
  have hNn : ¬ (N : Int) = 0 := by omega
  have hNz : ((N : Int) == 0) = false := by rw [beq_eq_false_iff_ne]; exact hNn
  clear hN
  go_loopw [10] (fun i wr => ∃ (k : Nat) (tv : Value), k ≤ m ∧ i = .int .i64 k ∧ wr.heap[X]? = some (.cells #[.slice ha c.heaps.length hc, .slice ka c.casks.length kc, tv] 26 (0, 0)) ∧ Own (X + 1) 68 4 encT4 wr tv (triesL c t ws k) ∧ Below X w4 wr) (fun i _ => m - (intOf i).toNat)
  case atStart => exact ⟨0, _, by omega, rfl, HR4.out, Own.nil, Below.refl _ _⟩
  case round =>
    obtain ⟨k, tv, hk, rfl, hrow, hown, hbr⟩ := hrel
    have HBr := hid (HB4.out.trans (hbr.mono (by have := HB3.out.size; omega)))
    have HMr := hid (HM4.out.trans (hbr.mono (by omega)))
    have HYr := hid hbr
    have hyr := hbr.size
    have hYl : X < wr.heap.size := (Array.getElem?_eq_some_iff.1 hrow).1
    have hll := triesL_length c t ws k
    obtain ⟨ya, yc, hyv, -, -⟩ := hown.slLt (fun _ => rfl)
    rw [hll] at hyv
    subst hyv
    have HROW := hid hrow
    have HOWN := hid hown
    have HOBL := hid hown.block
    have HLL := hid hll
    have hsr := HBr.out.size
    clear hbr hrow hown hll
    go_wp2_with fail
    refine (word_zero ws HW0.out _ n wr (HWS.out wr HBr.out)).mono ?_
    rintro e w5 ⟨rfl, hb5⟩
    have HB5 := hid (below_after HBr.out hb5 (Nat.le_refl _))
    have HM5 := hid (below_after HMr.out hb5 (Nat.le_refl _))
    have HX5 := hid hb5
    have hs5 := HB5.out.size
    have zHX5 := hb5.size
    clear hb5
    have hmm := HM.out
    by_cases hlt : k < m
    · have hd1 : decide ((k : Int) < (m : Int)) = true := decide_eq_true (by omega)
      have hd2 : decide (k < m) = true := decide_eq_true hlt
      have hwd := wordN_bd HW0.out (k + 1)
      have HSU := hid (triesL_succ c t ws k)
      obtain ⟨wd, hwde⟩ : ∃ wd, wd = wordN ws (k + 1) := ⟨_, rfl⟩
      have HWD := hid hwde
      rw [← hwde] at hwd HSU
      clear hwde
      obtain ⟨kk, hkk⟩ := Int.eq_ofNat_of_zero_le (Int.emod_nonneg wd hNn)
      have hkN : kk < N := by have := Int.emod_lt_of_pos wd (show (0 : Int) < (N : Int) by omega); omega
      obtain ⟨z, hz⟩ : ∃ z, z = ofT c t (kk : Int) := ⟨_, rfl⟩
      have hz0 : 0 ≤ z ∧ z ≤ 100 := by rw [hz]; exact ofT_100 HGD.out HLT.out (by omega) (by have := HN.out; omega)
      have HZ := hid hz
      obtain ⟨cbv, hcb⟩ : ∃ cbv, cbv = decide ((c.heaps.length : Int) ≤ (kk : Int)) := ⟨_, rfl⟩
      have HCB := hid hcb
      have HTE := hid (show tryT c t wd = ⟨cbv, if cbv = true then (kk : Int) - c.heaps.length else kk, ⟨max 0 (z - wd / 64 % 3), min 100 (z + wd / 256 % 3)⟩⟩ by
        rw [tryT, ← HN.out, hkk, tryK, hcb, ← hz]
        congr 1
        by_cases e : (c.heaps.length : Int) ≤ (kk : Int) <;> simp [e])
      have HKK := hid hkk
      clear hkk hz hcb
      have h64 : 0 ≤ wd / 64 % 3 ∧ wd / 64 % 3 ≤ 2 := by omega
      have h256 : 0 ≤ wd / 256 % 3 ∧ wd / 256 % 3 ≤ 2 := by omega
      go_wp2_with fail
      refine (word_succ ws HW0.out _ n w5 (HWS.out w5 HB5.out) k (by omega)).mono ?_
      rw [← HWD.out]
      rintro e w6 ⟨rfl, hb6⟩
      have HB6 := hid (below_after HB5.out hb6 (Nat.le_refl _))
      have HM6 := hid (below_after HM5.out hb6 (Nat.le_refl _))
      have HX6 := hid (below_after HX5.out hb6 (Nat.le_refl _))
      have hs6 := HB6.out.size
      have zHX6 := HX6.out.size
      clear hb6
      have j0 := cell_of_row (HBOX.out w6 HB6.out) 0
      have j1 := cell_of_row (HBOX.out w6 HB6.out) 1
      have j2 := cell_of_row (HBOX.out w6 HB6.out) 2
      simp only [List.getElem?_toArray, List.getElem?_cons_zero, List.getElem?_cons_succ] at j0 j1 j2
      go_wp2_with fail
      refine (things_hidE c HN (by omega) (by omega) _ n w6 (HCE.out w6 HB6.out)).mono ?_
      rintro e w7 ⟨rfl, hb7⟩
      have HB7 := hid (below_after HB6.out hb7 (Nat.le_refl _))
      have hs7 := HB7.out.size
      have hd7 := hb7.size
      have HM7 := hid (below_after HM6.out hb7 (Nat.le_refl _))
      have zHM7 := HM7.out.size
      have HX7 := hid (below_after HX6.out hb7 (Nat.le_refl _))
      have zHX7 := HX7.out.size
      clear hb7 j0 j1 j2
      have j0 := cell_of_row (HBOX.out w7 HB7.out) 0
      have j1 := cell_of_row (HBOX.out w7 HB7.out) 1
      have j2 := cell_of_row (HBOX.out w7 HB7.out) 2
      simp only [List.getElem?_toArray, List.getElem?_cons_zero, List.getElem?_cons_succ] at j0 j1 j2
      go_wp2_with fail
      rw [HKK.out]
      refine (ofR_hid c HGD.out t HFT.out (kk : Int) HZ _ _ (by omega) (by have := HN.out; omega) w3.heap.size w7 (by have := HM7.out.size; omega) ((HCE.out w7 HB7.out).le (by omega)) (HI3.out.below HM7.out)).mono ?_
      rintro e w8 ⟨rfl, hb8⟩
      have HB8 := hid (below_after HB7.out hb8 (Nat.le_refl _))
      have hs8 := HB8.out.size
      have hd8 := hb8.size
      have HM8 := hid (below_after HM7.out hb8 (Nat.le_refl _))
      have zHM8 := HM8.out.size
      have HX8 := hid (below_after HX7.out hb8 (Nat.le_refl _))
      have zHX8 := HX8.out.size
      clear hb8
      clear j0 j1 j2
      have j0 := cell_of_row (HBOX.out w8 HB8.out) 0
      have j1 := cell_of_row (HBOX.out w8 HB8.out) 1
      have j2 := cell_of_row (HBOX.out w8 HB8.out) 2
      simp only [List.getElem?_toArray, List.getElem?_cons_zero, List.getElem?_cons_succ] at j0 j1 j2
      go_upto_region 10 with fail
      go_cut [14] from 24 to 77 (fun s14 wx => s14 = .pointer (some ⟨w8.heap.size, 0, none⟩) ∧ wx = w8.alloc (Obj.cells #[.bool cbv, .int .i64 kk, .int .i64 (max 0 (z - wd / 64 % 3)), .int .i64 (min 100 (z + wd / 256 % 3))] 68))
      case first =>
        have HCB2 := hid (show cbv = decide (c.heaps.length ≤ kk) from HCB.out.trans (decide_eq_decide.2 (by omega)))
        by_cases c1 : wd / 64 % 3 < z
        · have HE1 := hid (show max 0 (z - wd / 64 % 3) = z - wd / 64 % 3 by omega)
          by_cases c2 : z + wd / 256 % 3 < 100
          · have HE2 := hid (show min 100 (z + wd / 256 % 3) = z + wd / 256 % 3 by omega)
            go_wp2_with fail
            go_meet
            case rel => exact ⟨rfl, by rw [HCB2.out, HE1.out, HE2.out]⟩
          · have HE2 := hid (show min 100 (z + wd / 256 % 3) = 100 by omega)
            go_wp2_with fail
            go_meet
            case rel => exact ⟨rfl, by rw [HCB2.out, HE1.out, HE2.out]⟩
        · have HE1 := hid (show max 0 (z - wd / 64 % 3) = 0 by omega)
          by_cases c2 : z + wd / 256 % 3 < 100
          · have HE2 := hid (show min 100 (z + wd / 256 % 3) = z + wd / 256 % 3 by omega)
            go_wp2_with fail
            go_meet
            case rel => exact ⟨rfl, by rw [HCB2.out, HE1.out, HE2.out]⟩
          · exfalso; omega
      case rest =>
        obtain ⟨rfl, hwc⟩ := hcut
        obtain ⟨w9, hw9⟩ : ∃ w', w' = wc := ⟨_, rfl⟩
        rw [← hw9] at hwc ⊢
        clear hw9
        obtain ⟨lo, hlo⟩ : ∃ lo, lo = max 0 (z - wd / 64 % 3) := ⟨_, rfl⟩
        obtain ⟨hi, hhi⟩ : ∃ hi, hi = min 100 (z + wd / 256 % 3) := ⟨_, rfl⟩
        have hte := HTE.out
        rw [← hlo, ← hhi] at hwc hte
        have HTE2 := hid hte
        have hb9 : Below w8.heap.size w8 w9 := by rw [hwc]; exact below_alloc1 (Nat.le_refl _) _
        have hr9 : w9.heap[w8.heap.size]? = some (.cells #[.bool cbv, .int .i64 kk, .int .i64 lo, .int .i64 hi] 68 (0, 0)) := by rw [hwc]; exact heap_new _ _
        have hs9' : w9.heap.size = w8.heap.size + 1 := by rw [hwc]; simp
        have HB9 := hid (below_after HB8.out hb9 (Nat.le_refl _))
        have HX9 := hid (below_after HX8.out hb9 (Nat.le_refl _))
        have hs9 := HB9.out.size
        have zHX9 := HX9.out.size
        obtain ⟨Y, hY⟩ : ∃ Y, Y = w8.heap.size := ⟨_, rfl⟩
        rw [← hY] at hr9 hs9' ⊢
        have hYX : X < Y ∧ wr.heap.size ≤ Y ∧ w.heap.size < Y := by have := HX8.out.size; omega
        clear hwc hlo hhi hte hb9 hY HTE
        have e0 := cell_of_row hr9 0
        have e1 := cell_of_row hr9 1
        have e2 := cell_of_row hr9 2
        have e3 := cell_of_row hr9 3
        have g0 := frozen_of_row hr9 1
        simp only [List.getElem?_toArray, List.getElem?_cons_zero, List.getElem?_cons_succ] at e0 e1 e2 e3
        have hry := (HX9.out.block X hYl).trans HROW.out
        have r2 := cell_of_row hry 2
        simp only [List.getElem?_toArray, List.getElem?_cons_zero, List.getElem?_cons_succ] at r2
        have hne1 : X ≠ Y := by omega
        have hne2 : w.heap.size ≠ Y := by omega
        have hlz : Y < w9.heap.size := by omega
        have hzy : w9.heap.size ≤ Y + 1 := by omega
        clear hs9'
        have hwn : IntKind.i64.wrap ((kk : Int) - c.heaps.length) = (kk : Int) - c.heaps.length := IntWalk.i64_in _ (by have := HN.out; omega)
        clear hr9 hry j0 j1 j2
        have j0 := cell_of_row (HBOX.out w9 HB9.out) 0
        have j1 := cell_of_row (HBOX.out w9 HB9.out) 1
        have j2 := cell_of_row (HBOX.out w9 HB9.out) 2
        simp only [List.getElem?_toArray, List.getElem?_cons_zero, List.getElem?_cons_succ] at j0 j1 j2
        cases cbv with
        | true =>
          have HB26 := hid (show Below wr.heap.size wr (w9.setCell ⟨Y, 1, none⟩ (.int .i64 ((kk : Int) - c.heaps.length))) by first | exact HX9.out | exact HX9.out.setCell (p := ⟨Y, 1, none⟩) (by show wr.heap.size ≤ Y; omega) _)
          have OWN27 := hid (HOWN.out.below (HB26.out.alloc HB26.out.size (Obj.cells #[.bool true, .int .i64 ((kk : Int) - c.heaps.length), .int .i64 lo, .int .i64 hi] 68)))
          have RY27 := hid (((HB26.out.alloc HB26.out.size (Obj.cells #[.bool true, .int .i64 ((kk : Int) - c.heaps.length), .int .i64 lo, .int .i64 hi] 68)).block X hYl).trans HROW.out)
          have hw26 := HB26.out.size
          have hsz26 : ((w9.setCell ⟨Y, 1, none⟩ (.int .i64 ((kk : Int) - c.heaps.length)))).heap.size = w9.heap.size := by first | rfl | simp [World.setCell]
          have HNEW27 := hid (show ∀ (i : Nat) (u : Value), [Value.bool true, .int .i64 ((kk : Int) - c.heaps.length), .int .i64 lo, .int .i64 hi][i]? = some u → (((w9.setCell ⟨Y, 1, none⟩ (.int .i64 ((kk : Int) - c.heaps.length)))).alloc (Obj.cells #[.bool true, .int .i64 ((kk : Int) - c.heaps.length), .int .i64 lo, .int .i64 hi] 68)).cell? ⟨w9.heap.size, i, none⟩ = some u from fun i u hu => by have h := cells_new ((w9.setCell ⟨Y, 1, none⟩ (.int .i64 ((kk : Int) - c.heaps.length)))) [.bool true, .int .i64 ((kk : Int) - c.heaps.length), .int .i64 lo, .int .i64 hi] 68 i u hu; rw [hsz26] at h; exact h)
          go_wp2_with (at_builtin; refine wpList_append1 encT4 rfl _ _ 24 rfl (X + 1) 68 _ 4 32 rtrials_under infoRTrial rfl (by decide) (fun _ => rfl) encT4_one _ _ rfl OWN27.out w9.heap.size 1 ⟨true, ((kk : Int) - c.heaps.length), ⟨lo, hi⟩⟩ rfl HNEW27.out (by have := HLL.out; omega) (by decide) (by simp; omega) ?_; intro v28 w28 hown28 hgr28; obtain ⟨a28, k28, hv28, -, -⟩ := hown28.slLt (fun _ => rfl); obtain ⟨n28, hn28⟩ : ∃ n28, n28 = (triesL c t ws k ++ [(⟨true, ((kk : Int) - c.heaps.length), ⟨lo, hi⟩⟩ : Tl)]).length := ⟨_, rfl⟩; rw [← hn28] at hv28; clear hn28; subst hv28; have HC28 := hid (chg_grown hgr28); have hs28 := hgr28.size; have hr28 := (HC28.out.block X (by simp; omega) (fun e => by have := HOBL.out _ e; omega)).trans RY27.out; have c28 := cell_of_row hr28 2; have f28 := frozen_of_row hr28 2; simp only [List.getElem?_toArray, List.getElem?_cons_zero, List.getElem?_cons_succ] at c28; have HR28 := hid hr28; have HO28 := hid hown28; clear hown28 hgr28 hr28)
          have HF29 := hid (And.intro (row_set HR28.out 2 (.slice a28 n28 k28)) (And.intro (HO28.out.chg (setCell_chg (A := w28) (g := X) (i := 2) (.slice a28 n28 k28)) (fun bb hb => by omega)) ((HYr.out.trans (((HB26.out.alloc HB26.out.size (Obj.cells #[.bool true, .int .i64 ((kk : Int) - c.heaps.length), .int .i64 lo, .int .i64 hi] 68)).mono (by omega)).trans (HC28.out.below (n := X) (by simp; omega) (fun b hb e => by have := HOBL.out _ e; omega)))).setCell (p := ⟨X, 2, none⟩) (Nat.le_refl _) (.slice a28 n28 k28))))
          clear c28 f28
          go_roundw
          case rel => exact ⟨k + 1, _, by omega, by go_num, by simpa using HF29.out.1, by rw [HSU.out, HTE2.out]; exact HF29.out.2.1, HF29.out.2.2⟩
          case measure => simp [intOf]; omega
        | false =>
          have HB26 := hid (show Below wr.heap.size wr w9 by first | exact HX9.out | exact HX9.out.setCell (p := ⟨Y, 1, none⟩) (by show wr.heap.size ≤ Y; omega) _)
          have OWN27 := hid (HOWN.out.below (HB26.out.alloc HB26.out.size (Obj.cells #[.bool false, .int .i64 (kk : Int), .int .i64 lo, .int .i64 hi] 68)))
          have RY27 := hid (((HB26.out.alloc HB26.out.size (Obj.cells #[.bool false, .int .i64 (kk : Int), .int .i64 lo, .int .i64 hi] 68)).block X hYl).trans HROW.out)
          have hw26 := HB26.out.size
          have hsz26 : (w9).heap.size = w9.heap.size := by first | rfl | simp [World.setCell]
          have HNEW27 := hid (show ∀ (i : Nat) (u : Value), [Value.bool false, .int .i64 (kk : Int), .int .i64 lo, .int .i64 hi][i]? = some u → ((w9).alloc (Obj.cells #[.bool false, .int .i64 (kk : Int), .int .i64 lo, .int .i64 hi] 68)).cell? ⟨w9.heap.size, i, none⟩ = some u from fun i u hu => by have h := cells_new (w9) [.bool false, .int .i64 (kk : Int), .int .i64 lo, .int .i64 hi] 68 i u hu; rw [hsz26] at h; exact h)
          go_wp2_with (at_builtin; refine wpList_append1 encT4 rfl _ _ 24 rfl (X + 1) 68 _ 4 32 rtrials_under infoRTrial rfl (by decide) (fun _ => rfl) encT4_one _ _ rfl OWN27.out w9.heap.size 1 ⟨false, (kk : Int), ⟨lo, hi⟩⟩ rfl HNEW27.out (by have := HLL.out; omega) (by decide) (by simp; omega) ?_; intro v28 w28 hown28 hgr28; obtain ⟨a28, k28, hv28, -, -⟩ := hown28.slLt (fun _ => rfl); obtain ⟨n28, hn28⟩ : ∃ n28, n28 = (triesL c t ws k ++ [(⟨false, (kk : Int), ⟨lo, hi⟩⟩ : Tl)]).length := ⟨_, rfl⟩; rw [← hn28] at hv28; clear hn28; subst hv28; have HC28 := hid (chg_grown hgr28); have hs28 := hgr28.size; have hr28 := (HC28.out.block X (by simp; omega) (fun e => by have := HOBL.out _ e; omega)).trans RY27.out; have c28 := cell_of_row hr28 2; have f28 := frozen_of_row hr28 2; simp only [List.getElem?_toArray, List.getElem?_cons_zero, List.getElem?_cons_succ] at c28; have HR28 := hid hr28; have HO28 := hid hown28; clear hown28 hgr28 hr28)
          have HF29 := hid (And.intro (row_set HR28.out 2 (.slice a28 n28 k28)) (And.intro (HO28.out.chg (setCell_chg (A := w28) (g := X) (i := 2) (.slice a28 n28 k28)) (fun bb hb => by omega)) ((HYr.out.trans (((HB26.out.alloc HB26.out.size (Obj.cells #[.bool false, .int .i64 (kk : Int), .int .i64 lo, .int .i64 hi] 68)).mono (by omega)).trans (HC28.out.below (n := X) (by simp; omega) (fun b hb e => by have := HOBL.out _ e; omega)))).setCell (p := ⟨X, 2, none⟩) (Nat.le_refl _) (.slice a28 n28 k28))))
          clear c28 f28
          go_roundw
          case rel => exact ⟨k + 1, _, by omega, by go_num, by simpa using HF29.out.1, by rw [HSU.out, HTE2.out]; exact HF29.out.2.1, HF29.out.2.2⟩
          case measure => simp [intOf]; omega
    · have hke : k = m := by omega
      subst hke
      have hd1 : decide ((k : Int) < (k : Int)) = false := decide_eq_false (by omega)
      have hd2 : decide (k < k) = false := decide_eq_false hlt
      have HBF := hid (HX5.out)
      have hr5 := row_grow HROW.out HX5.out
      have q5 := row_grow (HRES.out wr HBr.out) HX5.out
      have o0 := cell_of_row hr5 0
      have o1 := cell_of_row hr5 1
      have o2 := cell_of_row hr5 2
      have p0 := cell_of_row q5 0
      have p1 := cell_of_row q5 1
      have p2 := cell_of_row q5 2
      have f0 := frozen_of_row q5 0
      have f1 := frozen_of_row q5 1
      have f2 := frozen_of_row q5 2
      simp only [List.getElem?_toArray, List.getElem?_cons_zero, List.getElem?_cons_succ] at o0 o1 o2 p0 p1 p2
      have HQ5 := hid q5
      clear hr5 q5
      go_wp2_with fail
      clear o0 o1 o2 p0 p1 p2 f0 f1 f2
      have hb05 : Below w.heap.size w w5 := hWb.trans (HB5.out.mono (by omega))
      have hr := row_set3 HQ5.out (.slice ha c.heaps.length hc) (.slice ka c.casks.length kc) (.slice ya k yc)
      have hB := below_set3 hb05 (show w.heap.size ≤ w.heap.size + 1 by omega) (.slice ha c.heaps.length hc) (.slice ka c.casks.length kc) (.slice ya k yc)
      have hne : ∀ bb, bb ≠ w.heap.size + 1 → (((w5.setCell ⟨w.heap.size + 1, 0, none⟩ (.slice ha c.heaps.length hc)).setCell ⟨w.heap.size + 1, 1, none⟩ (.slice ka c.casks.length kc)).setCell ⟨w.heap.size + 1, 2, none⟩ (.slice ya k yc)).heap[bb]? = w5.heap[bb]? := fun bb hb => by
        rw [Below.heap_setCell _ _ _ _ hb, Below.heap_setCell _ _ _ _ hb, Below.heap_setCell _ _ _ _ hb]
      have hsv : (((w5.setCell ⟨w.heap.size + 1, 0, none⟩ (.slice ha c.heaps.length hc)).setCell ⟨w.heap.size + 1, 1, none⟩ (.slice ka c.casks.length kc)).setCell ⟨w.heap.size + 1, 2, none⟩ (.slice ya k yc)).heap.size = w5.heap.size := by simp [World.setCell]
      have hT5 : Ints (fun b => b < w3.heap.size ∧ b ≠ w.heap.size + 1) w5 (.slice ta2 t.length tc2) t := (HIL3.out.keep (w' := w5) ⟨HM5.out.size, fun b hb => HM5.out.block b hb.2⟩).mono fun b hb => ⟨hb.2, by have := hb.1; omega⟩
      have hO5 := (HOWN.out.below HX5.out).slIn (fun _ => rfl)
      have hC5 := (HCE.out w5 HB5.out)
      generalize (((w5.setCell ⟨w.heap.size + 1, 0, none⟩ (.slice ha c.heaps.length hc)).setCell ⟨w.heap.size + 1, 1, none⟩ (.slice ka c.casks.length kc)).setCell ⟨w.heap.size + 1, 2, none⟩ (.slice ya k yc)) = V at *
      have q0 := cell_of_row hr 0
      have q1 := cell_of_row hr 1
      have q2 := cell_of_row hr 2
      simp only [List.getElem?_toArray, List.getElem?_cons_zero, List.getElem?_cons_succ] at q0 q1 q2
      have hQ : RetTried c t (triesL c t ws k) w (.returned (.tuple #[.agg #[.slice ha c.heaps.length hc, .slice ka c.casks.length kc, .slice ya k yc], .slice ta2 t.length tc2])) V := by
        obtain ⟨_, _, _, _, _, _, he, i1, i2, -⟩ := hC5.open
        cases he
        have hk5 : ∀ bb, bb < n → V.heap[bb]? = w5.heap[bb]? := fun bb hb => hne bb (by omega)
        refine ⟨_, _, rfl, ⟨_, _, _, rfl, ?_, ?_, ?_⟩, ?_, hB⟩
        · exact (i1.keep (w' := V) ⟨by omega, fun bb hb => hk5 bb hb⟩).le (by omega)
        · exact (i2.keep (w' := V) ⟨by omega, fun bb hb => hk5 bb hb⟩).le (by omega)
        · have := (hO5.keep (w' := V) ⟨by omega, fun bb hb => hne bb (by have := hb.1; omega)⟩).mono (S' := Lt V.heap.size) fun bb hb => by show bb < _; have := hb.2; omega
          exact this
        · exact (hT5.keep (w' := V) ⟨by omega, fun bb hb => hne bb hb.2⟩).mono fun bb hb => by have := hb.1; show bb < _; have := HM5.out.size; omega
      exact bodyPost_ret (v := .tuple #[.agg #[.slice ha c.heaps.length hc, .slice ka c.casks.length kc, .slice ya k yc], .slice ta2 t.length tc2]) (by simp only [results, Try.results62]; simp [go_sem, q0, q1, q2]) rfl hQ
end Go.Proofs.Ytjddcaimjofihaa
