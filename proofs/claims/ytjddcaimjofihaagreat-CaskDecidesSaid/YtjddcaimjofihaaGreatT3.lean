/- Contracts of the reference's Graded, and of the statements' sure and ranges; no condition. -/
import Derived.Test.YtjddcaimjofihaaGreatR3
namespace Go.Proofs.YtjddcaimjofihaaGreat
open Go.RowKit Go.Shelf
set_option maxRecDepth 100000

theorem manyG_take (c : Ce) (L : List (List Int)) (kk : Nat) (g : Int) (i : Nat) (h : i < L.length) (hk : kk < c.casks.length) : manyG c (L.take (i + 1)) kk g = manyG c (L.take i) kk g + if g ≤ mean L[i] c.casks[kk] then 1 else 0 := by
  unfold manyG
  rw [List.take_succ_eq_append_getElem h, List.filter_append, List.length_append, Int.toNat_natCast, List.getD_eq_getElem?_getD, List.getElem?_eq_getElem hk]
  congr 1
  simp only [List.filter_cons, List.filter_nil, Option.getD_some, decide_eq_true_eq]
  split <;> rfl
theorem mean_hid0 {l ws : List Int} {z : Int} (HZ : Hid (z = mean l ws)) (vl vw : Value) (n : Nat) (w : World) (hn : n ≤ w.heap.size) (h : Ints (Lt n) w vl l) (g : Ints (Lt n) w vw ws) (hl : ws.length = l.length) (h3 : l.length ≤ 3) (hw : ∀ x ∈ ws, 0 ≤ x ∧ x ≤ 1000) (hs : ∀ x ∈ l, 0 ≤ x ∧ x ≤ 1000) (hpos : 0 < sumI ws) :
    Calls Tryz.prog 40 #[vl, vw] w fun e w' => e = .returned (.int .i64 z) ∧ Below w.heap.size w w' := by
  rw [HZ.out]; exact meanR_any l ws vl vw n w hn h g hl h3 hw hs hpos


/-! ### sure -/
theorem faultL_hid {f : Int} (c : Ce) (HB : Hid (f = fault c)) (v : Value) (n : Nat) (w : World) (hn : n ≤ w.heap.size) (h : CeV (Lt n) w v c) (hsm : Small c) :
    Calls Tryz.prog 11 #[v] w fun e w' => e = .returned (.int .i64 f) ∧ Below w.heap.size w w' := by
  rw [HB.out]; exact faultL_any c v n w hn h hsm
theorem sure_err (c : Ce) (hsm : Small c) (he : askErr c true ≠ 0) (v : Value) (n : Nat) (w : World) (hn : n ≤ w.heap.size) (h : CeV (Lt n) w v c) :
    Calls Tryz.prog 10 #[v] w fun e w' => e = .returned (.tuple #[.slice none 0 0, .int .i64 (askErr c true)]) ∧ Below w.heap.size w w' := by
  have h' := h
  obtain ⟨ha, hc, ka, kc, ta, tc, rfl, hp1, hp2, hp3⟩ := h.open
  have HOP := hid (And.intro hp1 (And.intro hp2 hp3))
  clear hp1 hp2 hp3
  obtain ⟨W, hW⟩ : ∃ W, W = w.alloc (Obj.cells #[.slice ha c.heaps.length hc, .slice ka c.casks.length kc, .slice ta c.trials.length tc] 26) := ⟨_, rfl⟩
  have hWs : W.heap.size = w.heap.size + 1 := by rw [hW]; simp
  have hWb : Below w.heap.size w W := by rw [hW]; exact below_alloc1 (Nat.le_refl _) _
  have hWr : W.heap[w.heap.size]? = some (.cells #[.slice ha c.heaps.length hc, .slice ka c.casks.length kc, .slice ta c.trials.length tc] 26 (0, 0)) := by rw [hW]; exact heap_new _ _
  have HBOX := hid (fun w1 (hb : Below W.heap.size W w1) => (hb.block w.heap.size (by omega)).trans hWr : ∀ w1, Below W.heap.size W w1 → w1.heap[w.heap.size]? = _)
  have HCE := hid (fun w1 (hb : Below W.heap.size W w1) => h'.below (hWb.trans (hb.mono (by omega)) |>.mono hn) : ∀ w1, Below W.heap.size W w1 → CeV (Lt _) w1 _ c)
  clear hWr h' h
  obtain ⟨f, hf⟩ : ∃ f, f = fault c := ⟨_, rfl⟩
  have HF := hid hf
  by_cases h0 : f = 0
  · have hT : truthsOf c [] = [] := by
      by_cases hT : truthsOf c [] = []
      · exact hT
      · exact absurd (show askErr c true = 0 by unfold askErr; simp [← hf, h0, hT]) he
    have HE := hid (show askErr c true = 11 by unfold askErr; simp [← hf, h0, hT])
    have HTR := hid ((truthsR_nil (show fault c = 0 by rw [← hf]; exact h0)).2 hT)
    have HFZ := hid (show fault c = 0 by rw [← hf]; exact h0)
    clear hf he hT
    subst h0
    go_enter Tryz.func10, Tryz.ntmps10
    go_wp2_with fail
    rw [← hW]
    clear hW
    refine (faultL_hid c HF _ n W (by omega) (HCE.out W (Below.refl _ _)) hsm).mono ?_
    rintro e w1 ⟨rfl, hb1⟩
    have HB1 := hid hb1
    have hs1 := hb1.size
    clear hb1
    have j0 := cell_of_row (HBOX.out w1 HB1.out) 0
    have j1 := cell_of_row (HBOX.out w1 HB1.out) 1
    have j2 := cell_of_row (HBOX.out w1 HB1.out) 2
    simp only [List.getElem?_toArray, List.getElem?_cons_zero, List.getElem?_cons_succ] at j0 j1 j2
    go_wp2_with fail
    refine (truthsR_any c HFZ.out _ n w1 (by omega) (HCE.out w1 HB1.out)).mono ?_
    rintro e w2 ⟨v2, rfl, ho2, hb2⟩
    have HB2 := hid (below_after HB1.out hb2 (Nat.le_refl _))
    have hs2 := HB2.out.size
    have hd2 := hb2.size
    clear hb2 j0 j1 j2
    rw [HTR.out] at ho2
    obtain ⟨_, _, rfl⟩ := ho2.open
    go_wp2
    go_ret2
    rw [HE.out]
    exact ⟨rfl, hWb.trans (HB2.out.mono (by omega))⟩
  · have hne : (f == 0) = false := by rw [beq_eq_false_iff_ne]; exact h0
    have hne2 : (f != 0) = true := by simp [h0]
    have HE := hid (show askErr c true = f by unfold askErr; rw [if_pos (by rw [← hf]; exact h0), hf])
    clear hf he
    go_enter Tryz.func10, Tryz.ntmps10
    go_wp2_with fail
    rw [← hW]
    clear hW
    refine (faultL_hid c HF _ n W (by omega) (HCE.out W (Below.refl _ _)) hsm).mono ?_
    rintro e w1 ⟨rfl, hb1⟩
    have HB1 := hid hb1
    have hs1 := hb1.size
    clear hb1
    go_wp2
    go_ret2
    rw [HE.out]
    exact ⟨rfl, hWb.trans (HB1.out.mono (by omega))⟩
theorem sure_ok (c : Ce) (hsm : Small c) (he : askErr c true = 0) (v : Value) (n : Nat) (w : World) (hn : n ≤ w.heap.size) (h : CeV (Lt n) w v c) :
    Calls Tryz.prog 10 #[v] w fun e w' => ∃ v', e = .returned (.tuple #[v', .int .i64 0]) ∧ OwnL w.heap.size w' v' (truthsR c) ∧ Below w.heap.size w w' := by
  have h' := h
  obtain ⟨ha, hc, ka, kc, ta, tc, rfl, hp1, hp2, hp3⟩ := h.open
  have HOP := hid (And.intro hp1 (And.intro hp2 hp3))
  clear hp1 hp2 hp3
  obtain ⟨W, hW⟩ : ∃ W, W = w.alloc (Obj.cells #[.slice ha c.heaps.length hc, .slice ka c.casks.length kc, .slice ta c.trials.length tc] 26) := ⟨_, rfl⟩
  have hWs : W.heap.size = w.heap.size + 1 := by rw [hW]; simp
  have hWb : Below w.heap.size w W := by rw [hW]; exact below_alloc1 (Nat.le_refl _) _
  have hWr : W.heap[w.heap.size]? = some (.cells #[.slice ha c.heaps.length hc, .slice ka c.casks.length kc, .slice ta c.trials.length tc] 26 (0, 0)) := by rw [hW]; exact heap_new _ _
  have HBOX := hid (fun w1 (hb : Below W.heap.size W w1) => (hb.block w.heap.size (by omega)).trans hWr : ∀ w1, Below W.heap.size W w1 → w1.heap[w.heap.size]? = _)
  have HCE := hid (fun w1 (hb : Below W.heap.size W w1) => h'.below (hWb.trans (hb.mono (by omega)) |>.mono hn) : ∀ w1, Below W.heap.size W w1 → CeV (Lt _) w1 _ c)
  clear hWr h' h
  obtain ⟨hf, -, hT⟩ := askErr_zero he
  have HF := hid (show (0 : Int) = fault c from hf.symm)
  have HFZ := hid hf
  have HTR := hid (show truthsR c ≠ [] from fun h => hT ((truthsR_nil hf).1 h))
  clear hf he hT
  go_enter Tryz.func10, Tryz.ntmps10
  go_wp2_with fail
  rw [← hW]
  clear hW
  refine (faultL_hid c HF _ n W (by omega) (HCE.out W (Below.refl _ _)) hsm).mono ?_
  rintro e w1 ⟨rfl, hb1⟩
  have HB1 := hid hb1
  have hs1 := hb1.size
  clear hb1
  have j0 := cell_of_row (HBOX.out w1 HB1.out) 0
  have j1 := cell_of_row (HBOX.out w1 HB1.out) 1
  have j2 := cell_of_row (HBOX.out w1 HB1.out) 2
  simp only [List.getElem?_toArray, List.getElem?_cons_zero, List.getElem?_cons_succ] at j0 j1 j2
  go_wp2_with fail
  refine (truthsR_any c HFZ.out _ n w1 (by omega) (HCE.out w1 HB1.out)).mono ?_
  rintro e w2 ⟨v2, rfl, ho2, hb2⟩
  have HB2 := hid (below_after HB1.out hb2 (Nat.le_refl _))
  have hs2 := HB2.out.size
  have hd2 := hb2.size
  clear hb2 j0 j1 j2
  obtain ⟨T, hTT⟩ : ∃ T, T = truthsR c := ⟨_, rfl⟩
  rw [← hTT] at ho2
  have hTn : ¬ T.length = 0 := fun h => HTR.out (by rw [← hTT]; exact List.length_eq_zero_iff.1 h)
  have hT1 : ((T.length : Int) == 0) = false := by rw [beq_eq_false_iff_ne]; omega
  have HTT := hid hTT
  have HO2 := hid (ho2.lower (show w.heap.size ≤ w1.heap.size by omega))
  obtain ⟨_, _, rfl⟩ := ho2.open
  clear hTT ho2
  go_wp2
  go_ret2
  rw [← HTT.out]
  exact ⟨_, rfl, HO2.out, hWb.trans (HB2.out.mono (by omega))⟩
end Go.Proofs.YtjddcaimjofihaaGreat
