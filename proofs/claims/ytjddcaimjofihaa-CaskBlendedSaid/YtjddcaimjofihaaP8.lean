/- Plain laws of the statement CaskBlended: a blend, as a cask, is of the grade always; no condition. -/
import Derived.Test.YtjddcaimjofihaaP4
import Derived.Test.YtjddcaimjofihaaP2
namespace Go.Proofs.Ytjddcaimjofihaa
open Go.RowKit

theorem blend_sum {T : List (List Int)} {st : List Int} {wt g : Int} {ws : List Int} (h : isBlendR T st wt g ws = true) (hst : ∀ x ∈ st, 0 ≤ x ∧ x ≤ 30) (hwt : 1 ≤ wt) : isCask st.length ws = true := by
  obtain ⟨h1, h2, -⟩ := isBlendR_iff.1 h
  have hW : st.all isW = true := List.all_eq_true.2 fun x hx => within_iff.2 (hst x hx)
  obtain ⟨j1, j2, -⟩ := (inStock_iff st ws hW).1 h1
  exact isCask_iff.2 ⟨j1, fun x hx => within_iff.1 (List.all_eq_true.1 j2 x hx), by omega⟩
theorem blendC_fault {c : Ce} (hf : fault c = 0) {ws : List Int} (hw : isCask c.heaps.length ws = true) (hall : ∀ t ∈ c.trials, t.cask = false) : fault (blendC c ws) = 0 := by
  obtain ⟨hg, hm⟩ := fault_good hf
  obtain ⟨⟨g1, g2, g3, g4⟩, -⟩ := hg.facts
  have hfl : (c.trials.filter fun t => !t.cask).length ≤ 5 := by have := List.length_filter_le (fun t : Tl => !t.cask) c.trials; omega
  refine fault_of (sizes_of g2 (by simp [blendC]) hfl) ?_ hm
  have h0 := hg.ok
  simp only [partsOk, Bool.and_eq_true] at h0
  simp only [partsOk, blendC, Bool.and_eq_true, List.all_cons, List.all_nil]
  refine ⟨⟨h0.1.1, hw, trivial⟩, List.all_eq_true.2 fun t ht => ?_⟩
  have ht' := (List.mem_filter.1 ht).1
  have h1 := List.all_eq_true.1 h0.2 t ht'
  have h2 := hall t ht'
  unfold trialB at h1 ⊢
  rw [h2] at h1 ⊢
  exact h1
theorem blendC_right {c : Ce} (hg : Good c) {ws : List Int} (hall : ∀ t ∈ c.trials, t.cask = false) (s : List Int) (t : Tl) (ht : t ∈ c.trials) : rightT (blendC c ws) s t = rightT c s t := by
  have hn := (hg.facts.2.2.2 t ht).2.2.1 (hall t ht)
  unfold rightT
  have hth : thing c.heaps.length t = t.num := by unfold thing; rw [hall t ht]; rfl
  have h1 : thing (blendC c ws).heaps.length t = t.num := hth
  rw [h1, hth]
  unfold ofT
  have e : (blendC c ws).heaps = c.heaps := rfl
  rw [e, if_neg (by omega), if_neg (by omega)]
theorem blendC_truths {c : Ce} (hg : Good c) {ws : List Int} (hall : ∀ t ∈ c.trials, t.cask = false) (l : List Int) : l ∈ truthsOf (blendC c ws) [] ↔ l ∈ truthsOf c [] := by
  rw [mem_truthsOf, mem_truthsOf, right_nil_iff, right_nil_iff]
  refine and_congr Iff.rfl ⟨fun h t ht => ?_, fun h t ht => ?_⟩
  · rw [← blendC_right hg hall _ t ht]; exact h t (List.mem_filter.2 ⟨ht, by simp [hall t ht]⟩)
  · have ht' := (List.mem_filter.1 ht).1
    rw [blendC_right hg hall _ t ht']; exact h t ht'
theorem blendC_all {c : Ce} {ws : List Int} (h : (blendC c ws).trials.length = c.trials.length) : ∀ t ∈ c.trials, t.cask = false := fun t ht => by
  have := blendC_trials h
  rw [← this] at ht
  simpa using (List.mem_filter.1 ht).2
theorem blendC_graded {c : Ce} (hf : fault c = 0) (hT : truthsOf c [] ≠ []) {st ws : List Int} {wt g : Int} (hsl : st.length = c.heaps.length) (hst : ∀ x ∈ st, 0 ≤ x ∧ x ≤ 30) (hwt : 1 ≤ wt) (hb : isBlendR (truthsR c) st wt g ws = true) (hall : ∀ t ∈ c.trials, t.cask = false) :
    fault (blendC c ws) = 0 ∧ truthsOf (blendC c ws) [] ≠ [] ∧ gradedV (blendC c ws) 0 g = 1 := by
  have hw := blend_sum hb hst hwt
  rw [hsl] at hw
  have hF := blendC_fault hf hw hall
  have hg := (fault_good hf).1
  obtain ⟨l, hl⟩ := List.exists_mem_of_ne_nil _ hT
  have hT' : truthsOf (blendC c ws) [] ≠ [] := ne_nil_of ((blendC_truths hg hall l).2 hl)
  refine ⟨hF, hT', ?_⟩
  rw [gradedR_eq hF hT' (Int.le_refl 0) (by simp [blendC])]
  unfold gradedR manyG
  rw [if_pos]
  rw [filter_all_len]
  intro s hs
  have h1 := (mem_truthsR hF).1 hs
  have h2 := (mem_truthsR hf).2 ((blendC_truths hg hall s).1 h1)
  have := (isBlendR_iff.1 hb).2.2 s h2
  simpa [blendC] using this
/-- A stock with more of one heap. -/
theorem set_more (st : List Int) (k : Nat) (v : Int) (hv : ∀ x, st[k]? = some x → x ≤ v) : ∀ (i : Nat) (x y : Int), st[i]? = some x → (st.set k v)[i]? = some y → x ≤ y := fun i x y hx hy => by
  rw [List.getElem?_set] at hy
  by_cases e : k = i
  · subst e
    rw [if_pos rfl] at hy
    split at hy
    · simp only [Option.some.injEq] at hy; subst hy; exact hv x hx
    · cases hy
  · rw [if_neg e, hx] at hy
    simp only [Option.some.injEq] at hy; omega
end Go.Proofs.Ytjddcaimjofihaa
