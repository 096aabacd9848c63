/- Plain laws of the cellars that the statements make: other trials, other casks, one more trial; no condition. -/
import Derived.Test.YtjddcaimjofihaaP3
namespace Go.Proofs.Ytjddcaimjofihaa

theorem fault_of {c : Ce} (hs : sizes c = false) (hp : partsOk c = true) (hm : manyTo 2001 c.heaps 1 ≤ 2000) : fault c = 0 := by
  unfold fault
  rw [hs, hp]
  simp only [Bool.false_eq_true, if_false, if_true]
  rw [if_neg (by omega)]
theorem sizes_of {c : Ce} (h1 : c.heaps.length ≤ 3) (h2 : c.casks.length ≤ 3) (h3 : c.trials.length ≤ 5) : sizes c = false := by
  unfold sizes
  simp
  omega

/-! ### Other trials -/
def triedC (c : Ce) (ts : List Tl) : Ce := { c with trials := ts }
theorem tried_fault {c : Ce} (hf : fault c = 0) {ts : List Tl} (h : ∀ y ∈ ts, trialB c y = true) (hl : ts.length ≤ 5) : fault (triedC c ts) = 0 := by
  obtain ⟨hg, hm⟩ := fault_good hf
  obtain ⟨⟨g1, g2, g3, g4⟩, -⟩ := hg.facts
  refine fault_of (sizes_of g2 g3 hl) ?_ hm
  have h0 := hg.ok
  simp only [partsOk, Bool.and_eq_true] at h0
  simp only [partsOk, triedC, Bool.and_eq_true]
  exact ⟨h0.1, List.all_eq_true.2 fun y hy => h y hy⟩
theorem tried_truth {c : Ce} (hf : fault c = 0) {ts : List Tl} (h : ∀ y ∈ ts, trialB c y = true) (hl : ts.length ≤ 5) {t : List Int} (ht : listed c.heaps t = true) (hr : ∀ y ∈ ts, rightT c t y = true) : t ∈ truthsOf (triedC c ts) [] :=
  truth_in (fault_good (tried_fault hf h hl)).1 ht hr
theorem graded_truth {c : Ce} {l : List Int} (hl : l ∈ truthsOf c []) (k g : Int) :
    (gradedV c k g = 1 → g ≤ ofT c (pad3 l) (c.heaps.length + k)) ∧ (gradedV c k g = 2 → ofT c (pad3 l) (c.heaps.length + k) < g) ∧ 1 ≤ gradedV c k g ∧ gradedV c k g ≤ 3 := by
  have hb := bnd_in hl (c.heaps.length + k)
  unfold gradedV
  generalize bnd c (c.heaps.length + k) (truthsOf c []) = r at *
  by_cases a1 : g ≤ r.lo
  · rw [if_pos a1]; exact ⟨fun _ => by omega, fun h => by omega, by omega, by omega⟩
  · rw [if_neg a1]
    by_cases a2 : r.hi < g
    · rw [if_pos a2]; exact ⟨fun h => by omega, fun _ => by omega, by omega, by omega⟩
    · rw [if_neg a2]; exact ⟨fun h => by omega, fun h => by omega, by omega, by omega⟩
theorem ofT_heap (c : Ce) (l : List Int) (k : Nat) (hk : k < c.heaps.length) : ofT c l k = l.getD k 0 := by
  unfold ofT
  rw [if_neg (by omega), Int.toNat_natCast]

/-! ### Other casks -/
theorem isCask_iff {k : Nat} {l : List Int} : isCask k l = true ↔ l.length = k ∧ (∀ x ∈ l, 0 ≤ x ∧ x ≤ 30) ∧ 0 < sumI l := by
  simp only [isCask, weightsB, Bool.and_eq_true, beq_iff_eq, decide_eq_true_eq, List.all_eq_true, isW, within_iff, and_assoc]
def meanC (c : Ce) (ks : List (List Int)) : Ce := { c with casks := ks, trials := [] }
theorem meanC_fault {c : Ce} (hf : fault c = 0) {ks : List (List Int)} (hl : ks.length ≤ 3) (h : ∀ ws ∈ ks, isCask c.heaps.length ws = true) : fault (meanC c ks) = 0 := by
  obtain ⟨hg, hm⟩ := fault_good hf
  obtain ⟨⟨g1, g2, g3, g4⟩, -⟩ := hg.facts
  refine fault_of (sizes_of g2 hl (by simp [meanC])) ?_ hm
  have h0 := hg.ok
  simp only [partsOk, Bool.and_eq_true] at h0
  simp only [partsOk, meanC, Bool.and_eq_true]
  exact ⟨⟨h0.1.1, List.all_eq_true.2 h⟩, rfl⟩
theorem mem_set_or : ∀ (l : List Int) (i : Nat) (v x : Int), x ∈ l.set i v → x ∈ l ∨ x = v
  | [], _, _, _, h => by simp at h
  | a :: l, 0, v, x, h => by
    simp only [List.set_cons_zero, List.mem_cons] at h
    rcases h with h | h
    · exact .inr h
    · exact .inl (by simp [h])
  | a :: l, i + 1, v, x, h => by
    simp only [List.set_cons_succ, List.mem_cons] at h
    rcases h with h | h
    · exact .inl (by simp [h])
    · rcases mem_set_or l i v x h with h | h
      · exact .inl (by simp [h])
      · exact .inr h
theorem set_cask {k : Nat} {ws : List Int} {h : Nat} {x v : Int} (hw : isCask k ws = true) (hx : ws[h]? = some x) (h1 : x ≤ v) (h2 : v ≤ 30) : isCask k (ws.set h v) = true := by
  obtain ⟨a, b, d⟩ := isCask_iff.1 hw
  have h0 := b x (List.mem_of_getElem? hx)
  refine isCask_iff.2 ⟨by simpa using a, fun y hy => ?_, by rw [sum_set ws h x v hx]; omega⟩
  rcases mem_set_or _ _ _ _ hy with hy | rfl
  · exact b y hy
  · omega
theorem twice_cask {k : Nat} {ws : List Int} (hw : isCask k ws = true) (h : ∀ x ∈ ws, x * 2 ≤ 30) : isCask k (ws.map fun x => x * 2) = true := by
  obtain ⟨a, b, d⟩ := isCask_iff.1 hw
  refine isCask_iff.2 ⟨by simpa using a, fun y hy => ?_, by rw [sum_twice]; omega⟩
  obtain ⟨x, hx, rfl⟩ := List.mem_map.1 hy
  have := b x hx
  have := h x hx
  omega
/-- What CaskMean says of the strengths of a cask, of it with more, and of it doubled. -/
theorem mean_says {t ws : List Int} {h : Nat} {x y v : Int} (hx : ws[h]? = some x) (hy : t[h]? = some y) (hw : ∀ x ∈ ws, 0 ≤ x) (hp : 0 < sumI ws) (hv : x ≤ v) (hl : ws.length ≤ t.length) :
    lowF 101 ws t ≤ mean t ws ∧ mean t ws ≤ highF (-1) ws t ∧ mean t (ws.map fun x => x * 2) = mean t ws ∧ (mean t ws ≤ y → mean t ws ≤ mean t (ws.set h v)) ∧ (y ≤ mean t ws → mean t (ws.set h v) ≤ mean t ws) := by
  have hm := mean_more (s := t) hx hy hp hv
  refine ⟨mean_low hl hp fun i a b ha hb => ⟨hw a (List.mem_of_getElem? ha), (lowF_spec ws t 101).2 i a b ha hb⟩, mean_high hl hp fun i a b ha hb => ⟨hw a (List.mem_of_getElem? ha), (highF_spec ws t (-1)).2 i a b ha hb⟩, mean_twice ws t, ?_, ?_⟩
  · exact hm.1
  · exact hm.2

theorem bounds_at (c : Ce) (k : Nat) (h : k < c.heaps.length + c.casks.length) : (heapB c ++ caskB c)[k]? = some (bnd c k (truthsOf c [])) := by
  by_cases h1 : k < c.heaps.length
  · rw [List.getElem?_append_left (by simp [heapB]; omega)]
    simp [heapB, h1]
  · rw [List.getElem?_append_right (by simp [heapB]; omega)]
    have e : ((c.heaps.length : Int) + ((k - c.heaps.length : Nat) : Int)) = k := by omega
    have h2 : k - c.heaps.length < c.casks.length := by omega
    simp only [heapB, caskB, List.length_map, List.length_range, List.getElem?_map, List.getElem?_range h2, Option.map_some, e]

/-! ### One more trial -/
/-- Ranges that are inside other ones. -/
def InB (a b : List Rg) : Prop := a.length = b.length ∧ ∀ (i : Nat) (h1 : i < a.length) (h2 : i < b.length), b[i].lo ≤ a[i].lo ∧ a[i].hi ≤ b[i].hi
theorem bounds_in {c x : Ce} (h1 : x.heaps.length = c.heaps.length) (h2 : x.casks = c.casks) (hs : ∀ l, l ∈ truthsOf c [] → l ∈ truthsOf x []) (hT : truthsOf c [] ≠ []) : InB (heapB c) (heapB x) ∧ InB (caskB c) (caskB x) := by
  have key := fun k => bnd_more h1 h2 hs hT k
  refine ⟨⟨by simp [heapB, h1], fun i a b => ?_⟩, ⟨by simp [caskB, h2], fun i a b => ?_⟩⟩
  · simp only [heapB, List.getElem_map, List.getElem_range]
    exact key i
  · simp only [caskB, List.getElem_map, List.getElem_range, h1]
    exact key _
end Go.Proofs.Ytjddcaimjofihaa
