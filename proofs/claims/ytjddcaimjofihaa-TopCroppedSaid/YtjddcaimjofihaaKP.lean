/- Plain law of TopCropped: the cellar of a plan's crops; no condition. -/
import Derived.Test.YtjddcaimjofihaaK1
import Derived.Test.YtjddcaimjofihaaP1
namespace Go.Proofs.Ytjddcaimjofihaa
open Go.RowKit

def wsC (l : List Cr) : List Int := l.map fun c => c.weight
def ssC (l : List Cr) : List Int := l.map fun c => c.strength
def hsC (l : List Cr) : List Rg := l.map fun c => ⟨c.strength, c.strength⟩
def worthC (l : List Cr) : Int := sumI (l.map fun c => c.worth)
def bestC : List Cr → Int → Int
  | [], m => m
  | c :: l, m => bestC l (max m c.strength)
def cropC (l : List Cr) : Ce := ⟨hsC l, [wsC l], []⟩

theorem bestC_snoc (l : List Cr) (x : Cr) : ∀ m, bestC (l ++ [x]) m = max (bestC l m) x.strength := by
  induction l with
  | nil => intro m; rfl
  | cons c l ih => intro m; exact ih _
theorem bestC_le (l : List Cr) : ∀ m, m ≤ bestC l m ∧ ∀ c ∈ l, c.strength ≤ bestC l m := by
  induction l with
  | nil => intro m; exact ⟨Int.le_refl _, fun c hc => by simp at hc⟩
  | cons y l ih =>
    intro m
    obtain ⟨h1, h2⟩ := ih (max m y.strength)
    refine ⟨Int.le_trans (Int.le_max_left _ _) h1, fun c hc => ?_⟩
    rcases List.mem_cons.1 hc with rfl | hc
    · exact Int.le_trans (Int.le_max_right _ _) h1
    · exact h2 c hc
theorem manyTo_one (hs : List Rg) (h : ∀ r ∈ hs, r.lo = r.hi) : manyTo 2001 hs 1 = 1 := by
  induction hs with
  | nil => rfl
  | cons r hs ih =>
    have := h r (by simp)
    rw [manyTo, show min (1 * size r) 2001 = 1 by simp only [size]; omega]
    exact ih fun q hq => h q (by simp [hq])
theorem hsC_listed : ∀ l : List Cr, listed (hsC l) (ssC l) = true
  | [] => rfl
  | c :: l => by
    simp only [hsC, ssC, List.map_cons]
    rw [listed_cons, has_iff.2 ⟨Int.le_refl _, Int.le_refl _⟩]
    exact hsC_listed l
theorem hsC_only : ∀ (l : List Cr) (t : List Int), listed (hsC l) t = true → t = ssC l
  | [], [], _ => rfl
  | [], _ :: _, h => by simp [hsC, listed] at h
  | _ :: _, [], h => by simp [hsC, listed] at h
  | c :: l, x :: t, h => by
    simp only [hsC, ssC, List.map_cons] at h ⊢
    rw [listed_cons, Bool.and_eq_true, has_iff] at h
    have h1 := h.1
    simp only at h1
    rw [show x = c.strength by omega]
    congr 1
    exact hsC_only l t h.2
theorem dotC : ∀ (l : List Cr), (∀ c ∈ l, c.worth = c.weight * c.strength) → dot (wsC l) (ssC l) = worthC l
  | [], _ => rfl
  | c :: l, h => by
    have := dotC l fun x hx => h x (by simp [hx])
    simp only [wsC, ssC, worthC, List.map_cons, dot, sumI] at this ⊢
    rw [this, h c (by simp)]

structure FitC (l : List Cr) : Prop where
  l1 : 1 ≤ l.length
  l3 : l.length ≤ 3
  bd : ∀ c ∈ l, 0 ≤ c.weight ∧ c.weight ≤ 30 ∧ 0 ≤ c.strength ∧ c.strength ≤ 100 ∧ c.worth = c.weight * c.strength
  pos : 0 < sumI (wsC l)
theorem FitC.good {l : List Cr} (h : FitC l) : Good (cropC l) := by
  have h1 := h.l1
  have h3 := h.l3
  refine ⟨?_, ?_⟩
  · simp [sizes, cropC, hsC]; omega
  · have hne : l ≠ [] := fun e => by rw [e] at h1; simp at h1
    have e1 : (hsC l).all strong = true := List.all_eq_true.2 fun r hr => by
      obtain ⟨c, hc, rfl⟩ := List.mem_map.1 hr
      have := h.bd c hc
      rw [strong_iff]; simp only; omega
    have e2 : isCask (hsC l).length (wsC l) = true := by
      have : (wsC l).all isW = true := List.all_eq_true.2 fun x hx => by
        obtain ⟨c, hc, rfl⟩ := List.mem_map.1 hx
        have := h.bd c hc
        simp only [isW]; rw [within_iff]; omega
      have hlen : ((wsC l).length == (hsC l).length) = true := by simp [hsC, wsC]
      simp only [isCask, weightsB, this, hlen, Bool.and_true, decide_eq_true h.pos]
    simp only [partsOk, cropC, e1, e2, List.all_cons, List.all_nil, Bool.and_true, Bool.true_and]
    simp [hsC, hne]
theorem FitC.fault {l : List Cr} (h : FitC l) : fault (cropC l) = 0 := by
  obtain ⟨g1, g2⟩ := h.good
  unfold Go.Proofs.Ytjddcaimjofihaa.fault
  rw [g1, g2, show (cropC l).heaps = hsC l from rfl, manyTo_one _ fun r hr => by obtain ⟨c, -, rfl⟩ := List.mem_map.1 hr; rfl]
  simp
theorem FitC.truth {l : List Cr} (h : FitC l) : ssC l ∈ truthsOf (cropC l) [] := truth_in h.good (hsC_listed l) fun y hy => by simp [cropC] at hy
theorem FitC.ask {l : List Cr} (h : FitC l) : askErr (cropC l) true = 0 := by
  unfold askErr
  rw [h.fault]
  simp [ne_nil_of h.truth]
theorem FitC.mean {l : List Cr} (h : FitC l) : mean (pad3 (ssC l)) (wsC l) = worthC l / sumI (wsC l) := by
  rw [mean_pad3 _ _ (by simp [wsC, ssC]) (by simpa [ssC] using h.l3), Go.Proofs.Ytjddcaimjofihaa.mean, dotC l fun c hc => (h.bd c hc).2.2.2.2]
theorem FitC.best {l : List Cr} (h : FitC l) : worthC l / sumI (wsC l) ≤ bestC l 0 := by
  rw [← h.mean, mean_pad3 _ _ (by simp [wsC, ssC]) (by simpa [ssC] using h.l3)]
  refine mean_high (by simp [wsC, ssC]) h.pos fun i x y hx hy => ?_
  simp only [wsC, ssC, List.getElem?_map, Option.map_eq_some_iff] at hx hy
  obtain ⟨c, hc, rfl⟩ := hx
  obtain ⟨d, hd, rfl⟩ := hy
  have hm := List.mem_of_getElem? hc
  exact ⟨(h.bd c hm).1, fun _ => (bestC_le l 0).2 d (List.mem_of_getElem? hd)⟩
theorem FitC.bounds {l : List Cr} (h : FitC l) : caskB (cropC l) = [⟨worthC l / sumI (wsC l), worthC l / sumI (wsC l)⟩] := by
  have hT := ne_nil_of h.truth
  have hk : ((cropC l).heaps.length : Int) < (cropC l).heaps.length + (cropC l).casks.length := by simp [cropC]; omega
  have hb := bnd_isR h.fault hT (k := ((cropC l).heaps.length : Int)) (by omega) hk
  obtain ⟨s, hs, e⟩ := hb.low
  obtain ⟨u, hu, d⟩ := hb.high
  have hone : ∀ t, t ∈ truthsR (cropC l) → t = ssC l := fun t ht => hsC_only l t (mem_truthsOf.1 ((mem_truthsR h.fault).1 ht)).1
  have hof : ofT (cropC l) (ssC l) ((cropC l).heaps.length : Int) = worthC l / sumI (wsC l) := by
    rw [← h.mean, mean_pad3 _ _ (by simp [wsC, ssC]) (by simpa [ssC] using h.l3)]
    simp [ofT, cropC]
  rw [hone s hs, hof] at e
  rw [hone u hu, hof] at d
  have : caskB (cropC l) = [bnd (cropC l) ((cropC l).heaps.length : Int) (truthsOf (cropC l) [])] := by
    simp [caskB, cropC, List.range_succ]
  rw [this]
  generalize bnd (cropC l) ((cropC l).heaps.length : Int) (truthsOf (cropC l) []) = r at *
  obtain ⟨lo, hi⟩ := r
  have e : worthC l / sumI (wsC l) = lo := e
  have d : worthC l / sumI (wsC l) = hi := d
  rw [← e, show hi = worthC l / sumI (wsC l) from d.symm]
end Go.Proofs.Ytjddcaimjofihaa
