/- What Blend and ProveBlend answer for a valid cellar that has a truth; no condition. -/
import Derived.Test.YtjddcaimjofihaaT7
import Derived.Test.YtjddcaimjofihaaC1
import Derived.Test.YtjddcaimjofihaaP8
namespace Go.Proofs.Ytjddcaimjofihaa
open Go.RowKit Go.Shelf

def Bl2 (c : Ce) (st : List Int) (wt g : Int) (l : List Int) (e : Int) : Prop := ∀ (vc vs : Value) (n : Nat) (w : World), n ≤ w.heap.size → CeV (Lt n) w vc c → Ints (Lt n) w vs st → Calls Try.prog 64 #[vc, vs, .int .i64 wt, .int .i64 g] w (RetInts l e w)
def Pb2 (c : Ce) (st : List Int) (wt g : Int) (ws : List Int) (b : Bool) : Prop := ∀ (vc vs vw : Value) (n : Nat) (w : World), n ≤ w.heap.size → CeV (Lt n) w vc c → Ints (Lt n) w vs st → Ints (Lt n) w vw ws → Calls Try.prog 65 #[vc, vs, .int .i64 wt, .int .i64 g, vw] w (RetB b w)
/-- A stock, a weight and a grade that fit a cellar. -/
structure BlFit (c : Ce) (st : List Int) (wt g : Int) : Prop where
  fault : fault c = 0
  small : Small c
  truth : truthsOf c [] ≠ []
  len : st.length = c.heaps.length
  st : ∀ x ∈ st, 0 ≤ x ∧ x ≤ 30
  wt : 1 ≤ wt ∧ wt ≤ 90
  g : 0 ≤ g ∧ g ≤ 100
theorem BlFit.ok {c : Ce} {st : List Int} {wt g : Int} (h : BlFit c st wt g) : askErr c (blendOk c st wt g) = 0 := by
  have : blendOk c st wt g = true := by
    simp only [blendOk, weightsB, Bool.and_eq_true, beq_iff_eq, List.all_eq_true, isW, within_iff]
    exact ⟨⟨⟨h.len, h.st⟩, h.wt⟩, h.g⟩
  rw [this]
  unfold askErr
  simp [h.fault, h.truth]
theorem BlFit.short {c : Ce} {st : List Int} {wt g : Int} (h : BlFit c st wt g) : st.length ≤ 3 := by
  obtain ⟨⟨g1, g2, -⟩, -⟩ := (fault_good h.fault).1.facts
  have := h.len; omega
theorem BlFit.prove {c : Ce} {st : List Int} {wt g : Int} (h : BlFit c st wt g) {ws : List Int} (hwl : ws.length ≤ 1000) : Pb2 c st wt g ws (isBlendR (truthsR c) st wt g ws) := fun vc vs vw n w hn hc hs hw => by
  have f1 := h.len
  have f2 := h.st
  refine proveBlend_go c vc st vs wt g ws vw n w hn hc h.small hs (by have := h.short; omega) hw hwl h.ok _ (fun h0 => ?_) (fun h0 => ?_) (fun k hk h0 => ?_) (fun h0 h1 h2 => ?_)
  · cases e : isBlendR (truthsR c) st wt g ws
    · rfl
    · obtain ⟨i1, -, -⟩ := isBlendR_iff.1 e
      have hst : st.all isW = true := List.all_eq_true.2 fun x hx => within_iff.2 (f2 x hx)
      obtain ⟨j1, j2, -⟩ := (inStock_iff st ws hst).1 i1
      rw [weightsB, j2, Bool.and_true, beq_eq_false_iff_ne] at h0
      exact absurd (j1.trans f1) h0
  · cases e : isBlendR (truthsR c) st wt g ws
    · rfl
    · exact absurd (isBlendR_iff.1 e).2.1 h0
  · cases e : isBlendR (truthsR c) st wt g ws
    · rfl
    · have := (((inStock_idx st ws).1 (isBlendR_iff.1 e).1).2 k hk).2
      omega
  · simp only [weightsB, Bool.and_eq_true, beq_iff_eq, List.all_eq_true, isW, within_iff] at h0
    have hin : inStock st ws = true := (inStock_idx st ws).2 ⟨h0.1.trans f1.symm, fun i hi => ⟨by rw [← getD_at hi]; exact (h0.2 _ (List.getElem_mem hi)).1, h2 i hi⟩⟩
    rw [Bool.eq_iff_iff, isBlendR_iff]
    have hk := okB_iff h.fault h.g.2 (ws := ws) h0.1
    unfold okB at hk
    rw [hk]
    exact ⟨fun h => h.2.2, fun h => ⟨hin, h1, h⟩⟩
/-- The best blend, or none. -/
theorem BlFit.blend {c : Ce} {st : List Int} {wt g : Int} (h : BlFit c st wt g) : ∃ r : Option (List Int), Bl2 c st wt g (r.getD []) (foundErr r) ∧ (∀ t, r = some t → Best (fun ws => isBlendR (truthsR c) st wt g ws = true) t ∧ t.length = c.heaps.length) ∧ (r = none → ∀ t, isBlendR (truthsR c) st wt g t = false) := by
  obtain ⟨h1, h2⟩ := pick_best h.fault (wt := wt) h.g.2 h.len
  refine ⟨_, fun vc vs n w hn hc hs => Blend_go c vc st vs wt g n w hn hc h.small hs (by have := h.short; omega) h.ok, fun t ht => ⟨h1 t ht, ?_⟩, h2⟩
  have := ((inStock_idx st t).1 (isBlendR_iff.1 (h1 t ht).good).1).1
  rw [this, h.len]
end Go.Proofs.Ytjddcaimjofihaa
