/- A range in a list of ranges or trials in memory is set to another one; no condition. -/
import Derived.Test.YtjddcaimjofihaaL2
namespace Go.Proofs.Ytjddcaimjofihaa
open Go.RowKit

theorem Sl.put {α : Type} {sz : Nat} {enc : α → List Value} {S : Nat → Prop} {w w' : World} {b off cap : Nat} {l : List α} (h : Sl sz enc S w (.slice (some ⟨b, off, none⟩) l.length cap) l) (henc : ∀ y, (enc y).length = sz) (k : Nat) (hk : k < l.length) (x : α)
    (hx : ∀ i c, (enc x)[i]? = some c → w'.cell? ⟨b, off + k * sz + i, none⟩ = some c) (hkeep : ∀ j, j < l.length → j ≠ k → ∀ i, i < sz → w'.cell? ⟨b, off + j * sz + i, none⟩ = w.cell? ⟨b, off + j * sz + i, none⟩) :
    Sl sz enc S w' (.slice (some ⟨b, off, none⟩) l.length cap) (l.set k x) := by
  obtain ⟨a, cap', he, hc, hor⟩ := h
  injection he with e1 e2 e3
  subst e1; subst e3
  refine ⟨some ⟨b, off, none⟩, cap, by simp, by simpa using hc, ?_⟩
  rcases hor with h0 | ⟨b', off', e, hb, hcc⟩
  · subst h0; simp at hk
  · injection e with e
    injection e with e4 e5
    subst e4; subst e5
    refine .inr ⟨b, off, rfl, hb, fun j y hj i c hi => ?_⟩
    rw [List.getElem?_set] at hj
    by_cases ejk : k = j
    · subst ejk
      rw [if_pos rfl, if_pos hk] at hj
      simp only [Option.some.injEq] at hj
      subst hj
      exact hx i c hi
    · rw [if_neg ejk] at hj
      have hjl := (List.getElem?_eq_some_iff.1 hj).1
      have hil : i < sz := by rw [← henc y]; exact (List.getElem?_eq_some_iff.1 hi).1
      rw [hkeep j hjl (fun e => ejk e.symm) i hil]
      exact hcc j y hj i c hi
/-- Two neighbouring cells of an element are set. -/
theorem Sl.put2 {α : Type} {sz : Nat} {enc : α → List Value} {S : Nat → Prop} {w : World} {b off cap : Nat} {l : List α} (h : Sl sz enc S w (.slice (some ⟨b, off, none⟩) l.length cap) l) (henc : ∀ y, (enc y).length = sz) (k : Nat) (hk : k < l.length) (x : α) (d : Nat) (hd : d + 1 < sz) (u v : Value)
    (h0 : (enc x)[d]? = some u) (h1 : (enc x)[d + 1]? = some v) (hrest : ∀ i, i ≠ d → i ≠ d + 1 → (enc x)[i]? = (enc l[k])[i]?) :
    Sl sz enc S ((w.setCell ⟨b, off + k * sz + d, none⟩ u).setCell ⟨b, off + k * sz + d + 1, none⟩ v) (.slice (some ⟨b, off, none⟩) l.length cap) (l.set k x) := by
  have hcell : ∀ j (hj : j < l.length) i c, (enc l[j])[i]? = some c → w.cell? ⟨b, off + j * sz + i, none⟩ = some c := fun j hj i c hc => by
    obtain ⟨a, cap', he, -, hor⟩ := h
    injection he with e1 e2 e3
    subst e1
    rcases hor with h0 | ⟨b', off', e, -, hcc⟩
    · subst h0; simp at hj
    · injection e with e
      injection e with e4 e5
      subst e4; subst e5
      exact hcc j _ (List.getElem?_eq_getElem hj) i c hc
  have hat : ∀ i, i < sz → ∃ c, w.cell? ⟨b, off + k * sz + i, none⟩ = some c := fun i hi => ⟨_, hcell k hk i _ (List.getElem?_eq_getElem (by rw [henc]; exact hi))⟩
  refine h.put henc k hk x (fun i c hc => ?_) (fun j hj hne i hi => ?_)
  · by_cases e1 : i = d + 1
    · subst e1
      rw [h1] at hc
      simp only [Option.some.injEq] at hc
      subst hc
      obtain ⟨c0, hc0⟩ := hat (d + 1) hd
      exact World.cell?_setCell_same _ _ _ ((World.cell?_setCell_other _ _ _ _ (by intro e; injection e with _ e; omega)).trans hc0)
    · rw [World.cell?_setCell_other _ _ _ _ (by intro e; injection e with _ e; omega)]
      by_cases e2 : i = d
      · subst e2
        rw [h0] at hc
        simp only [Option.some.injEq] at hc
        subst hc
        obtain ⟨c0, hc0⟩ := hat i (by omega)
        exact World.cell?_setCell_same _ _ _ hc0
      · rw [World.cell?_setCell_other _ _ _ _ (by intro e; injection e with _ e; omega)]
        rw [hrest i e2 e1] at hc
        exact hcell k hk i c hc
  · have hne2 : j * sz + i ≠ k * sz + d ∧ j * sz + i ≠ k * sz + d + 1 := by
      rcases Nat.lt_or_gt_of_ne hne with hlt | hgt
      · have := Nat.mul_le_mul_right sz (show j + 1 ≤ k by omega)
        rw [Nat.add_mul] at this
        omega
      · have := Nat.mul_le_mul_right sz (show k + 1 ≤ j by omega)
        rw [Nat.add_mul] at this
        omega
    rw [World.cell?_setCell_other _ _ _ _ (by intro e; injection e with _ e; omega), World.cell?_setCell_other _ _ _ _ (by intro e; injection e with _ e; omega)]
end Go.Proofs.Ytjddcaimjofihaa
