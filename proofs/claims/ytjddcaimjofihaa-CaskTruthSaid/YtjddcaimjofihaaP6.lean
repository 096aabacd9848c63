/- Plain laws of the statement CaskTruth: the trials that are made of a truth are valid, and right in it; no condition. -/
import Derived.Test.YtjddcaimjofihaaP4
namespace Go.Proofs.Ytjddcaimjofihaa
open Go.RowKit

/-- One of some words; 0 if there is none. -/
def wordN (ws : List Int) (i : Nat) : Int := if ws.length = 0 then 0 else ws.getD (i % ws.length) 0
theorem wordN_bd {ws : List Int} (h : ∀ x ∈ ws, 0 ≤ x ∧ x ≤ 65535) (i : Nat) : 0 ≤ wordN ws i ∧ wordN ws i ≤ 65535 := by
  unfold wordN
  split
  · omega
  · rename_i hl
    have hlt : i % ws.length < ws.length := Nat.mod_lt _ (by omega)
    rw [List.getD_eq_getElem?_getD, List.getElem?_eq_getElem hlt]
    exact h _ (List.getElem_mem hlt)
/-- The trial that is made of a word, of a thing. -/
def tryK (c : Ce) (t : List Int) (w k : Int) : Tl := ⟨decide ((c.heaps.length : Int) ≤ k), if (c.heaps.length : Int) ≤ k then k - c.heaps.length else k, ⟨max 0 (ofT c t k - w / 64 % 3), min 100 (ofT c t k + w / 256 % 3)⟩⟩
def tryT (c : Ce) (t : List Int) (w : Int) : Tl := tryK c t w (w % (c.heaps.length + c.casks.length : Nat))
theorem tryK_ok {c : Ce} (hg : Good c) {t : List Int} (ht : listed c.heaps t = true) {w k : Int} (_ : 0 ≤ w) (h0 : 0 ≤ k) (h1 : k < c.heaps.length + c.casks.length) : trialB c (tryK c t w k) = true ∧ rightT c t (tryK c t w k) = true := by
  obtain ⟨⟨g1, g2, g3, -⟩, -⟩ := hg.facts
  have hof := ofT_100 hg ht h0 h1
  by_cases hc : (c.heaps.length : Int) ≤ k
  · have he : tryK c t w k = ⟨true, k - c.heaps.length, ⟨max 0 (ofT c t k - w / 64 % 3), min 100 (ofT c t k + w / 256 % 3)⟩⟩ := by simp [tryK, hc]
    have hth : thing c.heaps.length (tryK c t w k) = k := by rw [he]; simp only [thing, if_true]; omega
    constructor
    · rw [he]
      simp only [trialB, if_true, Bool.and_eq_true, within_iff, strong_iff]
      omega
    · unfold rightT
      rw [hth, has_iff, he]
      simp only
      omega
  · have he : tryK c t w k = ⟨false, k, ⟨max 0 (ofT c t k - w / 64 % 3), min 100 (ofT c t k + w / 256 % 3)⟩⟩ := by simp [tryK, hc]
    have hth : thing c.heaps.length (tryK c t w k) = k := by rw [he]; simp [thing]
    constructor
    · rw [he]
      simp only [trialB, Bool.false_eq_true, if_false, Bool.and_eq_true, within_iff, strong_iff]
      omega
    · unfold rightT
      rw [hth, has_iff, he]
      simp only
      omega
theorem tryT_ok {c : Ce} (hg : Good c) {t : List Int} (ht : listed c.heaps t = true) {w : Int} (hw : 0 ≤ w) : trialB c (tryT c t w) = true ∧ rightT c t (tryT c t w) = true := by
  obtain ⟨⟨g1, g2, g3, -⟩, -⟩ := hg.facts
  exact tryK_ok hg ht hw (Int.emod_nonneg _ (by omega)) (by have := Int.emod_lt_of_pos w (show (0 : Int) < (c.heaps.length + c.casks.length : Nat) by omega); omega)
def triesL (c : Ce) (t ws : List Int) (k : Nat) : List Tl := (List.range k).map fun i => tryT c t (wordN ws (i + 1))
theorem triesL_succ (c : Ce) (t ws : List Int) (k : Nat) : triesL c t ws (k + 1) = triesL c t ws k ++ [tryT c t (wordN ws (k + 1))] := by
  simp [triesL, List.range_succ]
theorem triesL_length (c : Ce) (t ws : List Int) (k : Nat) : (triesL c t ws k).length = k := by simp [triesL]
theorem triesL_ok {c : Ce} (hg : Good c) {t ws : List Int} (ht : listed c.heaps t = true) (hw : ∀ x ∈ ws, 0 ≤ x ∧ x ≤ 65535) (k : Nat) : ∀ y ∈ triesL c t ws k, trialB c y = true ∧ rightT c t y = true := fun y hy => by
  obtain ⟨i, -, rfl⟩ := List.mem_map.1 hy
  exact tryT_ok hg ht (wordN_bd hw _).1
end Go.Proofs.Ytjddcaimjofihaa
