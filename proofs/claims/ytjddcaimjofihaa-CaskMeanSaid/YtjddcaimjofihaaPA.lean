/- Plain laws of the statement CaskMean: what its loop reckons, step by step; no condition. -/
import Derived.Test.YtjddcaimjofihaaP4
namespace Go.Proofs.Ytjddcaimjofihaa
open Go.RowKit

theorem lowF_take : ∀ (ws ss : List Int) (lo : Int) (k : Nat) (x y : Int), ws[k]? = some x → ss[k]? = some y → lowF lo (ws.take (k + 1)) (ss.take (k + 1)) = if 0 < x then min (lowF lo (ws.take k) (ss.take k)) y else lowF lo (ws.take k) (ss.take k)
  | [], _, _, k, x, y, hx, _ => by simp at hx
  | _ :: _, [], _, k, x, y, _, hy => by simp at hy
  | w :: ws, s :: ss, lo, 0, x, y, hx, hy => by
    simp only [List.getElem?_cons_zero, Option.some.injEq] at hx hy
    subst hx; subst hy
    simp [lowF]
  | w :: ws, s :: ss, lo, k + 1, x, y, hx, hy => by
    simp only [List.take_succ_cons, lowF]
    exact lowF_take ws ss _ k x y (by simpa using hx) (by simpa using hy)
theorem highF_take : ∀ (ws ss : List Int) (hi : Int) (k : Nat) (x y : Int), ws[k]? = some x → ss[k]? = some y → highF hi (ws.take (k + 1)) (ss.take (k + 1)) = if 0 < x then max (highF hi (ws.take k) (ss.take k)) y else highF hi (ws.take k) (ss.take k)
  | [], _, _, k, x, y, hx, _ => by simp at hx
  | _ :: _, [], _, k, x, y, _, hy => by simp at hy
  | w :: ws, s :: ss, lo, 0, x, y, hx, hy => by
    simp only [List.getElem?_cons_zero, Option.some.injEq] at hx hy
    subst hx; subst hy
    simp [highF]
  | w :: ws, s :: ss, lo, k + 1, x, y, hx, hy => by
    simp only [List.take_succ_cons, highF]
    exact highF_take ws ss _ k x y (by simpa using hx) (by simpa using hy)
/-- A list whose first k numbers are doubled. -/
def dblL (ws : List Int) (k : Nat) : List Int := (ws.take k).map (fun x => x * 2) ++ ws.drop k
theorem dblL_length (ws : List Int) (k : Nat) : (dblL ws k).length = ws.length := by simp [dblL]; omega
theorem dblL_zero (ws : List Int) : dblL ws 0 = ws := by simp [dblL]
theorem dblL_all (ws : List Int) : dblL ws ws.length = ws.map fun x => x * 2 := by simp [dblL]
theorem dblL_get (ws : List Int) (k : Nat) (h : k < ws.length) : (dblL ws k)[k]? = some ws[k] := by
  unfold dblL
  rw [List.getElem?_append_right (by rw [List.length_map, List.length_take]; omega), List.getElem?_drop]
  simp only [List.length_map, List.length_take]
  rw [show k + (k - min k ws.length) = k by omega, List.getElem?_eq_getElem h]
theorem dblL_set (ws : List Int) (k : Nat) (h : k < ws.length) : (dblL ws k).set k (ws[k] * 2) = dblL ws (k + 1) := by
  unfold dblL
  rw [List.set_append_right _ _ (by simp; omega), List.take_succ_eq_append_getElem h, List.map_append, List.append_assoc]
  congr 1
  simp only [List.length_map, List.length_take]
  rw [show k - min k ws.length = 0 by omega, List.drop_eq_getElem_cons h]
  rfl
def fitB (ws : List Int) (k : Nat) : Bool := (ws.take k).all fun x => decide (x * 2 ≤ 30)
theorem fitB_succ (ws : List Int) (k : Nat) (h : k < ws.length) : fitB ws (k + 1) = (fitB ws k && decide (ws[k] * 2 ≤ 30)) := by
  unfold fitB
  rw [List.take_succ_eq_append_getElem h, List.all_append, List.all_cons, List.all_nil, Bool.and_true]
theorem fitB_all {ws : List Int} (h : fitB ws ws.length = true) : ∀ x ∈ ws, x * 2 ≤ 30 := by
  simpa [fitB] using h
end Go.Proofs.Ytjddcaimjofihaa
