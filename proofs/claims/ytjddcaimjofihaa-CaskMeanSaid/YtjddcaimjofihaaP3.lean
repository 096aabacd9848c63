/- Plain laws of the loops of the statements and of the reference: bits of what is met, of trials that are right; no condition. -/
import Derived.Test.YtjddcaimjofihaaP2
namespace Go.Proofs.Ytjddcaimjofihaa
open Go.RowKit

/-- What is met of the two ends. -/
def metV (a b : Bool) : Int := (if a then 1 else 0) + if b then 2 else 0
theorem met_low : ∀ a b : Bool, bits BinOp.or IntKind.i64 (metV a b) 1 = metV true b := by decide +kernel
theorem met_high : ∀ a b : Bool, bits BinOp.or IntKind.i64 (metV a b) 2 = metV a true := by decide +kernel
theorem lowB_take (c : Ce) (k : Int) (r : Rg) (L : List (List Int)) (i : Nat) (h : i < L.length) : lowB c k r (L.take (i + 1)) = (lowB c k r (L.take i) || (ofT c L[i] k == r.lo)) := by
  simp only [lowB, List.take_succ_eq_append_getElem h, List.any_append, List.any_cons, List.any_nil, Bool.or_false]
theorem highB_take (c : Ce) (k : Int) (r : Rg) (L : List (List Int)) (i : Nat) (h : i < L.length) : highB c k r (L.take (i + 1)) = (highB c k r (L.take i) || (ofT c L[i] k == r.hi)) := by
  simp only [highB, List.take_succ_eq_append_getElem h, List.any_append, List.any_cons, List.any_nil, Bool.or_false]

theorem natOf_snoc (bs : List Bool) (b : Bool) : natOf (bs ++ [b]) = natOf bs + if b then 2 ^ bs.length else 0 := by
  induction bs with
  | nil => cases b <;> simp [natOf]
  | cons x bs ih => simp only [List.cons_append, natOf, ih, List.length_cons, Nat.pow_succ]; cases b <;> simp <;> omega
theorem or_bitN : ∀ n : Fin 32, ∀ k : Fin 5, n.val < 2 ^ k.val → bits BinOp.or IntKind.i64 (n.val : Int) (wrap64 (2 ^ k.val)) = ((n.val + 2 ^ k.val : Nat) : Int) := by decide +kernel
theorem and_can : ∀ a t : Fin 32, (bits BinOp.and IntKind.i64 (a.val : Int) (t.val : Int) == (t.val : Int)) = ((a.val &&& t.val) == t.val) := by decide +kernel

/-- Which of the first trials are right, by bits. -/
def rightsN (c : Ce) (l : List Int) (k : Nat) : Nat := natOf ((rightsL c l).take k)
theorem rightsN_lt (c : Ce) (l : List Int) (k : Nat) : rightsN c l k < 2 ^ k := Nat.lt_of_lt_of_le (natOf_lt _) (Nat.pow_le_pow_right (by omega) (List.length_take_le _ _))
theorem rightsN_succ (c : Ce) (l : List Int) (k : Nat) (h : k < c.trials.length) : rightsN c l (k + 1) = rightsN c l k + if rightT c l c.trials[k] then 2 ^ k else 0 := by
  have hl : (rightsL c l).length = c.trials.length := by simp [rightsL]
  unfold rightsN
  rw [List.take_succ_eq_append_getElem (by omega), natOf_snoc, List.length_take, Nat.min_eq_left (by omega)]
  simp [rightsL]
theorem rightsN_all (c : Ce) (l : List Int) : rightsN c l c.trials.length = natOf (rightsL c l) := by
  unfold rightsN
  rw [List.take_of_length_le (by simp [rightsL])]
/-- The reference's All, as numbers of the program. -/
def allN (c : Ce) (k : Nat) : List Int := (List.range k).map fun n : Nat => ((natOf (rightsL c (nthL c.heaps n)) : Nat) : Int)
theorem allN_succ (c : Ce) (k : Nat) : allN c (k + 1) = allN c k ++ [((natOf (rightsL c (nthL c.heaps k)) : Nat) : Int)] := by
  unfold allN; rw [List.range_succ, List.map_append]; rfl
theorem allN_length (c : Ce) (k : Nat) : (allN c k).length = k := by simp [allN]
theorem allN_all (c : Ce) : allN c (manyR c).toNat = (allR c).map fun n : Nat => (n : Int) := by simp [allN, allR]
theorem allR_lt (c : Ce) : ∀ a ∈ allR c, a < 2 ^ c.trials.length := fun a ha => by
  obtain ⟨n, -, rfl⟩ := List.mem_map.1 ha
  have := natOf_lt (rightsL c (nthL c.heaps n))
  simpa [rightsL] using this

theorem firstFromR_none (all : List Nat) : ∀ (n s : Nat), (∀ i, s ≤ i → i < s + n → canR all (2 ^ (i + 1) - 1) = true) → firstFromR all (List.range' s n) = none
  | 0, _, _ => rfl
  | n + 1, s, h => by rw [List.range'_succ, firstFromR, if_pos (h s (by omega) (by omega))]; exact firstFromR_none all n (s + 1) fun i h1 h2 => h i (by omega) (by omega)
theorem firstFromR_some (all : List Nat) : ∀ (n s k : Nat), s ≤ k → k < s + n → (∀ i, s ≤ i → i < k → canR all (2 ^ (i + 1) - 1) = true) → canR all (2 ^ (k + 1) - 1) = false → firstFromR all (List.range' s n) = some k
  | 0, s, k, h1, h2, _, _ => by omega
  | n + 1, s, k, h1, h2, h3, h4 => by
    rw [List.range'_succ, firstFromR]
    by_cases e : s = k
    · subst e; rw [if_neg (by rw [h4]; simp)]
    · rw [if_pos (h3 s (by omega) (by omega))]; exact firstFromR_some all n (s + 1) k (by omega) (by omega) (fun i a b => h3 i (by omega) b) h4
theorem firstR_none {c : Ce} (h : ∀ i, i < c.trials.length → canR (allR c) (2 ^ (i + 1) - 1) = true) : firstR c = none := by
  rw [firstR, List.range_eq_range']; exact firstFromR_none _ _ _ fun i _ h2 => h i (by omega)
theorem firstR_some {c : Ce} {k : Nat} (hk : k < c.trials.length) (h : ∀ i, i < k → canR (allR c) (2 ^ (i + 1) - 1) = true) (h2 : canR (allR c) (2 ^ (k + 1) - 1) = false) : firstR c = some k := by
  rw [firstR, List.range_eq_range']; exact firstFromR_some _ _ _ _ (by omega) (by omega) (fun i _ a => h i a) h2

/-! ### A blend, as ProveBlend sees it -/
theorem inStock_iff : ∀ (st ws : List Int), st.all isW = true → (inStock st ws = true ↔ ws.length = st.length ∧ ws.all isW = true ∧ ∀ (i : Nat) (x y : Int), ws[i]? = some x → st[i]? = some y → x ≤ y)
  | [], [], _ => by simp [inStock]
  | [], _ :: _, _ => by simp [inStock]
  | _ :: _, [], _ => by simp [inStock]
  | s :: st, w :: ws, h => by
    simp only [List.all_cons, Bool.and_eq_true] at h
    have ih := inStock_iff st ws h.2
    have hs := within_iff.1 h.1
    simp only [inStock, Bool.and_eq_true, List.all_cons, List.length_cons, Nat.add_right_cancel_iff]
    rw [ih]
    constructor
    · rintro ⟨h1, h2, h3, h4⟩
      have h1 := within_iff.1 h1
      refine ⟨h2, ⟨within_iff.2 (by omega), h3⟩, fun i x y a b => ?_⟩
      cases i with
      | zero => simp at a b; omega
      | succ i => exact h4 i x y (by simpa using a) (by simpa using b)
    · rintro ⟨h2, ⟨h1, h3⟩, h4⟩
      have h1 := within_iff.1 h1
      have := h4 0 w s rfl rfl
      exact ⟨within_iff.2 (by omega), h2, h3, fun i x y a b => h4 (i + 1) x y (by simpa using a) (by simpa using b)⟩
end Go.Proofs.Ytjddcaimjofihaa
