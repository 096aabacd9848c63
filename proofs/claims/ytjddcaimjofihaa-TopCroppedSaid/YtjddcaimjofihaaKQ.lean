/- Plain laws of TopCropped: the plan by bits; no condition. -/
import Derived.Test.YtjddcaimjofihaaKP
import Derived.Test.YtjddcaimjofihaaXG
namespace Go.Proofs.Ytjddcaimjofihaa
open Go.RowKit
set_option maxRecDepth 100000

theorem and_mask (n k : Nat) (h : n < 65536) (hk : k ≤ 10) : bits BinOp.and IntKind.i64 (n : Int) ((2 ^ k - 1 : Nat) : Int) = ((n % 2 ^ k : Nat) : Int) := by
  have hp : 2 ^ k ≤ 2 ^ 10 := Nat.pow_le_pow_right (by omega) hk
  have h10 : (2 : Nat) ^ 10 = 1024 := rfl
  have hb : IntKind.i64.bits = 64 := rfl
  have hm : n % 2 ^ k ≤ n := Nat.mod_le _ _
  unfold bits
  simp only [BitVec.ofInt_natCast, BitVec.toNat_and, BitVec.toNat_ofNat, hb]
  rw [Nat.mod_eq_of_lt (show n < 2 ^ 64 by omega), Nat.mod_eq_of_lt (show 2 ^ k - 1 < 2 ^ 64 by omega), Nat.and_two_pow_sub_one_eq_mod]
  exact IntWalk.i64_in _ (by omega)
theorem mask_num : ∀ j : Fin 10, wrap64 (wrap64 (2 * 2 ^ j.val) - 1) = ((2 ^ (j.val + 1) - 1 : Nat) : Int) := by decide +kernel
theorem mask_eq (last b : Int) (hl : 0 ≤ last ∧ last ≤ 9) (hb : 0 ≤ b ∧ b ≤ 65535) : bits BinOp.and IntKind.i64 b (wrap64 (wrap64 (2 * 2 ^ last.toNat) - 1)) = ((b.toNat % 2 ^ (last.toNat + 1) : Nat) : Int) := by
  have h1 := mask_num ⟨last.toNat, by omega⟩
  simp only at h1
  rw [h1, ← and_mask b.toNat (last.toNat + 1) (by omega) (by omega), Int.toNat_of_nonneg hb.1]
theorem mask_lt (last b : Int) (hl : 0 ≤ last ∧ last ≤ 9) : b.toNat % 2 ^ (last.toNat + 1) < 2 ^ (last.toNat + 1) ∧ b.toNat % 2 ^ (last.toNat + 1) < 1024 := by
  have h1 := Nat.mod_lt b.toNat (show 0 < 2 ^ (last.toNat + 1) from Nat.pow_pos (by omega))
  have hp : 2 ^ (last.toNat + 1) ≤ 2 ^ 10 := Nat.pow_le_pow_right (by omega) (by omega)
  have h10 : (2 : Nat) ^ 10 = 1024 := rfl
  omega
theorem rising_plan {last : Int} (hl : 0 ≤ last) : ∀ (l : List Int) (fr k : Nat), Rising (last.toNat + 1) fr l → planFrom last fr (l.take k) = true
  | [], fr, k, _ => by simp [planFrom]
  | x :: l, fr, 0, _ => by simp [planFrom]
  | x :: l, fr, k + 1, h => by
    obtain ⟨q, rfl, h1, h2, h3⟩ := h
    have ih := rising_plan hl l (q + 1) k h3
    simp only [List.take_succ_cons, planFrom, Bool.and_eq_true]
    exact ⟨within_iff.2 ⟨by omega, by omega⟩, by simpa using ih⟩
theorem bits_plan (last : Int) (hl : 0 ≤ last ∧ last ≤ 9) (m k many : Nat) (hm : m < 2 ^ (last.toNat + 1)) (hk : k ≤ many) : planB last many ((bitsL m).take k) = true := by
  rw [planB_iff]
  refine ⟨Nat.le_trans (List.length_take_le _ _) hk, ?_⟩
  exact rising_plan hl.1 _ 0 k (bitsL_rises (n := last.toNat + 1) (by omega) hm)
theorem bitsL_len (b : Nat) : (bitsL b).length ≤ 10 := by
  have h := (bitsFrom_rises (digitsB b) 0).length
  have hd : (digitsB b).length = 10 := by simp [digitsB]
  unfold bitsL
  rcases h with h | h
  · rw [h]; simp
  · omega
end Go.Proofs.Ytjddcaimjofihaa
