/- Plain laws of the statement CaskDecides: what the document's Decide and IsThings answer; no condition. -/
import Derived.Test.YtjddcaimjofihaaGreatP5
import Derived.Test.YtjddcaimjofihaaGreatP2
namespace Go.Proofs.YtjddcaimjofihaaGreat
open Go.RowKit

theorem other_same {c : Ce} (hg : Good c) {g : Int} {m : Nat} (hm : m < 2 ^ (c.heaps.length + c.casks.length)) {s u : List Int} (hls : s.length = c.heaps.length) (hlu : u.length = c.heaps.length)
    (h : (∀ t ∈ bitsL m, ofT c (pad3 s) t = ofT c (pad3 u) t) → gradesOf c (pad3 s) g = gradesOf c (pad3 u) g) : otherB c g m s u = false := by
  obtain ⟨⟨g1, g2, g3, -⟩, -, g6, -⟩ := hg.facts
  have hp : 2 ^ (c.heaps.length + c.casks.length) ≤ 2 ^ 6 := Nat.pow_le_pow_right (by omega) (by omega)
  cases ho : otherB c g m s u with
  | false => rfl
  | true =>
    rw [otherB, Bool.and_eq_true] at ho
    obtain ⟨h1, h2⟩ := ho
    have he := h fun t ht => by
      obtain ⟨k0, k1⟩ := (bitsL_rises (by omega) hm).mem t ht
      obtain ⟨i, rfl⟩ := Int.eq_ofNat_of_zero_le (show 0 ≤ t by omega)
      have hb := (mem_bitsL (by omega) i).1 ht
      have := List.all_eq_true.1 h2 i (List.mem_range.2 (by omega))
      rw [hb] at this
      rw [ofT_pad3 hg hls (by omega) (by omega), ofT_pad3 hg hlu (by omega) (by omega)]
      simpa using this
    unfold gradesOf at he
    have he := gbits_inj _ _ (by simp [gradesL]) he
    rw [diffN, List.take_length, List.any_eq_true] at h1
    obtain ⟨k, hk, hne⟩ := h1
    have hkl := (g6 k hk).1
    unfold gradesL at he
    have := List.map_inj_left.1 he k hk
    rw [mean_pad3 k s (by omega) (by omega), mean_pad3 k u (by omega) (by omega)] at this
    rw [this] at hne
    simp at hne
theorem decide_pairs {c : Ce} (hf : fault c = 0) {g : Int} {m : Nat} (hm : m < 2 ^ (c.heaps.length + c.casks.length)) (h : decP c g (bitsL m) = true) (i k : Nat) (hi : i < (truthsR c).length) (hk : k < (truthsR c).length) : otherB c g m (truthsR c)[i] (truthsR c)[k] = false := by
  have hg := (fault_good hf).1
  have h1 := (mem_truthsR hf).1 (List.getElem_mem hi)
  have h2 := (mem_truthsR hf).1 (List.getElem_mem hk)
  exact other_same hg hm (truth_length h1) (truth_length h2) ((decS_spec c g _ (truthsOf c [])).1 h _ h1 _ h2)
def decideR (c : Ce) (g : Int) (N : Nat) : List Int := bestR (fun b => decP c g (bitsL b)) (bitsL (2 ^ N - 1)) (2 ^ N)
theorem decideR_fewest {c : Ce} (hg : Good c) (g : Int) : Fewest (decP c g) (c.heaps.length + c.casks.length) (decideR c g (c.heaps.length + c.casks.length)) := by
  obtain ⟨⟨g1, g2, g3, -⟩, -⟩ := hg.facts
  have hp : 2 ^ (c.heaps.length + c.casks.length) ≤ 2 ^ 6 := Nat.pow_le_pow_right (by omega) (by omega)
  have hp0 : 0 < 2 ^ (c.heaps.length + c.casks.length) := Nat.pow_pos (by omega)
  refine bestR_fewest _ _ _ (by omega) (fun b _ => rfl) ?_
  refine (decS_spec c g _ (truthsOf c [])).2 fun s _ u _ he => ?_
  unfold gradesOf gradesL
  refine congrArg gbits (List.map_congr_left fun k hk => ?_)
  obtain ⟨i, hi, rfl⟩ := List.getElem_of_mem hk
  have h1 := he (((c.heaps.length + i : Nat) : Int)) ((mem_bitsL (by omega) _).2 (by rw [testBit_ones]; exact decide_eq_true (by omega)))
  rw [show ((c.heaps.length + i : Nat) : Int) = (c.heaps.length : Int) + (i : Int) by omega, ofT_cask c _ _ (by omega), ofT_cask c _ _ (by omega), Int.toNat_natCast, List.getD_eq_getElem?_getD, List.getElem?_eq_getElem hi] at h1
  simp only [Option.getD_some] at h1
  rw [h1]
/-- The bits of a rising list. -/
theorem or_bitM : ∀ n : Fin 64, ∀ k : Fin 6, n.val < 2 ^ k.val → bits BinOp.or IntKind.i64 (n.val : Int) (wrap64 (2 ^ k.val)) = ((n.val + 2 ^ k.val : Nat) : Int) ∧ bitsL (n.val + 2 ^ k.val) = bitsL n.val ++ [(k.val : Int)] := by decide +kernel
end Go.Proofs.YtjddcaimjofihaaGreat
