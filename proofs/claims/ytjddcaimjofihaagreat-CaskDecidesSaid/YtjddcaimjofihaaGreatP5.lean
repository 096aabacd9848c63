/- Plain laws of the law CaskDecided: rising lists, truths that are not told apart; no condition. -/
import Derived.Test.YtjddcaimjofihaaGreatTD
import Derived.Test.YtjddcaimjofihaaGreatC1
import Derived.Test.YtjddcaimjofihaaGreatP4
namespace Go.Proofs.YtjddcaimjofihaaGreat
open Go.RowKit

theorem rising_to {n : Nat} : ∀ (l : List Int) (fr : Nat), Rising n fr l → ∀ j, j < l.length → (fr : Int) ≤ l.getD j 0 ∧ l.getD j 0 < n ∧ (0 < j → l.getD (j - 1) 0 < l.getD j 0)
  | [], _, _, j, hj => by simp at hj
  | x :: l, fr, ⟨k, h1, h2, h3, h4⟩, 0, _ => by simp; subst h1; omega
  | x :: l, fr, ⟨k, h1, h2, h3, h4⟩, j + 1, hj => by
    obtain ⟨a, b, d⟩ := rising_to l (k + 1) h4 j (by simpa using hj)
    subst h1
    simp only [List.getD_cons_succ]
    refine ⟨by omega, b, fun _ => ?_⟩
    cases j with
    | zero => simp only [Nat.zero_add, Nat.sub_self, List.getD_cons_zero]; omega
    | succ j => simpa using d (by omega)
theorem rising_rises {N : Nat} {l : List Int} {M : Int} (h : Rising N 0 l) (hM : M = N) : RisesTo M l l.length := fun j hj => by
  have := rising_to l 0 h j hj
  subst hM
  exact ⟨by simpa using this.1, this.2.1, this.2.2⟩
theorem other_grades {c : Ce} (hg : Good c) {g : Int} {m : Nat} (hm : m < 1024) {s u : List Int} (hls : s.length = c.heaps.length) (hlu : u.length = c.heaps.length) (ho : otherB c g m s u = false) (he : ∀ t ∈ bitsL m, ofT c (pad3 s) t = ofT c (pad3 u) t) : gradesOf c (pad3 s) g = gradesOf c (pad3 u) g := by
  obtain ⟨⟨g1, g2, g3, -⟩, -, g6, -⟩ := hg.facts
  have ha : agreeN c m s u (c.heaps.length + c.casks.length) = true := by
    unfold agreeN
    rw [List.all_eq_true]
    intro i hi
    have hi := List.mem_range.1 hi
    cases hb : m.testBit i with
    | false => rfl
    | true =>
      have := he i ((mem_bitsL hm i).2 hb)
      rw [ofT_pad3 hg hls (by omega) (by omega), ofT_pad3 hg hlu (by omega) (by omega)] at this
      simp [this]
  rw [otherB, ha, Bool.and_true, diffN, List.take_length] at ho
  unfold gradesOf gradesL
  refine congrArg gbits (List.map_congr_left fun k hk => ?_)
  have h1 := List.any_eq_false.1 ho k hk
  have hkl := (g6 k hk).1
  rw [mean_pad3 k s (by omega) (by omega), mean_pad3 k u (by omega) (by omega)]
  cases h2 : decide (g ≤ mean s k) <;> cases h3 : decide (g ≤ mean u k) <;> simp_all
theorem pairs_decide {c : Ce} (hf : fault c = 0) {g : Int} {m : Nat} (hm : m < 1024) (h : PairsTo c (truthsR c) g m (truthsR c).length 0) : decP c g (bitsL m) = true := by
  have hg := (fault_good hf).1
  refine (decS_spec c g _ (truthsOf c [])).2 fun s hs u hu he => ?_
  obtain ⟨p, hp, rfl⟩ := List.getElem_of_mem ((mem_truthsR hf).2 hs)
  obtain ⟨q, hq, rfl⟩ := List.getElem_of_mem ((mem_truthsR hf).2 hu)
  rcases Nat.lt_trichotomy p q with e | e | e
  · exact (other_grades hg hm (truth_length hu) (truth_length hs) (h q p hq hp e (by omega)) fun t ht => (he t ht).symm).symm
  · subst e; rfl
  · exact other_grades hg hm (truth_length hs) (truth_length hu) (h p q hp hq e (by omega)) he
theorem and_ones : ∀ n : Fin 7, ∀ a : Fin 256, bits BinOp.and IntKind.i64 (a.val : Int) ((2 : Int) ^ n.val - 1) = ((a.val % 2 ^ n.val : Nat) : Int) := by decide +kernel
theorem exact_take (c : Ce) (t x : List Int) (k : Nat) (h : k < x.length) : (x.take (k + 1)).map (exactT c t) = (x.take k).map (exactT c t) ++ [exactT c t x[k]] := by
  rw [List.take_succ_eq_append_getElem h, List.map_append]; rfl
end Go.Proofs.YtjddcaimjofihaaGreat
