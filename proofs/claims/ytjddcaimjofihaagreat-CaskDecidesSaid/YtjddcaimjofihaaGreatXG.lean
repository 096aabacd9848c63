/- The walk of the law CaskGrades; no condition. -/
import Derived.Test.YtjddcaimjofihaaGreatL1
import Derived.Test.YtjddcaimjofihaaGreatL2
import Derived.Test.YtjddcaimjofihaaGreatR0
namespace Go.Proofs.YtjddcaimjofihaaGreat
open Go.RowKit Go.Shelf
set_option maxRecDepth 100000

/-- What a law returns. -/
def RetT (W : World) (e : Ending) (w' : World) : Prop := e = .returned (.bool true) ∧ Below W.heap.size W w'

theorem graded_mono {c : Ce} (_ : fault c = 0) (hT : truthsOf c [] ≠ []) {k : Int} (_ : 0 ≤ k) (_ : k < c.casks.length) {m n : Int} (hmn : m ≤ n) :
    (gradedV c k n = 1 ∧ gradedV c k m = 1) ∨ (gradedV c k n = 2 ∧ (gradedV c k m = 1 ∨ gradedV c k m = 2 ∨ gradedV c k m = 3)) ∨ (gradedV c k n = 3 ∧ (gradedV c k m = 1 ∨ gradedV c k m = 3)) := by
  have hb := bnd_is c (c.heaps.length + k) hT
  obtain ⟨s, hs, e⟩ := hb.low
  have := hb.inside s hs
  unfold gradedV
  generalize bnd c (c.heaps.length + k) (truthsOf c []) = r at *
  by_cases a1 : n ≤ r.lo
  · have a2 : m ≤ r.lo := by omega
    left; simp [a1, a2]
  · by_cases a2 : r.hi < n
    · right; left
      rw [if_neg a1, if_pos a2]
      refine ⟨rfl, ?_⟩
      split
      · exact .inl rfl
      · split
        · exact .inr (.inl rfl)
        · exact .inr (.inr rfl)
    · right; right
      rw [if_neg a1, if_neg a2]
      refine ⟨rfl, ?_⟩
      split
      · exact .inl rfl
      · next a3 => rw [if_neg (by omega)]; exact .inr rfl

theorem graded_some {c : Ce} (hf : fault c = 0) (hT : truthsOf c [] ≠ []) {k g : Int} (hk : 0 ≤ k ∧ k < c.casks.length) (hg : 0 ≤ g ∧ g ≤ 100) (hsm : Small c) (vc : Value) (n : Nat) (w : World) (hn : n ≤ w.heap.size) (h : CeV (Lt n) w vc c) :
    Calls Tryz.prog 23 #[vc, .int .i64 k, .int .i64 g] w (RetTwo (gradedV c k g) 0 w) := by
  have hok : gradedOk c k g = true := by simp only [gradedOk, Bool.and_eq_true, within_iff]; omega
  have ha : askErr c (gradedOk c k g) = 0 := by unfold askErr; rw [hok]; simp [hf, hT]
  have := Graded_any c vc k g n w hn h hsm
  rwa [ha, if_pos rfl] at this
theorem graded_false {c : Ce} (hf : fault c = 0) (hT : truthsOf c [] = []) {k g : Int} (hk : 0 ≤ k ∧ k < c.casks.length) (hg : 0 ≤ g ∧ g ≤ 100) (hsm : Small c) (vc : Value) (n : Nat) (w : World) (hn : n ≤ w.heap.size) (h : CeV (Lt n) w vc c) :
    Calls Tryz.prog 23 #[vc, .int .i64 k, .int .i64 g] w (RetTwo 0 11 w) := by
  have hok : gradedOk c k g = true := by simp only [gradedOk, Bool.and_eq_true, within_iff]; omega
  have ha : askErr c (gradedOk c k g) = 11 := by unfold askErr; rw [hok]; simp [hf, hT]
  have := Graded_any c vc k g n w hn h hsm
  rwa [ha, if_neg (by omega)] at this
/-- What two grades of one cask come to. -/
def GradesAre (c : Ce) (k n m e u v : Int) : Prop :=
  (∀ (vc : Value) (b : Nat) (w : World), b ≤ w.heap.size → CeV (Lt b) w vc c → Calls Tryz.prog 23 #[vc, .int .i64 k, .int .i64 n] w (RetTwo u e w)) ∧
  (∀ (vc : Value) (b : Nat) (w : World), b ≤ w.heap.size → CeV (Lt b) w vc c → Calls Tryz.prog 23 #[vc, .int .i64 k, .int .i64 m] w (RetTwo v e w))
theorem grades_are {c : Ce} (hf : fault c = 0) (hsm : Small c) {k n m : Int} (hk : 0 ≤ k ∧ k < c.casks.length) (hn : 0 ≤ n ∧ n ≤ 100) (hm : 0 ≤ m ∧ m ≤ n) :
    GradesAre c k n m 11 0 0 ∨ GradesAre c k n m 0 1 1 ∨ GradesAre c k n m 0 2 1 ∨ GradesAre c k n m 0 2 2 ∨ GradesAre c k n m 0 2 3 ∨ GradesAre c k n m 0 3 1 ∨ GradesAre c k n m 0 3 3 := by
  by_cases hT : truthsOf c [] = []
  · exact .inl ⟨fun vc b w hb h => graded_false hf hT hk hn hsm vc b w hb h, fun vc b w hb h => graded_false hf hT hk (by omega) hsm vc b w hb h⟩
  · right
    have key : GradesAre c k n m 0 (gradedV c k n) (gradedV c k m) := ⟨fun vc b w hb h => graded_some hf hT hk hn hsm vc b w hb h, fun vc b w hb h => graded_some hf hT hk (by omega) hsm vc b w hb h⟩
    rcases graded_mono hf hT hk.1 hk.2 hm.2 with ⟨e1, e2⟩ | ⟨e1, e2 | e2 | e2⟩ | ⟨e1, e2 | e2⟩ <;> rw [e1, e2] at key
    · exact .inl key
    · exact .inr (.inl key)
    · exact .inr (.inr (.inl key))
    · exact .inr (.inr (.inr (.inl key)))
    · exact .inr (.inr (.inr (.inr (.inl key))))
    · exact .inr (.inr (.inr (.inr (.inr key))))

end Go.Proofs.YtjddcaimjofihaaGreat
