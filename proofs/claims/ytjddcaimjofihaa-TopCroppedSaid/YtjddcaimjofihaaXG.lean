/- The walk of the law CaskGrades; no condition. -/
import Derived.Test.YtjddcaimjofihaaL1
import Derived.Test.YtjddcaimjofihaaL2
import Derived.Test.YtjddcaimjofihaaR0
namespace Go.Proofs.Ytjddcaimjofihaa
open Go.RowKit Go.Shelf
set_option maxRecDepth 100000

/-- What a law returns. -/
def RetT (W : World) (e : Ending) (w' : World) : Prop := e = .returned (.bool true) ∧ Below W.heap.size W w'
theorem ready_hid {b : Bool} (c : Ce) (HB : Hid (b = readyB c)) (v : Value) (n : Nat) (w : World) (hn : n ≤ w.heap.size) (h : CeV (Lt n) w v c) :
    Calls Try.prog 35 #[v] w fun e w' => e = .returned (.bool b) ∧ Below w.heap.size w w' := by
  rw [HB.out]; exact ready_any c v n w hn h

theorem graded_mono {c : Ce} (_ : fault c = 0) (hT : truthsOf c [] ≠ []) {k : Int} (_ : 0 ≤ k) (_ : k < c.casks.length) {m n : Int} (hmn : m ≤ n) :
    (gradedV c k n = 1 ∧ gradedV c k m = 1) ∨ (gradedV c k n = 2 ∧ (gradedV c k m = 1 ∨ gradedV c k m = 2 ∨ gradedV c k m = 3)) ∨ (gradedV c k n = 3 ∧ (gradedV c k m = 1 ∨ gradedV c k m = 3)) := by
  have hb := bnd_is c (c.heaps.length + k) hT
  obtain ⟨s, hs, e⟩ := hb.low
  have := hb.inside s hs
  unfold gradedV
  generalize bnd c (c.heaps.length + k) (truthsOf c []) = r at *
  by_cases a1 : n ≤ r.lo
  · have a2 : m ≤ r.lo := by omega
    left; simp [a1, a2]
  · by_cases a2 : r.hi < n
    · right; left
      rw [if_neg a1, if_pos a2]
      refine ⟨rfl, ?_⟩
      split
      · exact .inl rfl
      · split
        · exact .inr (.inl rfl)
        · exact .inr (.inr rfl)
    · right; right
      rw [if_neg a1, if_neg a2]
      refine ⟨rfl, ?_⟩
      split
      · exact .inl rfl
      · next a3 => rw [if_neg (by omega)]; exact .inr rfl

theorem graded_some {c : Ce} (hf : fault c = 0) (hT : truthsOf c [] ≠ []) {k g : Int} (hk : 0 ≤ k ∧ k < c.casks.length) (hg : 0 ≤ g ∧ g ≤ 100) (hsm : Small c) (vc : Value) (n : Nat) (w : World) (hn : n ≤ w.heap.size) (h : CeV (Lt n) w vc c) :
    Calls Try.prog 23 #[vc, .int .i64 k, .int .i64 g] w (RetTwo (gradedV c k g) 0 w) := by
  have hok : gradedOk c k g = true := by simp only [gradedOk, Bool.and_eq_true, within_iff]; omega
  have ha : askErr c (gradedOk c k g) = 0 := by unfold askErr; rw [hok]; simp [hf, hT]
  have := Graded_any c vc k g n w hn h hsm
  rwa [ha, if_pos rfl] at this
theorem graded_false {c : Ce} (hf : fault c = 0) (hT : truthsOf c [] = []) {k g : Int} (hk : 0 ≤ k ∧ k < c.casks.length) (hg : 0 ≤ g ∧ g ≤ 100) (hsm : Small c) (vc : Value) (n : Nat) (w : World) (hn : n ≤ w.heap.size) (h : CeV (Lt n) w vc c) :
    Calls Try.prog 23 #[vc, .int .i64 k, .int .i64 g] w (RetTwo 0 11 w) := by
  have hok : gradedOk c k g = true := by simp only [gradedOk, Bool.and_eq_true, within_iff]; omega
  have ha : askErr c (gradedOk c k g) = 11 := by unfold askErr; rw [hok]; simp [hf, hT]
  have := Graded_any c vc k g n w hn h hsm
  rwa [ha, if_neg (by omega)] at this
/-- What two grades of one cask come to. -/
def GradesAre (c : Ce) (k n m e u v : Int) : Prop :=
  (∀ (vc : Value) (b : Nat) (w : World), b ≤ w.heap.size → CeV (Lt b) w vc c → Calls Try.prog 23 #[vc, .int .i64 k, .int .i64 n] w (RetTwo u e w)) ∧
  (∀ (vc : Value) (b : Nat) (w : World), b ≤ w.heap.size → CeV (Lt b) w vc c → Calls Try.prog 23 #[vc, .int .i64 k, .int .i64 m] w (RetTwo v e w))
theorem grades_are {c : Ce} (hf : fault c = 0) (hsm : Small c) {k n m : Int} (hk : 0 ≤ k ∧ k < c.casks.length) (hn : 0 ≤ n ∧ n ≤ 100) (hm : 0 ≤ m ∧ m ≤ n) :
    GradesAre c k n m 11 0 0 ∨ GradesAre c k n m 0 1 1 ∨ GradesAre c k n m 0 2 1 ∨ GradesAre c k n m 0 2 2 ∨ GradesAre c k n m 0 2 3 ∨ GradesAre c k n m 0 3 1 ∨ GradesAre c k n m 0 3 3 := by
  by_cases hT : truthsOf c [] = []
  · exact .inl ⟨fun vc b w hb h => graded_false hf hT hk hn hsm vc b w hb h, fun vc b w hb h => graded_false hf hT hk (by omega) hsm vc b w hb h⟩
  · right
    have key : GradesAre c k n m 0 (gradedV c k n) (gradedV c k m) := ⟨fun vc b w hb h => graded_some hf hT hk hn hsm vc b w hb h, fun vc b w hb h => graded_some hf hT hk (by omega) hsm vc b w hb h⟩
    rcases graded_mono hf hT hk.1 hk.2 hm.2 with ⟨e1, e2⟩ | ⟨e1, e2 | e2 | e2⟩ | ⟨e1, e2 | e2⟩ <;> rw [e1, e2] at key
    · exact .inl key
    · exact .inr (.inl key)
    · exact .inr (.inr (.inl key))
    · exact .inr (.inr (.inr (.inl key)))
    · exact .inr (.inr (.inr (.inr (.inl key))))
    · exact .inr (.inr (.inr (.inr (.inr key))))

set_option maxHeartbeats 8000000 in
theorem CaskGrades_walk (c : Ce) (v : Value) {w : World} (h : CeV (Lt w.heap.size) w v c) (a : Int) (ha0 : 0 ≤ a ∧ a ≤ 255) (g : Int) (hg0 : 0 ≤ g ∧ g ≤ 255) (l : Int) (hl0 : 0 ≤ l ∧ l ≤ 255) :
    Calls Try.prog 8 #[v, .int .u8 a, .int .u8 g, .int .u8 l] w (RetT w) := by
  have h' := h
  obtain ⟨ha, hc, ka, kc, ta, tc, rfl, -, -, -⟩ := h.open
  obtain ⟨W, hW⟩ : ∃ W, W = w.alloc (Obj.cells #[.slice ha c.heaps.length hc, .slice ka c.casks.length kc, .slice ta c.trials.length tc] 26) := ⟨_, rfl⟩
  have hWs : W.heap.size = w.heap.size + 1 := by rw [hW]; simp
  have hWb : Below w.heap.size w W := by rw [hW]; exact below_alloc1 (Nat.le_refl _) _
  have hWr : W.heap[w.heap.size]? = some (.cells #[.slice ha c.heaps.length hc, .slice ka c.casks.length kc, .slice ta c.trials.length tc] 26 (0, 0)) := by rw [hW]; exact heap_new _ _
  have HBOX := hid (fun w1 (hb : Below W.heap.size W w1) => (hb.block w.heap.size (by omega)).trans hWr : ∀ w1, Below W.heap.size W w1 → w1.heap[w.heap.size]? = _)
  have HCE := hid (fun w1 (hb : Below W.heap.size W w1) => h'.below (hWb.trans (hb.mono (by omega))) : ∀ w1, Below W.heap.size W w1 → CeV (Lt w.heap.size) w1 _ c)
  clear hWr
  obtain ⟨rb, hrb⟩ : ∃ rb, rb = readyB c := ⟨_, rfl⟩
  have HRB := hid hrb
  clear hrb
  cases rb with
  | false =>
    go_enter Try.func8, Try.ntmps8
    go_wp2_with fail
    rw [← hW]
    clear hW
    refine (ready_hid c HRB _ w.heap.size W (by omega) (HCE.out W (Below.refl _ _))).mono ?_
    rintro e w1 ⟨rfl, hb1⟩
    go_wp2_with (go_at_call 20; refine (awake_any _).mono ?_; rintro e w2 ⟨rfl, hb2⟩)
    go_ret
    exact ⟨rfl, hWb.trans ((below_after hb1 hb2 (Nat.le_refl _)).mono (by omega))⟩
  | true =>
    have hf := ready_fault HRB.out.symm
    have hsm := thin_small (ready_thin HRB.out.symm)
    have hgood := (fault_good hf).1
    obtain ⟨⟨g1, g2, g3, -⟩, -⟩ := hgood.facts
    have HF := hid hf
    have HSM := hid hsm
    clear hf hsm hgood
    by_cases hz : c.casks.length = 0
    · have hz' : ((c.casks.length : Int) == 0) = true := by simp [hz]
      clear hz
      go_enter Try.func8, Try.ntmps8
      go_wp2_with fail
      rw [← hW]
      clear hW
      refine (ready_hid c HRB _ w.heap.size W (by omega) (HCE.out W (Below.refl _ _))).mono ?_
      rintro e w1 ⟨rfl, hb1⟩
      have j1 := cell_of_row (HBOX.out w1 hb1) 1
      simp only [List.getElem?_toArray, List.getElem?_cons_zero, List.getElem?_cons_succ] at j1
      go_wp2_with (go_at_call 20; refine (awake_any _).mono ?_; rintro e w2 ⟨rfl, hb2⟩)
      go_ret
      exact ⟨rfl, hWb.trans ((below_after hb1 hb2 (Nat.le_refl _)).mono (by omega))⟩
    · have hz' : ((c.casks.length : Int) == 0) = false := by rw [beq_eq_false_iff_ne]; omega
      have hzp : (0 : Int) < (c.casks.length : Int) := by omega
      clear hz
      have hK : 0 ≤ a % (c.casks.length : Int) ∧ a % (c.casks.length : Int) < c.casks.length := ⟨Int.emod_nonneg _ (by omega), Int.emod_lt_of_pos _ hzp⟩
      have hN : 0 ≤ g % 101 ∧ g % 101 ≤ 100 := by omega
      have hfin : ∀ M : Int, (0 ≤ M ∧ M ≤ g % 101) → Hid (GradesAre c (a % (c.casks.length : Int)) (g % 101) M 11 0 0 ∨ GradesAre c (a % (c.casks.length : Int)) (g % 101) M 0 1 1 ∨ GradesAre c (a % (c.casks.length : Int)) (g % 101) M 0 2 1 ∨ GradesAre c (a % (c.casks.length : Int)) (g % 101) M 0 2 2 ∨ GradesAre c (a % (c.casks.length : Int)) (g % 101) M 0 2 3 ∨ GradesAre c (a % (c.casks.length : Int)) (g % 101) M 0 3 1 ∨ GradesAre c (a % (c.casks.length : Int)) (g % 101) M 0 3 3) := fun M hM => hid (grades_are HF.out HSM.out hK hN hM)
      by_cases hmx : l % 30 < g % 101
      · have HG := hfin (g % 101 - l % 30) (by omega)
        clear hfin hK hN
        rcases HG.out with HG | HG | HG | HG | HG | HG | HG
        all_goals
          obtain ⟨G1, G2⟩ := HG
          have HG1 := hid G1
          have HG2 := hid G2
          clear G1 G2
          go_enter Try.func8, Try.ntmps8
          go_wp2_with fail
          rw [← hW]
          clear hW
          refine (ready_hid c HRB _ w.heap.size W (by omega) (HCE.out W (Below.refl _ _))).mono ?_
          rintro e w1 ⟨rfl, hb1⟩
          have j0 := cell_of_row (HBOX.out w1 hb1) 0
          have j1 := cell_of_row (HBOX.out w1 hb1) 1
          have j2 := cell_of_row (HBOX.out w1 hb1) 2
          simp only [List.getElem?_toArray, List.getElem?_cons_zero, List.getElem?_cons_succ] at j0 j1 j2
          have HB1 := hid hb1
          have hs1 := hb1.size
          clear hb1
          go_wp2_with fail
          refine (CellarL_any c _ w.heap.size w1 (by omega) (HCE.out w1 HB1.out) HSM.out).mono ?_
          rintro e w2 ⟨v2, rfl, hc2, hb2⟩
          obtain ⟨_, _, _, _, _, _, rfl, -⟩ := id hc2.open
          have HB2 := hid (below_after HB1.out hb2 (Nat.le_refl _))
          clear hb2 j0 j1 j2
          go_wp2_with fail
          refine (HG1.out _ _ w2 (Nat.le_refl _) hc2).mono ?_
          rintro e w3 ⟨rfl, hb3⟩
          have HB3 := hid (below_after HB2.out hb3 (Nat.le_refl _))
          clear hb3 hc2
          have hs3 := HB3.out.size
          have j0 := cell_of_row (HBOX.out w3 HB3.out) 0
          have j1 := cell_of_row (HBOX.out w3 HB3.out) 1
          have j2 := cell_of_row (HBOX.out w3 HB3.out) 2
          simp only [List.getElem?_toArray, List.getElem?_cons_zero, List.getElem?_cons_succ] at j0 j1 j2
          go_wp2_with fail
          refine (CellarL_any c _ w.heap.size w3 (by omega) (HCE.out w3 HB3.out) HSM.out).mono ?_
          rintro e w4 ⟨v4, rfl, hc4, hb4⟩
          obtain ⟨_, _, _, _, _, _, rfl, -⟩ := id hc4.open
          have HB4 := hid (below_after HB3.out hb4 (Nat.le_refl _))
          clear hb4 j0 j1 j2
          go_wp2_with fail
          refine (HG2.out _ _ w4 (Nat.le_refl _) hc4).mono ?_
          rintro e w5 ⟨rfl, hb5⟩
          have HB5 := hid (below_after HB4.out hb5 (Nat.le_refl _))
          clear hb5 hc4
          go_wp2_with (go_at_call 20; refine (awake_any _).mono ?_; rintro e w6 ⟨rfl, hb6⟩)
          go_ret
          exact ⟨rfl, hWb.trans ((below_after HB5.out hb6 (Nat.le_refl _)).mono (by omega))⟩
      · have HG := hfin 0 (by omega)
        clear hfin hK hN
        rcases HG.out with HG | HG | HG | HG | HG | HG | HG
        all_goals
          obtain ⟨G1, G2⟩ := HG
          have HG1 := hid G1
          have HG2 := hid G2
          clear G1 G2
          go_enter Try.func8, Try.ntmps8
          go_wp2_with fail
          rw [← hW]
          clear hW
          refine (ready_hid c HRB _ w.heap.size W (by omega) (HCE.out W (Below.refl _ _))).mono ?_
          rintro e w1 ⟨rfl, hb1⟩
          have j0 := cell_of_row (HBOX.out w1 hb1) 0
          have j1 := cell_of_row (HBOX.out w1 hb1) 1
          have j2 := cell_of_row (HBOX.out w1 hb1) 2
          simp only [List.getElem?_toArray, List.getElem?_cons_zero, List.getElem?_cons_succ] at j0 j1 j2
          have HB1 := hid hb1
          have hs1 := hb1.size
          clear hb1
          go_wp2_with fail
          refine (CellarL_any c _ w.heap.size w1 (by omega) (HCE.out w1 HB1.out) HSM.out).mono ?_
          rintro e w2 ⟨v2, rfl, hc2, hb2⟩
          obtain ⟨_, _, _, _, _, _, rfl, -⟩ := id hc2.open
          have HB2 := hid (below_after HB1.out hb2 (Nat.le_refl _))
          clear hb2 j0 j1 j2
          go_wp2_with fail
          refine (HG1.out _ _ w2 (Nat.le_refl _) hc2).mono ?_
          rintro e w3 ⟨rfl, hb3⟩
          have HB3 := hid (below_after HB2.out hb3 (Nat.le_refl _))
          clear hb3 hc2
          have hs3 := HB3.out.size
          have j0 := cell_of_row (HBOX.out w3 HB3.out) 0
          have j1 := cell_of_row (HBOX.out w3 HB3.out) 1
          have j2 := cell_of_row (HBOX.out w3 HB3.out) 2
          simp only [List.getElem?_toArray, List.getElem?_cons_zero, List.getElem?_cons_succ] at j0 j1 j2
          go_wp2_with fail
          refine (CellarL_any c _ w.heap.size w3 (by omega) (HCE.out w3 HB3.out) HSM.out).mono ?_
          rintro e w4 ⟨v4, rfl, hc4, hb4⟩
          obtain ⟨_, _, _, _, _, _, rfl, -⟩ := id hc4.open
          have HB4 := hid (below_after HB3.out hb4 (Nat.le_refl _))
          clear hb4 j0 j1 j2
          go_wp2_with fail
          refine (HG2.out _ _ w4 (Nat.le_refl _) hc4).mono ?_
          rintro e w5 ⟨rfl, hb5⟩
          have HB5 := hid (below_after HB4.out hb5 (Nat.le_refl _))
          clear hb5 hc4
          go_wp2_with (go_at_call 20; refine (awake_any _).mono ?_; rintro e w6 ⟨rfl, hb6⟩)
          go_ret
          exact ⟨rfl, hWb.trans ((below_after HB5.out hb6 (Nat.le_refl _)).mono (by omega))⟩
end Go.Proofs.Ytjddcaimjofihaa
