/- The walk of the law CaskPlays (written by mkXP.py); no condition. -/
import Derived.Test.YtjddcaimjofihaaXG
import Derived.Test.YtjddcaimjofihaaR1
namespace Go.Proofs.Ytjddcaimjofihaa
open Go.RowKit Go.Shelf
set_option maxRecDepth 100000

theorem thin_hid {b : Bool} (c : Ce) (HB : Hid (b = thinB c)) (v : Value) (n : Nat) (w : World) (hn : n ≤ w.heap.size) (h : CeV (Lt n) w v c) :
    Calls Try.prog 19 #[v] w fun e w' => e = .returned (.bool b) ∧ Below w.heap.size w w' := by
  rw [HB.out]; exact thin_any c v n w hn h
theorem faultL_hid {f : Int} (c : Ce) (HB : Hid (f = fault c)) (v : Value) (n : Nat) (w : World) (hn : n ≤ w.heap.size) (h : CeV (Lt n) w v c) (hsm : Small c) :
    Calls Try.prog 25 #[v] w fun e w' => e = .returned (.int .i64 f) ∧ Below w.heap.size w w' := by
  rw [HB.out]; exact faultL_any c v n w hn h hsm
theorem check_hid {f : Int} (c : Ce) (HB : Hid (f = fault c)) (v : Value) (n : Nat) (w : World) (hn : n ≤ w.heap.size) (h : CeV (Lt n) w v c) (hsm : Small c) :
    Calls Try.prog 57 #[v] w fun e w' => e = .returned (.int .i64 f) ∧ Below w.heap.size w w' := by
  rw [HB.out]; exact check_any c v n w hn h hsm
theorem mean_hid {c : Ce} {l ws : List Int} {z : Int} (hz : z = mean l ws) (hg : Good c) (hf : Fit c l) (hm : ws ∈ c.casks) (vl vw : Value) (n : Nat) (w : World) (hn : n ≤ w.heap.size) (h : Ints (Lt n) w vl l) (g : Ints (Lt n) w vw ws) :
    Calls Try.prog 61 #[vl, vw] w fun e w' => e = .returned (.int .i64 z) ∧ Below w.heap.size w w' := by
  obtain ⟨⟨g1, g2, g3, -⟩, -, g6, -⟩ := hg.facts
  obtain ⟨q1, q2, q3⟩ := g6 ws hm
  rw [hz]
  exact meanR_any l ws vl vw n w hn h g (by have := hf.len; omega) (by have := hf.len; omega) (fun x hx => by have := q2 x hx; omega) hf.bd q3

/-- What Play, ProveTruth and the reference's IsTruth say of a list. -/
def PlayIs (c : Ce) (l ps : List Int) (e : Int) : Prop := ∀ (vc vl : Value) (w : World), CeV (Lt w.heap.size) w vc c → Ints (Lt w.heap.size) w vl l → Calls Try.prog 42 #[vc, vl] w (RetInts ps e w)
def ProveIs (c : Ce) (l : List Int) (b : Bool) : Prop := ∀ (vc vl : Value) (w : World), CeV (Lt w.heap.size) w vc c → Ints (Lt w.heap.size) w vl l → Calls Try.prog 58 #[vc, vl] w fun e w' => e = .returned (.bool b) ∧ Below w.heap.size w w'
def TruthIs (c : Ce) (l : List Int) (n : Nat) (b : Bool) : Prop := ∀ (vc vl : Value) (w : World), n ≤ w.heap.size → CeV (Lt n) w vc c → Ints (Lt n) w vl l → Calls Try.prog 59 #[vc, vl] w fun e w' => e = .returned (.bool b) ∧ Below w.heap.size w w'
theorem proveTruth_eq {c : Ce} (hf : fault c = 0) (l : List Int) : proveTruth c l = isTruthR c l := by
  have hg := (fault_good hf).1
  rw [proveTruth, isTruthR, hf]
  cases hli : listed c.heaps l with
  | false => simp
  | true => rw [right_pad3 hg (listed_length _ _ hli)]; simp
theorem prove_is {c : Ce} (hsm : Small c) {l : List Int} (hll : l.length ≤ 8) {b : Bool} (hb : b = proveTruth c l) : ProveIs c l b := fun vc vl w h g => by
  rw [hb]; exact proveTruth_any c vc vl l _ w (Nat.le_refl _) h hsm g (by omega)
theorem truth_is {c : Ce} (hf : fault c = 0) {l : List Int} (hll : l.length ≤ 8) (n : Nat) {b : Bool} (hb : b = isTruthR c l) : TruthIs c l n b := fun vc vl w hn h g => by
  rw [hb]; exact isTruth_any c (fault_good hf).1 l (by omega) vc vl n w hn h g

set_option maxHeartbeats 8000000 in
theorem CaskPlays_walk (c : Ce) (v : Value) {w : World} (h : CeV (Lt w.heap.size) w v c) (l : List Int) (vl : Value) (il : Ints (Lt w.heap.size) w vl l) :
    Calls Try.prog 12 #[v, vl] w (RetT w) := by
  have h' := h
  have il' := il
  obtain ⟨ha, hc, ka, kc, ta, tc, rfl, -, H2, -⟩ := h.open
  obtain ⟨_, _, he, -, ho⟩ := H2.open
  cases he
  obtain ⟨la, lc, rfl, -, -⟩ := il.open1
  have HO := hid ho
  clear ho H2 h il
  obtain ⟨W, hW⟩ : ∃ W, W = w.alloc (Obj.cells #[.slice ha c.heaps.length hc, .slice ka c.casks.length kc, .slice ta c.trials.length tc] 26) := ⟨_, rfl⟩
  have hWs : W.heap.size = w.heap.size + 1 := by rw [hW]; simp
  have hWb : Below w.heap.size w W := by rw [hW]; exact below_alloc1 (Nat.le_refl _) _
  have hWr : W.heap[w.heap.size]? = some (.cells #[.slice ha c.heaps.length hc, .slice ka c.casks.length kc, .slice ta c.trials.length tc] 26 (0, 0)) := by rw [hW]; exact heap_new _ _
  have HBOX := hid (fun w1 (hb : Below W.heap.size W w1) => (hb.block w.heap.size (by omega)).trans hWr : ∀ w1, Below W.heap.size W w1 → w1.heap[w.heap.size]? = _)
  have HCE := hid (fun w1 (hb : Below W.heap.size W w1) => h'.below (hWb.trans (hb.mono (by omega))) : ∀ w1, Below W.heap.size W w1 → CeV (Lt w.heap.size) w1 _ c)
  have HIL := hid (fun w1 (hb : Below W.heap.size W w1) => il'.below (hWb.trans (hb.mono (by omega))) : ∀ w1, Below W.heap.size W w1 → Ints (Lt w.heap.size) w1 _ l)
  clear hWr h' il'
  obtain ⟨tb, htb⟩ : ∃ tb, tb = thinB c := ⟨_, rfl⟩
  have HTB := hid htb
  clear htb
  cases tb with
  | false =>
    go_enter Try.func12, Try.ntmps12
    go_wp2_with fail
    rw [← hW]
    clear hW
    refine (thin_hid c HTB _ w.heap.size W (by omega) (HCE.out W (Below.refl _ _))).mono ?_
    rintro e w1 ⟨rfl, hb1⟩
    have HB1 := hid hb1
    have hs1 := hb1.size
    clear hb1
    go_wp2_with (go_at_call 20; refine (awake_any _).mono ?_; rintro e wz ⟨rfl, hbz⟩)
    go_ret
    exact ⟨rfl, hWb.trans ((below_after HB1.out hbz (Nat.le_refl _)).mono (by omega))⟩

  | true =>
    have HSM := hid (thin_small HTB.out.symm)
    by_cases hlong : 8 < l.length
    · have hlong' : (8 : Int) < (l.length : Int) := by omega
      go_enter Try.func12, Try.ntmps12
      go_wp2_with fail
      rw [← hW]
      clear hW
      refine (thin_hid c HTB _ w.heap.size W (by omega) (HCE.out W (Below.refl _ _))).mono ?_
      rintro e w1 ⟨rfl, hb1⟩
      have HB1 := hid hb1
      have hs1 := hb1.size
      clear hb1
      go_wp2_with (go_at_call 20; refine (awake_any _).mono ?_; rintro e wz ⟨rfl, hbz⟩)
      go_ret
      exact ⟨rfl, hWb.trans ((below_after HB1.out hbz (Nat.le_refl _)).mono (by omega))⟩

    · have hll : l.length ≤ 8 := by omega
      have hnl : ¬ (8 : Int) < (l.length : Int) := by omega
      clear hlong
      by_cases hf : fault c = 0
      · have HFA := hid (show (0 : Int) = fault c from hf.symm)
        have HG := hid (fault_good hf).1
        obtain ⟨⟨g1, g2, g3, -⟩, -⟩ := (fault_good hf).1.facts
        have hhl : c.heaps.length ≤ 1000 := by omega
        have hcl : c.casks.length ≤ 1000 := by omega
        obtain ⟨li, hli⟩ : ∃ li, li = listed c.heaps l := ⟨_, rfl⟩
        have HLI := hid hli
        cases li with
        | false =>
          have HPL := hid (show PlayIs c l [] 2 from fun vc vl w h g => play_range c vc vl l _ w (Nat.le_refl _) h g (by omega) hf hli.symm)
          have HPT := hid (prove_is (b := false) HSM.out hll (by rw [proveTruth_eq hf, isTruthR, ← hli]; rfl))
          have HIT := hid (truth_is (b := false) hf hll w.heap.size (by rw [isTruthR, ← hli]; rfl))
          clear hf hli g1 g2 g3
          go_enter Try.func12, Try.ntmps12
          go_wp2_with fail
          rw [← hW]
          clear hW
          refine (thin_hid c HTB _ w.heap.size W (by omega) (HCE.out W (Below.refl _ _))).mono ?_
          rintro e w1 ⟨rfl, hb1⟩
          have HB1 := hid hb1
          have hs1 := hb1.size
          clear hb1
          have j0 := cell_of_row (HBOX.out w1 HB1.out) 0
          have j1 := cell_of_row (HBOX.out w1 HB1.out) 1
          have j2 := cell_of_row (HBOX.out w1 HB1.out) 2
          simp only [List.getElem?_toArray, List.getElem?_cons_zero, List.getElem?_cons_succ] at j0 j1 j2
          go_wp2_with fail
          refine (CellarL_any c _ w.heap.size w1 (by omega) (HCE.out w1 HB1.out) HSM.out).mono ?_
          rintro e w2 ⟨v2, rfl, hc2, hb2⟩
          obtain ⟨_, _, _, _, _, _, rfl, -⟩ := id hc2.open
          have HB2 := hid (below_after HB1.out hb2 (Nat.le_refl _))
          clear hb2
          have hs2 := HB2.out.size
          clear j0 j1 j2
          go_wp2_with fail
          refine (list_any l _ w.heap.size w2 (by omega) (HIL.out w2 HB2.out) (by omega)).mono ?_
          rintro e w3 ⟨v3, rfl, ho3, hb3⟩
          have hi3 : Ints (Lt w3.heap.size) w3 v3 l := ho3.slLt (fun _ => rfl)
          obtain ⟨_, _, rfl, -, -⟩ := id hi3.open1
          have hc3 := (hc2.below hb3).le hb3.size
          have HB3 := hid (below_after HB2.out hb3 (Nat.le_refl _))
          clear hb3
          have hs3 := HB3.out.size
          clear ho3 hc2
          go_wp2_with fail
          refine (HPL.out _ _ w3 hc3 hi3).mono ?_
          rintro e w4 ⟨v4, rfl, hi4, hb4⟩
          obtain ⟨pa4, pc4, rfl, -, ho4⟩ := id hi4.open1
          have HO4 := hid ho4
          clear ho4
          have HB4 := hid (below_after HB3.out hb4 (Nat.le_refl _))
          clear hb4
          have hs4 := HB4.out.size
          clear hi4 hc3 hi3
          have j0 := cell_of_row (HBOX.out w4 HB4.out) 0
          have j1 := cell_of_row (HBOX.out w4 HB4.out) 1
          have j2 := cell_of_row (HBOX.out w4 HB4.out) 2
          simp only [List.getElem?_toArray, List.getElem?_cons_zero, List.getElem?_cons_succ] at j0 j1 j2
          go_wp2_with fail
          refine (faultL_hid c HFA _ w.heap.size w4 (by omega) (HCE.out w4 HB4.out) HSM.out).mono ?_
          rintro e w5 ⟨rfl, hb5⟩
          have HB5 := hid (below_after HB4.out hb5 (Nat.le_refl _))
          have HC5 := hid hb5
          clear hb5
          have hs5 := HB5.out.size
          clear j0 j1 j2
          have j0 := cell_of_row (HBOX.out w5 HB5.out) 0
          have j1 := cell_of_row (HBOX.out w5 HB5.out) 1
          have j2 := cell_of_row (HBOX.out w5 HB5.out) 2
          simp only [List.getElem?_toArray, List.getElem?_cons_zero, List.getElem?_cons_succ] at j0 j1 j2
          go_wp2_with fail
          refine (CellarL_any c _ w.heap.size w5 (by omega) (HCE.out w5 HB5.out) HSM.out).mono ?_
          rintro e w6 ⟨v6, rfl, hc6, hb6⟩
          obtain ⟨_, _, _, _, _, _, rfl, -⟩ := id hc6.open
          have HB6 := hid (below_after HB5.out hb6 (Nat.le_refl _))
          have HC6 := hid (below_after HC5.out hb6 (Nat.le_refl _))
          clear hb6
          have hs6 := HB6.out.size
          clear j0 j1 j2
          go_wp2_with fail
          refine (check_hid c HFA _ _ w6 (Nat.le_refl _) hc6 HSM.out).mono ?_
          rintro e w7 ⟨rfl, hb7⟩
          have HB7 := hid (below_after HB6.out hb7 (Nat.le_refl _))
          have HC7 := hid (below_after HC6.out hb7 (Nat.le_refl _))
          clear hb7
          have hs7 := HB7.out.size
          clear hc6
          have j0 := cell_of_row (HBOX.out w7 HB7.out) 0
          have j1 := cell_of_row (HBOX.out w7 HB7.out) 1
          have j2 := cell_of_row (HBOX.out w7 HB7.out) 2
          simp only [List.getElem?_toArray, List.getElem?_cons_zero, List.getElem?_cons_succ] at j0 j1 j2
          go_wp2_with fail
          refine (CellarL_any c _ w.heap.size w7 (by omega) (HCE.out w7 HB7.out) HSM.out).mono ?_
          rintro e w8 ⟨v8, rfl, hc8, hb8⟩
          obtain ⟨_, _, _, _, _, _, rfl, -⟩ := id hc8.open
          have HB8 := hid (below_after HB7.out hb8 (Nat.le_refl _))
          have HC8 := hid (below_after HC7.out hb8 (Nat.le_refl _))
          clear hb8
          have hs8 := HB8.out.size
          clear j0 j1 j2
          go_wp2_with fail
          refine (list_any l _ w.heap.size w8 (by omega) (HIL.out w8 HB8.out) (by omega)).mono ?_
          rintro e w9 ⟨v9, rfl, ho9, hb9⟩
          have hi9 : Ints (Lt w9.heap.size) w9 v9 l := ho9.slLt (fun _ => rfl)
          obtain ⟨_, _, rfl, -, -⟩ := id hi9.open1
          have hc9 := (hc8.below hb9).le hb9.size
          have HB9 := hid (below_after HB8.out hb9 (Nat.le_refl _))
          have HC9 := hid (below_after HC8.out hb9 (Nat.le_refl _))
          clear hb9
          have hs9 := HB9.out.size
          clear ho9 hc8
          go_wp2_with fail
          refine (HPT.out _ _ w9 hc9 hi9).mono ?_
          rintro e w10 ⟨rfl, hb10⟩
          have HB10 := hid (below_after HB9.out hb10 (Nat.le_refl _))
          have HC10 := hid (below_after HC9.out hb10 (Nat.le_refl _))
          clear hb10
          have hs10 := HB10.out.size
          clear hc9 hi9
          have j0 := cell_of_row (HBOX.out w10 HB10.out) 0
          have j1 := cell_of_row (HBOX.out w10 HB10.out) 1
          have j2 := cell_of_row (HBOX.out w10 HB10.out) 2
          simp only [List.getElem?_toArray, List.getElem?_cons_zero, List.getElem?_cons_succ] at j0 j1 j2
          go_wp2_with fail
          refine (HIT.out _ _ w10 (by omega) (HCE.out w10 HB10.out) (HIL.out w10 HB10.out)).mono ?_
          rintro e w11 ⟨rfl, hb11⟩
          have HB11 := hid (below_after HB10.out hb11 (Nat.le_refl _))
          have HC11 := hid (below_after HC10.out hb11 (Nat.le_refl _))
          clear hb11
          have hs11 := HB11.out.size
          clear j0 j1 j2
          have j0 := cell_of_row (HBOX.out w11 HB11.out) 0
          have j1 := cell_of_row (HBOX.out w11 HB11.out) 1
          have j2 := cell_of_row (HBOX.out w11 HB11.out) 2
          simp only [List.getElem?_toArray, List.getElem?_cons_zero, List.getElem?_cons_succ] at j0 j1 j2
          go_wp2_with fail
          refine (isListed_hid c (by omega) l (by omega) HLI _ _ w.heap.size w11 (by omega) (HCE.out w11 HB11.out) (HIL.out w11 HB11.out)).mono ?_
          rintro e w12 ⟨rfl, hb12⟩
          have HB12 := hid (below_after HB11.out hb12 (Nat.le_refl _))
          have HC12 := hid (below_after HC11.out hb12 (Nat.le_refl _))
          clear hb12
          have hs12 := HB12.out.size
          clear j0 j1 j2
          go_wp2_with (go_at_call 20; refine (awake_any _).mono ?_; rintro e wz ⟨rfl, hbz⟩)
          go_ret
          exact ⟨rfl, hWb.trans ((below_after HB12.out hbz (Nat.le_refl _)).mono (by omega))⟩

        | true =>
          obtain ⟨b, hb0⟩ : ∃ b, b = isTruthR c l := ⟨_, rfl⟩
          have HFIT := hid (fit_listed HG.out hli.symm)
          obtain ⟨ps, hps⟩ : ∃ ps, ps = c.casks.map fun k => mean (pad3 l) k := ⟨_, rfl⟩
          have HPL := hid (show PlayIs c l ps 0 from fun vc vl w h g => by rw [hps]; exact play_ok c vc vl l _ w (Nat.le_refl _) h g (by omega) hf hli.symm)
          have HPT := hid (prove_is HSM.out hll (hb0.trans (proveTruth_eq hf l).symm))
          have HIT := hid (truth_is hf hll w.heap.size hb0)
          have HPS := hid (show ps.length = c.casks.length ∧ ∀ k (h1 : k < ps.length) (h2 : k < c.casks.length), ps[k] = mean l c.casks[k] by
            subst hps
            refine ⟨by simp, fun k h1 h2 => ?_⟩
            rw [List.getElem_map]
            obtain ⟨-, -, g6, -⟩ := HG.out.facts
            exact mean_pad3 _ _ (by have := (g6 _ (List.getElem_mem h2)).1; have := HFIT.out.len; omega) (by have := HFIT.out.len; omega))
          have hpl : ps.length = c.casks.length := HPS.out.1
          clear hf hli g1 g2 g3 hps hb0
          go_enter Try.func12, Try.ntmps12
          go_wp2_with fail
          rw [← hW]
          clear hW
          refine (thin_hid c HTB _ w.heap.size W (by omega) (HCE.out W (Below.refl _ _))).mono ?_
          rintro e w1 ⟨rfl, hb1⟩
          have HB1 := hid hb1
          have hs1 := hb1.size
          clear hb1
          have j0 := cell_of_row (HBOX.out w1 HB1.out) 0
          have j1 := cell_of_row (HBOX.out w1 HB1.out) 1
          have j2 := cell_of_row (HBOX.out w1 HB1.out) 2
          simp only [List.getElem?_toArray, List.getElem?_cons_zero, List.getElem?_cons_succ] at j0 j1 j2
          go_wp2_with fail
          refine (CellarL_any c _ w.heap.size w1 (by omega) (HCE.out w1 HB1.out) HSM.out).mono ?_
          rintro e w2 ⟨v2, rfl, hc2, hb2⟩
          obtain ⟨_, _, _, _, _, _, rfl, -⟩ := id hc2.open
          have HB2 := hid (below_after HB1.out hb2 (Nat.le_refl _))
          clear hb2
          have hs2 := HB2.out.size
          clear j0 j1 j2
          go_wp2_with fail
          refine (list_any l _ w.heap.size w2 (by omega) (HIL.out w2 HB2.out) (by omega)).mono ?_
          rintro e w3 ⟨v3, rfl, ho3, hb3⟩
          have hi3 : Ints (Lt w3.heap.size) w3 v3 l := ho3.slLt (fun _ => rfl)
          obtain ⟨_, _, rfl, -, -⟩ := id hi3.open1
          have hc3 := (hc2.below hb3).le hb3.size
          have HB3 := hid (below_after HB2.out hb3 (Nat.le_refl _))
          clear hb3
          have hs3 := HB3.out.size
          clear ho3 hc2
          go_wp2_with fail
          refine (HPL.out _ _ w3 hc3 hi3).mono ?_
          rintro e w4 ⟨v4, rfl, hi4, hb4⟩
          obtain ⟨pa4, pc4, rfl, -, ho4⟩ := id hi4.open1
          have HO4 := hid ho4
          clear ho4
          have HB4 := hid (below_after HB3.out hb4 (Nat.le_refl _))
          clear hb4
          have hs4 := HB4.out.size
          clear hi4 hc3 hi3
          have j0 := cell_of_row (HBOX.out w4 HB4.out) 0
          have j1 := cell_of_row (HBOX.out w4 HB4.out) 1
          have j2 := cell_of_row (HBOX.out w4 HB4.out) 2
          simp only [List.getElem?_toArray, List.getElem?_cons_zero, List.getElem?_cons_succ] at j0 j1 j2
          go_wp2_with fail
          refine (faultL_hid c HFA _ w.heap.size w4 (by omega) (HCE.out w4 HB4.out) HSM.out).mono ?_
          rintro e w5 ⟨rfl, hb5⟩
          have HB5 := hid (below_after HB4.out hb5 (Nat.le_refl _))
          have HC5 := hid hb5
          clear hb5
          have hs5 := HB5.out.size
          clear j0 j1 j2
          have j0 := cell_of_row (HBOX.out w5 HB5.out) 0
          have j1 := cell_of_row (HBOX.out w5 HB5.out) 1
          have j2 := cell_of_row (HBOX.out w5 HB5.out) 2
          simp only [List.getElem?_toArray, List.getElem?_cons_zero, List.getElem?_cons_succ] at j0 j1 j2
          go_wp2_with fail
          refine (CellarL_any c _ w.heap.size w5 (by omega) (HCE.out w5 HB5.out) HSM.out).mono ?_
          rintro e w6 ⟨v6, rfl, hc6, hb6⟩
          obtain ⟨_, _, _, _, _, _, rfl, -⟩ := id hc6.open
          have HB6 := hid (below_after HB5.out hb6 (Nat.le_refl _))
          have HC6 := hid (below_after HC5.out hb6 (Nat.le_refl _))
          clear hb6
          have hs6 := HB6.out.size
          clear j0 j1 j2
          go_wp2_with fail
          refine (check_hid c HFA _ _ w6 (Nat.le_refl _) hc6 HSM.out).mono ?_
          rintro e w7 ⟨rfl, hb7⟩
          have HB7 := hid (below_after HB6.out hb7 (Nat.le_refl _))
          have HC7 := hid (below_after HC6.out hb7 (Nat.le_refl _))
          clear hb7
          have hs7 := HB7.out.size
          clear hc6
          have j0 := cell_of_row (HBOX.out w7 HB7.out) 0
          have j1 := cell_of_row (HBOX.out w7 HB7.out) 1
          have j2 := cell_of_row (HBOX.out w7 HB7.out) 2
          simp only [List.getElem?_toArray, List.getElem?_cons_zero, List.getElem?_cons_succ] at j0 j1 j2
          go_wp2_with fail
          refine (CellarL_any c _ w.heap.size w7 (by omega) (HCE.out w7 HB7.out) HSM.out).mono ?_
          rintro e w8 ⟨v8, rfl, hc8, hb8⟩
          obtain ⟨_, _, _, _, _, _, rfl, -⟩ := id hc8.open
          have HB8 := hid (below_after HB7.out hb8 (Nat.le_refl _))
          have HC8 := hid (below_after HC7.out hb8 (Nat.le_refl _))
          clear hb8
          have hs8 := HB8.out.size
          clear j0 j1 j2
          go_wp2_with fail
          refine (list_any l _ w.heap.size w8 (by omega) (HIL.out w8 HB8.out) (by omega)).mono ?_
          rintro e w9 ⟨v9, rfl, ho9, hb9⟩
          have hi9 : Ints (Lt w9.heap.size) w9 v9 l := ho9.slLt (fun _ => rfl)
          obtain ⟨_, _, rfl, -, -⟩ := id hi9.open1
          have hc9 := (hc8.below hb9).le hb9.size
          have HB9 := hid (below_after HB8.out hb9 (Nat.le_refl _))
          have HC9 := hid (below_after HC8.out hb9 (Nat.le_refl _))
          clear hb9
          have hs9 := HB9.out.size
          clear ho9 hc8
          go_wp2_with fail
          refine (HPT.out _ _ w9 hc9 hi9).mono ?_
          rintro e w10 ⟨rfl, hb10⟩
          have HB10 := hid (below_after HB9.out hb10 (Nat.le_refl _))
          have HC10 := hid (below_after HC9.out hb10 (Nat.le_refl _))
          clear hb10
          have hs10 := HB10.out.size
          clear hc9 hi9
          have j0 := cell_of_row (HBOX.out w10 HB10.out) 0
          have j1 := cell_of_row (HBOX.out w10 HB10.out) 1
          have j2 := cell_of_row (HBOX.out w10 HB10.out) 2
          simp only [List.getElem?_toArray, List.getElem?_cons_zero, List.getElem?_cons_succ] at j0 j1 j2
          go_wp2_with fail
          refine (HIT.out _ _ w10 (by omega) (HCE.out w10 HB10.out) (HIL.out w10 HB10.out)).mono ?_
          rintro e w11 ⟨rfl, hb11⟩
          have HB11 := hid (below_after HB10.out hb11 (Nat.le_refl _))
          have HC11 := hid (below_after HC10.out hb11 (Nat.le_refl _))
          clear hb11
          have hs11 := HB11.out.size
          clear j0 j1 j2
          have j0 := cell_of_row (HBOX.out w11 HB11.out) 0
          have j1 := cell_of_row (HBOX.out w11 HB11.out) 1
          have j2 := cell_of_row (HBOX.out w11 HB11.out) 2
          simp only [List.getElem?_toArray, List.getElem?_cons_zero, List.getElem?_cons_succ] at j0 j1 j2
          go_wp2_with fail
          refine (isListed_hid c (by omega) l (by omega) HLI _ _ w.heap.size w11 (by omega) (HCE.out w11 HB11.out) (HIL.out w11 HB11.out)).mono ?_
          rintro e w12 ⟨rfl, hb12⟩
          have HB12 := hid (below_after HB11.out hb12 (Nat.le_refl _))
          have HC12 := hid (below_after HC11.out hb12 (Nat.le_refl _))
          clear hb12
          have hs12 := HB12.out.size
          clear j0 j1 j2
          have j1 := cell_of_row (HBOX.out w12 HB12.out) 1
          simp only [List.getElem?_toArray, List.getElem?_cons_zero, List.getElem?_cons_succ] at j1
          go_wp2
          go_loopw [8] (fun i wr => ∃ k : Nat, k ≤ ps.length ∧ i = .int .i64 k ∧ Below w12.heap.size w12 wr) (fun i _ => ps.length - (intOf i).toNat)
          case atStart => exact ⟨0, by omega, rfl, Below.refl _ _⟩
          case round =>
            obtain ⟨k, hk, rfl, hbr⟩ := hrel
            have hbrs := hbr.size
            have HBR := hid (below_after HB12.out hbr (Nat.le_refl _))
            have HCR := hid (below_after HC12.out hbr (Nat.le_refl _))
            by_cases hlt : k < ps.length
            · have hltc : k < c.casks.length := by have := HPS.out.1; omega
              rcases HO.out with hnil | ⟨b, off, rfl, hbn, hcc⟩
              · rw [hnil] at hltc; simp at hltc
              obtain ⟨xv, y0, hx⟩ := hcc k hltc
              rcases HO4.out with hnil | ⟨b2, off2, rfl, hbn2, hcc2⟩
              · rw [hnil] at hlt; simp at hlt
              have y1 := hcc2 k hlt
              clear hcc hcc2
              have HP := hid (HPS.out.2 k hlt hltc)
              have HQ := hid (List.getElem_mem hltc)
              generalize ps[k] = z at *
              generalize c.casks[k] = ws at *
              have hbn' : b < w.heap.size := hbn
              have hbn2' : b2 < w4.heap.size := hbn2
              have HWR := hid (hWb.trans (HBR.out.mono (by omega)))
              have z0 := (HWR.out.cell (p := ⟨b, off + k, none⟩) (by show b < _; omega)).trans y0
              have z1 := (HCR.out.cell (p := ⟨b2, off2 + k, none⟩) (by show b2 < _; omega)).trans y1
              have j1 := cell_of_row (HBOX.out wr HBR.out) 1
              simp only [List.getElem?_toArray, List.getElem?_cons_zero, List.getElem?_cons_succ] at j1
              obtain ⟨hgc, hgf⟩ := grew_cells wr
              have hszr := HBR.out.size
              have lb : b < wr.heap.size := by omega
              have lb2 : b2 < wr.heap.size := by have := HCR.out.size; omega
              have lw : w.heap.size < wr.heap.size := by omega
              obtain ⟨xa, xc, rfl, -, -⟩ := id hx.open1
              have HX := hid (fun g => (hx.below HWR.out).below ((grew_below wr g).mono (by omega)) : ∀ g, Ints (Lt w.heap.size) (World.grew wr g) _ ws)
              have HIG := hid (fun g => (HIL.out wr HBR.out).below ((grew_below wr g).mono (by omega)) : ∀ g, Ints (Lt w.heap.size) (World.grew wr g) _ l)
              have HN1 := hid (fun g => Nat.le_trans (by omega) (grew_below wr g).size : ∀ g, w.heap.size ≤ (World.grew wr g).heap.size)
              clear hx y0 y1
              go_wp2
              refine wp_region_grew (by kernel_rfl) (by kernel_rfl) ?_
              repeat (go_big_quiet_step ((go_at_call 61; exact grew_of (mean_hid HP.out HG.out HFIT.out HQ.out _ _ w.heap.size _ (HN1.out _) (HIG.out _) (HX.out _)))))
              refine wpQuiet_nil ?_
              rintro _ ⟨ex, rfl⟩
              have hbE := hbr.trans ((grew_below wr ex).mono hbrs)
              go_wp2
              go_roundw
              case rel => exact ⟨k + 1, by omega, by go_num, hbE⟩
              case measure => simp [intOf]; omega
            · have hszr := HBR.out.size
              go_wp2_with (go_at_call 20; refine (awake_any _).mono ?_; rintro e wz ⟨rfl, hbz⟩)
              go_ret
              exact ⟨rfl, hWb.trans ((below_after HBR.out hbz (Nat.le_refl _)).mono (by omega))⟩

      · have hne : (fault c == 0) = false := by rw [beq_eq_false_iff_ne]; exact hf
        have HPL := hid (show PlayIs c l [] (fault c) from fun vc vl w h g => play_fault c vc vl _ w (Nat.le_refl _) h HSM.out hf)
        have HPT := hid (prove_is (b := false) HSM.out hll (by rw [proveTruth, hne]; rfl))
        obtain ⟨f, hfc⟩ : ∃ f, f = fault c := ⟨_, rfl⟩
        have HFA := hid hfc
        rw [← hfc] at hne HPL hf
        clear hfc
        go_enter Try.func12, Try.ntmps12
        go_wp2_with fail
        rw [← hW]
        clear hW
        refine (thin_hid c HTB _ w.heap.size W (by omega) (HCE.out W (Below.refl _ _))).mono ?_
        rintro e w1 ⟨rfl, hb1⟩
        have HB1 := hid hb1
        have hs1 := hb1.size
        clear hb1
        have j0 := cell_of_row (HBOX.out w1 HB1.out) 0
        have j1 := cell_of_row (HBOX.out w1 HB1.out) 1
        have j2 := cell_of_row (HBOX.out w1 HB1.out) 2
        simp only [List.getElem?_toArray, List.getElem?_cons_zero, List.getElem?_cons_succ] at j0 j1 j2
        go_wp2_with fail
        refine (CellarL_any c _ w.heap.size w1 (by omega) (HCE.out w1 HB1.out) HSM.out).mono ?_
        rintro e w2 ⟨v2, rfl, hc2, hb2⟩
        obtain ⟨_, _, _, _, _, _, rfl, -⟩ := id hc2.open
        have HB2 := hid (below_after HB1.out hb2 (Nat.le_refl _))
        clear hb2
        have hs2 := HB2.out.size
        clear j0 j1 j2
        go_wp2_with fail
        refine (list_any l _ w.heap.size w2 (by omega) (HIL.out w2 HB2.out) (by omega)).mono ?_
        rintro e w3 ⟨v3, rfl, ho3, hb3⟩
        have hi3 : Ints (Lt w3.heap.size) w3 v3 l := ho3.slLt (fun _ => rfl)
        obtain ⟨_, _, rfl, -, -⟩ := id hi3.open1
        have hc3 := (hc2.below hb3).le hb3.size
        have HB3 := hid (below_after HB2.out hb3 (Nat.le_refl _))
        clear hb3
        have hs3 := HB3.out.size
        clear ho3 hc2
        go_wp2_with fail
        refine (HPL.out _ _ w3 hc3 hi3).mono ?_
        rintro e w4 ⟨v4, rfl, hi4, hb4⟩
        obtain ⟨pa4, pc4, rfl, -, ho4⟩ := id hi4.open1
        have HO4 := hid ho4
        clear ho4
        have HB4 := hid (below_after HB3.out hb4 (Nat.le_refl _))
        clear hb4
        have hs4 := HB4.out.size
        clear hi4 hc3 hi3
        have j0 := cell_of_row (HBOX.out w4 HB4.out) 0
        have j1 := cell_of_row (HBOX.out w4 HB4.out) 1
        have j2 := cell_of_row (HBOX.out w4 HB4.out) 2
        simp only [List.getElem?_toArray, List.getElem?_cons_zero, List.getElem?_cons_succ] at j0 j1 j2
        go_wp2_with fail
        refine (faultL_hid c HFA _ w.heap.size w4 (by omega) (HCE.out w4 HB4.out) HSM.out).mono ?_
        rintro e w5 ⟨rfl, hb5⟩
        have HB5 := hid (below_after HB4.out hb5 (Nat.le_refl _))
        have HC5 := hid hb5
        clear hb5
        have hs5 := HB5.out.size
        clear j0 j1 j2
        have j0 := cell_of_row (HBOX.out w5 HB5.out) 0
        have j1 := cell_of_row (HBOX.out w5 HB5.out) 1
        have j2 := cell_of_row (HBOX.out w5 HB5.out) 2
        simp only [List.getElem?_toArray, List.getElem?_cons_zero, List.getElem?_cons_succ] at j0 j1 j2
        go_wp2_with fail
        refine (CellarL_any c _ w.heap.size w5 (by omega) (HCE.out w5 HB5.out) HSM.out).mono ?_
        rintro e w6 ⟨v6, rfl, hc6, hb6⟩
        obtain ⟨_, _, _, _, _, _, rfl, -⟩ := id hc6.open
        have HB6 := hid (below_after HB5.out hb6 (Nat.le_refl _))
        have HC6 := hid (below_after HC5.out hb6 (Nat.le_refl _))
        clear hb6
        have hs6 := HB6.out.size
        clear j0 j1 j2
        go_wp2_with fail
        refine (check_hid c HFA _ _ w6 (Nat.le_refl _) hc6 HSM.out).mono ?_
        rintro e w7 ⟨rfl, hb7⟩
        have HB7 := hid (below_after HB6.out hb7 (Nat.le_refl _))
        have HC7 := hid (below_after HC6.out hb7 (Nat.le_refl _))
        clear hb7
        have hs7 := HB7.out.size
        clear hc6
        have j0 := cell_of_row (HBOX.out w7 HB7.out) 0
        have j1 := cell_of_row (HBOX.out w7 HB7.out) 1
        have j2 := cell_of_row (HBOX.out w7 HB7.out) 2
        simp only [List.getElem?_toArray, List.getElem?_cons_zero, List.getElem?_cons_succ] at j0 j1 j2
        go_wp2_with fail
        refine (CellarL_any c _ w.heap.size w7 (by omega) (HCE.out w7 HB7.out) HSM.out).mono ?_
        rintro e w8 ⟨v8, rfl, hc8, hb8⟩
        obtain ⟨_, _, _, _, _, _, rfl, -⟩ := id hc8.open
        have HB8 := hid (below_after HB7.out hb8 (Nat.le_refl _))
        have HC8 := hid (below_after HC7.out hb8 (Nat.le_refl _))
        clear hb8
        have hs8 := HB8.out.size
        clear j0 j1 j2
        go_wp2_with fail
        refine (list_any l _ w.heap.size w8 (by omega) (HIL.out w8 HB8.out) (by omega)).mono ?_
        rintro e w9 ⟨v9, rfl, ho9, hb9⟩
        have hi9 : Ints (Lt w9.heap.size) w9 v9 l := ho9.slLt (fun _ => rfl)
        obtain ⟨_, _, rfl, -, -⟩ := id hi9.open1
        have hc9 := (hc8.below hb9).le hb9.size
        have HB9 := hid (below_after HB8.out hb9 (Nat.le_refl _))
        have HC9 := hid (below_after HC8.out hb9 (Nat.le_refl _))
        clear hb9
        have hs9 := HB9.out.size
        clear ho9 hc8
        go_wp2_with fail
        refine (HPT.out _ _ w9 hc9 hi9).mono ?_
        rintro e w10 ⟨rfl, hb10⟩
        have HB10 := hid (below_after HB9.out hb10 (Nat.le_refl _))
        have HC10 := hid (below_after HC9.out hb10 (Nat.le_refl _))
        clear hb10
        have hs10 := HB10.out.size
        clear hc9 hi9
        go_wp2_with (go_at_call 20; refine (awake_any _).mono ?_; rintro e wz ⟨rfl, hbz⟩)
        go_ret
        exact ⟨rfl, hWb.trans ((below_after HB10.out hbz (Nat.le_refl _)).mono (by omega))⟩

end Go.Proofs.Ytjddcaimjofihaa
