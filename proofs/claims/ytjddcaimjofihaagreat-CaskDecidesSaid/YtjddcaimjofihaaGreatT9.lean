/- The contract of the reference's Decide; no condition. -/
import Derived.Test.YtjddcaimjofihaaGreatTF
namespace Go.Proofs.YtjddcaimjofihaaGreat
open Go.RowKit Go.Shelf
set_option maxRecDepth 100000

theorem decides_is {c : Ce} (hf : fault c = 0) {g : Int} {m : Nat} (hm : m < 2 ^ (c.heaps.length + c.casks.length)) {b : Bool} (hb : b = decP c g (bitsL m)) :
    (∀ (i k : Nat) (hi : i < (truthsR c).length) (hk : k < (truthsR c).length), k < i → otherB c g m (truthsR c)[i] (truthsR c)[k] = true → b = false) ∧ (PairsTo c (truthsR c) g m (truthsR c).length 0 → b = true) := by
  obtain ⟨⟨g1, g2, g3, -⟩, -⟩ := (fault_good hf).1.facts
  have hp : 2 ^ (c.heaps.length + c.casks.length) ≤ 2 ^ 6 := Nat.pow_le_pow_right (by omega) (by omega)
  refine ⟨fun i k hi hk _ ho => ?_, fun h => hb.trans (pairs_decide hf (by omega) h)⟩
  cases b with
  | false => rfl
  | true => rw [decide_pairs hf hm hb.symm i k hi hk] at ho; cases ho
theorem shorter_hid9 {x : Bool} (a b : List Int) (HB : Hid (x = shorterB a b)) (va vb : Value) (n : Nat) (w : World) (h : Ints (Lt n) w va a) (g : Ints (Lt n) w vb b) (hn : n ≤ w.heap.size) (ha : a.length ≤ 1000) (hb : b.length ≤ 1000) :
    Calls Tryz.prog 43 #[va, vb] w fun e w' => e = .returned (.bool x) ∧ Below w.heap.size w w' := by
  rw [HB.out]; exact shorter_any a b va vb n w h g hn ha hb
theorem bitsL_len9 (b : Nat) : (bitsL b).length ≤ 10 := by
  have h := (bitsFrom_rises (digitsB b) 0).length
  have hd : (digitsB b).length = 10 := by simp [digitsB]
  unfold bitsL
  rcases h with h | h
  · rw [h]; simp
  · omega
theorem bestR_len9 (p : Nat → Bool) (init : List Int) (hi : init.length ≤ 10) : ∀ N, (bestR p init N).length ≤ 10
  | 0 => by simpa [bestR] using hi
  | N + 1 => by
    rw [bestR_succ]
    split
    · exact bitsL_len9 N
    · exact bestR_len9 p init hi N

set_option maxHeartbeats 4000000 in
theorem decideRf_any (c : Ce) (hf : fault c = 0) (g : Int) (v vl : Value) (n : Nat) (w : World) (hn : n ≤ w.heap.size) (h : CeV (Lt n) w v c) (hl : Lss (Lt n) w vl (truthsR c)) :
    Calls Tryz.prog 16 #[v, vl, .int .i64 g] w (RetInts1 (decideR c g (c.heaps.length + c.casks.length)) w) := by
  have hgood := (fault_good hf).1
  obtain ⟨⟨g1, g2, g3, g4⟩, -⟩ := hgood.facts
  have hl' := hl
  obtain ⟨la, lc, rfl, -, -⟩ := hl.open
  have h' := h
  obtain ⟨ha, hc, ka, kc, ta, tc, rfl, hp1, hp2, hp3⟩ := h.open
  have HOP := hid (And.intro hp1 (And.intro hp2 hp3))
  clear hp1 hp2 hp3
  obtain ⟨W, hW⟩ : ∃ W, W = w.alloc (Obj.cells #[.slice ha c.heaps.length hc, .slice ka c.casks.length kc, .slice ta c.trials.length tc] 26) := ⟨_, rfl⟩
  have hWs : W.heap.size = w.heap.size + 1 := by rw [hW]; simp
  have hWb : Below w.heap.size w W := by rw [hW]; exact below_alloc1 (Nat.le_refl _) _
  have hWr : W.heap[w.heap.size]? = some (.cells #[.slice ha c.heaps.length hc, .slice ka c.casks.length kc, .slice ta c.trials.length tc] 26 (0, 0)) := by rw [hW]; exact heap_new _ _
  have HBOX := hid (fun w1 (hb : Below W.heap.size W w1) => (hb.block w.heap.size (by omega)).trans hWr : ∀ w1, Below W.heap.size W w1 → w1.heap[w.heap.size]? = _)
  have HCE := hid (fun w1 (hb : Below W.heap.size W w1) => h'.below (hWb.trans (hb.mono (by omega)) |>.mono hn) : ∀ w1, Below W.heap.size W w1 → CeV (Lt _) w1 _ c)
  clear hWr h' h
  have HLV := hid (fun w1 (hb : Below W.heap.size W w1) => hl'.below ((hWb.trans (hb.mono (by omega))).mono hn) : ∀ w1, Below W.heap.size W w1 → Lss (Lt n) w1 _ (truthsR c))
  have hfit := fun (l : List Int) (hl : l ∈ truthsR c) => fit_listed hgood (mem_truthsOf.1 ((mem_truthsR hf).1 hl)).1
  have htm : (truthsR c).length ≤ 100000 := by
    have h1 := truthsN_length c (manyR c).toNat
    have h2 : truthsR c = truthsN c (manyR c).toNat := rfl
    have h3 := (manyR_eq hf).2.1
    rw [h2]; omega
  obtain ⟨N, hN⟩ : ∃ N, N = c.heaps.length + c.casks.length := ⟨_, rfl⟩
  have HDI := hid (fun (m : Nat) (hm : m < 2 ^ N) (b : Bool) (hb : b = decP c g (bitsL m)) => decides_is hf (by rw [← hN]; exact hm) hb)
  rw [← hN]
  have HN := hid hN
  have hN6 : N ≤ 6 := by omega
  have HFIT := hid hfit
  have HGD := hid hgood
  have hwN : IntKind.u64.wrap (N : Int) = N := by unfold IntKind.wrap; simp [IntKind.bits, IntKind.signed]; omega
  obtain ⟨PN, hPN⟩ : ∃ PN : Nat, PN = 2 ^ N := ⟨_, rfl⟩
  have hPN64 : PN ≤ 64 := by
    have := Nat.pow_le_pow_right (show 0 < 2 by omega) hN6
    rw [← hPN] at this
    omega
  have hPN1 : 1 ≤ PN := by rw [hPN]; exact Nat.pow_pos (by omega)
  have hpi : (2 : Int) ^ N = (PN : Int) := by rw [hPN]; simp
  have HPI := hid hpi
  obtain ⟨Mx, hMx⟩ : ∃ Mx : Nat, Mx = PN - 1 := ⟨_, rfl⟩
  have HMX := hid (show (PN : Int) - 1 = (Mx : Int) by omega)
  have HDR := hid (show decideR c g N = bestR (fun b => decP c g (bitsL b)) (bitsL Mx) PN by rw [decideR, hMx, hPN])
  have HPN := hid hPN
  have hM64 : Mx < 64 := by omega
  have hp1 : (1 : Int) ≤ 2 ^ N := by rw [hpi]; omega
  have hp64 : (2 : Int) ^ N ≤ 64 := by rw [hpi]; omega
  have hwQ : ∀ P : Int, 1 ≤ P → P ≤ 64 → wrap64 P = P := fun P h1 h2 => by simp only [wrap64]; omega
  have hwP : ∀ P : Int, 1 ≤ P → P ≤ 64 → IntKind.i64.wrap (P - 1) = P - 1 := fun P h1 h2 => IntWalk.i64_in _ (by omega)
  have hw1 : wrap64 ((2 : Int) ^ N) = (2 : Int) ^ N := hwQ _ hp1 hp64
  have hw2 : IntKind.i64.wrap ((2 : Int) ^ N - 1) = (2 : Int) ^ N - 1 := hwP _ hp1 hp64
  clear hl hl' HOP hf hgood hfit hN hPN hMx hwQ hwP hpi hp1 hp64
  go_enter Tryz.func16, Tryz.ntmps16
  go_wp2_with fail
  rw [← hW]
  clear hW
  refine (things_hidE c HN (by omega) (by omega) _ n W (HCE.out W (Below.refl _ _))).mono ?_
  rintro e w1 ⟨rfl, hb1⟩
  have HB1 := hid hb1
  have hs1 := hb1.size
  clear hb1
  go_wp2_with fail
  rw [HPI.out, HMX.out]
  refine (bits_any Mx (by omega) w1).mono ?_
  rintro e w2 ⟨v2, rfl, ho2, hb2⟩
  have HB2 := hid (below_after HB1.out hb2 (Nat.le_refl _))
  have hs2 := HB2.out.size
  have hd2 := hb2.size
  clear hb2
  have hi2 : Ints (Lt w2.heap.size) w2 v2 (bitsL Mx) := ho2.slLt (fun _ => rfl)
  obtain ⟨pm, hpm⟩ : ∃ pm, pm = (bestR (fun b => decP c g (bitsL b)) (bitsL Mx) 0) := ⟨_, rfl⟩
  have hi2' : Ints (Lt w2.heap.size) w2 v2 pm := by rw [hpm]; exact hi2
  have HI2 := hid hi2'
  have HPM := hid hpm
  clear ho2 hi2 hi2' hpm
  go_wp2
  go_loopw [7, 8] (fun bv i wr => ∃ b : Nat, b ≤ PN ∧ i = .int .i64 b ∧ Hid (Ints (Lt wr.heap.size) wr bv (bestR (fun b => decP c g (bitsL b)) (bitsL Mx) b)) ∧ Below w2.heap.size w2 wr) (fun _ i _ => PN - (intOf i).toNat)
  case atStart => exact ⟨0, by omega, rfl, hid (by rw [← HPM.out]; exact HI2.out), Below.refl _ _⟩
  case round =>
    obtain ⟨b, hbM, rfl, HBI, hb3⟩ := hrel
    have HB3 := hid (below_after HB2.out hb3 (Nat.le_refl _))
    have hs3 := HB3.out.size
    have HE3 := hid hb3
    have hbl := bestR_len9 (fun b => decP c g (bitsL b)) (bitsL Mx) (bitsL_len9 Mx) b
    have HSU := hid (bestR_succ (fun b => decP c g (bitsL b)) (bitsL Mx) b)
    clear hb3
    obtain ⟨bl, hble⟩ : ∃ bl, bl = bestR (fun b => decP c g (bitsL b)) (bitsL Mx) b := ⟨_, rfl⟩
    rw [← hble] at hbl HBI HSU
    have HBE := hid hble
    clear hble
    obtain ⟨ba, bcap, rfl, -, -⟩ := id HBI.out.open1
    have j0 := cell_of_row (HBOX.out wr HB3.out) 0
    have j1 := cell_of_row (HBOX.out wr HB3.out) 1
    have j2 := cell_of_row (HBOX.out wr HB3.out) 2
    simp only [List.getElem?_toArray, List.getElem?_cons_zero, List.getElem?_cons_succ] at j0 j1 j2
    go_wp2_with fail
    refine (things_hidE c HN (by omega) (by omega) _ n wr (HCE.out wr HB3.out)).mono ?_
    rintro e w4 ⟨rfl, hb4⟩
    have HB4 := hid (below_after HB3.out hb4 (Nat.le_refl _))
    have HE4 := hid (below_after HE3.out hb4 (Nat.le_refl _))
    have HF4 := hid hb4
    have hs4 := HB4.out.size
    have hd4 := hb4.size
    clear hb4 j0 j1 j2
    by_cases hlt : b < PN
    · have hdd : decide ((b : Int) < (2 : Int) ^ N) = true := decide_eq_true (by rw [HPI.out]; omega)
      go_wp2_with fail
      refine (bits_any b (by omega) w4).mono ?_
      rintro e w5 ⟨v5, rfl, ho5, hb5⟩
      have hi5 : Ints (Lt w5.heap.size) w5 v5 (bitsL b) := ho5.slLt (fun _ => rfl)
      have HDB := hid (HDI.out b (by rw [← HPN.out]; exact hlt))
      obtain ⟨db, hdb⟩ : ∃ db, db = decP c g (bitsL b) := ⟨_, rfl⟩
      have HDD := hid hdb
      rw [← hdb] at HSU
      have HDB2 := hid (HDB.out db hdb)
      obtain ⟨pl, hpl⟩ : ∃ pl, pl = bitsL b := ⟨_, rfl⟩
      have hpll : pl.length ≤ 10 := by rw [hpl]; exact bitsL_len9 b
      rw [← hpl] at hi5 HSU
      obtain ⟨xa, xc, rfl, -, -⟩ := id hi5.open1
      have HI5 := hid hi5
      have HB5 := hid (below_after HB4.out hb5 (Nat.le_refl _))
      have HE5 := hid (below_after HE4.out hb5 (Nat.le_refl _))
      have HF5 := hid (below_after HF4.out hb5 (Nat.le_refl _))
      have HG5 := hid (Below.refl w5.heap.size w5)
      have hs5 := HB5.out.size
      have hd5 := hb5.size
      clear hb5 ho5 hi5 hpl hdb HDB
      obtain ⟨sb, hsb⟩ : ∃ sb, sb = shorterB pl bl := ⟨_, rfl⟩
      have HSB := hid hsb
      rw [← hsb] at HSU
      clear hsb
      go_wp2_with fail
      refine (shorter_hid9 pl bl HSB _ _ w5.heap.size w5 HI5.out ((HBI.out.below HF5.out).le (by omega)) (Nat.le_refl _) (by omega) (by omega)).mono ?_
      rintro e w6 ⟨rfl, hb6⟩
      have HB6 := hid (below_after HB5.out hb6 (Nat.le_refl _))
      have hs6 := HB6.out.size
      have hd6 := hb6.size
      have HE6 := hid (below_after HE5.out hb6 (Nat.le_refl _))
      have zHE6 := HE6.out.size
      have HF6 := hid (below_after HF5.out hb6 (Nat.le_refl _))
      have zHF6 := HF6.out.size
      have HG6 := hid (below_after HG5.out hb6 (Nat.le_refl _))
      have zHG6 := HG6.out.size
      clear hb6
      cases sb with
      | false =>
        go_wp2
        go_roundw
        case rel => exact ⟨b + 1, by omega, by go_num, hid (by rw [HSU.out]; simpa using (HBI.out.below HF6.out).le (by omega)), HE6.out⟩
        case measure => simp [intOf]; omega
      | true =>
        have j0 := cell_of_row (HBOX.out w6 HB6.out) 0
        have j1 := cell_of_row (HBOX.out w6 HB6.out) 1
        have j2 := cell_of_row (HBOX.out w6 HB6.out) 2
        simp only [List.getElem?_toArray, List.getElem?_cons_zero, List.getElem?_cons_succ] at j0 j1 j2
        go_wp2_with fail
        refine (decidesRf_any c HGD.out _ HFIT.out htm g b (by omega) HDB2.out.1 HDB2.out.2 _ _ n w6 (by omega) (HCE.out w6 HB6.out) (HLV.out w6 HB6.out)).mono ?_
        rintro e w7 ⟨rfl, hb7⟩
        have HB7 := hid (below_after HB6.out hb7 (Nat.le_refl _))
        have hs7 := HB7.out.size
        have hd7 := hb7.size
        have HE7 := hid (below_after HE6.out hb7 (Nat.le_refl _))
        have zHE7 := HE7.out.size
        have HF7 := hid (below_after HF6.out hb7 (Nat.le_refl _))
        have zHF7 := HF7.out.size
        have HG7 := hid (below_after HG6.out hb7 (Nat.le_refl _))
        have zHG7 := HG7.out.size
        clear hb7 j0 j1 j2
        cases db with
        | false =>
          go_wp2
          go_roundw
          case rel => exact ⟨b + 1, by omega, by go_num, hid (by rw [HSU.out]; simpa using (HBI.out.below HF7.out).le (by omega)), HE7.out⟩
          case measure => simp [intOf]; omega
        | true =>
          go_wp2
          go_roundw
          case rel => exact ⟨b + 1, by omega, by go_num, hid (by rw [HSU.out]; simpa using (HI5.out.below HG7.out).le (by omega)), HE7.out⟩
          case measure => simp [intOf]; omega
    · have hdd : decide ((b : Int) < (2 : Int) ^ N) = false := decide_eq_false (by rw [HPI.out]; omega)
      have hbe : b = PN := by omega
      have HFINAL := hid (show bl = decideR c g N by rw [HBE.out, HDR.out, hbe])
      clear hbe
      go_wp2
      go_ret
      rw [← HFINAL.out]
      exact ⟨_, rfl, (HBI.out.below HF4.out).le (by omega), hWb.trans (HB4.out.mono (by omega))⟩
end Go.Proofs.YtjddcaimjofihaaGreat
