/- The walk of the law CaskDecided; no condition. -/
import Derived.Test.YtjddcaimjofihaaXG
import Derived.Test.YtjddcaimjofihaaP5
import Derived.Test.YtjddcaimjofihaaTE
namespace Go.Proofs.Ytjddcaimjofihaa
open Go.RowKit Go.Shelf
set_option maxRecDepth 100000

theorem shorter_hidD {x : Bool} (a b : List Int) (HB : Hid (x = shorterB a b)) (va vb : Value) (n : Nat) (w : World) (h : Ints (Lt n) w va a) (g : Ints (Lt n) w vb b) (hn : n ≤ w.heap.size) (ha : a.length ≤ 1000) (hb : b.length ≤ 1000) :
    Calls Try.prog 46 #[va, vb] w fun e w' => e = .returned (.bool x) ∧ Below w.heap.size w w' := by
  rw [HB.out]; exact shorter_any a b va vb n w h g hn ha hb
theorem bitsL_len10 (b : Nat) : (bitsL b).length ≤ 10 := by
  have h := (bitsFrom_rises (digitsB b) 0).length
  have hd : (digitsB b).length = 10 := by simp [digitsB]
  unfold bitsL
  rcases h with h | h
  · rw [h]; simp
  · omega

set_option maxHeartbeats 16000000 in
theorem CaskDecided_walk (c : Ce) (v : Value) {w : World} (h : CeV (Lt w.heap.size) w v c) (a : Int) (ha0 : 0 ≤ a ∧ a ≤ 65535) (gr : Int) (hgr : 0 ≤ gr ∧ gr ≤ 255) (tr : Int) (htr : 0 ≤ tr ∧ tr ≤ 255) :
    Calls Try.prog 17 #[v, .int .u16 a, .int .u8 gr, .int .u8 tr] w (RetT w) := by
  have h' := h
  obtain ⟨ha, hc, ka, kc, ta, tc, rfl, hp1, hp2, hp3⟩ := h.open
  have HOP := hid (And.intro hp1 (And.intro hp2 hp3))
  clear hp1 hp2 hp3
  obtain ⟨W, hW⟩ : ∃ W, W = w.alloc (Obj.cells #[.slice ha c.heaps.length hc, .slice ka c.casks.length kc, .slice ta c.trials.length tc] 26) := ⟨_, rfl⟩
  have hWs : W.heap.size = w.heap.size + 1 := by rw [hW]; simp
  have hWb : Below w.heap.size w W := by rw [hW]; exact below_alloc1 (Nat.le_refl _) _
  have hWr : W.heap[w.heap.size]? = some (.cells #[.slice ha c.heaps.length hc, .slice ka c.casks.length kc, .slice ta c.trials.length tc] 26 (0, 0)) := by rw [hW]; exact heap_new _ _
  have HBOX := hid (fun w1 (hb : Below W.heap.size W w1) => (hb.block w.heap.size (by omega)).trans hWr : ∀ w1, Below W.heap.size W w1 → w1.heap[w.heap.size]? = _)
  have HCE := hid (fun w1 (hb : Below W.heap.size W w1) => h'.below (hWb.trans (hb.mono (by omega)) |>.mono (Nat.le_refl _)) : ∀ w1, Below W.heap.size W w1 → CeV (Lt _) w1 _ c)
  clear hWr h' h
  obtain ⟨rb, hrb⟩ : ∃ rb, rb = readyB c := ⟨_, rfl⟩
  have HRB := hid hrb
  clear hrb
  cases rb with
  | false =>
    go_enter Try.func17, Try.ntmps17
    go_wp2_with fail
    rw [← hW]
    clear hW
    refine (ready_hid c HRB _ w.heap.size W (by omega) (HCE.out W (Below.refl _ _))).mono ?_
    rintro e w1 ⟨rfl, hb1⟩
    have HB1 := hid hb1
    have hs1 := hb1.size
    clear hb1
    go_wp2_with (go_at_call 20; refine (awake_any _).mono ?_; rintro e wz ⟨rfl, hbz⟩)
    go_ret
    exact ⟨rfl, hWb.trans ((below_after HB1.out hbz (Nat.le_refl _)).mono (by omega))⟩
  | true =>
    have hf := ready_fault HRB.out.symm
    have hsm := thin_small (ready_thin HRB.out.symm)
    have hgood := (fault_good hf).1
    obtain ⟨⟨g1, g2, g3, g4⟩, -⟩ := hgood.facts
    have HF := hid hf
    have HSM := hid hsm
    have HGD := hid hgood
    obtain ⟨G, hG⟩ : ∃ G, G = gr % 101 := ⟨_, rfl⟩
    have hG0 : 0 ≤ G ∧ G ≤ 100 := by omega
    have hwG : within G 0 100 = true := within_iff.2 hG0
    have HGG := hid hG
    by_cases hT : truthsOf c [] = []
    · have HTR := hid ((truthsR_nil hf).2 hT)
      have hae : askErr c (within G 0 100) = 11 := by rw [hwG]; unfold askErr; simp [hf, hT]
      have HDE := hid (show ∀ (vc : Value) (n : Nat) (w : World), n ≤ w.heap.size → CeV (Lt n) w vc c → Calls Try.prog 69 #[vc, .int .i64 (gr % 101)] w (RetInts [] 11 w) from fun vc n w hn h => by rw [← hG, ← hae]; exact Decide_err c vc G n w hn h hsm (by rw [hae]; decide))
      clear hf hsm hgood hT hae hG hwG
      go_enter Try.func17, Try.ntmps17
      go_wp2_with fail
      rw [← hW]
      clear hW
      refine (ready_hid c HRB _ w.heap.size W (by omega) (HCE.out W (Below.refl _ _))).mono ?_
      rintro e w1 ⟨rfl, hb1⟩
      have HB1 := hid hb1
      have hs1 := hb1.size
      clear hb1
      have j0 := cell_of_row (HBOX.out w1 HB1.out) 0
      have j1 := cell_of_row (HBOX.out w1 HB1.out) 1
      have j2 := cell_of_row (HBOX.out w1 HB1.out) 2
      simp only [List.getElem?_toArray, List.getElem?_cons_zero, List.getElem?_cons_succ] at j0 j1 j2
      go_wp2_with fail
      refine (CellarL_any c _ w.heap.size w1 (by omega) (HCE.out w1 HB1.out) HSM.out).mono ?_
      rintro e w2 ⟨v2, rfl, hc2, hb2⟩
      have HB2 := hid (below_after HB1.out hb2 (Nat.le_refl _))
      have hs2 := HB2.out.size
      have hd2 := hb2.size
      clear hb2 j0 j1 j2
      obtain ⟨_, _, _, _, _, _, rfl, -⟩ := id hc2.open
      go_wp2_with fail
      refine (HDE.out _ _ w2 (Nat.le_refl _) hc2).mono ?_
      rintro e w3 ⟨v3, rfl, hi3, hb3⟩
      have HB3 := hid (below_after HB2.out hb3 (Nat.le_refl _))
      have hs3 := HB3.out.size
      have hd3 := hb3.size
      clear hb3
      obtain ⟨_, _, rfl, -, -⟩ := id hi3.open1
      clear hc2 hi3
      have j0 := cell_of_row (HBOX.out w3 HB3.out) 0
      have j1 := cell_of_row (HBOX.out w3 HB3.out) 1
      have j2 := cell_of_row (HBOX.out w3 HB3.out) 2
      simp only [List.getElem?_toArray, List.getElem?_cons_zero, List.getElem?_cons_succ] at j0 j1 j2
      go_wp2_with fail
      refine (truthsR_any c HF.out _ w.heap.size w3 (by omega) (HCE.out w3 HB3.out)).mono ?_
      rintro e w4 ⟨v4, rfl, ho4, hb4⟩
      have HB4 := hid (below_after HB3.out hb4 (Nat.le_refl _))
      have hs4 := HB4.out.size
      have hd4 := hb4.size
      clear hb4 j0 j1 j2
      rw [HTR.out] at ho4
      obtain ⟨_, _, rfl⟩ := ho4.open
      go_wp2_with (go_at_call 20; refine (awake_any _).mono ?_; rintro e wz ⟨rfl, hbz⟩)
      go_ret
      exact ⟨rfl, hWb.trans ((below_after HB4.out hbz (Nat.le_refl _)).mono (by omega))⟩
    · have hTR : truthsR c ≠ [] := fun h => hT ((truthsR_nil hf).1 h)
      have hae : askErr c (within G 0 100) = 0 := by rw [hwG]; unfold askErr; simp [hf, hT]
      obtain ⟨x, hx, hfew⟩ := decide_some c G
      have HDE := hid (show ∀ (vc : Value) (n : Nat) (w : World), n ≤ w.heap.size → CeV (Lt n) w vc c → Calls Try.prog 69 #[vc, .int .i64 (gr % 101)] w (RetInts x 0 w) from fun vc n w hn h => by rw [← hG]; exact Decide_ok c vc G n w hn h hsm hae x hx)
      have hrt : RisesTo ((c.heaps.length : Int) + c.casks.length) x x.length := rising_rises hfew.rises (by rw [Int.natCast_add])
      have hxl : x.length ≤ 6 := by rcases hfew.rises.length with h | h; rw [h]; simp; omega
      have HPD := hid (show ∀ (vc vt : Value) (n : Nat) (w : World), n ≤ w.heap.size → CeV (Lt n) w vc c → Ints (Lt n) w vt x → Calls Try.prog 73 #[vc, .int .i64 (gr % 101), vt] w (RetB true w) from fun vc vt n w hn h hv => by
        rw [← hG]
        exact proveDecide_go c vc G x vt n w hn h hsm hv (by omega) hae true (fun k hk hno => absurd (hrt k hk) hno) (fun _ => hfew.pass.symm))
      obtain ⟨N, hN⟩ : ∃ N, N = c.heaps.length + c.casks.length := ⟨_, rfl⟩
      have HN := hid hN
      obtain ⟨tv, rfl⟩ := Int.eq_ofNat_of_zero_le htr.1
      have htv : tv < 256 := by omega
      obtain ⟨d, hd⟩ : ∃ d, d = tv % 2 ^ N := ⟨_, rfl⟩
      have hdN : d < 2 ^ N := by rw [hd]; exact Nat.mod_lt _ (Nat.pow_pos (by omega))
      have hN6 : N ≤ 6 := by omega
      have hd64 : d < 64 := Nat.lt_of_lt_of_le hdN (Nat.pow_le_pow_right (by omega) hN6 : 2 ^ N ≤ 2 ^ 6)
      have HAN := hid (show bits BinOp.and IntKind.i64 (tv : Int) ((2 : Int) ^ N - 1) = (d : Int) by rw [hd]; exact and_ones ⟨N, by omega⟩ ⟨tv, htv⟩)
      have hdr := bitsL_rises (by omega) hdN
      obtain ⟨sb, hsb⟩ : ∃ sb, sb = shorterB (bitsL d) x := ⟨_, rfl⟩
      have hnd : sb = true → ¬ decP c G (bitsL d) = true := fun h1 h2 => by
        have := hfew.least _ (by rw [← hN]; exact hdr) h2
        rw [← hsb, h1] at this; cases this
      have HSB := hid hsb
      have HND := hid (fun (e : sb = true) (h : PairsTo c (truthsR c) G d (truthsR c).length 0) => hnd e (pairs_decide hf (by omega) h))
      have hfit := fun (l : List Int) (hl : l ∈ truthsR c) => fit_listed hgood (mem_truthsOf.1 ((mem_truthsR hf).1 hl)).1
      have htm : (truthsR c).length ≤ 100000 := by
        have h1 := truthsN_length c (manyR c).toNat
        have h2 : truthsR c = truthsN c (manyR c).toNat := rfl
        have h3 := (manyR_eq hf).2.1
        rw [h2]; omega
      have htk := fun (l : List Int) (hl : l ∈ truthsR c) => (mem_truthsR hf).1 hl
      have hxin : ∀ k ∈ x, 0 ≤ k ∧ k < c.heaps.length + c.casks.length := fun k hk => by
        have := hfew.rises.mem k hk; omega
      have HEX := hid (fun (t : List Int) (ht : t ∈ truthsOf c []) (hl : c.trials.length + x.length ≤ 5) => (And.intro (exact_fault hf ht hxin hl) (fun (i : Int) (h0 : 0 ≤ i) (h1 : i < c.casks.length) => exact_graded hf ht hxin (g := G) ((decS_spec c G x (truthsOf c [])).1 hfew.pass) h0 h1)))
      obtain ⟨T, hTT⟩ : ∃ T, T = truthsR c := ⟨_, rfl⟩
      rw [← hTT] at hTR hfit htm htk
      have HTT := hid hTT
      have HFIT := hid hfit
      have HTK := hid htk
      have HRT := hid hrt
      have HXIN := hid hxin
      have hTn : T.length ≠ 0 := fun h => hTR (List.length_eq_zero_iff.1 h)
      have hTp' : ((T.length : Int) == 0) = false := by rw [beq_eq_false_iff_ne]; omega
      have hTpos : (0 : Int) < (T.length : Int) := by omega
      obtain ⟨ti, hti⟩ := Int.eq_ofNat_of_zero_le (Int.emod_nonneg a (show (T.length : Int) ≠ 0 by omega))
      have htiL : ti < T.length := by have := Int.emod_lt_of_pos a hTpos; omega
      have HTI := hid hti
      have hbl := bitsL_len10 d
      obtain ⟨bl, hble⟩ : ∃ bl, bl = bitsL d := ⟨_, rfl⟩
      rw [← hble] at hbl
      have HBL := hid hble
      clear hf hsm hgood hT hae hG hwG hx hfew hrt hN hd hdN hdr hsb hnd hfit htk hxin hTT hTR hTn hti hble htr
      rw [← HBL.out] at HSB
      go_enter Try.func17, Try.ntmps17
      go_wp2_with fail
      rw [← hW]
      clear hW
      refine (ready_hid c HRB _ w.heap.size W (by omega) (HCE.out W (Below.refl _ _))).mono ?_
      rintro e w1 ⟨rfl, hb1⟩
      have HB1 := hid hb1
      have hs1 := hb1.size
      clear hb1
      have j0 := cell_of_row (HBOX.out w1 HB1.out) 0
      have j1 := cell_of_row (HBOX.out w1 HB1.out) 1
      have j2 := cell_of_row (HBOX.out w1 HB1.out) 2
      simp only [List.getElem?_toArray, List.getElem?_cons_zero, List.getElem?_cons_succ] at j0 j1 j2
      go_wp2_with fail
      refine (CellarL_any c _ w.heap.size w1 (by omega) (HCE.out w1 HB1.out) HSM.out).mono ?_
      rintro e w2 ⟨v2, rfl, hc2, hb2⟩
      have HB2 := hid (below_after HB1.out hb2 (Nat.le_refl _))
      have hs2 := HB2.out.size
      have hd2 := hb2.size
      clear hb2 j0 j1 j2
      obtain ⟨_, _, _, _, _, _, rfl, -⟩ := id hc2.open
      go_wp2_with fail
      refine (HDE.out _ _ w2 (Nat.le_refl _) hc2).mono ?_
      rintro e w3 ⟨v3, rfl, hi3, hb3⟩
      have HB3 := hid (below_after HB2.out hb3 (Nat.le_refl _))
      have hs3 := HB3.out.size
      have hd3 := hb3.size
      clear hb3
      obtain ⟨xa3, xc3, rfl, -, hxo⟩ := id hi3.open1
      have HXO := hid hxo
      have HI3 := hid hi3
      have HL3 := hid (Below.refl w3.heap.size w3)
      clear hc2 hi3 hxo
      have j0 := cell_of_row (HBOX.out w3 HB3.out) 0
      have j1 := cell_of_row (HBOX.out w3 HB3.out) 1
      have j2 := cell_of_row (HBOX.out w3 HB3.out) 2
      simp only [List.getElem?_toArray, List.getElem?_cons_zero, List.getElem?_cons_succ] at j0 j1 j2
      go_wp2_with fail
      refine (truthsR_any c HF.out _ w.heap.size w3 (by omega) (HCE.out w3 HB3.out)).mono ?_
      rintro e w4 ⟨v4, rfl, ho4, hb4⟩
      have HB4 := hid (below_after HB3.out hb4 (Nat.le_refl _))
      have hs4 := HB4.out.size
      have hd4 := hb4.size
      have HL4 := hid (below_after HL3.out hb4 (Nat.le_refl _))
      have zHL4 := HL4.out.size
      clear hb4 j0 j1 j2
      rw [← HTT.out] at ho4
      have hl4 := ho4.lss
      obtain ⟨la4, lc4, rfl, -, hlo⟩ := hl4.open
      have HLO := hid hlo
      have HL4' := hid (hl4.mono (S' := Lt w4.heap.size) fun b hb => hb.2)
      have HM4 := hid (Below.refl w4.heap.size w4)
      clear ho4 hl4 hlo
      have j0 := cell_of_row (HBOX.out w4 HB4.out) 0
      have j1 := cell_of_row (HBOX.out w4 HB4.out) 1
      have j2 := cell_of_row (HBOX.out w4 HB4.out) 2
      simp only [List.getElem?_toArray, List.getElem?_cons_zero, List.getElem?_cons_succ] at j0 j1 j2
      go_wp2_with fail
      refine (isThings_ok c HGD.out x (by omega) HRT.out _ _ w3.heap.size w4 (by omega) (((HCE.out w4 HB4.out)).le (by omega)) (HI3.out.below HL4.out)).mono ?_
      rintro e w5 ⟨v5, rfl, hb5⟩
      have HB5 := hid (below_after HB4.out hb5 (Nat.le_refl _))
      have hs5 := HB5.out.size
      have hd5 := hb5.size
      have HL5 := hid (below_after HL4.out hb5 (Nat.le_refl _))
      have zHL5 := HL5.out.size
      have HM5 := hid (below_after HM4.out hb5 (Nat.le_refl _))
      have zHM5 := HM5.out.size
      clear hb5 j0 j1 j2
      have j0 := cell_of_row (HBOX.out w5 HB5.out) 0
      have j1 := cell_of_row (HBOX.out w5 HB5.out) 1
      have j2 := cell_of_row (HBOX.out w5 HB5.out) 2
      simp only [List.getElem?_toArray, List.getElem?_cons_zero, List.getElem?_cons_succ] at j0 j1 j2
      go_wp2_with fail
      refine (things_hidE c HN (by omega) (by omega) _ w.heap.size w5 (HCE.out w5 HB5.out)).mono ?_
      rintro e w6 ⟨rfl, hb6⟩
      have HB6 := hid (below_after HB5.out hb6 (Nat.le_refl _))
      have hs6 := HB6.out.size
      have hd6 := hb6.size
      have HL6 := hid (below_after HL5.out hb6 (Nat.le_refl _))
      have zHL6 := HL6.out.size
      have HM6 := hid (below_after HM5.out hb6 (Nat.le_refl _))
      have zHM6 := HM6.out.size
      clear hb6 j0 j1 j2
      have hwN : IntKind.u64.wrap (N : Int) = N := by unfold IntKind.wrap; simp [IntKind.bits, IntKind.signed]; omega
      have hp64 : (2 : Int) ^ N ≤ 64 := by rcases (by omega : N = 0 ∨ N = 1 ∨ N = 2 ∨ N = 3 ∨ N = 4 ∨ N = 5 ∨ N = 6) with e | e | e | e | e | e | e <;> rw [e] <;> decide
      have hp1 : (1 : Int) ≤ 2 ^ N := by rcases (by omega : N = 0 ∨ N = 1 ∨ N = 2 ∨ N = 3 ∨ N = 4 ∨ N = 5 ∨ N = 6) with e | e | e | e | e | e | e <;> rw [e] <;> decide
      have hwP : ∀ P : Int, 1 ≤ P → P ≤ 64 → IntKind.i64.wrap (P - 1) = P - 1 := fun P h1 h2 => IntWalk.i64_in _ (by omega)
      have hw2 := hwP _ hp1 hp64
      have hwQ : ∀ P : Int, 1 ≤ P → P ≤ 64 → wrap64 P = P := fun P h1 h2 => by simp only [wrap64]; omega
      have hw1 := hwQ _ hp1 hp64
      clear hwP hwQ
      clear hp64 hp1
      have j0 := cell_of_row (HBOX.out w6 HB6.out) 0
      have j1 := cell_of_row (HBOX.out w6 HB6.out) 1
      have j2 := cell_of_row (HBOX.out w6 HB6.out) 2
      simp only [List.getElem?_toArray, List.getElem?_cons_zero, List.getElem?_cons_succ] at j0 j1 j2
      go_wp2_with fail
      rw [HAN.out]
      clear hw1 hw2 hwN
      refine (CellarL_any c _ w.heap.size w6 (by omega) (HCE.out w6 HB6.out) HSM.out).mono ?_
      rintro e w7 ⟨v7, rfl, hc7, hb7⟩
      have HB7 := hid (below_after HB6.out hb7 (Nat.le_refl _))
      have hs7 := HB7.out.size
      have hd7 := hb7.size
      have HL7 := hid (below_after HL6.out hb7 (Nat.le_refl _))
      have zHL7 := HL7.out.size
      have HM7 := hid (below_after HM6.out hb7 (Nat.le_refl _))
      have zHM7 := HM7.out.size
      clear hb7
      clear j0 j1 j2
      obtain ⟨_, _, _, _, _, _, rfl, -⟩ := id hc7.open
      go_wp2_with fail
      refine (list_any x _ w3.heap.size w7 (by omega) (HI3.out.below HL7.out) (by omega)).mono ?_
      rintro e w8 ⟨v8, rfl, ho8, hb8⟩
      have HB8 := hid (below_after HB7.out hb8 (Nat.le_refl _))
      have hs8 := HB8.out.size
      have hd8 := hb8.size
      have HL8 := hid (below_after HL7.out hb8 (Nat.le_refl _))
      have zHL8 := HL8.out.size
      have HM8 := hid (below_after HM7.out hb8 (Nat.le_refl _))
      have zHM8 := HM8.out.size
      have HI_8 := hid hb8
      clear hb8
      have hi8 : Ints (Lt w8.heap.size) w8 v8 x := ho8.slLt encI_length
      obtain ⟨_, _, rfl, -, -⟩ := id hi8.open1
      have hc8 := (hc7.below HI_8.out).le hd8
      go_wp2_with fail
      refine (HPD.out _ _ _ w8 (Nat.le_refl _) hc8 hi8).mono ?_
      rintro e w9 ⟨rfl, hb9⟩
      have HB9 := hid (below_after HB8.out hb9 (Nat.le_refl _))
      have hs9 := HB9.out.size
      have hd9 := hb9.size
      have HL9 := hid (below_after HL8.out hb9 (Nat.le_refl _))
      have zHL9 := HL9.out.size
      have HM9 := hid (below_after HM8.out hb9 (Nat.le_refl _))
      have zHM9 := HM9.out.size
      clear hb9
      clear hc7 ho8 hc8 hi8
      go_wp2_with fail
      refine (bits_any d (by omega) w9).mono ?_
      rintro e w10 ⟨v10, rfl, ho10, hb10⟩
      have HB10 := hid (below_after HB9.out hb10 (Nat.le_refl _))
      have hs10 := HB10.out.size
      have hd10 := hb10.size
      have HL10 := hid (below_after HL9.out hb10 (Nat.le_refl _))
      have zHL10 := HL10.out.size
      have HM10 := hid (below_after HM9.out hb10 (Nat.le_refl _))
      have zHM10 := HM10.out.size
      clear hb10
      have hi10 : Ints (Lt w10.heap.size) w10 v10 bl := by rw [HBL.out]; exact ho10.slLt (fun _ => rfl)
      obtain ⟨_, _, rfl, -, -⟩ := id hi10.open1
      go_wp2_with fail
      refine (shorter_hidD bl x HSB _ _ w10.heap.size w10 hi10 ((HI3.out.below HL10.out).le (by omega)) (Nat.le_refl _) (by omega) (by omega)).mono ?_
      rintro e w11 ⟨rfl, hb11⟩
      have HB11 := hid (below_after HB10.out hb11 (Nat.le_refl _))
      have hs11 := HB11.out.size
      have hd11 := hb11.size
      have HL11 := hid (below_after HL10.out hb11 (Nat.le_refl _))
      have zHL11 := HL11.out.size
      have HM11 := hid (below_after HM10.out hb11 (Nat.le_refl _))
      have zHM11 := HM11.out.size
      clear hb11
      clear ho10 hi10
      have hmod0 : 0 ≤ a % (T.length : Int) := Int.emod_nonneg _ (by omega)
      have hmod1 : a % (T.length : Int) < T.length := Int.emod_lt_of_pos _ hTpos
      cases sb with
      | false =>
        have j0 := cell_of_row (HBOX.out w11 HB11.out) 0
        have j1 := cell_of_row (HBOX.out w11 HB11.out) 1
        have j2 := cell_of_row (HBOX.out w11 HB11.out) 2
        simp only [List.getElem?_toArray, List.getElem?_cons_zero, List.getElem?_cons_succ] at j0 j1 j2
        by_cases h5 : 5 < c.trials.length + x.length
        · have h5' : (5 : Int) < (c.trials.length : Int) + (x.length : Int) := by omega
          go_wp2_with (go_at_call 20; refine (awake_any _).mono ?_; rintro e wz ⟨rfl, hbz⟩)
          go_ret
          exact ⟨rfl, hWb.trans ((below_after HB11.out hbz (Nat.le_refl _)).mono (by omega))⟩
        · have h5' : ¬ (5 : Int) < (c.trials.length : Int) + (x.length : Int) := by omega
          rcases HLO.out with hnil | ⟨bT, offT, rfl, hbT, hcT⟩
          · rw [hnil] at htiL; simp at htiL
          obtain ⟨tvv, yt, hxt⟩ := hcT ti htiL
          have HTIN := hid (HTK.out T[ti] (List.getElem_mem _))
          have HFT := hid (HFIT.out T[ti] (List.getElem_mem _))
          have hxt4 : Ints (Lt w4.heap.size) w4 tvv T[ti] := hxt.mono fun _ h => h.2
          have hbT' : bT < w4.heap.size := hbT.2
          have yt0 : w4.cell? ⟨bT, offT + (a % (T.length : Int)).toNat, none⟩ = some tvv := by rw [HTI.out]; exact yt
          have yt' := (HM11.out.cell (p := ⟨bT, offT + (a % (T.length : Int)).toNat, none⟩) hbT').trans yt0
          clear hcT yt hxt yt0
          generalize T[ti] = t at *
          obtain ⟨ta2, tc2, rfl, -, -⟩ := id hxt4.open1
          have HXT := hid hxt4
          clear hxt4
          have HEX2 := hid (HEX.out t HTIN.out (by omega))
          obtain ⟨Y, hY⟩ : ∃ Y, Y = w11.heap.size := ⟨_, rfl⟩
          obtain ⟨W2, hW2⟩ : ∃ W2, W2 = (w11.alloc (Obj.cells #[.slice ha c.heaps.length hc, .slice ka c.casks.length kc, .slice ta c.trials.length tc] 26)).alloc (Obj.cells #[] 68) := ⟨_, rfl⟩
          have hrY : W2.heap[w11.heap.size]? = some (.cells #[.slice ha c.heaps.length hc, .slice ka c.casks.length kc, .slice ta c.trials.length tc] 26 (0, 0)) := by rw [hW2, Below.heap_alloc _ _ _ (by simp)]; exact heap_new _ _
          have hs2W : W2.heap.size = w11.heap.size + 2 := by rw [hW2]; simp
          have hb2W : Below w11.heap.size w11 W2 := by rw [hW2]; exact below_alloc2 (Nat.le_refl _) _ _
          have HEMP := hid (show Own (w11.heap.size + 1) 68 4 encT4 W2 (.slice (some ⟨w11.heap.size + 1, 0, none⟩) 0 0) ([] : List Tl) by
            have := Own.empty (α := Tl) (base := w11.heap.size + 1) (e := 68) (sz := 4) (enc := encT4) (w11.alloc (Obj.cells #[.slice ha c.heaps.length hc, .slice ka c.casks.length kc, .slice ta c.trials.length tc] 26)) (by simp)
            simp only [World.size_alloc] at this
            rw [hW2]; exact this)
          have HTX := hid (show Sl 4 encT4 (Lt w.heap.size) W2 (.slice ta c.trials.length tc) c.trials by
            obtain ⟨_, _, _, _, _, _, he, -, -, h3⟩ := (HCE.out w11 HB11.out).open
            cases he
            exact h3.below (hb2W.mono (by omega)))
          have lw : w.heap.size < w11.heap.size := by omega
          have lw1 : w.heap.size < w11.heap.size + 1 := by omega
          have lw2 : w.heap.size < w11.heap.size + 1 + 1 := by omega
          have HRY := hid hrY
          have HB2W := hid hb2W
          clear hrY hb2W
          go_wp2_with (at_builtin; refine wpList_appendL encT4 rfl _ _ 24 rfl (w11.heap.size + 1) 68 _ 4 32 rtrials_under infoRTrial rfl (by decide) (fun _ => rfl) encT4_one _ [] rfl (by have := HEMP.out; rw [hW2] at this; exact this) _ _ c.trials rfl (by have := HTX.out; rw [hW2] at this; exact this) (by simp only [List.length_nil]; omega) (by decide) (by simp) ?_; intro vA wA hownA hgrA; rw [← hW2] at hgrA; rw [List.nil_append] at hownA; have HCA := hid (show Chg (fun b => b = w11.heap.size + 1) W2 wA from (chg_grown hgrA).mono (fun b h => by injection h with h; exact h.symm)); have hsA := hgrA.size; have hrA := (HCA.out.block w11.heap.size (by omega) (by omega)).trans HRY.out; have cA := cell_of_row hrA 2; have fA := frozen_of_row hrA 2; have HRA := hid hrA; simp only [List.getElem?_toArray, List.getElem?_cons_zero, List.getElem?_cons_succ] at cA; obtain ⟨aA, kA, hvA, -, -⟩ := hownA.slLt (fun _ => rfl); subst hvA; have HOA := hid hownA; clear hownA hgrA hrA)
          obtain ⟨wB, hwB⟩ : ∃ wB, wB = wA.setCell ⟨w11.heap.size, 2, none⟩ (.slice aA c.trials.length kA) := ⟨_, rfl⟩
          rw [← hwB]
          have hrB : wB.heap[w11.heap.size]? = some (.cells #[.slice ha c.heaps.length hc, .slice ka c.casks.length kc, .slice aA c.trials.length kA] 26 (0, 0)) := by rw [hwB]; simpa using row_set HRA.out 2 (.slice aA c.trials.length kA)
          have hoB : Own (w11.heap.size + 1) 68 4 encT4 wB (.slice aA c.trials.length kA) c.trials := by rw [hwB]; exact HOA.out.chg (setCell_chg (A := wA) (g := w11.heap.size) (i := 2) (.slice aA c.trials.length kA)) (fun bb hb => by omega)
          have hbB : Below w11.heap.size w11 wB := by
            rw [hwB]
            exact (HB2W.out.trans (HCA.out.below (n := w11.heap.size) (by omega) (fun b hb h => by omega))).setCell (p := ⟨w11.heap.size, 2, none⟩) (Nat.le_refl _) _
          have HSB2 := hid (And.intro hrB (And.intro hoB hbB))
          clear hwB hrB hoB hbB cA fA hsA HCA HOA HRA HEMP HTX HRY HB2W hW2 hs2W yt' j0 j1 j2
          go_loopw [18] (fun i wr => ∃ (k : Nat) (yv : Value), k ≤ x.length ∧ i = .int .i64 k ∧ wr.heap[w11.heap.size]? = some (.cells #[.slice ha c.heaps.length hc, .slice ka c.casks.length kc, yv] 26 (0, 0)) ∧ Own (w11.heap.size + 1) 68 4 encT4 wr yv (c.trials ++ (x.take k).map (exactT c t)) ∧ Below w11.heap.size w11 wr) (fun i _ => x.length - (intOf i).toNat)
          case atStart => exact ⟨0, _, by omega, rfl, HSB2.out.1, by simpa using HSB2.out.2.1, HSB2.out.2.2⟩
          case round =>
            obtain ⟨k, yv, hk, rfl, hrow, hown, hbr⟩ := hrel
            have HBr := hid (below_after HB11.out hbr (Nat.le_refl _))
            have HLr := hid (below_after HL11.out hbr (Nat.le_refl _))
            have HMr := hid (below_after HM11.out hbr (Nat.le_refl _))
            have HYr := hid hbr
            have hyr := hbr.size
            have hYl : w11.heap.size < wr.heap.size := (Array.getElem?_eq_some_iff.1 hrow).1
            have hll : (c.trials ++ (x.take k).map (exactT c t)).length = c.trials.length + k := by simp; omega
            obtain ⟨ya, yc, hyv, -, -⟩ := hown.slLt (fun _ => rfl)
            rw [hll] at hyv
            subst hyv
            have HROW := hid hrow
            have HOWN := hid hown
            have HOBL := hid hown.block
            have HLL := hid hll
            clear hbr hrow hown hll
            by_cases hlt : k < x.length
            · rcases HXO.out with hnil | ⟨bx, offx, rfl, hbx, hcx⟩
              · rw [hnil] at hlt; simp at hlt
              have hbx' : bx < w3.heap.size := hbx
              have y0 := (HLr.out.cell (p := ⟨bx, offx + k, none⟩) hbx').trans (hcx k hlt)
              have hin := HXIN.out x[k] (List.getElem_mem _)
              have HNX := hid (exact_take c t x k hlt)
              clear hcx
              generalize x[k] = xk at *
              obtain ⟨xn, rfl⟩ := Int.eq_ofNat_of_zero_le hin.1
              obtain ⟨z, hz⟩ : ∃ z, z = ofT c t (xn : Int) := ⟨_, rfl⟩
              have HZ := hid hz
              have HIN := hid hin
              clear hin
              obtain ⟨cbv, hcb⟩ : ∃ cbv, cbv = decide ((c.heaps.length : Int) ≤ (xn : Int)) := ⟨_, rfl⟩
              have HCB := hid hcb
              have HTE := hid (show exactT c t (xn : Int) = ⟨cbv, if cbv = true then (xn : Int) - c.heaps.length else xn, ⟨z, z⟩⟩ by rw [exactT, hcb, hz]; simp)
              clear hcb hz
              have j0 := cell_of_row (HBOX.out wr HBr.out) 0
              have j1 := cell_of_row (HBOX.out wr HBr.out) 1
              have j2 := cell_of_row (HBOX.out wr HBr.out) 2
              simp only [List.getElem?_toArray, List.getElem?_cons_zero, List.getElem?_cons_succ] at j0 j1 j2
              have hSS := hid (fun w' (h : Below wr.heap.size wr w') => ⟨(h.cell (p := ⟨w.heap.size, 0, none⟩) (by show w.heap.size < _; omega)).trans j0, (h.cell (p := ⟨w.heap.size, 1, none⟩) (by show w.heap.size < _; omega)).trans j1, (h.cell (p := ⟨w.heap.size, 2, none⟩) (by show w.heap.size < _; omega)).trans j2, (h.cell (p := ⟨bx, offx + k, none⟩) (by show bx < _; omega)).trans y0⟩ :
                ∀ w', Below wr.heap.size wr w' → w'.cell? ⟨w.heap.size, 0, none⟩ = some (.slice ha c.heaps.length hc) ∧ w'.cell? ⟨w.heap.size, 1, none⟩ = some (.slice ka c.casks.length kc) ∧ w'.cell? ⟨w.heap.size, 2, none⟩ = some (.slice ta c.trials.length tc) ∧ w'.cell? ⟨bx, offx + k, none⟩ = some (.int .i64 xn))
              go_wp2
              refine wp_region_grow (by kernel_rfl) 99 (fun w' => Below wr.heap.size wr w') ?_ ?_
              · exact (Below.refl _ _).drew
              have HG := fun (a b : World) (h : Below wr.heap.size wr a) (k : Below a.heap.size a b) => (h.trans (k.mono h.size) : Below wr.heap.size wr b)
              clear y0 j0 j1 j2
              refine wpG_take (i := 0) (v := .agg #[.slice ha c.heaps.length hc, .slice ka c.casks.length kc, .slice ta c.trials.length tc]) rfl rfl (by kernel_rfl) (by kernel_rfl) (by kernel_rfl) (by kernel_rfl) (fun _ _ _ h => h) (by rfl) (fun w' hS' => grow_value ?_ hS') ?_
              · have ⟨s0, s1, s2, s3⟩ := hSS.out _ hS'; go_simp
              try simp only [List.setIfInBounds_toArray, List.set_cons_zero, List.set_cons_succ]
              refine wpG_take (i := 1) (v := .slice ta2 t.length tc2) rfl rfl (by kernel_rfl) (by kernel_rfl) (by kernel_rfl) (by kernel_rfl) (fun _ _ _ h => h) (by rfl) (fun w' hS' => grow_value ?_ hS') ?_
              · go_simp
              try simp only [List.setIfInBounds_toArray, List.set_cons_zero, List.set_cons_succ]
              refine wpG_take (i := 2) (v := .slice (some ⟨bx, offx, none⟩) x.length xc3) rfl rfl (by kernel_rfl) (by kernel_rfl) (by kernel_rfl) (by kernel_rfl) (fun _ _ _ h => h) (by rfl) (fun w' hS' => grow_value ?_ hS') ?_
              · go_simp
              try simp only [List.setIfInBounds_toArray, List.set_cons_zero, List.set_cons_succ]
              refine wpG_take (i := 3) (v := .int .i64 k) rfl rfl (by kernel_rfl) (by kernel_rfl) (by kernel_rfl) (by kernel_rfl) (fun _ _ _ h => h) (by rfl) (fun w' hS' => grow_value ?_ hS') ?_
              · go_simp
              try simp only [List.setIfInBounds_toArray, List.set_cons_zero, List.set_cons_succ]
              refine wpG_take (i := 4) (v := .pointer (some ⟨bx, offx + k, none⟩)) rfl rfl (by kernel_rfl) (by kernel_rfl) (by kernel_rfl) (by kernel_rfl) (fun _ _ _ h => h) (by rfl) (fun w' hS' => grow_value ?_ hS') ?_
              · go_simp
              try simp only [List.setIfInBounds_toArray, List.set_cons_zero, List.set_cons_succ]
              refine wpG_take (i := 5) (v := .int .i64 xn) rfl rfl (by kernel_rfl) (by kernel_rfl) (by kernel_rfl) (by kernel_rfl) (fun _ _ _ h => h) (by rfl) (fun w' hS' => grow_value ?_ hS') ?_
              · have ⟨s0, s1, s2, s3⟩ := hSS.out _ hS'; go_simp
              try simp only [List.setIfInBounds_toArray, List.set_cons_zero, List.set_cons_succ]
              refine wpG_take (i := 6) (v := .int .i64 z) rfl rfl (by kernel_rfl) (by kernel_rfl) (by kernel_rfl) (by kernel_rfl) (fun _ _ _ h => h) (by rfl) (fun w' hS' => grow_make (f := 38) (args := #[.agg #[.slice ha c.heaps.length hc, .slice ka c.casks.length kc, .slice ta c.trials.length tc], .slice ta2 t.length tc2, .int .i64 xn]) ?_ hS' HG ?_) ?_
              · have ⟨s0, s1, s2, s3⟩ := hSS.out _ hS'; go_simp
              · have ⟨s0, s1, s2, s3⟩ := hSS.out _ hS'; exact ofR_hid c HGD.out t HFT.out xn HZ _ _ (by omega) HIN.out.2 w4.heap.size _ (by have := hS'.size; omega) ((HCE.out _ (HBr.out.trans (hS'.mono (by omega)))).le (by omega)) (HXT.out.below (HMr.out.trans (hS'.mono (by omega))))
              try simp only [List.setIfInBounds_toArray, List.set_cons_zero, List.set_cons_succ]
              refine wpG_take (i := 7) (v := .int .i64 z) rfl rfl (by kernel_rfl) (by kernel_rfl) (by kernel_rfl) (by kernel_rfl) (fun _ _ _ h => h) (by rfl) (fun w' hS' => grow_value ?_ hS') ?_
              · go_simp
              try simp only [List.setIfInBounds_toArray, List.set_cons_zero, List.set_cons_succ]
              refine wpG_done (by kernel_rfl) (fun w20 hq hbx20 => ?_) _
              have hy20 := hbx20.size
              have hSS2 := hid (fun w' (h : Below w20.heap.size w20 w') => hSS.out w' (hbx20.trans (h.mono hy20)) : ∀ w', Below w20.heap.size w20 w' → w'.cell? ⟨w.heap.size, 0, none⟩ = some (.slice ha c.heaps.length hc) ∧ w'.cell? ⟨w.heap.size, 1, none⟩ = some (.slice ka c.casks.length kc) ∧ w'.cell? ⟨w.heap.size, 2, none⟩ = some (.slice ta c.trials.length tc) ∧ w'.cell? ⟨bx, offx + k, none⟩ = some (.int .i64 xn))
              have HX20 := hid hbx20
              clear hSS HG hq hbx20
              go_wp2
              refine wp_region_grow (by kernel_rfl) 99 (fun w' => Below w20.heap.size w20 w') ?_ ?_
              · exact (Below.refl _ _).drew
              have HG := fun (a b : World) (h : Below w20.heap.size w20 a) (k : Below a.heap.size a b) => (h.trans (k.mono h.size) : Below w20.heap.size w20 b)
              refine wpG_take (i := 0) (v := .slice (some ⟨bx, offx, none⟩) x.length xc3) rfl rfl (by kernel_rfl) (by kernel_rfl) (by kernel_rfl) (by kernel_rfl) (fun _ _ _ h => h) (by rfl) (fun w' hS' => grow_value ?_ hS') ?_
              · go_simp
              try simp only [List.setIfInBounds_toArray, List.set_cons_zero, List.set_cons_succ]
              refine wpG_take (i := 1) (v := .int .i64 k) rfl rfl (by kernel_rfl) (by kernel_rfl) (by kernel_rfl) (by kernel_rfl) (fun _ _ _ h => h) (by rfl) (fun w' hS' => grow_value ?_ hS') ?_
              · go_simp
              try simp only [List.setIfInBounds_toArray, List.set_cons_zero, List.set_cons_succ]
              refine wpG_take (i := 2) (v := .pointer (some ⟨bx, offx + k, none⟩)) rfl rfl (by kernel_rfl) (by kernel_rfl) (by kernel_rfl) (by kernel_rfl) (fun _ _ _ h => h) (by rfl) (fun w' hS' => grow_value ?_ hS') ?_
              · go_simp
              try simp only [List.setIfInBounds_toArray, List.set_cons_zero, List.set_cons_succ]
              refine wpG_take (i := 3) (v := .int .i64 xn) rfl rfl (by kernel_rfl) (by kernel_rfl) (by kernel_rfl) (by kernel_rfl) (fun _ _ _ h => h) (by rfl) (fun w' hS' => grow_value ?_ hS') ?_
              · have ⟨s0, s1, s2, s3⟩ := hSS2.out _ hS'; go_simp
              try simp only [List.setIfInBounds_toArray, List.set_cons_zero, List.set_cons_succ]
              refine wpG_take (i := 4) (v := .pointer (some ⟨w.heap.size, 0, none⟩)) rfl rfl (by kernel_rfl) (by kernel_rfl) (by kernel_rfl) (by kernel_rfl) (fun _ _ _ h => h) (by rfl) (fun w' hS' => grow_value ?_ hS') ?_
              · go_simp
              try simp only [List.setIfInBounds_toArray, List.set_cons_zero, List.set_cons_succ]
              refine wpG_take (i := 5) (v := .slice ha c.heaps.length hc) rfl rfl (by kernel_rfl) (by kernel_rfl) (by kernel_rfl) (by kernel_rfl) (fun _ _ _ h => h) (by rfl) (fun w' hS' => grow_value ?_ hS') ?_
              · have ⟨s0, s1, s2, s3⟩ := hSS2.out _ hS'; go_simp
              try simp only [List.setIfInBounds_toArray, List.set_cons_zero, List.set_cons_succ]
              refine wpG_take (i := 6) (v := .int .i64 c.heaps.length) rfl rfl (by kernel_rfl) (by kernel_rfl) (by kernel_rfl) (by kernel_rfl) (fun _ _ _ h => h) (by rfl) (fun w' hS' => grow_value ?_ hS') ?_
              · go_simp
              try simp only [List.setIfInBounds_toArray, List.set_cons_zero, List.set_cons_succ]
              refine wpG_take (i := 7) (v := .bool cbv) rfl rfl (by kernel_rfl) (by kernel_rfl) (by kernel_rfl) (by kernel_rfl) (fun _ _ _ h => h) (by rfl) (fun w' hS' => grow_value ?_ hS') ?_
              · have ⟨s0, s1, s2, s3⟩ := hSS2.out _ hS'; go_simp; (rw [HCB.out]; exact decide_eq_decide.2 (by omega))
              try simp only [List.setIfInBounds_toArray, List.set_cons_zero, List.set_cons_succ]
              refine wpG_take (i := 8) (v := .slice (some ⟨bx, offx, none⟩) x.length xc3) rfl rfl (by kernel_rfl) (by kernel_rfl) (by kernel_rfl) (by kernel_rfl) (fun _ _ _ h => h) (by rfl) (fun w' hS' => grow_value ?_ hS') ?_
              · go_simp
              try simp only [List.setIfInBounds_toArray, List.set_cons_zero, List.set_cons_succ]
              refine wpG_take (i := 9) (v := .int .i64 k) rfl rfl (by kernel_rfl) (by kernel_rfl) (by kernel_rfl) (by kernel_rfl) (fun _ _ _ h => h) (by rfl) (fun w' hS' => grow_value ?_ hS') ?_
              · go_simp
              try simp only [List.setIfInBounds_toArray, List.set_cons_zero, List.set_cons_succ]
              refine wpG_take (i := 10) (v := .pointer (some ⟨bx, offx + k, none⟩)) rfl rfl (by kernel_rfl) (by kernel_rfl) (by kernel_rfl) (by kernel_rfl) (fun _ _ _ h => h) (by rfl) (fun w' hS' => grow_value ?_ hS') ?_
              · go_simp
              try simp only [List.setIfInBounds_toArray, List.set_cons_zero, List.set_cons_succ]
              refine wpG_take (i := 11) (v := .int .i64 xn) rfl rfl (by kernel_rfl) (by kernel_rfl) (by kernel_rfl) (by kernel_rfl) (fun _ _ _ h => h) (by rfl) (fun w' hS' => grow_value ?_ hS') ?_
              · have ⟨s0, s1, s2, s3⟩ := hSS2.out _ hS'; go_simp
              try simp only [List.setIfInBounds_toArray, List.set_cons_zero, List.set_cons_succ]
              refine wpG_take (i := 12) (v := .int .i64 z) rfl rfl (by kernel_rfl) (by kernel_rfl) (by kernel_rfl) (by kernel_rfl) (fun _ _ _ h => h) (by rfl) (fun w' hS' => grow_value ?_ hS') ?_
              · go_simp
              try simp only [List.setIfInBounds_toArray, List.set_cons_zero, List.set_cons_succ]
              refine wpG_take (i := 13) (v := .int .i64 z) rfl rfl (by kernel_rfl) (by kernel_rfl) (by kernel_rfl) (by kernel_rfl) (fun _ _ _ h => h) (by rfl) (fun w' hS' => grow_value ?_ hS') ?_
              · go_simp
              try simp only [List.setIfInBounds_toArray, List.set_cons_zero, List.set_cons_succ]
              refine wpG_take (i := 14) (v := .agg #[.int .i64 z, .int .i64 z]) rfl rfl (by kernel_rfl) (by kernel_rfl) (by kernel_rfl) (by kernel_rfl) (fun _ _ _ h => h) (by rfl) (fun w' hS' => grow_value ?_ hS') ?_
              · go_simp
              try simp only [List.setIfInBounds_toArray, List.set_cons_zero, List.set_cons_succ]
              refine wpG_take (i := 15) (v := .agg #[.bool cbv, .int .i64 xn, .int .i64 z, .int .i64 z]) rfl rfl (by kernel_rfl) (by kernel_rfl) (by kernel_rfl) (by kernel_rfl) (fun _ _ _ h => h) (by rfl) (fun w' hS' => grow_value ?_ hS') ?_
              · go_simp
              try simp only [List.setIfInBounds_toArray, List.set_cons_zero, List.set_cons_succ]
              refine wpG_only (i := 16) rfl (by rfl) (by kernel_rfl) (by rfl) (fun w21 hb21 hS21 => ?_)
              go_simp
              have hz21 := hS21.size
              have hS22 := hS21.alloc hz21 (Obj.cells #[.bool false, .int .i64 0, .int .i64 0, .int .i64 0] 68)
              have hr22 := heap_new w21 (Obj.cells #[.bool false, .int .i64 0, .int .i64 0, .int .i64 0] 68)
              have hs22 : (w21.alloc (Obj.cells #[.bool false, .int .i64 0, .int .i64 0, .int .i64 0] 68)).heap.size = w21.heap.size + 1 := by simp
              refine ⟨hS22, ?_⟩
              generalize w21.alloc (Obj.cells #[.bool false, .int .i64 0, .int .i64 0, .int .i64 0] 68) = w22 at *
              try simp only [List.setIfInBounds_toArray, List.set_cons_zero, List.set_cons_succ]
              refine wpG_only (i := 17) rfl (by rfl) (by kernel_rfl) (by rfl) (fun w23 hb23 hS23 => ?_)
              have hr23 := (hb23.block w21.heap.size (by omega)).trans hr22
              have c0 := cell_of_row hr23 0
              have c1 := cell_of_row hr23 1
              have c2 := cell_of_row hr23 2
              have c3 := cell_of_row hr23 3
              have f0 := frozen_of_row hr23 0
              have f1 := frozen_of_row hr23 1
              have f2 := frozen_of_row hr23 2
              have f3 := frozen_of_row hr23 3
              simp only [List.getElem?_toArray, List.getElem?_cons_zero, List.getElem?_cons_succ] at c0 c1 c2 c3
              have hr24 := row_set4 hr23 (.bool cbv) (.int .i64 xn) (.int .i64 z) (.int .i64 z)
              have hS24 := below_set4 hS23 (show w20.heap.size ≤ w21.heap.size from hz21) (.bool cbv) (.int .i64 xn) (.int .i64 z) (.int .i64 z)
              have HR24 := hid hr24
              have HS24 := hid hS24
              clear hr24 hS24 hr23
              go_simp
              refine ⟨HS24.out, ?_⟩
              have hr24 := HR24.out
              have hS24 := HS24.out
              clear HR24 HS24 c0 c1 c2 c3 f0 f1 f2 f3
              generalize ((((w23.setCell ⟨w21.heap.size, 0, none⟩ (.bool cbv)).setCell ⟨w21.heap.size, 1, none⟩ (.int .i64 xn)).setCell ⟨w21.heap.size, 2, none⟩ (.int .i64 z)).setCell ⟨w21.heap.size, 3, none⟩ (.int .i64 z)) = w24 at *
              try simp only [List.setIfInBounds_toArray, List.set_cons_zero, List.set_cons_succ]
              refine wpG_done (by kernel_rfl) (fun w25 hb25 hS25 => ?_) _
              have hlt24 : w21.heap.size < w24.heap.size := (Array.getElem?_eq_some_iff.1 hr24).1
              have hr25 := (hb25.block w21.heap.size hlt24).trans hr24
              have hB25 : Below wr.heap.size wr w25 := HX20.out.trans (hS25.mono hy20)
              have hz25 := hB25.size
              obtain ⟨s0, s1, s2, s3⟩ := hSS2.out _ hS25
              have e0 := cell_of_row hr25 0
              have e1 := cell_of_row hr25 1
              have e2 := cell_of_row hr25 2
              have e3 := cell_of_row hr25 3
              have g0 := frozen_of_row hr25 1
              have hry := (hB25.block w11.heap.size hYl).trans HROW.out
              have r2 := cell_of_row hry 2
              simp only [List.getElem?_toArray, List.getElem?_cons_zero, List.getElem?_cons_succ] at e0 e1 e2 e3 r2
              have hne1 : w11.heap.size ≠ w21.heap.size := by omega
              have hne2 : w.heap.size ≠ w21.heap.size := by omega
              have hlz : w21.heap.size < w25.heap.size := (Array.getElem?_eq_some_iff.1 hr25).1
              have HB25 := hid hB25
              have hwn : IntKind.i64.wrap ((xn : Int) - c.heaps.length) = (xn : Int) - c.heaps.length := IntWalk.i64_in _ (by have := HIN.out; omega)
              clear hSS2 HG hb25 hS25 hr25 hry hr24 hS24 hb23 hS23 hr22 hS22 hb21 hS21 hB25
              cases cbv with
              | true =>
                have HB26 := hid (show Below wr.heap.size wr (w25.setCell ⟨w21.heap.size, 1, none⟩ (.int .i64 ((xn : Int) - c.heaps.length))) by first | exact HB25.out | exact HB25.out.setCell (p := ⟨w21.heap.size, 1, none⟩) (by show wr.heap.size ≤ w21.heap.size; omega) _)
                have OWN27 := hid (HOWN.out.below (HB26.out.alloc HB26.out.size (Obj.cells #[.bool true, .int .i64 ((xn : Int) - c.heaps.length), .int .i64 z, .int .i64 z] 68)))
                have RY27 := hid (((HB26.out.alloc HB26.out.size (Obj.cells #[.bool true, .int .i64 ((xn : Int) - c.heaps.length), .int .i64 z, .int .i64 z] 68)).block w11.heap.size hYl).trans HROW.out)
                have hw26 := HB26.out.size
                have hsz26 : ((w25.setCell ⟨w21.heap.size, 1, none⟩ (.int .i64 ((xn : Int) - c.heaps.length)))).heap.size = w25.heap.size := by first | rfl | simp [World.setCell]
                have HNEW27 := hid (show ∀ (i : Nat) (u : Value), [Value.bool true, .int .i64 ((xn : Int) - c.heaps.length), .int .i64 z, .int .i64 z][i]? = some u → (((w25.setCell ⟨w21.heap.size, 1, none⟩ (.int .i64 ((xn : Int) - c.heaps.length)))).alloc (Obj.cells #[.bool true, .int .i64 ((xn : Int) - c.heaps.length), .int .i64 z, .int .i64 z] 68)).cell? ⟨w25.heap.size, i, none⟩ = some u from fun i u hu => by have h := cells_new ((w25.setCell ⟨w21.heap.size, 1, none⟩ (.int .i64 ((xn : Int) - c.heaps.length)))) [.bool true, .int .i64 ((xn : Int) - c.heaps.length), .int .i64 z, .int .i64 z] 68 i u hu; rw [hsz26] at h; exact h)
                go_wp2_with (at_builtin; refine wpList_append1 encT4 rfl _ _ 24 rfl (w11.heap.size + 1) 68 _ 4 32 rtrials_under infoRTrial rfl (by decide) (fun _ => rfl) encT4_one _ _ rfl OWN27.out w25.heap.size 1 ⟨true, ((xn : Int) - c.heaps.length), ⟨z, z⟩⟩ rfl HNEW27.out (by have := HLL.out; omega) (by decide) (by simp; omega) ?_; intro v28 w28 hown28 hgr28; obtain ⟨a28, k28, hv28, -, -⟩ := hown28.slLt (fun _ => rfl); obtain ⟨n28, hn28⟩ : ∃ n28, n28 = ((c.trials ++ (x.take k).map (exactT c t)) ++ [(⟨true, ((xn : Int) - c.heaps.length), ⟨z, z⟩⟩ : Tl)]).length := ⟨_, rfl⟩; rw [← hn28] at hv28; clear hn28; subst hv28; have HC28 := hid (chg_grown hgr28); have hs28 := hgr28.size; have hr28 := (HC28.out.block w11.heap.size (by simp; omega) (fun e => by have := HOBL.out _ e; omega)).trans RY27.out; have c28 := cell_of_row hr28 2; have f28 := frozen_of_row hr28 2; simp only [List.getElem?_toArray, List.getElem?_cons_zero, List.getElem?_cons_succ] at c28; have HR28 := hid hr28; have HO28 := hid hown28; clear hown28 hgr28 hr28)
                have HF29 := hid (And.intro (row_set HR28.out 2 (.slice a28 n28 k28)) (And.intro (HO28.out.chg (setCell_chg (A := w28) (g := w11.heap.size) (i := 2) (.slice a28 n28 k28)) (fun bb hb => by omega)) ((HYr.out.trans (((HB26.out.alloc HB26.out.size (Obj.cells #[.bool true, .int .i64 ((xn : Int) - c.heaps.length), .int .i64 z, .int .i64 z] 68)).mono hyr).trans (HC28.out.below (n := w11.heap.size) (by simp; omega) (fun b hb e => by have := HOBL.out _ e; omega)))).setCell (p := ⟨w11.heap.size, 2, none⟩) (Nat.le_refl _) (.slice a28 n28 k28))))
                clear c28 f28
                go_roundw
                case rel => exact ⟨k + 1, _, by omega, by go_num, by simpa using HF29.out.1, by rw [HNX.out, HTE.out, ← List.append_assoc]; exact HF29.out.2.1, HF29.out.2.2⟩
                case measure => simp [intOf]; omega
              | false =>
                have HB26 := hid (show Below wr.heap.size wr w25 by first | exact HB25.out | exact HB25.out.setCell (p := ⟨w21.heap.size, 1, none⟩) (by show wr.heap.size ≤ w21.heap.size; omega) _)
                have OWN27 := hid (HOWN.out.below (HB26.out.alloc HB26.out.size (Obj.cells #[.bool false, .int .i64 (xn : Int), .int .i64 z, .int .i64 z] 68)))
                have RY27 := hid (((HB26.out.alloc HB26.out.size (Obj.cells #[.bool false, .int .i64 (xn : Int), .int .i64 z, .int .i64 z] 68)).block w11.heap.size hYl).trans HROW.out)
                have hw26 := HB26.out.size
                have hsz26 : (w25).heap.size = w25.heap.size := by first | rfl | simp [World.setCell]
                have HNEW27 := hid (show ∀ (i : Nat) (u : Value), [Value.bool false, .int .i64 (xn : Int), .int .i64 z, .int .i64 z][i]? = some u → ((w25).alloc (Obj.cells #[.bool false, .int .i64 (xn : Int), .int .i64 z, .int .i64 z] 68)).cell? ⟨w25.heap.size, i, none⟩ = some u from fun i u hu => by have h := cells_new (w25) [.bool false, .int .i64 (xn : Int), .int .i64 z, .int .i64 z] 68 i u hu; rw [hsz26] at h; exact h)
                go_wp2_with (at_builtin; refine wpList_append1 encT4 rfl _ _ 24 rfl (w11.heap.size + 1) 68 _ 4 32 rtrials_under infoRTrial rfl (by decide) (fun _ => rfl) encT4_one _ _ rfl OWN27.out w25.heap.size 1 ⟨false, (xn : Int), ⟨z, z⟩⟩ rfl HNEW27.out (by have := HLL.out; omega) (by decide) (by simp; omega) ?_; intro v28 w28 hown28 hgr28; obtain ⟨a28, k28, hv28, -, -⟩ := hown28.slLt (fun _ => rfl); obtain ⟨n28, hn28⟩ : ∃ n28, n28 = ((c.trials ++ (x.take k).map (exactT c t)) ++ [(⟨false, (xn : Int), ⟨z, z⟩⟩ : Tl)]).length := ⟨_, rfl⟩; rw [← hn28] at hv28; clear hn28; subst hv28; have HC28 := hid (chg_grown hgr28); have hs28 := hgr28.size; have hr28 := (HC28.out.block w11.heap.size (by simp; omega) (fun e => by have := HOBL.out _ e; omega)).trans RY27.out; have c28 := cell_of_row hr28 2; have f28 := frozen_of_row hr28 2; simp only [List.getElem?_toArray, List.getElem?_cons_zero, List.getElem?_cons_succ] at c28; have HR28 := hid hr28; have HO28 := hid hown28; clear hown28 hgr28 hr28)
                have HF29 := hid (And.intro (row_set HR28.out 2 (.slice a28 n28 k28)) (And.intro (HO28.out.chg (setCell_chg (A := w28) (g := w11.heap.size) (i := 2) (.slice a28 n28 k28)) (fun bb hb => by omega)) ((HYr.out.trans (((HB26.out.alloc HB26.out.size (Obj.cells #[.bool false, .int .i64 (xn : Int), .int .i64 z, .int .i64 z] 68)).mono hyr).trans (HC28.out.below (n := w11.heap.size) (by simp; omega) (fun b hb e => by have := HOBL.out _ e; omega)))).setCell (p := ⟨w11.heap.size, 2, none⟩) (Nat.le_refl _) (.slice a28 n28 k28))))
                clear c28 f28
                go_roundw
                case rel => exact ⟨k + 1, _, by omega, by go_num, by simpa using HF29.out.1, by rw [HNX.out, HTE.out, ← List.append_assoc]; exact HF29.out.2.1, HF29.out.2.2⟩
                case measure => simp [intOf]; omega
            · have hke : k = x.length := by omega
              have hall := HOWN.out.slLt (fun _ => rfl)
              have hxe : c.trials ++ (x.take k).map (exactT c t) = (exactC c t x).trials := by rw [hke, List.take_length]; rfl
              rw [hxe] at hall
              have HCY := hid (show CeV (Lt wr.heap.size) wr (.agg #[.slice ha c.heaps.length hc, .slice ka c.casks.length kc, .slice ya (c.trials.length + k) yc]) (exactC c t x) by
                obtain ⟨_, _, _, he, i1, i2, -⟩ := (HCE.out wr HBr.out).le (show w.heap.size ≤ wr.heap.size by omega)
                cases he
                exact ⟨_, _, _, rfl, i1, i2, hall⟩)
              have HSMY := hid (show Small (exactC c t x) from ⟨HSM.out.heaps, HSM.out.casks, by show (c.trials ++ x.map (exactT c t)).length ≤ 1000; simp; omega, HSM.out.cask⟩)
              obtain ⟨wF, hwF⟩ : ∃ wF, wF = wr := ⟨_, rfl⟩
              have HBF := hid (show Below W.heap.size W wF by rw [hwF]; exact HBr.out)
              have HRF := hid (show wF.heap[w11.heap.size]? = some (.cells #[.slice ha c.heaps.length hc, .slice ka c.casks.length kc, .slice ya (c.trials.length + k) yc] 26 (0, 0)) by rw [hwF]; exact HROW.out)
              have hsF := HBF.out.size
              have hYF : w11.heap.size < wF.heap.size := by rw [hwF]; exact hYl
              rw [← hwF] at HCY
              clear hall hxe hke
              go_wp2
              rw [← hwF]
              clear hwF HBr HLr HMr HYr hyr hYl HROW HOWN HOBL HLL
              go_loopw [21] (fun i wr => ∃ q : Nat, q ≤ c.casks.length ∧ i = .int .i64 q ∧ Below wF.heap.size wF wr) (fun i _ => c.casks.length - (intOf i).toNat)
              case atStart => exact ⟨0, by omega, rfl, Below.refl _ _⟩
              case round =>
                obtain ⟨q, hq, rfl, hb2⟩ := hrel
                have HBr := hid (below_after HBF.out hb2 (Nat.le_refl _))
                have HR2 := hid hb2
                have hs2 := HBr.out.size
                have hs3 := hb2.size
                have hry := (hb2.block w11.heap.size hYF).trans HRF.out
                have r0 := cell_of_row hry 0
                have r1 := cell_of_row hry 1
                have r2 := cell_of_row hry 2
                simp only [List.getElem?_toArray, List.getElem?_cons_zero, List.getElem?_cons_succ] at r0 r1 r2
                clear hb2 hry
                have j0 := cell_of_row (HBOX.out wr HBr.out) 0
                have j1 := cell_of_row (HBOX.out wr HBr.out) 1
                have j2 := cell_of_row (HBOX.out wr HBr.out) 2
                simp only [List.getElem?_toArray, List.getElem?_cons_zero, List.getElem?_cons_succ] at j0 j1 j2
                by_cases hltq : q < c.casks.length
                · go_wp2_with fail
                  refine (CellarL_any (exactC c t x) _ wF.heap.size wr hs3 (HCY.out.below HR2.out) HSMY.out).mono ?_
                  rintro e w40 ⟨v40, rfl, hc40, hb40⟩
                  obtain ⟨_, _, _, _, _, _, rfl, -⟩ := id hc40.open
                  have HR40 := hid (HR2.out.trans (hb40.mono hs3))
                  have hs40 := HR40.out.size
                  obtain ⟨hTY, hgv⟩ := HEX2.out.2 q (by omega) (by omega)
                  have hgs := graded_some HEX2.out.1 hTY (k := (q : Int)) (g := G) ⟨by omega, by show (q : Int) < c.casks.length; omega⟩ hG0 HSMY.out _ w40.heap.size w40 (Nat.le_refl _) hc40
                  rw [HGG.out] at hgs hgv
                  have HGS := hid hgs
                  have HGV := hid hgv
                  clear hc40 hb40 hTY hgv hgs j0 j1 j2 r0 r1 r2
                  rcases HGV.out with hg1 | hg1
                  all_goals
                    have hgs := HGS.out
                    rw [hg1] at hgs
                    have HGS1 := hid hgs
                    clear hgs hg1
                    go_wp2_with fail
                    refine HGS1.out.mono ?_
                    rintro e w41 ⟨rfl, hb41⟩
                    have HR41 := hid (HR40.out.trans (hb41.mono hs40))
                    clear hb41
                    go_wp2
                    go_roundw
                    case rel => exact ⟨q + 1, by omega, by go_num, HR41.out⟩
                    case measure => simp [intOf]; omega
                · clear r0 r1 r2
                  go_wp2_with (go_at_call 20; refine (awake_any _).mono ?_; rintro e wz ⟨rfl, hbz⟩)
                  go_ret
                  exact ⟨rfl, hWb.trans ((below_after HBr.out hbz (Nat.le_refl _)).mono (by omega))⟩
      | true =>
        have j0 := cell_of_row (HBOX.out w11 HB11.out) 0
        have j1 := cell_of_row (HBOX.out w11 HB11.out) 1
        have j2 := cell_of_row (HBOX.out w11 HB11.out) 2
        simp only [List.getElem?_toArray, List.getElem?_cons_zero, List.getElem?_cons_succ] at j0 j1 j2
        go_wp2_with fail
        refine (decidesRf_any (b := false) c HGD.out T HFIT.out htm (gr % 101) d (by omega) (fun _ _ _ _ _ _ => rfl) (fun hp => (HND.out (by simp) (by rw [HGG.out, ← HTT.out]; exact hp)).elim) _ _ w11.heap.size w11 (Nat.le_refl _) ((HCE.out w11 HB11.out).le (by omega)) ((HL4'.out.below HM11.out).le (by omega))).mono ?_
        rintro e w12 ⟨rfl, hb12⟩
        have HB12 := hid (below_after HB11.out hb12 (Nat.le_refl _))
        have HL12 := hid (below_after HL11.out hb12 (Nat.le_refl _))
        have HM12 := hid (below_after HM11.out hb12 (Nat.le_refl _))
        have hs12 := HB12.out.size
        have zHL12 := HL12.out.size
        have zHM12 := HM12.out.size
        clear hb12 j0 j1 j2
        have j0 := cell_of_row (HBOX.out w12 HB12.out) 0
        have j1 := cell_of_row (HBOX.out w12 HB12.out) 1
        have j2 := cell_of_row (HBOX.out w12 HB12.out) 2
        simp only [List.getElem?_toArray, List.getElem?_cons_zero, List.getElem?_cons_succ] at j0 j1 j2
        by_cases h5 : 5 < c.trials.length + x.length
        · have h5' : (5 : Int) < (c.trials.length : Int) + (x.length : Int) := by omega
          go_wp2_with (go_at_call 20; refine (awake_any _).mono ?_; rintro e wz ⟨rfl, hbz⟩)
          go_ret
          exact ⟨rfl, hWb.trans ((below_after HB12.out hbz (Nat.le_refl _)).mono (by omega))⟩
        · have h5' : ¬ (5 : Int) < (c.trials.length : Int) + (x.length : Int) := by omega
          rcases HLO.out with hnil | ⟨bT, offT, rfl, hbT, hcT⟩
          · rw [hnil] at htiL; simp at htiL
          obtain ⟨tvv, yt, hxt⟩ := hcT ti htiL
          have HTIN := hid (HTK.out T[ti] (List.getElem_mem _))
          have HFT := hid (HFIT.out T[ti] (List.getElem_mem _))
          have hxt4 : Ints (Lt w4.heap.size) w4 tvv T[ti] := hxt.mono fun _ h => h.2
          have hbT' : bT < w4.heap.size := hbT.2
          have yt0 : w4.cell? ⟨bT, offT + (a % (T.length : Int)).toNat, none⟩ = some tvv := by rw [HTI.out]; exact yt
          have yt' := (HM12.out.cell (p := ⟨bT, offT + (a % (T.length : Int)).toNat, none⟩) hbT').trans yt0
          clear hcT yt hxt yt0
          generalize T[ti] = t at *
          obtain ⟨ta2, tc2, rfl, -, -⟩ := id hxt4.open1
          have HXT := hid hxt4
          clear hxt4
          have HEX2 := hid (HEX.out t HTIN.out (by omega))
          obtain ⟨Y, hY⟩ : ∃ Y, Y = w12.heap.size := ⟨_, rfl⟩
          obtain ⟨W2, hW2⟩ : ∃ W2, W2 = (w12.alloc (Obj.cells #[.slice ha c.heaps.length hc, .slice ka c.casks.length kc, .slice ta c.trials.length tc] 26)).alloc (Obj.cells #[] 68) := ⟨_, rfl⟩
          have hrY : W2.heap[w12.heap.size]? = some (.cells #[.slice ha c.heaps.length hc, .slice ka c.casks.length kc, .slice ta c.trials.length tc] 26 (0, 0)) := by rw [hW2, Below.heap_alloc _ _ _ (by simp)]; exact heap_new _ _
          have hs2W : W2.heap.size = w12.heap.size + 2 := by rw [hW2]; simp
          have hb2W : Below w12.heap.size w12 W2 := by rw [hW2]; exact below_alloc2 (Nat.le_refl _) _ _
          have HEMP := hid (show Own (w12.heap.size + 1) 68 4 encT4 W2 (.slice (some ⟨w12.heap.size + 1, 0, none⟩) 0 0) ([] : List Tl) by
            have := Own.empty (α := Tl) (base := w12.heap.size + 1) (e := 68) (sz := 4) (enc := encT4) (w12.alloc (Obj.cells #[.slice ha c.heaps.length hc, .slice ka c.casks.length kc, .slice ta c.trials.length tc] 26)) (by simp)
            simp only [World.size_alloc] at this
            rw [hW2]; exact this)
          have HTX := hid (show Sl 4 encT4 (Lt w.heap.size) W2 (.slice ta c.trials.length tc) c.trials by
            obtain ⟨_, _, _, _, _, _, he, -, -, h3⟩ := (HCE.out w12 HB12.out).open
            cases he
            exact h3.below (hb2W.mono (by omega)))
          have lw : w.heap.size < w12.heap.size := by omega
          have lw1 : w.heap.size < w12.heap.size + 1 := by omega
          have lw2 : w.heap.size < w12.heap.size + 1 + 1 := by omega
          have HRY := hid hrY
          have HB2W := hid hb2W
          clear hrY hb2W
          go_wp2_with (at_builtin; refine wpList_appendL encT4 rfl _ _ 24 rfl (w12.heap.size + 1) 68 _ 4 32 rtrials_under infoRTrial rfl (by decide) (fun _ => rfl) encT4_one _ [] rfl (by have := HEMP.out; rw [hW2] at this; exact this) _ _ c.trials rfl (by have := HTX.out; rw [hW2] at this; exact this) (by simp only [List.length_nil]; omega) (by decide) (by simp) ?_; intro vA wA hownA hgrA; rw [← hW2] at hgrA; rw [List.nil_append] at hownA; have HCA := hid (show Chg (fun b => b = w12.heap.size + 1) W2 wA from (chg_grown hgrA).mono (fun b h => by injection h with h; exact h.symm)); have hsA := hgrA.size; have hrA := (HCA.out.block w12.heap.size (by omega) (by omega)).trans HRY.out; have cA := cell_of_row hrA 2; have fA := frozen_of_row hrA 2; have HRA := hid hrA; simp only [List.getElem?_toArray, List.getElem?_cons_zero, List.getElem?_cons_succ] at cA; obtain ⟨aA, kA, hvA, -, -⟩ := hownA.slLt (fun _ => rfl); subst hvA; have HOA := hid hownA; clear hownA hgrA hrA)
          obtain ⟨wB, hwB⟩ : ∃ wB, wB = wA.setCell ⟨w12.heap.size, 2, none⟩ (.slice aA c.trials.length kA) := ⟨_, rfl⟩
          rw [← hwB]
          have hrB : wB.heap[w12.heap.size]? = some (.cells #[.slice ha c.heaps.length hc, .slice ka c.casks.length kc, .slice aA c.trials.length kA] 26 (0, 0)) := by rw [hwB]; simpa using row_set HRA.out 2 (.slice aA c.trials.length kA)
          have hoB : Own (w12.heap.size + 1) 68 4 encT4 wB (.slice aA c.trials.length kA) c.trials := by rw [hwB]; exact HOA.out.chg (setCell_chg (A := wA) (g := w12.heap.size) (i := 2) (.slice aA c.trials.length kA)) (fun bb hb => by omega)
          have hbB : Below w12.heap.size w12 wB := by
            rw [hwB]
            exact (HB2W.out.trans (HCA.out.below (n := w12.heap.size) (by omega) (fun b hb h => by omega))).setCell (p := ⟨w12.heap.size, 2, none⟩) (Nat.le_refl _) _
          have HSB2 := hid (And.intro hrB (And.intro hoB hbB))
          clear hwB hrB hoB hbB cA fA hsA HCA HOA HRA HEMP HTX HRY HB2W hW2 hs2W yt' j0 j1 j2
          go_loopw [18] (fun i wr => ∃ (k : Nat) (yv : Value), k ≤ x.length ∧ i = .int .i64 k ∧ wr.heap[w12.heap.size]? = some (.cells #[.slice ha c.heaps.length hc, .slice ka c.casks.length kc, yv] 26 (0, 0)) ∧ Own (w12.heap.size + 1) 68 4 encT4 wr yv (c.trials ++ (x.take k).map (exactT c t)) ∧ Below w12.heap.size w12 wr) (fun i _ => x.length - (intOf i).toNat)
          case atStart => exact ⟨0, _, by omega, rfl, HSB2.out.1, by simpa using HSB2.out.2.1, HSB2.out.2.2⟩
          case round =>
            obtain ⟨k, yv, hk, rfl, hrow, hown, hbr⟩ := hrel
            have HBr := hid (below_after HB12.out hbr (Nat.le_refl _))
            have HLr := hid (below_after HL12.out hbr (Nat.le_refl _))
            have HMr := hid (below_after HM12.out hbr (Nat.le_refl _))
            have HYr := hid hbr
            have hyr := hbr.size
            have hYl : w12.heap.size < wr.heap.size := (Array.getElem?_eq_some_iff.1 hrow).1
            have hll : (c.trials ++ (x.take k).map (exactT c t)).length = c.trials.length + k := by simp; omega
            obtain ⟨ya, yc, hyv, -, -⟩ := hown.slLt (fun _ => rfl)
            rw [hll] at hyv
            subst hyv
            have HROW := hid hrow
            have HOWN := hid hown
            have HOBL := hid hown.block
            have HLL := hid hll
            clear hbr hrow hown hll
            by_cases hlt : k < x.length
            · rcases HXO.out with hnil | ⟨bx, offx, rfl, hbx, hcx⟩
              · rw [hnil] at hlt; simp at hlt
              have hbx' : bx < w3.heap.size := hbx
              have y0 := (HLr.out.cell (p := ⟨bx, offx + k, none⟩) hbx').trans (hcx k hlt)
              have hin := HXIN.out x[k] (List.getElem_mem _)
              have HNX := hid (exact_take c t x k hlt)
              clear hcx
              generalize x[k] = xk at *
              obtain ⟨xn, rfl⟩ := Int.eq_ofNat_of_zero_le hin.1
              obtain ⟨z, hz⟩ : ∃ z, z = ofT c t (xn : Int) := ⟨_, rfl⟩
              have HZ := hid hz
              have HIN := hid hin
              clear hin
              obtain ⟨cbv, hcb⟩ : ∃ cbv, cbv = decide ((c.heaps.length : Int) ≤ (xn : Int)) := ⟨_, rfl⟩
              have HCB := hid hcb
              have HTE := hid (show exactT c t (xn : Int) = ⟨cbv, if cbv = true then (xn : Int) - c.heaps.length else xn, ⟨z, z⟩⟩ by rw [exactT, hcb, hz]; simp)
              clear hcb hz
              have j0 := cell_of_row (HBOX.out wr HBr.out) 0
              have j1 := cell_of_row (HBOX.out wr HBr.out) 1
              have j2 := cell_of_row (HBOX.out wr HBr.out) 2
              simp only [List.getElem?_toArray, List.getElem?_cons_zero, List.getElem?_cons_succ] at j0 j1 j2
              have hSS := hid (fun w' (h : Below wr.heap.size wr w') => ⟨(h.cell (p := ⟨w.heap.size, 0, none⟩) (by show w.heap.size < _; omega)).trans j0, (h.cell (p := ⟨w.heap.size, 1, none⟩) (by show w.heap.size < _; omega)).trans j1, (h.cell (p := ⟨w.heap.size, 2, none⟩) (by show w.heap.size < _; omega)).trans j2, (h.cell (p := ⟨bx, offx + k, none⟩) (by show bx < _; omega)).trans y0⟩ :
                ∀ w', Below wr.heap.size wr w' → w'.cell? ⟨w.heap.size, 0, none⟩ = some (.slice ha c.heaps.length hc) ∧ w'.cell? ⟨w.heap.size, 1, none⟩ = some (.slice ka c.casks.length kc) ∧ w'.cell? ⟨w.heap.size, 2, none⟩ = some (.slice ta c.trials.length tc) ∧ w'.cell? ⟨bx, offx + k, none⟩ = some (.int .i64 xn))
              go_wp2
              refine wp_region_grow (by kernel_rfl) 99 (fun w' => Below wr.heap.size wr w') ?_ ?_
              · exact (Below.refl _ _).drew
              have HG := fun (a b : World) (h : Below wr.heap.size wr a) (k : Below a.heap.size a b) => (h.trans (k.mono h.size) : Below wr.heap.size wr b)
              clear y0 j0 j1 j2
              refine wpG_take (i := 0) (v := .agg #[.slice ha c.heaps.length hc, .slice ka c.casks.length kc, .slice ta c.trials.length tc]) rfl rfl (by kernel_rfl) (by kernel_rfl) (by kernel_rfl) (by kernel_rfl) (fun _ _ _ h => h) (by rfl) (fun w' hS' => grow_value ?_ hS') ?_
              · have ⟨s0, s1, s2, s3⟩ := hSS.out _ hS'; go_simp
              try simp only [List.setIfInBounds_toArray, List.set_cons_zero, List.set_cons_succ]
              refine wpG_take (i := 1) (v := .slice ta2 t.length tc2) rfl rfl (by kernel_rfl) (by kernel_rfl) (by kernel_rfl) (by kernel_rfl) (fun _ _ _ h => h) (by rfl) (fun w' hS' => grow_value ?_ hS') ?_
              · go_simp
              try simp only [List.setIfInBounds_toArray, List.set_cons_zero, List.set_cons_succ]
              refine wpG_take (i := 2) (v := .slice (some ⟨bx, offx, none⟩) x.length xc3) rfl rfl (by kernel_rfl) (by kernel_rfl) (by kernel_rfl) (by kernel_rfl) (fun _ _ _ h => h) (by rfl) (fun w' hS' => grow_value ?_ hS') ?_
              · go_simp
              try simp only [List.setIfInBounds_toArray, List.set_cons_zero, List.set_cons_succ]
              refine wpG_take (i := 3) (v := .int .i64 k) rfl rfl (by kernel_rfl) (by kernel_rfl) (by kernel_rfl) (by kernel_rfl) (fun _ _ _ h => h) (by rfl) (fun w' hS' => grow_value ?_ hS') ?_
              · go_simp
              try simp only [List.setIfInBounds_toArray, List.set_cons_zero, List.set_cons_succ]
              refine wpG_take (i := 4) (v := .pointer (some ⟨bx, offx + k, none⟩)) rfl rfl (by kernel_rfl) (by kernel_rfl) (by kernel_rfl) (by kernel_rfl) (fun _ _ _ h => h) (by rfl) (fun w' hS' => grow_value ?_ hS') ?_
              · go_simp
              try simp only [List.setIfInBounds_toArray, List.set_cons_zero, List.set_cons_succ]
              refine wpG_take (i := 5) (v := .int .i64 xn) rfl rfl (by kernel_rfl) (by kernel_rfl) (by kernel_rfl) (by kernel_rfl) (fun _ _ _ h => h) (by rfl) (fun w' hS' => grow_value ?_ hS') ?_
              · have ⟨s0, s1, s2, s3⟩ := hSS.out _ hS'; go_simp
              try simp only [List.setIfInBounds_toArray, List.set_cons_zero, List.set_cons_succ]
              refine wpG_take (i := 6) (v := .int .i64 z) rfl rfl (by kernel_rfl) (by kernel_rfl) (by kernel_rfl) (by kernel_rfl) (fun _ _ _ h => h) (by rfl) (fun w' hS' => grow_make (f := 38) (args := #[.agg #[.slice ha c.heaps.length hc, .slice ka c.casks.length kc, .slice ta c.trials.length tc], .slice ta2 t.length tc2, .int .i64 xn]) ?_ hS' HG ?_) ?_
              · have ⟨s0, s1, s2, s3⟩ := hSS.out _ hS'; go_simp
              · have ⟨s0, s1, s2, s3⟩ := hSS.out _ hS'; exact ofR_hid c HGD.out t HFT.out xn HZ _ _ (by omega) HIN.out.2 w4.heap.size _ (by have := hS'.size; omega) ((HCE.out _ (HBr.out.trans (hS'.mono (by omega)))).le (by omega)) (HXT.out.below (HMr.out.trans (hS'.mono (by omega))))
              try simp only [List.setIfInBounds_toArray, List.set_cons_zero, List.set_cons_succ]
              refine wpG_take (i := 7) (v := .int .i64 z) rfl rfl (by kernel_rfl) (by kernel_rfl) (by kernel_rfl) (by kernel_rfl) (fun _ _ _ h => h) (by rfl) (fun w' hS' => grow_value ?_ hS') ?_
              · go_simp
              try simp only [List.setIfInBounds_toArray, List.set_cons_zero, List.set_cons_succ]
              refine wpG_done (by kernel_rfl) (fun w20 hq hbx20 => ?_) _
              have hy20 := hbx20.size
              have hSS2 := hid (fun w' (h : Below w20.heap.size w20 w') => hSS.out w' (hbx20.trans (h.mono hy20)) : ∀ w', Below w20.heap.size w20 w' → w'.cell? ⟨w.heap.size, 0, none⟩ = some (.slice ha c.heaps.length hc) ∧ w'.cell? ⟨w.heap.size, 1, none⟩ = some (.slice ka c.casks.length kc) ∧ w'.cell? ⟨w.heap.size, 2, none⟩ = some (.slice ta c.trials.length tc) ∧ w'.cell? ⟨bx, offx + k, none⟩ = some (.int .i64 xn))
              have HX20 := hid hbx20
              clear hSS HG hq hbx20
              go_wp2
              refine wp_region_grow (by kernel_rfl) 99 (fun w' => Below w20.heap.size w20 w') ?_ ?_
              · exact (Below.refl _ _).drew
              have HG := fun (a b : World) (h : Below w20.heap.size w20 a) (k : Below a.heap.size a b) => (h.trans (k.mono h.size) : Below w20.heap.size w20 b)
              refine wpG_take (i := 0) (v := .slice (some ⟨bx, offx, none⟩) x.length xc3) rfl rfl (by kernel_rfl) (by kernel_rfl) (by kernel_rfl) (by kernel_rfl) (fun _ _ _ h => h) (by rfl) (fun w' hS' => grow_value ?_ hS') ?_
              · go_simp
              try simp only [List.setIfInBounds_toArray, List.set_cons_zero, List.set_cons_succ]
              refine wpG_take (i := 1) (v := .int .i64 k) rfl rfl (by kernel_rfl) (by kernel_rfl) (by kernel_rfl) (by kernel_rfl) (fun _ _ _ h => h) (by rfl) (fun w' hS' => grow_value ?_ hS') ?_
              · go_simp
              try simp only [List.setIfInBounds_toArray, List.set_cons_zero, List.set_cons_succ]
              refine wpG_take (i := 2) (v := .pointer (some ⟨bx, offx + k, none⟩)) rfl rfl (by kernel_rfl) (by kernel_rfl) (by kernel_rfl) (by kernel_rfl) (fun _ _ _ h => h) (by rfl) (fun w' hS' => grow_value ?_ hS') ?_
              · go_simp
              try simp only [List.setIfInBounds_toArray, List.set_cons_zero, List.set_cons_succ]
              refine wpG_take (i := 3) (v := .int .i64 xn) rfl rfl (by kernel_rfl) (by kernel_rfl) (by kernel_rfl) (by kernel_rfl) (fun _ _ _ h => h) (by rfl) (fun w' hS' => grow_value ?_ hS') ?_
              · have ⟨s0, s1, s2, s3⟩ := hSS2.out _ hS'; go_simp
              try simp only [List.setIfInBounds_toArray, List.set_cons_zero, List.set_cons_succ]
              refine wpG_take (i := 4) (v := .pointer (some ⟨w.heap.size, 0, none⟩)) rfl rfl (by kernel_rfl) (by kernel_rfl) (by kernel_rfl) (by kernel_rfl) (fun _ _ _ h => h) (by rfl) (fun w' hS' => grow_value ?_ hS') ?_
              · go_simp
              try simp only [List.setIfInBounds_toArray, List.set_cons_zero, List.set_cons_succ]
              refine wpG_take (i := 5) (v := .slice ha c.heaps.length hc) rfl rfl (by kernel_rfl) (by kernel_rfl) (by kernel_rfl) (by kernel_rfl) (fun _ _ _ h => h) (by rfl) (fun w' hS' => grow_value ?_ hS') ?_
              · have ⟨s0, s1, s2, s3⟩ := hSS2.out _ hS'; go_simp
              try simp only [List.setIfInBounds_toArray, List.set_cons_zero, List.set_cons_succ]
              refine wpG_take (i := 6) (v := .int .i64 c.heaps.length) rfl rfl (by kernel_rfl) (by kernel_rfl) (by kernel_rfl) (by kernel_rfl) (fun _ _ _ h => h) (by rfl) (fun w' hS' => grow_value ?_ hS') ?_
              · go_simp
              try simp only [List.setIfInBounds_toArray, List.set_cons_zero, List.set_cons_succ]
              refine wpG_take (i := 7) (v := .bool cbv) rfl rfl (by kernel_rfl) (by kernel_rfl) (by kernel_rfl) (by kernel_rfl) (fun _ _ _ h => h) (by rfl) (fun w' hS' => grow_value ?_ hS') ?_
              · have ⟨s0, s1, s2, s3⟩ := hSS2.out _ hS'; go_simp; (rw [HCB.out]; exact decide_eq_decide.2 (by omega))
              try simp only [List.setIfInBounds_toArray, List.set_cons_zero, List.set_cons_succ]
              refine wpG_take (i := 8) (v := .slice (some ⟨bx, offx, none⟩) x.length xc3) rfl rfl (by kernel_rfl) (by kernel_rfl) (by kernel_rfl) (by kernel_rfl) (fun _ _ _ h => h) (by rfl) (fun w' hS' => grow_value ?_ hS') ?_
              · go_simp
              try simp only [List.setIfInBounds_toArray, List.set_cons_zero, List.set_cons_succ]
              refine wpG_take (i := 9) (v := .int .i64 k) rfl rfl (by kernel_rfl) (by kernel_rfl) (by kernel_rfl) (by kernel_rfl) (fun _ _ _ h => h) (by rfl) (fun w' hS' => grow_value ?_ hS') ?_
              · go_simp
              try simp only [List.setIfInBounds_toArray, List.set_cons_zero, List.set_cons_succ]
              refine wpG_take (i := 10) (v := .pointer (some ⟨bx, offx + k, none⟩)) rfl rfl (by kernel_rfl) (by kernel_rfl) (by kernel_rfl) (by kernel_rfl) (fun _ _ _ h => h) (by rfl) (fun w' hS' => grow_value ?_ hS') ?_
              · go_simp
              try simp only [List.setIfInBounds_toArray, List.set_cons_zero, List.set_cons_succ]
              refine wpG_take (i := 11) (v := .int .i64 xn) rfl rfl (by kernel_rfl) (by kernel_rfl) (by kernel_rfl) (by kernel_rfl) (fun _ _ _ h => h) (by rfl) (fun w' hS' => grow_value ?_ hS') ?_
              · have ⟨s0, s1, s2, s3⟩ := hSS2.out _ hS'; go_simp
              try simp only [List.setIfInBounds_toArray, List.set_cons_zero, List.set_cons_succ]
              refine wpG_take (i := 12) (v := .int .i64 z) rfl rfl (by kernel_rfl) (by kernel_rfl) (by kernel_rfl) (by kernel_rfl) (fun _ _ _ h => h) (by rfl) (fun w' hS' => grow_value ?_ hS') ?_
              · go_simp
              try simp only [List.setIfInBounds_toArray, List.set_cons_zero, List.set_cons_succ]
              refine wpG_take (i := 13) (v := .int .i64 z) rfl rfl (by kernel_rfl) (by kernel_rfl) (by kernel_rfl) (by kernel_rfl) (fun _ _ _ h => h) (by rfl) (fun w' hS' => grow_value ?_ hS') ?_
              · go_simp
              try simp only [List.setIfInBounds_toArray, List.set_cons_zero, List.set_cons_succ]
              refine wpG_take (i := 14) (v := .agg #[.int .i64 z, .int .i64 z]) rfl rfl (by kernel_rfl) (by kernel_rfl) (by kernel_rfl) (by kernel_rfl) (fun _ _ _ h => h) (by rfl) (fun w' hS' => grow_value ?_ hS') ?_
              · go_simp
              try simp only [List.setIfInBounds_toArray, List.set_cons_zero, List.set_cons_succ]
              refine wpG_take (i := 15) (v := .agg #[.bool cbv, .int .i64 xn, .int .i64 z, .int .i64 z]) rfl rfl (by kernel_rfl) (by kernel_rfl) (by kernel_rfl) (by kernel_rfl) (fun _ _ _ h => h) (by rfl) (fun w' hS' => grow_value ?_ hS') ?_
              · go_simp
              try simp only [List.setIfInBounds_toArray, List.set_cons_zero, List.set_cons_succ]
              refine wpG_only (i := 16) rfl (by rfl) (by kernel_rfl) (by rfl) (fun w21 hb21 hS21 => ?_)
              go_simp
              have hz21 := hS21.size
              have hS22 := hS21.alloc hz21 (Obj.cells #[.bool false, .int .i64 0, .int .i64 0, .int .i64 0] 68)
              have hr22 := heap_new w21 (Obj.cells #[.bool false, .int .i64 0, .int .i64 0, .int .i64 0] 68)
              have hs22 : (w21.alloc (Obj.cells #[.bool false, .int .i64 0, .int .i64 0, .int .i64 0] 68)).heap.size = w21.heap.size + 1 := by simp
              refine ⟨hS22, ?_⟩
              generalize w21.alloc (Obj.cells #[.bool false, .int .i64 0, .int .i64 0, .int .i64 0] 68) = w22 at *
              try simp only [List.setIfInBounds_toArray, List.set_cons_zero, List.set_cons_succ]
              refine wpG_only (i := 17) rfl (by rfl) (by kernel_rfl) (by rfl) (fun w23 hb23 hS23 => ?_)
              have hr23 := (hb23.block w21.heap.size (by omega)).trans hr22
              have c0 := cell_of_row hr23 0
              have c1 := cell_of_row hr23 1
              have c2 := cell_of_row hr23 2
              have c3 := cell_of_row hr23 3
              have f0 := frozen_of_row hr23 0
              have f1 := frozen_of_row hr23 1
              have f2 := frozen_of_row hr23 2
              have f3 := frozen_of_row hr23 3
              simp only [List.getElem?_toArray, List.getElem?_cons_zero, List.getElem?_cons_succ] at c0 c1 c2 c3
              have hr24 := row_set4 hr23 (.bool cbv) (.int .i64 xn) (.int .i64 z) (.int .i64 z)
              have hS24 := below_set4 hS23 (show w20.heap.size ≤ w21.heap.size from hz21) (.bool cbv) (.int .i64 xn) (.int .i64 z) (.int .i64 z)
              have HR24 := hid hr24
              have HS24 := hid hS24
              clear hr24 hS24 hr23
              go_simp
              refine ⟨HS24.out, ?_⟩
              have hr24 := HR24.out
              have hS24 := HS24.out
              clear HR24 HS24 c0 c1 c2 c3 f0 f1 f2 f3
              generalize ((((w23.setCell ⟨w21.heap.size, 0, none⟩ (.bool cbv)).setCell ⟨w21.heap.size, 1, none⟩ (.int .i64 xn)).setCell ⟨w21.heap.size, 2, none⟩ (.int .i64 z)).setCell ⟨w21.heap.size, 3, none⟩ (.int .i64 z)) = w24 at *
              try simp only [List.setIfInBounds_toArray, List.set_cons_zero, List.set_cons_succ]
              refine wpG_done (by kernel_rfl) (fun w25 hb25 hS25 => ?_) _
              have hlt24 : w21.heap.size < w24.heap.size := (Array.getElem?_eq_some_iff.1 hr24).1
              have hr25 := (hb25.block w21.heap.size hlt24).trans hr24
              have hB25 : Below wr.heap.size wr w25 := HX20.out.trans (hS25.mono hy20)
              have hz25 := hB25.size
              obtain ⟨s0, s1, s2, s3⟩ := hSS2.out _ hS25
              have e0 := cell_of_row hr25 0
              have e1 := cell_of_row hr25 1
              have e2 := cell_of_row hr25 2
              have e3 := cell_of_row hr25 3
              have g0 := frozen_of_row hr25 1
              have hry := (hB25.block w12.heap.size hYl).trans HROW.out
              have r2 := cell_of_row hry 2
              simp only [List.getElem?_toArray, List.getElem?_cons_zero, List.getElem?_cons_succ] at e0 e1 e2 e3 r2
              have hne1 : w12.heap.size ≠ w21.heap.size := by omega
              have hne2 : w.heap.size ≠ w21.heap.size := by omega
              have hlz : w21.heap.size < w25.heap.size := (Array.getElem?_eq_some_iff.1 hr25).1
              have HB25 := hid hB25
              have hwn : IntKind.i64.wrap ((xn : Int) - c.heaps.length) = (xn : Int) - c.heaps.length := IntWalk.i64_in _ (by have := HIN.out; omega)
              clear hSS2 HG hb25 hS25 hr25 hry hr24 hS24 hb23 hS23 hr22 hS22 hb21 hS21 hB25
              cases cbv with
              | true =>
                have HB26 := hid (show Below wr.heap.size wr (w25.setCell ⟨w21.heap.size, 1, none⟩ (.int .i64 ((xn : Int) - c.heaps.length))) by first | exact HB25.out | exact HB25.out.setCell (p := ⟨w21.heap.size, 1, none⟩) (by show wr.heap.size ≤ w21.heap.size; omega) _)
                have OWN27 := hid (HOWN.out.below (HB26.out.alloc HB26.out.size (Obj.cells #[.bool true, .int .i64 ((xn : Int) - c.heaps.length), .int .i64 z, .int .i64 z] 68)))
                have RY27 := hid (((HB26.out.alloc HB26.out.size (Obj.cells #[.bool true, .int .i64 ((xn : Int) - c.heaps.length), .int .i64 z, .int .i64 z] 68)).block w12.heap.size hYl).trans HROW.out)
                have hw26 := HB26.out.size
                have hsz26 : ((w25.setCell ⟨w21.heap.size, 1, none⟩ (.int .i64 ((xn : Int) - c.heaps.length)))).heap.size = w25.heap.size := by first | rfl | simp [World.setCell]
                have HNEW27 := hid (show ∀ (i : Nat) (u : Value), [Value.bool true, .int .i64 ((xn : Int) - c.heaps.length), .int .i64 z, .int .i64 z][i]? = some u → (((w25.setCell ⟨w21.heap.size, 1, none⟩ (.int .i64 ((xn : Int) - c.heaps.length)))).alloc (Obj.cells #[.bool true, .int .i64 ((xn : Int) - c.heaps.length), .int .i64 z, .int .i64 z] 68)).cell? ⟨w25.heap.size, i, none⟩ = some u from fun i u hu => by have h := cells_new ((w25.setCell ⟨w21.heap.size, 1, none⟩ (.int .i64 ((xn : Int) - c.heaps.length)))) [.bool true, .int .i64 ((xn : Int) - c.heaps.length), .int .i64 z, .int .i64 z] 68 i u hu; rw [hsz26] at h; exact h)
                go_wp2_with (at_builtin; refine wpList_append1 encT4 rfl _ _ 24 rfl (w12.heap.size + 1) 68 _ 4 32 rtrials_under infoRTrial rfl (by decide) (fun _ => rfl) encT4_one _ _ rfl OWN27.out w25.heap.size 1 ⟨true, ((xn : Int) - c.heaps.length), ⟨z, z⟩⟩ rfl HNEW27.out (by have := HLL.out; omega) (by decide) (by simp; omega) ?_; intro v28 w28 hown28 hgr28; obtain ⟨a28, k28, hv28, -, -⟩ := hown28.slLt (fun _ => rfl); obtain ⟨n28, hn28⟩ : ∃ n28, n28 = ((c.trials ++ (x.take k).map (exactT c t)) ++ [(⟨true, ((xn : Int) - c.heaps.length), ⟨z, z⟩⟩ : Tl)]).length := ⟨_, rfl⟩; rw [← hn28] at hv28; clear hn28; subst hv28; have HC28 := hid (chg_grown hgr28); have hs28 := hgr28.size; have hr28 := (HC28.out.block w12.heap.size (by simp; omega) (fun e => by have := HOBL.out _ e; omega)).trans RY27.out; have c28 := cell_of_row hr28 2; have f28 := frozen_of_row hr28 2; simp only [List.getElem?_toArray, List.getElem?_cons_zero, List.getElem?_cons_succ] at c28; have HR28 := hid hr28; have HO28 := hid hown28; clear hown28 hgr28 hr28)
                have HF29 := hid (And.intro (row_set HR28.out 2 (.slice a28 n28 k28)) (And.intro (HO28.out.chg (setCell_chg (A := w28) (g := w12.heap.size) (i := 2) (.slice a28 n28 k28)) (fun bb hb => by omega)) ((HYr.out.trans (((HB26.out.alloc HB26.out.size (Obj.cells #[.bool true, .int .i64 ((xn : Int) - c.heaps.length), .int .i64 z, .int .i64 z] 68)).mono hyr).trans (HC28.out.below (n := w12.heap.size) (by simp; omega) (fun b hb e => by have := HOBL.out _ e; omega)))).setCell (p := ⟨w12.heap.size, 2, none⟩) (Nat.le_refl _) (.slice a28 n28 k28))))
                clear c28 f28
                go_roundw
                case rel => exact ⟨k + 1, _, by omega, by go_num, by simpa using HF29.out.1, by rw [HNX.out, HTE.out, ← List.append_assoc]; exact HF29.out.2.1, HF29.out.2.2⟩
                case measure => simp [intOf]; omega
              | false =>
                have HB26 := hid (show Below wr.heap.size wr w25 by first | exact HB25.out | exact HB25.out.setCell (p := ⟨w21.heap.size, 1, none⟩) (by show wr.heap.size ≤ w21.heap.size; omega) _)
                have OWN27 := hid (HOWN.out.below (HB26.out.alloc HB26.out.size (Obj.cells #[.bool false, .int .i64 (xn : Int), .int .i64 z, .int .i64 z] 68)))
                have RY27 := hid (((HB26.out.alloc HB26.out.size (Obj.cells #[.bool false, .int .i64 (xn : Int), .int .i64 z, .int .i64 z] 68)).block w12.heap.size hYl).trans HROW.out)
                have hw26 := HB26.out.size
                have hsz26 : (w25).heap.size = w25.heap.size := by first | rfl | simp [World.setCell]
                have HNEW27 := hid (show ∀ (i : Nat) (u : Value), [Value.bool false, .int .i64 (xn : Int), .int .i64 z, .int .i64 z][i]? = some u → ((w25).alloc (Obj.cells #[.bool false, .int .i64 (xn : Int), .int .i64 z, .int .i64 z] 68)).cell? ⟨w25.heap.size, i, none⟩ = some u from fun i u hu => by have h := cells_new (w25) [.bool false, .int .i64 (xn : Int), .int .i64 z, .int .i64 z] 68 i u hu; rw [hsz26] at h; exact h)
                go_wp2_with (at_builtin; refine wpList_append1 encT4 rfl _ _ 24 rfl (w12.heap.size + 1) 68 _ 4 32 rtrials_under infoRTrial rfl (by decide) (fun _ => rfl) encT4_one _ _ rfl OWN27.out w25.heap.size 1 ⟨false, (xn : Int), ⟨z, z⟩⟩ rfl HNEW27.out (by have := HLL.out; omega) (by decide) (by simp; omega) ?_; intro v28 w28 hown28 hgr28; obtain ⟨a28, k28, hv28, -, -⟩ := hown28.slLt (fun _ => rfl); obtain ⟨n28, hn28⟩ : ∃ n28, n28 = ((c.trials ++ (x.take k).map (exactT c t)) ++ [(⟨false, (xn : Int), ⟨z, z⟩⟩ : Tl)]).length := ⟨_, rfl⟩; rw [← hn28] at hv28; clear hn28; subst hv28; have HC28 := hid (chg_grown hgr28); have hs28 := hgr28.size; have hr28 := (HC28.out.block w12.heap.size (by simp; omega) (fun e => by have := HOBL.out _ e; omega)).trans RY27.out; have c28 := cell_of_row hr28 2; have f28 := frozen_of_row hr28 2; simp only [List.getElem?_toArray, List.getElem?_cons_zero, List.getElem?_cons_succ] at c28; have HR28 := hid hr28; have HO28 := hid hown28; clear hown28 hgr28 hr28)
                have HF29 := hid (And.intro (row_set HR28.out 2 (.slice a28 n28 k28)) (And.intro (HO28.out.chg (setCell_chg (A := w28) (g := w12.heap.size) (i := 2) (.slice a28 n28 k28)) (fun bb hb => by omega)) ((HYr.out.trans (((HB26.out.alloc HB26.out.size (Obj.cells #[.bool false, .int .i64 (xn : Int), .int .i64 z, .int .i64 z] 68)).mono hyr).trans (HC28.out.below (n := w12.heap.size) (by simp; omega) (fun b hb e => by have := HOBL.out _ e; omega)))).setCell (p := ⟨w12.heap.size, 2, none⟩) (Nat.le_refl _) (.slice a28 n28 k28))))
                clear c28 f28
                go_roundw
                case rel => exact ⟨k + 1, _, by omega, by go_num, by simpa using HF29.out.1, by rw [HNX.out, HTE.out, ← List.append_assoc]; exact HF29.out.2.1, HF29.out.2.2⟩
                case measure => simp [intOf]; omega
            · have hke : k = x.length := by omega
              have hall := HOWN.out.slLt (fun _ => rfl)
              have hxe : c.trials ++ (x.take k).map (exactT c t) = (exactC c t x).trials := by rw [hke, List.take_length]; rfl
              rw [hxe] at hall
              have HCY := hid (show CeV (Lt wr.heap.size) wr (.agg #[.slice ha c.heaps.length hc, .slice ka c.casks.length kc, .slice ya (c.trials.length + k) yc]) (exactC c t x) by
                obtain ⟨_, _, _, he, i1, i2, -⟩ := (HCE.out wr HBr.out).le (show w.heap.size ≤ wr.heap.size by omega)
                cases he
                exact ⟨_, _, _, rfl, i1, i2, hall⟩)
              have HSMY := hid (show Small (exactC c t x) from ⟨HSM.out.heaps, HSM.out.casks, by show (c.trials ++ x.map (exactT c t)).length ≤ 1000; simp; omega, HSM.out.cask⟩)
              obtain ⟨wF, hwF⟩ : ∃ wF, wF = wr := ⟨_, rfl⟩
              have HBF := hid (show Below W.heap.size W wF by rw [hwF]; exact HBr.out)
              have HRF := hid (show wF.heap[w12.heap.size]? = some (.cells #[.slice ha c.heaps.length hc, .slice ka c.casks.length kc, .slice ya (c.trials.length + k) yc] 26 (0, 0)) by rw [hwF]; exact HROW.out)
              have hsF := HBF.out.size
              have hYF : w12.heap.size < wF.heap.size := by rw [hwF]; exact hYl
              rw [← hwF] at HCY
              clear hall hxe hke
              go_wp2
              rw [← hwF]
              clear hwF HBr HLr HMr HYr hyr hYl HROW HOWN HOBL HLL
              go_loopw [21] (fun i wr => ∃ q : Nat, q ≤ c.casks.length ∧ i = .int .i64 q ∧ Below wF.heap.size wF wr) (fun i _ => c.casks.length - (intOf i).toNat)
              case atStart => exact ⟨0, by omega, rfl, Below.refl _ _⟩
              case round =>
                obtain ⟨q, hq, rfl, hb2⟩ := hrel
                have HBr := hid (below_after HBF.out hb2 (Nat.le_refl _))
                have HR2 := hid hb2
                have hs2 := HBr.out.size
                have hs3 := hb2.size
                have hry := (hb2.block w12.heap.size hYF).trans HRF.out
                have r0 := cell_of_row hry 0
                have r1 := cell_of_row hry 1
                have r2 := cell_of_row hry 2
                simp only [List.getElem?_toArray, List.getElem?_cons_zero, List.getElem?_cons_succ] at r0 r1 r2
                clear hb2 hry
                have j0 := cell_of_row (HBOX.out wr HBr.out) 0
                have j1 := cell_of_row (HBOX.out wr HBr.out) 1
                have j2 := cell_of_row (HBOX.out wr HBr.out) 2
                simp only [List.getElem?_toArray, List.getElem?_cons_zero, List.getElem?_cons_succ] at j0 j1 j2
                by_cases hltq : q < c.casks.length
                · go_wp2_with fail
                  refine (CellarL_any (exactC c t x) _ wF.heap.size wr hs3 (HCY.out.below HR2.out) HSMY.out).mono ?_
                  rintro e w40 ⟨v40, rfl, hc40, hb40⟩
                  obtain ⟨_, _, _, _, _, _, rfl, -⟩ := id hc40.open
                  have HR40 := hid (HR2.out.trans (hb40.mono hs3))
                  have hs40 := HR40.out.size
                  obtain ⟨hTY, hgv⟩ := HEX2.out.2 q (by omega) (by omega)
                  have hgs := graded_some HEX2.out.1 hTY (k := (q : Int)) (g := G) ⟨by omega, by show (q : Int) < c.casks.length; omega⟩ hG0 HSMY.out _ w40.heap.size w40 (Nat.le_refl _) hc40
                  rw [HGG.out] at hgs hgv
                  have HGS := hid hgs
                  have HGV := hid hgv
                  clear hc40 hb40 hTY hgv hgs j0 j1 j2 r0 r1 r2
                  rcases HGV.out with hg1 | hg1
                  all_goals
                    have hgs := HGS.out
                    rw [hg1] at hgs
                    have HGS1 := hid hgs
                    clear hgs hg1
                    go_wp2_with fail
                    refine HGS1.out.mono ?_
                    rintro e w41 ⟨rfl, hb41⟩
                    have HR41 := hid (HR40.out.trans (hb41.mono hs40))
                    clear hb41
                    go_wp2
                    go_roundw
                    case rel => exact ⟨q + 1, by omega, by go_num, HR41.out⟩
                    case measure => simp [intOf]; omega
                · clear r0 r1 r2
                  go_wp2_with (go_at_call 20; refine (awake_any _).mono ?_; rintro e wz ⟨rfl, hbz⟩)
                  go_ret
                  exact ⟨rfl, hWb.trans ((below_after HBr.out hbz (Nat.le_refl _)).mono (by omega))⟩
end Go.Proofs.Ytjddcaimjofihaa
