/- Contracts of the reference's Can, First and Leave; no condition. -/
import Derived.Test.YtjddcaimjofihaaT5
namespace Go.Proofs.Ytjddcaimjofihaa
open Go.RowKit Go.Shelf
set_option maxRecDepth 100000

def castL (l : List Nat) : List Int := l.map fun n : Nat => (n : Int)
theorem castL_length (l : List Nat) : (castL l).length = l.length := by simp [castL]
theorem can_any {b : Bool} (l : List Nat) (hl : ∀ a ∈ l, a < 32) (hll : l.length ≤ 100000) (t : Nat) (ht : t < 32) (ti : Int) (hti : ti = t) (HB : Hid (b = canR l t)) (v : Value) (n : Nat) (w : World) (_ : n ≤ w.heap.size) (h : Ints (Lt n) w v (castL l)) :
    Calls Try.prog 91 #[v, .int .i64 ti] w fun e w' => e = .returned (.bool b) ∧ Below w.heap.size w w' := by
  subst hti
  obtain ⟨la, lc, rfl, -, hlo⟩ := h.open1
  have HLO := hid hlo
  have HLN := hid (castL_length l)
  obtain ⟨N, hN⟩ : ∃ N, N = (castL l).length := ⟨_, rfl⟩
  rw [← hN] at HLN ⊢
  have HN := hid hN
  have HTK := hid (fun k (hk : k < l.length) => (by rw [List.take_succ_eq_append_getElem hk, List.any_append]; simp : (l.take (k + 1)).any (fun a => (a &&& t) == t) = ((l.take k).any (fun a => (a &&& t) == t) || ((l[k] &&& t) == t))))
  have HLT := hid hl
  have HTT := hid ht
  have HLL := hid hll
  have hN5 : N ≤ 100000 := by have := HLN.out; omega
  clear hN hlo h hl ht hll
  go_enter Try.func91, Try.ntmps91
  go_wp2
  go_loopw [5] (fun i wr => ∃ k : Nat, k ≤ N ∧ i = .int .i64 k ∧ Hid ((l.take k).any (fun a => (a &&& t) == t) = false) ∧ Below w.heap.size w wr) (fun i _ => N - (intOf i).toNat)
  case atStart => exact ⟨0, by omega, rfl, hid (by simp), Below.refl _ _⟩
  case round =>
    obtain ⟨k, hk, rfl, HI, hb⟩ := hrel
    have HBr := hid hb
    by_cases hlt : k < N
    · have hkc : k < (castL l).length := by rw [← HN.out]; exact hlt
      have hkl : k < l.length := by have := HLN.out; omega
      rcases HLO.out with hnil | ⟨b1, off, rfl, hbn, hcc⟩
      · rw [hnil] at hkc; simp at hkc
      have y0 := hcc k hkc
      have hel : (castL l)[k] = (l[k] : Int) := by simp [castL]
      rw [hel] at y0
      have hx32 := HLT.out l[k] (List.getElem_mem _)
      have HAC := hid (show (bits BinOp.and IntKind.i64 (l[k] : Int) (t : Int) == (t : Int)) = ((l[k] &&& t) == t) from and_can ⟨l[k], hx32⟩ ⟨t, HTT.out⟩)
      have HK := hid (HTK.out k hkl)
      have hbn' : b1 < n := hbn
      have z0 := (hb.cell (p := ⟨b1, off + k, none⟩) (by show b1 < _; omega)).trans y0
      clear hcc hel hx32 y0 hb
      generalize l[k] = x at *
      cases e : ((x &&& t) == t) with
      | true =>
        have hac := HAC.out.trans e
        have HE := hid (show canR l t = true by
          have h1 := HK.out
          rw [e, Bool.or_true] at h1
          unfold canR
          rw [List.any_eq_true] at h1 ⊢
          obtain ⟨y, hy, hy2⟩ := h1
          exact ⟨y, List.mem_of_mem_take hy, hy2⟩)
        clear e
        go_wp2
        go_ret
        exact ⟨ret_bool (by rw [HB.out, HE.out]), HBr.out⟩
      | false =>
        have hac := HAC.out.trans e
        have HE := hid (show (l.take (k + 1)).any (fun a => (a &&& t) == t) = false by rw [HK.out, HI.out, e]; rfl)
        clear e
        go_wp2
        go_roundw
        case rel => exact ⟨k + 1, by omega, by go_num, HE, HBr.out⟩
        case measure => simp [intOf]; omega
    · have HE := hid (show canR l t = false by
        have h1 := HI.out
        rw [List.take_of_length_le (by have := HLN.out; omega)] at h1
        exact h1)
      go_wp2
      go_ret
      exact ⟨ret_bool (by rw [HB.out, HE.out]), HBr.out⟩

/-- The first wrong trial, as the reference tells it. -/
def firstZ (r : Option Nat) : Int := match r with | some k => k | none => -1
set_option maxHeartbeats 2000000 in
theorem firstRf_any (c : Ce) (hf : fault c = 0) (v vl : Value) (n : Nat) (w : World) (hn : n ≤ w.heap.size) (h : CeV (Lt n) w v c) (hl : Ints (Lt n) w vl (castL (allR c))) (hll : (allR c).length ≤ 100000) :
    Calls Try.prog 34 #[v, vl] w fun e w' => e = .returned (.int .i64 (firstZ (firstR c))) ∧ Below w.heap.size w w' := by
  obtain ⟨⟨g1, g2, g3, g4⟩, -⟩ := (fault_good hf).1.facts
  have hl' := hl
  obtain ⟨la, lc, rfl, -, -⟩ := hl.open1
  have h' := h
  obtain ⟨ha, hc, ka, kc, ta, tc, rfl, hp1, hp2, hp3⟩ := h.open
  have HOP := hid (And.intro hp1 (And.intro hp2 hp3))
  clear hp1 hp2 hp3
  obtain ⟨W, hW⟩ : ∃ W, W = w.alloc (Obj.cells #[.slice ha c.heaps.length hc, .slice ka c.casks.length kc, .slice ta c.trials.length tc] 26) := ⟨_, rfl⟩
  have hWs : W.heap.size = w.heap.size + 1 := by rw [hW]; simp
  have hWb : Below w.heap.size w W := by rw [hW]; exact below_alloc1 (Nat.le_refl _) _
  have hWr : W.heap[w.heap.size]? = some (.cells #[.slice ha c.heaps.length hc, .slice ka c.casks.length kc, .slice ta c.trials.length tc] 26 (0, 0)) := by rw [hW]; exact heap_new _ _
  have HBOX := hid (fun w1 (hb : Below W.heap.size W w1) => (hb.block w.heap.size (by omega)).trans hWr : ∀ w1, Below W.heap.size W w1 → w1.heap[w.heap.size]? = _)
  have HCE := hid (fun w1 (hb : Below W.heap.size W w1) => h'.below (hWb.trans (hb.mono (by omega)) |>.mono hn) : ∀ w1, Below W.heap.size W w1 → CeV (Lt _) w1 _ c)
  clear hWr h' h
  have HLV := hid (fun w1 (hb : Below W.heap.size W w1) => hl'.below (hWb.trans (hb.mono (by omega)) |>.mono hn) : ∀ w1, Below W.heap.size W w1 → Ints (Lt n) w1 _ (castL (allR c)))
  have HA32 := hid (show ∀ a ∈ allR c, a < 32 from fun a ha => Nat.lt_of_lt_of_le (allR_lt c a ha) (Nat.pow_le_pow_right (by omega) (by omega) : 2 ^ c.trials.length ≤ 2 ^ 5))
  clear hl hl' HOP hf
  go_enter Try.func34, Try.ntmps34
  go_wp2
  rw [← hW]
  clear hW
  go_loopw [5] (fun i wr => ∃ k : Nat, k ≤ c.trials.length ∧ i = .int .i64 k ∧ Hid (∀ i, i < k → canR (allR c) (2 ^ (i + 1) - 1) = true) ∧ Below W.heap.size W wr) (fun i _ => c.trials.length - (intOf i).toNat)
  case atStart => exact ⟨0, by omega, rfl, hid (fun i hi => by omega), Below.refl _ _⟩
  case round =>
    obtain ⟨k, hk, rfl, HI, hb⟩ := hrel
    have HBr := hid hb
    have hbs := hb.size
    clear hb
    have j0 := cell_of_row (HBOX.out wr HBr.out) 0
    have j1 := cell_of_row (HBOX.out wr HBr.out) 1
    have j2 := cell_of_row (HBOX.out wr HBr.out) 2
    simp only [List.getElem?_toArray, List.getElem?_cons_zero, List.getElem?_cons_succ] at j0 j1 j2
    by_cases hlt : k < c.trials.length
    · obtain ⟨cb, hcb⟩ : ∃ cb, cb = canR (allR c) (2 ^ (k + 1) - 1) := ⟨_, rfl⟩
      have HCB := hid hcb
      have HNX := hid (fun (e : cb = true) => (fun i hi => by
        by_cases ei : i = k
        · subst ei; rw [← hcb]; exact e
        · exact HI.out i (by omega) : ∀ i, i < k + 1 → canR (allR c) (2 ^ (i + 1) - 1) = true))
      have HFS := hid (fun (e : cb = false) => (firstR_some hlt HI.out (by rw [← hcb]; exact e) : firstR c = some k))
      clear hcb
      have hwk : IntKind.u64.wrap (k : Int) = k := by unfold IntKind.wrap; simp [IntKind.bits, IntKind.signed]; omega
      rcases (by omega : k = 0 ∨ k = 1 ∨ k = 2 ∨ k = 3 ∨ k = 4) with rfl | rfl | rfl | rfl | rfl
      all_goals
        go_wp2_with fail
        refine (can_any (allR c) HA32.out hll _ (by decide) _ (by rfl) HCB _ n wr (by omega) (HLV.out wr HBr.out)).mono ?_
        rintro e w1 ⟨rfl, hb1⟩
        have HB1 := hid (below_after HBr.out hb1 (Nat.le_refl _))
        clear hb1 j0 j1 j2
        cases cb with
        | true =>
          have HN2 := hid (HNX.out rfl)
          go_wp2
          go_roundw
          case rel => first | exact ⟨1, by omega, rfl, HN2, HB1.out⟩ | exact ⟨2, by omega, rfl, HN2, HB1.out⟩ | exact ⟨3, by omega, rfl, HN2, HB1.out⟩ | exact ⟨4, by omega, rfl, HN2, HB1.out⟩ | exact ⟨5, by omega, rfl, HN2, HB1.out⟩
          case measure => simp [intOf]; omega
        | false =>
          have HN2 := hid (HFS.out rfl)
          go_wp2
          go_ret
          rw [HN2.out]
          exact ⟨rfl, hWb.trans (HB1.out.mono (by omega))⟩
    · have HN2 := hid (firstR_none (c := c) (fun i hi => HI.out i (by omega)))
      go_wp2
      go_ret
      rw [HN2.out]
      exact ⟨rfl, hWb.trans (HBr.out.mono (by omega))⟩

/-! ### Leave -/
theorem bitsL_length (b : Nat) : (bitsL b).length ≤ 10 := by
  have h := (bitsFrom_rises (digitsB b) 0).length
  have hd : (digitsB b).length = 10 := by simp [digitsB]
  unfold bitsL
  rcases h with h | h
  · rw [h]; simp
  · omega
theorem bestR_length (p : Nat → Bool) (init : List Int) (hi : init.length ≤ 10) : ∀ N, (bestR p init N).length ≤ 10
  | 0 => by simpa [bestR] using hi
  | N + 1 => by
    rw [bestR_succ]
    split
    · exact bitsL_length N
    · exact bestR_length p init hi N
theorem andNot_fullT : ∀ n : Fin 6, ∀ m : Fin 32, m.val < 2 ^ n.val → bits BinOp.andNot IntKind.i64 ((2 ^ n.val - 1 : Nat) : Int) (m.val : Int) = (keptN n m : Int) := by decide +kernel
theorem full_hidT {M : Nat} (c : Ce) (HM : Hid (M = 2 ^ c.trials.length - 1)) (v : Value) (n : Nat) (w : World) (h : CeV (Lt n) w v c) (hl : c.trials.length ≤ 5) :
    Calls Try.prog 45 #[v] w fun e w' => e = .returned (.int .i64 M) ∧ Below w.heap.size w w' := by
  have := full_any c v n w h hl
  have e : ((2 : Int) ^ c.trials.length - 1) = (M : Int) := by
    rw [HM.out, Int.natCast_sub (Nat.pow_pos (by omega))]; simp
  rwa [e] at this
theorem shorter_hidT {x : Bool} (a b : List Int) (HB : Hid (x = shorterB a b)) (va vb : Value) (n : Nat) (w : World) (h : Ints (Lt n) w va a) (g : Ints (Lt n) w vb b) (hn : n ≤ w.heap.size) (ha : a.length ≤ 1000) (hb : b.length ≤ 1000) :
    Calls Try.prog 46 #[va, vb] w fun e w' => e = .returned (.bool x) ∧ Below w.heap.size w w' := by
  rw [HB.out]; exact shorter_any a b va vb n w h g hn ha hb

set_option maxHeartbeats 4000000 in
theorem leaveRf_any (c : Ce) (hf : fault c = 0) (v vl : Value) (n : Nat) (w : World) (hn : n ≤ w.heap.size) (h : CeV (Lt n) w v c) (hl : Ints (Lt n) w vl (castL (allR c))) (hll : (allR c).length ≤ 100000) :
    Calls Try.prog 33 #[v, vl] w (RetInts1 (leaveR c) w) := by
  obtain ⟨⟨g1, g2, g3, g4⟩, -⟩ := (fault_good hf).1.facts
  have hl' := hl
  obtain ⟨la, lc, rfl, -, -⟩ := hl.open1
  have h' := h
  obtain ⟨ha, hc, ka, kc, ta, tc, rfl, hp1, hp2, hp3⟩ := h.open
  have HOP := hid (And.intro hp1 (And.intro hp2 hp3))
  clear hp1 hp2 hp3
  obtain ⟨W, hW⟩ : ∃ W, W = w.alloc (Obj.cells #[.slice ha c.heaps.length hc, .slice ka c.casks.length kc, .slice ta c.trials.length tc] 26) := ⟨_, rfl⟩
  have hWs : W.heap.size = w.heap.size + 1 := by rw [hW]; simp
  have hWb : Below w.heap.size w W := by rw [hW]; exact below_alloc1 (Nat.le_refl _) _
  have hWr : W.heap[w.heap.size]? = some (.cells #[.slice ha c.heaps.length hc, .slice ka c.casks.length kc, .slice ta c.trials.length tc] 26 (0, 0)) := by rw [hW]; exact heap_new _ _
  have HBOX := hid (fun w1 (hb : Below W.heap.size W w1) => (hb.block w.heap.size (by omega)).trans hWr : ∀ w1, Below W.heap.size W w1 → w1.heap[w.heap.size]? = _)
  have HCE := hid (fun w1 (hb : Below W.heap.size W w1) => h'.below (hWb.trans (hb.mono (by omega)) |>.mono hn) : ∀ w1, Below W.heap.size W w1 → CeV (Lt _) w1 _ c)
  clear hWr h' h
  have HLV := hid (fun w1 (hb : Below W.heap.size W w1) => hl'.below (hWb.trans (hb.mono (by omega)) |>.mono hn) : ∀ w1, Below W.heap.size W w1 → Ints (Lt n) w1 _ (castL (allR c)))
  have h25 : 2 ^ c.trials.length ≤ 2 ^ 5 := Nat.pow_le_pow_right (by omega) (by omega)
  have HA32 := hid (show ∀ a ∈ allR c, a < 32 from fun a ha => Nat.lt_of_lt_of_le (allR_lt c a ha) h25)
  have hp := Nat.pow_pos (n := c.trials.length) (show 0 < 2 by omega)
  obtain ⟨M, hM⟩ : ∃ M, M = 2 ^ c.trials.length - 1 := ⟨_, rfl⟩
  have HM := hid hM
  have HAN := hid (show ∀ b, b ≤ M → bits BinOp.andNot IntKind.i64 (M : Int) (b : Int) = (keptN c.trials.length b : Int) from fun b hb => by rw [hM]; exact andNot_fullT ⟨c.trials.length, by omega⟩ ⟨b, by omega⟩ (by simp only; omega))
  have HKL := hid (show ∀ b, keptN c.trials.length b < 32 from fun b => Nat.lt_of_lt_of_le (by have := natOf_lt ((List.range c.trials.length).map fun i => !b.testBit i); simpa [keptN] using this) h25)
  have HLR := hid (show leaveR c = bestR (fun b => canR (allR c) (keptN c.trials.length b)) (bitsL M) (M + 1) by rw [leaveR, hM, Nat.sub_add_cancel hp])
  have hM32 : M < 32 := by omega
  clear hl hl' HOP hf hM hp h25
  go_enter Try.func33, Try.ntmps33
  go_wp2_with fail
  rw [← hW]
  clear hW
  refine (full_hidT c HM _ n W (HCE.out W (Below.refl _ _)) g4).mono ?_
  rintro e w1 ⟨rfl, hb1⟩
  have HB1 := hid hb1
  have hs1 := hb1.size
  clear hb1
  go_wp2_with fail
  refine (bits_any M (by omega) w1).mono ?_
  rintro e w2 ⟨v2, rfl, ho2, hb2⟩
  have HB2 := hid (below_after HB1.out hb2 (Nat.le_refl _))
  have hs2 := HB2.out.size
  have hd2 := hb2.size
  clear hb2
  have hi2 : Ints (Lt w2.heap.size) w2 v2 (bitsL M) := ho2.slLt (fun _ => rfl)
  obtain ⟨pm, hpm⟩ : ∃ pm, pm = (bestR (fun b => canR (allR c) (keptN c.trials.length b)) (bitsL M) 0) := ⟨_, rfl⟩
  have hi2' : Ints (Lt w2.heap.size) w2 v2 pm := by rw [hpm]; exact hi2
  have HI2 := hid hi2'
  have HPM := hid hpm
  clear ho2 hi2 hi2' hpm
  go_wp2
  go_loopw [5, 6] (fun bv i wr => ∃ b : Nat, b ≤ M + 1 ∧ i = .int .i64 b ∧ Hid (Ints (Lt wr.heap.size) wr bv (bestR (fun b => canR (allR c) (keptN c.trials.length b)) (bitsL M) b)) ∧ Below w2.heap.size w2 wr) (fun _ i _ => M + 1 - (intOf i).toNat)
  case atStart => exact ⟨0, by omega, rfl, hid (by rw [← HPM.out]; exact HI2.out), Below.refl _ _⟩
  case round =>
    obtain ⟨b, hbM, rfl, HBI, hb3⟩ := hrel
    have HB3 := hid (below_after HB2.out hb3 (Nat.le_refl _))
    have hs3 := HB3.out.size
    have HE3 := hid hb3
    have hbl := bestR_length (fun b => canR (allR c) (keptN c.trials.length b)) (bitsL M) (bitsL_length M) b
    have HSU := hid (bestR_succ (fun b => canR (allR c) (keptN c.trials.length b)) (bitsL M) b)
    clear hb3
    obtain ⟨bl, hble⟩ : ∃ bl, bl = bestR (fun b => canR (allR c) (keptN c.trials.length b)) (bitsL M) b := ⟨_, rfl⟩
    rw [← hble] at hbl HBI HSU
    have HBE := hid hble
    clear hble
    obtain ⟨ba, bcap, rfl, -, -⟩ := id HBI.out.open1
    have j0 := cell_of_row (HBOX.out wr HB3.out) 0
    have j1 := cell_of_row (HBOX.out wr HB3.out) 1
    have j2 := cell_of_row (HBOX.out wr HB3.out) 2
    simp only [List.getElem?_toArray, List.getElem?_cons_zero, List.getElem?_cons_succ] at j0 j1 j2
    go_wp2_with fail
    refine (full_hidT c HM _ n wr (HCE.out wr HB3.out) g4).mono ?_
    rintro e w4 ⟨rfl, hb4⟩
    have HB4 := hid (below_after HB3.out hb4 (Nat.le_refl _))
    have HE4 := hid (below_after HE3.out hb4 (Nat.le_refl _))
    have HF4 := hid hb4
    have hs4 := HB4.out.size
    have hd4 := hb4.size
    clear hb4 j0 j1 j2
    by_cases hlt : b ≤ M
    · go_wp2_with fail
      refine (bits_any b (by omega) w4).mono ?_
      rintro e w5 ⟨v5, rfl, ho5, hb5⟩
      have hi5 : Ints (Lt w5.heap.size) w5 v5 (bitsL b) := ho5.slLt (fun _ => rfl)
      obtain ⟨pl, hpl⟩ : ∃ pl, pl = bitsL b := ⟨_, rfl⟩
      have hpll : pl.length ≤ 10 := by rw [hpl]; exact bitsL_length b
      rw [← hpl] at hi5 HSU
      obtain ⟨xa, xc, rfl, -, -⟩ := id hi5.open1
      have HI5 := hid hi5
      have HPL := hid hpl
      have HB5 := hid (below_after HB4.out hb5 (Nat.le_refl _))
      have HE5 := hid (below_after HE4.out hb5 (Nat.le_refl _))
      have HF5 := hid (below_after HF4.out hb5 (Nat.le_refl _))
      have HG5 := hid (Below.refl w5.heap.size w5)
      have hs5 := HB5.out.size
      have hd5 := hb5.size
      clear hb5 ho5 hi5 hpl
      obtain ⟨sb, hsb⟩ : ∃ sb, sb = shorterB pl bl := ⟨_, rfl⟩
      have HSB := hid hsb
      rw [← hsb] at HSU
      clear hsb
      go_wp2_with fail
      refine (shorter_hidT pl bl HSB _ _ w5.heap.size w5 HI5.out ((HBI.out.below HF5.out).le (by omega)) (Nat.le_refl _) (by omega) (by omega)).mono ?_
      rintro e w6 ⟨rfl, hb6⟩
      have HB6 := hid (below_after HB5.out hb6 (Nat.le_refl _))
      have hs6 := HB6.out.size
      have hd6 := hb6.size
      have HE6 := hid (below_after HE5.out hb6 (Nat.le_refl _))
      have zHE6 := HE6.out.size
      have HF6 := hid (below_after HF5.out hb6 (Nat.le_refl _))
      have zHF6 := HF6.out.size
      have HG6 := hid (below_after HG5.out hb6 (Nat.le_refl _))
      have zHG6 := HG6.out.size
      clear hb6
      obtain ⟨cb, hcb⟩ : ∃ cb, cb = canR (allR c) (keptN c.trials.length b) := ⟨_, rfl⟩
      have HCB := hid hcb
      rw [← hcb] at HSU
      clear hcb
      cases sb with
      | false =>
        go_wp2
        go_roundw
        case rel => exact ⟨b + 1, by omega, by go_num, hid (by rw [HSU.out]; simpa using (HBI.out.below HF6.out).le (by omega)), HE6.out⟩
        case measure => simp [intOf]; omega
      | true =>
        have j0 := cell_of_row (HBOX.out w6 HB6.out) 0
        have j1 := cell_of_row (HBOX.out w6 HB6.out) 1
        have j2 := cell_of_row (HBOX.out w6 HB6.out) 2
        simp only [List.getElem?_toArray, List.getElem?_cons_zero, List.getElem?_cons_succ] at j0 j1 j2
        go_wp2_with fail
        refine (full_hidT c HM _ n w6 (HCE.out w6 HB6.out) g4).mono ?_
        rintro e w7 ⟨rfl, hb7⟩
        have HB7 := hid (below_after HB6.out hb7 (Nat.le_refl _))
        have hs7 := HB7.out.size
        have hd7 := hb7.size
        have HE7 := hid (below_after HE6.out hb7 (Nat.le_refl _))
        have zHE7 := HE7.out.size
        have HF7 := hid (below_after HF6.out hb7 (Nat.le_refl _))
        have zHF7 := HF7.out.size
        have HG7 := hid (below_after HG6.out hb7 (Nat.le_refl _))
        have zHG7 := HG7.out.size
        clear hb7
        clear j0 j1 j2
        go_wp2_with fail
        rw [HAN.out b hlt]
        refine (can_any (allR c) HA32.out hll (keptN c.trials.length b) (HKL.out b) _ rfl HCB _ n w7 (by omega) (HLV.out w7 HB7.out)).mono ?_
        rintro e w8 ⟨rfl, hb8⟩
        have HE8 := hid (below_after HE7.out hb8 (Nat.le_refl _))
        have HF8 := hid (below_after HF7.out hb8 (Nat.le_refl _))
        have HG8 := hid (below_after HG7.out hb8 (Nat.le_refl _))
        have hs8 := hb8.size
        have hf8 := HF8.out.size
        have hg8 := HG8.out.size
        clear hb8
        cases cb with
        | false =>
          go_wp2
          go_roundw
          case rel => exact ⟨b + 1, by omega, by go_num, hid (by rw [HSU.out]; simpa using (HBI.out.below HF8.out).le (by omega)), HE8.out⟩
          case measure => simp [intOf]; omega
        | true =>
          go_wp2
          go_roundw
          case rel => exact ⟨b + 1, by omega, by go_num, hid (by rw [HSU.out]; simpa using (HI5.out.below HG8.out).le (by omega)), HE8.out⟩
          case measure => simp [intOf]; omega
    · have hbe : b = M + 1 := by omega
      have HR := hid (show Ints (Lt w4.heap.size) w4 (.slice ba bl.length bcap) (leaveR c) by rw [HLR.out, ← hbe, ← HBE.out]; exact (HBI.out.below HF4.out).le (by omega))
      go_wp2
      go_ret
      exact ⟨_, rfl, HR.out, hWb.trans (HB4.out.mono (by omega))⟩
end Go.Proofs.Ytjddcaimjofihaa
