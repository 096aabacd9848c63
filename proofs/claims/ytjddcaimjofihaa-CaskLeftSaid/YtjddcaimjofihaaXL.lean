/- The plain law and the walk of CaskLeft; no condition. -/
import Derived.Test.YtjddcaimjofihaaXF
import Derived.Test.YtjddcaimjofihaaR1
namespace Go.Proofs.Ytjddcaimjofihaa
open Go.RowKit Go.Shelf

theorem bit_nat (b i : Nat) : ((b : Int) / 2 ^ i % 2 = 1) ↔ b.testBit i = true := by
  rw [Nat.testBit_eq_decide_div_mod_eq, decide_eq_true_eq]
  have : ((b / 2 ^ i % 2 : Nat) : Int) = (b : Int) / 2 ^ i % 2 := by push_cast; rfl
  omega
theorem mem_someL (b : Nat) (t : Tl) (ts : List Tl) : ∀ i, t ∈ someL (b : Int) ts i ↔ ∃ j, ts[j]? = some t ∧ b.testBit (i + j) = true := by
  induction ts with
  | nil => intro i; simp [someL]
  | cons x ts ih =>
    intro i
    have hr : (∃ j, (x :: ts)[j]? = some t ∧ b.testBit (i + j) = true) ↔ (x = t ∧ b.testBit i = true) ∨ ∃ j, ts[j]? = some t ∧ b.testBit (i + 1 + j) = true := by
      constructor
      · rintro ⟨j, h1, h2⟩
        cases j with
        | zero => exact .inl ⟨by simpa using h1, by simpa using h2⟩
        | succ j => exact .inr ⟨j, by simpa using h1, by rw [show i + 1 + j = i + (j + 1) by omega]; exact h2⟩
      · rintro (⟨rfl, h⟩ | ⟨j, h1, h2⟩)
        · exact ⟨0, by simp, by simpa using h⟩
        · exact ⟨j + 1, by simpa using h1, by rw [show i + (j + 1) = i + 1 + j by omega]; exact h2⟩
    rw [hr, someL]
    by_cases hb : b.testBit i = true
    · rw [if_pos ((bit_nat b i).2 hb), List.mem_cons, ih]
      simp only [hb, and_true, eq_comm]
    · rw [if_neg (fun h => hb ((bit_nat b i).1 h)), ih]
      simp [hb]
theorem some_good {c : Ce} (hg : Good c) (b : Nat) : Good (someC c b) := by
  obtain ⟨h1, h2⟩ := hg
  refine ⟨?_, ?_⟩
  · have := someL_length (b : Int) c.trials 0
    simp only [sizes, Bool.or_eq_false_iff, decide_eq_false_iff_not] at h1 ⊢
    exact ⟨h1.1, by simp only [someC]; omega⟩
  · simp only [partsOk, Bool.and_eq_true] at h2 ⊢
    refine ⟨h2.1, List.all_eq_true.2 fun t ht => ?_⟩
    obtain ⟨j, hj, -⟩ := (mem_someL b t c.trials 0).1 ht
    exact List.all_eq_true.1 h2.2 t (List.mem_of_getElem? hj)
theorem some_fault {c : Ce} (hf : fault c = 0) (b : Nat) : fault (someC c b) = 0 := by
  obtain ⟨hg, hm⟩ := fault_good hf
  have hg2 := some_good hg b
  unfold fault
  rw [hg2.sz, hg2.ok]
  simp only [Bool.false_eq_true, if_false, if_true]
  rw [if_neg]
  show ¬ 2000 < manyTo 2001 c.heaps 1
  omega
theorem some_rightT (c : Ce) (b : Nat) (l : List Int) (t : Tl) : rightT (someC c b) l t = rightT c l t := rfl
theorem some_kept {c : Ce} (hf : fault c = 0) (b : Nat) (hb : b < 2 ^ c.trials.length) : possible (someC c (keptN c.trials.length b)) [] = possible c (bitsL b) := by
  obtain ⟨hg, -⟩ := fault_good hf
  have h5 := hg.facts.1.2.2.2
  have h1024 : b < 1024 := Nat.lt_of_lt_of_le hb (Nat.pow_le_pow_right (by omega) (by omega) : 2 ^ c.trials.length ≤ 2 ^ 10)
  rw [Bool.eq_iff_iff, possible_iff (some_good hg _), possible_iff hg]
  refine exists_congr fun l => and_congr_right fun _ => ?_
  rw [right_nil_iff, right_iff]
  constructor
  · intro h j t hj
    by_cases e : b.testBit j = true
    · exact .inl ((mem_bitsL h1024 j).2 e)
    · exact .inr (h t ((mem_someL _ t c.trials 0).2 ⟨j, hj, by rw [Nat.zero_add, testBit_keptN]; have := (List.getElem?_eq_some_iff.1 hj).1; simp [this, e]⟩))
  · intro h t ht
    obtain ⟨j, hj, hk⟩ := (mem_someL _ t c.trials 0).1 ht
    rw [Nat.zero_add, testBit_keptN, Bool.and_eq_true, decide_eq_true_eq] at hk
    rcases h j t hj with h | h
    · rw [mem_bitsL h1024] at h; rw [h] at hk; simp at hk
    · exact h
/-- What Bounds says of a cellar without some trials. -/
theorem ask_kept {c : Ce} (hf : fault c = 0) (b : Nat) (hb : b < 2 ^ c.trials.length) : askErr (someC c (keptN c.trials.length b)) true = if possible c (bitsL b) then 0 else 11 := by
  rw [ask_possible (some_fault hf _), some_kept hf b hb]
/-- The list that Leave returns: which bits it has, what Bounds says without it, and that no other is shorter. -/
theorem left_is {c : Ce} (hf : fault c = 0) {r : List Int} (hr : leaveOf c = some r) : Fewest (possible c) c.trials.length r ∧ ∃ b, b < 2 ^ c.trials.length ∧ bitsL b = r ∧ askErr (someC c (keptN c.trials.length b)) true = 0 := by
  obtain ⟨hg, -⟩ := fault_good hf
  have h5 := hg.facts.1.2.2.2
  have e := leaveOf_eq hf
  rw [hr] at e
  have hF := leaveR_fewest hf
  rw [← Option.some.inj e] at hF
  obtain ⟨b, hb, hbl⟩ := rises_bitsL (by omega) hF.rises
  exact ⟨hF, b, hb, hbl, by rw [ask_kept hf b hb, hbl, hF.pass, if_pos rfl]⟩
theorem left_other {c : Ce} (hf : fault c = 0) {r : List Int} (hF : Fewest (possible c) c.trials.length r) (m : Nat) (hm : m < 2 ^ c.trials.length) :
    askErr (someC c (keptN c.trials.length m)) true = 11 ∨ (askErr (someC c (keptN c.trials.length m)) true = 0 ∧ shorterB (bitsL m) r = false) := by
  obtain ⟨hg, -⟩ := fault_good hf
  have h5 := hg.facts.1.2.2.2
  rw [ask_kept hf m hm]
  cases hp : possible c (bitsL m) with
  | false => left; simp
  | true => right; exact ⟨by simp, hF.least _ (bitsL_rises (by omega) hm) hp⟩
end Go.Proofs.Ytjddcaimjofihaa

namespace Go.Proofs.Ytjddcaimjofihaa
open Go.RowKit Go.Shelf
set_option maxRecDepth 100000

/-- The bits of the first k of a number's bits. -/
def preB (m k : Nat) : Int := ((bitsL m).take k).foldl (fun a i => a + 2 ^ i.toNat) 0
theorem preB_step : ∀ m : Fin 32, ∀ k : Fin 5, k.val < (bitsL m).length → bits BinOp.or IntKind.i64 (preB m k) (wrap64 (2 ^ ((bitsL m).getD k 0).toNat)) = preB m (k + 1) := by decide +kernel
theorem preB_full : ∀ m : Fin 32, preB m (bitsL m).length = (m.val : Int) := by decide +kernel
theorem bitsL_len : ∀ m : Fin 32, (bitsL m).length ≤ 5 := by decide +kernel
theorem bitsL_up : ∀ m : Fin 32, ∀ k : Fin 5, k.val + 1 < (bitsL m).length → (bitsL m).getD k 0 < (bitsL m).getD (k + 1) 0 := by decide +kernel
theorem bitsL_in : ∀ n : Fin 6, ∀ m : Fin 32, m.val < 2 ^ n.val → ∀ k : Fin 5, k.val < (bitsL m).length → 0 ≤ (bitsL m).getD k 0 ∧ (bitsL m).getD k 0 ≤ (n.val : Int) - 1 := by decide +kernel
theorem and_full : ∀ n : Fin 6, ∀ a : Fin 256, bits BinOp.and IntKind.i64 (a.val : Int) ((2 : Int) ^ n.val - 1) = ((a.val % 2 ^ n.val : Nat) : Int) := by decide +kernel
theorem andNot_full : ∀ n : Fin 6, ∀ m : Fin 32, m.val < 2 ^ n.val → bits BinOp.andNot IntKind.i64 ((2 : Int) ^ n.val - 1) (m.val : Int) = (keptN n m : Int) := by decide +kernel
theorem some_small {c : Ce} (h : Small c) (b : Int) : Small (someC c b) := ⟨h.heaps, h.casks, by have := h.trials; have := someL_length b c.trials 0; simp only [someC]; omega, h.cask⟩
theorem shorter_hid {x : Bool} (a b : List Int) (HB : Hid (shorterB a b = x)) (va vb : Value) (n : Nat) (w : World) (h : Ints (Lt n) w va a) (g : Ints (Lt n) w vb b) (hn : n ≤ w.heap.size) (ha : a.length ≤ 1000) (hb : b.length ≤ 1000) :
    Calls Try.prog 46 #[va, vb] w fun e w' => e = .returned (.bool x) ∧ Below w.heap.size w w' := by
  rw [← HB.out]; exact shorter_any a b va vb n w h g hn ha hb
theorem in_hid {b : Bool} (n lo hi : Int) (HB : Hid (b = within n lo hi)) (w : World) : Calls Try.prog 26 #[.int .i64 n, .int .i64 lo, .int .i64 hi] w fun e w' => e = .returned (.bool b) ∧ w = w' := inR_hid n lo hi HB w

set_option maxHeartbeats 8000000 in
theorem CaskLeft_walk (c : Ce) (v : Value) {w : World} (h : CeV (Lt w.heap.size) w v c) (a : Int) (ha0 : 0 ≤ a ∧ a ≤ 255) :
    Calls Try.prog 10 #[v, .int .u8 a] w (RetT w) := by
  obtain ⟨av, rfl⟩ := Int.eq_ofNat_of_zero_le ha0.1
  have h' := h
  obtain ⟨ha, hc, ka, kc, ta, tc, rfl, -, -, -⟩ := h.open
  obtain ⟨W, hW⟩ : ∃ W, W = w.alloc (Obj.cells #[.slice ha c.heaps.length hc, .slice ka c.casks.length kc, .slice ta c.trials.length tc] 26) := ⟨_, rfl⟩
  have hWs : W.heap.size = w.heap.size + 1 := by rw [hW]; simp
  have hWb : Below w.heap.size w W := by rw [hW]; exact below_alloc1 (Nat.le_refl _) _
  have hWr : W.heap[w.heap.size]? = some (.cells #[.slice ha c.heaps.length hc, .slice ka c.casks.length kc, .slice ta c.trials.length tc] 26 (0, 0)) := by rw [hW]; exact heap_new _ _
  have HBOX := hid (fun w1 (hb : Below W.heap.size W w1) => (hb.block w.heap.size (by omega)).trans hWr : ∀ w1, Below W.heap.size W w1 → w1.heap[w.heap.size]? = _)
  have HCE := hid (fun w1 (hb : Below W.heap.size W w1) => h'.below (hWb.trans (hb.mono (by omega))) : ∀ w1, Below W.heap.size W w1 → CeV (Lt w.heap.size) w1 _ c)
  clear hWr h' h
  obtain ⟨rb, hrb⟩ : ∃ rb, rb = readyB c := ⟨_, rfl⟩
  have HRB := hid hrb
  clear hrb
  cases rb with
  | false =>
    go_enter Try.func10, Try.ntmps10
    go_wp2_with fail
    rw [← hW]
    clear hW
    refine (ready_hid c HRB _ w.heap.size W (by omega) (HCE.out W (Below.refl _ _))).mono ?_
    rintro e w1 ⟨rfl, hb1⟩
    go_wp2_with (go_at_call 20; refine (awake_any _).mono ?_; rintro e w2 ⟨rfl, hb2⟩)
    go_ret
    exact ⟨rfl, hWb.trans ((below_after hb1 hb2 (Nat.le_refl _)).mono (by omega))⟩
  | true =>
    have hf := ready_fault HRB.out.symm
    have hsm := thin_small (ready_thin HRB.out.symm)
    obtain ⟨⟨g1, g2, g3, g4⟩, -⟩ := (fault_good hf).1.facts
    obtain ⟨hF, m, hm, hbl, hask⟩ := left_is hf (leaveOf_eq hf)
    rw [← hbl] at hF
    have HLV := hid (show leaveOf c = some (bitsL m) by rw [leaveOf_eq hf, hbl])
    have HFW := hid hF
    have HAS := hid hask
    have hm32 : m < 32 := Nat.lt_of_lt_of_le hm (Nat.pow_le_pow_right (by omega) (by omega) : 2 ^ c.trials.length ≤ 2 ^ 5)
    have HIN := hid (show ∀ k, k < (bitsL m).length → 0 ≤ (bitsL m).getD k 0 ∧ (bitsL m).getD k 0 ≤ (c.trials.length : Int) - 1 from fun k (hk : k < (bitsL m).length) => bitsL_in ⟨c.trials.length, by omega⟩ ⟨m, hm32⟩ hm ⟨k, by have := bitsL_len ⟨m, hm32⟩; simp only at this; omega⟩ hk)
    have HST := hid (show ∀ k, k < (bitsL m).length → bits BinOp.or IntKind.i64 (preB m k) (wrap64 (2 ^ ((bitsL m).getD k 0).toNat)) = preB m (k + 1) from fun k (hk : k < (bitsL m).length) => preB_step ⟨m, hm32⟩ ⟨k, by have := bitsL_len ⟨m, hm32⟩; simp only at this; omega⟩ hk)
    have HUP := hid (show ∀ k, k + 1 < (bitsL m).length → (bitsL m).getD k 0 < (bitsL m).getD (k + 1) 0 from fun k (hk : k + 1 < (bitsL m).length) => bitsL_up ⟨m, hm32⟩ ⟨k, by have := bitsL_len ⟨m, hm32⟩; simp only at this; omega⟩ hk)
    have HFU := hid (show preB m (bitsL m).length = (m : Int) from preB_full ⟨m, hm32⟩)
    have hlen : (bitsL m).length ≤ 5 := bitsL_len ⟨m, hm32⟩
    have hN32 : 2 ^ c.trials.length ≤ 2 ^ 5 := Nat.pow_le_pow_right (by omega) (by omega)
    have hd0 : av % 2 ^ c.trials.length < 2 ^ c.trials.length := Nat.mod_lt _ (Nat.pow_pos (by omega))
    obtain ⟨d, hd⟩ : ∃ d, d = av % 2 ^ c.trials.length := ⟨_, rfl⟩
    have HAN := hid (show bits BinOp.and IntKind.i64 (av : Int) ((2 : Int) ^ c.trials.length - 1) = (d : Int) from by rw [hd]; exact and_full ⟨c.trials.length, by omega⟩ ⟨av, by omega⟩)
    rw [← hd] at hd0
    have hd32 : d < 32 := Nat.lt_of_lt_of_le hd0 hN32
    have HAD := hid (show bits BinOp.andNot IntKind.i64 ((2 : Int) ^ c.trials.length - 1) (d : Int) = (keptN c.trials.length d : Int) from andNot_full ⟨c.trials.length, by omega⟩ ⟨d, hd32⟩ hd0)
    have HOT := hid (left_other hf hF d hd0)
    have hdlen : (bitsL d).length ≤ 5 := bitsL_len ⟨d, hd32⟩
    clear hd hd0 hN32
    have HM := hid hm
    have HAK := hid (show bits BinOp.andNot IntKind.i64 ((2 : Int) ^ c.trials.length - 1) (m : Int) = (keptN c.trials.length m : Int) from andNot_full ⟨c.trials.length, by omega⟩ ⟨m, hm32⟩ hm)
    have HF := hid hf
    have HSM := hid hsm
    clear hf hsm hF hbl hask hm hm32
    go_enter Try.func10, Try.ntmps10
    go_wp2_with fail
    rw [← hW]
    clear hW
    refine (ready_hid c HRB _ w.heap.size W (by omega) (HCE.out W (Below.refl _ _))).mono ?_
    rintro e w1 ⟨rfl, hb1⟩
    have j0 := cell_of_row (HBOX.out w1 hb1) 0
    have j1 := cell_of_row (HBOX.out w1 hb1) 1
    have j2 := cell_of_row (HBOX.out w1 hb1) 2
    simp only [List.getElem?_toArray, List.getElem?_cons_zero, List.getElem?_cons_succ] at j0 j1 j2
    have HB1 := hid hb1
    have hs1 := hb1.size
    clear hb1
    go_wp2_with fail
    refine (CellarL_any c _ w.heap.size w1 (by omega) (HCE.out w1 HB1.out) HSM.out).mono ?_
    rintro e w2 ⟨v2, rfl, hc2, hb2⟩
    obtain ⟨_, _, _, _, _, _, rfl, -⟩ := id hc2.open
    have HB2 := hid (below_after HB1.out hb2 (Nat.le_refl _))
    clear hb2 j0 j1 j2
    go_wp2_with fail
    refine (Leave_ok c _ _ w2 (Nat.le_refl _) hc2 HF.out _ HLV.out).mono ?_
    rintro e w3 ⟨v3, rfl, hi3, hb3⟩
    have HI3 := hid hi3
    obtain ⟨pa, pc, rfl, -, ho3⟩ := id hi3.open1
    have HO3 := hid ho3
    have HB3 := hid (below_after HB2.out hb3 (Nat.le_refl _))
    have hs3 := HB3.out.size
    clear hb3 hc2 hi3 ho3
    go_wp2
    go_loopw [7, 8] (fun s i wr => ∃ k : Nat, k ≤ (bitsL m).length ∧ i = .int .i64 k ∧ s = .int .i64 (preB m k) ∧ Below w3.heap.size w3 wr) (fun _ i _ => (bitsL m).length - (intOf i).toNat)
    case atStart => exact ⟨0, by omega, rfl, by simp [preB], Below.refl _ _⟩
    case round =>
      obtain ⟨k, hk, rfl, rfl, hbr⟩ := hrel
      have HBR := hid (below_after HB3.out hbr (Nat.le_refl _))
      have hsr := hbr.size
      by_cases hlt : k < (bitsL m).length
      · rcases HO3.out with hnil | ⟨b, off, rfl, hbn, hcc⟩
        · rw [hnil] at hlt; simp at hlt
        have hbn' : b < w3.heap.size := hbn
        have y0 := (hbr.cell (p := ⟨b, off + k, none⟩) (by show b < _; omega)).trans (hcc k hlt)
        have hgd : (bitsL m)[k] = (bitsL m).getD k 0 := by rw [List.getD_eq_getElem?_getD, List.getElem?_eq_getElem hlt]; rfl
        rw [hgd] at y0
        have hin := HIN.out k hlt
        have hst := HST.out k hlt
        obtain ⟨x, hx⟩ := Int.eq_ofNat_of_zero_le hin.1
        rw [hx] at y0 hin hst
        rw [Int.toNat_natCast] at hst
        have HSTK := hid hst
        have HX := hid hx
        have HIB := hid (show true = within (x : Int) 0 ((c.trials.length : Int) - 1) by rw [eq_comm, within_iff]; exact hin)
        have hwr : IntKind.i64.wrap ((c.trials.length : Int) - 1) = (c.trials.length : Int) - 1 := IntWalk.i64_in _ (by omega)
        have HCC := hid hcc
        clear hst hgd hcc hx
        have j2 := cell_of_row (HBOX.out wr HBR.out) 2
        simp only [List.getElem?_toArray, List.getElem?_cons_zero, List.getElem?_cons_succ] at j2
        obtain ⟨hgc, hgf⟩ := grew_cells wr
        have lb : b < wr.heap.size := by omega
        have lw : w.heap.size < wr.heap.size := by omega
        by_cases hz : k = 0
        · subst hz
          rw [Nat.add_zero] at y0
          have hd : decide ((0 : Int) < ((0 : Nat) : Int)) = false := rfl
          go_wp2
          refine wp_region_grew (by kernel_rfl) (by kernel_rfl) ?_
          repeat (go_big_quiet_step ((go_at_call 26; exact grew_same (in_hid _ _ _ HIB _))))
          refine wpQuiet_nil ?_
          rintro _ ⟨ex, rfl⟩
          go_wp2
          go_roundw
          case rel => exact ⟨1, by omega, by go_num, by rw [HSTK.out], hbr.trans ((grew_below wr ex).mono hbr.size)⟩
          case measure => simp [intOf]; omega
        · have hd : decide ((0 : Int) < (k : Int)) = true := decide_eq_true (by omega)
          have hdn : decide (0 < k) = true := decide_eq_true (by omega)
          have hkp : 1 ≤ k := by omega
          have hk1 : k - 1 < (bitsL m).length := by omega
          obtain ⟨y, hy⟩ := Int.eq_ofNat_of_zero_le (HIN.out (k - 1) hk1).1
          have hup := HUP.out (k - 1) (by omega)
          rw [show k - 1 + 1 = k by omega, HX.out, hy] at hup
          have hgd1 : (bitsL m)[k - 1] = (y : Int) := by rw [← hy, List.getD_eq_getElem?_getD, List.getElem?_eq_getElem hk1]; rfl
          have y1 := (hbr.cell (p := ⟨b, off + (k - 1), none⟩) (by show b < _; omega)).trans (HCC.out (k - 1) hk1)
          rw [hgd1] at y1
          have hle : decide ((x : Int) ≤ (y : Int)) = false := decide_eq_false (by omega)
          have hle2 : decide (x ≤ y) = false := decide_eq_false (by omega)
          have hwr2 : IntKind.i64.wrap ((k : Int) - 1) = (k : Int) - 1 := IntWalk.i64_in _ (by omega)
          clear hgd1 hy
          go_wp2
          refine wp_region_grew (by kernel_rfl) (by kernel_rfl) ?_
          repeat (go_big_quiet_step ((go_at_call 26; exact grew_same (in_hid _ _ _ HIB _))))
          refine wpQuiet_nil ?_
          rintro _ ⟨ex, rfl⟩
          go_wp2
          go_roundw
          case rel => exact ⟨k + 1, by omega, by go_num, by rw [HSTK.out], hbr.trans ((grew_below wr ex).mono hbr.size)⟩
          case measure => simp [intOf]; omega
      · have hke : k = (bitsL m).length := by omega
        subst hke
        have j0 := cell_of_row (HBOX.out wr HBR.out) 0
        have j1 := cell_of_row (HBOX.out wr HBR.out) 1
        have j2 := cell_of_row (HBOX.out wr HBR.out) 2
        simp only [List.getElem?_toArray, List.getElem?_cons_zero, List.getElem?_cons_succ] at j0 j1 j2
        rw [HFU.out]
        go_wp2_with fail
        refine (full_any c _ w.heap.size wr (HCE.out wr HBR.out) g4).mono ?_
        rintro e w4 ⟨rfl, hb4⟩
        have HB4 := hid (below_after HBR.out hb4 (Nat.le_refl _))
        have HC4 := hid (below_after hbr hb4 (Nat.le_refl _))
        clear hb4 j0 j1 j2
        go_wp2_with fail
        have j0 := cell_of_row (HBOX.out w4 HB4.out) 0
        have j1 := cell_of_row (HBOX.out w4 HB4.out) 1
        have j2 := cell_of_row (HBOX.out w4 HB4.out) 2
        simp only [List.getElem?_toArray, List.getElem?_cons_zero, List.getElem?_cons_succ] at j0 j1 j2
        have hs4 := HB4.out.size
        have lw4 : w.heap.size < w4.heap.size := by omega
        obtain ⟨E4, hE⟩ : ∃ E, E = w4.drew := ⟨_, rfl⟩
        refine wp_region_held (S := fun w' => Below w4.heap.size w4 w') (by kernel_rfl) ?_
        change wpAnyH _ _ _ _ _ _ _ _ w4.drew
        rw [← hE]
        have hb40 : Below w4.heap.size w4 E4 := by rw [hE]; exact (Below.refl _ _).drew
        clear hE
        refine wpAnyH_take (i := 0) (v := .agg #[.slice ha c.heaps.length hc, .slice ka c.casks.length kc, .slice ta c.trials.length tc]) rfl (by kernel_rfl) (by kernel_rfl) (by kernel_rfl) (fun _ _ _ h => h) (.inl ⟨by rfl, ?_⟩) hb40 ?_
        · intro w' hw'
          have hcc := (bcell hw').1
          go_simp
        try simp only [Act.put, List.setIfInBounds_toArray, List.set_cons_zero, List.set_cons_succ]
        refine wpAnyH_take (i := 1) (v := .agg #[.slice ha c.heaps.length hc, .slice ka c.casks.length kc, .slice ta c.trials.length tc]) rfl (by kernel_rfl) (by kernel_rfl) (by kernel_rfl) (fun _ _ _ h => h) (.inl ⟨by rfl, ?_⟩) hb40 ?_
        · intro w' hw'
          have hcc := (bcell hw').1
          go_simp
        try simp only [Act.put, List.setIfInBounds_toArray, List.set_cons_zero, List.set_cons_succ]
        refine wpAnyH_take (i := 3) (v := .int .i64 (m : Int)) rfl (by kernel_rfl) (by kernel_rfl) (by kernel_rfl) (fun _ _ _ h => h) (.inl ⟨by rfl, ?_⟩) hb40 ?_
        · intro w' hw'
          go_simp
        try simp only [Act.put, List.setIfInBounds_toArray, List.set_cons_zero, List.set_cons_succ]
        refine wpAnyH_only (i := 2) rfl (by kernel_rfl) (by kernel_rfl) ?_
        go_simp
        refine (full_any c _ w.heap.size E4 (HCE.out E4 (below_after HB4.out hb40 (Nat.le_refl _))) g4).mono ?_
        rintro e z41 ⟨rfl, hz⟩
        have hb41 : Below w4.heap.size w4 z41 := hb40.trans (hz.mono hb40.size)
        refine ⟨hb41, ?_⟩
        clear hz
        try simp only [Act.put, List.setIfInBounds_toArray, List.set_cons_zero, List.set_cons_succ]
        refine wpAnyH_take (i := 4) (v := .int .i64 (keptN c.trials.length m : Int)) rfl (by kernel_rfl) (by kernel_rfl) (by kernel_rfl) (fun _ _ _ h => h) (.inl ⟨by rfl, ?_⟩) hb41 ?_
        · intro w' hw'
          go_simp; try rw [HAK.out]
        try simp only [Act.put, List.setIfInBounds_toArray, List.set_cons_zero, List.set_cons_succ]
        refine wpAnyH_only (i := 5) rfl (by kernel_rfl) (by kernel_rfl) ?_
        go_simp
        have hl41 := hb41.size
        refine (some_any c _ (keptN c.trials.length m : Int) (by omega) w.heap.size z41 (by omega) (HCE.out z41 (below_after HB4.out hb41 (Nat.le_refl _))) (by omega)).mono ?_
        rintro e z42 ⟨y, rfl, hy, hz⟩
        obtain ⟨_, _, _, _, _, _, rfl, -⟩ := id hy.open
        have hb42 : Below w4.heap.size w4 z42 := hb41.trans (hz.mono hb41.size)
        refine ⟨hb42, ?_⟩
        clear hz
        try simp only [Act.put, List.setIfInBounds_toArray, List.set_cons_zero, List.set_cons_succ]
        refine wpAnyH_only (i := 6) rfl (by kernel_rfl) (by kernel_rfl) ?_
        go_simp
        refine (CellarL_any (someC c (keptN c.trials.length m : Int)) _ _ z42 (Nat.le_refl _) hy (some_small HSM.out _)).mono ?_
        rintro e z43 ⟨y, rfl, hy3, hz⟩
        obtain ⟨_, _, _, _, _, _, rfl, -⟩ := id hy3.open
        have hb43 : Below w4.heap.size w4 z43 := hb42.trans (hz.mono hb42.size)
        refine ⟨hb43, ?_⟩
        clear hz
        try simp only [Act.put, List.setIfInBounds_toArray, List.set_cons_zero, List.set_cons_succ]
        refine wpAnyH_only (i := 7) rfl (by kernel_rfl) (by kernel_rfl) ?_
        go_simp
        refine (bounds_code HAS.out (some_small HSM.out _) _ _ z43 (Nat.le_refl _) hy3).mono ?_
        rintro e z44 ⟨va4, vb4, rfl, hz⟩
        have hb44 : Below w4.heap.size w4 z44 := hb43.trans (hz.mono hb43.size)
        refine ⟨hb44, ?_⟩
        clear hz
        try simp only [Act.put, List.setIfInBounds_toArray, List.set_cons_zero, List.set_cons_succ]
        refine wpAnyH_take (i := 8) (v := .tuple #[va4, vb4, .int .i64 0]) rfl (by kernel_rfl) (by kernel_rfl) (by kernel_rfl) (fun _ _ _ h => h) (.inl ⟨by rfl, ?_⟩) hb44 ?_
        · intro w' hw'
          go_simp
        try simp only [Act.put, List.setIfInBounds_toArray, List.set_cons_zero, List.set_cons_succ]
        refine wpAnyH_take (i := 9) (v := va4) rfl (by kernel_rfl) (by kernel_rfl) (by kernel_rfl) (fun _ _ _ h => h) (.inl ⟨by rfl, ?_⟩) hb44 ?_
        · intro w' hw'
          go_simp
        try simp only [Act.put, List.setIfInBounds_toArray, List.set_cons_zero, List.set_cons_succ]
        refine wpAnyH_take (i := 10) (v := vb4) rfl (by kernel_rfl) (by kernel_rfl) (by kernel_rfl) (fun _ _ _ h => h) (.inl ⟨by rfl, ?_⟩) hb44 ?_
        · intro w' hw'
          go_simp
        try simp only [Act.put, List.setIfInBounds_toArray, List.set_cons_zero, List.set_cons_succ]
        refine wpAnyH_take (i := 11) (v := .int .i64 0) rfl (by kernel_rfl) (by kernel_rfl) (by kernel_rfl) (fun _ _ _ h => h) (.inl ⟨by rfl, ?_⟩) hb44 ?_
        · intro w' hw'
          go_simp
        try simp only [Act.put, List.setIfInBounds_toArray, List.set_cons_zero, List.set_cons_succ]
        have HBL4 := hid hb44
        clear hb44
        refine wpAnyH_only (i := 12) rfl (by kernel_rfl) (by kernel_rfl) ?_
        go_simp
        refine ⟨HBL4.out, ?_⟩
        try simp only [Act.put, List.setIfInBounds_toArray, List.set_cons_zero, List.set_cons_succ]
        refine wpAnyH_only (i := 13) rfl (by kernel_rfl) (by kernel_rfl) ?_
        go_simp
        refine ⟨HBL4.out, ?_⟩
        try simp only [Act.put, List.setIfInBounds_toArray, List.set_cons_zero, List.set_cons_succ]
        refine wpAnyH_only (i := 14) rfl (by kernel_rfl) (by kernel_rfl) ?_
        go_simp
        refine ⟨HBL4.out, ?_⟩
        try simp only [Act.put, List.setIfInBounds_toArray, List.set_cons_zero, List.set_cons_succ]
        refine wpAnyH_done (by kernel_rfl) ?_ _
        have HB4E := hid (below_after HB4.out HBL4.out (Nat.le_refl _))
        clear j0 j1 j2
        have HC4E := hid (below_after HC4.out HBL4.out (Nat.le_refl _))
        rw [HAN.out]
        clear hs4
        rcases HOT.out with hot | ⟨hot, hsh⟩
        · have HOK := hid hot
          clear hot
          go_wp2_with fail
          have HB5 := hid HB4E.out
          have j0 := cell_of_row (HBOX.out z44 HB5.out) 0
          have j1 := cell_of_row (HBOX.out z44 HB5.out) 1
          have j2 := cell_of_row (HBOX.out z44 HB5.out) 2
          simp only [List.getElem?_toArray, List.getElem?_cons_zero, List.getElem?_cons_succ] at j0 j1 j2
          have hs5 := HB5.out.size
          have lw5 : w.heap.size < z44.heap.size := by omega
          obtain ⟨E5, hE⟩ : ∃ E, E = z44.drew := ⟨_, rfl⟩
          refine wp_region_held (S := fun w' => Below z44.heap.size z44 w') (by kernel_rfl) ?_
          change wpAnyH _ _ _ _ _ _ _ _ z44.drew
          rw [← hE]
          have hb50 : Below z44.heap.size z44 E5 := by rw [hE]; exact (Below.refl _ _).drew
          clear hE
          refine wpAnyH_take (i := 0) (v := .agg #[.slice ha c.heaps.length hc, .slice ka c.casks.length kc, .slice ta c.trials.length tc]) rfl (by kernel_rfl) (by kernel_rfl) (by kernel_rfl) (fun _ _ _ h => h) (.inl ⟨by rfl, ?_⟩) hb50 ?_
          · intro w' hw'
            have hcc := (bcell hw').1
            go_simp
          try simp only [Act.put, List.setIfInBounds_toArray, List.set_cons_zero, List.set_cons_succ]
          refine wpAnyH_take (i := 1) (v := .agg #[.slice ha c.heaps.length hc, .slice ka c.casks.length kc, .slice ta c.trials.length tc]) rfl (by kernel_rfl) (by kernel_rfl) (by kernel_rfl) (fun _ _ _ h => h) (.inl ⟨by rfl, ?_⟩) hb50 ?_
          · intro w' hw'
            have hcc := (bcell hw').1
            go_simp
          try simp only [Act.put, List.setIfInBounds_toArray, List.set_cons_zero, List.set_cons_succ]
          refine wpAnyH_take (i := 3) (v := .int .i64 (d : Int)) rfl (by kernel_rfl) (by kernel_rfl) (by kernel_rfl) (fun _ _ _ h => h) (.inl ⟨by rfl, ?_⟩) hb50 ?_
          · intro w' hw'
            go_simp
          try simp only [Act.put, List.setIfInBounds_toArray, List.set_cons_zero, List.set_cons_succ]
          refine wpAnyH_only (i := 2) rfl (by kernel_rfl) (by kernel_rfl) ?_
          go_simp
          refine (full_any c _ w.heap.size E5 (HCE.out E5 (below_after HB5.out hb50 (Nat.le_refl _))) g4).mono ?_
          rintro e z51 ⟨rfl, hz⟩
          have hb51 : Below z44.heap.size z44 z51 := hb50.trans (hz.mono hb50.size)
          refine ⟨hb51, ?_⟩
          clear hz
          try simp only [Act.put, List.setIfInBounds_toArray, List.set_cons_zero, List.set_cons_succ]
          refine wpAnyH_take (i := 4) (v := .int .i64 (keptN c.trials.length d : Int)) rfl (by kernel_rfl) (by kernel_rfl) (by kernel_rfl) (fun _ _ _ h => h) (.inl ⟨by rfl, ?_⟩) hb51 ?_
          · intro w' hw'
            go_simp; try rw [HAD.out]
          try simp only [Act.put, List.setIfInBounds_toArray, List.set_cons_zero, List.set_cons_succ]
          refine wpAnyH_only (i := 5) rfl (by kernel_rfl) (by kernel_rfl) ?_
          go_simp
          have hl51 := hb51.size
          refine (some_any c _ (keptN c.trials.length d : Int) (by omega) w.heap.size z51 (by omega) (HCE.out z51 (below_after HB5.out hb51 (Nat.le_refl _))) (by omega)).mono ?_
          rintro e z52 ⟨y, rfl, hy, hz⟩
          obtain ⟨_, _, _, _, _, _, rfl, -⟩ := id hy.open
          have hb52 : Below z44.heap.size z44 z52 := hb51.trans (hz.mono hb51.size)
          refine ⟨hb52, ?_⟩
          clear hz
          try simp only [Act.put, List.setIfInBounds_toArray, List.set_cons_zero, List.set_cons_succ]
          refine wpAnyH_only (i := 6) rfl (by kernel_rfl) (by kernel_rfl) ?_
          go_simp
          refine (CellarL_any (someC c (keptN c.trials.length d : Int)) _ _ z52 (Nat.le_refl _) hy (some_small HSM.out _)).mono ?_
          rintro e z53 ⟨y, rfl, hy3, hz⟩
          obtain ⟨_, _, _, _, _, _, rfl, -⟩ := id hy3.open
          have hb53 : Below z44.heap.size z44 z53 := hb52.trans (hz.mono hb52.size)
          refine ⟨hb53, ?_⟩
          clear hz
          try simp only [Act.put, List.setIfInBounds_toArray, List.set_cons_zero, List.set_cons_succ]
          refine wpAnyH_only (i := 7) rfl (by kernel_rfl) (by kernel_rfl) ?_
          go_simp
          refine (bounds_code HOK.out (some_small HSM.out _) _ _ z53 (Nat.le_refl _) hy3).mono ?_
          rintro e z54 ⟨va5, vb5, rfl, hz⟩
          have hb54 : Below z44.heap.size z44 z54 := hb53.trans (hz.mono hb53.size)
          refine ⟨hb54, ?_⟩
          clear hz
          try simp only [Act.put, List.setIfInBounds_toArray, List.set_cons_zero, List.set_cons_succ]
          refine wpAnyH_take (i := 8) (v := .tuple #[va5, vb5, .int .i64 11]) rfl (by kernel_rfl) (by kernel_rfl) (by kernel_rfl) (fun _ _ _ h => h) (.inl ⟨by rfl, ?_⟩) hb54 ?_
          · intro w' hw'
            go_simp
          try simp only [Act.put, List.setIfInBounds_toArray, List.set_cons_zero, List.set_cons_succ]
          refine wpAnyH_take (i := 9) (v := va5) rfl (by kernel_rfl) (by kernel_rfl) (by kernel_rfl) (fun _ _ _ h => h) (.inl ⟨by rfl, ?_⟩) hb54 ?_
          · intro w' hw'
            go_simp
          try simp only [Act.put, List.setIfInBounds_toArray, List.set_cons_zero, List.set_cons_succ]
          refine wpAnyH_take (i := 10) (v := vb5) rfl (by kernel_rfl) (by kernel_rfl) (by kernel_rfl) (fun _ _ _ h => h) (.inl ⟨by rfl, ?_⟩) hb54 ?_
          · intro w' hw'
            go_simp
          try simp only [Act.put, List.setIfInBounds_toArray, List.set_cons_zero, List.set_cons_succ]
          refine wpAnyH_take (i := 11) (v := .int .i64 11) rfl (by kernel_rfl) (by kernel_rfl) (by kernel_rfl) (fun _ _ _ h => h) (.inl ⟨by rfl, ?_⟩) hb54 ?_
          · intro w' hw'
            go_simp
          try simp only [Act.put, List.setIfInBounds_toArray, List.set_cons_zero, List.set_cons_succ]
          have HBL5 := hid hb54
          clear hb54
          refine wpAnyH_only (i := 12) rfl (by kernel_rfl) (by kernel_rfl) ?_
          go_simp
          refine ⟨HBL5.out, ?_⟩
          try simp only [Act.put, List.setIfInBounds_toArray, List.set_cons_zero, List.set_cons_succ]
          refine wpAnyH_only (i := 13) rfl (by kernel_rfl) (by kernel_rfl) ?_
          go_simp
          refine ⟨HBL5.out, ?_⟩
          try simp only [Act.put, List.setIfInBounds_toArray, List.set_cons_zero, List.set_cons_succ]
          refine wpAnyH_only (i := 14) rfl (by kernel_rfl) (by kernel_rfl) ?_
          go_simp
          refine ⟨HBL5.out, ?_⟩
          try simp only [Act.put, List.setIfInBounds_toArray, List.set_cons_zero, List.set_cons_succ]
          refine wpAnyH_done (by kernel_rfl) ?_ _
          have HB5E := hid (below_after HB5.out HBL5.out (Nat.le_refl _))
          clear j0 j1 j2
          go_wp2_with (go_at_call 20; refine (awake_any _).mono ?_; rintro e wz ⟨rfl, hbz⟩)
          go_ret
          exact ⟨rfl, hWb.trans ((below_after HB5E.out hbz (Nat.le_refl _)).mono (by omega))⟩
        · have HOK := hid hot
          clear hot
          have HSH := hid hsh
          clear hsh
          go_wp2_with fail
          have HB5 := hid HB4E.out
          have j0 := cell_of_row (HBOX.out z44 HB5.out) 0
          have j1 := cell_of_row (HBOX.out z44 HB5.out) 1
          have j2 := cell_of_row (HBOX.out z44 HB5.out) 2
          simp only [List.getElem?_toArray, List.getElem?_cons_zero, List.getElem?_cons_succ] at j0 j1 j2
          have hs5 := HB5.out.size
          have lw5 : w.heap.size < z44.heap.size := by omega
          obtain ⟨E5, hE⟩ : ∃ E, E = z44.drew := ⟨_, rfl⟩
          refine wp_region_held (S := fun w' => Below z44.heap.size z44 w') (by kernel_rfl) ?_
          change wpAnyH _ _ _ _ _ _ _ _ z44.drew
          rw [← hE]
          have hb50 : Below z44.heap.size z44 E5 := by rw [hE]; exact (Below.refl _ _).drew
          clear hE
          refine wpAnyH_take (i := 0) (v := .agg #[.slice ha c.heaps.length hc, .slice ka c.casks.length kc, .slice ta c.trials.length tc]) rfl (by kernel_rfl) (by kernel_rfl) (by kernel_rfl) (fun _ _ _ h => h) (.inl ⟨by rfl, ?_⟩) hb50 ?_
          · intro w' hw'
            have hcc := (bcell hw').1
            go_simp
          try simp only [Act.put, List.setIfInBounds_toArray, List.set_cons_zero, List.set_cons_succ]
          refine wpAnyH_take (i := 1) (v := .agg #[.slice ha c.heaps.length hc, .slice ka c.casks.length kc, .slice ta c.trials.length tc]) rfl (by kernel_rfl) (by kernel_rfl) (by kernel_rfl) (fun _ _ _ h => h) (.inl ⟨by rfl, ?_⟩) hb50 ?_
          · intro w' hw'
            have hcc := (bcell hw').1
            go_simp
          try simp only [Act.put, List.setIfInBounds_toArray, List.set_cons_zero, List.set_cons_succ]
          refine wpAnyH_take (i := 3) (v := .int .i64 (d : Int)) rfl (by kernel_rfl) (by kernel_rfl) (by kernel_rfl) (fun _ _ _ h => h) (.inl ⟨by rfl, ?_⟩) hb50 ?_
          · intro w' hw'
            go_simp
          try simp only [Act.put, List.setIfInBounds_toArray, List.set_cons_zero, List.set_cons_succ]
          refine wpAnyH_only (i := 2) rfl (by kernel_rfl) (by kernel_rfl) ?_
          go_simp
          refine (full_any c _ w.heap.size E5 (HCE.out E5 (below_after HB5.out hb50 (Nat.le_refl _))) g4).mono ?_
          rintro e z51 ⟨rfl, hz⟩
          have hb51 : Below z44.heap.size z44 z51 := hb50.trans (hz.mono hb50.size)
          refine ⟨hb51, ?_⟩
          clear hz
          try simp only [Act.put, List.setIfInBounds_toArray, List.set_cons_zero, List.set_cons_succ]
          refine wpAnyH_take (i := 4) (v := .int .i64 (keptN c.trials.length d : Int)) rfl (by kernel_rfl) (by kernel_rfl) (by kernel_rfl) (fun _ _ _ h => h) (.inl ⟨by rfl, ?_⟩) hb51 ?_
          · intro w' hw'
            go_simp; try rw [HAD.out]
          try simp only [Act.put, List.setIfInBounds_toArray, List.set_cons_zero, List.set_cons_succ]
          refine wpAnyH_only (i := 5) rfl (by kernel_rfl) (by kernel_rfl) ?_
          go_simp
          have hl51 := hb51.size
          refine (some_any c _ (keptN c.trials.length d : Int) (by omega) w.heap.size z51 (by omega) (HCE.out z51 (below_after HB5.out hb51 (Nat.le_refl _))) (by omega)).mono ?_
          rintro e z52 ⟨y, rfl, hy, hz⟩
          obtain ⟨_, _, _, _, _, _, rfl, -⟩ := id hy.open
          have hb52 : Below z44.heap.size z44 z52 := hb51.trans (hz.mono hb51.size)
          refine ⟨hb52, ?_⟩
          clear hz
          try simp only [Act.put, List.setIfInBounds_toArray, List.set_cons_zero, List.set_cons_succ]
          refine wpAnyH_only (i := 6) rfl (by kernel_rfl) (by kernel_rfl) ?_
          go_simp
          refine (CellarL_any (someC c (keptN c.trials.length d : Int)) _ _ z52 (Nat.le_refl _) hy (some_small HSM.out _)).mono ?_
          rintro e z53 ⟨y, rfl, hy3, hz⟩
          obtain ⟨_, _, _, _, _, _, rfl, -⟩ := id hy3.open
          have hb53 : Below z44.heap.size z44 z53 := hb52.trans (hz.mono hb52.size)
          refine ⟨hb53, ?_⟩
          clear hz
          try simp only [Act.put, List.setIfInBounds_toArray, List.set_cons_zero, List.set_cons_succ]
          refine wpAnyH_only (i := 7) rfl (by kernel_rfl) (by kernel_rfl) ?_
          go_simp
          refine (bounds_code HOK.out (some_small HSM.out _) _ _ z53 (Nat.le_refl _) hy3).mono ?_
          rintro e z54 ⟨va5, vb5, rfl, hz⟩
          have hb54 : Below z44.heap.size z44 z54 := hb53.trans (hz.mono hb53.size)
          refine ⟨hb54, ?_⟩
          clear hz
          try simp only [Act.put, List.setIfInBounds_toArray, List.set_cons_zero, List.set_cons_succ]
          refine wpAnyH_take (i := 8) (v := .tuple #[va5, vb5, .int .i64 0]) rfl (by kernel_rfl) (by kernel_rfl) (by kernel_rfl) (fun _ _ _ h => h) (.inl ⟨by rfl, ?_⟩) hb54 ?_
          · intro w' hw'
            go_simp
          try simp only [Act.put, List.setIfInBounds_toArray, List.set_cons_zero, List.set_cons_succ]
          refine wpAnyH_take (i := 9) (v := va5) rfl (by kernel_rfl) (by kernel_rfl) (by kernel_rfl) (fun _ _ _ h => h) (.inl ⟨by rfl, ?_⟩) hb54 ?_
          · intro w' hw'
            go_simp
          try simp only [Act.put, List.setIfInBounds_toArray, List.set_cons_zero, List.set_cons_succ]
          refine wpAnyH_take (i := 10) (v := vb5) rfl (by kernel_rfl) (by kernel_rfl) (by kernel_rfl) (fun _ _ _ h => h) (.inl ⟨by rfl, ?_⟩) hb54 ?_
          · intro w' hw'
            go_simp
          try simp only [Act.put, List.setIfInBounds_toArray, List.set_cons_zero, List.set_cons_succ]
          refine wpAnyH_take (i := 11) (v := .int .i64 0) rfl (by kernel_rfl) (by kernel_rfl) (by kernel_rfl) (fun _ _ _ h => h) (.inl ⟨by rfl, ?_⟩) hb54 ?_
          · intro w' hw'
            go_simp
          try simp only [Act.put, List.setIfInBounds_toArray, List.set_cons_zero, List.set_cons_succ]
          have HBL5 := hid hb54
          clear hb54
          refine wpAnyH_only (i := 12) rfl (by kernel_rfl) (by kernel_rfl) ?_
          go_simp
          refine ⟨HBL5.out, ?_⟩
          try simp only [Act.put, List.setIfInBounds_toArray, List.set_cons_zero, List.set_cons_succ]
          refine wpAnyH_only (i := 13) rfl (by kernel_rfl) (by kernel_rfl) ?_
          go_simp
          refine ⟨HBL5.out, ?_⟩
          try simp only [Act.put, List.setIfInBounds_toArray, List.set_cons_zero, List.set_cons_succ]
          refine wpAnyH_only (i := 14) rfl (by kernel_rfl) (by kernel_rfl) ?_
          go_simp
          refine ⟨HBL5.out, ?_⟩
          try simp only [Act.put, List.setIfInBounds_toArray, List.set_cons_zero, List.set_cons_succ]
          refine wpAnyH_done (by kernel_rfl) ?_ _
          have HB5E := hid (below_after HB5.out HBL5.out (Nat.le_refl _))
          clear j0 j1 j2
          have HC5E := hid (below_after HC4E.out HBL5.out (Nat.le_refl _))
          go_wp2_with fail
          refine (bits_any d (by omega) _).mono ?_
          rintro e w7 ⟨v7, rfl, ho7, hb7⟩
          have hi7 : Ints (Lt w7.heap.size) w7 v7 (bitsL d) := ho7.slLt (fun _ => rfl)
          obtain ⟨_, _, rfl, -, -⟩ := id hi7.open1
          have HB7 := hid (below_after HB5E.out hb7 (Nat.le_refl _))
          have hl7 : Below w3.heap.size w3 w7 := below_after HC5E.out hb7 (Nat.le_refl _)
          have hi3 := (HI3.out.below hl7).le hl7.size
          clear hb7 ho7 hl7
          go_wp2_with fail
          refine (shorter_hid (bitsL d) (bitsL m) HSH _ _ w7.heap.size w7 hi7 hi3 (Nat.le_refl _) (by omega) (by omega)).mono ?_
          rintro e w8 ⟨rfl, hb8⟩
          have HB8 := hid (below_after HB7.out hb8 (Nat.le_refl _))
          clear hb8 hi7 hi3
          go_wp2_with (go_at_call 20; refine (awake_any _).mono ?_; rintro e wz ⟨rfl, hbz⟩)
          go_ret
          exact ⟨rfl, hWb.trans ((below_after HB8.out hbz (Nat.le_refl _)).mono (by omega))⟩
end Go.Proofs.Ytjddcaimjofihaa
