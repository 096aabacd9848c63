/- Contracts of the statements' Thin of package crop, and of the reference's Bits and Nth; no condition. -/
import Derived.Test.YtjddcaimjofihaaK3
import Derived.Test.YtjddcaimjofihaaR2
namespace Go.Proofs.Ytjddcaimjofihaa
open Go.RowKit Go.Shelf
set_option maxRecDepth 100000

def RetThin (f : Fl) (w : World) (e : Ending) (w' : World) : Prop := ∃ b : Bool, e = .returned (.bool b) ∧ (b = true → SmallF f) ∧ Below w.heap.size w w'
theorem RetThin.bad {f : Fl} {w w' : World} (h : Below w.heap.size w w') : RetThin f w (.returned (.bool false)) w' := ⟨false, rfl, fun e => (by cases e), h⟩

set_option maxHeartbeats 4000000 in
theorem thinS_any (f : Fl) (v : Value) (n : Nat) (w : World) (hn : n ≤ w.heap.size) (h : FlV (Lt n) w v f) :
    Calls Try.prog 48 #[v] w (RetThin f w) := by
  have h' := h
  obtain ⟨ga, gc, wa, wc, ba, bc, ca, cc, la, lc, rfl, hp1, hp2, hp3, hp4, hp5⟩ := h.open
  obtain ⟨W, hW⟩ : ∃ W, W = w.alloc (Obj.cells #[.int .i64 f.last, .slice ga f.growth.length gc, .slice wa f.wet.length wc, .slice ba f.base.length bc, .slice ca f.crops.length cc, .int .i64 f.ripe, .int .i64 f.late, .int .i64 f.trod, .slice la f.looks.length lc] 78) := ⟨_, rfl⟩
  have hWs : W.heap.size = w.heap.size + 1 := by rw [hW]; simp
  have hWb : Below w.heap.size w W := by rw [hW]; exact below_alloc1 (Nat.le_refl _) _
  have hWr : W.heap[w.heap.size]? = some (.cells #[.int .i64 f.last, .slice ga f.growth.length gc, .slice wa f.wet.length wc, .slice ba f.base.length bc, .slice ca f.crops.length cc, .int .i64 f.ripe, .int .i64 f.late, .int .i64 f.trod, .slice la f.looks.length lc] 78 (0, 0)) := by rw [hW]; exact heap_new _ _
  have HBOX := hid (fun w1 (hb : Below W.heap.size W w1) => (hb.block w.heap.size (by omega)).trans hWr : ∀ w1, Below W.heap.size W w1 → w1.heap[w.heap.size]? = _)
  clear hWr
  have HFL := hid (fun w1 (hb : Below W.heap.size W w1) => h'.below ((hWb.trans (hb.mono (by omega))).mono hn) : ∀ w1, Below W.heap.size W w1 → FlV (Lt n) w1 _ f)
  have HR := hid (fun w' (hb : Below w.heap.size w w') => RetThin.bad (f := f) hb)
  clear hp1 hp2 hp3 hp4 hp5 h h'
  obtain ⟨x1, hx1⟩ : ∃ x1, x1 = decide ((f.growth.length : Int) ≤ 12) := ⟨_, rfl⟩
  obtain ⟨x2, hx2⟩ : ∃ x2, x2 = decide ((f.wet.length : Int) ≤ 12) := ⟨_, rfl⟩
  obtain ⟨x3, hx3⟩ : ∃ x3, x3 = decide ((f.base.length : Int) ≤ 5) := ⟨_, rfl⟩
  obtain ⟨x4, hx4⟩ : ∃ x4, x4 = decide ((f.crops.length : Int) ≤ 12) := ⟨_, rfl⟩
  obtain ⟨x5, hx5⟩ : ∃ x5, x5 = decide ((f.looks.length : Int) ≤ 7) := ⟨_, rfl⟩
  have hcase : (x1 = false) ∨ (x1 = true ∧ x2 = false) ∨ (x1 = true ∧ x2 = true ∧ x3 = false) ∨ (x1 = true ∧ x2 = true ∧ x3 = true ∧ x4 = false) ∨ (x1 = true ∧ x2 = true ∧ x3 = true ∧ x4 = true ∧ x5 = false) ∨
      (x1 = true ∧ x2 = true ∧ x3 = true ∧ x4 = true ∧ x5 = true) := by
    clear hx1 hx2 hx3 hx4 hx5
    cases x1 <;> cases x2 <;> cases x3 <;> cases x4 <;> cases x5 <;> simp
  rcases hcase with rfl | ⟨rfl, rfl⟩ | ⟨rfl, rfl, rfl⟩ | ⟨rfl, rfl, rfl, rfl⟩ | ⟨rfl, rfl, rfl, rfl, rfl⟩ | ⟨rfl, rfl, rfl, rfl, rfl⟩
  rotate_left 5
  · have hm : SmallF f := by
      have := of_decide_eq_true hx1.symm
      have := of_decide_eq_true hx2.symm
      have := of_decide_eq_true hx3.symm
      have := of_decide_eq_true hx4.symm
      have := of_decide_eq_true hx5.symm
      exact ⟨by omega, by omega, by omega, by omega, by omega⟩
    have HM := hid hm
    clear hm
    replace hx1 := hx1.symm
    replace hx2 := hx2.symm
    replace hx3 := hx3.symm
    replace hx4 := hx4.symm
    replace hx5 := hx5.symm
    go_enter Try.func48, Try.ntmps48
    go_wp2_with fail
    rw [← hW]
    clear hW
    refine (faultS_any f _ n W (by omega) (HFL.out _ (Below.refl _ _)) HM.out).mono ?_
    rintro e w2 ⟨x, rfl, hgood, hb2⟩
    have HB2 := hid hb2
    have HG := hid hgood
    have hrow := HBOX.out w2 hb2
    have j0 := cell_of_row hrow 0
    have j1 := cell_of_row hrow 1
    have j2 := cell_of_row hrow 2
    have j3 := cell_of_row hrow 3
    have j4 := cell_of_row hrow 4
    have j5 := cell_of_row hrow 5
    have j6 := cell_of_row hrow 6
    have j7 := cell_of_row hrow 7
    have j8 := cell_of_row hrow 8
    simp only [List.getElem?_toArray, List.getElem?_cons_zero, List.getElem?_cons_succ] at j0 j1 j2 j3 j4 j5 j6 j7 j8
    clear hrow
    have hgl : w.heap.size < w2.heap.size := by have := hb2.size; omega
    clear hb2 hgood
    by_cases hz : x = 0
    · have hz1 : (x != 0) = false := by rw [bne_eq_false_iff_eq]; exact hz
      have HGG := hid (HG.out hz)
      clear hz HG
      go_wp2_with fail
      refine (manyS_any f HGG.out.1.growth HGG.out.1.wet (by have := HGG.out.1.growthL; have := HGG.out.1.wetL; omega) HM.out.growth _ n _ (by have := HB2.out.size; omega) (HFL.out _ HB2.out)).mono ?_
      generalize manyF f.growth f.wet 1 = m
      rintro e w3 ⟨rfl, hb3⟩
      have HB3 := hid (hWb.trans ((below_after HB2.out hb3 (Nat.le_refl _)).mono (by omega)))
      clear hb3
      go_wp2
      go_ret
      exact ⟨_, rfl, fun _ => HM.out, HB3.out⟩
    · have hz1 : (x != 0) = true := by rw [bne_iff_ne]; exact hz
      clear hz HG
      go_wp2
      go_ret
      exact ⟨_, rfl, fun _ => HM.out, hWb.trans (HB2.out.mono (by omega))⟩
  all_goals
    replace hx1 := hx1.symm
    replace hx2 := hx2.symm
    replace hx3 := hx3.symm
    replace hx4 := hx4.symm
    replace hx5 := hx5.symm
    go_enter Try.func48, Try.ntmps48
    go_wp2
    go_ret
    exact HR.out _ (below_alloc1 (Nat.le_refl _) _)

/-- The bits of a number below a place. -/
theorem bitsS_any (b : Nat) (hb : b < 1024) (w : World) :
    Calls Try.prog 51 #[.int .i64 b] w fun e w' => ∃ v', e = .returned v' ∧ Own w.heap.size 3 1 encI w' v' (bitsL b) ∧ Below w.heap.size w w' := by
  have hstep : ∀ k, k < 10 → bitsFrom ((digitsB b).take (k + 1)) 0 = bitsFrom ((digitsB b).take k) 0 ++ if b.testBit k then [(k : Int)] else [] := fun k hk => by
    have hlen : (digitsB b).length = 10 := by simp [digitsB]
    rw [List.take_succ_eq_append_getElem (by omega), bitsFrom_snoc, List.length_take, Nat.min_eq_left (by omega), Nat.zero_add]
    simp [digitsB]
  have hbit : ∀ k, (b : Int) / 2 ^ k % 2 = 1 ↔ b.testBit k = true := fun k => by
    rw [Nat.testBit_eq_decide_div_mod_eq, decide_eq_true_eq]
    rw [show ((2 : Int) ^ k) = ((2 ^ k : Nat) : Int) by simp, ← Int.natCast_ediv]
    omega
  have HSTEP := hid hstep
  have HBIT := hid hbit
  clear hstep hbit
  go_enter Try.func51, Try.ntmps51
  go_wp2
  go_loopw [3, 4] (fun s i wr => ∃ k : Nat, k ≤ 10 ∧ i = .int .i64 k ∧ Own w.heap.size 3 1 encI wr s (bitsFrom ((digitsB b).take k) 0) ∧ Below w.heap.size w wr) (fun _ i _ => 10 - (intOf i).toNat)
  case atStart => exact ⟨0, by omega, rfl, Own.nil, Below.refl _ _⟩
  case round =>
    obtain ⟨k, hk, rfl, hown, hbw⟩ := hrel
    have hbs := hbw.size
    have hwk : IntKind.u64.wrap (k : Int) = k := by unfold IntKind.wrap; simp [IntKind.bits, IntKind.signed]; omega
    have hd0 : 0 ≤ (b : Int) / 2 ^ k := Int.ediv_nonneg (by omega) (Int.pow_nonneg (by decide))
    obtain ⟨pa, pc, hv0, -, -⟩ := hown.slLt encI_length
    obtain ⟨pm, hpm⟩ : ∃ pm, pm = (bitsFrom ((digitsB b).take k) 0).length := ⟨_, rfl⟩
    rw [← hpm] at hv0
    have hlen2 : (bitsFrom ((digitsB b).take k) 0).length ≤ k := by
      have h1 := (bitsFrom_rises ((digitsB b).take k) 0).length
      have h2 : ((digitsB b).take k).length ≤ k := List.length_take_le _ _
      rcases h1 with h1 | h1
      · rw [h1]; simp
      · omega
    have HLEN := hid hlen2
    clear hpm hlen2
    subst hv0
    have HOWN := hid hown
    clear hown
    by_cases hpos : 0 < (b : Int) / 2 ^ k
    · have hk10 : k < 10 := by
        rcases Nat.lt_or_ge k 10 with h | h
        · exact h
        · have : k = 10 := by omega
          subst this
          omega
      have HS := hid (HSTEP.out k hk10)
      by_cases hbit : b.testBit k = true
      · have hb1 : ((b : Int) / 2 ^ k % 2 == 1) = true := by rw [beq_iff_eq]; exact (HBIT.out k).2 hbit
        have HBT := hid hbit
        clear hbit
        go_wp2_with (at_builtin; refine wpList_append1 encI rfl (.tmp 18) (.tmp 20) 47 rfl w.heap.size 3 (.int .i64 0) 1 8 ints_under infoInt rfl (by decide) encI_length encI_one _ _ rfl (HOWN.out.below (below_alloc1 (Nat.le_refl _) _)) _ _ (k : Int) rfl (cells_new _ [Value.int .i64 (k : Int)] _) (by have := HLEN.out; omega) (by decide) (by simp; omega) ?_; intro v' w1 hown' hgrow)
        have HX := hid hown'
        have HG := hid ((HOWN.out.below (below_alloc1 (Nat.le_refl _) _)).grown hgrow (hbw.alloc (by omega) _) (Nat.le_refl _) (by simp; omega))
        clear hown' hgrow
        go_roundw
        case rel => exact ⟨k + 1, by omega, by go_num, by rw [HS.out, HBT.out]; exact HX.out, HG.out⟩
        case measure => simp [intOf]; omega
      · have hb1 : ((b : Int) / 2 ^ k % 2 == 1) = false := by rw [beq_eq_false_iff_ne]; exact fun h => hbit ((HBIT.out k).1 h)
        have HBT := hid (show b.testBit k = false by simpa using hbit)
        clear hbit
        go_wp2
        go_roundw
        case rel => exact ⟨k + 1, by omega, by go_num, by rw [HS.out, HBT.out]; simpa using HOWN.out, hbw⟩
        case measure => simp [intOf]; omega
    · have HE := hid (show bitsFrom ((digitsB b).take k) 0 = bitsL b by
        have hz : ∀ i, k ≤ i → b.testBit i = false := fun i hi => by
          have hlt : b < 2 ^ k := by
            have h1 : (b : Int) / ((2 ^ k : Nat) : Int) ≤ 0 := by simpa using hpos
            have h2 : b / 2 ^ k = 0 := Nat.le_zero.1 (Int.ofNat_le.1 (by rw [Int.natCast_ediv]; exact h1))
            rcases Nat.lt_or_ge b (2 ^ k) with h | h
            · exact h
            · have := Nat.div_pos h (Nat.pow_pos (by omega)); omega
          exact testBit_high hlt hi
        exact (bits_rest b k hk hz))
      go_wp2
      go_ret
      exact ⟨_, rfl, by rw [← HE.out]; exact HOWN.out, hbw⟩
end Go.Proofs.Ytjddcaimjofihaa
