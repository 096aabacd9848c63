/- Contract of package crop: CheckField of a valid field; no condition. -/
import Derived.Test.YtjddcaimjofihaaK8
namespace Go.Proofs.Ytjddcaimjofihaa
open Go.RowKit Go.Shelf
set_option maxRecDepth 100000

theorem push0 (a : Value) : ((#[] : Array Value).push a ++ #[]) = #[a] := by simp
theorem growth_all (f : Fl) (hg : GoodF f) (v : Value) (n : Nat) (w : World) (hn : n ≤ w.heap.size) (h : Rgs (Lt n) w v f.growth) :
    Calls Try.prog 141 #[v, .func (.func 142) #[] #[]] w fun e w' => e = .returned (.bool true) ∧ Below w.heap.size w w' := by
  refine (allR_pass 142 #[] #[] (enters_of Try.func142 (by kernel_rfl) rfl) f.growth v n w hn h (by have := hg.growthL; have := hg.last; omega) (fun _ => False) (fun b hb => hb.elim) (fun _ _ => True) trivial (fun _ _ _ _ _ => trivial) (fun k hk w' _ _ => ?_)).mono fun e w' ⟨h1, h2, _⟩ => ⟨h1, h2.below (Nat.le_refl _) fun _ _ h => h⟩
  rw [push0]
  exact (growthK_yes (hg.growth f.growth[k] (List.getElem_mem _)) w').mono fun e w'' ⟨h1, h2⟩ => ⟨h1, chg_of_below h2, trivial⟩
theorem wet_all (f : Fl) (hg : GoodF f) (v : Value) (n : Nat) (w : World) (hn : n ≤ w.heap.size) (h : Ints (Lt n) w v f.wet) :
    Calls Try.prog 143 #[v, .func (.func 144) #[] #[]] w fun e w' => e = .returned (.bool true) ∧ Below w.heap.size w w' := by
  refine (allI_pass 144 #[] #[] (enters_of Try.func144 (by kernel_rfl) rfl) f.wet v n w hn h (by have := hg.wetL; have := hg.last; omega) (fun _ => False) (fun b hb => hb.elim) (fun _ _ => True) trivial (fun _ _ _ _ _ => trivial) (fun k hk w' _ _ => ?_)).mono fun e w' ⟨h1, h2, _⟩ => ⟨h1, h2.below (Nat.le_refl _) fun _ _ h => h⟩
  rw [push0]
  exact (wetK_yes (hg.wet f.wet[k] (List.getElem_mem _)) w').mono fun e w'' ⟨h1, h2⟩ => ⟨h1, h2 ▸ Chg.refl _ _, trivial⟩
theorem look_all (f : Fl) (hg : GoodF f) (fv : Value) (v : Value) (n : Nat) (w : World) (hn : n ≤ w.heap.size) (h : Lks (Lt n) w v f.looks) (hf : FlV (Lt n) w fv f) :
    Calls Try.prog 145 #[v, .func (.func 137) #[fv] #[]] w fun e w' => e = .returned (.bool true) ∧ Below w.heap.size w w' := by
  refine (allL_pass 137 #[fv] #[] (enters_of Try.func137 (by kernel_rfl) rfl) f.looks v n w hn h (by have := hg.looksL; omega) (fun _ => False) (fun b hb => hb.elim) (fun _ w' => n ≤ w'.heap.size ∧ FlV (Lt n) w' fv f) ⟨hn, hf⟩ (fun _ a b h k => ⟨Nat.le_trans h.1 k.size, h.2.below (k.mono h.1)⟩) (fun k hk w' _ hj => ?_)).mono fun e w' ⟨h1, h2, _⟩ => ⟨h1, h2.below (Nat.le_refl _) fun _ _ h => h⟩
  rw [push1]
  exact (lookK_yes f (hg.looks f.looks[k] (List.getElem_mem _)) fv n w' hj.1 hj.2).mono fun e w'' ⟨h1, h2⟩ => ⟨h1, chg_of_below h2, Nat.le_trans hj.1 h2.size, hj.2.below (h2.mono hj.1)⟩

set_option maxHeartbeats 8000000 in
theorem checkK_ok (f : Fl) (hg : FewF f) (v : Value) (n : Nat) (w : World) (hn : n ≤ w.heap.size) (h : FlV (Lt n) w v f) :
    Calls Try.prog 98 #[v] w fun e w' => e = .returned (.int .i64 0) ∧ Below w.heap.size w w' := by
  have hmf : ∀ (fn : Fn) (first cap : Array Value) (w : World), (Instr.makeFunc fn first cap).run Try.prog w = .ok (.func fn first cap) w := fun _ _ _ _ => rfl
  have HM := hid (many_few hg.1 hg.2)
  have HRS := hid hg.1.ranges
  have HGD := hid hg.1
  obtain ⟨g1, g2⟩ := hg.1.last
  have HGL := hid hg.1.growthL
  have HWL := hid hg.1.wetL
  have hbl := hg.1.baseL
  have hll := hg.1.looksL
  have h' := h
  obtain ⟨ga, gc, wa, wc, ba, bc, ca, cc, la, lc, rfl, hp1, hp2, hp3, hp4, hp5⟩ := h.open
  obtain ⟨W, hW⟩ : ∃ W, W = w.alloc (Obj.cells #[.int .i64 f.last, .slice ga f.growth.length gc, .slice wa f.wet.length wc, .slice ba f.base.length bc, .slice ca f.crops.length cc, .int .i64 f.ripe, .int .i64 f.late, .int .i64 f.trod, .slice la f.looks.length lc] 87) := ⟨_, rfl⟩
  have hWs : W.heap.size = w.heap.size + 1 := by rw [hW]; simp
  have hWb : Below w.heap.size w W := by rw [hW]; exact below_alloc1 (Nat.le_refl _) _
  have hWr : W.heap[w.heap.size]? = some (.cells #[.int .i64 f.last, .slice ga f.growth.length gc, .slice wa f.wet.length wc, .slice ba f.base.length bc, .slice ca f.crops.length cc, .int .i64 f.ripe, .int .i64 f.late, .int .i64 f.trod, .slice la f.looks.length lc] 87 (0, 0)) := by rw [hW]; exact heap_new _ _
  have HBOX := hid (fun w1 (hb : Below W.heap.size W w1) => (hb.block w.heap.size (by omega)).trans hWr : ∀ w1, Below W.heap.size W w1 → w1.heap[w.heap.size]? = _)
  clear hWr
  have HFL := hid (fun w1 (hb : Below W.heap.size W w1) => h'.below ((hWb.trans (hb.mono (by omega))).mono hn) : ∀ w1, Below W.heap.size W w1 → FlV (Lt n) w1 _ f)
  have HGR := hid (fun w1 (hb : Below W.heap.size W w1) => hp1.below ((hWb.trans (hb.mono (by omega))).mono hn) : ∀ w1, Below W.heap.size W w1 → Rgs (Lt n) w1 _ f.growth)
  have HWT := hid (fun w1 (hb : Below W.heap.size W w1) => hp2.below ((hWb.trans (hb.mono (by omega))).mono hn) : ∀ w1, Below W.heap.size W w1 → Ints (Lt n) w1 _ f.wet)
  have HCR := hid (fun w1 (hb : Below W.heap.size W w1) => hp4.below ((hWb.trans (hb.mono (by omega))).mono hn) : ∀ w1, Below W.heap.size W w1 → Ints (Lt n) w1 _ f.crops)
  have HLK := hid (fun w1 (hb : Below W.heap.size W w1) => hp5.below ((hWb.trans (hb.mono (by omega))).mono hn) : ∀ w1, Below W.heap.size W w1 → Lks (Lt n) w1 _ f.looks)
  have HCL := hid (show f.crops.length ≤ 1000 by have := (planB_iff.1 hg.1.crops).1; omega)
  clear hp1 hp2 hp3 hp4 hp5 h h' hg
  have d1 : decide (9 < f.last) = false := decide_eq_false (by omega)
  have d2 : decide ((3 : Int) < (f.base.length : Int)) = false := decide_eq_false (by omega)
  have d2n : decide (3 < f.base.length) = false := decide_eq_false (by omega)
  have d3 : decide ((5 : Int) < (f.looks.length : Int)) = false := decide_eq_false (by omega)
  have d3n : decide (5 < f.looks.length) = false := decide_eq_false (by omega)
  have z1 : ((f.growth.length : Int) != f.last + 1) = false := by rw [bne_eq_false_iff_eq]; exact HGL.out
  have z2 : ((f.wet.length : Int) != f.last + 1) = false := by rw [bne_eq_false_iff_eq]; exact HWL.out
  go_enter Try.func98, Try.ntmps98
  have hrow := HBOX.out W (Below.refl _ _)
  have j0 := cell_of_row hrow 0
  have j1 := cell_of_row hrow 1
  have j2 := cell_of_row hrow 2
  have j3 := cell_of_row hrow 3
  have j4 := cell_of_row hrow 4
  have j5 := cell_of_row hrow 5
  have j6 := cell_of_row hrow 6
  have j7 := cell_of_row hrow 7
  have j8 := cell_of_row hrow 8
  simp only [List.getElem?_toArray, List.getElem?_cons_zero, List.getElem?_cons_succ] at j0 j1 j2 j3 j4 j5 j6 j7 j8
  clear hrow
  have hgl : w.heap.size < W.heap.size := by omega
  go_wp2
  rw [← hW]
  clear hW
  obtain ⟨hgc, hgf⟩ := grew_cells W
  refine wp_region_grew (by kernel_rfl) (by kernel_rfl) ?_
  repeat (go_big_quiet_step ((first
    | (go_at_call 138; exact grew_of (numbersK_yes f HGD.out _ n _ (HFL.out _ (grew_below W _))))
    | (go_at_call 139; exact grew_of (weeksK_any f ⟨g1, g2⟩ _ n _ (HFL.out _ (grew_below W _))))
    | (go_at_call 140; exact grew_of (baseK_yes f HGD.out _ n _ (by have := (grew_below W (by assumption)).size; omega) (HFL.out _ (grew_below W _))))
    | (go_at_call 100; exact grew_of (planK_yes f ⟨g1, g2⟩ _ f.crops HGD.out.crops _ n _ (by have := (grew_below W (by assumption)).size; omega) (HFL.out _ (grew_below W _)) (HCR.out _ (grew_below W _)) HCL.out))
    | (go_at_call 141; exact grew_of (growth_all f HGD.out _ n _ (by have := (grew_below W (by assumption)).size; omega) (HGR.out _ (grew_below W _))))
    | (go_at_call 143; exact grew_of (wet_all f HGD.out _ n _ (by have := (grew_below W (by assumption)).size; omega) (HWT.out _ (grew_below W _))))
    | (go_at_call 145; exact grew_of (look_all f HGD.out _ _ n _ (by have := (grew_below W (by assumption)).size; omega) (HLK.out _ (grew_below W _)) (HFL.out _ (grew_below W _)))))))
  refine wpQuiet_nil ?_
  rintro _ ⟨ex, rfl⟩
  have hbE := grew_below W ex
  generalize World.grew W ex = w3 at *
  have HE := hid hbE
  have hs3 := hbE.size
  clear j0 j1 j2 j3 j4 j5 j6 j7 j8 hgc hgf hgl
  have hrow := HBOX.out w3 hbE
  have j0 := cell_of_row hrow 0
  have j1 := cell_of_row hrow 1
  have j2 := cell_of_row hrow 2
  have j3 := cell_of_row hrow 3
  have j4 := cell_of_row hrow 4
  have j5 := cell_of_row hrow 5
  have j6 := cell_of_row hrow 6
  have j7 := cell_of_row hrow 7
  have j8 := cell_of_row hrow 8
  simp only [List.getElem?_toArray, List.getElem?_cons_zero, List.getElem?_cons_succ] at j0 j1 j2 j3 j4 j5 j6 j7 j8
  clear hrow
  clear hbE
  have hgl : w.heap.size < w3.heap.size := by omega
  have hlr : (rangesF f).length ≤ 40 := by
    have := HGL.out
    have := HWL.out
    simp only [rangesF, List.length_append, List.length_map]
    omega
  go_wp2_with fail
  refine (rangesK_any f (by have := HGL.out; omega) (by have := HWL.out; omega) _ n w3 (by omega) (HFL.out _ HE.out)).mono ?_
  rintro e w4 ⟨v4, rfl, hown4, hb4⟩
  have HB4 := hid (below_after HE.out hb4 (Nat.le_refl _))
  have hs4 := HB4.out.size
  have HI := hid (hown4.slLt encR_length)
  obtain ⟨pa, pc, hv4, -, ho4⟩ := id (show Rgs _ _ _ _ from HI.out).open2
  have HO := hid ho4
  subst hv4
  clear j0 j1 j2 j3 j4 j5 j6 j7 j8 hb4 hown4 ho4 d1 d2 d2n d3 d3n z1 z2
  go_wp2_with fail
  go_loopw [4, 79] (fun m i wr => ∃ (k : Nat) (x : Int), k ≤ (rangesF f).length ∧ i = .int .i64 k ∧ m = .int .i64 x ∧ 0 ≤ x ∧ x ≤ 2001 ∧ Hid (manyTo 2001 ((rangesF f).drop k) x = manyTo 2001 (rangesF f) 1) ∧ Below w4.heap.size w4 wr) (fun _ i _ => (rangesF f).length - (intOf i).toNat)
  case atStart => exact ⟨0, 1, by omega, rfl, rfl, by omega, by omega, hid rfl, Below.refl _ _⟩
  case round =>
    obtain ⟨k, x, hk, rfl, rfl, h0, h1, HN, hb⟩ := hrel
    by_cases hlt : k < (rangesF f).length
    · have HD := hid (List.drop_eq_getElem_cons hlt)
      rcases HO.out with hnil | ⟨b, off, rfl, hbn, hcc⟩
      · rw [hnil] at hlt; simp at hlt
      have hbw : b < w4.heap.size := hbn
      obtain ⟨c0, c1⟩ := hcc k hlt
      replace c0 := ((bcell hb).1 b _ hbw).trans c0
      replace c1 := ((bcell hb).1 b _ hbw).trans c1
      obtain ⟨r0, r1, r2⟩ := HRS.out (rangesF f)[k] (List.getElem_mem _)
      generalize (rangesF f)[k] = r at *
      clear hcc
      have hbr : b < wr.heap.size := Nat.lt_of_lt_of_le hbw hb.size
      have hml : 0 ≤ x * (r.hi - r.lo + 1) := Int.mul_nonneg h0 (by omega)
      have hmu : x * (r.hi - r.lo + 1) ≤ 202101 := by
        have := Int.mul_le_mul h1 (show r.hi - r.lo + 1 ≤ 101 by omega) (by omega) (by omega); omega
      have HQ := hid (show manyTo 2001 (r :: (rangesF f).drop (k + 1)) x = manyTo 2001 ((rangesF f).drop (k + 1)) (min (x * (r.hi - r.lo + 1)) 2001) from rfl)
      have HBW := hid hb
      have hbws := hb.size
      clear hb
      go_wp2_with (first
        | (go_at_call 148; refine (sizeK_any _ _ _ ⟨r0, r1, r2⟩).mono ?_; rw [show size ⟨r.lo, r.hi⟩ = r.hi - r.lo + 1 from rfl]; rintro e w5 ⟨rfl, hb8⟩)
        | (go_at_call 147; refine (minimumK_any (x * (r.hi - r.lo + 1)) 2001 _ _ _ (by go_simp) (by go_simp)).mono ?_; generalize hy : min (x * (r.hi - r.lo + 1)) 2001 = y; rintro e w6 ⟨rfl, rfl⟩; have HY := hid hy; clear hy))
      have hy := HY.out
      go_roundw
      case rel => exact ⟨k + 1, y, by omega, by go_num, rfl, by omega, by omega, hid (by rw [← hy, ← HQ.out, ← HD.out]; exact HN.out), below_alloc_tail HBW.out hb8⟩
      case measure => simp [intOf]; omega
    · have HX := hid (show manyTo 2001 (rangesF f) 1 = x by rw [← HN.out, List.drop_eq_nil_of_le (by omega)]; rfl)
      have hx : ¬ 2000 < x := by have := HM.out; rw [HX.out] at this; omega
      go_wp2
      go_ret
      exact ⟨rfl, hWb.trans ((below_after HB4.out hb (Nat.le_refl _)).mono (by omega))⟩
end Go.Proofs.Ytjddcaimjofihaa
