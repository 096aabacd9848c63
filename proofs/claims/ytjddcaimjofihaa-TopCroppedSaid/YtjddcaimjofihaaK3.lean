/- Contracts of the reference of package crop: Fault, and the statements' Thin; no condition. -/
import Derived.Test.YtjddcaimjofihaaK2
namespace Go.Proofs.Ytjddcaimjofihaa
open Go.RowKit Go.Shelf
set_option maxRecDepth 100000

def FewF (f : Fl) : Prop := GoodF f ∧ manyF f.growth f.wet 1 ≤ 2000
def RetFault (f : Fl) (w : World) (e : Ending) (w' : World) : Prop := ∃ x : Int, e = .returned (.int .i64 x) ∧ (x = 0 → FewF f) ∧ Below w.heap.size w w'
theorem RetFault.bad {f : Fl} {w w' : World} {x : Int} (hx : x ≠ 0) (h : Below w.heap.size w w') : RetFault f w (.returned (.int .i64 x)) w' := ⟨x, rfl, fun e => absurd e hx, h⟩
structure SmallF (f : Fl) : Prop where
  growth : f.growth.length ≤ 1000
  wet : f.wet.length ≤ 1000
  base : f.base.length ≤ 1000
  crops : f.crops.length ≤ 1000
  looks : f.looks.length ≤ 1000
def sizesF (f : Fl) : Bool := decide (9 < f.last) || decide (3 < f.base.length) || decide (5 < f.looks.length)

theorem faultS_sizes (f : Fl) (v : Value) (n : Nat) (w : World) (h : FlV (Lt n) w v f) (hs : sizesF f = true) :
    Calls Try.prog 49 #[v] w (RetFault f w) := by
  obtain ⟨ga, gc, wa, wc, ba, bc, ca, cc, la, lc, rfl, hp1, hp2, hp3, hp4, hp5⟩ := h.open
  clear hp1 hp2 hp3 hp4 hp5 h
  have HR := hid (fun w' (hb : Below w.heap.size w w') => RetFault.bad (f := f) (x := 3) (by decide) hb)
  simp only [sizesF, Bool.or_eq_true, decide_eq_true_eq] at hs
  generalize f.last = x1 at *
  generalize f.base.length = x2 at *
  generalize f.looks.length = x3 at *
  by_cases h1 : 9 < x1
  · go_enter Try.func49, Try.ntmps49
    go_wp2
    go_ret
    exact HR.out _ (below_alloc1 (Nat.le_refl _) _)
  · by_cases h2 : 3 < x2
    · have d1 : decide (9 < x1) = false := by simpa using h1
      go_enter Try.func49, Try.ntmps49
      go_wp2
      go_ret
      exact HR.out _ (below_alloc1 (Nat.le_refl _) _)
    · have h3 : 5 < x3 := by omega
      clear hs
      go_enter Try.func49, Try.ntmps49
      go_wp2
      go_ret
      exact HR.out _ (below_alloc1 (Nat.le_refl _) _)

theorem isPlanS_hid {b : Bool} (f : Fl) (fv : Value) (l : List Int) (HB : Hid (b = planB f.last f.base.length l)) (v : Value) (n : Nat) (w : World) (hn : n ≤ w.heap.size) (h : FlV (Lt n) w fv f) (hl : Ints (Lt n) w v l) (hll : l.length ≤ 1000) :
    Calls Try.prog 96 #[fv, v] w fun e w' => e = .returned (.bool b) ∧ Below w.heap.size w w' := by
  rw [HB.out]; exact isPlanS_any f fv l v n w hn h hl hll

set_option maxHeartbeats 2000000 in
theorem faultS_neg (f : Fl) (v : Value) (n : Nat) (w : World) (h : FlV (Lt n) w v f) (hs : sizesF f = false) (h0 : f.last < 0) :
    Calls Try.prog 49 #[v] w (RetFault f w) := by
  obtain ⟨ga, gc, wa, wc, ba, bc, ca, cc, la, lc, rfl, hp1, hp2, hp3, hp4, hp5⟩ := h.open
  clear hp1 hp2 hp3 hp4 hp5 h
  have HR := hid (fun w' (hb : Below w.heap.size w w') => RetFault.bad (f := f) (x := 1) (by decide) hb)
  simp only [sizesF, Bool.or_eq_false_iff, decide_eq_false_iff_not] at hs
  obtain ⟨⟨n1, n2⟩, n3⟩ := hs
  generalize f.last = x1 at *
  generalize f.base.length = x2 at *
  generalize f.looks.length = x3 at *
  go_enter Try.func49, Try.ntmps49
  go_wp2
  go_ret
  exact HR.out _ (below_alloc1 (Nat.le_refl _) _)

/-- The parts that are tested first. -/
def partsF (f : Fl) : Bool := !((f.growth.length : Int) != f.last + 1) && !((f.wet.length : Int) != f.last + 1) && !((f.base.length : Int) == 0) && within f.ripe 1 10 && within f.late 0 50 && within f.trod 0 100 && planB f.last f.base.length f.crops

set_option maxHeartbeats 4000000 in
theorem faultS_parts (f : Fl) (v : Value) (n : Nat) (w : World) (hn : n ≤ w.heap.size) (h : FlV (Lt n) w v f) (hsm : SmallF f) (hs : sizesF f = false) (h0 : 0 ≤ f.last) (hp : partsF f = false) :
    Calls Try.prog 49 #[v] w (RetFault f w) := by
  have h' := h
  obtain ⟨ga, gc, wa, wc, ba, bc, ca, cc, la, lc, rfl, hp1, hp2, hp3, hp4, hp5⟩ := h.open
  obtain ⟨W, hW⟩ : ∃ W, W = w.alloc (Obj.cells #[.int .i64 f.last, .slice ga f.growth.length gc, .slice wa f.wet.length wc, .slice ba f.base.length bc, .slice ca f.crops.length cc, .int .i64 f.ripe, .int .i64 f.late, .int .i64 f.trod, .slice la f.looks.length lc] 78) := ⟨_, rfl⟩
  have hWs : W.heap.size = w.heap.size + 1 := by rw [hW]; simp
  have hWb : Below w.heap.size w W := by rw [hW]; exact below_alloc1 (Nat.le_refl _) _
  have hWr : W.heap[w.heap.size]? = some (.cells #[.int .i64 f.last, .slice ga f.growth.length gc, .slice wa f.wet.length wc, .slice ba f.base.length bc, .slice ca f.crops.length cc, .int .i64 f.ripe, .int .i64 f.late, .int .i64 f.trod, .slice la f.looks.length lc] 78 (0, 0)) := by rw [hW]; exact heap_new _ _
  have HBOX := hid (fun w1 (hb : Below W.heap.size W w1) => (hb.block w.heap.size (by omega)).trans hWr : ∀ w1, Below W.heap.size W w1 → w1.heap[w.heap.size]? = _)
  clear hWr
  have HFL := hid (h'.below (hWb.mono hn))
  have HCR := hid (hp4.below (hWb.mono hn))
  have HR := hid (fun w' (hb : Below w.heap.size w w') => RetFault.bad (f := f) (x := 1) (by decide) hb)
  have HSM := hid hsm.crops
  clear hp1 hp2 hp3 hp4 hp5 h h' hsm
  simp only [sizesF, Bool.or_eq_false_iff, decide_eq_false_iff_not] at hs
  obtain ⟨⟨n1, n2⟩, n3⟩ := hs
  have d0 : decide (f.last < 0) = false := decide_eq_false (by omega)
  have n2' : decide ((3 : Int) < (f.base.length : Int)) = false := decide_eq_false (by omega)
  have n3' : decide ((5 : Int) < (f.looks.length : Int)) = false := decide_eq_false (by omega)
  have hwr : IntKind.i64.wrap (f.last + 1) = f.last + 1 := IntWalk.i64_in _ (by omega)
  obtain ⟨x1, hx1⟩ : ∃ x1, x1 = ((f.growth.length : Int) != f.last + 1) := ⟨_, rfl⟩
  obtain ⟨x2, hx2⟩ : ∃ x2, x2 = ((f.wet.length : Int) != f.last + 1) := ⟨_, rfl⟩
  obtain ⟨x3, hx3⟩ : ∃ x3, x3 = ((f.base.length : Int) == 0) := ⟨_, rfl⟩
  obtain ⟨x4, hx4⟩ : ∃ x4, x4 = within f.ripe 1 10 := ⟨_, rfl⟩
  obtain ⟨x5, hx5⟩ : ∃ x5, x5 = within f.late 0 50 := ⟨_, rfl⟩
  obtain ⟨x6, hx6⟩ : ∃ x6, x6 = within f.trod 0 100 := ⟨_, rfl⟩
  obtain ⟨x7, hx7⟩ : ∃ x7, x7 = planB f.last f.base.length f.crops := ⟨_, rfl⟩
  rw [partsF, ← hx1, ← hx2, ← hx3, ← hx4, ← hx5, ← hx6, ← hx7] at hp
  replace hx1 := hx1.symm
  replace hx2 := hx2.symm
  replace hx3 := hx3.symm
  have HX4 := hid hx4
  have HX5 := hid hx5
  have HX6 := hid hx6
  have HX7 := hid hx7
  clear hx4 hx5 hx6 hx7
  have hcase : (x1 = true) ∨ (x1 = false ∧ x2 = true) ∨ (x1 = false ∧ x2 = false ∧ x3 = true) ∨ (x1 = false ∧ x2 = false ∧ x3 = false ∧ x4 = false) ∨ (x1 = false ∧ x2 = false ∧ x3 = false ∧ x4 = true ∧ x5 = false) ∨
      (x1 = false ∧ x2 = false ∧ x3 = false ∧ x4 = true ∧ x5 = true ∧ x6 = false) ∨ (x1 = false ∧ x2 = false ∧ x3 = false ∧ x4 = true ∧ x5 = true ∧ x6 = true ∧ x7 = false) := by
    revert hp; cases x1 <;> cases x2 <;> cases x3 <;> cases x4 <;> cases x5 <;> cases x6 <;> cases x7 <;> simp
  clear hp
  rcases hcase with rfl | ⟨rfl, rfl⟩ | ⟨rfl, rfl, rfl⟩ | ⟨rfl, rfl, rfl, rfl⟩ | ⟨rfl, rfl, rfl, rfl, rfl⟩ | ⟨rfl, rfl, rfl, rfl, rfl, rfl⟩ | ⟨rfl, rfl, rfl, rfl, rfl, rfl, rfl⟩
  all_goals
    go_enter Try.func49, Try.ntmps49
    go_wp2_with (first
      | (go_at_call 95; refine (inS_any _ _ _ _).mono ?_; (first | rw [← HX4.out] | rw [← HX5.out] | rw [← HX6.out]); rintro e w2 ⟨rfl, rfl⟩)
      | (go_at_call 96; refine (isPlanS_hid f _ _ HX7 _ n _ (by simp; omega) (by first | exact HFL.out | (rw [← hW]; exact HFL.out)) (by first | exact HCR.out | (rw [← hW]; exact HCR.out)) HSM.out).mono ?_; rintro e w2 ⟨rfl, hb2⟩))
    go_ret
    first
      | exact HR.out _ (below_alloc1 (Nat.le_refl _) _)
      | exact HR.out _ (below_after (below_alloc1 (Nat.le_refl _) _) hb2 (Nat.le_refl _))

def GrowAt (f : Fl) (k : Nat) : Prop := (∀ j (h : j < f.growth.length), j < k → withinR f.growth[j] 0 50 = true) ∧ (∀ j (h : j < f.wet.length), j < k → within f.wet[j] 0 2 = true)
def FallAt (l : List Int) (k : Nat) (hi : Int) : Prop := (k = 0 → hi = 200) ∧ (0 < k → hi = l.getD (k - 1) 0 ∧ hi ≤ 200)
def LookAt (f : Fl) (k : Nat) : Prop := ∀ j (h : j < f.looks.length), j < k → within f.looks[j].week 0 f.last = true ∧ withinR f.looks[j].w 0 1000 = true

set_option maxHeartbeats 8000000 in
theorem faultS_else (f : Fl) (v : Value) (n : Nat) (w : World) (hn : n ≤ w.heap.size) (h : FlV (Lt n) w v f) (hsm : SmallF f) (hs : sizesF f = false) (h0 : 0 ≤ f.last) (hp : partsF f = true) :
    Calls Try.prog 49 #[v] w (RetFault f w) := by
  have h' := h
  obtain ⟨ga, gc, wa, wc, ba, bc, ca, cc, la, lc, rfl, hp1, hp2, hp3, hp4, hp5⟩ := h.open
  obtain ⟨_, _, he, -, ho1⟩ := hp1.open2
  cases he
  obtain ⟨_, _, he, -, ho2⟩ := hp2.open1
  cases he
  obtain ⟨_, _, he, -, ho3⟩ := hp3.open1
  cases he
  obtain ⟨_, _, he, -, ho5⟩ := hp5.open3
  cases he
  have hcr := hp4
  obtain ⟨W, hW⟩ : ∃ W, W = w.alloc (Obj.cells #[.int .i64 f.last, .slice ga f.growth.length gc, .slice wa f.wet.length wc, .slice ba f.base.length bc, .slice ca f.crops.length cc, .int .i64 f.ripe, .int .i64 f.late, .int .i64 f.trod, .slice la f.looks.length lc] 78) := ⟨_, rfl⟩
  have hWs : W.heap.size = w.heap.size + 1 := by rw [hW]; simp
  have hWb : Below w.heap.size w W := by rw [hW]; exact below_alloc1 (Nat.le_refl _) _
  have hWr : W.heap[w.heap.size]? = some (.cells #[.int .i64 f.last, .slice ga f.growth.length gc, .slice wa f.wet.length wc, .slice ba f.base.length bc, .slice ca f.crops.length cc, .int .i64 f.ripe, .int .i64 f.late, .int .i64 f.trod, .slice la f.looks.length lc] 78 (0, 0)) := by rw [hW]; exact heap_new _ _
  have HBOX := hid (fun w1 (hb : Below W.heap.size W w1) => (hb.block w.heap.size (by omega)).trans hWr : ∀ w1, Below W.heap.size W w1 → w1.heap[w.heap.size]? = _)
  clear hWr
  have HFL := hid (fun w1 (hb : Below W.heap.size W w1) => h'.below ((hWb.trans (hb.mono (by omega))).mono hn) : ∀ w1, Below W.heap.size W w1 → FlV (Lt n) w1 _ f)
  have HCR := hid (hcr.below (hWb.mono hn))
  have HR := hid (fun w' (hb : Below w.heap.size w w') => RetFault.bad (f := f) (x := 1) (by decide) hb)
  have HR3 := hid (fun w' (hb : Below w.heap.size w w') => RetFault.bad (f := f) (x := 3) (by decide) hb)
  have HSM := hid hsm.crops
  have HGS := hid hsm.growth
  have HO1 := hid ho1
  have HO2 := hid ho2
  have HO3 := hid ho3
  have HO5 := hid ho5
  clear hp1 hp2 hp3 hp4 hp5 h h' hsm hcr ho1 ho2 ho3 ho5
  simp only [sizesF, Bool.or_eq_false_iff, decide_eq_false_iff_not] at hs
  obtain ⟨⟨n1, n2⟩, n3⟩ := hs
  simp only [partsF, Bool.and_eq_true, Bool.not_eq_true', bne_eq_false_iff_eq, beq_eq_false_iff_ne] at hp
  obtain ⟨⟨⟨⟨⟨⟨q1, q2⟩, q3⟩, q4⟩, q5⟩, q6⟩, q7⟩ := hp
  have d0 : decide (f.last < 0) = false := decide_eq_false (by omega)
  have n2' : decide ((3 : Int) < (f.base.length : Int)) = false := decide_eq_false (by omega)
  have n3' : decide ((5 : Int) < (f.looks.length : Int)) = false := decide_eq_false (by omega)
  have hwr : IntKind.i64.wrap (f.last + 1) = f.last + 1 := IntWalk.i64_in _ (by omega)
  have z1 : ((f.growth.length : Int) != f.last + 1) = false := by rw [bne_eq_false_iff_eq]; exact q1
  have z2 : ((f.wet.length : Int) != f.last + 1) = false := by rw [bne_eq_false_iff_eq]; exact q2
  have z3 : ((f.base.length : Int) == 0) = false := by rw [beq_eq_false_iff_ne]; exact q3
  have HX4 := hid q4.symm
  have HX5 := hid q5.symm
  have HX6 := hid q6.symm
  have HX7 := hid q7.symm
  have hL1 : (f.growth.length : Int) ≤ f.last + 1 ∧ f.last + 1 ≤ (f.growth.length : Int) := by omega
  have hL2 : (f.wet.length : Int) ≤ f.last + 1 ∧ f.last + 1 ≤ (f.wet.length : Int) := by omega
  have hL3 : 1 ≤ f.base.length := by omega
  clear q1 q2 q3 q4 q5 q6 q7
  go_enter Try.func49, Try.ntmps49
  go_wp2_with fail
  rw [← hW]
  clear hW
  refine (inS_any _ _ _ _).mono ?_
  rw [← HX4.out]
  rintro e w2 ⟨rfl, rfl⟩
  have hrow := HBOX.out W (Below.refl _ _)
  have j0 := cell_of_row hrow 0
  have j1 := cell_of_row hrow 1
  have j2 := cell_of_row hrow 2
  have j3 := cell_of_row hrow 3
  have j4 := cell_of_row hrow 4
  have j5 := cell_of_row hrow 5
  have j6 := cell_of_row hrow 6
  have j7 := cell_of_row hrow 7
  have j8 := cell_of_row hrow 8
  simp only [List.getElem?_toArray, List.getElem?_cons_zero, List.getElem?_cons_succ] at j0 j1 j2 j3 j4 j5 j6 j7 j8
  clear hrow
  have hgl : w.heap.size < W.heap.size := by omega
  go_wp2_with fail
  refine (inS_any _ _ _ _).mono ?_
  rw [← HX5.out]
  rintro e w2 ⟨rfl, rfl⟩
  go_wp2_with fail
  refine (inS_any _ _ _ _).mono ?_
  rw [← HX6.out]
  rintro e w2 ⟨rfl, rfl⟩
  go_wp2_with fail
  refine (isPlanS_hid f _ _ HX7 _ n _ (by omega) (HFL.out _ (Below.refl _ _)) HCR.out HSM.out).mono ?_
  rintro e w2 ⟨rfl, hb2⟩
  have HB2 := hid hb2
  clear hb2 j0 j1 j2 j3 j4 j5 j6 j7 j8 z1 z2 z3 d0 n2' n3' hgl HCR
  go_wp2_with fail
  go_loopw [3] (fun i wr => ∃ k : Nat, (k : Int) ≤ f.last + 1 ∧ i = .int .i64 k ∧ Hid (GrowAt f k) ∧ Below W.heap.size W wr) (fun i _ => (f.last + 1 - intOf i).toNat)
  case atStart => exact ⟨0, by omega, rfl, hid ⟨fun j _ h => by omega, fun j _ h => by omega⟩, HB2.out⟩
  case round =>
    clear HB2
    obtain ⟨k, hk, rfl, HI, hb⟩ := hrel
    have hbs := hb.size
    have hrow := HBOX.out wr hb
    have j0 := cell_of_row hrow 0
    have j1 := cell_of_row hrow 1
    have j2 := cell_of_row hrow 2
    have j3 := cell_of_row hrow 3
    have j4 := cell_of_row hrow 4
    have j5 := cell_of_row hrow 5
    have j6 := cell_of_row hrow 6
    have j7 := cell_of_row hrow 7
    have j8 := cell_of_row hrow 8
    simp only [List.getElem?_toArray, List.getElem?_cons_zero, List.getElem?_cons_succ] at j0 j1 j2 j3 j4 j5 j6 j7 j8
    clear hrow
    clear j4 j5 j6 j7
    have hgl : w.heap.size < wr.heap.size := by omega
    by_cases hlt : (k : Int) ≤ f.last
    · have hd : decide ((k : Int) ≤ f.last) = true := decide_eq_true hlt
      have hk1 : k < f.growth.length := by omega
      have hk2 : k < f.wet.length := by omega
      rcases HO1.out with hnil | ⟨b1, off1, rfl, hbn1, hc1⟩
      · rw [hnil] at hk1; simp at hk1
      rcases HO2.out with hnil | ⟨b2, off2, rfl, hbn2, hc2⟩
      · rw [hnil] at hk2; simp at hk2
      have hbl1 : b1 < n := hbn1
      have hbl2 : b2 < n := hbn2
      have hbw1 : b1 < wr.heap.size := by omega
      have hbw2 : b2 < wr.heap.size := by omega
      have HAL := hid (hWb.trans (hb.mono (by omega)))
      have y1 := (HAL.out.cell (p := ⟨b1, off1 + k * 2, none⟩) (by show b1 < _; omega)).trans (hc1 k hk1).1
      have y2 := (HAL.out.cell (p := ⟨b1, off1 + k * 2 + 1, none⟩) (by show b1 < _; omega)).trans (hc1 k hk1).2
      have y3 := (HAL.out.cell (p := ⟨b2, off2 + k, none⟩) (by show b2 < _; omega)).trans (hc2 k hk2)
      have HNX := hid (fun h1 h2 => ⟨fun j hj hjk => by
          by_cases e : j = k
          · subst e; exact h1
          · exact HI.out.1 j hj (by omega), fun j hj hjk => by
          by_cases e : j = k
          · subst e; exact h2
          · exact HI.out.2 j hj (by omega)⟩ : withinR f.growth[k] 0 50 = true → within f.wet[k] 0 2 = true → GrowAt f (k + 1))
      clear hc1 hc2
      generalize f.growth[k] = r at *
      generalize f.wet[k] = u at *
      obtain ⟨x1, hx1⟩ : ∃ x1, x1 = withinR r 0 50 := ⟨_, rfl⟩
      obtain ⟨x2, hx2⟩ : ∃ x2, x2 = within u 0 2 := ⟨_, rfl⟩
      rw [← hx1, ← hx2] at HNX
      have HX1 := hid hx1
      have HX2 := hid hx2
      clear hx1 hx2
      cases x1 with
      | false =>
        go_wp2_with (first
          | (go_at_call 97; refine (withinS_hid r 0 50 HX1 _).mono ?_; rintro e w3 ⟨rfl, hb3⟩; obtain ⟨hc3, hf3⟩ := bcell hb3; have hs3 := hb3.size)
          | (go_at_call 95; refine (inS_hid u 0 2 HX2 _).mono ?_; rintro e w4 ⟨rfl, rfl⟩))
        go_ret
        exact HR.out _ (hWb.trans ((below_after hb hb3 (Nat.le_refl _)).mono (by omega)))
      | true =>
        cases x2 with
        | false =>
          go_wp2_with (first
            | (go_at_call 97; refine (withinS_hid r 0 50 HX1 _).mono ?_; rintro e w3 ⟨rfl, hb3⟩; obtain ⟨hc3, hf3⟩ := bcell hb3; have hs3 := hb3.size)
            | (go_at_call 95; refine (inS_hid u 0 2 HX2 _).mono ?_; rintro e w4 ⟨rfl, rfl⟩))
          go_ret
          exact HR.out _ (hWb.trans ((below_after hb hb3 (Nat.le_refl _)).mono (by omega)))
        | true =>
          go_wp2_with (first
            | (go_at_call 97; refine (withinS_hid r 0 50 HX1 _).mono ?_; rintro e w3 ⟨rfl, hb3⟩; obtain ⟨hc3, hf3⟩ := bcell hb3; have hs3 := hb3.size)
            | (go_at_call 95; refine (inS_hid u 0 2 HX2 _).mono ?_; rintro e w4 ⟨rfl, rfl⟩))
          go_roundw
          case rel => exact ⟨k + 1, by omega, by go_num, hid (by first | exact HNX.out rfl rfl | exact HNX.out trivial trivial), below_after hb hb3 (Nat.le_refl _)⟩
          case measure => simp [intOf]; omega
    · have hd : decide ((k : Int) ≤ f.last) = false := decide_eq_false hlt
      have HG := hid (show (∀ r ∈ f.growth, 0 ≤ r.lo ∧ r.lo ≤ r.hi ∧ r.hi ≤ 50) ∧ ∀ x ∈ f.wet, 0 ≤ x ∧ x ≤ 2 from ⟨fun r hr => by
          obtain ⟨j, hj, rfl⟩ := List.getElem_of_mem hr
          exact withinR_iff.1 (HI.out.1 j hj (by omega)), fun x hx => by
          obtain ⟨j, hj, rfl⟩ := List.getElem_of_mem hx
          exact within_iff.1 (HI.out.2 j hj (by omega))⟩)
      have HBW := hid hb
      clear HI hb
      go_wp2_with fail
      clear hlt hd hk j0 j1 j2 j3 j8 hbs hgl
      go_loopw [4] (fun i wr => ∃ (k : Nat) (hi : Int), k ≤ f.base.length ∧ i = .int .i64 k ∧ Hid (fallFrom hi (f.base.drop k) = fallFrom 200 f.base) ∧ Hid (FallAt f.base k hi) ∧ Below W.heap.size W wr) (fun i _ => f.base.length - (intOf i).toNat)
      case atStart => exact ⟨0, 200, by omega, rfl, hid rfl, hid ⟨fun _ => rfl, fun h => by omega⟩, HBW.out⟩
      case round =>
        clear HBW
        obtain ⟨k, hi, hk, rfl, HI, HA, hb⟩ := hrel
        have hbs := hb.size
        have hrow := HBOX.out wr hb
        have j0 := cell_of_row hrow 0
        have j1 := cell_of_row hrow 1
        have j2 := cell_of_row hrow 2
        have j3 := cell_of_row hrow 3
        have j4 := cell_of_row hrow 4
        have j5 := cell_of_row hrow 5
        have j6 := cell_of_row hrow 6
        have j7 := cell_of_row hrow 7
        have j8 := cell_of_row hrow 8
        simp only [List.getElem?_toArray, List.getElem?_cons_zero, List.getElem?_cons_succ] at j0 j1 j2 j3 j4 j5 j6 j7 j8
        clear hrow
        clear j1 j2 j4 j5 j6 j7
        have hgl : w.heap.size < wr.heap.size := by omega
        by_cases hlt : k < f.base.length
        · rcases HO3.out with hnil | ⟨b, off, rfl, hbn, hc⟩
          · rw [hnil] at hlt; simp at hlt
          have hbl : b < n := hbn
          have hbw : b < wr.heap.size := by omega
          have HK := hid (fun k hk => ((hWb.trans (hb.mono (by omega))).cell (p := ⟨b, off + k, none⟩) (by show b < _; omega)).trans (hc k hk) : ∀ k (hk : k < f.base.length), wr.cell? ⟨b, off + k, none⟩ = some (.int .i64 f.base[k]))
          have y1 := HK.out k hlt
          have hx : f.base[k] = f.base.getD k 0 := by rw [List.getD_eq_getElem?_getD, List.getElem?_eq_getElem hlt]; rfl
          have HD := hid (show fallFrom hi (f.base.drop k) = (within (f.base.getD k 0) 0 hi && fallFrom (f.base.getD k 0) (f.base.drop (k + 1))) by rw [List.drop_eq_getElem_cons hlt, ← hx]; rfl)
          rw [hx] at y1
          clear hx hc
          have HNX := hid (fun (h0 : f.base.getD k 0 ≤ 200) => ⟨fun h => by omega, fun _ => ⟨rfl, h0⟩⟩ : f.base.getD k 0 ≤ 200 → FallAt f.base (k + 1) (f.base.getD k 0))
          obtain ⟨x, hxe⟩ : ∃ x, x = f.base.getD k 0 := ⟨_, rfl⟩
          rw [← hxe] at y1 HD HNX
          clear hxe
          obtain ⟨b0, hb0⟩ : ∃ b0, b0 = within x 0 200 := ⟨_, rfl⟩
          have HB0 := hid hb0
          clear hb0
          obtain ⟨hgc, hgf⟩ := grew_cells wr
          by_cases hz : k = 0
          · subst hz
            have hlo : hi = 200 := HA.out.1 rfl
            subst hlo
            have hd : decide ((0 : Int) < ((0 : Nat) : Int)) = false := rfl
            rw [Nat.add_zero] at y1
            cases b0 with
            | false =>
              go_wp2
              refine wp_region_grew (by kernel_rfl) (by kernel_rfl) ?_
              repeat (go_big_quiet_step ((go_at_call 95; exact grew_same ((inS_hid _ _ _ HB0 _).mono fun _ _ h => h))))
              refine wpQuiet_nil ?_
              rintro _ ⟨ex, rfl⟩
              have hbE := hb.trans ((grew_below wr ex).mono hbs)
              go_wp2
              go_ret
              exact HR.out _ (hWb.trans (hbE.mono (by omega)))
            | true =>
              have hin := hid (within_iff.1 HB0.out.symm)
              go_wp2
              refine wp_region_grew (by kernel_rfl) (by kernel_rfl) ?_
              repeat (go_big_quiet_step ((go_at_call 95; exact grew_same ((inS_hid _ _ _ HB0 _).mono fun _ _ h => h))))
              refine wpQuiet_nil ?_
              rintro _ ⟨ex, rfl⟩
              have hbE := hb.trans ((grew_below wr ex).mono hbs)
              go_wp2
              go_roundw
              case rel => exact ⟨1, x, by omega, by go_num, hid (by rw [← HI.out, HD.out, ← HB0.out]; simp), hid (HNX.out hin.out.2), hbE⟩
              case measure => simp [intOf]; omega
          · have hd : decide ((0 : Int) < (k : Int)) = true := decide_eq_true (by omega)
            have hdn : decide (0 < k) = true := decide_eq_true (by omega)
            have hkp : 1 ≤ k := by omega
            have hk1 : k - 1 < f.base.length := by omega
            have y2 := HK.out (k - 1) hk1
            have hy : f.base[k - 1] = f.base.getD (k - 1) 0 := by rw [List.getD_eq_getElem?_getD, List.getElem?_eq_getElem hk1]; rfl
            rw [hy] at y2
            have hlo := HA.out.2 (by omega)
            clear hy
            obtain ⟨y, hye⟩ : ∃ y, y = f.base.getD (k - 1) 0 := ⟨_, rfl⟩
            rw [← hye] at y2 hlo
            clear hye
            have hwr2 : IntKind.i64.wrap ((k : Int) - 1) = (k : Int) - 1 := IntWalk.i64_in _ (by omega)
            obtain ⟨hlo1, hlo2⟩ := hlo
            subst hlo1
            cases b0 with
            | false =>
              go_wp2
              refine wp_region_grew (by kernel_rfl) (by kernel_rfl) ?_
              repeat (go_big_quiet_step ((go_at_call 95; exact grew_same ((inS_hid _ _ _ HB0 _).mono fun _ _ h => h))))
              refine wpQuiet_nil ?_
              rintro _ ⟨ex, rfl⟩
              have hbE := hb.trans ((grew_below wr ex).mono hbs)
              go_wp2
              go_ret
              exact HR.out _ (hWb.trans (hbE.mono (by omega)))
            | true =>
              have hin := hid (within_iff.1 HB0.out.symm)
              by_cases hle : hi < x
              · have hled : decide (hi < x) = true := decide_eq_true hle
                go_wp2
                refine wp_region_grew (by kernel_rfl) (by kernel_rfl) ?_
                repeat (go_big_quiet_step ((go_at_call 95; exact grew_same ((inS_hid _ _ _ HB0 _).mono fun _ _ h => h))))
                refine wpQuiet_nil ?_
                rintro _ ⟨ex, rfl⟩
                have hbE := hb.trans ((grew_below wr ex).mono hbs)
                go_wp2
                go_ret
                exact HR.out _ (hWb.trans (hbE.mono (by omega)))
              · have hled : decide (hi < x) = false := decide_eq_false hle
                have HW := hid (show within x 0 hi = true from within_iff.2 (by have := hin.out; omega))
                go_wp2
                refine wp_region_grew (by kernel_rfl) (by kernel_rfl) ?_
                repeat (go_big_quiet_step ((go_at_call 95; exact grew_same ((inS_hid _ _ _ HB0 _).mono fun _ _ h => h))))
                refine wpQuiet_nil ?_
                rintro _ ⟨ex, rfl⟩
                have hbE := hb.trans ((grew_below wr ex).mono hbs)
                go_wp2
                go_roundw
                case rel => exact ⟨k + 1, x, by omega, by go_num, hid (by rw [← HI.out, HD.out, HW.out]; simp), hid (HNX.out hin.out.2), hbE⟩
                case measure => simp [intOf]; omega
        · have HF := hid (show fallFrom 200 f.base = true by rw [← HI.out, List.drop_eq_nil_of_le (by omega)]; rfl)
          have HBW := hid hb
          clear HI HA hb
          go_wp2_with fail
          clear hlt hk j0 j3 j8 hbs hgl
          go_loopw [5] (fun i wp => ∃ k : Nat, k ≤ f.looks.length ∧ i = .int .i64 k ∧ Hid (LookAt f k) ∧ Below W.heap.size W wp) (fun i _ => f.looks.length - (intOf i).toNat)
          case atStart => exact ⟨0, by omega, rfl, hid (fun j _ h => by omega), HBW.out⟩
          case round =>
            clear HBW
            obtain ⟨k, hk, rfl, HI, hb⟩ := hrel
            have hbs := hb.size
            have hrow := HBOX.out wr hb
            have j0 := cell_of_row hrow 0
            have j1 := cell_of_row hrow 1
            have j2 := cell_of_row hrow 2
            have j3 := cell_of_row hrow 3
            have j4 := cell_of_row hrow 4
            have j5 := cell_of_row hrow 5
            have j6 := cell_of_row hrow 6
            have j7 := cell_of_row hrow 7
            have j8 := cell_of_row hrow 8
            simp only [List.getElem?_toArray, List.getElem?_cons_zero, List.getElem?_cons_succ] at j0 j1 j2 j3 j4 j5 j6 j7 j8
            clear hrow
            have hgl : w.heap.size < wr.heap.size := by omega
            by_cases hlt : k < f.looks.length
            · clear j1 j2 j3 j4 j5 j6 j7
              rcases HO5.out with hnil | ⟨b, off, rfl, hbn, hc⟩
              · rw [hnil] at hlt; simp at hlt
              have hbl : b < n := hbn
              have hbw : b < wr.heap.size := by omega
              have HAL := hid (hWb.trans (hb.mono (by omega)))
              have y1 := (HAL.out.cell (p := ⟨b, off + k * 3, none⟩) (by show b < _; omega)).trans (hc k hlt).1
              have y2 := (HAL.out.cell (p := ⟨b, off + k * 3 + 1, none⟩) (by show b < _; omega)).trans (hc k hlt).2.1
              have y3 := (HAL.out.cell (p := ⟨b, off + k * 3 + 2, none⟩) (by show b < _; omega)).trans (hc k hlt).2.2
              have HNX := hid (fun h1 h2 => fun j hj hjk => by
                  by_cases e : j = k
                  · subst e; exact ⟨h1, h2⟩
                  · exact HI.out j hj (by omega) : within f.looks[k].week 0 f.last = true → withinR f.looks[k].w 0 1000 = true → LookAt f (k + 1))
              clear hc
              generalize f.looks[k] = l at *
              obtain ⟨wk, r⟩ := l
              simp only at y1 y2 y3 HNX
              obtain ⟨x1, hx1⟩ : ∃ x1, x1 = within wk 0 f.last := ⟨_, rfl⟩
              obtain ⟨x2, hx2⟩ : ∃ x2, x2 = withinR r 0 1000 := ⟨_, rfl⟩
              rw [← hx1, ← hx2] at HNX
              have HX1 := hid hx1
              have HX2 := hid hx2
              clear hx1 hx2
              obtain ⟨hgc, hgf⟩ := grew_cells wr
              cases x1 with
              | false =>
                go_wp2
                refine wp_region_grew (by kernel_rfl) (by kernel_rfl) ?_
                repeat (go_big_quiet_step ((first
                  | (go_at_call 95; exact grew_same ((inS_hid _ _ _ HX1 _).mono fun _ _ h => h))
                  | (go_at_call 97; exact grew_of (withinS_hid r 0 1000 HX2 _)))))
                refine wpQuiet_nil ?_
                rintro _ ⟨ex, rfl⟩
                have hbE := hb.trans ((grew_below wr ex).mono hbs)
                go_wp2
                go_ret
                exact HR.out _ (hWb.trans (hbE.mono (by omega)))
              | true =>
                cases x2 with
                | false =>
                  go_wp2
                  refine wp_region_grew (by kernel_rfl) (by kernel_rfl) ?_
                  repeat (go_big_quiet_step ((first
                    | (go_at_call 95; exact grew_same ((inS_hid _ _ _ HX1 _).mono fun _ _ h => h))
                    | (go_at_call 97; exact grew_of (withinS_hid r 0 1000 HX2 _)))))
                  refine wpQuiet_nil ?_
                  rintro _ ⟨ex, rfl⟩
                  have hbE := hb.trans ((grew_below wr ex).mono hbs)
                  go_wp2
                  go_ret
                  exact HR.out _ (hWb.trans (hbE.mono (by omega)))
                | true =>
                  go_wp2
                  refine wp_region_grew (by kernel_rfl) (by kernel_rfl) ?_
                  repeat (go_big_quiet_step ((first
                    | (go_at_call 95; exact grew_same ((inS_hid _ _ _ HX1 _).mono fun _ _ h => h))
                    | (go_at_call 97; exact grew_of (withinS_hid r 0 1000 HX2 _)))))
                  refine wpQuiet_nil ?_
                  rintro _ ⟨ex, rfl⟩
                  have hbE := hb.trans ((grew_below wr ex).mono hbs)
                  go_wp2
                  go_roundw
                  case rel => exact ⟨k + 1, by omega, by go_num, hid (by first | exact HNX.out rfl rfl | exact HNX.out trivial trivial), hbE⟩
                  case measure => simp [intOf]; omega
            · have HGOOD := hid (show GoodF f from ⟨⟨h0, by omega⟩, by omega, by omega, by omega, by omega, within_iff.1 HX4.out.symm, within_iff.1 HX5.out.symm, within_iff.1 HX6.out.symm, HX7.out.symm, HG.out.1, HG.out.2, HF.out, fun l hl => by
                  obtain ⟨j, hj, rfl⟩ := List.getElem_of_mem hl
                  obtain ⟨h1, h2⟩ := HI.out j hj (by omega)
                  have h1 := within_iff.1 h1
                  have h2 := withinR_iff.1 h2
                  exact ⟨h1.1, h1.2, h2⟩⟩)
              have HLL := hid (show f.growth.length = f.wet.length by omega)
              obtain ⟨m, hm⟩ : ∃ m, m = manyF f.growth f.wet 1 := ⟨_, rfl⟩
              have HM := hid hm
              clear hm
              go_wp2_with fail
              refine (manyS_any f HG.out.1 HG.out.2 HLL.out HGS.out _ n _ (by omega) (HFL.out _ hb)).mono ?_
              rw [← HM.out]
              rintro e w9 ⟨rfl, hb9⟩
              have hbE := hid (hWb.trans ((below_after hb hb9 (Nat.le_refl _)).mono (by omega)))
              by_cases hov : 2000 < m
              · go_wp2
                go_ret
                exact HR3.out _ hbE.out
              · go_wp2
                go_ret
                exact ⟨0, rfl, fun _ => ⟨HGOOD.out, by rw [← HM.out]; omega⟩, hbE.out⟩

/-- Fault returns 0 for valid fields with few truths alone. -/
theorem faultS_any (f : Fl) (v : Value) (n : Nat) (w : World) (hn : n ≤ w.heap.size) (h : FlV (Lt n) w v f) (hsm : SmallF f) :
    Calls Try.prog 49 #[v] w (RetFault f w) := by
  cases hs : sizesF f
  · by_cases h0 : f.last < 0
    · exact faultS_neg f v n w h hs h0
    · cases hp : partsF f
      · exact faultS_parts f v n w hn h hsm hs (by omega) hp
      · exact faultS_else f v n w hn h hsm hs (by omega) hp
  · exact faultS_sizes f v n w h hs
end Go.Proofs.Ytjddcaimjofihaa
