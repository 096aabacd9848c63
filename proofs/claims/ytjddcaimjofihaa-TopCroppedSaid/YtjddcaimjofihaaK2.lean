/- Contracts of the reference of package crop: In, Within, Size, Ways, IsPlan, Many; no condition. -/
import Derived.Test.YtjddcaimjofihaaK1
import Derived.Test.YtjddcaimjofihaaR0
namespace Go.Proofs.Ytjddcaimjofihaa
open Go.RowKit Go.Shelf
set_option maxRecDepth 100000

theorem inS_any (n lo hi : Int) (w : World) :
    Calls Try.prog 95 #[.int .i64 n, .int .i64 lo, .int .i64 hi] w fun e w' => e = .returned (.bool (within n lo hi)) ∧ w = w' := by
  have HR := hid (show within n lo hi = (decide (lo ≤ n) && decide (n ≤ hi)) from rfl)
  by_cases h1 : lo ≤ n <;> by_cases h2 : n ≤ hi
  all_goals
    go_enter Try.func95, Try.ntmps95
    go_wp2
    go_ret
    rw [HR.out]
    exact ⟨by simp [h1, h2], rfl⟩
theorem inS_hid {b : Bool} (n lo hi : Int) (HB : Hid (b = within n lo hi)) (w : World) :
    Calls Try.prog 95 #[.int .i64 n, .int .i64 lo, .int .i64 hi] w fun e w' => e = .returned (.bool b) ∧ w = w' := by
  rw [HB.out]; exact inS_any n lo hi w

theorem WithinS_any (a b lo hi : Int) (w : World) :
    Calls Try.prog 97 #[.agg #[.int .i64 a, .int .i64 b], .int .i64 lo, .int .i64 hi] w fun e w' => e = .returned (.bool (withinR ⟨a, b⟩ lo hi)) ∧ Below w.heap.size w w' := by
  have HR := hid (show withinR ⟨a, b⟩ lo hi = (decide (lo ≤ a) && decide (a ≤ b) && decide (b ≤ hi)) from rfl)
  by_cases h1 : lo ≤ a <;> by_cases h2 : a ≤ b <;> by_cases h3 : b ≤ hi
  all_goals
    go_enter Try.func97, Try.ntmps97
    go_wp2
    go_ret
    rw [HR.out]
    exact ⟨by simp [h1, h2, h3], below_alloc1 (Nat.le_refl _) _⟩
theorem withinS_hid {b : Bool} (r : Rg) (lo hi : Int) (HB : Hid (b = withinR r lo hi)) (w : World) :
    Calls Try.prog 97 #[.agg #[.int .i64 r.lo, .int .i64 r.hi], .int .i64 lo, .int .i64 hi] w fun e w' => e = .returned (.bool b) ∧ Below w.heap.size w w' := by
  rw [HB.out]; exact WithinS_any r.lo r.hi lo hi w
theorem withinR_iff {r : Rg} {lo hi : Int} : withinR r lo hi = true ↔ lo ≤ r.lo ∧ r.lo ≤ r.hi ∧ r.hi ≤ hi := by simp [withinR, and_assoc]

theorem sizeS_any (lo hi : Int) (w : World) (h : 0 ≤ lo ∧ lo ≤ hi ∧ hi ≤ 50) :
    Calls Try.prog 105 #[.agg #[.int .i64 lo, .int .i64 hi]] w fun e w' => e = .returned (.int .i64 (size ⟨lo, hi⟩)) ∧ Below w.heap.size w w' := by
  have HR := hid (show size ⟨lo, hi⟩ = hi - lo + 1 from rfl)
  go_enter Try.func105, Try.ntmps105
  go_wp2
  go_ret
  rw [HR.out]
  exact ⟨rfl, below_alloc1 (Nat.le_refl _) _⟩

theorem waysS_any (x : Int) (w : World) (h : 0 ≤ x ∧ x ≤ 2) :
    Calls Try.prog 106 #[.int .i64 x] w fun e w' => e = .returned (.int .i64 (waysF x)) ∧ w = w' := by
  have : x = 0 ∨ x = 1 ∨ x = 2 := by omega
  rcases this with rfl | rfl | rfl
  all_goals
    go_enter Try.func106, Try.ntmps106
    go_wp2
    go_ret
    exact ⟨rfl, rfl⟩

/-- Where a list is read, and from which number on it must rise. -/
def PlanAt (l : List Int) (k : Nat) (lo : Int) : Prop := (k = 0 → lo = 0) ∧ (0 < k → lo = l.getD (k - 1) 0 + 1 ∧ 0 ≤ l.getD (k - 1) 0)

set_option maxHeartbeats 1000000 in
theorem isPlanS_any (f : Fl) (fv : Value) (l : List Int) (v : Value) (n : Nat) (w : World) (hn : n ≤ w.heap.size) (h : FlV (Lt n) w fv f) (hl : Ints (Lt n) w v l) (hll : l.length ≤ 1000) :
    Calls Try.prog 96 #[fv, v] w fun e w' => e = .returned (.bool (planB f.last f.base.length l)) ∧ Below w.heap.size w w' := by
  obtain ⟨ga, gc, wa, wc, ba, bc, ca, cc, la, lc, rfl, hp1, hp2, hp3, hp4, hp5⟩ := h.open
  obtain ⟨a, cap, rfl, hcap, ho⟩ := hl.open1
  obtain ⟨W, hW⟩ : ∃ W, W = w.alloc (Obj.cells #[.int .i64 f.last, .slice ga f.growth.length gc, .slice wa f.wet.length wc, .slice ba f.base.length bc, .slice ca f.crops.length cc, .int .i64 f.ripe, .int .i64 f.late, .int .i64 f.trod, .slice la f.looks.length lc] 78) := ⟨_, rfl⟩
  have hWs : W.heap.size = w.heap.size + 1 := by rw [hW]; simp
  have hWb : Below w.heap.size w W := by rw [hW]; exact below_alloc1 (Nat.le_refl _) _
  have hWr : W.heap[w.heap.size]? = some (.cells #[.int .i64 f.last, .slice ga f.growth.length gc, .slice wa f.wet.length wc, .slice ba f.base.length bc, .slice ca f.crops.length cc, .int .i64 f.ripe, .int .i64 f.late, .int .i64 f.trod, .slice la f.looks.length lc] 78 (0, 0)) := by rw [hW]; exact heap_new _ _
  have HBOX := hid (fun w1 (hb : Below W.heap.size W w1) => (hb.block w.heap.size (by omega)).trans hWr : ∀ w1, Below W.heap.size W w1 → w1.heap[w.heap.size]? = _)
  clear hWr
  have HO := hid ho
  have HP := hid (show planB f.last f.base.length l = (decide (l.length ≤ f.base.length) && planFrom f.last 0 l) from rfl)
  clear ho hp1 hp2 hp3 hp4 hp5 h hl
  generalize f.base.length = bl at *
  go_enter Try.func96, Try.ntmps96
  go_wp2
  rw [← hW]
  clear hW
  go_loopw [5] (fun i wr => ∃ (k : Nat) (lo : Int), k ≤ l.length ∧ i = .int .i64 k ∧ Hid (planFrom f.last lo (l.drop k) = planFrom f.last 0 l) ∧ Hid (PlanAt l k lo) ∧ Below W.heap.size W wr) (fun i _ => l.length - (intOf i).toNat)
  case atStart => exact ⟨0, 0, by omega, rfl, hid rfl, hid ⟨fun _ => rfl, fun h => by omega⟩, Below.refl _ _⟩
  case round =>
    obtain ⟨k, lo, hk, rfl, HI, HA, hb⟩ := hrel
    have hbs := hb.size
    have hrow := HBOX.out wr hb
    have j0 := cell_of_row hrow 0
    have j1 := cell_of_row hrow 1
    have j2 := cell_of_row hrow 2
    have j3 := cell_of_row hrow 3
    have j4 := cell_of_row hrow 4
    have j5 := cell_of_row hrow 5
    have j6 := cell_of_row hrow 6
    have j7 := cell_of_row hrow 7
    have j8 := cell_of_row hrow 8
    simp only [List.getElem?_toArray, List.getElem?_cons_zero, List.getElem?_cons_succ] at j0 j1 j2 j3 j4 j5 j6 j7 j8
    clear hrow
    clear j1 j2 j4 j5 j6 j7 j8
    have hgl : w.heap.size < wr.heap.size := by omega
    by_cases hlt : k < l.length
    · rcases HO.out with hnil | ⟨b, off, rfl, hbn, hc⟩
      · rw [hnil] at hlt; simp at hlt
      have hbl : b < n := hbn
      have hbw : b < wr.heap.size := by omega
      have HK := hid (fun k hk => ((hWb.trans (hb.mono (by omega))).cell (p := ⟨b, off + k, none⟩) (by show b < _; omega)).trans (hc k hk) : ∀ k (hk : k < l.length), wr.cell? ⟨b, off + k, none⟩ = some (.int .i64 l[k]))
      have y1 := HK.out k hlt
      have hx : l[k] = l.getD k 0 := by rw [List.getD_eq_getElem?_getD, List.getElem?_eq_getElem hlt]; rfl
      have HD := hid (show planFrom f.last lo (l.drop k) = (within (l.getD k 0) lo f.last && planFrom f.last (l.getD k 0 + 1) (l.drop (k + 1))) by rw [List.drop_eq_getElem_cons hlt, ← hx]; rfl)
      rw [hx] at y1
      clear hx hc
      have HNX := hid (fun (h0 : 0 ≤ l.getD k 0) => ⟨fun h => by omega, fun _ => ⟨rfl, h0⟩⟩ : 0 ≤ l.getD k 0 → PlanAt l (k + 1) (l.getD k 0 + 1))
      obtain ⟨x, hxe⟩ : ∃ x, x = l.getD k 0 := ⟨_, rfl⟩
      rw [← hxe] at y1 HD HNX
      clear hxe
      obtain ⟨b0, hb0⟩ : ∃ b0, b0 = within x 0 f.last := ⟨_, rfl⟩
      have HB0 := hid hb0
      clear hb0
      obtain ⟨hgc, hgf⟩ := grew_cells wr
      by_cases hz : k = 0
      · subst hz
        have hlo : lo = 0 := HA.out.1 rfl
        subst hlo
        have hd : decide ((0 : Int) < ((0 : Nat) : Int)) = false := rfl
        rw [Nat.add_zero] at y1
        cases b0 with
        | false =>
          have HE := hid (show planB f.last bl l = false by rw [HP.out, ← HI.out, HD.out, ← HB0.out]; simp)
          go_wp2
          refine wp_region_grew (by kernel_rfl) (by kernel_rfl) ?_
          repeat (go_big_quiet_step ((go_at_call 95; exact grew_same ((inS_hid _ _ _ HB0 _).mono fun _ _ h => h))))
          refine wpQuiet_nil ?_
          rintro _ ⟨ex, rfl⟩
          have hbE := hb.trans ((grew_below wr ex).mono hbs)
          go_wp2
          go_ret
          exact ⟨ret_bool HE.out.symm, hWb.trans (hbE.mono (by omega))⟩
        | true =>
          have hin := hid (within_iff.1 HB0.out.symm)
          go_wp2
          refine wp_region_grew (by kernel_rfl) (by kernel_rfl) ?_
          repeat (go_big_quiet_step ((go_at_call 95; exact grew_same ((inS_hid _ _ _ HB0 _).mono fun _ _ h => h))))
          refine wpQuiet_nil ?_
          rintro _ ⟨ex, rfl⟩
          have hbE := hb.trans ((grew_below wr ex).mono hbs)
          go_wp2
          go_roundw
          case rel => exact ⟨1, x + 1, by omega, by go_num, hid (by rw [← HI.out, HD.out, ← HB0.out]; simp), hid (HNX.out hin.out.1), hbE⟩
          case measure => simp [intOf]; omega
      · have hd : decide ((0 : Int) < (k : Int)) = true := decide_eq_true (by omega)
        have hdn : decide (0 < k) = true := decide_eq_true (by omega)
        have hkp : 1 ≤ k := by omega
        have hk1 : k - 1 < l.length := by omega
        have y2 := HK.out (k - 1) hk1
        have hy : l[k - 1] = l.getD (k - 1) 0 := by rw [List.getD_eq_getElem?_getD, List.getElem?_eq_getElem hk1]; rfl
        rw [hy] at y2
        have hlo := HA.out.2 (by omega)
        clear hy
        obtain ⟨y, hye⟩ : ∃ y, y = l.getD (k - 1) 0 := ⟨_, rfl⟩
        rw [← hye] at y2 hlo
        clear hye
        have hwr2 : IntKind.i64.wrap ((k : Int) - 1) = (k : Int) - 1 := IntWalk.i64_in _ (by omega)
        obtain ⟨hlo1, hlo2⟩ := hlo
        subst hlo1
        cases b0 with
        | false =>
          have HE := hid (show planB f.last bl l = false by
            have hno : within x (y + 1) f.last = false := by
              cases e : within x (y + 1) f.last
              · rfl
              · have h1 := within_iff.1 e
                have h2 := HB0.out.symm
                rw [within_iff.2 (by omega)] at h2
                cases h2
            rw [HP.out, ← HI.out, HD.out, hno]; simp)
          go_wp2
          refine wp_region_grew (by kernel_rfl) (by kernel_rfl) ?_
          repeat (go_big_quiet_step ((go_at_call 95; exact grew_same ((inS_hid _ _ _ HB0 _).mono fun _ _ h => h))))
          refine wpQuiet_nil ?_
          rintro _ ⟨ex, rfl⟩
          have hbE := hb.trans ((grew_below wr ex).mono hbs)
          go_wp2
          go_ret
          exact ⟨ret_bool HE.out.symm, hWb.trans (hbE.mono (by omega))⟩
        | true =>
          have hin := hid (within_iff.1 HB0.out.symm)
          by_cases hle : x ≤ y
          · have hled : decide (x ≤ y) = true := decide_eq_true hle
            have HE := hid (show planB f.last bl l = false by
              have hno : within x (y + 1) f.last = false := by
                cases e : within x (y + 1) f.last
                · rfl
                · have h1 := within_iff.1 e
                  omega
              rw [HP.out, ← HI.out, HD.out, hno]; simp)
            go_wp2
            refine wp_region_grew (by kernel_rfl) (by kernel_rfl) ?_
            repeat (go_big_quiet_step ((go_at_call 95; exact grew_same ((inS_hid _ _ _ HB0 _).mono fun _ _ h => h))))
            refine wpQuiet_nil ?_
            rintro _ ⟨ex, rfl⟩
            have hbE := hb.trans ((grew_below wr ex).mono hbs)
            go_wp2
            go_ret
            exact ⟨ret_bool HE.out.symm, hWb.trans (hbE.mono (by omega))⟩
          · have hled : decide (x ≤ y) = false := decide_eq_false hle
            have HW := hid (show within x (y + 1) f.last = true from within_iff.2 (by have := hin.out; omega))
            go_wp2
            refine wp_region_grew (by kernel_rfl) (by kernel_rfl) ?_
            repeat (go_big_quiet_step ((go_at_call 95; exact grew_same ((inS_hid _ _ _ HB0 _).mono fun _ _ h => h))))
            refine wpQuiet_nil ?_
            rintro _ ⟨ex, rfl⟩
            have hbE := hb.trans ((grew_below wr ex).mono hbs)
            go_wp2
            go_roundw
            case rel => exact ⟨k + 1, x + 1, by omega, by go_num, hid (by rw [← HI.out, HD.out, HW.out]; simp), hid (HNX.out hin.out.1), hbE⟩
            case measure => simp [intOf]; omega
    · have HE := hid (show planFrom f.last 0 l = true by rw [← HI.out, List.drop_eq_nil_of_le (by omega)]; rfl)
      go_wp2
      go_ret
      exact ⟨ret_bool (by rw [HP.out, HE.out]; simp), hWb.trans (hb.mono (by omega))⟩

theorem sizeS_hid {s : Int} (r : Rg) (HS : Hid (s = size r)) (hx : 0 ≤ r.lo ∧ r.lo ≤ r.hi ∧ r.hi ≤ 50) (w : World) :
    Calls Try.prog 105 #[.agg #[.int .i64 r.lo, .int .i64 r.hi]] w fun e w' => e = .returned (.int .i64 s) ∧ Below w.heap.size w w' := by
  rw [HS.out]; exact sizeS_any r.lo r.hi w hx
theorem waysS_hid {s : Int} (x : Int) (HS : Hid (s = waysF x)) (hx : 0 ≤ x ∧ x ≤ 2) (w : World) :
    Calls Try.prog 106 #[.int .i64 x] w fun e w' => e = .returned (.int .i64 s) ∧ w = w' := by
  rw [HS.out]; exact waysS_any x w hx

set_option maxHeartbeats 1000000 in
theorem manyS_any (f : Fl) (hr : ∀ r ∈ f.growth, 0 ≤ r.lo ∧ r.lo ≤ r.hi ∧ r.hi ≤ 50) (hw : ∀ x ∈ f.wet, 0 ≤ x ∧ x ≤ 2) (hgl : f.growth.length = f.wet.length) (hgs : f.growth.length ≤ 1000) (v : Value) (n : Nat) (w : World) (hn : n ≤ w.heap.size) (h : FlV (Lt n) w v f) :
    Calls Try.prog 56 #[v] w fun e w' => e = .returned (.int .i64 (manyF f.growth f.wet 1)) ∧ Below w.heap.size w w' := by
  obtain ⟨ga, gc, wa, wc, ba, bc, ca, cc, la, lc, rfl, hp1, hp2, hp3, hp4, hp5⟩ := h.open
  obtain ⟨_, _, he, -, ho1⟩ := hp1.open2
  cases he
  obtain ⟨_, _, he, -, ho2⟩ := hp2.open1
  cases he
  obtain ⟨W, hW⟩ : ∃ W, W = w.alloc (Obj.cells #[.int .i64 f.last, .slice ga f.growth.length gc, .slice wa f.wet.length wc, .slice ba f.base.length bc, .slice ca f.crops.length cc, .int .i64 f.ripe, .int .i64 f.late, .int .i64 f.trod, .slice la f.looks.length lc] 78) := ⟨_, rfl⟩
  have hWs : W.heap.size = w.heap.size + 1 := by rw [hW]; simp
  have hWb : Below w.heap.size w W := by rw [hW]; exact below_alloc1 (Nat.le_refl _) _
  have hWr : W.heap[w.heap.size]? = some (.cells #[.int .i64 f.last, .slice ga f.growth.length gc, .slice wa f.wet.length wc, .slice ba f.base.length bc, .slice ca f.crops.length cc, .int .i64 f.ripe, .int .i64 f.late, .int .i64 f.trod, .slice la f.looks.length lc] 78 (0, 0)) := by rw [hW]; exact heap_new _ _
  have HBOX := hid (fun w1 (hb : Below W.heap.size W w1) => (hb.block w.heap.size (by omega)).trans hWr : ∀ w1, Below W.heap.size W w1 → w1.heap[w.heap.size]? = _)
  clear hWr
  have HO1 := hid ho1
  have HO2 := hid ho2
  have HR := hid hr
  have HWT := hid hw
  clear ho1 ho2 hr hw hp1 hp2 hp3 hp4 hp5 h
  have HGL := hid hgl
  clear hgl
  go_enter Try.func56, Try.ntmps56
  go_wp2
  rw [← hW]
  clear hW
  go_loopw [3, 4] (fun s i wr => ∃ (k : Nat) (m : Int), k ≤ f.growth.length ∧ i = .int .i64 k ∧ s = .int .i64 m ∧ 0 ≤ m ∧ m ≤ 3000 ∧ Hid (manyF (f.growth.drop k) (f.wet.drop k) m = manyF f.growth f.wet 1) ∧ Below W.heap.size W wr) (fun _ i _ => f.growth.length - (intOf i).toNat)
  case atStart => exact ⟨0, 1, by omega, rfl, rfl, by omega, by omega, hid rfl, Below.refl _ _⟩
  case round =>
    obtain ⟨k, m, hk, rfl, rfl, hm0, hm1, HI, hb⟩ := hrel
    have hbs := hb.size
    have hrow := HBOX.out wr hb
    have j0 := cell_of_row hrow 0
    have j1 := cell_of_row hrow 1
    have j2 := cell_of_row hrow 2
    have j3 := cell_of_row hrow 3
    have j4 := cell_of_row hrow 4
    have j5 := cell_of_row hrow 5
    have j6 := cell_of_row hrow 6
    have j7 := cell_of_row hrow 7
    have j8 := cell_of_row hrow 8
    simp only [List.getElem?_toArray, List.getElem?_cons_zero, List.getElem?_cons_succ] at j0 j1 j2 j3 j4 j5 j6 j7 j8
    clear hrow
    clear j0 j3 j4 j5 j6 j7 j8
    have hgl : w.heap.size < wr.heap.size := by omega
    by_cases hlt : k < f.growth.length
    · have hlt2 : k < f.wet.length := by have := HGL.out; omega
      rcases HO1.out with hnil | ⟨b1, off1, rfl, hbn1, hc1⟩
      · rw [hnil] at hlt; simp at hlt
      rcases HO2.out with hnil | ⟨b2, off2, rfl, hbn2, hc2⟩
      · rw [hnil] at hlt2; simp at hlt2
      have hbl1 : b1 < n := hbn1
      have hbl2 : b2 < n := hbn2
      have hbw1 : b1 < wr.heap.size := by omega
      have hbw2 : b2 < wr.heap.size := by omega
      have HAL := hid (hWb.trans (hb.mono (by omega)))
      have y1 := (HAL.out.cell (p := ⟨b1, off1 + k * 2, none⟩) (by show b1 < _; omega)).trans (hc1 k hlt).1
      have y2 := (HAL.out.cell (p := ⟨b1, off1 + k * 2 + 1, none⟩) (by show b1 < _; omega)).trans (hc1 k hlt).2
      have y3 := (HAL.out.cell (p := ⟨b2, off2 + k, none⟩) (by show b2 < _; omega)).trans (hc2 k hlt2)
      have hx := HR.out f.growth[k] (List.getElem_mem _)
      have hu := HWT.out f.wet[k] (List.getElem_mem _)
      have HD := hid (show manyF (f.growth.drop k) (f.wet.drop k) m = manyF (f.growth.drop (k + 1)) (f.wet.drop (k + 1)) (min 3000 (m * size f.growth[k] * waysF f.wet[k])) by rw [List.drop_eq_getElem_cons hlt, List.drop_eq_getElem_cons hlt2]; rfl)
      clear hc1 hc2
      generalize f.growth[k] = r at *
      generalize f.wet[k] = u at *
      have hsz : 1 ≤ size r ∧ size r ≤ 51 := by simp only [size]; omega
      have hsu : 1 ≤ waysF u ∧ waysF u ≤ 2 := by simp only [waysF]; omega
      have HX := hid hx
      have HU := hid hu
      clear hx hu
      obtain ⟨s, hs⟩ : ∃ s, s = size r := ⟨_, rfl⟩
      obtain ⟨y, hy⟩ : ∃ y, y = waysF u := ⟨_, rfl⟩
      rw [← hs, ← hy] at HD
      rw [← hs] at hsz
      rw [← hy] at hsu
      have HS := hid hs
      have HY := hid hy
      clear hs hy
      have hmul : 0 ≤ m * s ∧ m * s ≤ 153000 := by
        have h1 := Int.mul_nonneg hm0 (show 0 ≤ s by omega)
        have h2 : m * s ≤ 3000 * 51 := Int.mul_le_mul hm1 hsz.2 (by omega) (by omega)
        omega
      obtain ⟨p, hp⟩ : ∃ p, p = m * s := ⟨_, rfl⟩
      have hwr : IntKind.i64.wrap (m * s) = p := by rw [hp]; exact IntWalk.i64_in _ (by omega)
      rw [← hp] at hmul HD
      have HP := hid hp
      clear hp
      have hmul2 : 0 ≤ p * y ∧ p * y ≤ 306000 := by
        have h1 := Int.mul_nonneg hmul.1 (show 0 ≤ y by omega)
        have h2 : p * y ≤ 153000 * 2 := Int.mul_le_mul hmul.2 hsu.2 (by omega) (by omega)
        omega
      obtain ⟨q, hq⟩ : ∃ q, q = p * y := ⟨_, rfl⟩
      have hwr2 : IntKind.i64.wrap (p * y) = q := by rw [hq]; exact IntWalk.i64_in _ (by omega)
      rw [← hq] at hmul2 HD
      have HQ := hid hq
      clear hq
      obtain ⟨hgc, hgf⟩ := grew_cells wr
      go_wp2
      refine wp_region_grew (by kernel_rfl) (by kernel_rfl) ?_
      repeat (go_big_quiet_step ((first
        | (go_at_call 105; exact grew_of (sizeS_hid r HS HX.out _))
        | (go_at_call 106; exact grew_same ((waysS_hid u HY HU.out _).mono fun _ _ h => h)))))
      refine wpQuiet_nil ?_
      rintro _ ⟨ex, rfl⟩
      have hbE := hb.trans ((grew_below wr ex).mono hbs)
      go_wp2
      go_roundw
      case rel => exact ⟨k + 1, min 3000 q, by omega, by go_num, by congr 1; split <;> omega, by omega, by omega, hid (by rw [← HI.out, HD.out]), hbE⟩
      case measure => simp [intOf]; omega
    · have HE := hid (show manyF f.growth f.wet 1 = m by rw [← HI.out, List.drop_eq_nil_of_le (by omega)]; simp [manyF])
      go_wp2
      go_ret
      exact ⟨ret_int HE.out.symm, hWb.trans (hb.mono (by omega))⟩
end Go.Proofs.Ytjddcaimjofihaa
