/- Contracts of package crop: strength, standing weights, what is left of them; no condition. -/
import Derived.Test.YtjddcaimjofihaaKA
namespace Go.Proofs.Ytjddcaimjofihaa
open Go.RowKit Go.Shelf
set_option maxRecDepth 100000

theorem getD_at {α : Type} (l : List α) (d : α) (k : Nat) (h : k < l.length) : l[k] = l.getD k d := by rw [List.getD_eq_getElem?_getD, List.getElem?_eq_getElem h]; rfl

theorem strong_eq {bi late pi bf ripe : Int} (h1 : 0 ≤ bi ∧ bi ≤ 200) (h2 : 0 ≤ late ∧ late ≤ 50) (h3 : 0 ≤ pi ∧ pi ≤ 9) (h4 : 1 ≤ ripe ∧ ripe ≤ 10) (h5 : -1 ≤ bf ∧ bf ≤ 9) :
    max 0 (wrap64 (bi - wrap64 (late * max 0 (pi - bf - ripe)))) = max 0 (bi - late * max 0 (pi - bf - ripe)) := by
  obtain ⟨e, he⟩ : ∃ e, e = max 0 (pi - bf - ripe) := ⟨_, rfl⟩
  have heb : 0 ≤ e ∧ e ≤ 100 := by omega
  rw [← he]
  obtain ⟨p, hp⟩ : ∃ p, p = late * e := ⟨_, rfl⟩
  have hpb : 0 ≤ p ∧ p ≤ 5000 := by
    have h1 := Int.mul_nonneg h2.1 heb.1
    have h2 : late * e ≤ 50 * 100 := Int.mul_le_mul h2.2 heb.2 (by omega) (by omega)
    omega
  rw [← hp]
  have e1 : wrap64 p = p := by unfold wrap64; omega
  have e2 : wrap64 (bi - p) = bi - p := by unfold wrap64; omega
  rw [e1, e2]

set_option maxHeartbeats 2000000 in
theorem strengthK_any (f : Fl) (hg : GoodF f) (plan : List Int) (hpm : ∀ x ∈ plan, 0 ≤ x ∧ x ≤ 9) (hpl : plan.length ≤ 1000) (i : Nat) (hi : i < plan.length) (hib : i < f.base.length) (v pv : Value) (n : Nat) (w : World) (hn : n ≤ w.heap.size) (h : FlV (Lt n) w v f) (hpv : Ints (Lt n) w pv plan) :
    Calls Try.prog 155 #[v, pv, .int .i64 i] w fun e w' => e = .returned (.int .i64 (strongF f plan i)) ∧ Below w.heap.size w w' := by
  obtain ⟨ga, gc, wa, wc, ba, bc, ca, cc, la, lc, rfl, hp1, hp2, hp3, hp4, hp5⟩ := h.open
  obtain ⟨_, _, he, -, ho3⟩ := hp3.open1
  cases he
  obtain ⟨pa, pc, rfl, -, hop⟩ := hpv.open1
  obtain ⟨W, hW⟩ : ∃ W, W = w.alloc (Obj.cells #[.int .i64 f.last, .slice ga f.growth.length gc, .slice wa f.wet.length wc, .slice ba f.base.length bc, .slice ca f.crops.length cc, .int .i64 f.ripe, .int .i64 f.late, .int .i64 f.trod, .slice la f.looks.length lc] 87) := ⟨_, rfl⟩
  have hWs : W.heap.size = w.heap.size + 1 := by rw [hW]; simp
  have hWb : Below w.heap.size w W := by rw [hW]; exact below_alloc1 (Nat.le_refl _) _
  have hWr : W.heap[w.heap.size]? = some (.cells #[.int .i64 f.last, .slice ga f.growth.length gc, .slice wa f.wet.length wc, .slice ba f.base.length bc, .slice ca f.crops.length cc, .int .i64 f.ripe, .int .i64 f.late, .int .i64 f.trod, .slice la f.looks.length lc] 87 (0, 0)) := by rw [hW]; exact heap_new _ _
  have HBOX := hid (fun w1 (hb : Below W.heap.size W w1) => (hb.block w.heap.size (by omega)).trans hWr : ∀ w1, Below W.heap.size W w1 → w1.heap[w.heap.size]? = _)
  clear hWr
  rcases ho3 with hnil | ⟨b1, off1, rfl, hbn1, hc1⟩
  · rw [hnil] at hib; simp at hib
  rcases hop with hnil | ⟨b2, off2, rfl, hbn2, hc2⟩
  · rw [hnil] at hi; simp at hi
  have hbl1 : b1 < n := hbn1
  have hbl2 : b2 < n := hbn2
  have y1 := (hWb.cell (p := ⟨b1, off1 + i, none⟩) (by show b1 < _; omega)).trans (hc1 i hib)
  have y2 := (hWb.cell (p := ⟨b2, off2 + i, none⟩) (by show b2 < _; omega)).trans (hc2 i hi)
  have HC2 := hid (fun k hk => (hWb.cell (p := ⟨b2, off2 + k, none⟩) (by show b2 < _; omega)).trans (hc2 k hk) : ∀ k (hk : k < plan.length), W.cell? ⟨b2, off2 + k, none⟩ = some (.int .i64 plan[k]))
  have HCW := hid hc2
  have hbv2 : b2 < w.heap.size := by omega
  have hbb := fallFrom_mem hg.base f.base[i] (List.getElem_mem _)
  have hpp := hpm plan[i] (List.getElem_mem _)
  have hib' : i < 3 := by have := hg.baseL; omega
  rw [getD_at f.base 0 i hib] at y1 hbb
  rw [getD_at plan 0 i hi] at y2 hpp
  have HR := hid (show strongF f plan i = max 0 (f.base.getD i 0 - f.late * max 0 (plan.getD i 0 - (if i = 0 then -1 else plan.getD (i - 1) 0) - f.ripe)) from rfl)
  obtain ⟨bi, hbi⟩ : ∃ x, x = f.base.getD i 0 := ⟨_, rfl⟩
  obtain ⟨pi, hpi⟩ : ∃ x, x = plan.getD i 0 := ⟨_, rfl⟩
  rw [← hbi] at y1 hbb HR
  rw [← hpi] at y2 hpp HR
  have hri := hg.ripe
  have hla := hg.late
  have HB0 := hid (show 0 < i → -1 ≤ plan.getD (i - 1) 0 ∧ plan.getD (i - 1) 0 ≤ 9 from fun _ => by
    have := hpm plan[i - 1] (List.getElem_mem _)
    rw [getD_at plan 0 (i - 1) (by omega)] at this
    omega)
  clear hc1 hc2 hbi hpi hg hp1 hp2 hp3 hp4 hp5 h hpv hpm hbn1 hbn2
  have hrow := HBOX.out W (Below.refl _ _)
  have j0 := cell_of_row hrow 0
  have j1 := cell_of_row hrow 1
  have j2 := cell_of_row hrow 2
  have j3 := cell_of_row hrow 3
  have j4 := cell_of_row hrow 4
  have j5 := cell_of_row hrow 5
  have j6 := cell_of_row hrow 6
  have j7 := cell_of_row hrow 7
  have j8 := cell_of_row hrow 8
  simp only [List.getElem?_toArray, List.getElem?_cons_zero, List.getElem?_cons_succ] at j0 j1 j2 j3 j4 j5 j6 j7 j8
  clear hrow
  have hgl : w.heap.size < W.heap.size := by omega
  have hbw1 : b1 < W.heap.size := by omega
  have hbw2 : b2 < W.heap.size := by omega
  have hWl : W.heap.size ≤ w.heap.size + 1 ∧ w.heap.size + 1 ≤ W.heap.size := by omega
  clear hWs
  go_enter Try.func155, Try.ntmps155
  by_cases hz : i = 0
  · subst hz
    rw [Nat.add_zero] at y1 y2
    rw [if_pos rfl] at HR
    go_wp2
    rw [← hW]
    clear hW
    obtain ⟨hgc, hgf⟩ := grew_cells W
    refine wp_region_grew (by kernel_rfl) (by kernel_rfl) ?_
    repeat (go_big_quiet_step (fail))
    refine wpQuiet_nil ?_
    rintro _ ⟨ex, rfl⟩
    have HX := hid (grew_below W ex)
    generalize World.grew W ex = wX at *
    clear j0 j1 j2 j3 j4 j5 j6 j7 j8 hgc hgf
    go_wp2
    go_ret
    exact ⟨ret_int (by rw [HR.out, ← strong_eq hbb hla hpp hri (bf := -1) (by omega), show pi - -1 = pi + 1 by omega]), hWb.trans (HX.out.mono (by omega))⟩
  · rw [if_neg hz] at HR
    have hd : decide ((0 : Int) < (i : Int)) = true := decide_eq_true (by omega)
    have hdn : decide (0 < i) = true := decide_eq_true (by omega)
    have hi1 : 1 ≤ i := by omega
    have hk1 : i - 1 < plan.length := by omega
    have y3 := HCW.out (i - 1) hk1
    rw [getD_at plan 0 (i - 1) hk1] at y3
    have hbf := HB0.out (by omega)
    obtain ⟨bf, hbfe⟩ : ∃ x, x = plan.getD (i - 1) 0 := ⟨_, rfl⟩
    rw [← hbfe] at y3 hbf HR
    clear hbfe
    have hwr2 : IntKind.i64.wrap ((i : Int) - 1) = (i : Int) - 1 := IntWalk.i64_in _ (by omega)
    go_wp2
    rw [← hW]
    clear hW
    obtain ⟨hgc, hgf⟩ := grew_cells W
    refine wp_region_grew (by kernel_rfl) (by kernel_rfl) ?_
    repeat (go_big_quiet_step (fail))
    refine wpQuiet_nil ?_
    rintro _ ⟨ex, rfl⟩
    have HX := hid (grew_below W ex)
    generalize World.grew W ex = wX at *
    clear j0 j1 j2 j3 j4 j5 j6 j7 j8 hgc hgf
    go_wp2
    go_ret
    exact ⟨ret_int (by rw [HR.out, ← strong_eq hbb hla hpp hri hbf]), hWb.trans (HX.out.mono (by omega))⟩

/-- The weights of all weeks, as an array of ten. -/
def padT (l : List Int) : List Int := l ++ List.replicate (10 - l.length) 0
def stArr (l : List Int) : Array Value := ((padT l).map (Value.int .i64)).toArray
theorem padT_length (l : List Int) (h : l.length ≤ 10) : (padT l).length = 10 := by simp [padT]; omega
theorem padT_set (l : List Int) (h : l.length < 10) (x : Int) : (padT l).set l.length x = padT (l ++ [x]) := by
  have : List.replicate (10 - l.length) (0 : Int) = 0 :: List.replicate (10 - (l ++ [x]).length) 0 := by
    rw [← List.replicate_succ]
    congr 1
    simp
    omega
  simp only [padT]
  rw [this, set_mid]
  simp
theorem stArr_set (l : List Int) (h : l.length < 10) (x : Int) : (stArr l).setIfInBounds l.length (.int .i64 x) = stArr (l ++ [x]) := by
  simp only [stArr, List.setIfInBounds_toArray, ← List.map_set]
  rw [padT_set l h]
theorem padT_getD (l : List Int) (k : Nat) (h : k < l.length) : (padT l).getD k 0 = l.getD k 0 := by
  simp only [padT, List.getD_eq_getElem?_getD]
  rw [List.getElem?_append_left h]
theorem stArr_at (l : List Int) (hl : l.length ≤ 10) (k : Nat) (hk : k < 10) : (stArr l)[k]? = some (.int .i64 ((padT l).getD k 0)) := by
  have := padT_length l hl
  simp only [stArr, List.getElem?_toArray, List.getElem?_map]
  rw [List.getElem?_eq_getElem (by omega), getD_at (padT l) 0 k (by omega)]
  rfl
theorem ten_open (l : List Int) (h : l.length = 10) : ∃ x0 x1 x2 x3 x4 x5 x6 x7 x8 x9, l = [x0, x1, x2, x3, x4, x5, x6, x7, x8, x9] := by
  match l, h with
  | [x0, x1, x2, x3, x4, x5, x6, x7, x8, x9], _ => exact ⟨x0, x1, x2, x3, x4, x5, x6, x7, x8, x9, rfl⟩
theorem standF_drop (plan : List Int) : ∀ (l : List Int) (i n : Int), standF plan l i n = match l with | [] => [] | g :: l => (n + g) :: standF plan l (i + 1) (if plan.contains i then 0 else n + g)
  | [], _, _ => rfl
  | _ :: _, _, _ => rfl

/-- Ten cells stored. -/
def put10 (w : World) (g : Nat) (a0 a1 a2 a3 a4 a5 a6 a7 a8 a9 : Value) : World := ((((((((((w.setCell ⟨g, 0, none⟩ a0).setCell ⟨g, 1, none⟩ a1).setCell ⟨g, 2, none⟩ a2).setCell ⟨g, 3, none⟩ a3).setCell ⟨g, 4, none⟩ a4).setCell ⟨g, 5, none⟩ a5).setCell ⟨g, 6, none⟩ a6).setCell ⟨g, 7, none⟩ a7).setCell ⟨g, 8, none⟩ a8).setCell ⟨g, 9, none⟩ a9)
theorem put10_row {w : World} {g : Nat} {x0 x1 x2 x3 x4 x5 x6 x7 x8 x9 : Value} {t : TypeId} {f : Nat × Nat} (h : w.heap[g]? = some (.cells #[x0, x1, x2, x3, x4, x5, x6, x7, x8, x9] t f)) (a0 a1 a2 a3 a4 a5 a6 a7 a8 a9 : Value) :
    (put10 w g a0 a1 a2 a3 a4 a5 a6 a7 a8 a9).heap[g]? = some (.cells #[a0, a1, a2, a3, a4, a5, a6, a7, a8, a9] t f) := by
  have h0 := row_put h 0 a0
  have h1 := row_put h0 1 a1
  have h2 := row_put h1 2 a2
  have h3 := row_put h2 3 a3
  have h4 := row_put h3 4 a4
  have h5 := row_put h4 5 a5
  have h6 := row_put h5 6 a6
  have h7 := row_put h6 7 a7
  have h8 := row_put h7 8 a8
  have h9 := row_put h8 9 a9
  simp only [List.set_cons_zero, List.set_cons_succ] at h9
  exact h9
theorem put10_chg {w : World} {g : Nat} (a0 a1 a2 a3 a4 a5 a6 a7 a8 a9 : Value) : Chg (fun b => b = g) w (put10 w g a0 a1 a2 a3 a4 a5 a6 a7 a8 a9) :=
  (setCell_chg _).trans ((setCell_chg _).trans ((setCell_chg _).trans ((setCell_chg _).trans ((setCell_chg _).trans ((setCell_chg _).trans ((setCell_chg _).trans ((setCell_chg _).trans ((setCell_chg _).trans (setCell_chg _)))))))))

def RetStand (l : List Int) (w : World) (e : Ending) (w' : World) : Prop := e = .returned (.agg (stArr l)) ∧ Below w.heap.size w w'

set_option maxHeartbeats 4000000 in
theorem standK_any (wp : Value) (gl plan : List Int) (hgb : ∀ x ∈ gl, 0 ≤ x ∧ x ≤ 50) (hgl : gl.length ≤ 10) (hpl : plan.length ≤ 1000) (gv wv pv : Value) (n : Nat) (w : World) (hn : n ≤ w.heap.size) (hgv : Ints (Lt n) w gv gl) (hwv : ∃ wl : List Int, Ints (Lt n) w wv wl) (hpv : Ints (Lt n) w pv plan) :
    Calls Try.prog 153 #[wp, .agg #[gv, wv], pv] w (RetStand (standF plan gl 0 0) w) := by
  obtain ⟨ga, gc, rfl, -, hog⟩ := hgv.open1
  obtain ⟨wl, hwv⟩ := hwv
  obtain ⟨wa, wc, rfl, -, -⟩ := hwv.open1
  obtain ⟨pa, pc, hpe, -, -⟩ := hpv.open1
  generalize wl.length = wm at *
  obtain ⟨pm, hpm⟩ : ∃ pm, pm = plan.length := ⟨_, rfl⟩
  rw [← hpm] at hpe
  clear hpm
  subst hpe
  obtain ⟨W, hW⟩ : ∃ W, W = (w.alloc (Obj.cells #[.slice ga gl.length gc, .slice wa wm wc] 90)).alloc (Obj.cells #[.int .i64 0, .int .i64 0, .int .i64 0, .int .i64 0, .int .i64 0, .int .i64 0, .int .i64 0, .int .i64 0, .int .i64 0, .int .i64 0] 197) := ⟨_, rfl⟩
  have hWs : W.heap.size = w.heap.size + 2 := by rw [hW]; simp
  have hWb : Below w.heap.size w W := by rw [hW]; exact below_alloc2 (Nat.le_refl _) _ _
  have q1 : W.heap[w.heap.size + 1]? = some (.cells (stArr []) 197 (0, 0)) := by rw [hW]; exact heap_new2 _ _ _
  have q0 : W.heap[w.heap.size]? = some (.cells #[.slice ga gl.length gc, .slice wa wm wc] 90 (0, 0)) := by
    rw [hW]; exact (Below.heap_alloc _ _ _ (by simp)).trans (heap_new _ _)
  have hWl : W.heap.size ≤ w.heap.size + 2 ∧ w.heap.size + 2 ≤ W.heap.size := by omega
  have t0 := cell_of_row q0 0
  have t1 := cell_of_row q0 1
  simp only [List.getElem?_toArray, List.getElem?_cons_zero, List.getElem?_cons_succ] at t0 t1
  have Q1 := hid q1
  have HO := hid hog
  have HPV := hid hpv
  have HGB := hid hgb
  have HSL := hid (standF_length plan gl 0 0)
  clear hWs q0 q1 hgv hwv hog hpv hgb
  go_enter Try.func153, Try.ntmps153
  go_wp2
  rw [← hW]
  clear hW
  go_loopw [7, 13] (fun nv i wr => ∃ (k : Nat) (x : Int), k ≤ gl.length ∧ i = .int .i64 k ∧ nv = .int .i64 x ∧ 0 ≤ x ∧ x ≤ 50 * k ∧ wr.heap[w.heap.size + 1]? = some (.cells (stArr ((standF plan gl 0 0).take k)) 197 (0, 0)) ∧ Hid (standF plan (gl.drop k) k x = (standF plan gl 0 0).drop k) ∧ Chg (fun b => b = w.heap.size + 1) W wr) (fun _ i _ => gl.length - (intOf i).toNat)
  case atStart => exact ⟨0, 0, by omega, rfl, rfl, by omega, by omega, Q1.out, hid rfl, Chg.refl _ _⟩
  case round =>
    obtain ⟨k, x, hk, rfl, rfl, hx0, hx1, hrow, HI, hch⟩ := hrel
    have hsz := hch.size
    have hl1 : w.heap.size + 1 < wr.heap.size := by omega
    have hl0 : w.heap.size < wr.heap.size := by omega
    by_cases hlt : k < gl.length
    · rcases HO.out with hnil | ⟨b, off, rfl, hbn, hc⟩
      · rw [hnil] at hlt; simp at hlt
      have hbl : b < n := hbn
      have hbw : b < wr.heap.size := by omega
      have y0 := (World.cell?_of_block (a := ⟨b, off + k, none⟩) (hch.block b (by omega) (by omega))).trans ((hWb.cell (p := ⟨b, off + k, none⟩) (by show b < _; omega)).trans (hc k hlt))
      have hgb := HGB.out gl[k] (List.getElem_mem _)
      have hD : standF plan (gl.drop k) k x = (x + gl[k]) :: standF plan (gl.drop (k + 1)) (k + 1) (if plan.contains (k : Int) then 0 else x + gl[k]) := by rw [List.drop_eq_getElem_cons hlt]; rfl
      have hlen : ((standF plan gl 0 0).take k).length = k := by rw [List.length_take, HSL.out]; omega
      have hks : k < (standF plan gl 0 0).length := by rw [HSL.out]; exact hlt
      have hdr := HI.out
      rw [hD, List.drop_eq_getElem_cons hks] at hdr
      injection hdr with hd1 hd2
      have HT := hid (show (standF plan gl 0 0).take (k + 1) = (standF plan gl 0 0).take k ++ [x + gl[k]] by rw [List.take_succ_eq_append_getElem hks, ← hd1])
      have HD2 := hid hd2
      have HLEN := hid hlen
      have hk10 : k < 10 := by omega
      have hk10i : ((k : Int) < 10) := by omega
      have c0 := cell_of_row hrow k
      rw [stArr_at _ (by omega) k hk10] at c0
      have f0 := frozen_of_row hrow k
      have HROW := hid hrow
      have HCH := hid hch
      have HPW := hid (HPV.out.below ((hWb.trans (hch.below (n := w.heap.size) (by omega) fun b hb e => by omega)).mono hn))
      clear hc hD hlen hks hd1 hd2 hrow hch t0 t1
      generalize gl[k] = g at *
      generalize (padT ((standF plan gl 0 0).take k)).getD k 0 = old at *
      have hwr : IntKind.i64.wrap (x + g) = x + g := IntWalk.i64_in _ (by omega)
      obtain ⟨cb, hcb⟩ : ∃ cb, cb = plan.contains (k : Int) := ⟨_, rfl⟩
      rw [← hcb] at HD2
      have HCB := hid hcb
      clear hcb
      go_wp2_with fail
      obtain ⟨V, hV⟩ : ∃ V, V = wr.setCell ⟨w.heap.size + 1, k, none⟩ (.int .i64 (x + g)) := ⟨_, rfl⟩
      rw [← hV]
      have hcV : Chg (fun b => b = w.heap.size + 1) wr V := by rw [hV]; exact setCell_chg _
      have hrV := row_set HROW.out k (.int .i64 (x + g))
      rw [← hV] at hrV
      have hrV2 : V.heap[w.heap.size + 1]? = some (.cells (stArr ((standF plan gl 0 0).take (k + 1))) 197 (0, 0)) := by
        rw [HT.out, hrV]
        have := stArr_set ((standF plan gl 0 0).take k) (by rw [HLEN.out]; omega) (x + g)
        rw [HLEN.out] at this
        rw [this]
      have HV := hid (And.intro (HCH.out.trans hcV) hrV2)
      have HPX := hid (HPW.out.below (hcV.below (n := n) (by omega) fun b hb e => by omega))
      clear hV hcV hrV hrV2 c0 f0 y0
      refine (Contains_hid plan k HCB _ n V HPX.out hpl).mono ?_
      rintro e w5 ⟨rfl, rfl⟩
      cases cb with
      | true =>
        go_wp2
        go_roundw
        case rel => exact ⟨k + 1, 0, by omega, by go_num, rfl, by omega, by omega, HV.out.2, hid (by have := HD2.out; simpa using this), HV.out.1⟩
        case measure => simp [intOf]; omega
      | false =>
        go_wp2
        go_roundw
        case rel => exact ⟨k + 1, x + g, by omega, by go_num, rfl, by omega, by omega, HV.out.2, hid (by have := HD2.out; simpa using this), HV.out.1⟩
        case measure => simp [intOf]; omega
    · have hke : k = gl.length := by omega
      subst hke
      have HE := hid (show (standF plan gl 0 0).take gl.length = standF plan gl 0 0 by rw [← HSL.out, List.take_length])
      rw [HE.out] at hrow
      have hlen : (padT (standF plan gl 0 0)).length = 10 := padT_length _ (by rw [HSL.out]; exact hgl)
      have HV := hid (show stArr (standF plan gl 0 0) = ((padT (standF plan gl 0 0)).map (Value.int .i64)).toArray from rfl)
      rw [HV.out] at hrow
      obtain ⟨x0, x1, x2, x3, x4, x5, x6, x7, x8, x9, hten⟩ := ten_open _ hlen
      rw [hten] at hrow HV
      simp only [List.map_cons, List.map_nil] at hrow
      have HV2 := hid (show stArr (standF plan gl 0 0) = #[.int .i64 x0, .int .i64 x1, .int .i64 x2, .int .i64 x3, .int .i64 x4, .int .i64 x5, .int .i64 x6, .int .i64 x7, .int .i64 x8, .int .i64 x9] from HV.out)
      have c0 := cell_of_row hrow 0
      have f0 := frozen_of_row hrow 0
      have c1 := cell_of_row hrow 1
      have f1 := frozen_of_row hrow 1
      have c2 := cell_of_row hrow 2
      have f2 := frozen_of_row hrow 2
      have c3 := cell_of_row hrow 3
      have f3 := frozen_of_row hrow 3
      have c4 := cell_of_row hrow 4
      have f4 := frozen_of_row hrow 4
      have c5 := cell_of_row hrow 5
      have f5 := frozen_of_row hrow 5
      have c6 := cell_of_row hrow 6
      have f6 := frozen_of_row hrow 6
      have c7 := cell_of_row hrow 7
      have f7 := frozen_of_row hrow 7
      have c8 := cell_of_row hrow 8
      have f8 := frozen_of_row hrow 8
      have c9 := cell_of_row hrow 9
      have f9 := frozen_of_row hrow 9
      simp only [List.getElem?_toArray, List.getElem?_cons_zero, List.getElem?_cons_succ] at c0 c1 c2 c3 c4 c5 c6 c7 c8 c9
      have HCH := hid hch
      have HROW := hid hrow
      clear hten hlen hrow hch HV t0 t1
      go_wp2_with fail
      clear c0 c1 c2 c3 c4 c5 c6 c7 c8 c9 f0 f1 f2 f3 f4 f5 f6 f7 f8 f9
      have hr := put10_row HROW.out (.int .i64 x0) (.int .i64 x1) (.int .i64 x2) (.int .i64 x3) (.int .i64 x4) (.int .i64 x5) (.int .i64 x6) (.int .i64 x7) (.int .i64 x8) (.int .i64 x9)
      have hc := put10_chg (w := wr) (g := w.heap.size + 1) (.int .i64 x0) (.int .i64 x1) (.int .i64 x2) (.int .i64 x3) (.int .i64 x4) (.int .i64 x5) (.int .i64 x6) (.int .i64 x7) (.int .i64 x8) (.int .i64 x9)
      change bodyPost _ _ _ _ _ (put10 wr (w.heap.size + 1) (.int .i64 x0) (.int .i64 x1) (.int .i64 x2) (.int .i64 x3) (.int .i64 x4) (.int .i64 x5) (.int .i64 x6) (.int .i64 x7) (.int .i64 x8) (.int .i64 x9))
      generalize put10 wr (w.heap.size + 1) (.int .i64 x0) (.int .i64 x1) (.int .i64 x2) (.int .i64 x3) (.int .i64 x4) (.int .i64 x5) (.int .i64 x6) (.int .i64 x7) (.int .i64 x8) (.int .i64 x9) = Z at *
      have q0 := cell_of_row hr 0
      have q1 := cell_of_row hr 1
      have q2 := cell_of_row hr 2
      have q3 := cell_of_row hr 3
      have q4 := cell_of_row hr 4
      have q5 := cell_of_row hr 5
      have q6 := cell_of_row hr 6
      have q7 := cell_of_row hr 7
      have q8 := cell_of_row hr 8
      have q9 := cell_of_row hr 9
      simp only [List.getElem?_toArray, List.getElem?_cons_zero, List.getElem?_cons_succ] at q0 q1 q2 q3 q4 q5 q6 q7 q8 q9
      have hQ : RetStand (standF plan gl 0 0) w (.returned (.agg #[.int .i64 x0, .int .i64 x1, .int .i64 x2, .int .i64 x3, .int .i64 x4, .int .i64 x5, .int .i64 x6, .int .i64 x7, .int .i64 x8, .int .i64 x9])) Z := by
        refine ⟨by rw [HV2.out], (hWb.trans (HCH.out.below (by omega) fun b hb e => by omega)).trans (hc.below (by omega) fun b hb e => by omega)⟩
      exact bodyPost_ret (v := .agg #[.int .i64 x0, .int .i64 x1, .int .i64 x2, .int .i64 x3, .int .i64 x4, .int .i64 x5, .int .i64 x6, .int .i64 x7, .int .i64 x8, .int .i64 x9]) (by simp only [results, Try.results153]; simp [go_sem, q0, q1, q2, q3, q4, q5, q6, q7, q8, q9]) rfl hQ
end Go.Proofs.Ytjddcaimjofihaa
