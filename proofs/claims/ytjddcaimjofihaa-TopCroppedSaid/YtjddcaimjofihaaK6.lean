/- Contracts of the statements' list, to, Truth and Field of package crop; no condition. -/
import Derived.Test.YtjddcaimjofihaaK1
import Derived.Test.YtjddcaimjofihaaRK
import Derived.Test.YtjddcaimjofihaaR1
import Derived.Test.YtjddcaimjofihaaK3
namespace Go.Proofs.Ytjddcaimjofihaa
open Go.RowKit Go.Shelf
set_option maxRecDepth 100000

theorem listM_any (l : List Int) (v : Value) (n : Nat) (w : World) (_ : n ≤ w.heap.size) (h : Ints (Lt n) w v l) (hll : l.length ≤ 1000) :
    Calls Try.prog 103 #[v] w fun e w' => ∃ v', e = .returned v' ∧ Own w.heap.size 3 1 encI w' v' l ∧ Below w.heap.size w w' := by
  have h' := h
  obtain ⟨a, cap, rfl, -, -⟩ := h.open1
  have HS := hid h'
  clear h h'
  go_enter Try.func103, Try.ntmps103
  go_wp2_with (at_builtin; refine wpList_appendL encI rfl _ _ 47 rfl w.heap.size 3 _ 1 8 ints_under infoInt rfl (by decide) encI_length encI_one _ [] rfl Own.nil _ _ l rfl HS.out (by simp; omega) (by decide) (by simp) ?_; intro v' w1 hown hgrow)
  go_ret
  exact ⟨v', rfl, by simpa using hown, (Below.refl w.heap.size w).grown hgrow (Nat.le_refl _) (fun k hk => by cases hk)⟩

theorem toM_any (lo hi : Int) (w : World) :
    Calls Try.prog 104 #[.agg #[.int .i64 lo, .int .i64 hi]] w fun e w' => e = .returned (.agg #[.int .i64 lo, .int .i64 hi]) ∧ Below w.heap.size w w' := by
  go_enter Try.func104, Try.ntmps104
  go_wp2
  refine bodyPost_ret (v := .agg #[.int .i64 lo, .int .i64 hi]) (by simp [results, Try.results104, go_sem]) rfl ⟨rfl, below_alloc2 (Nat.le_refl _) _ _⟩

set_option maxHeartbeats 2000000 in
theorem truthM_any (gl wl : List Int) (gv wv : Value) (n : Nat) (w : World) (hn : n ≤ w.heap.size) (hg : Ints (Lt n) w gv gl) (hw : Ints (Lt n) w wv wl) (hgl : gl.length ≤ 1000) (hwl : wl.length ≤ 1000) :
    Calls Try.prog 54 #[.agg #[gv, wv]] w (RetTwoL gl wl w) := by
  obtain ⟨ga, gc, rfl, -, -⟩ := hg.open1
  obtain ⟨wa, wc, rfl, -, -⟩ := hw.open1
  obtain ⟨gm, hgm⟩ : ∃ gm, gm = gl.length := ⟨_, rfl⟩
  obtain ⟨wm, hwm⟩ : ∃ wm, wm = wl.length := ⟨_, rfl⟩
  rw [← hgm] at hg ⊢
  rw [← hwm] at hw ⊢
  have HGL := hid hgl
  have HWL := hid hwl
  clear hgm hwm hgl hwl
  obtain ⟨W, hW⟩ : ∃ W, W = ((w.alloc (Obj.cells #[.slice ga gm gc, .slice wa wm wc] 92)).alloc (Obj.cells #[.slice none 0 0, .slice none 0 0] 90)).drew := ⟨_, rfl⟩
  have hWs : W.heap.size = w.heap.size + 2 := by rw [hW]; simp
  have hWb : Below w.heap.size w W := by rw [hW]; exact (below_alloc2 (Nat.le_refl _) _ _).drew
  have q1 : W.heap[w.heap.size + 1]? = some (.cells #[.slice none 0 0, .slice none 0 0] 90 (0, 0)) := by rw [hW]; exact heap_new2 _ _ _
  have q0 : W.heap[w.heap.size]? = some (.cells #[.slice ga gm gc, .slice wa wm wc] 92 (0, 0)) := by
    rw [hW]
    exact (Below.heap_alloc _ _ _ (by simp)).trans (heap_new _ _)
  have HBOX := hid (fun w1 (hb : Below W.heap.size W w1) => (hb.block w.heap.size (by omega)).trans q0 : ∀ w1, Below W.heap.size W w1 → w1.heap[w.heap.size]? = _)
  have HRES := hid (fun w1 (hb : Below W.heap.size W w1) => (hb.block (w.heap.size + 1) (by omega)).trans q1 : ∀ w1, Below W.heap.size W w1 → w1.heap[w.heap.size + 1]? = _)
  have hWl : W.heap.size ≤ w.heap.size + 2 ∧ w.heap.size + 2 ≤ W.heap.size := by omega
  have HGI := hid (hg.below (hWb.mono hn))
  have HWI := hid (hw.below (hWb.mono hn))
  clear hg hw q0 q1 hWs
  go_enter Try.func54, Try.ntmps54
  go_wp2
  refine wp_region_grow (by kernel_rfl) 7 (fun w' => Below W.heap.size W w') ?_ ?_
  · rw [hW]; exact Below.refl _ _
  rw [← hW]
  clear hW
  have HG := fun (a b : World) (h : Below W.heap.size W a) (k : Below a.heap.size a b) => (h.trans (k.mono h.size) : Below W.heap.size W b)
  refine wpG_take (i := 0) (v := .pointer (some ⟨w.heap.size, 0, none⟩)) rfl rfl (by kernel_rfl) (by kernel_rfl) (by kernel_rfl) (by kernel_rfl) (fun _ _ _ h => h) (by rfl) (fun w' hS' => grow_value ?_ hS') ?_
  · go_simp
  try simp only [List.setIfInBounds_toArray, List.set_cons_zero, List.set_cons_succ]
  refine wpG_take (i := 1) (v := .slice ga gm gc) rfl rfl (by kernel_rfl) (by kernel_rfl) (by kernel_rfl) (by kernel_rfl) (fun _ _ _ h => h) (by rfl) (fun w' hS' => grow_value ?_ hS') ?_
  · have ⟨s0, s1⟩ := (⟨cell_of_row (HBOX.out _ hS') 0, cell_of_row (HBOX.out _ hS') 1⟩ : _ ∧ _); simp only [List.getElem?_toArray, List.getElem?_cons_zero, List.getElem?_cons_succ] at s0 s1; go_simp
  try simp only [List.setIfInBounds_toArray, List.set_cons_zero, List.set_cons_succ]
  refine wpG_take (i := 3) (v := .pointer (some ⟨w.heap.size, 1, none⟩)) rfl rfl (by kernel_rfl) (by kernel_rfl) (by kernel_rfl) (by kernel_rfl) (fun _ _ _ h => h) (by rfl) (fun w' hS' => grow_value ?_ hS') ?_
  · go_simp
  try simp only [List.setIfInBounds_toArray, List.set_cons_zero, List.set_cons_succ]
  refine wpG_take (i := 4) (v := .slice wa wm wc) rfl rfl (by kernel_rfl) (by kernel_rfl) (by kernel_rfl) (by kernel_rfl) (fun _ _ _ h => h) (by rfl) (fun w' hS' => grow_value ?_ hS') ?_
  · have ⟨s0, s1⟩ := (⟨cell_of_row (HBOX.out _ hS') 0, cell_of_row (HBOX.out _ hS') 1⟩ : _ ∧ _); simp only [List.getElem?_toArray, List.getElem?_cons_zero, List.getElem?_cons_succ] at s0 s1; go_simp
  try simp only [List.setIfInBounds_toArray, List.set_cons_zero, List.set_cons_succ]
  refine wpG_only (i := 2) rfl (by rfl) (by kernel_rfl) (by rfl) (fun w1 hb1 hS1 => ?_)
  go_simp
  refine (listM_any gl _ n w1 (by have := hS1.size; omega) (HGI.out.below (hS1.mono (by omega))) HGL.out).mono ?_
  rintro e w2 ⟨v2, rfl, hown2, hb2⟩
  have hS2 := HG _ _ hS1 hb2
  refine ⟨hS2, ?_⟩
  try simp only [List.setIfInBounds_toArray, List.set_cons_zero, List.set_cons_succ]
  refine wpG_only (i := 5) rfl (by rfl) (by kernel_rfl) (by rfl) (fun w3 hb3 hS3 => ?_)
  go_simp
  refine (listM_any wl _ n w3 (by have := hS3.size; omega) (HWI.out.below (hS3.mono (by omega))) HWL.out).mono ?_
  rintro e w4 ⟨v4, rfl, hown4, hb4⟩
  have hS4 := HG _ _ hS3 hb4
  refine ⟨hS4, ?_⟩
  try simp only [List.setIfInBounds_toArray, List.set_cons_zero, List.set_cons_succ]
  obtain ⟨pa, pc, hv, -, -⟩ := hown2.slLt encI_length
  obtain ⟨ua, uc, hu, -, -⟩ := hown4.slLt encI_length
  obtain ⟨pm, hpm⟩ : ∃ pm, pm = gl.length := ⟨_, rfl⟩
  obtain ⟨um, hum⟩ : ∃ um, um = wl.length := ⟨_, rfl⟩
  rw [← hpm] at hv
  rw [← hum] at hu
  clear hpm hum
  subst hv hu
  refine wpG_take (i := 6) (v := .agg #[.slice pa pm pc, .slice ua um uc]) rfl rfl (by kernel_rfl) (by kernel_rfl) (by kernel_rfl) (by kernel_rfl) (fun _ _ _ h => h) (by rfl) (fun w' hS' => grow_value ?_ hS') ?_
  · go_simp
  try simp only [List.setIfInBounds_toArray, List.set_cons_zero, List.set_cons_succ]
  refine wpG_last rfl (by kernel_rfl) (by kernel_rfl) (by rfl) (fun w5 hb5 hS5 => ?_)
  have rr := HRES.out w5 hS5
  have c0 := cell_of_row rr 0
  have c1 := cell_of_row rr 1
  have f0 := frozen_of_row rr 0
  have f1 := frozen_of_row rr 1
  simp only [List.getElem?_toArray, List.getElem?_cons_zero, List.getElem?_cons_succ] at c0 c1
  go_simp
  have hr := row_set (row_set rr 0 (.slice pa pm pc)) 1 (.slice ua um uc)
  simp only [List.setIfInBounds_toArray, List.set_cons_zero, List.set_cons_succ] at hr
  obtain ⟨V, hV⟩ : ∃ V, V = (w5.setCell ⟨w.heap.size + 1, 0, none⟩ (.slice pa pm pc)).setCell ⟨w.heap.size + 1, 1, none⟩ (.slice ua um uc) := ⟨_, rfl⟩
  rw [← hV] at hr ⊢
  have hc : Chg (fun b => b = w.heap.size + 1) w5 V := by rw [hV]; exact (setCell_chg _).trans (setCell_chg _)
  clear hV c0 c1 f0 f1
  go_wp2_with fail
  have q0 := cell_of_row hr 0
  have q1 := cell_of_row hr 1
  simp only [List.getElem?_toArray, List.getElem?_cons_zero, List.getElem?_cons_succ] at q0 q1
  have hb : Below w.heap.size w V := (hWb.trans (hS5.mono (by omega))).trans (hc.below (by have := hS5.size; omega) fun b hb => by omega)
  have hQ : RetTwoL gl wl w (.returned (.agg #[.slice pa pm pc, .slice ua um uc])) V := by
    refine ⟨_, _, rfl, ?_, ?_, hb⟩
    · exact (((hown2.below (hb3.trans (hb4.mono hb3.size))).below (hb5.mono (Nat.le_refl _))).chg hc (fun b hb => by have := hS1.size; omega)).slLt encI_length
    · exact ((hown4.below hb5).chg hc (fun b hb => by have := hS3.size; omega)).slLt encI_length
  exact bodyPost_ret (v := .agg #[.slice pa pm pc, .slice ua um uc]) (by simp only [results, Try.results54]; simp [go_sem, q0, q1]) rfl hQ

theorem kranges_under : Try.prog.underlying 84 = some (.slice 149) := by kernel_rfl
theorem infoKRange : (Try.prog.info? 149).map (fun i => (i.zero, i.size, i.bytes)) = some (some (.agg #[.int .i64 0, .int .i64 0]), 2, 16) := by kernel_rfl
theorem klooks_under : Try.prog.underlying 85 = some (.slice 157) := by kernel_rfl
theorem infoKLook : (Try.prog.info? 157).map (fun i => (i.zero, i.size, i.bytes)) = some (some (.agg #[.int .i64 0, .int .i64 0, .int .i64 0]), 3, 24) := by kernel_rfl
def encK (l : Lk) : List Value := [.int .i64 l.week, .int .i64 l.w.lo, .int .i64 l.w.hi]
theorem encK_length (l : Lk) : (encK l).length = 3 := rfl
theorem encK_one (l : Lk) : ∀ u ∈ encK l, u.oneCell' = true := by
  intro u hu
  simp only [encK, List.mem_cons, List.not_mem_nil, or_false] at hu
  rcases hu with rfl | rfl | rfl <;> rfl
def RetFl (f : Fl) (w : World) (e : Ending) (w' : World) : Prop := ∃ v, e = .returned v ∧ FlV (Lt w'.heap.size) w' v f ∧ Below w.heap.size w w'

/-- A new field's block. -/
def NewFl (n : Nat) (u : Value) (w : World) : Prop := ∃ X, u = .pointer (some ⟨X, 0, none⟩) ∧ n ≤ X ∧ w.heap[X]? = some (.cells #[.int .i64 0, .slice none 0 0, .slice none 0 0, .slice none 0 0, .slice none 0 0, .int .i64 0, .int .i64 0, .int .i64 0, .slice none 0 0] 87 (0, 0))
theorem NewFl.below {n : Nat} {u : Value} {w w' : World} (h : NewFl n u w) (hb : Below w.heap.size w w') : NewFl n u w' := by
  obtain ⟨X, rfl, h1, h2⟩ := h
  exact ⟨X, rfl, h1, (hb.block X (Array.getElem?_eq_some_iff.1 h2).1).trans h2⟩
/-- What was read below a number, in a world that has grown. -/
theorem grew_ints {W w' : World} {n m : Nat} {v : Value} {l : List Int} (h : Below W.heap.size W w') (hi : Ints (Lt n) W v l) (hn : n ≤ m) (hm : m ≤ W.heap.size := by omega) : Ints (Lt w'.heap.size) w' v l :=
  (hi.below (h.mono (Nat.le_trans hn hm))).le (Nat.le_trans (Nat.le_trans hn hm) h.size)
theorem ye_list {W w' : World} {l : List Int} (v : Value) (_ : True) (h : Ints (Lt w'.heap.size) w' v l) (hl : l.length ≤ 1000) (hS : Below W.heap.size W w') :
    Calls Try.prog 103 #[v] w' fun e w'' => ∃ u, e = .returned u ∧ Below w'.heap.size w' w'' ∧ Below W.heap.size W w'' ∧ Own W.heap.size 3 1 encI w'' u l :=
  (listM_any l v w'.heap.size w' (Nat.le_refl _) h hl).mono fun _ _ ⟨u, he, ho, hb⟩ => ⟨u, he, hb, hS.trans (hb.mono hS.size), ho.lower hS.size⟩
theorem Own.ne_row {α : Type} {base : Nat} {e t : TypeId} {sz : Nat} {enc : α → List Value} {w : World} {v : Value} {l : List α} {X : Nat} {cs : Array Value} {g : Nat × Nat} (h : Own base e sz enc w v l) (hr : w.heap[X]? = some (.cells cs t g)) (hne : e ≠ t) : ∀ b, v.ownBlock = some b → b ≠ X := by
  rintro b hb rfl
  obtain ⟨-, h⟩ := h
  rcases h with ⟨rfl, -⟩ | ⟨g', cap, cur, rfl, -, hh, -⟩
  · cases hb
  · simp only [Value.ownBlock, Option.some.injEq] at hb
    subst hb
    rw [hr] at hh
    cases hh
    exact hne rfl

theorem wp_via3 {P : Program} {c : Code} {Q : Exit → Act → World → Prop} {a : Act} {w : World} {act : Nat → Nat → Nat → Nat → Option Addr → Option Addr → Option Addr → Act} (F : Nat → Nat → Nat → Nat → Option Addr → Option Addr → Option Addr → World → Prop)
    (h : c.wp P (Nrm fun a' w' => ∃ x k0 k1 k2 a0 a1 a2, a' = act x k0 k1 k2 a0 a1 a2 ∧ F x k0 k1 k2 a0 a1 a2 w') a w) (hq : ∀ x k0 k1 k2 a0 a1 a2 w', F x k0 k1 k2 a0 a1 a2 w' → Q .normal (act x k0 k1 k2 a0 a1 a2) w') : c.wp P Q a w :=
  Code.wp_mono (fun e a' w' hx => by
    cases e <;> first | exact hx.elim | skip
    obtain ⟨x, k0, k1, k2, a0, a1, a2, rfl, hf⟩ := hx
    exact hq _ _ _ _ _ _ _ _ hf) h
theorem row_put {w : World} {g : Nat} {l : List Value} {t : TypeId} {f : Nat × Nat} (h : w.heap[g]? = some (.cells l.toArray t f)) (i : Nat) (v : Value) : (w.setCell ⟨g, i, none⟩ v).heap[g]? = some (.cells (l.set i v).toArray t f) := by
  have := row_set h i v
  rwa [List.setIfInBounds_toArray] at this
/-- Nine cells stored. -/
def put9 (w : World) (g : Nat) (a0 a1 a2 a3 a4 a5 a6 a7 a8 : Value) : World := (((((((((w.setCell ⟨g, 0, none⟩ a0).setCell ⟨g, 1, none⟩ a1).setCell ⟨g, 2, none⟩ a2).setCell ⟨g, 3, none⟩ a3).setCell ⟨g, 4, none⟩ a4).setCell ⟨g, 5, none⟩ a5).setCell ⟨g, 6, none⟩ a6).setCell ⟨g, 7, none⟩ a7).setCell ⟨g, 8, none⟩ a8)
theorem put9_row {w : World} {g : Nat} {x0 x1 x2 x3 x4 x5 x6 x7 x8 : Value} {t : TypeId} {f : Nat × Nat} (h : w.heap[g]? = some (.cells #[x0, x1, x2, x3, x4, x5, x6, x7, x8] t f)) (a0 a1 a2 a3 a4 a5 a6 a7 a8 : Value) :
    (put9 w g a0 a1 a2 a3 a4 a5 a6 a7 a8).heap[g]? = some (.cells #[a0, a1, a2, a3, a4, a5, a6, a7, a8] t f) := by
  have h0 := row_put h 0 a0
  have h1 := row_put h0 1 a1
  have h2 := row_put h1 2 a2
  have h3 := row_put h2 3 a3
  have h4 := row_put h3 4 a4
  have h5 := row_put h4 5 a5
  have h6 := row_put h5 6 a6
  have h7 := row_put h6 7 a7
  have h8 := row_put h7 8 a8
  simp only [List.set_cons_zero, List.set_cons_succ] at h8
  exact h8
theorem put9_chg {w : World} {g : Nat} (a0 a1 a2 a3 a4 a5 a6 a7 a8 : Value) : Chg (fun b => b = g) w (put9 w g a0 a1 a2 a3 a4 a5 a6 a7 a8) :=
  (setCell_chg _).trans ((setCell_chg _).trans ((setCell_chg _).trans ((setCell_chg _).trans ((setCell_chg _).trans ((setCell_chg _).trans ((setCell_chg _).trans ((setCell_chg _).trans (setCell_chg _))))))))
/-- What the composite literal leaves behind. -/
structure FinF (W : World) (X : Nat) (f : Fl) (wv bv cv : Value) (V : World) : Prop where
  lt : X < V.heap.size
  ge : W.heap.size ≤ X
  below : Below W.heap.size W V
  row : V.heap[X]? = some (.cells #[.int .i64 f.last, .slice none 0 0, wv, bv, cv, .int .i64 f.ripe, .int .i64 f.late, .int .i64 f.trod, .slice none 0 0] 87 (0, 0))
  wet : Own W.heap.size 3 1 encI V wv f.wet ∧ ∀ b, wv.ownBlock = some b → b ≠ X
  base : Own W.heap.size 3 1 encI V bv f.base ∧ ∀ b, bv.ownBlock = some b → b ≠ X
  crops : Own W.heap.size 3 1 encI V cv f.crops ∧ ∀ b, cv.ownBlock = some b → b ≠ X
theorem FinF.hids {W : World} {X : Nat} {f : Fl} {wv bv cv : Value} {V : World} (h : FinF W X f wv bv cv V) : X < V.heap.size ∧ W.heap.size ≤ X ∧ Hid (Below W.heap.size W V) ∧ Hid (V.heap[X]? = some (.cells #[.int .i64 f.last, .slice none 0 0, wv, bv, cv, .int .i64 f.ripe, .int .i64 f.late, .int .i64 f.trod, .slice none 0 0] 87 (0, 0))) ∧
    Hid (Own W.heap.size 3 1 encI V wv f.wet ∧ ∀ b, wv.ownBlock = some b → b ≠ X) ∧ Hid (Own W.heap.size 3 1 encI V bv f.base ∧ ∀ b, bv.ownBlock = some b → b ≠ X) ∧ Hid (Own W.heap.size 3 1 encI V cv f.crops ∧ ∀ b, cv.ownBlock = some b → b ≠ X) :=
  ⟨h.lt, h.ge, h.below, h.row, h.wet, h.base, h.crops⟩
theorem FinF.of {W w : World} {X : Nat} {f : Fl} {wv bv cv x0 x1 x2 x3 x4 x5 x6 x7 x8 : Value} (h0 : W.heap.size ≤ X) (hb : Below W.heap.size W w) (hr : w.heap[X]? = some (.cells #[x0, x1, x2, x3, x4, x5, x6, x7, x8] 87 (0, 0)))
    (h1 : Own W.heap.size 3 1 encI w wv f.wet) (h2 : Own W.heap.size 3 1 encI w bv f.base) (h3 : Own W.heap.size 3 1 encI w cv f.crops) :
    FinF W X f wv bv cv (put9 w X (.int .i64 f.last) (.slice none 0 0) wv bv cv (.int .i64 f.ripe) (.int .i64 f.late) (.int .i64 f.trod) (.slice none 0 0)) := by
  have hrow := put9_row hr (.int .i64 f.last) (.slice none 0 0) wv bv cv (.int .i64 f.ripe) (.int .i64 f.late) (.int .i64 f.trod) (.slice none 0 0)
  have hc := put9_chg (w := w) (g := X) (.int .i64 f.last) (.slice none 0 0) wv bv cv (.int .i64 f.ripe) (.int .i64 f.late) (.int .i64 f.trod) (.slice none 0 0)
  have n1 := h1.ne_row hr (by decide)
  have n2 := h2.ne_row hr (by decide)
  have n3 := h3.ne_row hr (by decide)
  exact ⟨(Array.getElem?_eq_some_iff.1 hrow).1, h0, hb.trans (hc.below hb.size fun b hlt e => by omega), hrow, ⟨h1.chg_ne hc n1, n1⟩, ⟨h2.chg_ne hc n2, n2⟩, ⟨h3.chg_ne hc n3, n3⟩⟩

set_option maxHeartbeats 8000000 in
theorem fieldM_any (f : Fl) (v : Value) (n : Nat) (w : World) (hn : n ≤ w.heap.size) (h : FlV (Lt n) w v f) (hsm : SmallF f) :
    Calls Try.prog 53 #[v] w (RetFl f w) := by
  obtain ⟨ga, gc, wa, wc, ba, bc, ca, cc, la, lc, rfl, hp1, hp2, hp3, hp4, hp5⟩ := h.open
  obtain ⟨_, _, he, -, ho1⟩ := hp1.open2
  cases he
  obtain ⟨_, _, he, -, ho5⟩ := hp5.open3
  cases he
  obtain ⟨m1, m2, m3, m4, m5⟩ := hsm
  obtain ⟨W, hW⟩ : ∃ W, W = ((w.alloc (Obj.cells #[.int .i64 f.last, .slice ga f.growth.length gc, .slice wa f.wet.length wc, .slice ba f.base.length bc, .slice ca f.crops.length cc, .int .i64 f.ripe, .int .i64 f.late, .int .i64 f.trod, .slice la f.looks.length lc] 78)).alloc (Obj.cells #[.int .i64 0, .slice none 0 0, .slice none 0 0, .slice none 0 0, .slice none 0 0, .int .i64 0, .int .i64 0, .int .i64 0, .slice none 0 0] 87)) := ⟨_, rfl⟩
  have hWs : W.heap.size = w.heap.size + 2 := by rw [hW]; simp
  have hWb : Below w.heap.size w W := by rw [hW]; exact below_alloc2 (Nat.le_refl _) _ _
  have q1 : W.heap[w.heap.size + 1]? = some (.cells #[.int .i64 0, .slice none 0 0, .slice none 0 0, .slice none 0 0, .slice none 0 0, .int .i64 0, .int .i64 0, .int .i64 0, .slice none 0 0] 87 (0, 0)) := by rw [hW]; exact heap_new2 _ _ _
  have q0 : W.heap[w.heap.size]? = some (.cells #[.int .i64 f.last, .slice ga f.growth.length gc, .slice wa f.wet.length wc, .slice ba f.base.length bc, .slice ca f.crops.length cc, .int .i64 f.ripe, .int .i64 f.late, .int .i64 f.trod, .slice la f.looks.length lc] 78 (0, 0)) := by
    rw [hW]
    exact (Below.heap_alloc _ _ _ (by simp)).trans (heap_new _ _)
  have hWl : W.heap.size ≤ w.heap.size + 2 ∧ w.heap.size + 2 ≤ W.heap.size := by omega
  have HBOX := hid (fun w1 (hb : Below W.heap.size W w1) => (hb.block w.heap.size (by omega)).trans q0 : ∀ w1, Below W.heap.size W w1 → w1.heap[w.heap.size]? = _)
  have HRES := hid (fun w1 (hb : Below W.heap.size W w1) => (hb.block (w.heap.size + 1) (by omega)).trans q1 : ∀ w1, Below W.heap.size W w1 → w1.heap[w.heap.size + 1]? = _)
  have HI2 := hid (hp2.below (hWb.mono hn))
  have HI3 := hid (hp3.below (hWb.mono hn))
  have HI4 := hid (hp4.below (hWb.mono hn))
  have HO1 := hid ho1
  have HO5 := hid ho5
  clear hp1 hp2 hp3 hp4 hp5 h ho1 ho5 q0 q1 hWs
  go_enter Try.func53, Try.ntmps53
  go_wp2
  rw [← hW]
  clear hW
  apply wp_via3 (fun X k4 k7 k10 a4 a7 a10 w' => FinF W X f (.slice a4 f.wet.length k4) (.slice a7 f.base.length k7) (.slice a10 f.crops.length k10) w')
  refine wp_region_grow (by kernel_rfl) 19 (fun w' => Below W.heap.size W w') ?_ ?_
  · exact (Below.refl _ _).drew
  have HG := fun (a b : World) (h : Below W.heap.size W a) (k : Below a.heap.size a b) => (h.trans (k.mono h.size) : Below W.heap.size W b)
  refine wpG_take (i := 0) (v := .pointer (some ⟨w.heap.size, 0, none⟩)) rfl rfl (by kernel_rfl) (by kernel_rfl) (by kernel_rfl) (by kernel_rfl) (fun _ _ _ h => h) (by rfl) (fun w' hS' => grow_value ?_ hS') ?_
  · go_simp
  try simp only [List.setIfInBounds_toArray, List.set_cons_zero, List.set_cons_succ]
  refine wpG_take (i := 1) (v := .int .i64 f.last) rfl rfl (by kernel_rfl) (by kernel_rfl) (by kernel_rfl) (by kernel_rfl) (fun _ _ _ h => h) (by rfl) (fun w' hS' => grow_value ?_ hS') ?_
  · have hrow := HBOX.out _ hS'; have j0 := cell_of_row hrow 0; have j2 := cell_of_row hrow 2; have j3 := cell_of_row hrow 3; have j4 := cell_of_row hrow 4; have j5 := cell_of_row hrow 5; have j6 := cell_of_row hrow 6; have j7 := cell_of_row hrow 7; simp only [List.getElem?_toArray, List.getElem?_cons_zero, List.getElem?_cons_succ] at j0 j2 j3 j4 j5 j6 j7; go_simp
  try simp only [List.setIfInBounds_toArray, List.set_cons_zero, List.set_cons_succ]
  refine wpG_take (i := 2) (v := .pointer (some ⟨w.heap.size, 2, none⟩)) rfl rfl (by kernel_rfl) (by kernel_rfl) (by kernel_rfl) (by kernel_rfl) (fun _ _ _ h => h) (by rfl) (fun w' hS' => grow_value ?_ hS') ?_
  · go_simp
  try simp only [List.setIfInBounds_toArray, List.set_cons_zero, List.set_cons_succ]
  refine wpG_take (i := 3) (v := .slice wa f.wet.length wc) rfl rfl (by kernel_rfl) (by kernel_rfl) (by kernel_rfl) (by kernel_rfl) (fun _ _ _ h => h) (by rfl) (fun w' hS' => grow_value ?_ hS') ?_
  · have hrow := HBOX.out _ hS'; have j0 := cell_of_row hrow 0; have j2 := cell_of_row hrow 2; have j3 := cell_of_row hrow 3; have j4 := cell_of_row hrow 4; have j5 := cell_of_row hrow 5; have j6 := cell_of_row hrow 6; have j7 := cell_of_row hrow 7; simp only [List.getElem?_toArray, List.getElem?_cons_zero, List.getElem?_cons_succ] at j0 j2 j3 j4 j5 j6 j7; go_simp
  try simp only [List.setIfInBounds_toArray, List.set_cons_zero, List.set_cons_succ]
  refine wpG_take (i := 5) (v := .pointer (some ⟨w.heap.size, 3, none⟩)) rfl rfl (by kernel_rfl) (by kernel_rfl) (by kernel_rfl) (by kernel_rfl) (fun _ _ _ h => h) (by rfl) (fun w' hS' => grow_value ?_ hS') ?_
  · go_simp
  try simp only [List.setIfInBounds_toArray, List.set_cons_zero, List.set_cons_succ]
  refine wpG_take (i := 6) (v := .slice ba f.base.length bc) rfl rfl (by kernel_rfl) (by kernel_rfl) (by kernel_rfl) (by kernel_rfl) (fun _ _ _ h => h) (by rfl) (fun w' hS' => grow_value ?_ hS') ?_
  · have hrow := HBOX.out _ hS'; have j0 := cell_of_row hrow 0; have j2 := cell_of_row hrow 2; have j3 := cell_of_row hrow 3; have j4 := cell_of_row hrow 4; have j5 := cell_of_row hrow 5; have j6 := cell_of_row hrow 6; have j7 := cell_of_row hrow 7; simp only [List.getElem?_toArray, List.getElem?_cons_zero, List.getElem?_cons_succ] at j0 j2 j3 j4 j5 j6 j7; go_simp
  try simp only [List.setIfInBounds_toArray, List.set_cons_zero, List.set_cons_succ]
  refine wpG_take (i := 8) (v := .pointer (some ⟨w.heap.size, 4, none⟩)) rfl rfl (by kernel_rfl) (by kernel_rfl) (by kernel_rfl) (by kernel_rfl) (fun _ _ _ h => h) (by rfl) (fun w' hS' => grow_value ?_ hS') ?_
  · go_simp
  try simp only [List.setIfInBounds_toArray, List.set_cons_zero, List.set_cons_succ]
  refine wpG_take (i := 9) (v := .slice ca f.crops.length cc) rfl rfl (by kernel_rfl) (by kernel_rfl) (by kernel_rfl) (by kernel_rfl) (fun _ _ _ h => h) (by rfl) (fun w' hS' => grow_value ?_ hS') ?_
  · have hrow := HBOX.out _ hS'; have j0 := cell_of_row hrow 0; have j2 := cell_of_row hrow 2; have j3 := cell_of_row hrow 3; have j4 := cell_of_row hrow 4; have j5 := cell_of_row hrow 5; have j6 := cell_of_row hrow 6; have j7 := cell_of_row hrow 7; simp only [List.getElem?_toArray, List.getElem?_cons_zero, List.getElem?_cons_succ] at j0 j2 j3 j4 j5 j6 j7; go_simp
  try simp only [List.setIfInBounds_toArray, List.set_cons_zero, List.set_cons_succ]
  refine wpG_take (i := 11) (v := .pointer (some ⟨w.heap.size, 5, none⟩)) rfl rfl (by kernel_rfl) (by kernel_rfl) (by kernel_rfl) (by kernel_rfl) (fun _ _ _ h => h) (by rfl) (fun w' hS' => grow_value ?_ hS') ?_
  · go_simp
  try simp only [List.setIfInBounds_toArray, List.set_cons_zero, List.set_cons_succ]
  refine wpG_take (i := 12) (v := .int .i64 f.ripe) rfl rfl (by kernel_rfl) (by kernel_rfl) (by kernel_rfl) (by kernel_rfl) (fun _ _ _ h => h) (by rfl) (fun w' hS' => grow_value ?_ hS') ?_
  · have hrow := HBOX.out _ hS'; have j0 := cell_of_row hrow 0; have j2 := cell_of_row hrow 2; have j3 := cell_of_row hrow 3; have j4 := cell_of_row hrow 4; have j5 := cell_of_row hrow 5; have j6 := cell_of_row hrow 6; have j7 := cell_of_row hrow 7; simp only [List.getElem?_toArray, List.getElem?_cons_zero, List.getElem?_cons_succ] at j0 j2 j3 j4 j5 j6 j7; go_simp
  try simp only [List.setIfInBounds_toArray, List.set_cons_zero, List.set_cons_succ]
  refine wpG_take (i := 13) (v := .pointer (some ⟨w.heap.size, 6, none⟩)) rfl rfl (by kernel_rfl) (by kernel_rfl) (by kernel_rfl) (by kernel_rfl) (fun _ _ _ h => h) (by rfl) (fun w' hS' => grow_value ?_ hS') ?_
  · go_simp
  try simp only [List.setIfInBounds_toArray, List.set_cons_zero, List.set_cons_succ]
  refine wpG_take (i := 14) (v := .int .i64 f.late) rfl rfl (by kernel_rfl) (by kernel_rfl) (by kernel_rfl) (by kernel_rfl) (fun _ _ _ h => h) (by rfl) (fun w' hS' => grow_value ?_ hS') ?_
  · have hrow := HBOX.out _ hS'; have j0 := cell_of_row hrow 0; have j2 := cell_of_row hrow 2; have j3 := cell_of_row hrow 3; have j4 := cell_of_row hrow 4; have j5 := cell_of_row hrow 5; have j6 := cell_of_row hrow 6; have j7 := cell_of_row hrow 7; simp only [List.getElem?_toArray, List.getElem?_cons_zero, List.getElem?_cons_succ] at j0 j2 j3 j4 j5 j6 j7; go_simp
  try simp only [List.setIfInBounds_toArray, List.set_cons_zero, List.set_cons_succ]
  refine wpG_take (i := 15) (v := .pointer (some ⟨w.heap.size, 7, none⟩)) rfl rfl (by kernel_rfl) (by kernel_rfl) (by kernel_rfl) (by kernel_rfl) (fun _ _ _ h => h) (by rfl) (fun w' hS' => grow_value ?_ hS') ?_
  · go_simp
  try simp only [List.setIfInBounds_toArray, List.set_cons_zero, List.set_cons_succ]
  refine wpG_take (i := 16) (v := .int .i64 f.trod) rfl rfl (by kernel_rfl) (by kernel_rfl) (by kernel_rfl) (by kernel_rfl) (fun _ _ _ h => h) (by rfl) (fun w' hS' => grow_value ?_ hS') ?_
  · have hrow := HBOX.out _ hS'; have j0 := cell_of_row hrow 0; have j2 := cell_of_row hrow 2; have j3 := cell_of_row hrow 3; have j4 := cell_of_row hrow 4; have j5 := cell_of_row hrow 5; have j6 := cell_of_row hrow 6; have j7 := cell_of_row hrow 7; simp only [List.getElem?_toArray, List.getElem?_cons_zero, List.getElem?_cons_succ] at j0 j2 j3 j4 j5 j6 j7; go_simp
  try simp only [List.setIfInBounds_toArray, List.set_cons_zero, List.set_cons_succ]
  refine wpG_fork (i := 4) (j := 18) rfl rfl rfl rfl (by kernel_rfl) (by rfl) (by rfl) (fun wI hbI hSI => ?_) (fun wI hbI hSI => ?_)
  · skip
    try replace H4 := hid (H4.out.below hbI)
    try replace H7 := hid (H7.out.below hbI)
    try replace H10 := hid (H10.out.below hbI)
    try replace HX := hid (row_grow HX.out hbI)
    go_simp
    refine (listM_any f.wet _ n wI (by have := hSI.size; omega) (HI2.out.below (hSI.mono (by omega))) m2).mono ?_
    rintro e wJ ⟨vJ, rfl, hown, hbJ⟩
    try replace H4 := hid (H4.out.below hbJ)
    try replace H7 := hid (H7.out.below hbJ)
    try replace H10 := hid (H10.out.below hbJ)
    try replace HX := hid (row_grow HX.out hbJ)
    obtain ⟨a4, k4, hvJ, -, -⟩ := hown.slLt encI_length
    subst hvJ
    have H4 := hid (hown.lower hSI.size)
    refine ⟨HG _ _ hSI hbJ, ?_⟩
    clear hown hbI hSI hbJ
    try simp only [List.setIfInBounds_toArray, List.set_cons_zero, List.set_cons_succ]
    refine wpG_fork (i := 7) (j := 18) rfl rfl rfl rfl (by kernel_rfl) (by rfl) (by rfl) (fun wI hbI hSI => ?_) (fun wI hbI hSI => ?_)
    · skip
      try replace H4 := hid (H4.out.below hbI)
      try replace H7 := hid (H7.out.below hbI)
      try replace H10 := hid (H10.out.below hbI)
      try replace HX := hid (row_grow HX.out hbI)
      go_simp
      refine (listM_any f.base _ n wI (by have := hSI.size; omega) (HI3.out.below (hSI.mono (by omega))) m3).mono ?_
      rintro e wJ ⟨vJ, rfl, hown, hbJ⟩
      try replace H4 := hid (H4.out.below hbJ)
      try replace H7 := hid (H7.out.below hbJ)
      try replace H10 := hid (H10.out.below hbJ)
      try replace HX := hid (row_grow HX.out hbJ)
      obtain ⟨a7, k7, hvJ, -, -⟩ := hown.slLt encI_length
      subst hvJ
      have H7 := hid (hown.lower hSI.size)
      refine ⟨HG _ _ hSI hbJ, ?_⟩
      clear hown hbI hSI hbJ
      try simp only [List.setIfInBounds_toArray, List.set_cons_zero, List.set_cons_succ]
      refine wpG_fork (i := 10) (j := 18) rfl rfl rfl rfl (by kernel_rfl) (by rfl) (by rfl) (fun wI hbI hSI => ?_) (fun wI hbI hSI => ?_)
      · skip
        try replace H4 := hid (H4.out.below hbI)
        try replace H7 := hid (H7.out.below hbI)
        try replace H10 := hid (H10.out.below hbI)
        try replace HX := hid (row_grow HX.out hbI)
        go_simp
        refine (listM_any f.crops _ n wI (by have := hSI.size; omega) (HI4.out.below (hSI.mono (by omega))) m4).mono ?_
        rintro e wJ ⟨vJ, rfl, hown, hbJ⟩
        try replace H4 := hid (H4.out.below hbJ)
        try replace H7 := hid (H7.out.below hbJ)
        try replace H10 := hid (H10.out.below hbJ)
        try replace HX := hid (row_grow HX.out hbJ)
        obtain ⟨a10, k10, hvJ, -, -⟩ := hown.slLt encI_length
        subst hvJ
        have H10 := hid (hown.lower hSI.size)
        refine ⟨HG _ _ hSI hbJ, ?_⟩
        clear hown hbI hSI hbJ
        try simp only [List.setIfInBounds_toArray, List.set_cons_zero, List.set_cons_succ]
        refine wpG_take (i := 17) (v := .agg #[.int .i64 f.last, .slice none 0 0, .slice a4 f.wet.length k4, .slice a7 f.base.length k7, .slice a10 f.crops.length k10, .int .i64 f.ripe, .int .i64 f.late, .int .i64 f.trod, .slice none 0 0]) rfl rfl (by kernel_rfl) (by kernel_rfl) (by kernel_rfl) (by kernel_rfl) (fun _ _ _ h => h) (by rfl) (fun w' hS' => grow_value ?_ hS') ?_
        · go_simp
        try simp only [List.setIfInBounds_toArray, List.set_cons_zero, List.set_cons_succ]
        refine wpG_only (i := 18) rfl (by rfl) (by kernel_rfl) (by rfl) (fun wI hbI hSI => ?_)
        try replace H4 := hid (H4.out.below hbI)
        try replace H7 := hid (H7.out.below hbI)
        try replace H10 := hid (H10.out.below hbI)
        try replace HX := hid (row_grow HX.out hbI)
        go_simp
        have hbJ := below_alloc1 (Nat.le_refl wI.heap.size) (Obj.cells #[.int .i64 0, .slice none 0 0, .slice none 0 0, .slice none 0 0, .slice none 0 0, .int .i64 0, .int .i64 0, .int .i64 0, .slice none 0 0] 87)
        obtain ⟨wJ, hwJ⟩ : ∃ wJ, wJ = wI.alloc (Obj.cells #[.int .i64 0, .slice none 0 0, .slice none 0 0, .slice none 0 0, .slice none 0 0, .int .i64 0, .int .i64 0, .int .i64 0, .slice none 0 0] 87) := ⟨_, rfl⟩
        rw [← hwJ] at hbJ
        obtain ⟨X, hXe⟩ : ∃ X, X = wI.heap.size := ⟨_, rfl⟩
        have HX0 := hid (show W.heap.size ≤ X by rw [hXe]; exact hSI.size)
        have HX := hid (show wJ.heap[X]? = some (.cells #[.int .i64 0, .slice none 0 0, .slice none 0 0, .slice none 0 0, .slice none 0 0, .int .i64 0, .int .i64 0, .int .i64 0, .slice none 0 0] 87 (0, 0)) by rw [hwJ, hXe]; exact heap_new _ _)
        try replace H4 := hid (H4.out.below hbJ)
        try replace H7 := hid (H7.out.below hbJ)
        try replace H10 := hid (H10.out.below hbJ)
        try replace HX := hid (row_grow HX.out hbJ)
        refine ⟨by rw [← hwJ]; exact HG _ _ hSI hbJ, ?_⟩
        rw [← hwJ, ← hXe]
        clear hbI hSI hbJ hwJ hXe
        try simp only [List.setIfInBounds_toArray, List.set_cons_zero, List.set_cons_succ]
        refine wpG_last rfl (by kernel_rfl) (by kernel_rfl) (by rfl) (fun wI hbI hSI => ?_)
        try replace H4 := hid (H4.out.below hbI)
        try replace H7 := hid (H7.out.below hbI)
        try replace H10 := hid (H10.out.below hbI)
        try replace HX := hid (row_grow HX.out hbI)
        have hr9 := HX.out
        have x0 := cell_of_row hr9 0
        have x1 := cell_of_row hr9 1
        have x2 := cell_of_row hr9 2
        have x3 := cell_of_row hr9 3
        have x4 := cell_of_row hr9 4
        have x5 := cell_of_row hr9 5
        have x6 := cell_of_row hr9 6
        have x7 := cell_of_row hr9 7
        have x8 := cell_of_row hr9 8
        have f0 := frozen_of_row hr9 0
        have f1 := frozen_of_row hr9 1
        have f2 := frozen_of_row hr9 2
        have f3 := frozen_of_row hr9 3
        have f4 := frozen_of_row hr9 4
        have f5 := frozen_of_row hr9 5
        have f6 := frozen_of_row hr9 6
        have f7 := frozen_of_row hr9 7
        have f8 := frozen_of_row hr9 8
        simp only [List.getElem?_toArray, List.getElem?_cons_zero, List.getElem?_cons_succ] at x0 x1 x2 x3 x4 x5 x6 x7 x8
        have hF := FinF.of HX0.out hSI hr9 H4.out H7.out H10.out
        clear hr9
        go_simp
        exact ⟨X, k4, k7, k10, a4, a7, a10, rfl, hF⟩
      · skip
        try replace H4 := hid (H4.out.below hbI)
        try replace H7 := hid (H7.out.below hbI)
        try replace H10 := hid (H10.out.below hbI)
        try replace HX := hid (row_grow HX.out hbI)
        go_simp
        have hbJ := below_alloc1 (Nat.le_refl wI.heap.size) (Obj.cells #[.int .i64 0, .slice none 0 0, .slice none 0 0, .slice none 0 0, .slice none 0 0, .int .i64 0, .int .i64 0, .int .i64 0, .slice none 0 0] 87)
        obtain ⟨wJ, hwJ⟩ : ∃ wJ, wJ = wI.alloc (Obj.cells #[.int .i64 0, .slice none 0 0, .slice none 0 0, .slice none 0 0, .slice none 0 0, .int .i64 0, .int .i64 0, .int .i64 0, .slice none 0 0] 87) := ⟨_, rfl⟩
        rw [← hwJ] at hbJ
        obtain ⟨X, hXe⟩ : ∃ X, X = wI.heap.size := ⟨_, rfl⟩
        have HX0 := hid (show W.heap.size ≤ X by rw [hXe]; exact hSI.size)
        have HX := hid (show wJ.heap[X]? = some (.cells #[.int .i64 0, .slice none 0 0, .slice none 0 0, .slice none 0 0, .slice none 0 0, .int .i64 0, .int .i64 0, .int .i64 0, .slice none 0 0] 87 (0, 0)) by rw [hwJ, hXe]; exact heap_new _ _)
        try replace H4 := hid (H4.out.below hbJ)
        try replace H7 := hid (H7.out.below hbJ)
        try replace H10 := hid (H10.out.below hbJ)
        try replace HX := hid (row_grow HX.out hbJ)
        refine ⟨by rw [← hwJ]; exact HG _ _ hSI hbJ, ?_⟩
        rw [← hwJ, ← hXe]
        clear hbI hSI hbJ hwJ hXe
        try simp only [List.setIfInBounds_toArray, List.set_cons_zero, List.set_cons_succ]
        refine wpG_only (i := 10) rfl (by rfl) (by kernel_rfl) (by rfl) (fun wI hbI hSI => ?_)
        try replace H4 := hid (H4.out.below hbI)
        try replace H7 := hid (H7.out.below hbI)
        try replace H10 := hid (H10.out.below hbI)
        try replace HX := hid (row_grow HX.out hbI)
        go_simp
        refine (listM_any f.crops _ n wI (by have := hSI.size; omega) (HI4.out.below (hSI.mono (by omega))) m4).mono ?_
        rintro e wJ ⟨vJ, rfl, hown, hbJ⟩
        try replace H4 := hid (H4.out.below hbJ)
        try replace H7 := hid (H7.out.below hbJ)
        try replace H10 := hid (H10.out.below hbJ)
        try replace HX := hid (row_grow HX.out hbJ)
        obtain ⟨a10, k10, hvJ, -, -⟩ := hown.slLt encI_length
        subst hvJ
        have H10 := hid (hown.lower hSI.size)
        refine ⟨HG _ _ hSI hbJ, ?_⟩
        clear hown hbI hSI hbJ
        try simp only [List.setIfInBounds_toArray, List.set_cons_zero, List.set_cons_succ]
        refine wpG_take (i := 17) (v := .agg #[.int .i64 f.last, .slice none 0 0, .slice a4 f.wet.length k4, .slice a7 f.base.length k7, .slice a10 f.crops.length k10, .int .i64 f.ripe, .int .i64 f.late, .int .i64 f.trod, .slice none 0 0]) rfl rfl (by kernel_rfl) (by kernel_rfl) (by kernel_rfl) (by kernel_rfl) (fun _ _ _ h => h) (by rfl) (fun w' hS' => grow_value ?_ hS') ?_
        · go_simp
        try simp only [List.setIfInBounds_toArray, List.set_cons_zero, List.set_cons_succ]
        refine wpG_last rfl (by kernel_rfl) (by kernel_rfl) (by rfl) (fun wI hbI hSI => ?_)
        try replace H4 := hid (H4.out.below hbI)
        try replace H7 := hid (H7.out.below hbI)
        try replace H10 := hid (H10.out.below hbI)
        try replace HX := hid (row_grow HX.out hbI)
        have hr9 := HX.out
        have x0 := cell_of_row hr9 0
        have x1 := cell_of_row hr9 1
        have x2 := cell_of_row hr9 2
        have x3 := cell_of_row hr9 3
        have x4 := cell_of_row hr9 4
        have x5 := cell_of_row hr9 5
        have x6 := cell_of_row hr9 6
        have x7 := cell_of_row hr9 7
        have x8 := cell_of_row hr9 8
        have f0 := frozen_of_row hr9 0
        have f1 := frozen_of_row hr9 1
        have f2 := frozen_of_row hr9 2
        have f3 := frozen_of_row hr9 3
        have f4 := frozen_of_row hr9 4
        have f5 := frozen_of_row hr9 5
        have f6 := frozen_of_row hr9 6
        have f7 := frozen_of_row hr9 7
        have f8 := frozen_of_row hr9 8
        simp only [List.getElem?_toArray, List.getElem?_cons_zero, List.getElem?_cons_succ] at x0 x1 x2 x3 x4 x5 x6 x7 x8
        have hF := FinF.of HX0.out hSI hr9 H4.out H7.out H10.out
        clear hr9
        go_simp
        exact ⟨X, k4, k7, k10, a4, a7, a10, rfl, hF⟩
    · skip
      try replace H4 := hid (H4.out.below hbI)
      try replace H7 := hid (H7.out.below hbI)
      try replace H10 := hid (H10.out.below hbI)
      try replace HX := hid (row_grow HX.out hbI)
      go_simp
      have hbJ := below_alloc1 (Nat.le_refl wI.heap.size) (Obj.cells #[.int .i64 0, .slice none 0 0, .slice none 0 0, .slice none 0 0, .slice none 0 0, .int .i64 0, .int .i64 0, .int .i64 0, .slice none 0 0] 87)
      obtain ⟨wJ, hwJ⟩ : ∃ wJ, wJ = wI.alloc (Obj.cells #[.int .i64 0, .slice none 0 0, .slice none 0 0, .slice none 0 0, .slice none 0 0, .int .i64 0, .int .i64 0, .int .i64 0, .slice none 0 0] 87) := ⟨_, rfl⟩
      rw [← hwJ] at hbJ
      obtain ⟨X, hXe⟩ : ∃ X, X = wI.heap.size := ⟨_, rfl⟩
      have HX0 := hid (show W.heap.size ≤ X by rw [hXe]; exact hSI.size)
      have HX := hid (show wJ.heap[X]? = some (.cells #[.int .i64 0, .slice none 0 0, .slice none 0 0, .slice none 0 0, .slice none 0 0, .int .i64 0, .int .i64 0, .int .i64 0, .slice none 0 0] 87 (0, 0)) by rw [hwJ, hXe]; exact heap_new _ _)
      try replace H4 := hid (H4.out.below hbJ)
      try replace H7 := hid (H7.out.below hbJ)
      try replace H10 := hid (H10.out.below hbJ)
      try replace HX := hid (row_grow HX.out hbJ)
      refine ⟨by rw [← hwJ]; exact HG _ _ hSI hbJ, ?_⟩
      rw [← hwJ, ← hXe]
      clear hbI hSI hbJ hwJ hXe
      try simp only [List.setIfInBounds_toArray, List.set_cons_zero, List.set_cons_succ]
      refine wpG_only (i := 7) rfl (by rfl) (by kernel_rfl) (by rfl) (fun wI hbI hSI => ?_)
      try replace H4 := hid (H4.out.below hbI)
      try replace H7 := hid (H7.out.below hbI)
      try replace H10 := hid (H10.out.below hbI)
      try replace HX := hid (row_grow HX.out hbI)
      go_simp
      refine (listM_any f.base _ n wI (by have := hSI.size; omega) (HI3.out.below (hSI.mono (by omega))) m3).mono ?_
      rintro e wJ ⟨vJ, rfl, hown, hbJ⟩
      try replace H4 := hid (H4.out.below hbJ)
      try replace H7 := hid (H7.out.below hbJ)
      try replace H10 := hid (H10.out.below hbJ)
      try replace HX := hid (row_grow HX.out hbJ)
      obtain ⟨a7, k7, hvJ, -, -⟩ := hown.slLt encI_length
      subst hvJ
      have H7 := hid (hown.lower hSI.size)
      refine ⟨HG _ _ hSI hbJ, ?_⟩
      clear hown hbI hSI hbJ
      try simp only [List.setIfInBounds_toArray, List.set_cons_zero, List.set_cons_succ]
      refine wpG_only (i := 10) rfl (by rfl) (by kernel_rfl) (by rfl) (fun wI hbI hSI => ?_)
      try replace H4 := hid (H4.out.below hbI)
      try replace H7 := hid (H7.out.below hbI)
      try replace H10 := hid (H10.out.below hbI)
      try replace HX := hid (row_grow HX.out hbI)
      go_simp
      refine (listM_any f.crops _ n wI (by have := hSI.size; omega) (HI4.out.below (hSI.mono (by omega))) m4).mono ?_
      rintro e wJ ⟨vJ, rfl, hown, hbJ⟩
      try replace H4 := hid (H4.out.below hbJ)
      try replace H7 := hid (H7.out.below hbJ)
      try replace H10 := hid (H10.out.below hbJ)
      try replace HX := hid (row_grow HX.out hbJ)
      obtain ⟨a10, k10, hvJ, -, -⟩ := hown.slLt encI_length
      subst hvJ
      have H10 := hid (hown.lower hSI.size)
      refine ⟨HG _ _ hSI hbJ, ?_⟩
      clear hown hbI hSI hbJ
      try simp only [List.setIfInBounds_toArray, List.set_cons_zero, List.set_cons_succ]
      refine wpG_take (i := 17) (v := .agg #[.int .i64 f.last, .slice none 0 0, .slice a4 f.wet.length k4, .slice a7 f.base.length k7, .slice a10 f.crops.length k10, .int .i64 f.ripe, .int .i64 f.late, .int .i64 f.trod, .slice none 0 0]) rfl rfl (by kernel_rfl) (by kernel_rfl) (by kernel_rfl) (by kernel_rfl) (fun _ _ _ h => h) (by rfl) (fun w' hS' => grow_value ?_ hS') ?_
      · go_simp
      try simp only [List.setIfInBounds_toArray, List.set_cons_zero, List.set_cons_succ]
      refine wpG_last rfl (by kernel_rfl) (by kernel_rfl) (by rfl) (fun wI hbI hSI => ?_)
      try replace H4 := hid (H4.out.below hbI)
      try replace H7 := hid (H7.out.below hbI)
      try replace H10 := hid (H10.out.below hbI)
      try replace HX := hid (row_grow HX.out hbI)
      have hr9 := HX.out
      have x0 := cell_of_row hr9 0
      have x1 := cell_of_row hr9 1
      have x2 := cell_of_row hr9 2
      have x3 := cell_of_row hr9 3
      have x4 := cell_of_row hr9 4
      have x5 := cell_of_row hr9 5
      have x6 := cell_of_row hr9 6
      have x7 := cell_of_row hr9 7
      have x8 := cell_of_row hr9 8
      have f0 := frozen_of_row hr9 0
      have f1 := frozen_of_row hr9 1
      have f2 := frozen_of_row hr9 2
      have f3 := frozen_of_row hr9 3
      have f4 := frozen_of_row hr9 4
      have f5 := frozen_of_row hr9 5
      have f6 := frozen_of_row hr9 6
      have f7 := frozen_of_row hr9 7
      have f8 := frozen_of_row hr9 8
      simp only [List.getElem?_toArray, List.getElem?_cons_zero, List.getElem?_cons_succ] at x0 x1 x2 x3 x4 x5 x6 x7 x8
      have hF := FinF.of HX0.out hSI hr9 H4.out H7.out H10.out
      clear hr9
      go_simp
      exact ⟨X, k4, k7, k10, a4, a7, a10, rfl, hF⟩
  · skip
    try replace H4 := hid (H4.out.below hbI)
    try replace H7 := hid (H7.out.below hbI)
    try replace H10 := hid (H10.out.below hbI)
    try replace HX := hid (row_grow HX.out hbI)
    go_simp
    have hbJ := below_alloc1 (Nat.le_refl wI.heap.size) (Obj.cells #[.int .i64 0, .slice none 0 0, .slice none 0 0, .slice none 0 0, .slice none 0 0, .int .i64 0, .int .i64 0, .int .i64 0, .slice none 0 0] 87)
    obtain ⟨wJ, hwJ⟩ : ∃ wJ, wJ = wI.alloc (Obj.cells #[.int .i64 0, .slice none 0 0, .slice none 0 0, .slice none 0 0, .slice none 0 0, .int .i64 0, .int .i64 0, .int .i64 0, .slice none 0 0] 87) := ⟨_, rfl⟩
    rw [← hwJ] at hbJ
    obtain ⟨X, hXe⟩ : ∃ X, X = wI.heap.size := ⟨_, rfl⟩
    have HX0 := hid (show W.heap.size ≤ X by rw [hXe]; exact hSI.size)
    have HX := hid (show wJ.heap[X]? = some (.cells #[.int .i64 0, .slice none 0 0, .slice none 0 0, .slice none 0 0, .slice none 0 0, .int .i64 0, .int .i64 0, .int .i64 0, .slice none 0 0] 87 (0, 0)) by rw [hwJ, hXe]; exact heap_new _ _)
    try replace H4 := hid (H4.out.below hbJ)
    try replace H7 := hid (H7.out.below hbJ)
    try replace H10 := hid (H10.out.below hbJ)
    try replace HX := hid (row_grow HX.out hbJ)
    refine ⟨by rw [← hwJ]; exact HG _ _ hSI hbJ, ?_⟩
    rw [← hwJ, ← hXe]
    clear hbI hSI hbJ hwJ hXe
    try simp only [List.setIfInBounds_toArray, List.set_cons_zero, List.set_cons_succ]
    refine wpG_only (i := 4) rfl (by rfl) (by kernel_rfl) (by rfl) (fun wI hbI hSI => ?_)
    try replace H4 := hid (H4.out.below hbI)
    try replace H7 := hid (H7.out.below hbI)
    try replace H10 := hid (H10.out.below hbI)
    try replace HX := hid (row_grow HX.out hbI)
    go_simp
    refine (listM_any f.wet _ n wI (by have := hSI.size; omega) (HI2.out.below (hSI.mono (by omega))) m2).mono ?_
    rintro e wJ ⟨vJ, rfl, hown, hbJ⟩
    try replace H4 := hid (H4.out.below hbJ)
    try replace H7 := hid (H7.out.below hbJ)
    try replace H10 := hid (H10.out.below hbJ)
    try replace HX := hid (row_grow HX.out hbJ)
    obtain ⟨a4, k4, hvJ, -, -⟩ := hown.slLt encI_length
    subst hvJ
    have H4 := hid (hown.lower hSI.size)
    refine ⟨HG _ _ hSI hbJ, ?_⟩
    clear hown hbI hSI hbJ
    try simp only [List.setIfInBounds_toArray, List.set_cons_zero, List.set_cons_succ]
    refine wpG_only (i := 7) rfl (by rfl) (by kernel_rfl) (by rfl) (fun wI hbI hSI => ?_)
    try replace H4 := hid (H4.out.below hbI)
    try replace H7 := hid (H7.out.below hbI)
    try replace H10 := hid (H10.out.below hbI)
    try replace HX := hid (row_grow HX.out hbI)
    go_simp
    refine (listM_any f.base _ n wI (by have := hSI.size; omega) (HI3.out.below (hSI.mono (by omega))) m3).mono ?_
    rintro e wJ ⟨vJ, rfl, hown, hbJ⟩
    try replace H4 := hid (H4.out.below hbJ)
    try replace H7 := hid (H7.out.below hbJ)
    try replace H10 := hid (H10.out.below hbJ)
    try replace HX := hid (row_grow HX.out hbJ)
    obtain ⟨a7, k7, hvJ, -, -⟩ := hown.slLt encI_length
    subst hvJ
    have H7 := hid (hown.lower hSI.size)
    refine ⟨HG _ _ hSI hbJ, ?_⟩
    clear hown hbI hSI hbJ
    try simp only [List.setIfInBounds_toArray, List.set_cons_zero, List.set_cons_succ]
    refine wpG_only (i := 10) rfl (by rfl) (by kernel_rfl) (by rfl) (fun wI hbI hSI => ?_)
    try replace H4 := hid (H4.out.below hbI)
    try replace H7 := hid (H7.out.below hbI)
    try replace H10 := hid (H10.out.below hbI)
    try replace HX := hid (row_grow HX.out hbI)
    go_simp
    refine (listM_any f.crops _ n wI (by have := hSI.size; omega) (HI4.out.below (hSI.mono (by omega))) m4).mono ?_
    rintro e wJ ⟨vJ, rfl, hown, hbJ⟩
    try replace H4 := hid (H4.out.below hbJ)
    try replace H7 := hid (H7.out.below hbJ)
    try replace H10 := hid (H10.out.below hbJ)
    try replace HX := hid (row_grow HX.out hbJ)
    obtain ⟨a10, k10, hvJ, -, -⟩ := hown.slLt encI_length
    subst hvJ
    have H10 := hid (hown.lower hSI.size)
    refine ⟨HG _ _ hSI hbJ, ?_⟩
    clear hown hbI hSI hbJ
    try simp only [List.setIfInBounds_toArray, List.set_cons_zero, List.set_cons_succ]
    refine wpG_take (i := 17) (v := .agg #[.int .i64 f.last, .slice none 0 0, .slice a4 f.wet.length k4, .slice a7 f.base.length k7, .slice a10 f.crops.length k10, .int .i64 f.ripe, .int .i64 f.late, .int .i64 f.trod, .slice none 0 0]) rfl rfl (by kernel_rfl) (by kernel_rfl) (by kernel_rfl) (by kernel_rfl) (fun _ _ _ h => h) (by rfl) (fun w' hS' => grow_value ?_ hS') ?_
    · go_simp
    try simp only [List.setIfInBounds_toArray, List.set_cons_zero, List.set_cons_succ]
    refine wpG_last rfl (by kernel_rfl) (by kernel_rfl) (by rfl) (fun wI hbI hSI => ?_)
    try replace H4 := hid (H4.out.below hbI)
    try replace H7 := hid (H7.out.below hbI)
    try replace H10 := hid (H10.out.below hbI)
    try replace HX := hid (row_grow HX.out hbI)
    have hr9 := HX.out
    have x0 := cell_of_row hr9 0
    have x1 := cell_of_row hr9 1
    have x2 := cell_of_row hr9 2
    have x3 := cell_of_row hr9 3
    have x4 := cell_of_row hr9 4
    have x5 := cell_of_row hr9 5
    have x6 := cell_of_row hr9 6
    have x7 := cell_of_row hr9 7
    have x8 := cell_of_row hr9 8
    have f0 := frozen_of_row hr9 0
    have f1 := frozen_of_row hr9 1
    have f2 := frozen_of_row hr9 2
    have f3 := frozen_of_row hr9 3
    have f4 := frozen_of_row hr9 4
    have f5 := frozen_of_row hr9 5
    have f6 := frozen_of_row hr9 6
    have f7 := frozen_of_row hr9 7
    have f8 := frozen_of_row hr9 8
    simp only [List.getElem?_toArray, List.getElem?_cons_zero, List.getElem?_cons_succ] at x0 x1 x2 x3 x4 x5 x6 x7 x8
    have hF := FinF.of HX0.out hSI hr9 H4.out H7.out H10.out
    clear hr9
    go_simp
    exact ⟨X, k4, k7, k10, a4, a7, a10, rfl, hF⟩
  rintro X k4 k7 k10 a4 a7 a10 V hF
  obtain ⟨hXV, hX0, HW9, ROWV, HV2, HV3, HV4⟩ := hF.hids
  have hVl := HW9.out.size
  clear hF HI2 HI3 HI4
  go_wp2_with fail
  go_loopw [4] (fun i wr => ∃ (k : Nat) (hv : Value), k ≤ f.growth.length ∧ i = .int .i64 k ∧ Chg (fun b => b = X) V wr ∧ wr.heap[X]? = some (.cells #[.int .i64 f.last, hv, .slice a4 f.wet.length k4, .slice a7 f.base.length k7, .slice a10 f.crops.length k10, .int .i64 f.ripe, .int .i64 f.late, .int .i64 f.trod, .slice none 0 0] 87 (0, 0)) ∧
      Own V.heap.size 149 2 encR wr hv (f.growth.take k)) (fun i _ => f.growth.length - (intOf i).toNat)
  case atStart => exact ⟨0, .slice none 0 0, by omega, rfl, Chg.refl _ _, ROWV.out, Own.nil⟩
  case round =>
    obtain ⟨k, hv, hk, rfl, hch, hrow, hown⟩ := hrel
    have hsz := hch.size
    have HKW := hid (HW9.out.trans (hch.below (by omega) fun b hb e => by omega))
    have hgl : w.heap.size < wr.heap.size := by omega
    have hXl : X < wr.heap.size := by omega
    have hrow := HBOX.out wr HKW.out
    have j0 := cell_of_row hrow 0
    have j1 := cell_of_row hrow 1
    have j2 := cell_of_row hrow 2
    have j3 := cell_of_row hrow 3
    have j4 := cell_of_row hrow 4
    have j5 := cell_of_row hrow 5
    have j6 := cell_of_row hrow 6
    have j7 := cell_of_row hrow 7
    have j8 := cell_of_row hrow 8
    simp only [List.getElem?_toArray, List.getElem?_cons_zero, List.getElem?_cons_succ] at j0 j1 j2 j3 j4 j5 j6 j7 j8
    clear hrow
    clear j0 j2 j3 j4 j5 j6 j7 j8
    by_cases hlt : k < f.growth.length
    · rcases HO1.out with hnil | ⟨b, off, rfl, hbn, hcc⟩
      · rw [hnil] at hlt; simp at hlt
      have hbl : b < n := hbn
      have hbw : b < wr.heap.size := by omega
      have HAL := hid (hWb.trans (HKW.out.mono (by omega)))
      have z0 := (HAL.out.cell (p := ⟨b, off + k * 2, none⟩) (by show b < _; omega)).trans (hcc k hlt).1
      have z1 := (HAL.out.cell (p := ⟨b, off + k * 2 + 1, none⟩) (by show b < _; omega)).trans (hcc k hlt).2
      have HT := hid (show f.growth.take (k + 1) = f.growth.take k ++ [f.growth[k]] from List.take_succ_eq_append_getElem hlt)
      clear hcc
      generalize f.growth[k] = r at *
      obtain ⟨lo, hi⟩ := r
      simp only at z0 z1
      obtain ⟨pa, pc, hv0, -, -⟩ := hown.slLt encR_length
      obtain ⟨pm, hpm⟩ : ∃ pm, pm = (f.growth.take k).length := ⟨_, rfl⟩
      rw [← hpm] at hv0
      clear hpm
      subst hv0
      have HOWN := hid hown
      have HCH := hid hch
      have HROW := hid hrow
      have HOB := hid hown.block
      have o1 := cell_of_row hrow 1
      simp only [List.getElem?_toArray, List.getElem?_cons_zero, List.getElem?_cons_succ] at o1
      clear hown hch hrow
      go_wp2
      obtain ⟨D, hD⟩ : ∃ D, D = wr.drew := ⟨_, rfl⟩
      have hBD : Below wr.heap.size wr D := by rw [hD]; exact (Below.refl _ _).drew
      have hsD : D.heap.size ≤ wr.heap.size ∧ wr.heap.size ≤ D.heap.size := by rw [hD]; simp
      obtain ⟨T, hT⟩ : ∃ T : Nat → Prop, T = fun b => (Value.slice pa pm pc).ownBlock = some b := ⟨_, rfl⟩
      have HTT := hid (fun b h => HOB.out b (by rw [hT] at h; exact h) : ∀ b, T b → V.heap.size ≤ b ∧ b < wr.heap.size)
      have hnX : ¬ T X := fun h => by have := HTT.out _ h; omega
      have hns : ¬ T w.heap.size := fun h => by have := HTT.out _ h; omega
      have hnb : ¬ T b := fun h => by have := HTT.out _ h; omega
      have HL := hid (fun w' h => ⟨(h.cell (by omega) hnX).trans ((hBD.cell (p := ⟨X, 1, none⟩) hXl).trans o1), (h.cell (by omega) hns).trans ((hBD.cell (p := ⟨w.heap.size, 1, none⟩) hgl).trans j1), (h.cell (by omega) hnb).trans ((hBD.cell (p := ⟨b, off + k * 2, none⟩) hbw).trans z0), (h.cell (by omega) hnb).trans ((hBD.cell (p := ⟨b, off + k * 2 + 1, none⟩) hbw).trans z1)⟩ :
        ∀ w', Chg T D w' → w'.cell? ⟨X, 1, none⟩ = some (.slice pa pm pc) ∧ w'.cell? ⟨w.heap.size, 1, none⟩ = some (.slice (some ⟨b, off, none⟩) f.growth.length gc) ∧ w'.cell? ⟨b, off + k * 2, none⟩ = some (.int .i64 lo) ∧ w'.cell? ⟨b, off + k * 2 + 1, none⟩ = some (.int .i64 hi))
      refine wp_region_grow (by kernel_rfl) 11 (Chg T D) ?_ ?_
      · rw [← hD]; exact Chg.refl _ _
      rw [← hD]
      have HTE := hid hT
      have HG := chg_grow (T := T) D
      have HROWD := hid ((hBD.block _ hXl).trans HROW.out)
      clear hD hT z0 z1 j1 o1
      refine wpG_take (i := 0) (v := .pointer (some ⟨X, 1, none⟩)) rfl rfl (by kernel_rfl) (by kernel_rfl) (by kernel_rfl) (by kernel_rfl) (fun _ _ _ h => h) (by rfl) (fun w' hS' => grow_value ?_ hS') ?_
      · go_simp
      try simp only [List.setIfInBounds_toArray, List.set_cons_zero, List.set_cons_succ]
      refine wpG_take (i := 1) (v := .slice pa pm pc) rfl rfl (by kernel_rfl) (by kernel_rfl) (by kernel_rfl) (by kernel_rfl) (fun _ _ _ h => h) (by rfl) (fun w' hS' => grow_value ?_ hS') ?_
      · have ⟨s0, s1, s2, s3⟩ := HL.out _ hS'; go_simp
      try simp only [List.setIfInBounds_toArray, List.set_cons_zero, List.set_cons_succ]
      refine wpG_take (i := 2) (v := .pointer (some ⟨w.heap.size, 1, none⟩)) rfl rfl (by kernel_rfl) (by kernel_rfl) (by kernel_rfl) (by kernel_rfl) (fun _ _ _ h => h) (by rfl) (fun w' hS' => grow_value ?_ hS') ?_
      · go_simp
      try simp only [List.setIfInBounds_toArray, List.set_cons_zero, List.set_cons_succ]
      refine wpG_take (i := 3) (v := .slice (some ⟨b, off, none⟩) f.growth.length gc) rfl rfl (by kernel_rfl) (by kernel_rfl) (by kernel_rfl) (by kernel_rfl) (fun _ _ _ h => h) (by rfl) (fun w' hS' => grow_value ?_ hS') ?_
      · have ⟨s0, s1, s2, s3⟩ := HL.out _ hS'; go_simp
      try simp only [List.setIfInBounds_toArray, List.set_cons_zero, List.set_cons_succ]
      refine wpG_take (i := 4) (v := .int .i64 k) rfl rfl (by kernel_rfl) (by kernel_rfl) (by kernel_rfl) (by kernel_rfl) (fun _ _ _ h => h) (by rfl) (fun w' hS' => grow_value ?_ hS') ?_
      · go_simp
      try simp only [List.setIfInBounds_toArray, List.set_cons_zero, List.set_cons_succ]
      refine wpG_take (i := 5) (v := .pointer (some ⟨b, off + k * 2, none⟩)) rfl rfl (by kernel_rfl) (by kernel_rfl) (by kernel_rfl) (by kernel_rfl) (fun _ _ _ h => h) (by rfl) (fun w' hS' => grow_value ?_ hS') ?_
      · go_simp
      try simp only [List.setIfInBounds_toArray, List.set_cons_zero, List.set_cons_succ]
      refine wpG_take (i := 6) (v := .agg #[.int .i64 lo, .int .i64 hi]) rfl rfl (by kernel_rfl) (by kernel_rfl) (by kernel_rfl) (by kernel_rfl) (fun _ _ _ h => h) (by rfl) (fun w' hS' => grow_value ?_ hS') ?_
      · have ⟨s0, s1, s2, s3⟩ := HL.out _ hS'; go_simp
      try simp only [List.setIfInBounds_toArray, List.set_cons_zero, List.set_cons_succ]
      refine wpG_take (i := 7) (v := .agg #[.int .i64 lo, .int .i64 hi]) rfl rfl (by kernel_rfl) (by kernel_rfl) (by kernel_rfl) (by kernel_rfl) (fun _ _ _ h => h) (by rfl) (fun w' hS' => grow_make (f := 104) (args := #[.agg #[.int .i64 lo, .int .i64 hi]]) ?_ hS' HG ?_) ?_
      · have ⟨s0, s1, s2, s3⟩ := HL.out _ hS'; go_simp
      · have ⟨s0, s1, s2, s3⟩ := HL.out _ hS'; exact toM_any lo hi _
      try simp only [List.setIfInBounds_toArray, List.set_cons_zero, List.set_cons_succ]
      refine wpG_only (i := 8) rfl (by rfl) (by kernel_rfl) (by rfl) (fun w1 hb1 hS1 => ?_)
      go_simp
      refine ⟨hS1.trans (chg_alloc _ _), ?_⟩
      have hown1 := (HOWN.out.below (hBD.trans (hb1.mono (by omega)))).below (below_alloc1 (Nat.le_refl _) (Obj.cells #[.int .i64 lo, .int .i64 hi] 149))
      have hnew := cells_new w1 [.int .i64 lo, .int .i64 hi] 149
      have hS2 : Chg T D (w1.alloc (Obj.cells #[.int .i64 lo, .int .i64 hi] 149)) := hS1.trans (chg_alloc _ _)
      have hsA : w1.heap.size < (w1.alloc (Obj.cells #[.int .i64 lo, .int .i64 hi] 149)).heap.size := by simp
      generalize w1.alloc (Obj.cells #[.int .i64 lo, .int .i64 hi] 149) = w2 at *
      try simp only [List.setIfInBounds_toArray, List.set_cons_zero, List.set_cons_succ]
      refine wpG_only (i := 9) rfl (by rfl) (by kernel_rfl) (by rfl) (fun w3 hb3 hS3 => ?_)
      refine wp_append1 encR _ _ _ rfl V.heap.size 149 _ 2 16 kranges_under infoKRange rfl (by omega) encR_length encR_one (.slice pa pm pc) (f.growth.take k) (by rfl) (hown1.below hb3) w1.heap.size 1 ⟨lo, hi⟩ (by rfl) (fun i u hu => (hb3.cell (p := ⟨w1.heap.size, i, none⟩) hsA).trans (hnew i u hu)) (by simp; omega) (by omega) (by have := hb3.size; have := hS2.size; omega) ?_
      intro v4 w4 hown4 hgr4
      have hS4 : Chg T D w4 := hS3.trans (by rw [HTE.out]; exact chg_grown hgr4)
      refine ⟨hS4, ?_⟩
      try simp only [List.setIfInBounds_toArray, List.set_cons_zero, List.set_cons_succ]
      obtain ⟨qa, qc, hv4, -, -⟩ := hown4.slLt encR_length
      obtain ⟨qm, hqm⟩ : ∃ qm, qm = (f.growth.take k ++ [(⟨lo, hi⟩ : Rg)]).length := ⟨_, rfl⟩
      rw [← hqm] at hv4
      clear hqm
      subst hv4
      refine wpG_take (i := 10) (v := .pointer (some ⟨X, 1, none⟩)) rfl rfl (by kernel_rfl) (by kernel_rfl) (by kernel_rfl) (by kernel_rfl) (fun _ _ _ h => h) (by rfl) (fun w' hS' => grow_value ?_ hS') ?_
      · go_simp
      try simp only [List.setIfInBounds_toArray, List.set_cons_zero, List.set_cons_succ]
      refine wpG_last rfl (by kernel_rfl) (by kernel_rfl) (by rfl) (fun w5 hb5 hS5 => ?_)
      have hrow5 := row_chg HROWD.out hS5 hnX
      have c5 := cell_of_row hrow5 1
      have f5 := frozen_of_row hrow5 1
      simp only [List.getElem?_toArray, List.getElem?_cons_zero, List.getElem?_cons_succ] at c5
      go_simp
      have rowU := row_set hrow5 1 (.slice qa qm qc)
      simp only [List.setIfInBounds_toArray, List.set_cons_zero, List.set_cons_succ] at rowU
      have hcU := setCell_chg (A := w5) (g := X) (i := 1) (.slice qa qm qc)
      have hownU := (hown4.below hb5).chg hcU (fun b hb => by omega)
      have hchU : Chg (fun b => b = X) V (w5.setCell ⟨X, 1, none⟩ (.slice qa qm qc)) := by
        have h1 : Chg (fun b => b = X) V D := HCH.out.trans (chg_of_below hBD)
        refine ⟨hcU.os.trans (hS5.os.trans h1.os), hcU.tape.trans (hS5.tape.trans h1.tape), hcU.output.trans (hS5.output.trans h1.output), Nat.le_trans h1.size (Nat.le_trans hS5.size hcU.size), fun b hb hne => ?_⟩
        have e1 := hcU.block b (by have := h1.size; have := hS5.size; omega) hne
        have e2 := hS5.block b (by have := h1.size; omega) (fun ht => by have := HTT.out b ht; omega)
        exact e1.trans (e2.trans (h1.block b hb hne))
      have HU := hid (And.intro hchU (And.intro rowU hownU))
      clear hchU rowU hcU hownU c5 f5 hrow5 hS5 hb5 hS4 hgr4 hown4 hS3 hb3 hnew hown1 hS2 hS1 hb1 hsA HG HTE HROWD HL HTT
      generalize w5.setCell ⟨X, 1, none⟩ (.slice qa qm qc) = U at *
      go_wp2_with fail
      go_roundw
      case rel => exact ⟨k + 1, _, by omega, by go_num, HU.out.1, HU.out.2.1, by rw [HT.out]; exact HU.out.2.2⟩
      case measure => simp [intOf]; omega
    · have hk2 : k = f.growth.length := by omega
      subst hk2
      have HT1 := hid (show f.growth.take f.growth.length = f.growth from List.take_length)
      rw [HT1.out] at hown
      obtain ⟨g1, k1, hhv, -, -⟩ := hown.slLt encR_length
      subst hhv
      obtain ⟨V1, hV1⟩ : ∃ V1, V1 = wr := ⟨_, rfl⟩
      rw [← hV1] at hown hrow hch
      have HR1 := hid hrow
      have HV1 := hid hown
      have HC1 := hid hch
      have hl1 : V.heap.size ≤ V1.heap.size := hch.size
      clear hrow hown hch
      go_wp2_with fail
      rw [← hV1]
      clear hV1 j1 hsz HKW hgl hXl hlt hk
      go_loopw [5] (fun i wr => ∃ (k : Nat) (lv : Value), k ≤ f.looks.length ∧ i = .int .i64 k ∧ Chg (fun b => b = X) V1 wr ∧ wr.heap[X]? = some (.cells #[.int .i64 f.last, .slice g1 f.growth.length k1, .slice a4 f.wet.length k4, .slice a7 f.base.length k7, .slice a10 f.crops.length k10, .int .i64 f.ripe, .int .i64 f.late, .int .i64 f.trod, lv] 87 (0, 0)) ∧
          Own V1.heap.size 157 3 encK wr lv (f.looks.take k)) (fun i _ => f.looks.length - (intOf i).toNat)
      case atStart => exact ⟨0, .slice none 0 0, by omega, rfl, Chg.refl _ _, HR1.out, Own.nil⟩
      case round =>
        obtain ⟨k, lv, hk, rfl, hch, hrow, hown⟩ := hrel
        have hsz := hch.size
        have HKW := hid (HW9.out.trans ((HC1.out.trans hch).below (by omega) fun b hb e => by omega))
        have hgl : w.heap.size < wr.heap.size := by omega
        have hXl : X < wr.heap.size := by omega
        have hrow := HBOX.out wr HKW.out
        have j0 := cell_of_row hrow 0
        have j1 := cell_of_row hrow 1
        have j2 := cell_of_row hrow 2
        have j3 := cell_of_row hrow 3
        have j4 := cell_of_row hrow 4
        have j5 := cell_of_row hrow 5
        have j6 := cell_of_row hrow 6
        have j7 := cell_of_row hrow 7
        have j8 := cell_of_row hrow 8
        simp only [List.getElem?_toArray, List.getElem?_cons_zero, List.getElem?_cons_succ] at j0 j1 j2 j3 j4 j5 j6 j7 j8
        clear hrow
        clear j0 j1 j2 j3 j4 j5 j6 j7
        by_cases hlt : k < f.looks.length
        · rcases HO5.out with hnil | ⟨b, off, rfl, hbn, hcc⟩
          · rw [hnil] at hlt; simp at hlt
          have hbl : b < n := hbn
          have hbw : b < wr.heap.size := by omega
          have HAL := hid (hWb.trans (HKW.out.mono (by omega)))
          have z0 := (HAL.out.cell (p := ⟨b, off + k * 3, none⟩) (by show b < _; omega)).trans (hcc k hlt).1
          have z1 := (HAL.out.cell (p := ⟨b, off + k * 3 + 1, none⟩) (by show b < _; omega)).trans (hcc k hlt).2.1
          have z2 := (HAL.out.cell (p := ⟨b, off + k * 3 + 2, none⟩) (by show b < _; omega)).trans (hcc k hlt).2.2
          have HT := hid (show f.looks.take (k + 1) = f.looks.take k ++ [f.looks[k]] from List.take_succ_eq_append_getElem hlt)
          clear hcc
          generalize f.looks[k] = l at *
          obtain ⟨wk, ⟨lo, hi⟩⟩ := l
          simp only at z0 z1 z2
          obtain ⟨pa, pc, hv0, -, -⟩ := hown.slLt encK_length
          obtain ⟨pm, hpm⟩ : ∃ pm, pm = (f.looks.take k).length := ⟨_, rfl⟩
          rw [← hpm] at hv0
          clear hpm
          subst hv0
          have HOWN := hid hown
          have HCH := hid hch
          have HROW := hid hrow
          have HOB := hid hown.block
          have o1 := cell_of_row hrow 8
          simp only [List.getElem?_toArray, List.getElem?_cons_zero, List.getElem?_cons_succ] at o1
          clear hown hch hrow
          go_wp2
          obtain ⟨D, hD⟩ : ∃ D, D = wr.drew := ⟨_, rfl⟩
          have hBD : Below wr.heap.size wr D := by rw [hD]; exact (Below.refl _ _).drew
          have hsD : D.heap.size ≤ wr.heap.size ∧ wr.heap.size ≤ D.heap.size := by rw [hD]; simp
          obtain ⟨T, hT⟩ : ∃ T : Nat → Prop, T = fun b => (Value.slice pa pm pc).ownBlock = some b := ⟨_, rfl⟩
          have HTT := hid (fun b h => HOB.out b (by rw [hT] at h; exact h) : ∀ b, T b → V1.heap.size ≤ b ∧ b < wr.heap.size)
          have hnX : ¬ T X := fun h => by have := HTT.out _ h; omega
          have hns : ¬ T w.heap.size := fun h => by have := HTT.out _ h; omega
          have hnb : ¬ T b := fun h => by have := HTT.out _ h; omega
          have HL := hid (fun w' h => ⟨(h.cell (by omega) hnX).trans ((hBD.cell (p := ⟨X, 8, none⟩) hXl).trans o1), (h.cell (by omega) hns).trans ((hBD.cell (p := ⟨w.heap.size, 8, none⟩) hgl).trans j8), (h.cell (by omega) hnb).trans ((hBD.cell (p := ⟨b, off + k * 3, none⟩) hbw).trans z0), (h.cell (by omega) hnb).trans ((hBD.cell (p := ⟨b, off + k * 3 + 1, none⟩) hbw).trans z1), (h.cell (by omega) hnb).trans ((hBD.cell (p := ⟨b, off + k * 3 + 2, none⟩) hbw).trans z2)⟩ :
            ∀ w', Chg T D w' → w'.cell? ⟨X, 8, none⟩ = some (.slice pa pm pc) ∧ w'.cell? ⟨w.heap.size, 8, none⟩ = some (.slice (some ⟨b, off, none⟩) f.looks.length lc) ∧ w'.cell? ⟨b, off + k * 3, none⟩ = some (.int .i64 wk) ∧ w'.cell? ⟨b, off + k * 3 + 1, none⟩ = some (.int .i64 lo) ∧ w'.cell? ⟨b, off + k * 3 + 2, none⟩ = some (.int .i64 hi))
          refine wp_region_grow (by kernel_rfl) 19 (Chg T D) ?_ ?_
          · rw [← hD]; exact Chg.refl _ _
          rw [← hD]
          have HTE := hid hT
          have HG := chg_grow (T := T) D
          have HROWD := hid ((hBD.block _ hXl).trans HROW.out)
          clear hD hT z0 z1 z2 j8 o1
          refine wpG_take (i := 0) (v := .pointer (some ⟨X, 8, none⟩)) rfl rfl (by kernel_rfl) (by kernel_rfl) (by kernel_rfl) (by kernel_rfl) (fun _ _ _ h => h) (by rfl) (fun w' hS' => grow_value ?_ hS') ?_
          · go_simp
          try simp only [List.setIfInBounds_toArray, List.set_cons_zero, List.set_cons_succ]
          refine wpG_take (i := 1) (v := .slice pa pm pc) rfl rfl (by kernel_rfl) (by kernel_rfl) (by kernel_rfl) (by kernel_rfl) (fun _ _ _ h => h) (by rfl) (fun w' hS' => grow_value ?_ hS') ?_
          · have ⟨s0, s1, s2, s3, s4⟩ := HL.out _ hS'; go_simp
          try simp only [List.setIfInBounds_toArray, List.set_cons_zero, List.set_cons_succ]
          refine wpG_take (i := 2) (v := .pointer (some ⟨w.heap.size, 8, none⟩)) rfl rfl (by kernel_rfl) (by kernel_rfl) (by kernel_rfl) (by kernel_rfl) (fun _ _ _ h => h) (by rfl) (fun w' hS' => grow_value ?_ hS') ?_
          · go_simp
          try simp only [List.setIfInBounds_toArray, List.set_cons_zero, List.set_cons_succ]
          refine wpG_take (i := 3) (v := .slice (some ⟨b, off, none⟩) f.looks.length lc) rfl rfl (by kernel_rfl) (by kernel_rfl) (by kernel_rfl) (by kernel_rfl) (fun _ _ _ h => h) (by rfl) (fun w' hS' => grow_value ?_ hS') ?_
          · have ⟨s0, s1, s2, s3, s4⟩ := HL.out _ hS'; go_simp
          try simp only [List.setIfInBounds_toArray, List.set_cons_zero, List.set_cons_succ]
          refine wpG_take (i := 4) (v := .int .i64 k) rfl rfl (by kernel_rfl) (by kernel_rfl) (by kernel_rfl) (by kernel_rfl) (fun _ _ _ h => h) (by rfl) (fun w' hS' => grow_value ?_ hS') ?_
          · go_simp
          try simp only [List.setIfInBounds_toArray, List.set_cons_zero, List.set_cons_succ]
          refine wpG_take (i := 5) (v := .pointer (some ⟨b, off + k * 3, none⟩)) rfl rfl (by kernel_rfl) (by kernel_rfl) (by kernel_rfl) (by kernel_rfl) (fun _ _ _ h => h) (by rfl) (fun w' hS' => grow_value ?_ hS') ?_
          · go_simp
          try simp only [List.setIfInBounds_toArray, List.set_cons_zero, List.set_cons_succ]
          refine wpG_take (i := 6) (v := .pointer (some ⟨b, off + k * 3, none⟩)) rfl rfl (by kernel_rfl) (by kernel_rfl) (by kernel_rfl) (by kernel_rfl) (fun _ _ _ h => h) (by rfl) (fun w' hS' => grow_value ?_ hS') ?_
          · go_simp
          try simp only [List.setIfInBounds_toArray, List.set_cons_zero, List.set_cons_succ]
          refine wpG_take (i := 7) (v := .int .i64 wk) rfl rfl (by kernel_rfl) (by kernel_rfl) (by kernel_rfl) (by kernel_rfl) (fun _ _ _ h => h) (by rfl) (fun w' hS' => grow_value ?_ hS') ?_
          · have ⟨s0, s1, s2, s3, s4⟩ := HL.out _ hS'; go_simp
          try simp only [List.setIfInBounds_toArray, List.set_cons_zero, List.set_cons_succ]
          refine wpG_take (i := 8) (v := .pointer (some ⟨w.heap.size, 8, none⟩)) rfl rfl (by kernel_rfl) (by kernel_rfl) (by kernel_rfl) (by kernel_rfl) (fun _ _ _ h => h) (by rfl) (fun w' hS' => grow_value ?_ hS') ?_
          · go_simp
          try simp only [List.setIfInBounds_toArray, List.set_cons_zero, List.set_cons_succ]
          refine wpG_take (i := 9) (v := .slice (some ⟨b, off, none⟩) f.looks.length lc) rfl rfl (by kernel_rfl) (by kernel_rfl) (by kernel_rfl) (by kernel_rfl) (fun _ _ _ h => h) (by rfl) (fun w' hS' => grow_value ?_ hS') ?_
          · have ⟨s0, s1, s2, s3, s4⟩ := HL.out _ hS'; go_simp
          try simp only [List.setIfInBounds_toArray, List.set_cons_zero, List.set_cons_succ]
          refine wpG_take (i := 10) (v := .int .i64 k) rfl rfl (by kernel_rfl) (by kernel_rfl) (by kernel_rfl) (by kernel_rfl) (fun _ _ _ h => h) (by rfl) (fun w' hS' => grow_value ?_ hS') ?_
          · go_simp
          try simp only [List.setIfInBounds_toArray, List.set_cons_zero, List.set_cons_succ]
          refine wpG_take (i := 11) (v := .pointer (some ⟨b, off + k * 3, none⟩)) rfl rfl (by kernel_rfl) (by kernel_rfl) (by kernel_rfl) (by kernel_rfl) (fun _ _ _ h => h) (by rfl) (fun w' hS' => grow_value ?_ hS') ?_
          · go_simp
          try simp only [List.setIfInBounds_toArray, List.set_cons_zero, List.set_cons_succ]
          refine wpG_take (i := 12) (v := .pointer (some ⟨b, off + k * 3 + 1, none⟩)) rfl rfl (by kernel_rfl) (by kernel_rfl) (by kernel_rfl) (by kernel_rfl) (fun _ _ _ h => h) (by rfl) (fun w' hS' => grow_value ?_ hS') ?_
          · go_simp
          try simp only [List.setIfInBounds_toArray, List.set_cons_zero, List.set_cons_succ]
          refine wpG_take (i := 13) (v := .agg #[.int .i64 lo, .int .i64 hi]) rfl rfl (by kernel_rfl) (by kernel_rfl) (by kernel_rfl) (by kernel_rfl) (fun _ _ _ h => h) (by rfl) (fun w' hS' => grow_value ?_ hS') ?_
          · have ⟨s0, s1, s2, s3, s4⟩ := HL.out _ hS'; go_simp
          try simp only [List.setIfInBounds_toArray, List.set_cons_zero, List.set_cons_succ]
          refine wpG_take (i := 14) (v := .agg #[.int .i64 lo, .int .i64 hi]) rfl rfl (by kernel_rfl) (by kernel_rfl) (by kernel_rfl) (by kernel_rfl) (fun _ _ _ h => h) (by rfl) (fun w' hS' => grow_make (f := 104) (args := #[.agg #[.int .i64 lo, .int .i64 hi]]) ?_ hS' HG ?_) ?_
          · have ⟨s0, s1, s2, s3, s4⟩ := HL.out _ hS'; go_simp
          · have ⟨s0, s1, s2, s3, s4⟩ := HL.out _ hS'; exact toM_any lo hi _
          try simp only [List.setIfInBounds_toArray, List.set_cons_zero, List.set_cons_succ]
          refine wpG_take (i := 15) (v := .agg #[.int .i64 wk, .int .i64 lo, .int .i64 hi]) rfl rfl (by kernel_rfl) (by kernel_rfl) (by kernel_rfl) (by kernel_rfl) (fun _ _ _ h => h) (by rfl) (fun w' hS' => grow_value ?_ hS') ?_
          · go_simp
          try simp only [List.setIfInBounds_toArray, List.set_cons_zero, List.set_cons_succ]
          refine wpG_only (i := 16) rfl (by rfl) (by kernel_rfl) (by rfl) (fun w1 hb1 hS1 => ?_)
          go_simp
          refine ⟨hS1.trans (chg_alloc _ _), ?_⟩
          have hown1 := (HOWN.out.below (hBD.trans (hb1.mono (by omega)))).below (below_alloc1 (Nat.le_refl _) (Obj.cells #[.int .i64 wk, .int .i64 lo, .int .i64 hi] 157))
          have hnew := cells_new w1 [.int .i64 wk, .int .i64 lo, .int .i64 hi] 157
          have hS2 : Chg T D (w1.alloc (Obj.cells #[.int .i64 wk, .int .i64 lo, .int .i64 hi] 157)) := hS1.trans (chg_alloc _ _)
          have hsA : w1.heap.size < (w1.alloc (Obj.cells #[.int .i64 wk, .int .i64 lo, .int .i64 hi] 157)).heap.size := by simp
          generalize w1.alloc (Obj.cells #[.int .i64 wk, .int .i64 lo, .int .i64 hi] 157) = w2 at *
          try simp only [List.setIfInBounds_toArray, List.set_cons_zero, List.set_cons_succ]
          refine wpG_only (i := 17) rfl (by rfl) (by kernel_rfl) (by rfl) (fun w3 hb3 hS3 => ?_)
          refine wp_append1 encK _ _ _ rfl V1.heap.size 157 _ 3 24 klooks_under infoKLook rfl (by omega) encK_length encK_one (.slice pa pm pc) (f.looks.take k) (by rfl) (hown1.below hb3) w1.heap.size 1 ⟨wk, ⟨lo, hi⟩⟩ (by rfl) (fun i u hu => (hb3.cell (p := ⟨w1.heap.size, i, none⟩) hsA).trans (hnew i u hu)) (by simp; omega) (by omega) (by have := hb3.size; have := hS2.size; omega) ?_
          intro v4 w4 hown4 hgr4
          have hS4 : Chg T D w4 := hS3.trans (by rw [HTE.out]; exact chg_grown hgr4)
          refine ⟨hS4, ?_⟩
          try simp only [List.setIfInBounds_toArray, List.set_cons_zero, List.set_cons_succ]
          obtain ⟨qa, qc, hv4, -, -⟩ := hown4.slLt encK_length
          obtain ⟨qm, hqm⟩ : ∃ qm, qm = (f.looks.take k ++ [(⟨wk, ⟨lo, hi⟩⟩ : Lk)]).length := ⟨_, rfl⟩
          rw [← hqm] at hv4
          clear hqm
          subst hv4
          refine wpG_take (i := 18) (v := .pointer (some ⟨X, 8, none⟩)) rfl rfl (by kernel_rfl) (by kernel_rfl) (by kernel_rfl) (by kernel_rfl) (fun _ _ _ h => h) (by rfl) (fun w' hS' => grow_value ?_ hS') ?_
          · go_simp
          try simp only [List.setIfInBounds_toArray, List.set_cons_zero, List.set_cons_succ]
          refine wpG_last rfl (by kernel_rfl) (by kernel_rfl) (by rfl) (fun w5 hb5 hS5 => ?_)
          have hrow5 := row_chg HROWD.out hS5 hnX
          have c5 := cell_of_row hrow5 8
          have f5 := frozen_of_row hrow5 8
          simp only [List.getElem?_toArray, List.getElem?_cons_zero, List.getElem?_cons_succ] at c5
          go_simp
          have rowU := row_set hrow5 8 (.slice qa qm qc)
          simp only [List.setIfInBounds_toArray, List.set_cons_zero, List.set_cons_succ] at rowU
          have hcU := setCell_chg (A := w5) (g := X) (i := 8) (.slice qa qm qc)
          have hownU := (hown4.below hb5).chg hcU (fun b hb => by omega)
          have hchU : Chg (fun b => b = X) V1 (w5.setCell ⟨X, 8, none⟩ (.slice qa qm qc)) := by
            have h1 : Chg (fun b => b = X) V1 D := HCH.out.trans (chg_of_below hBD)
            refine ⟨hcU.os.trans (hS5.os.trans h1.os), hcU.tape.trans (hS5.tape.trans h1.tape), hcU.output.trans (hS5.output.trans h1.output), Nat.le_trans h1.size (Nat.le_trans hS5.size hcU.size), fun b hb hne => ?_⟩
            have e1 := hcU.block b (by have := h1.size; have := hS5.size; omega) hne
            have e2 := hS5.block b (by have := h1.size; omega) (fun ht => by have := HTT.out b ht; omega)
            exact e1.trans (e2.trans (h1.block b hb hne))
          have HU := hid (And.intro hchU (And.intro rowU hownU))
          clear hchU rowU hcU hownU c5 f5 hrow5 hS5 hb5 hS4 hgr4 hown4 hS3 hb3 hnew hown1 hS2 hS1 hb1 hsA HG HTE HROWD HL HTT
          generalize w5.setCell ⟨X, 8, none⟩ (.slice qa qm qc) = U at *
          go_wp2_with fail
          go_roundw
          case rel => exact ⟨k + 1, _, by omega, by go_num, HU.out.1, HU.out.2.1, by rw [HT.out]; exact HU.out.2.2⟩
          case measure => simp [intOf]; omega
        · have hk2 : k = f.looks.length := by omega
          subst hk2
          have HT2 := hid (show f.looks.take f.looks.length = f.looks from List.take_length)
          rw [HT2.out] at hown
          obtain ⟨l1, m1', hhv, -, -⟩ := hown.slLt encK_length
          subst hhv
          have rr := HRES.out wr HKW.out
          have o0 := cell_of_row hrow 0
          have o1 := cell_of_row hrow 1
          have o2 := cell_of_row hrow 2
          have o3 := cell_of_row hrow 3
          have o4 := cell_of_row hrow 4
          have o5 := cell_of_row hrow 5
          have o6 := cell_of_row hrow 6
          have o7 := cell_of_row hrow 7
          have o8 := cell_of_row hrow 8
          simp only [List.getElem?_toArray, List.getElem?_cons_zero, List.getElem?_cons_succ] at o0 o1 o2 o3 o4 o5 o6 o7 o8
          have p0 := cell_of_row rr 0
          have p1 := cell_of_row rr 1
          have p2 := cell_of_row rr 2
          have p3 := cell_of_row rr 3
          have p4 := cell_of_row rr 4
          have p5 := cell_of_row rr 5
          have p6 := cell_of_row rr 6
          have p7 := cell_of_row rr 7
          have p8 := cell_of_row rr 8
          simp only [List.getElem?_toArray, List.getElem?_cons_zero, List.getElem?_cons_succ] at p0 p1 p2 p3 p4 p5 p6 p7 p8
          have f0 := frozen_of_row rr 0
          have f1 := frozen_of_row rr 1
          have f2 := frozen_of_row rr 2
          have f3 := frozen_of_row rr 3
          have f4 := frozen_of_row rr 4
          have f5 := frozen_of_row rr 5
          have f6 := frozen_of_row rr 6
          have f7 := frozen_of_row rr 7
          have f8 := frozen_of_row rr 8
          have HRR := hid rr
          have HX9 := hid (And.intro hown hch)
          have hl1b : w.heap.size + 1 < wr.heap.size := by omega
          clear hown hch hrow rr
          go_wp2_with fail
          clear o0 o1 o2 o3 o4 o5 o6 o7 o8 p0 p1 p2 p3 p4 p5 p6 p7 p8 f0 f1 f2 f3 f4 f5 f6 f7 f8
          have hr := put9_row HRR.out (.int .i64 f.last) (.slice g1 f.growth.length k1) (.slice a4 f.wet.length k4) (.slice a7 f.base.length k7) (.slice a10 f.crops.length k10) (.int .i64 f.ripe) (.int .i64 f.late) (.int .i64 f.trod) (.slice l1 f.looks.length m1')
          have hc := put9_chg (w := wr) (g := w.heap.size + 1) (.int .i64 f.last) (.slice g1 f.growth.length k1) (.slice a4 f.wet.length k4) (.slice a7 f.base.length k7) (.slice a10 f.crops.length k10) (.int .i64 f.ripe) (.int .i64 f.late) (.int .i64 f.trod) (.slice l1 f.looks.length m1')
          change bodyPost _ _ _ _ _ (put9 wr (w.heap.size + 1) (.int .i64 f.last) (.slice g1 f.growth.length k1) (.slice a4 f.wet.length k4) (.slice a7 f.base.length k7) (.slice a10 f.crops.length k10) (.int .i64 f.ripe) (.int .i64 f.late) (.int .i64 f.trod) (.slice l1 f.looks.length m1'))
          generalize put9 wr (w.heap.size + 1) (.int .i64 f.last) (.slice g1 f.growth.length k1) (.slice a4 f.wet.length k4) (.slice a7 f.base.length k7) (.slice a10 f.crops.length k10) (.int .i64 f.ripe) (.int .i64 f.late) (.int .i64 f.trod) (.slice l1 f.looks.length m1') = Z at *
          have q0 := cell_of_row hr 0
          have q1 := cell_of_row hr 1
          have q2 := cell_of_row hr 2
          have q3 := cell_of_row hr 3
          have q4 := cell_of_row hr 4
          have q5 := cell_of_row hr 5
          have q6 := cell_of_row hr 6
          have q7 := cell_of_row hr 7
          have q8 := cell_of_row hr 8
          simp only [List.getElem?_toArray, List.getElem?_cons_zero, List.getElem?_cons_succ] at q0 q1 q2 q3 q4 q5 q6 q7 q8
          have hCX := HC1.out.trans HX9.out.2
          have hQ : RetFl f w (.returned (.agg #[.int .i64 f.last, .slice g1 f.growth.length k1, .slice a4 f.wet.length k4, .slice a7 f.base.length k7, .slice a10 f.crops.length k10, .int .i64 f.ripe, .int .i64 f.late, .int .i64 f.trod, .slice l1 f.looks.length m1'])) Z := by
            refine ⟨_, rfl, ⟨_, _, _, _, _, rfl, ?_, ?_, ?_, ?_, ?_⟩, (hWb.trans (HKW.out.mono (by omega))).trans (hc.below (by omega) fun b hb e => by omega)⟩
            · exact ((HV1.out.chg HX9.out.2 (fun b hb e => by omega)).chg hc (fun b hb e => by omega)).slLt encR_length
            · exact ((HV2.out.1.chg_ne hCX (fun b hb e => HV2.out.2 b hb e)).chg hc (fun b hb e => by omega)).slLt encI_length
            · exact ((HV3.out.1.chg_ne hCX (fun b hb e => HV3.out.2 b hb e)).chg hc (fun b hb e => by omega)).slLt encI_length
            · exact ((HV4.out.1.chg_ne hCX (fun b hb e => HV4.out.2 b hb e)).chg hc (fun b hb e => by omega)).slLt encI_length
            · exact (HX9.out.1.chg hc (fun b hb e => by omega)).slLt encK_length
          exact bodyPost_ret (v := .agg #[.int .i64 f.last, .slice g1 f.growth.length k1, .slice a4 f.wet.length k4, .slice a7 f.base.length k7, .slice a10 f.crops.length k10, .int .i64 f.ripe, .int .i64 f.late, .int .i64 f.trod, .slice l1 f.looks.length m1']) (by simp only [results, Try.results53]; simp [go_sem, q0, q1, q2, q3, q4, q5, q6, q7, q8]) rfl hQ
end Go.Proofs.Ytjddcaimjofihaa
