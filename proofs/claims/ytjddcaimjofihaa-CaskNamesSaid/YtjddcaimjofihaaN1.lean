/- The calls of CaskNames at the document's cellar, and where two() lays its numbers; no condition. -/
import Derived.Test.YtjddcaimjofihaaL1
import Derived.Test.YtjddcaimjofihaaC1
import Derived.Test.YtjddcaimjofihaaL2
namespace Go.Proofs.Ytjddcaimjofihaa
open Go.RowKit Go.Shelf
set_option maxRecDepth 100000

/-- What two() lays: its heaps, its casks, and no block of others. -/
structure TwoAt (k : Nat) (w w' : World) : Prop where
  low : w.heap.size < k
  size : w'.heap.size = k + 4
  heaps : w'.heap[k]? = some (.cells #[.int .i64 40, .int .i64 42, .int .i64 60, .int .i64 63] 58 (0, 0))
  one : w'.heap[k + 1]? = some (.cells #[.int .i64 10, .int .i64 10] 3 (0, 0))
  two : w'.heap[k + 1 + 1]? = some (.cells #[.int .i64 5, .int .i64 15] 3 (0, 0))
  casks : w'.heap[k + 1 + 1 + 1]? = some (.cells #[.slice (some ⟨k + 1, 0, none⟩) 2 2, .slice (some ⟨k + 1 + 1, 0, none⟩) 2 2] 47 (0, 0))
  below : Below w.heap.size w w'
def RetTwoAt (tv : Value) (w : World) (e : Ending) (w' : World) : Prop := ∃ k, e = .returned (.agg #[.slice (some ⟨k, 0, none⟩) 2 2, .slice (some ⟨k + 1 + 1 + 1, 0, none⟩) 2 2, tv]) ∧ TwoAt k w w'
theorem two_at (ta : Option Addr) (tl tc : Nat) (w : World) :
    Calls Try.prog 75 #[.slice ta tl tc] w (RetTwoAt (.slice ta tl tc) w) := by
  go_enter Try.func75, Try.ntmps75
  go_wp2_with fail
  refine (between_any _ _ _).mono ?_
  rintro e w1 ⟨rfl, hb1⟩
  have hr1 := (hb1.block w.heap.size (by simp)).trans (heap_new _ _)
  have hB1 := below_after (below_alloc1 (Nat.le_refl _) _) hb1 (Nat.le_refl w.heap.size)
  have hs1 : w.heap.size < w1.heap.size := by have := hb1.size; simp at this; omega
  clear hb1
  go_wp2_with fail
  refine (between_any _ _ _).mono ?_
  rintro e w2 ⟨rfl, hb2⟩
  have hr2 := (hb2.block w.heap.size hs1).trans hr1
  have hB2 := below_after hB1 hb2 (Nat.le_refl w.heap.size)
  have hs2 : w.heap.size < w2.heap.size := by have := hb2.size; omega
  clear hb2 hr1 hB1 hs1
  have c0 := cell_of_row hr2 0
  have c1 := cell_of_row hr2 1
  have c2 := cell_of_row hr2 2
  have f0 := frozen_of_row hr2 0
  have f1 := frozen_of_row hr2 1
  have f2 := frozen_of_row hr2 2
  simp only [List.getElem?_toArray, List.getElem?_cons_zero, List.getElem?_cons_succ] at c0 c1 c2
  have HR := hid hr2
  clear hr2
  have l1 : w.heap.size < w2.heap.size + 1 + 1 := by omega
  have l2 : w.heap.size < w2.heap.size + 1 + 1 + 1 := by omega
  go_wp2_with fail
  clear c0 c1 c2 f0 f1 f2 l1 l2
  have hr := row_set3 HR.out (.slice (some ⟨w2.heap.size, 0, none⟩) 2 2) (.slice (some ⟨w2.heap.size + 1 + 1 + 1, 0, none⟩) 2 2) (.slice ta tl tc)
  have hB := below_set3 hB2 (Nat.le_refl w.heap.size) (.slice (some ⟨w2.heap.size, 0, none⟩) 2 2) (.slice (some ⟨w2.heap.size + 1 + 1 + 1, 0, none⟩) 2 2) (.slice ta tl tc)
  have hsz : (((w2.setCell ⟨w.heap.size, 0, none⟩ (.slice (some ⟨w2.heap.size, 0, none⟩) 2 2)).setCell ⟨w.heap.size, 1, none⟩ (.slice (some ⟨w2.heap.size + 1 + 1 + 1, 0, none⟩) 2 2)).setCell ⟨w.heap.size, 2, none⟩ (.slice ta tl tc)).heap.size = w2.heap.size := by simp [World.setCell]
  generalize (((w2.setCell ⟨w.heap.size, 0, none⟩ (.slice (some ⟨w2.heap.size, 0, none⟩) 2 2)).setCell ⟨w.heap.size, 1, none⟩ (.slice (some ⟨w2.heap.size + 1 + 1 + 1, 0, none⟩) 2 2)).setCell ⟨w.heap.size, 2, none⟩ (.slice ta tl tc)) = U at *
  rw [← hsz] at hr ⊢
  obtain ⟨V, hV⟩ : ∃ V, V = (((U.alloc (Obj.cells #[.int .i64 40, .int .i64 42, .int .i64 60, .int .i64 63] 58)).alloc (Obj.cells #[.int .i64 10, .int .i64 10] 3)).alloc (Obj.cells #[.int .i64 5, .int .i64 15] 3)).alloc (Obj.cells #[.slice (some ⟨U.heap.size + 1, 0, none⟩) 2 2, .slice (some ⟨U.heap.size + 1 + 1, 0, none⟩) 2 2] 47) := ⟨_, rfl⟩
  rw [← hV]
  have HP := hid (hV ▸ heap_four U _ _ _ _)
  have hVb : Below U.heap.size U V := by rw [hV]; exact below_alloc4 (Nat.le_refl _) _ _ _ _
  have hVs : V.heap.size = U.heap.size + 4 := by rw [hV]; simp
  have hrV := (hVb.block w.heap.size (by omega)).trans hr
  have hBV := below_after hB hVb (Nat.le_refl _)
  clear hV
  have q0 := cell_of_row hrV 0
  have q1 := cell_of_row hrV 1
  have q2 := cell_of_row hrV 2
  simp only [List.getElem?_toArray, List.getElem?_cons_zero, List.getElem?_cons_succ] at q0 q1 q2
  have hQ : RetTwoAt (.slice ta tl tc) w (.returned (.agg #[.slice (some ⟨U.heap.size, 0, none⟩) 2 2, .slice (some ⟨U.heap.size + 1 + 1 + 1, 0, none⟩) 2 2, .slice ta tl tc])) V := by
    obtain ⟨p0, p1, p2, p3⟩ := HP.out
    exact ⟨_, rfl, by omega, hVs, p0, p1, p2, p3, hBV⟩
  exact bodyPost_ret (v := .agg #[.slice (some ⟨U.heap.size, 0, none⟩) 2 2, .slice (some ⟨U.heap.size + 1 + 1 + 1, 0, none⟩) 2 2, .slice ta tl tc]) (by simp only [results, Try.results75]; simp [go_sem, q0, q1, q2]) rfl hQ

/-- The rows of a cellar in a world. -/
structure TwoRows (k : Nat) (w : World) : Prop where
  heaps : w.heap[k]? = some (.cells #[.int .i64 40, .int .i64 42, .int .i64 60, .int .i64 63] 58 (0, 0))
  one : w.heap[k + 1]? = some (.cells #[.int .i64 10, .int .i64 10] 3 (0, 0))
  two : w.heap[k + 1 + 1]? = some (.cells #[.int .i64 5, .int .i64 15] 3 (0, 0))
  casks : w.heap[k + 1 + 1 + 1]? = some (.cells #[.slice (some ⟨k + 1, 0, none⟩) 2 2, .slice (some ⟨k + 1 + 1, 0, none⟩) 2 2] 47 (0, 0))
theorem TwoRows.grow {k : Nat} {w w' : World} (h : TwoRows k w) (hb : ∀ b, k ≤ b → b < k + 4 → w'.heap[b]? = w.heap[b]?) : TwoRows k w' :=
  ⟨(hb _ (by omega) (by omega)).trans h.heaps, (hb _ (by omega) (by omega)).trans h.one, (hb _ (by omega) (by omega)).trans h.two, (hb _ (by omega) (by omega)).trans h.casks⟩

theorem at_new (w : World) (o : Obj) (n : Nat) (h : n = w.heap.size) : (w.alloc o).heap[n]? = some o := by subst h; exact heap_new w o
theorem at_old (w : World) (o : Obj) (n : Nat) (h : n < w.heap.size) : (w.alloc o).heap[n]? = w.heap[n]? := Below.heap_alloc _ _ _ h
theorem six_boxes (w : World) (o0 o1 o2 o3 o4 o5 : Obj) (D : World) (hD : D = (((((w.alloc o0).alloc o1).alloc o2).alloc o3).alloc o4).alloc o5) :
    D.heap.size = w.heap.size + 6 ∧ Below w.heap.size w D ∧ D.heap[w.heap.size]? = some o0 ∧ D.heap[w.heap.size + 1]? = some o1 ∧ D.heap[w.heap.size + 1 + 1]? = some o2 ∧ D.heap[w.heap.size + 1 + 1 + 1]? = some o3 ∧ D.heap[w.heap.size + 1 + 1 + 1 + 1]? = some o4 ∧ D.heap[w.heap.size + 1 + 1 + 1 + 1 + 1]? = some o5 := by
  subst hD
  refine ⟨by simp, ((below_alloc4 (Nat.le_refl _) _ _ _ _).alloc (by simp <;> omega) _).alloc (by simp <;> omega) _, ?_, ?_, ?_, ?_, ?_, ?_⟩
  · rw [at_old _ _ _ (by simp <;> omega), at_old _ _ _ (by simp <;> omega), at_old _ _ _ (by simp <;> omega), at_old _ _ _ (by simp <;> omega), at_old _ _ _ (by simp)]; exact at_new _ _ _ rfl
  · rw [at_old _ _ _ (by simp <;> omega), at_old _ _ _ (by simp <;> omega), at_old _ _ _ (by simp <;> omega), at_old _ _ _ (by simp)]; exact at_new _ _ _ (by simp)
  · rw [at_old _ _ _ (by simp <;> omega), at_old _ _ _ (by simp <;> omega), at_old _ _ _ (by simp)]; exact at_new _ _ _ (by simp)
  · rw [at_old _ _ _ (by simp <;> omega), at_old _ _ _ (by simp)]; exact at_new _ _ _ (by simp)
  · rw [at_old _ _ _ (by simp)]; exact at_new _ _ _ (by simp)
  · exact at_new _ _ _ (by simp)
/-- What a store and a new block leave. -/
structure SetAlloc (w V : World) (g i : Nat) (v : Value) (o : Obj) : Prop where
  size : V.heap.size = w.heap.size + 1
  new : V.heap[w.heap.size]? = some o
  chg : Chg (fun b => b = g) w V
  row : ∀ {cs : Array Value} {t : TypeId} {f : Nat × Nat}, w.heap[g]? = some (.cells cs t f) → V.heap[g]? = some (.cells (cs.setIfInBounds i v) t f)
theorem SetAlloc.of {w V : World} {g i : Nat} {v : Value} {o : Obj} (h : V = (w.setCell ⟨g, i, none⟩ v).alloc o) : SetAlloc w V g i v o := by
  subst h
  have e : (w.setCell ⟨g, i, none⟩ v).heap.size = w.heap.size := by simp [World.setCell]
  refine ⟨by simp [World.setCell], ?_, (setCell_chg v).trans (chg_alloc _ _), fun hr => ?_⟩
  · have := heap_new (w.setCell ⟨g, i, none⟩ v) o
    rw [e] at this
    exact this
  · have hl := (Array.getElem?_eq_some_iff.1 hr).1
    exact (Below.heap_alloc _ _ _ (by rw [e]; exact hl)).trans (row_set hr i v)
/-- A cellar with two casks, out of its rows. -/
theorem ce_of_rows {w : World} {h k a b : Nat} {hcs acs bcs : Array Value} {hs : List Rg} {la lb : List Int} {ts : List Tl} {tv : Value} (rh : w.heap[h]? = some (.cells hcs 58 (0, 0))) (eh : hcs.toList = hs.flatMap fun r : Rg => [Value.int .i64 r.lo, Value.int .i64 r.hi])
    (rk : w.heap[k]? = some (.cells #[.slice (some ⟨a, 0, none⟩) la.length la.length, .slice (some ⟨b, 0, none⟩) lb.length lb.length] 47 (0, 0))) (ra : w.heap[a]? = some (.cells acs 3 (0, 0))) (ea : acs.toList = la.flatMap encI) (rb : w.heap[b]? = some (.cells bcs 3 (0, 0))) (eb : bcs.toList = lb.flatMap encI)
    (ht : Tls (Lt w.heap.size) w tv ts) : CeV (Lt w.heap.size) w (.agg #[.slice (some ⟨h, 0, none⟩) hs.length hs.length, .slice (some ⟨k, 0, none⟩) 2 2, tv]) ⟨hs, [la, lb], ts⟩ := by
  have lt : ∀ {b : Nat} {o : Obj}, w.heap[b]? = some o → b < w.heap.size := fun hr => (Array.getElem?_eq_some_iff.1 hr).1
  refine ⟨_, _, _, rfl, ?_, ?_, ht⟩
  · exact Sl.of_row (S := Lt w.heap.size) (sz := 2) (enc := fun r : Rg => [Value.int .i64 r.lo, Value.int .i64 r.hi]) (l := hs) rh (lt rh) eh (fun _ => rfl) (Nat.le_refl _)
  · refine Lss.of (vs := [.slice (some ⟨a, 0, none⟩) la.length la.length, .slice (some ⟨b, 0, none⟩) lb.length lb.length]) (Sl.of_row (S := Lt w.heap.size) (sz := 1) (enc := fun v : Value => [v]) (l := [.slice (some ⟨a, 0, none⟩) la.length la.length, .slice (some ⟨b, 0, none⟩) lb.length lb.length]) rk (lt rk) rfl (fun _ => rfl) (Nat.le_refl _)) rfl ?_
    intro j x l hx hl
    match j, hx, hl with
    | 0, hx, hl => cases hx; cases hl; exact Sl.of_row (S := Lt w.heap.size) (sz := 1) (enc := fun n : Int => [Value.int .i64 n]) (l := la) ra (lt ra) ea (fun _ => rfl) (Nat.le_refl _)
    | 1, hx, hl => cases hx; cases hl; exact Sl.of_row (S := Lt w.heap.size) (sz := 1) (enc := fun n : Int => [Value.int .i64 n]) (l := lb) rb (lt rb) eb (fun _ => rfl) (Nat.le_refl _)
    | j + 2, hx, _ => simp at hx

/-- make([]Trial, 6). -/
theorem wpList_make_six (w : World) {ops : Array Oper} {rest : List Oper} {o : Oper} {a : Act} {Q : Exit → Act → World → Prop}
    (hg : o.guard = none) (l c : Operand) (t : TypeId) (hop : o.op = Op.makeSlice t l c) (ht : Try.prog.underlying t = some (.slice 125)) (hl : a.eval l = .int .i64 6) (hc : a.eval c = .int .i64 6)
    (hK : wpList Try.prog ops Q rest (a.put o.dst (.slice (some ⟨w.heap.size, 0, none⟩) 6 6)) (w.alloc (.cells #[.bool false, .int .i64 0, .int .i64 0, .int .i64 0, .bool false, .int .i64 0, .int .i64 0, .int .i64 0, .bool false, .int .i64 0, .int .i64 0, .int .i64 0, .bool false, .int .i64 0, .int .i64 0, .int .i64 0, .bool false, .int .i64 0, .int .i64 0, .int .i64 0, .bool false, .int .i64 0, .int .i64 0, .int .i64 0] 125))) :
    wpList Try.prog ops Q (o :: rest) a w := by
  obtain ⟨i, hi, hz0, hz1, hz2⟩ := info_parts infoTrial
  refine wpList_plain hg fun K hK' => ?_
  have hrun := run_make (P := Try.prog) w t 125 i _ ht hi hz0 .i64 .i64 6 6 (by decide) (by decide) (by rw [hz2]; decide) (by decide)
  rw [hz1, show madeCells (Value.agg #[.bool false, .int .i64 0, .int .i64 0, .int .i64 0]).cells (Int.toNat 6 * 4) = #[.bool false, .int .i64 0, .int .i64 0, .int .i64 0, .bool false, .int .i64 0, .int .i64 0, .int .i64 0, .bool false, .int .i64 0, .int .i64 0, .int .i64 0, .bool false, .int .i64 0, .int .i64 0, .int .i64 0, .bool false, .int .i64 0, .int .i64 0, .int .i64 0, .bool false, .int .i64 0, .int .i64 0, .int .i64 0] by kernel_rfl] at hrun
  unfold Oper.wp
  simp [execOp, hop, hl, hc, hrun, Result.andThen]
  exact hK' _ _ hK

/-! ### The calls -/
/-- Few parts. -/
def smallB (c : Ce) : Bool := decide (c.heaps.length ≤ 1000) && decide (c.casks.length ≤ 1000) && decide (c.trials.length ≤ 1000) && c.casks.all fun l => decide (l.length ≤ 1000)
theorem smallB_small {c : Ce} (h : smallB c = true) : Small c := by
  simp only [smallB, Bool.and_eq_true, decide_eq_true_eq, List.all_eq_true] at h
  exact ⟨h.1.1.1, h.1.1.2, h.1.2, h.2⟩
theorem nCheck {f : Int} (c : Ce) (hf : fault c = f) (hsm : smallB c = true) (v : Value) (n : Nat) (w : World) (hn : n ≤ w.heap.size) (h : CeV (Lt n) w v c) :
    Calls Try.prog 57 #[v] w fun e w' => e = .returned (.int .i64 f) ∧ Below w.heap.size w w' := by
  have := check_any c v n w hn h (smallB_small hsm)
  rw [hf] at this
  exact this
theorem nBounds (vc : Value) (n : Nat) (w : World) (hn : n ≤ w.heap.size) (h : CeV (Lt n) w vc (twoC [])) :
    Calls Try.prog 21 #[vc] w (RetBounds [⟨40, 42⟩, ⟨60, 63⟩] [⟨50, 52⟩, ⟨55, 57⟩] 0 w) := by
  have := Bounds_ok (twoC []) vc n w hn h (twoC_small _ (by decide)) (by decide +kernel)
  rw [show heapB (twoC []) = [⟨40, 42⟩, ⟨60, 63⟩] by decide +kernel, show caskB (twoC []) = [⟨50, 52⟩, ⟨55, 57⟩] by decide +kernel] at this
  exact this
theorem nBoundsE (vc : Value) (n : Nat) (w : World) (hn : n ≤ w.heap.size) (h : CeV (Lt n) w vc (twoC [t1, t2])) :
    Calls Try.prog 21 #[vc] w (RetBounds [] [] 11 w) := by
  have e : askErr (twoC [t1, t2]) true = 11 := by decide +kernel
  have := Bounds_err (twoC [t1, t2]) vc n w hn h (twoC_small _ (by decide)) (by rw [e]; decide)
  rw [e] at this
  exact this
theorem nGraded (k g p e : Int) (h1 : askErr (twoC []) (gradedOk (twoC []) k g) = e) (h2 : (if e = 0 then gradedV (twoC []) k g else 0) = p) (vc : Value) (n : Nat) (w : World) (hn : n ≤ w.heap.size) (h : CeV (Lt n) w vc (twoC [])) :
    Calls Try.prog 23 #[vc, .int .i64 k, .int .i64 g] w (RetTwo p e w) := by
  have := Graded_any (twoC []) vc k g n w hn h (twoC_small _ (by decide))
  rw [h1, h2] at this
  exact this
theorem nDecide (g : Int) (r : List Int) (h1 : askErr (twoC []) (within g 0 100) = 0) (h2 : shortestS (decP (twoC []) g) 4 = some r) (vc : Value) (n : Nat) (w : World) (hn : n ≤ w.heap.size) (h : CeV (Lt n) w vc (twoC [])) :
    Calls Try.prog 69 #[vc, .int .i64 g] w (RetInts r 0 w) := Decide_ok (twoC []) vc g n w hn h (twoC_small _ (by decide)) h1 r h2
theorem nDecideE (vc : Value) (n : Nat) (w : World) (hn : n ≤ w.heap.size) (h : CeV (Lt n) w vc (twoC [])) :
    Calls Try.prog 69 #[vc, .int .i64 (-1)] w (RetInts [] 2 w) := by
  have e : askErr (twoC []) (within (-1) 0 100) = 2 := by decide +kernel
  have := Decide_err (twoC []) vc (-1) n w hn h (twoC_small _ (by decide)) (by rw [e]; decide)
  rw [e] at this
  exact this
theorem nBlendE (st : List Int) (wt g : Int) (h1 : askErr (twoC []) (blendOk (twoC []) st wt g) = 2) (hl : st.length ≤ 1000) (vc vs : Value) (n : Nat) (w : World) (hn : n ≤ w.heap.size) (h : CeV (Lt n) w vc (twoC [])) (hst : Ints (Lt n) w vs st) :
    Calls Try.prog 64 #[vc, vs, .int .i64 wt, .int .i64 g] w (RetInts [] 2 w) := by
  have := Blend_err (twoC []) vc st vs wt g n w hn h (twoC_small _ (by decide)) hst hl (by rw [h1]; decide)
  rw [h1] at this
  exact this
theorem nFirst (vc : Value) (n : Nat) (w : World) (hn : n ≤ w.heap.size) (h : CeV (Lt n) w vc (twoC [])) :
    Calls Try.prog 29 #[vc] w (RetTwo 0 7 w) := by
  have := First_ok (twoC []) vc n w hn h (by decide +kernel)
  rw [show firstOf (twoC []) = none by decide +kernel] at this
  exact this
theorem nTruth (ts : List Tl) (hts : ts.length ≤ 1000) (l : List Int) (hl : l.length ≤ 1000) (b : Bool) (h1 : proveTruth (twoC ts) l = b) (vc vl : Value) (n : Nat) (w : World) (hn : n ≤ w.heap.size) (h : CeV (Lt n) w vc (twoC ts)) (hi : Ints (Lt n) w vl l) :
    Calls Try.prog 58 #[vc, vl] w (RetB b w) := by
  have := proveTruth_any (twoC ts) vc vl l n w hn h (twoC_small _ hts) hi hl
  rw [h1] at this
  exact this
theorem nPlayE (vc vl : Value) (n : Nat) (w : World) (hn : n ≤ w.heap.size) (h : CeV (Lt n) w vc (twoC [])) (hi : Ints (Lt n) w vl [41, 64]) :
    Calls Try.prog 42 #[vc, vl] w (RetInts [] 2 w) := play_range (twoC []) vc vl [41, 64] n w hn h hi (by decide) (by decide +kernel) (by decide +kernel)
theorem nPD (ts : List Int) (b : Bool) (hl : ts.length ≤ 1000) (H0 : ∀ k, k < ts.length → ¬ (0 ≤ ts.getD k 0 ∧ ts.getD k 0 < 4 ∧ (0 < k → ts.getD (k - 1) 0 < ts.getD k 0)) → b = false) (H1 : RisesTo 4 ts ts.length → b = decP (twoC []) 51 ts) (vc vt : Value) (n : Nat) (w : World) (hn : n ≤ w.heap.size) (h : CeV (Lt n) w vc (twoC [])) (hi : Ints (Lt n) w vt ts) :
    Calls Try.prog 73 #[vc, .int .i64 51, vt] w (RetB b w) :=
  proveDecide_go (twoC []) vc 51 ts vt n w hn h (twoC_small _ (by decide)) hi hl (by decide +kernel) b H0 H1
theorem nPD1 (vc vt : Value) (n : Nat) (w : World) (hn : n ≤ w.heap.size) (h : CeV (Lt n) w vc (twoC [])) (hi : Ints (Lt n) w vt [0, 1]) :
    Calls Try.prog 73 #[vc, .int .i64 51, vt] w (RetB true w) := by
  refine nPD [0, 1] true (by decide) (fun k hk hn => absurd ?_ hn) (fun _ => by decide +kernel) vc vt n w hn h hi
  match k, hk with
  | 0, _ => simp
  | 1, _ => simp
theorem nPD2 (vc vt : Value) (n : Nat) (w : World) (hn : n ≤ w.heap.size) (h : CeV (Lt n) w vc (twoC [])) (hi : Ints (Lt n) w vt [0]) :
    Calls Try.prog 73 #[vc, .int .i64 51, vt] w (RetB false w) :=
  nPD [0] false (by decide) (fun _ _ _ => rfl) (fun _ => by decide +kernel) vc vt n w hn h hi
theorem nPD3 (vc vt : Value) (n : Nat) (w : World) (hn : n ≤ w.heap.size) (h : CeV (Lt n) w vc (twoC [])) (hi : Ints (Lt n) w vt [2, 4]) :
    Calls Try.prog 73 #[vc, .int .i64 51, vt] w (RetB false w) := by
  refine nPD [2, 4] false (by decide) (fun _ _ _ => rfl) (fun hr => ?_) vc vt n w hn h hi
  have := (hr 1 (by decide)).2.1
  simp at this
theorem nPDE (ts : List Int) (vc vt : Value) (n : Nat) (w : World) (hn : n ≤ w.heap.size) (h : CeV (Lt n) w vc (twoC [])) :
    Calls Try.prog 73 #[vc, .int .i64 101, vt] w (RetB false w) :=
  proveDecide_err (twoC []) vc 101 ts vt n w hn h (twoC_small _ (by decide)) (by decide +kernel)
theorem nPB1 (vc vs vw : Value) (n : Nat) (w : World) (hn : n ≤ w.heap.size) (h : CeV (Lt n) w vc (twoC [])) (hst : Ints (Lt n) w vs [10, 10]) (hi : Ints (Lt n) w vw [2, 10]) :
    Calls Try.prog 65 #[vc, vs, .int .i64 12, .int .i64 55, vw] w (RetB true w) := by
  refine proveBlend_go (twoC []) vc [10, 10] vs 12 55 [2, 10] vw n w hn h (twoC_small _ (by decide)) hst (by decide) hi (by decide) (by decide +kernel) true (fun h => ?_) (fun h => absurd (by decide) h) (fun k hk h => ?_) (fun _ _ _ => by decide +kernel)
  · exact absurd h (by decide +kernel)
  · match k, hk, h with
    | 0, _, h => simp at h
    | 1, _, h => simp at h
theorem nPB2 (vc vs vw : Value) (n : Nat) (w : World) (hn : n ≤ w.heap.size) (h : CeV (Lt n) w vc (twoC [])) (hst : Ints (Lt n) w vs [10, 10]) (hi : Ints (Lt n) w vw [3, 8]) :
    Calls Try.prog 65 #[vc, vs, .int .i64 12, .int .i64 55, vw] w (RetB false w) :=
  proveBlend_go (twoC []) vc [10, 10] vs 12 55 [3, 8] vw n w hn h (twoC_small _ (by decide)) hst (by decide) hi (by decide) (by decide +kernel) false (fun _ => rfl) (fun _ => rfl) (fun _ _ _ => rfl) (fun _ h _ => absurd h (by decide))
theorem nPB3 (vc vs vw : Value) (n : Nat) (w : World) (hn : n ≤ w.heap.size) (h : CeV (Lt n) w vc (twoC [])) (hst : Ints (Lt n) w vs [10, 10]) (hi : Ints (Lt n) w vw [1, 11]) :
    Calls Try.prog 65 #[vc, vs, .int .i64 12, .int .i64 55, vw] w (RetB false w) :=
  proveBlend_go (twoC []) vc [10, 10] vs 12 55 [1, 11] vw n w hn h (twoC_small _ (by decide)) hst (by decide) hi (by decide) (by decide +kernel) false (fun _ => rfl) (fun _ => rfl) (fun _ _ _ => rfl) (fun _ _ h => absurd (h 1 (by decide)) (by decide))
theorem nPBE (vc vs vw : Value) (n : Nat) (w : World) (hn : n ≤ w.heap.size) (h : CeV (Lt n) w vc (twoC [])) (hst : Ints (Lt n) w vs [10, 10]) :
    Calls Try.prog 65 #[vc, vs, .int .i64 0, .int .i64 0, vw] w (RetB false w) :=
  proveBlend_err (twoC []) vc [10, 10] vs 0 0 [0, 0] vw n w hn h (twoC_small _ (by decide)) hst (by decide) (by decide +kernel)
theorem nPDF (vc vt : Value) (n : Nat) (w : World) (hn : n ≤ w.heap.size) (h : CeV (Lt n) w vc (twoC [])) (_ : Ints (Lt n) w vt [2]) :
    Calls Try.prog 73 #[vc, .int .i64 101, vt] w (RetB false w) := nPDE [2] vc vt n w hn h
theorem nPBF (vc vs vw : Value) (n : Nat) (w : World) (hn : n ≤ w.heap.size) (h : CeV (Lt n) w vc (twoC [])) (hst : Ints (Lt n) w vs [10, 10]) (_ : Ints (Lt n) w vw [0, 0]) :
    Calls Try.prog 65 #[vc, vs, .int .i64 0, .int .i64 0, vw] w (RetB false w) := nPBE vc vs vw n w hn h hst
theorem tls_row {w : World} {b : Nat} {cs : Array Value} {ts : List Tl} (hr : w.heap[b]? = some (.cells cs 125 (0, 0))) (he : cs.toList = ts.flatMap fun t : Tl => [Value.bool t.cask, Value.int .i64 t.num, Value.int .i64 t.s.lo, Value.int .i64 t.s.hi]) :
    Tls (Lt w.heap.size) w (.slice (some ⟨b, 0, none⟩) ts.length ts.length) ts :=
  Sl.of_row (S := Lt w.heap.size) hr (Array.getElem?_eq_some_iff.1 hr).1 he (fun _ => rfl) (Nat.le_refl _)
end Go.Proofs.Ytjddcaimjofihaa
