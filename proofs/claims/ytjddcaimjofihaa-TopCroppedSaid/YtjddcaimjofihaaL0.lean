/- Contracts of the statements' small helpers; slices of slices; no condition. -/
import Derived.Test.YtjddcaimjofihaaB6
import Derived.Maps.AppendAt
namespace Go.Proofs.Ytjddcaimjofihaa
open Go.RowKit Go.Shelf
set_option maxRecDepth 100000

/-- A slice out of a block that is known whole. -/
theorem Sl.of_row {α : Type} {sz : Nat} {enc : α → List Value} {S : Nat → Prop} {w : World} {b : Nat} {t : TypeId} {l : List α} {cs : Array Value} (hr : w.heap[b]? = some (.cells cs t (0, 0))) (hb : S b) (he : cs.toList = l.flatMap enc) (henc : ∀ y, (enc y).length = sz) {c : Nat} (hc : l.length ≤ c) :
    Sl sz enc S w (.slice (some ⟨b, 0, none⟩) l.length c) l := by
  refine ⟨_, c, rfl, hc, .inr ⟨b, 0, rfl, hb, fun j x hx i u hi => ?_⟩⟩
  rw [Nat.zero_add, cell_of_row hr]
  have := flat_at sz enc henc l j x hx i u hi
  rw [← he] at this
  simpa using this
theorem Lss.of {S : Nat → Prop} {w : World} {v : Value} {ls : List (List Int)} {vs : List Value} (h : Vals S w v vs) (hl : vs.length = ls.length) (hs : ∀ (j : Nat) (x : Value) (l : List Int), vs[j]? = some x → ls[j]? = some l → Ints S w x l) : Lss S w v ls := ⟨vs, hl, h, hs⟩

theorem flat_inv {α : Type} (sz : Nat) (enc : α → List Value) (h : ∀ y, (enc y).length = sz) (l : List α) : ∀ (j : Nat) (u : Value), (l.flatMap enc)[j]? = some u → ∃ (q : Nat) (x : α) (i : Nat), l[q]? = some x ∧ (enc x)[i]? = some u ∧ j = q * sz + i := by
  induction l with
  | nil => intro j u hu; simp at hu
  | cons y l ih =>
    intro j u hu
    rw [List.flatMap_cons] at hu
    by_cases hlt : j < sz
    · rw [List.getElem?_append_left (by rw [h]; exact hlt)] at hu
      exact ⟨0, y, j, rfl, hu, by omega⟩
    · rw [List.getElem?_append_right (by rw [h]; omega), h] at hu
      obtain ⟨q, x, i, h1, h2, h3⟩ := ih (j - sz) u hu
      exact ⟨q + 1, x, i, by simpa using h1, h2, by rw [Nat.add_mul]; omega⟩
theorem Sl.cells {α : Type} {sz : Nat} {enc : α → List Value} {S : Nat → Prop} {w : World} {b off cap : Nat} {l : List α} (henc : ∀ y, (enc y).length = sz) (h : Sl sz enc S w (.slice (some ⟨b, off, none⟩) l.length cap) l) :
    ∀ j u, (l.flatMap enc)[j]? = some u → w.cell? ((⟨b, off, none⟩ : Addr).add j) = some u := by
  intro j u hu
  obtain ⟨q, x, i, h1, h2, rfl⟩ := flat_inv sz enc henc l j u hu
  obtain ⟨a, cap', he, -, h3⟩ := h
  cases he
  rcases h3 with rfl | ⟨b', off', he, -, hc⟩
  · simp at h1
  · cases he
    rw [Addr.add_lit]
    have := hc q x h1 i u h2
    rw [← this]
    congr 2
    omega

/-- append(s, l...), the slice s the call's own, whatever the source. -/
theorem wp_appendL {P : Program} {o : Oper} {a : Act} {K : Act → World → Prop} {Q : Exit → Act → World → Prop} {w : World} {α : Type} (enc : α → List Value) (s x : Operand) (t : TypeId)
    (ho : o.op = .call { callee := .builtin .append, args := #[s, x], argTypes := #[t, t] }) (base : Nat) (e : TypeId) (z : Value) (sz bytes : Nat)
    (ht : P.underlying t = some (.slice e)) (hinfo : (P.info? e).map (fun i => (i.zero, i.size, i.bytes)) = some (some z, sz, bytes)) (hzs : z.cells.size = sz) (hsz : 0 < sz)
    (henc : ∀ y, (enc y).length = sz) (henc1 : ∀ y, ∀ u ∈ enc y, u.oneCell' = true) (v : Value) (l : List α) (hs : a.eval s = v) (hown : Own base e sz enc w v l)
    (S : Nat → Prop) (sv : Value) (l2 : List α) (hx : a.eval x = sv) (hsl : Sl sz enc S w sv l2)
    (hlen : l.length + l2.length ≤ 1000000) (hby : bytes ≤ 1000) (hbase : base ≤ w.heap.size)
    (h : ∀ v' w', Own base e sz enc w' v' (l ++ l2) → w.grownBy w' v.ownBlock → K (a.put o.dst v') w') : o.wp P a w K Q := by
  obtain ⟨i, hi, hz0, hz1, hz2⟩ := info_parts hinfo
  have hsl' := hsl
  obtain ⟨A, cap, rfl, hcap, hor⟩ := hsl.at
  have hnone : l2 = [] → (∃ c, a.eval x = .slice none 0 c) → o.wp P a w K Q := fun hn ⟨c, hc⟩ => by
    have hrun : (Builtin.append_ #[t, t] o.type #[v, .slice none 0 c]).run P w = .ok v w := by
      rcases hown.2 with ⟨rfl, h0⟩ | ⟨g, cap, cur, rfl, _, _, hnc, _⟩
      · simp [Builtin.append_, run_underlying ht, sizeOf, typeInfo, hi, Builtin.lenOf, Builtin.firstCells]
      · simp [Builtin.append_, run_underlying ht, sizeOf, typeInfo, hi, Builtin.lenOf, Builtin.firstCells, hnc, storeCells]
    unfold Oper.wp execOp
    simp only [ho, resolve, invoke, builtin, Sem.run_bind, Sem.run_pure, Result.andThen_ok, List.map_toArray, List.map_cons, List.map_nil, hs, hc, hrun]
    exact h v w (by rw [hn, List.append_nil]; exact hown) (World.grownBy.refl w _)
  cases A with
  | none =>
    have hn : l2 = [] := by
      rcases hor with h | ⟨b, off, h, -⟩
      · exact h
      · cases h
    subst hn
    exact hnone rfl ⟨cap, hx⟩
  | some p =>
    have hcells : ∀ j u, (l2.flatMap enc)[j]? = some u → w.cell? (p.add j) = some u := by
      rcases hor with hn | ⟨b, off, hp, -⟩
      · subst hn; intro j u hu; simp at hu
      · cases hp; exact hsl'.cells henc
    refine wp_append_own w s x t ho base e i z sz bytes ht hi hz0 hz1 hz2 hzs hsz v l.length (l.flatMap enc) hs hown p l2.length cap (l2.flatMap enc) hx (flat_length sz enc henc l2) hcells (fun u hu => ?_) (by unfold maxLen; omega) ?_ hbase fun v' w' h1 h2 _ => h v' w' ?_ h2
    · obtain ⟨y, _, hy⟩ := List.mem_flatMap.1 hu
      exact henc1 y u hy
    · have := Nat.mul_le_mul hlen hby; omega
    · unfold Own
      rw [List.flatMap_append, List.length_append]
      exact h1
theorem wpList_appendL {P : Program} {ops : Array Oper} {rest : List Oper} {o : Oper} {a : Act} {Q : Exit → Act → World → Prop} {w : World} {α : Type} (enc : α → List Value) (hgd : o.guard = none) (s x : Operand) (t : TypeId)
    (ho : o.op = .call { callee := .builtin .append, args := #[s, x], argTypes := #[t, t] }) (base : Nat) (e : TypeId) (z : Value) (sz bytes : Nat)
    (ht : P.underlying t = some (.slice e)) (hinfo : (P.info? e).map (fun i => (i.zero, i.size, i.bytes)) = some (some z, sz, bytes)) (hzs : z.cells.size = sz) (hsz : 0 < sz)
    (henc : ∀ y, (enc y).length = sz) (henc1 : ∀ y, ∀ u ∈ enc y, u.oneCell' = true) (v : Value) (l : List α) (hs : a.eval s = v) (hown : Own base e sz enc w v l)
    (S : Nat → Prop) (sv : Value) (l2 : List α) (hx : a.eval x = sv) (hsl : Sl sz enc S w sv l2)
    (hlen : l.length + l2.length ≤ 1000000) (hby : bytes ≤ 1000) (hbase : base ≤ w.heap.size)
    (h : ∀ v' w', Own base e sz enc w' v' (l ++ l2) → w.grownBy w' v.ownBlock → wpList P ops Q rest (a.put o.dst v') w') : wpList P ops Q (o :: rest) a w :=
  wpList_plain hgd fun _ hK => wp_appendL enc s x t ho base e z sz bytes ht hinfo hzs hsz henc henc1 v l hs hown S sv l2 hx hsl hlen hby hbase fun v' w' h2 h3 => hK _ _ (h v' w' h2 h3)
/-- A literal slice with nothing in it is the call's own. -/
theorem Own.empty {α : Type} {base : Nat} {e : TypeId} {sz : Nat} {enc : α → List Value} (w : World) (hb : base ≤ w.heap.size) : Own base e sz enc (w.alloc (.cells #[] e)) (.slice (some ⟨w.heap.size, 0, none⟩) 0 0) ([] : List α) := by
  have := World.ownsRow_lit (base := base) (e := e) (size := sz) w #[] 0 hb (by unfold maxLen; omega) (by simp)
  simpa [Own] using this

theorem list_any (l : List Int) (v : Value) (n : Nat) (w : World) (hn : n ≤ w.heap.size) (h : Ints (Lt n) w v l) (hll : l.length ≤ 1000) :
    Calls Try.prog 41 #[v] w fun e w' => ∃ v', e = .returned v' ∧ Own w.heap.size 3 1 encI w' v' l ∧ Below w.heap.size w w' := by
  have h' := h
  obtain ⟨a, cap, rfl, -, -⟩ := h.open1
  have HS := hid (h'.below (below_alloc1 hn (.cells #[] 3)))
  clear h h'
  go_enter Try.func41, Try.ntmps41
  go_wp2_with (at_builtin; refine wpList_appendL encI rfl _ _ 47 rfl w.heap.size 3 _ 1 8 ints_under infoInt rfl (by decide) encI_length encI_one _ [] rfl (Own.empty w (Nat.le_refl _)) _ _ l rfl HS.out (by simp; omega) (by decide) (by simp) ?_; intro v' w1 hown hgrow)
  go_ret
  exact ⟨v', rfl, by simpa using hown, (below_alloc1 (Nat.le_refl _) (Obj.cells #[] 3)).grown hgrow (by simp) (fun k hk => by cases hk; exact Nat.le_refl _)⟩

theorem to_any (lo hi : Int) (w : World) :
    Calls Try.prog 83 #[.agg #[.int .i64 lo, .int .i64 hi]] w fun e w' => e = .returned (.agg #[.int .i64 lo, .int .i64 hi]) ∧ Below w.heap.size w w' := by
  go_enter Try.func83, Try.ntmps83
  go_wp2
  refine bodyPost_ret (v := .agg #[.int .i64 lo, .int .i64 hi]) (by simp [results, Try.results83, go_sem]) rfl ⟨rfl, below_alloc2 (Nat.le_refl _) _ _⟩

theorem between_any (lo hi : Int) (w : World) :
    Calls Try.prog 76 #[.int .i64 lo, .int .i64 hi] w fun e w' => e = .returned (.agg #[.int .i64 lo, .int .i64 hi]) ∧ Below w.heap.size w w' := by
  go_enter Try.func76, Try.ntmps76
  go_wp2
  refine bodyPost_ret (v := .agg #[.int .i64 lo, .int .i64 hi]) (by simp [results, Try.results76, go_sem]) rfl ⟨rfl, below_alloc1 (Nat.le_refl _) _⟩

theorem row_set4 {w : World} {g : Nat} {x y z u : Value} {t : TypeId} {f : Nat × Nat} (h : w.heap[g]? = some (.cells #[x, y, z, u] t f)) (a b c d : Value) :
    ((((w.setCell ⟨g, 0, none⟩ a).setCell ⟨g, 1, none⟩ b).setCell ⟨g, 2, none⟩ c).setCell ⟨g, 3, none⟩ d).heap[g]? = some (.cells #[a, b, c, d] t f) :=
  row_set (row_set (row_set (row_set h 0 a) 1 b) 2 c) 3 d
theorem below_set4 {n : Nat} {w0 w : World} {g : Nat} (h : Below n w0 w) (hg : n ≤ g) (a b c d : Value) : Below n w0 ((((w.setCell ⟨g, 0, none⟩ a).setCell ⟨g, 1, none⟩ b).setCell ⟨g, 2, none⟩ c).setCell ⟨g, 3, none⟩ d) :=
  (below_set3 h hg a b c).setCell (p := ⟨g, 3, none⟩) hg d

theorem first_any (w : World) :
    Calls Try.prog 77 #[] w fun e w' => e = .returned (.agg #[.bool true, .int .i64 0, .int .i64 52, .int .i64 52]) ∧ Below w.heap.size w w' := by
  go_enter Try.func77, Try.ntmps77
  go_wp2_with (go_at_call 76; refine (between_any _ _ _).mono ?_; rintro e w' ⟨rfl, hb⟩; obtain ⟨hc, hf⟩ := bcell hb; have hz : w.heap.size < w'.heap.size := (by have := hb.size; simp at this; omega))
  have hr := row_set4 ((hb.block w.heap.size (by simp)).trans (heap_new _ _)) (.bool true) (.int .i64 0) (.int .i64 52) (.int .i64 52)
  have hB := below_set4 (below_after (below_alloc1 (Nat.le_refl _) _) hb (Nat.le_refl _)) (Nat.le_refl w.heap.size) (.bool true) (.int .i64 0) (.int .i64 52) (.int .i64 52)
  generalize ((((w'.setCell ⟨w.heap.size, 0, none⟩ (.bool true)).setCell ⟨w.heap.size, 1, none⟩ (.int .i64 0)).setCell ⟨w.heap.size, 2, none⟩ (.int .i64 52)).setCell ⟨w.heap.size, 3, none⟩ (.int .i64 52)) = U at *
  have q0 := cell_of_row hr 0
  have q1 := cell_of_row hr 1
  have q2 := cell_of_row hr 2
  have q3 := cell_of_row hr 3
  simp only [List.getElem?_toArray, List.getElem?_cons_zero, List.getElem?_cons_succ] at q0 q1 q2 q3
  exact bodyPost_ret (v := .agg #[.bool true, .int .i64 0, .int .i64 52, .int .i64 52]) (by simp only [results, Try.results77]; simp [go_sem, q0, q1, q2, q3]) rfl ⟨rfl, hB⟩

theorem wrong_any (w : World) :
    Calls Try.prog 78 #[] w fun e w' => e = .returned (.agg #[.bool false, .int .i64 0, .int .i64 40, .int .i64 40]) ∧ Below w.heap.size w w' := by
  go_enter Try.func78, Try.ntmps78
  go_wp2_with (go_at_call 76; refine (between_any _ _ _).mono ?_; rintro e w' ⟨rfl, hb⟩; obtain ⟨hc, hf⟩ := bcell hb; have hz : w.heap.size < w'.heap.size := (by have := hb.size; simp at this; omega))
  have hr := row_set4 ((hb.block w.heap.size (by simp)).trans (heap_new _ _)) (.bool false) (.int .i64 0) (.int .i64 40) (.int .i64 40)
  have hB := below_set4 (below_after (below_alloc1 (Nat.le_refl _) _) hb (Nat.le_refl _)) (Nat.le_refl w.heap.size) (.bool false) (.int .i64 0) (.int .i64 40) (.int .i64 40)
  generalize ((((w'.setCell ⟨w.heap.size, 0, none⟩ (.bool false)).setCell ⟨w.heap.size, 1, none⟩ (.int .i64 0)).setCell ⟨w.heap.size, 2, none⟩ (.int .i64 40)).setCell ⟨w.heap.size, 3, none⟩ (.int .i64 40)) = U at *
  have q0 := cell_of_row hr 0
  have q1 := cell_of_row hr 1
  have q2 := cell_of_row hr 2
  have q3 := cell_of_row hr 3
  simp only [List.getElem?_toArray, List.getElem?_cons_zero, List.getElem?_cons_succ] at q0 q1 q2 q3
  exact bodyPost_ret (v := .agg #[.bool false, .int .i64 0, .int .i64 40, .int .i64 40]) (by simp only [results, Try.results78]; simp [go_sem, q0, q1, q2, q3]) rfl ⟨rfl, hB⟩

def twoC (ts : List Tl) : Ce := ⟨[⟨40, 42⟩, ⟨60, 63⟩], [[10, 10], [5, 15]], ts⟩
def RetC (c : Ce) (W : World) (e : Ending) (w' : World) : Prop := ∃ v, e = .returned v ∧ CeV (Lt w'.heap.size) w' v c ∧ Below W.heap.size W w'
theorem two_any (ts : List Tl) (v : Value) (n : Nat) (w : World) (hn : n ≤ w.heap.size) (h : Tls (Lt n) w v ts) :
    Calls Try.prog 75 #[v] w (RetC (twoC ts) w) := by
  have h' := h
  obtain ⟨ta, tc, rfl, -, -⟩ := h.at
  go_enter Try.func75, Try.ntmps75
  go_wp2_with fail
  refine (between_any _ _ _).mono ?_
  rintro e w1 ⟨rfl, hb1⟩
  have hr1 := (hb1.block w.heap.size (by simp)).trans (heap_new _ _)
  have hB1 := below_after (below_alloc1 (Nat.le_refl _) _) hb1 (Nat.le_refl w.heap.size)
  have hs1 : w.heap.size < w1.heap.size := by have := hb1.size; simp at this; omega
  clear hb1
  go_wp2_with fail
  refine (between_any _ _ _).mono ?_
  rintro e w2 ⟨rfl, hb2⟩
  have hr2 := (hb2.block w.heap.size hs1).trans hr1
  have hB2 := below_after hB1 hb2 (Nat.le_refl w.heap.size)
  have hs2 : w.heap.size < w2.heap.size := by have := hb2.size; omega
  clear hb2 hr1 hB1 hs1
  have c0 := cell_of_row hr2 0
  have c1 := cell_of_row hr2 1
  have c2 := cell_of_row hr2 2
  have f0 := frozen_of_row hr2 0
  have f1 := frozen_of_row hr2 1
  have f2 := frozen_of_row hr2 2
  simp only [List.getElem?_toArray, List.getElem?_cons_zero, List.getElem?_cons_succ] at c0 c1 c2
  have HR := hid hr2
  clear hr2
  have l1 : w.heap.size < w2.heap.size + 1 + 1 := by omega
  have l2 : w.heap.size < w2.heap.size + 1 + 1 + 1 := by omega
  go_wp2_with fail
  clear c0 c1 c2 f0 f1 f2 l1 l2
  have hr := row_set3 HR.out (.slice (some ⟨w2.heap.size, 0, none⟩) 2 2) (.slice (some ⟨w2.heap.size + 1 + 1 + 1, 0, none⟩) 2 2) (.slice ta ts.length tc)
  have hB := below_set3 hB2 (Nat.le_refl w.heap.size) (.slice (some ⟨w2.heap.size, 0, none⟩) 2 2) (.slice (some ⟨w2.heap.size + 1 + 1 + 1, 0, none⟩) 2 2) (.slice ta ts.length tc)
  have hsz : (((w2.setCell ⟨w.heap.size, 0, none⟩ (.slice (some ⟨w2.heap.size, 0, none⟩) 2 2)).setCell ⟨w.heap.size, 1, none⟩ (.slice (some ⟨w2.heap.size + 1 + 1 + 1, 0, none⟩) 2 2)).setCell ⟨w.heap.size, 2, none⟩ (.slice ta ts.length tc)).heap.size = w2.heap.size := by simp [World.setCell]
  generalize (((w2.setCell ⟨w.heap.size, 0, none⟩ (.slice (some ⟨w2.heap.size, 0, none⟩) 2 2)).setCell ⟨w.heap.size, 1, none⟩ (.slice (some ⟨w2.heap.size + 1 + 1 + 1, 0, none⟩) 2 2)).setCell ⟨w.heap.size, 2, none⟩ (.slice ta ts.length tc)) = U at *
  rw [← hsz] at hr ⊢
  obtain ⟨V, hV⟩ : ∃ V, V = (((U.alloc (Obj.cells #[.int .i64 40, .int .i64 42, .int .i64 60, .int .i64 63] 58)).alloc (Obj.cells #[.int .i64 10, .int .i64 10] 3)).alloc (Obj.cells #[.int .i64 5, .int .i64 15] 3)).alloc (Obj.cells #[.slice (some ⟨U.heap.size + 1, 0, none⟩) 2 2, .slice (some ⟨U.heap.size + 1 + 1, 0, none⟩) 2 2] 47) := ⟨_, rfl⟩
  rw [← hV]
  have HP := hid (hV ▸ heap_four U _ _ _ _)
  have hVb : Below U.heap.size U V := by rw [hV]; exact below_alloc4 (Nat.le_refl _) _ _ _ _
  have hVs : V.heap.size = U.heap.size + 4 := by rw [hV]; simp
  have hrV := (hVb.block w.heap.size (by omega)).trans hr
  have hBV := below_after hB hVb (Nat.le_refl _)
  clear hV
  have q0 := cell_of_row hrV 0
  have q1 := cell_of_row hrV 1
  have q2 := cell_of_row hrV 2
  simp only [List.getElem?_toArray, List.getElem?_cons_zero, List.getElem?_cons_succ] at q0 q1 q2
  have hQ : RetC (twoC ts) w (.returned (.agg #[.slice (some ⟨U.heap.size, 0, none⟩) 2 2, .slice (some ⟨U.heap.size + 1 + 1 + 1, 0, none⟩) 2 2, .slice ta ts.length tc])) V := by
    refine ⟨_, rfl, ?_, hBV⟩
    obtain ⟨p0, p1, p2, p3⟩ := HP.out
    refine ⟨_, _, _, rfl, ?_, ?_, (h'.below (hBV.mono hn)).le (by omega)⟩
    · exact Sl.of_row (S := Lt V.heap.size) (sz := 2) (enc := fun r : Rg => [Value.int .i64 r.lo, Value.int .i64 r.hi]) (l := [(⟨40, 42⟩ : Rg), ⟨60, 63⟩]) p0 (by show _ < V.heap.size; omega) rfl (fun _ => rfl) (Nat.le_refl _)
    · refine Lss.of (vs := [.slice (some ⟨U.heap.size + 1, 0, none⟩) 2 2, .slice (some ⟨U.heap.size + 1 + 1, 0, none⟩) 2 2]) (Sl.of_row (S := Lt V.heap.size) (sz := 1) (enc := fun v : Value => [v]) (l := [.slice (some ⟨U.heap.size + 1, 0, none⟩) 2 2, .slice (some ⟨U.heap.size + 1 + 1, 0, none⟩) 2 2]) p3 (by show _ < V.heap.size; omega) rfl (fun _ => rfl) (Nat.le_refl _)) rfl ?_
      intro j x l hx hl
      match j, hx, hl with
      | 0, hx, hl => cases hx; cases hl; exact Sl.of_row (S := Lt V.heap.size) (sz := 1) (enc := fun n : Int => [Value.int .i64 n]) (l := [(10 : Int), 10]) p1 (by show _ < V.heap.size; omega) rfl (fun _ => rfl) (Nat.le_refl _)
      | 1, hx, hl => cases hx; cases hl; exact Sl.of_row (S := Lt V.heap.size) (sz := 1) (enc := fun n : Int => [Value.int .i64 n]) (l := [(5 : Int), 15]) p2 (by show _ < V.heap.size; omega) rfl (fun _ => rfl) (Nat.le_refl _)
      | j + 2, hx, _ => simp at hx
  exact bodyPost_ret (v := .agg #[.slice (some ⟨U.heap.size, 0, none⟩) 2 2, .slice (some ⟨U.heap.size + 1 + 1 + 1, 0, none⟩) 2 2, .slice ta ts.length tc]) (by simp only [results, Try.results75]; simp [go_sem, q0, q1, q2]) rfl hQ
end Go.Proofs.Ytjddcaimjofihaa

namespace Go.Proofs.Ytjddcaimjofihaa
open Go.RowKit Go.Shelf
set_option maxRecDepth 100000

theorem below_drewN {B : Nat} {a w : World} (h : Below B a w) (n : Nat) : Below B a (w.drewN n) := ⟨h.os, h.tape, h.output, h.size, h.block⟩

def sameB (a b : List Int) : Bool := a == b
theorem sameB_cons (x y : Int) (a b : List Int) : sameB (x :: a) (y :: b) = ((x == y) && sameB a b) := rfl
theorem sameB_iff {a b : List Int} : sameB a b = true ↔ a = b := by simp [sameB]

theorem same_any (a b : List Int) (va vb : Value) (n : Nat) (w : World) (h : Ints (Lt n) w va a) (g : Ints (Lt n) w vb b) (hn : n ≤ w.heap.size) (ha : a.length ≤ 1000) (_ : b.length ≤ 1000) :
    Calls Try.prog 32 #[va, vb] w fun e w' => e = .returned (.bool (sameB a b)) ∧ Below w.heap.size w w' := by
  obtain ⟨pa, ca, rfl, -, oa⟩ := h.open1
  obtain ⟨pb, cb, rfl, -, ob⟩ := g.open1
  clear h g
  have HOA := hid oa
  have HOB := hid ob
  clear oa ob
  by_cases hl : a.length = b.length
  · have HR := hid (show ((a.drop 0).length = (b.drop 0).length) by simpa using hl)
    have hne : ((a.length : Int) != (b.length : Int)) = false := by simp [hl]
    have HL := hid hl
    clear hl
    go_enter Try.func32, Try.ntmps32
    go_wp2
    go_loopw [5] (fun i wr => ∃ k : Nat, k ≤ a.length ∧ i = .int .i64 k ∧ Hid (sameB (a.drop k) (b.drop k) = sameB a b) ∧ Below w.heap.size w wr) (fun i _ => a.length - (intOf i).toNat)
    case atStart => exact ⟨0, by omega, rfl, hid rfl, Below.refl _ _⟩
    case round =>
      obtain ⟨k, hk, rfl, HI, hbw⟩ := hrel
      by_cases hlt : k < a.length
      · have hlt2 : k < b.length := by have := HL.out; omega
        rcases HOA.out with hnil | ⟨ba, offa, rfl, hba, hca⟩
        · rw [hnil] at hlt; simp at hlt
        rcases HOB.out with hnil | ⟨bb, offb, rfl, hbb, hcb⟩
        · rw [hnil] at hlt2; simp at hlt2
        have y0 := hca k hlt
        have y1 := hcb k hlt2
        have hba' : ba < n := hba
        have hbb' : bb < n := hbb
        have z0 := (hbw.cell (p := ⟨ba, offa + k, none⟩) (by show ba < _; omega)).trans y0
        have z1 := (hbw.cell (p := ⟨bb, offb + k, none⟩) (by show bb < _; omega)).trans y1
        have HD := hid (show sameB (a.drop k) (b.drop k) = ((a[k] == b[k]) && sameB (a.drop (k + 1)) (b.drop (k + 1))) by rw [List.drop_eq_getElem_cons hlt, List.drop_eq_getElem_cons hlt2]; rfl)
        clear hca hcb y0 y1
        generalize a[k] = x at *
        generalize b[k] = y at *
        by_cases hxy : x = y
        · have e1 : (x == y) = true := by simp [hxy]
          have e2 : (x != y) = false := by simp [hxy]
          have HE1 := hid e1
          clear hxy
          go_wp2
          go_quiet (fail)
          go_wp2
          go_roundw
          case rel => exact ⟨k + 1, by omega, by go_num, hid (by rw [← HI.out, HD.out, HE1.out]; simp), below_drewN hbw _⟩
          case measure => simp [intOf]; omega
        · have e1 : (x == y) = false := by simp [hxy]
          have e2 : (x != y) = true := by simp [hxy]
          have HE1 := hid e1
          clear hxy
          go_wp2
          go_quiet (fail)
          go_wp2
          go_ret
          exact ⟨ret_bool (by rw [← HI.out, HD.out, HE1.out]; simp), below_drewN hbw _⟩
      · have HE := hid (show sameB a b = true by rw [← HI.out, List.drop_eq_nil_of_le (by omega), List.drop_eq_nil_of_le (by have := HL.out; omega)]; rfl)
        go_wp2
        go_ret
        exact ⟨ret_bool HE.out.symm, hbw⟩
  · have hne : ((a.length : Int) != (b.length : Int)) = true := by simp; omega
    have HE := hid (show sameB a b = false by rw [Bool.eq_false_iff]; intro h; exact hl (by rw [sameB_iff.1 h]))
    clear hl
    go_enter Try.func32, Try.ntmps32
    go_wp2
    go_ret
    exact ⟨ret_bool HE.out.symm, Below.refl _ _⟩
end Go.Proofs.Ytjddcaimjofihaa

namespace Go.Proofs.Ytjddcaimjofihaa
open Go.RowKit Go.Shelf

abbrev encV : Value → List Value := fun v => [v]
/-- The value v is a slice of the call's own, in a block from base on; its elements are slices in blocks from base on, which hold the numbers of ls. -/
def OwnL (base : Nat) (w : World) (v : Value) (ls : List (List Int)) : Prop :=
  ∃ vs, Own base 47 1 encV w v vs ∧ vs.length = ls.length ∧ ∀ (j : Nat) (x : Value) (l : List Int), vs[j]? = some x → ls[j]? = some l → Ints (fun b => base ≤ b ∧ b < w.heap.size ∧ v.ownBlock ≠ some b) w x l

theorem OwnL.nil {base : Nat} {w : World} : OwnL base w (.slice none 0 0) [] := ⟨[], Own.nil, rfl, fun j x l h => by simp at h⟩
theorem OwnL.lss {base : Nat} {w : World} {v : Value} {ls : List (List Int)} (h : OwnL base w v ls) : Lss (fun b => base ≤ b ∧ b < w.heap.size) w v ls := by
  obtain ⟨vs, h1, h2, h3⟩ := h
  exact ⟨vs, h2, h1.sl (fun _ => rfl), fun j x l hx hl => (h3 j x l hx hl).mono fun b hb => ⟨hb.1, hb.2.1⟩⟩
theorem OwnL.chg {base : Nat} {A B : World} {v : Value} {ls : List (List Int)} {T : Nat → Prop} (h : OwnL base A v ls) (hc : Chg T A B) (hT : ∀ b, base ≤ b → ¬ T b) : OwnL base B v ls := by
  obtain ⟨vs, h1, h2, h3⟩ := h
  refine ⟨vs, h1.chg hc hT, h2, fun j x l hx hl => ((h3 j x l hx hl).keep ⟨hc.size, fun b hb => hc.block b hb.2.1 (hT b hb.1)⟩).mono fun b hb => ⟨hb.1, Nat.lt_of_lt_of_le hb.2.1 hc.size, hb.2.2⟩⟩
theorem OwnL.below {base : Nat} {A B : World} {v : Value} {ls : List (List Int)} (h : OwnL base A v ls) (hb : Below A.heap.size A B) : OwnL base B v ls :=
  h.chg (T := fun _ => False) (chg_of_below hb) (fun _ _ h => h)
theorem OwnL.open {base : Nat} {w : World} {v : Value} {ls : List (List Int)} (h : OwnL base w v ls) : ∃ a c, v = .slice a ls.length c := by
  obtain ⟨a, c, rfl, -⟩ := h.lss.open
  exact ⟨a, c, rfl⟩
theorem OwnL.block {base : Nat} {w : World} {v : Value} {ls : List (List Int)} (h : OwnL base w v ls) : ∀ k, v.ownBlock = some k → base ≤ k ∧ k < w.heap.size := by
  obtain ⟨vs, h1, -⟩ := h
  exact h1.block

theorem lists_under : Try.prog.underlying 23 = some (.slice 47) := by kernel_rfl
theorem infoInts : (Try.prog.info? 47).map (fun i => (i.zero, i.size, i.bytes)) = some (some (.slice none 0 0), 1, 24) := by kernel_rfl

/-- append(s, x), s a slice of slices of the call's own. -/
theorem wp_append1L {o : Oper} {a : Act} {K : Act → World → Prop} {Q : Exit → Act → World → Prop} {w : World} (s x : Operand) (base : Nat)
    (ho : o.op = .call { callee := .builtin .append, args := #[s, x], argTypes := #[23, 23] })
    (v : Value) (ls : List (List Int)) (hs : a.eval s = v) (hown : OwnL base w v ls) (g c : Nat) (xv : Value) (l : List Int)
    (hx : a.eval x = .slice (some ⟨g, 0, none⟩) 1 c) (hnews : w.cell? ⟨g, 0, none⟩ = some xv) (hxl : Ints (fun b => base ≤ b ∧ b < w.heap.size ∧ v.ownBlock ≠ some b) w xv l)
    (hlen : ls.length ≤ 100000) (hbase : base ≤ w.heap.size)
    (h : ∀ v' w', OwnL base w' v' (ls ++ [l]) → w.grownBy w' v.ownBlock → K (a.put o.dst v') w') : o.wp Try.prog a w K Q := by
  obtain ⟨i, hi, hz0, hz1, hz2⟩ := info_parts infoInts
  obtain ⟨vs, h1, h2, h3⟩ := hown
  have hone : xv.oneCell' = true := by
    obtain ⟨_, _, rfl, -, -⟩ := hxl.open1
    rfl
  obtain ⟨v', w', hrun, hr2, hr3, -, hr5⟩ := run_append_own_at (P := Try.prog) w base 23 o.type 47 i (.slice none 0 0) 1 24 lists_under hi hz0 hz1 hz2 rfl (by omega) v vs.length (vs.flatMap encV) h1 ⟨g, 0, none⟩ 1 c [xv] rfl (fun j u hj => by
    cases j with
    | zero => simp at hj; subst hj; simpa [Addr.add] using hnews
    | succ j => simp at hj) (fun u hu => by rw [List.mem_singleton.1 hu]; exact hone) (by unfold maxLen; omega) (by omega) hbase
  unfold Oper.wp execOp
  simp only [ho, resolve, invoke, builtin, Sem.run_bind, Sem.run_pure, Result.andThen_ok, List.map_toArray, List.map_cons, List.map_nil, hs, hx, hrun]
  refine h v' w' ⟨vs ++ [xv], ?_, by simp [h2], fun j y m hy hm => ?_⟩ hr3
  · unfold Own
    rw [List.flatMap_append, List.length_append]
    simpa using hr2
  · have hkeep : ∀ (z : Value) (q : List Int), Ints (fun b => base ≤ b ∧ b < w.heap.size ∧ v.ownBlock ≠ some b) w z q → Ints (fun b => base ≤ b ∧ b < w'.heap.size ∧ v'.ownBlock ≠ some b) w' z q := fun z q hz => by
      refine (hz.keep ⟨hr3.size, fun b hb => hr3.block b hb.2.1 (fun e => hb.2.2 e.symm)⟩).mono fun b hb => ⟨hb.1, Nat.lt_of_lt_of_le hb.2.1 hr3.size, fun e => ?_⟩
      rcases hr5 with h5 | h5
      · exact hb.2.2 (h5 ▸ e)
      · rw [h5] at e; cases e; exact Nat.lt_irrefl _ hb.2.1
    by_cases hj : j < vs.length
    · rw [List.getElem?_append_left hj] at hy
      rw [List.getElem?_append_left (by omega)] at hm
      exact hkeep y m (h3 j y m hy hm)
    · rw [List.getElem?_append_right (by omega)] at hy
      rw [List.getElem?_append_right (by omega)] at hm
      have hj2 := (List.getElem?_eq_some_iff.1 hy).1
      have hj0 : j - vs.length = 0 := by simp at hj2; omega
      have hj1 : j - ls.length = 0 := by omega
      rw [hj0] at hy
      rw [hj1] at hm
      simp at hy hm
      subst hy; subst hm
      exact hkeep _ _ hxl
end Go.Proofs.Ytjddcaimjofihaa
