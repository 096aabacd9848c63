/- Contracts of package cask: asked, bounds, Bounds, Graded; no condition. -/
import Derived.Test.YtjddcaimjofihaaB3
import Derived.ChangeKeysEq
import Derived.Laws.EntriesVeiled
namespace Go.Proofs.Ytjddcaimjofihaa
open Go.RowKit
set_option maxRecDepth 100000

theorem three_under : Try.prog.underlying 140 = some (.array 3 3) := by kernel_rfl
theorem int_under : Try.prog.underlying 3 = some (.int .i64) := by kernel_rfl
theorem int_cells : Try.prog.cellsOf 3 = 1 := by kernel_rfl

theorem run_part_three (w : World) (a0 a1 a2 : Int) :
    (part 3 #[.int .i64 a0, .int .i64 a1, .int .i64 a2] 0).run Try.prog w = .ok (.int .i64 a0) w ∧ (part 3 #[.int .i64 a0, .int .i64 a1, .int .i64 a2] 1).run Try.prog w = .ok (.int .i64 a1) w ∧
    (part 3 #[.int .i64 a0, .int .i64 a1, .int .i64 a2] 2).run Try.prog w = .ok (.int .i64 a2) w := by
  simp [part, isAgg, run_underlying int_under]

theorem run_three (w : World) (a0 a1 a2 u0 u1 u2 : Int) :
    (Op.equalIn 10000 140 (.agg #[.int .i64 a0, .int .i64 a1, .int .i64 a2]) (.agg #[.int .i64 u0, .int .i64 u1, .int .i64 u2])).run Try.prog w = .ok (a0 == u0 && (a1 == u1 && a2 == u2)) w := by
  obtain ⟨i, hi, -⟩ := info_parts infoInt
  rw [show (10000 : Nat) = 9999 + 1 from rfl, run_equalIn_array w 9999 _ _ three_under hi, int_cells]
  obtain ⟨p0, p1, p2⟩ := run_part_three w a0 a1 a2
  obtain ⟨q0, q1, q2⟩ := run_part_three w u0 u1 u2
  have e : ∀ a u : Int, (Op.equalIn 9999 3 (.int .i64 a) (.int .i64 u)).run Try.prog w = .ok (a == u) w := fun a u => run_equalIn_int w 9998 _ _ _ _ _ int_under
  simp only [show List.range 3 = [0, 1, 2] from rfl, Op.eqItems, Sem.run_bind, Nat.mul_one, p0, p1, p2, q0, q1, q2, e, Result.andThen_ok, Sem.run_ite, Sem.run_pure]
  cases h0 : (a0 == u0) <;> cases h1 : (a1 == u1) <;> cases h2 : (a2 == u2) <;> simp
end Go.Proofs.Ytjddcaimjofihaa

namespace Go.Proofs.Ytjddcaimjofihaa
open Go.RowKit Go.Shelf
set_option maxRecDepth 100000
attribute [local go_sem] Oper.semAt_some run_three

/-! ### No truth stands twice -/

theorem rangeList_nodup (r : Rg) : (rangeList r).Nodup := by
  unfold rangeList List.Nodup
  rw [List.pairwise_map]
  exact List.Pairwise.imp (fun {a b} h e => h (by omega)) List.nodup_range
theorem comps_nodup (hs : List Rg) : (comps hs).Nodup := by
  induction hs with
  | nil => simp [comps]
  | cons r hs ih =>
    unfold comps
    unfold List.Nodup
    rw [List.pairwise_flatMap]
    refine ⟨fun x _ => ?_, (rangeList_nodup r).imp fun {a b} hab => ?_⟩
    · rw [List.pairwise_map]
      exact List.Pairwise.imp (fun {a b} h e => h (List.cons.inj e).2) ih
    · intro t h1 t2 h2 he
      obtain ⟨u, -, rfl⟩ := List.mem_map.1 h1
      obtain ⟨v, -, rfl⟩ := List.mem_map.1 h2
      exact hab (List.cons.inj he).1
theorem truthsOf_nodup (c : Ce) (out : List Int) : (truthsOf c out).Nodup := by
  simp only [truthsOf, truthsFrom, List.nil_append, List.map_id']
  exact (comps_nodup _).filter _
theorem comps_length (hs : List Rg) (hr : ∀ r ∈ hs, 1 ≤ size r) : ∀ n : Int, 1 ≤ n → manyTo 2001 hs n ≤ 2000 → n * (comps hs).length = manyTo 2001 hs n := by
  induction hs with
  | nil => intro n _ _; simp [comps, manyTo]
  | cons r hs ih =>
    intro n hn hm
    have h1 := hr r (by simp)
    have key : ∀ (l : List Rg), (∀ r ∈ l, 1 ≤ size r) → ∀ m : Int, 1 ≤ m → m ≤ 2001 → m ≤ manyTo 2001 l m := by
      intro l
      induction l with
      | nil => intro _ m _ _; simp [manyTo]
      | cons q l ihl =>
        intro hq m hm1 hm2
        have hq1 := hq q (by simp)
        have h2 : m ≤ m * size q := by have := Int.mul_le_mul_of_nonneg_left hq1 (show 0 ≤ m by omega); simpa using this
        have := ihl (fun r h => hq r (by simp [h])) (min (m * size q) 2001) (by omega) (by omega)
        simp only [manyTo]
        omega
    have h2 : n ≤ n * size r := by have := Int.mul_le_mul_of_nonneg_left h1 (show 0 ≤ n by omega); simpa using this
    have h3 := key hs (fun q h => hr q (by simp [h])) (min (n * size r) 2001) (by omega) (by omega)
    simp only [manyTo] at hm ⊢
    have h4 : min (n * size r) 2001 = n * size r := by omega
    rw [h4] at hm ⊢
    have := ih (fun q h => hr q (by simp [h])) (n * size r) (by omega) hm
    rw [← this]
    have h5 : ((comps (r :: hs)).length : Int) = size r * (comps hs).length := by
      simp only [comps, List.length_flatMap, List.length_map, List.map_const', List.sum_replicate_nat, rangeList_length]
      simp only [Int.natCast_mul]
      rw [Int.toNat_of_nonneg (by omega)]
    rw [h5, Int.mul_assoc]
theorem truthsOf_few {c : Ce} (hf : fault c = 0) (out : List Int) : (truthsOf c out).length ≤ 2000 := by
  obtain ⟨hg, hm⟩ := fault_good hf
  obtain ⟨-, hr, -⟩ := hg.facts
  have h1 := comps_length c.heaps (fun r h => by have := hr r h; simp only [size]; omega) 1 (by omega) hm
  have h2 : (truthsOf c out).length ≤ (comps c.heaps).length := by
    simp only [truthsOf, truthsFrom, List.nil_append, List.map_id']
    exact List.length_filter_le _ _
  omega

theorem pad3_inj {a b : List Int} (h : a.length = b.length) (h3 : a.length ≤ 3) (e : pad3 a = pad3 b) : a = b := by
  simp only [pad3, List.cons.injEq, and_true] at e
  refine List.ext_getElem h fun i h1 h2 => ?_
  obtain ⟨e0, e1, e2⟩ := e
  have : i = 0 ∨ i = 1 ∨ i = 2 := by omega
  have hh : a.getD i 0 = b.getD i 0 := by rcases this with rfl | rfl | rfl <;> assumption
  simpa [List.getD_eq_getElem?_getD, List.getElem?_eq_getElem h1, List.getElem?_eq_getElem h2] using hh
theorem last_new {c : Ce} {pre : List (List Int)} {x y : List Int} (h3 : c.heaps.length ≤ 3) (hx : pre ++ [x] <+: truthsOf c []) (hy : y ∈ pre) : pad3 y ≠ pad3 x := fun e => by
  have hn := (truthsOf_nodup c []).sublist hx.sublist
  have hl : ∀ t ∈ pre ++ [x], t.length = c.heaps.length := fun t ht => listed_length c.heaps t (mem_truthsOf.1 (hx.subset ht)).1
  have h1 := hl y (by simp [hy])
  have h2 := hl x (by simp)
  have := pad3_inj (h1.trans h2.symm) (by omega) e
  subst this
  rw [List.nodup_append] at hn
  exact hn.2.2 y hy y (by simp) rfl

/-! ### A cellar at work -/

def encP (t : List Int) : List Value := (pad3 t).map (.int .i64)
structure WorkAt (S : Nat → Prop) (w : World) (b : Nat) (hv kv tv sv : Value) (c : Ce) (T : List (List Int)) : Prop where
  at_ : S b
  c0 : w.cell? ⟨b, 0, none⟩ = some hv
  c1 : w.cell? ⟨b, 1, none⟩ = some kv
  c2 : w.cell? ⟨b, 2, none⟩ = some tv
  c3 : w.cell? ⟨b, 3, none⟩ = some sv
  cellar : CeV S w (.agg #[hv, kv, tv]) c
  truth : Sl 3 encP S w sv T
def WorkV (S : Nat → Prop) (w : World) (v : Value) (c : Ce) (T : List (List Int)) : Prop := ∃ b hv kv tv sv, v = .pointer (some ⟨b, 0, none⟩) ∧ WorkAt S w b hv kv tv sv c T

/-- What asked answers. -/
def askErr (c : Ce) (fb : Bool) : Int := if fault c ≠ 0 then fault c else if fb then (if truthsOf c [] = [] then 11 else 0) else 2
def AskPost (c : Ce) (fb : Bool) (W : World) (e : Ending) (w' : World) : Prop :=
  Below W.heap.size W w' ∧ ∃ v, e = .returned (.tuple #[v, .int .i64 (askErr c fb)]) ∧ (askErr c fb ≠ 0 → v = .pointer none) ∧ (askErr c fb = 0 → WorkV (Lt w'.heap.size) w' v c (truthsOf c []))

theorem asked_fault (c : Ce) (vc : Value) (fb : Bool) (g : Nat) (cap : Array Value) (n : Nat) (w : World) (hn : n ≤ w.heap.size) (h : CeV (Lt n) w vc c) (hsm : Small c) (hf : fault c ≠ 0) :
    Calls Try.prog 80 #[vc, .func (.func g) #[] cap] w fun e w' => AskPost c fb w e w' := by
  have h' := h
  obtain ⟨ha, hc, ka, kc, ta, tc, rfl, -, -, -⟩ := h.open
  have hF : (fault c != 0) = true := by simpa using hf
  have HA := hid (show askErr c fb = fault c by simp [askErr, hf])
  have HF := hid hf
  generalize hfc : fault c = fc at *
  have HC := hid hfc
  clear hf hfc
  go_enter Try.func80, Try.ntmps80
  go_wp2_with (go_at_call 57; refine (check_any c _ n _ (by simp; omega) (h'.below (below_alloc1 hn _)) hsm).mono ?_; rw [HC.out]; rintro e w2 ⟨rfl, hw2⟩)
  go_ret2
  exact ⟨below_after (below_alloc1 (Nat.le_refl _) _) hw2 (Nat.le_refl _), Value.pointer none, by rw [HA.out]; rfl, fun _ => rfl, fun h => absurd (HA.out.symm.trans h) HF.out⟩

theorem asked_not (c : Ce) (vc : Value) (g : Nat) (cap : Array Value) (n : Nat) (w : World) (hn : n ≤ w.heap.size) (h : CeV (Lt n) w vc c) (hsm : Small c) (hf : fault c = 0)
    (eg : ∀ args w, (callFunc g args).run Try.prog w = .ok (.enter g args) w) (hfine : ∀ w2, Below w.heap.size w w2 → Calls Try.prog g cap w2 fun e w3 => e = .returned (.bool false) ∧ Below w2.heap.size w2 w3) :
    Calls Try.prog 80 #[vc, .func (.func g) #[] cap] w fun e w' => AskPost c false w e w' := by
  have h' := h
  obtain ⟨ha, hc, ka, kc, ta, tc, rfl, -, -, -⟩ := h.open
  have HA := hid (show askErr c false = 2 by simp [askErr, hf])
  have HF := hid hf
  go_enter Try.func80, Try.ntmps80
  go_wp2_with (first | (go_at_call 57; refine (check_any c _ n _ (by simp; omega) (h'.below (below_alloc1 hn _)) hsm).mono ?_; rw [HF.out]; rintro e w2 ⟨rfl, hw2⟩) | (refine (hfine _ (below_after (below_alloc1 (Nat.le_refl _) _) hw2 (Nat.le_refl _))).mono ?_; rintro e w3 ⟨rfl, hw3⟩))
  go_ret2
  exact ⟨below_after (below_after (below_alloc1 (Nat.le_refl _) _) hw2 (Nat.le_refl _)) hw3 (by have := hw2.size; simp at this; omega), Value.pointer none, by rw [HA.out]; rfl, fun _ => rfl, fun h => absurd (HA.out.symm.trans h) (by decide)⟩

theorem Own.chg {α : Type} {base : Nat} {e : TypeId} {sz : Nat} {enc : α → List Value} {A B : World} {v : Value} {l : List α} {T : Nat → Prop} (h : Own base e sz enc A v l) (hc : Chg T A B) (hT : ∀ b, base ≤ b → ¬ T b) : Own base e sz enc B v l := by
  obtain ⟨h1, h2⟩ := h
  refine ⟨h1, ?_⟩
  rcases h2 with h2 | ⟨g, cap, cur, rfl, hb, hh, h3⟩
  · exact .inl h2
  · exact .inr ⟨g, cap, cur, rfl, hb, (hc.block g (Array.getElem?_eq_some_iff.1 hh).1 (hT g hb)).trans hh, h3⟩
theorem heap_at {w : World} {n : Nat} (h : w.heap.size = n) (o : Obj) : (w.alloc o).heap[n]? = some o := by subst h; exact heap_new w o
theorem heap_four (w : World) (a b c d : Obj) : ((((w.alloc a).alloc b).alloc c).alloc d).heap[w.heap.size]? = some a ∧ ((((w.alloc a).alloc b).alloc c).alloc d).heap[w.heap.size + 1]? = some b ∧
    ((((w.alloc a).alloc b).alloc c).alloc d).heap[w.heap.size + 1 + 1]? = some c ∧ ((((w.alloc a).alloc b).alloc c).alloc d).heap[w.heap.size + 1 + 1 + 1]? = some d := by
  refine ⟨?_, ?_, ?_, heap_at (by simp) d⟩
  · rw [Below.heap_alloc _ _ _ (by simp; omega), Below.heap_alloc _ _ _ (by simp; omega), Below.heap_alloc _ _ _ (by simp)]; exact heap_new _ _
  · rw [Below.heap_alloc _ _ _ (by simp), Below.heap_alloc _ _ _ (by simp)]; exact heap_new2 _ _ _
  · rw [Below.heap_alloc _ _ _ (by simp)]; exact heap_at (by simp) c
theorem kept_alloc {S : Nat → Prop} (A : World) (o : Obj) (h : ∀ b, S b → b < A.heap.size) : Kept S A (A.alloc o) :=
  ⟨rfl, rfl, rfl, by simp, fun b hb => Below.heap_alloc _ _ _ (h b hb)⟩
/-- What the appending region reads. -/
def AskS (s x : Nat) (v : Value) (u0 u1 u2 : Int) (W : World) : Prop :=
  W.cell? ⟨s + 1, 0, none⟩ = some (.pointer (some ⟨s, 0, none⟩)) ∧ W.cell? ⟨s, 3, none⟩ = some v ∧ W.cell? ⟨x, 0, none⟩ = some (.int .i64 u0) ∧ W.cell? ⟨x, 1, none⟩ = some (.int .i64 u1) ∧ W.cell? ⟨x, 2, none⟩ = some (.int .i64 u2)
theorem AskS.alloc {s x : Nat} {v : Value} {u0 u1 u2 : Int} {W : World} (h : AskS s x v u0 u1 u2 W) (hs : s + 1 < W.heap.size) (hx : x < W.heap.size) (o : Obj) : AskS s x v u0 u1 u2 (W.alloc o) := by
  obtain ⟨h0, h1, h2, h3, h4⟩ := h
  have hb := below_alloc1 (Nat.le_refl W.heap.size) o
  exact ⟨(hb.cell (p := ⟨s + 1, 0, none⟩) hs).trans h0, (hb.cell (p := ⟨s, 3, none⟩) (by show s < _; omega)).trans h1, (hb.cell (p := ⟨x, 0, none⟩) hx).trans h2, (hb.cell (p := ⟨x, 1, none⟩) hx).trans h3, (hb.cell (p := ⟨x, 2, none⟩) hx).trans h4⟩
/-- Between the rounds: the truths pre lie at work. -/
structure AskI (w0 : World) (s : Nat) (hv kv tv : Value) (pre : List (List Int)) (W : World) : Prop where
  below : Below w0.heap.size w0 W
  size : s + 9 ≤ W.heap.size
  ptr : W.heap[s + 1]? = some (.cells #[.pointer (some ⟨s, 0, none⟩)] 127 (0, 0))
  work : ∃ sv, W.heap[s]? = some (.cells #[hv, kv, tv, sv] 178 (0, 0)) ∧ Own (s + 9) 140 3 encP W sv pre
theorem AskI.chg {w0 : World} {s : Nat} {hv kv tv : Value} {pre : List (List Int)} {A B : World} (h : AskI w0 s hv kv tv pre A) (hw : w0.heap.size ≤ s) (hc : Chg (fun b => s + 4 ≤ b ∧ b < s + 9) A B) : AskI w0 s hv kv tv pre B := by
  obtain ⟨h1, h2, h3, sv, h4, h5⟩ := h
  refine ⟨h1.trans (hc.below h1.size fun b hb => by omega), by have := hc.size; omega, (hc.block _ (by omega) (by omega)).trans h3, sv, (hc.block _ (by omega) (by omega)).trans h4, h5.chg hc (fun b hb => by omega)⟩
/-- append(s, y), the slice s the call's own: one operation. -/
theorem wp_append1 {P : Program} {o : Oper} {a : Act} {K : Act → World → Prop} {Q : Exit → Act → World → Prop} {w : World} {α : Type} (enc : α → List Value) (s x : Operand) (t : TypeId)
    (ho : o.op = .call { callee := .builtin .append, args := #[s, x], argTypes := #[t, t] }) (base : Nat) (e : TypeId) (z : Value) (sz bytes : Nat)
    (ht : P.underlying t = some (.slice e)) (hinfo : (P.info? e).map (fun i => (i.zero, i.size, i.bytes)) = some (some z, sz, bytes)) (hzs : z.cells.size = sz) (hsz : 0 < sz)
    (henc : ∀ y, (enc y).length = sz) (henc1 : ∀ y, ∀ u ∈ enc y, u.oneCell' = true) (v : Value) (l : List α) (hs : a.eval s = v) (hown : Own base e sz enc w v l)
    (g c : Nat) (y : α) (hx : a.eval x = .slice (some ⟨g, 0, none⟩) 1 c) (hnews : ∀ i u, (enc y)[i]? = some u → w.cell? ⟨g, i, none⟩ = some u)
    (hlen : l.length + 1 ≤ 1000000) (hby : bytes ≤ 1000) (hbase : base ≤ w.heap.size)
    (h : ∀ v' w', Own base e sz enc w' v' (l ++ [y]) → w.grownBy w' v.ownBlock → K (a.put o.dst v') w') : o.wp P a w K Q := by
  obtain ⟨i, hi, hz0, hz1, hz2⟩ := info_parts hinfo
  refine wp_append_own w s x t ho base e i z sz bytes ht hi hz0 hz1 hz2 hzs hsz v l.length (l.flatMap enc) hs hown ⟨g, 0, none⟩ 1 c (enc y) hx (by rw [henc]; omega) ?_ (henc1 y) (by unfold maxLen; omega) ?_ hbase fun v' w' h1 h2 _ => h v' w' ?_ h2
  · intro j u hu
    have := hnews j u hu
    unfold Addr.add
    split
    · next h0 => rw [h0] at this; exact this
    · simpa using this
  · have := Nat.mul_le_mul hlen hby; omega
  · unfold Own
    rw [List.flatMap_append, List.length_append]
    simpa using h1
theorem infoThree : (Try.prog.info? 140).map (fun i => (i.zero, i.size, i.bytes)) = some (some (.agg #[.int .i64 0, .int .i64 0, .int .i64 0]), 3, 24) := by kernel_rfl
theorem encP_one (y : List Int) : ∀ u ∈ encP y, u.oneCell' = true := by
  intro u hu
  simp only [encP, List.mem_map] at hu
  obtain ⟨i, -, rfl⟩ := hu
  rfl

theorem AskS.grown {s x : Nat} {v v0 : Value} {u0 u1 u2 : Int} {W W' : World} (h : AskS s x v u0 u1 u2 W) (hs : s + 1 < W.heap.size) (hx : x < W.heap.size) (hg : W.grownBy W' v0.ownBlock) (hb : ∀ k, v0.ownBlock = some k → s + 1 < k ∧ k < x) : AskS s x v u0 u1 u2 W' := by
  obtain ⟨h0, h1, h2, h3, h4⟩ := h
  have key : ∀ b o, b < W.heap.size → (b ≤ s + 1 ∨ b = x) → W'.cell? ⟨b, o, none⟩ = W.cell? ⟨b, o, none⟩ := fun b o hl hh => World.cell?_of_block (hg.block b hl fun e => by have := hb b e.symm; omega)
  exact ⟨(key _ _ hs (by omega)).trans h0, (key _ _ (by omega) (by omega)).trans h1, (key _ _ hx (by omega)).trans h2, (key _ _ hx (by omega)).trans h3, (key _ _ hx (by omega)).trans h4⟩
/-- Behind a round. -/
theorem ask_pushed {w0 W2 D W3 : World} {s n : Nat} {hv kv tv v v' : Value} {pre : List (List Int)} {x : List Int} {o : Obj} (hw : w0.heap.size < s) (hn : n ≤ w0.heap.size) (hsz : s + 9 ≤ W2.heap.size)
    (hown : Own (s + 9) 140 3 encP W2 v pre) (hptr : W2.heap[s + 1]? = some (.cells #[.pointer (some ⟨s, 0, none⟩)] 127 (0, 0))) (hwork : W2.heap[s]? = some (.cells #[hv, kv, tv, v] 178 (0, 0)))
    (hB : Below w0.heap.size w0 W2) (hD : Below W2.heap.size W2 D) (hown3 : Own (s + 9) 140 3 encP W3 v' (pre ++ [x])) (hg : (D.alloc o).grownBy W3 v.ownBlock) :
    Kept (fun b => (b < n ∨ b = s + 1 + 1 ∨ b = s + 1 + 1 + 1) ∨ s + 4 ≤ b ∧ b < s + 4 + 2 + 3) W2 (W3.setCell ⟨s, 3, none⟩ v') ∧ AskI w0 s hv kv tv (pre ++ [x]) (W3.setCell ⟨s, 3, none⟩ v') ∧ W3.frozen? ⟨s, 3, none⟩ = false := by
  have hDa : Below W2.heap.size W2 (D.alloc o) := hD.trans ((below_alloc1 (Nat.le_refl _) o).mono hD.size)
  have h1 : Below (s + 9) W2 W3 := (hown.below hDa).grown hg (hDa.mono hsz) (Nat.le_refl _) (by have := hD.size; simp; omega)
  have h2 : ∀ b, b < s + 9 → b ≠ s → (W3.setCell ⟨s, 3, none⟩ v').heap[b]? = W2.heap[b]? := fun b hb hbs => (Below.heap_setCell _ _ _ _ (by show b ≠ s; exact hbs)).trans (h1.block b hb)
  refine ⟨⟨h1.os, h1.tape, h1.output, by have := h1.size; simp [World.setCell]; omega, fun b hb => h2 b (by omega) (by omega)⟩, ?_⟩
  refine ⟨⟨(hB.trans (h1.mono (by omega))).setCell (p := ⟨s, 3, none⟩) (by show w0.heap.size ≤ s; omega) _, by have := h1.size; simp [World.setCell]; omega, (h2 (s + 1) (by omega) (by omega)).trans hptr, v', ?_, ?_⟩, frozen_of_row ((h1.block s (by omega)).trans hwork) 3⟩
  · exact row_set ((h1.block s (by omega)).trans hwork) 3 v'
  · exact hown3.chg (chg_setCell (T := fun b => b = s) W3 (p := ⟨s, 3, none⟩) rfl v') (fun b hb => by omega)
theorem encP_length (t : List Int) : (encP t).length = 3 := rfl

set_option maxHeartbeats 2000000 in
theorem asked_fine (c : Ce) (vc : Value) (g : Nat) (cap : Array Value) (n : Nat) (w : World) (hn : n ≤ w.heap.size) (h : CeV (Lt n) w vc c) (hsm : Small c) (hf : fault c = 0)
    (eg : ∀ args w, (callFunc g args).run Try.prog w = .ok (.enter g args) w) (hfine : ∀ w2, Below w.heap.size w w2 → Calls Try.prog g cap w2 fun e w3 => e = .returned (.bool true) ∧ Below w2.heap.size w2 w3) :
    Calls Try.prog 80 #[vc, .func (.func g) #[] cap] w fun e w' => AskPost c true w e w' := by
  have h' := h
  obtain ⟨ha, hc, ka, kc, ta, tc, rfl, -, -, -⟩ := h.open
  have HA := hid (show askErr c true = if truthsOf c [] = [] then 11 else 0 by simp [askErr, hf])
  have HF := hid hf
  have HG := hid (fault_good hf).1
  clear hf
  have hwf : ∀ k, Fence.wide.fn k := fun _ => trivial
  have hwd : Fence.wide.depth = none := rfl
  refine (callsIn_wide (n := 0)).1 ?_
  refine callsIn_of_wp_marks Try.func80 rfl trivial ?_ rfl
  simp only [Try.ntmps80, List.size_toArray, List.length_cons, List.length_nil, Nat.reduceAdd, Nat.reduceSub, Array.replicate_succ, Array.replicate_zero, List.push_toArray, List.append_toArray, List.nil_append, List.cons_append]
  gi_wp2_with (first
    | (gi_at_call 57; refine (callsIn_wide.2 (check_any c _ n _ (by simp; omega) (h'.below (below_alloc1 hn _)) hsm)).mono ?_; rw [HF.out]; rintro e w2 ⟨rfl, hw2⟩; have hb2 := below_after (below_alloc1 (Nat.le_refl _) _) hw2 (Nat.le_refl _); have hz2 : w.heap.size < w2.heap.size := (by have := hw2.size; simp at this; omega); obtain ⟨hc2, hf2⟩ := bcell hw2)
    | (gi_at_call 129; refine (callsIn_wide.2 (truths_any _ _ _ _ _ _ _)).mono ?_; rintro e w4 ⟨rfl, hw4⟩))
  refine (callsIn_wide.2 (hfine _ hb2)).mono ?_
  rintro e w3 ⟨rfl, hw3⟩
  have hb3 := below_after hb2 hw3 (Nat.le_refl _)
  have hz3 : w.heap.size < w3.heap.size := by have := hw3.size; omega
  obtain ⟨hc3, hf3⟩ := bcell hw3
  gi_wp2_with (gi_at_call 129; refine (callsIn_wide.2 (truths_any _ _ _ _ _ _ _)).mono ?_; rintro e w4 ⟨rfl, hw4⟩)
  obtain ⟨q0, q1, q2, q3⟩ := hw4 ▸ heap_four w3 _ _ _ _
  have hs4 : w4.heap.size = w3.heap.size + 4 := by rw [← hw4]; simp
  have hb4 : Below w3.heap.size w3 w4 := by rw [← hw4]; exact below_alloc4 (Nat.le_refl _) _ _ _ _
  clear hw4
  have hB4 : Below w.heap.size w w4 := below_after hb3 hb4 (Nat.le_refl _)
  clear hb4 hc3 hf3 hw3 hc2 hf2 hw2 hb2 hfine eg
  generalize w3.heap.size = s at *
  clear hb3
  have hit := truths_iter c HG.out [] (by simp) (.slice ha c.heaps.length hc) (.slice ka c.casks.length kc) (.slice ta c.trials.length tc) (.slice none 0 0) n (s + 1 + 1) (s + 1 + 1 + 1) w4 (by omega) (by omega) (by omega) (h'.below (hB4.mono hn)) Sl.nil
    (cell_of_row q2 0) (cell_of_row q2 1) (cell_of_row q2 2) (cell_of_row q3 0)
  have HN := hid (truthsOf_nodup c [])
  have HL := hid (truthsOf_few HF.out [])
  have HM := hid (fun t ht => listed_length c.heaps t (mem_truthsOf.1 (show t ∈ truthsOf c [] from ht)).1)
  have hmx : Try.prog.follows .mixedOrders = true := by kernel_rfl
  refine wpIn_iter (by rfl) (enters_of Try.func170 (by kernel_rfl) rfl) hit (fun _ => rfl) (fun b hb => by omega)
    (fun pre W => AskI w s (.slice ha c.heaps.length hc) (.slice ka c.casks.length kc) (.slice ta c.trials.length tc) pre W)
    (fun cd q W => False)
    ?_ ?_ ?_ ?_ ?_ ?_
  · intro pre A B hA hc
    exact hA.chg (by omega) (hc.mono fun b hb => by omega)
  · exact fun _ _ _ _ h _ => h
  · intro A hc hz
    exact ⟨hB4.trans (hc.below hB4.size fun b hb => by omega), by omega, (hc.block _ (by omega) (by omega)).trans q1, _, (hc.block _ (by omega) (by omega)).trans q0, Own.nil⟩
  · intro l pre x W hI hx hl hlt
    obtain ⟨hBW, hsW, hptr, sv, hwork, hown⟩ := hI
    simp only [encT]
    obtain ⟨u0, hu0⟩ : ∃ u, u = x.getD 0 0 := ⟨_, rfl⟩
    obtain ⟨u1, hu1⟩ : ∃ u, u = x.getD 1 0 := ⟨_, rfl⟩
    obtain ⟨u2, hu2⟩ : ∃ u, u = x.getD 2 0 := ⟨_, rfl⟩
    have HU := hid (show encP x = [.int .i64 u0, .int .i64 u1, .int .i64 u2] by rw [hu0, hu1, hu2]; rfl)
    rw [← hu0, ← hu1, ← hu2]
    clear hu0 hu1 hu2
    gi_wp2
    refine ⟨kept_alloc _ _ (fun b hb => by omega), fun W2 hc hs => ?_⟩
    have hsz : W2.heap.size = W.heap.size + 1 := by rw [hs]; simp
    have b2 : ∀ b, b < W.heap.size → b ≠ l → W2.heap[b]? = W.heap[b]? := fun b hb hbl => (hc.block b (by simp; omega) hbl).trans (Below.heap_alloc _ _ _ hb)
    have hown2 := (hown.below (below_alloc1 (Nat.le_refl _) (Obj.cells #[.int .i64 u0, .int .i64 u1, .int .i64 u2] 140))).chg hc (fun b hb => by omega)
    have hbox : W2.heap[W.heap.size]? = some (.cells #[.int .i64 u0, .int .i64 u1, .int .i64 u2] 140 (0, 0)) := (hc.block _ (by simp) (by omega)).trans (heap_new _ _)
    have hptr2 := (b2 (s + 1) (by omega) (by omega)).trans hptr
    have hwork2 := (b2 s (by omega) (by omega)).trans hwork
    have hB2 : Below w.heap.size w W2 := hBW.trans ((below_alloc1 (Nat.le_refl _) _).mono hBW.size |>.trans (hc.below (by simp; have := hBW.size; omega) (fun b hb => by omega)))
    have HOB := hid hown.block
    have hkey := hid (⟨hsz, hown2, hbox, hptr2, hwork2, hB2⟩ : _ ∧ _ ∧ _ ∧ _ ∧ _ ∧ _)
    obtain ⟨a, cap', rfl, -, hor⟩ := hown2.slLt encP_length
    obtain ⟨m, hm⟩ : ∃ m, m = pre.length := ⟨_, rfl⟩
    rw [← hm] at hown2 hwork2 hkey HOB
    have p0 := cell_of_row hptr2 0
    have p1 := cell_of_row hwork2 3
    have x0 := cell_of_row hbox 0
    have x1 := cell_of_row hbox 1
    have x2 := cell_of_row hbox 2
    have p0f := frozen_of_row hptr2 0
    have p1f := frozen_of_row hwork2 3
    simp only [List.getElem?_toArray, List.getElem?_cons_zero, List.getElem?_cons_succ] at p0 p1 x0 x1 x2
    clear hptr hwork hown hbox hptr2 hwork2 hB2 hc b2 hBW hit
    by_cases hpre : pre = []
    · obtain rfl : m = 0 := by rw [hm, hpre]; rfl
      have HMM := hid hm
      clear hor hm hpre
      gi_wp2
      refine wpIn_round_quiet (by kernel_rfl) (by kernel_rfl) (by rintro ⟨a, w, h⟩; exact h) (noDefer_of (by kernel_rfl)) ?_
      repeat (go_big_quiet_step (fail))
      refine wpQuiet_nil ?_
      rintro _ ⟨dk, rfl⟩
      gi_wp2
      refine wpIn_region_round hmx (by rintro ⟨a, w, h⟩; exact h) (noDefer_of (by kernel_rfl)) fun D hD => wpAny_of_till (z := 10) (S := AskS s W.heap.size (.slice a 0 cap') u0 u1 u2) _ _ _ _ ?_
      have hDB : Below W2.heap.size W2 D := by rw [hD]; exact ((Below.refl _ _).trans ⟨rfl, rfl, rfl, Nat.le_refl _, fun _ _ => rfl⟩ : Below W2.heap.size W2 (W2.drewN dk)).drew
      have HDs := hid (show D.heap.size = W2.heap.size by rw [hD]; rfl)
      clear hD
      have hS0 : AskS s W.heap.size (.slice a 0 cap') u0 u1 u2 D := ⟨(hDB.cell (p := ⟨s + 1, 0, none⟩) (by show s + 1 < _; omega)).trans p0, (hDB.cell (p := ⟨s, 3, none⟩) (by show s < _; omega)).trans p1, (hDB.cell (p := ⟨W.heap.size, 0, none⟩) (by show W.heap.size < _; omega)).trans x0, (hDB.cell (p := ⟨W.heap.size, 1, none⟩) (by show W.heap.size < _; omega)).trans x1, (hDB.cell (p := ⟨W.heap.size, 2, none⟩) (by show W.heap.size < _; omega)).trans x2⟩
      refine wpTill_take (i := 0) (v := .pointer (some ⟨s, 0, none⟩)) rfl (by kernel_rfl) (by kernel_rfl) (by kernel_rfl) (by kernel_rfl) (fun _ _ _ h => h) (by rfl) ?_ hS0 ?_
      · rintro w ⟨g0, g1, g2, g3, g4⟩
        go_simp
      simp only [Act.put, List.setIfInBounds_toArray]
      refine wpTill_take (i := 1) (v := .pointer (some ⟨s, 0, none⟩)) rfl (by kernel_rfl) (by kernel_rfl) (by kernel_rfl) (by kernel_rfl) (fun _ _ _ h => h) (by rfl) ?_ hS0 ?_
      · rintro w ⟨g0, g1, g2, g3, g4⟩
        go_simp
      simp only [Act.put]
      refine wpTill_take (i := 5) (v := .agg #[.int .i64 u0, .int .i64 u1, .int .i64 u2]) rfl (by kernel_rfl) (by kernel_rfl) (by kernel_rfl) (by kernel_rfl) (fun _ _ _ h => h) (by rfl) ?_ hS0 ?_
      · rintro w ⟨g0, g1, g2, g3, g4⟩
        go_simp
      simp only [Act.put]
      refine wpTill_take (i := 2) (v := .pointer (some ⟨s, 0, none⟩)) rfl (by kernel_rfl) (by kernel_rfl) (by kernel_rfl) (by kernel_rfl) (fun _ _ _ h => h) (by rfl) ?_ hS0 ?_
      · rintro w ⟨g0, g1, g2, g3, g4⟩
        go_simp
      simp only [Act.put]
      refine wpTill_take (i := 3) (v := .pointer (some ⟨s, 3, none⟩)) rfl (by kernel_rfl) (by kernel_rfl) (by kernel_rfl) (by kernel_rfl) (fun _ _ _ h => h) (by rfl) ?_ hS0 ?_
      · rintro w ⟨g0, g1, g2, g3, g4⟩
        go_simp
      simp only [Act.put]
      refine wpTill_take (i := 4) (v := (.slice a 0 cap')) rfl (by kernel_rfl) (by kernel_rfl) (by kernel_rfl) (by kernel_rfl) (fun _ _ _ h => h) (by rfl) ?_ hS0 ?_
      · rintro w ⟨g0, g1, g2, g3, g4⟩
        go_simp
      simp only [Act.put]
      refine wpTill_only (i := 6) rfl (by kernel_rfl) (by rfl) ?_
      go_simp
      have hDs := HDs.out
      refine ⟨hS0.alloc (by omega) (by omega) _, ?_⟩
      refine wpTill_only (i := 7) rfl (by kernel_rfl) (by rfl) ?_
      refine wp_append1 encP _ _ _ rfl (s + 9) 140 _ 3 24 (by kernel_rfl) infoThree rfl (by omega) encP_length encP_one (.slice a 0 cap') pre (by rfl) ((hown2.below hDB).below (below_alloc1 (Nat.le_refl _) _)) D.heap.size 1 x (by rfl) ?_ ?_ (by omega) (by simp; omega) ?_
      · rw [HU.out]
        exact cells_new D _ _
      · have h1 := hx.length_le
        have h2 := HL.out
        simp only [List.length_append, List.length_cons, List.length_nil] at h1
        omega
      intro v' W3 hown3 hgr
      simp only [Act.put, List.setIfInBounds_toArray]
      obtain ⟨hk1', hk2', hff0⟩ := ask_pushed (n := n) hz3 hn (by omega) hown2 hkey.out.2.2.2.1 hkey.out.2.2.2.2.1 hkey.out.2.2.2.2.2 hDB hown3 hgr
      have hS3 : AskS s W.heap.size (.slice a 0 cap') u0 u1 u2 W3 := (hS0.alloc (by omega) (by omega) _).grown (by simp; omega) (by simp; omega) hgr (fun k hk => by have := HOB.out k hk; omega)
      refine ⟨fun _ => hS3, ?_⟩
      obtain ⟨a3, cap3, hv3, -, -⟩ := hown3.slLt encP_length
      obtain ⟨m3, hm3⟩ : ∃ m3, m3 = (pre ++ [x]).length := ⟨_, rfl⟩
      rw [← hm3] at hv3
      clear hm3
      subst hv3
      have HK1 := hid hk1'
      have HK2 := hid hk2'
      clear hk1' hk2' hDs
      refine wpTill_only (i := 8) rfl (by kernel_rfl) (by rfl) ?_
      go_simp
      refine wpTill_only (i := 9) rfl (by kernel_rfl) (by rfl) ?_
      go_simp
      refine wpTill_only (i := 10) rfl (by kernel_rfl) (by rfl) ?_
      have hcc := hS3.2.1
      go_simp
      refine wpTill_done (by kernel_rfl) ?_ _
      exact ⟨HK1.out.mono fun b hb => by simp only [hs4] at hb; omega, HK2.out⟩
    · obtain ⟨k, rfl⟩ : ∃ k, m = k + 1 := ⟨m - 1, by have := List.length_pos_iff.2 hpre; omega⟩
      obtain h0 | ⟨b, off, rfl, hb, hcs⟩ := hor
      · exact absurd h0 hpre
      have hky : pre[k]? = some (pre[k]'(by omega)) := List.getElem?_eq_getElem _
      obtain ⟨y, hy⟩ : ∃ y, pre[k]? = some y := ⟨_, hky⟩
      have y0 : W2.cell? ⟨b, off + k * 3, none⟩ = _ := hcs k y hy 0 (.int .i64 (y.getD 0 0)) rfl
      have y1 := hcs k y hy 1 (.int .i64 (y.getD 1 0)) rfl
      have y2 := hcs k y hy 2 (.int .i64 (y.getD 2 0)) rfl
      have hne : (y.getD 0 0 == u0 && (y.getD 1 0 == u1 && y.getD 2 0 == u2)) = false := by
        have h1 := last_new HG.out.facts.1.2.1 hx (List.mem_of_getElem? hy)
        have h2 := HU.out
        rw [Bool.eq_false_iff]
        intro h3
        simp only [Bool.and_eq_true, beq_iff_eq] at h3
        obtain ⟨rfl, rfl, rfl⟩ := h3
        refine h1 ?_
        simp only [encP, pad3, List.map_cons, List.map_nil, List.cons.injEq, Value.int.injEq, true_and, and_true] at h2 ⊢
        exact ⟨h2.1.symm, h2.2.1.symm, h2.2.2.symm⟩
      generalize y.getD 0 0 = a0 at *
      generalize y.getD 1 0 = a1 at *
      generalize y.getD 2 0 = a2 at *
      have hk1 : ((k : Int) + 1 == 0) = false := by simp; omega
      have hk2 : wrap64 (k : Int) = k := by
        have h1 := hx.length_le
        have h2 := HL.out
        simp only [List.length_append, List.length_cons, List.length_nil] at h1
        unfold wrap64; omega
      have HMM := hid hm
      have HY := hid hy
      clear hcs hky hm hy hpre
      gi_wp2
      refine wpIn_round_quiet (by kernel_rfl) (by kernel_rfl) (by rintro ⟨a, w, h⟩; exact h) (noDefer_of (by kernel_rfl)) ?_
      repeat (go_big_quiet_step (fail))
      refine wpQuiet_nil ?_
      rintro _ ⟨dk, rfl⟩
      gi_wp2
      refine wpIn_region_round hmx (by rintro ⟨a, w, h⟩; exact h) (noDefer_of (by kernel_rfl)) fun D hD => wpAny_of_till (z := 10) (S := AskS s W.heap.size (.slice (some ⟨b, off, none⟩) (k + 1) cap') u0 u1 u2) _ _ _ _ ?_
      have hDB : Below W2.heap.size W2 D := by rw [hD]; exact ((Below.refl _ _).trans ⟨rfl, rfl, rfl, Nat.le_refl _, fun _ _ => rfl⟩ : Below W2.heap.size W2 (W2.drewN dk)).drew
      have HDs := hid (show D.heap.size = W2.heap.size by rw [hD]; rfl)
      clear hD
      have hS0 : AskS s W.heap.size (.slice (some ⟨b, off, none⟩) (k + 1) cap') u0 u1 u2 D := ⟨(hDB.cell (p := ⟨s + 1, 0, none⟩) (by show s + 1 < _; omega)).trans p0, (hDB.cell (p := ⟨s, 3, none⟩) (by show s < _; omega)).trans p1, (hDB.cell (p := ⟨W.heap.size, 0, none⟩) (by show W.heap.size < _; omega)).trans x0, (hDB.cell (p := ⟨W.heap.size, 1, none⟩) (by show W.heap.size < _; omega)).trans x1, (hDB.cell (p := ⟨W.heap.size, 2, none⟩) (by show W.heap.size < _; omega)).trans x2⟩
      refine wpTill_take (i := 0) (v := .pointer (some ⟨s, 0, none⟩)) rfl (by kernel_rfl) (by kernel_rfl) (by kernel_rfl) (by kernel_rfl) (fun _ _ _ h => h) (by rfl) ?_ hS0 ?_
      · rintro w ⟨g0, g1, g2, g3, g4⟩
        go_simp
      simp only [Act.put, List.setIfInBounds_toArray]
      refine wpTill_take (i := 1) (v := .pointer (some ⟨s, 0, none⟩)) rfl (by kernel_rfl) (by kernel_rfl) (by kernel_rfl) (by kernel_rfl) (fun _ _ _ h => h) (by rfl) ?_ hS0 ?_
      · rintro w ⟨g0, g1, g2, g3, g4⟩
        go_simp
      simp only [Act.put]
      refine wpTill_take (i := 5) (v := .agg #[.int .i64 u0, .int .i64 u1, .int .i64 u2]) rfl (by kernel_rfl) (by kernel_rfl) (by kernel_rfl) (by kernel_rfl) (fun _ _ _ h => h) (by rfl) ?_ hS0 ?_
      · rintro w ⟨g0, g1, g2, g3, g4⟩
        go_simp
      simp only [Act.put]
      refine wpTill_take (i := 2) (v := .pointer (some ⟨s, 0, none⟩)) rfl (by kernel_rfl) (by kernel_rfl) (by kernel_rfl) (by kernel_rfl) (fun _ _ _ h => h) (by rfl) ?_ hS0 ?_
      · rintro w ⟨g0, g1, g2, g3, g4⟩
        go_simp
      simp only [Act.put]
      refine wpTill_take (i := 3) (v := .pointer (some ⟨s, 3, none⟩)) rfl (by kernel_rfl) (by kernel_rfl) (by kernel_rfl) (by kernel_rfl) (fun _ _ _ h => h) (by rfl) ?_ hS0 ?_
      · rintro w ⟨g0, g1, g2, g3, g4⟩
        go_simp
      simp only [Act.put]
      refine wpTill_take (i := 4) (v := (.slice (some ⟨b, off, none⟩) (k + 1) cap')) rfl (by kernel_rfl) (by kernel_rfl) (by kernel_rfl) (by kernel_rfl) (fun _ _ _ h => h) (by rfl) ?_ hS0 ?_
      · rintro w ⟨g0, g1, g2, g3, g4⟩
        go_simp
      simp only [Act.put]
      refine wpTill_only (i := 6) rfl (by kernel_rfl) (by rfl) ?_
      go_simp
      have hDs := HDs.out
      refine ⟨hS0.alloc (by omega) (by omega) _, ?_⟩
      refine wpTill_only (i := 7) rfl (by kernel_rfl) (by rfl) ?_
      refine wp_append1 encP _ _ _ rfl (s + 9) 140 _ 3 24 (by kernel_rfl) infoThree rfl (by omega) encP_length encP_one (.slice (some ⟨b, off, none⟩) (k + 1) cap') pre (by rfl) ((hown2.below hDB).below (below_alloc1 (Nat.le_refl _) _)) D.heap.size 1 x (by rfl) ?_ ?_ (by omega) (by simp; omega) ?_
      · rw [HU.out]
        exact cells_new D _ _
      · have h1 := hx.length_le
        have h2 := HL.out
        simp only [List.length_append, List.length_cons, List.length_nil] at h1
        omega
      intro v' W3 hown3 hgr
      simp only [Act.put, List.setIfInBounds_toArray]
      obtain ⟨hk1', hk2', hff0⟩ := ask_pushed (n := n) hz3 hn (by omega) hown2 hkey.out.2.2.2.1 hkey.out.2.2.2.2.1 hkey.out.2.2.2.2.2 hDB hown3 hgr
      have hS3 : AskS s W.heap.size (.slice (some ⟨b, off, none⟩) (k + 1) cap') u0 u1 u2 W3 := (hS0.alloc (by omega) (by omega) _).grown (by simp; omega) (by simp; omega) hgr (fun k hk => by have := HOB.out k hk; omega)
      refine ⟨fun _ => hS3, ?_⟩
      obtain ⟨a3, cap3, hv3, -, -⟩ := hown3.slLt encP_length
      obtain ⟨m3, hm3⟩ : ∃ m3, m3 = (pre ++ [x]).length := ⟨_, rfl⟩
      rw [← hm3] at hv3
      clear hm3
      subst hv3
      have HK1 := hid hk1'
      have HK2 := hid hk2'
      clear hk1' hk2' hDs
      refine wpTill_only (i := 8) rfl (by kernel_rfl) (by rfl) ?_
      go_simp
      refine wpTill_only (i := 9) rfl (by kernel_rfl) (by rfl) ?_
      go_simp
      refine wpTill_only (i := 10) rfl (by kernel_rfl) (by rfl) ?_
      have hcc := hS3.2.1
      go_simp
      refine wpTill_done (by kernel_rfl) ?_ _
      exact ⟨HK1.out.mono fun b hb => by simp only [hs4] at hb; omega, HK2.out⟩
  · rintro W ⟨hBW, hsW, hptr, sv, hwork, hown⟩ hD
    obtain ⟨a, cap', rfl, -, -⟩ := hown.slLt encP_length
    obtain ⟨m, hm⟩ : ∃ m, m = (truthsOf c []).length := ⟨_, rfl⟩
    rw [← hm] at hwork hown
    have HMM := hid hm
    have hB' : Below w.heap.size w (W.putObj w4.heap.size (.deferred none)) := below_putObj hBW (by omega) _
    have HWK : Hid (WorkV (Lt (W.putObj w4.heap.size (.deferred none)).heap.size) (W.putObj w4.heap.size (.deferred none)) (.pointer (some ⟨s, 0, none⟩)) c (truthsOf c [])) := by
      have h1 : (W.putObj w4.heap.size (.deferred none)).heap[s]? = _ := (World.putObj_heap_other (by omega)).trans hwork
      refine ⟨s, _, _, _, _, rfl, by show s < _; have := hB'.size; simp; omega, cell_of_row h1 0, cell_of_row h1 1, cell_of_row h1 2, cell_of_row h1 3, (h'.below (hB'.mono hn)).le (by have := hB'.size; omega), ?_⟩
      exact (hown.chg (chg_putObj (T := fun b => b = w4.heap.size) W rfl _) (fun b hb => by omega)).slLt encP_length
    have HB' := hid hB'
    have p0 := cell_of_row hptr 0
    have p1 := cell_of_row hwork 3
    simp only [List.getElem?_toArray, List.getElem?_cons_zero, List.getElem?_cons_succ] at p0 p1
    clear hm hptr hwork hown q0 q1 q2 q3 hit hB' hBW
    by_cases hm0 : m = 0
    · have HE := hid (show askErr c true = 11 by rw [HA.out, if_pos (List.length_eq_zero_iff.1 (HMM.out.symm.trans hm0))])
      have hz : ((m : Int) == 0) = true := by simp [hm0]
      dsimp only
      gi_wp2
      exact bodyPostM_mark (v := .tuple #[.pointer none, .int .i64 11]) hD (by simp [results, Try.results80, go_sem]) ⟨HB'.out, .pointer none, by rw [HE.out], fun _ => rfl, fun h => absurd (HE.out.symm.trans h) (by decide)⟩
    · have HE := hid (show askErr c true = 0 by rw [HA.out, if_neg (fun h => hm0 (by rw [HMM.out, h]; rfl))])
      have hz : ((m : Int) == 0) = false := by simp [hm0]
      dsimp only
      gi_wp2
      exact bodyPostM_mark (v := .tuple #[.pointer (some ⟨s, 0, none⟩), .int .i64 0]) hD (by simp [results, Try.results80, go_sem]) ⟨HB'.out, .pointer (some ⟨s, 0, none⟩), by rw [HE.out], fun h => absurd HE.out h, fun _ => HWK.out⟩
  · exact fun _ _ _ _ h => h.elim

theorem asked_any (c : Ce) (vc : Value) (fb : Bool) (g : Nat) (cap : Array Value) (n : Nat) (w : World) (hn : n ≤ w.heap.size) (h : CeV (Lt n) w vc c) (hsm : Small c)
    (eg : ∀ args w, (callFunc g args).run Try.prog w = .ok (.enter g args) w) (hfine : fault c = 0 → ∀ w2, Below w.heap.size w w2 → Calls Try.prog g cap w2 fun e w3 => e = .returned (.bool fb) ∧ Below w2.heap.size w2 w3) :
    Calls Try.prog 80 #[vc, .func (.func g) #[] cap] w fun e w' => AskPost c fb w e w' := by
  by_cases hf : fault c = 0
  · cases fb
    · exact asked_not c vc g cap n w hn h hsm hf eg (hfine hf)
    · exact asked_fine c vc g cap n w hn h hsm hf eg (hfine hf)
  · exact asked_fault c vc fb g cap n w hn h hsm hf

/-! ### What lies at work stays -/

theorem WorkV.keep {S : Nat → Prop} {w w' : World} {v : Value} {c : Ce} {T : List (List Int)} (h : WorkV S w v c T) (k : Keep S w w') : WorkV S w' v c T := by
  obtain ⟨b, hv, kv, tv, sv, rfl, h1, h2, h3, h4, h5, h6, h7⟩ := h
  have hc : ∀ o, w'.cell? ⟨b, o, none⟩ = w.cell? ⟨b, o, none⟩ := fun o => k.cell (p := ⟨b, o, none⟩) h1
  exact ⟨b, hv, kv, tv, sv, rfl, h1, (hc 0).trans h2, (hc 1).trans h3, (hc 2).trans h4, (hc 3).trans h5, h6.keep k, h7.keep k⟩
theorem WorkV.below {n : Nat} {w w' : World} {v : Value} {c : Ce} {T : List (List Int)} (h : WorkV (Lt n) w v c T) (k : Below n w w') : WorkV (Lt n) w' v c T := h.keep (below_keep k)
theorem WorkV.le {n m : Nat} {w : World} {v : Value} {c : Ce} {T : List (List Int)} (h : WorkV (Lt n) w v c T) (hn : n ≤ m) : WorkV (Lt m) w v c T := by
  obtain ⟨b, hv, kv, tv, sv, rfl, h1, h2, h3, h4, h5, h6, h7⟩ := h
  exact ⟨b, hv, kv, tv, sv, rfl, Nat.lt_of_lt_of_le h1 hn, h2, h3, h4, h5, h6.le hn, h7.le hn⟩

end Go.Proofs.Ytjddcaimjofihaa

namespace Go.Proofs.Ytjddcaimjofihaa
open Go.RowKit
set_option maxRecDepth 100000

theorem WorkV.open {S : Nat → Prop} {w : World} {v : Value} {c : Ce} {T : List (List Int)} (h : WorkV S w v c T) : ∃ b ha hc ka kc ta tc sa sc, v = .pointer (some ⟨b, 0, none⟩) ∧ S b ∧
    w.cell? ⟨b, 0, none⟩ = some (.slice ha c.heaps.length hc) ∧ w.cell? ⟨b, 1, none⟩ = some (.slice ka c.casks.length kc) ∧ w.cell? ⟨b, 2, none⟩ = some (.slice ta c.trials.length tc) ∧ w.cell? ⟨b, 3, none⟩ = some (.slice sa T.length sc) ∧
    CeV S w (.agg #[.slice ha c.heaps.length hc, .slice ka c.casks.length kc, .slice ta c.trials.length tc]) c ∧ T.length ≤ sc ∧
    (T = [] ∨ ∃ bs off, sa = some ⟨bs, off, none⟩ ∧ S bs ∧ ∀ j (hj : j < T.length), w.cell? ⟨bs, off + j * 3, none⟩ = some (.int .i64 (T[j].getD 0 0)) ∧ w.cell? ⟨bs, off + j * 3 + 1, none⟩ = some (.int .i64 (T[j].getD 1 0)) ∧ w.cell? ⟨bs, off + j * 3 + 2, none⟩ = some (.int .i64 (T[j].getD 2 0))) := by
  obtain ⟨b, hv, kv, tv, sv, rfl, h1, h2, h3, h4, h5, h6, h7⟩ := h
  obtain ⟨ha, hc, ka, kc, ta, tc, he, -⟩ := h6.open
  cases he
  obtain ⟨sa, sc, rfl, hsc, ho⟩ := h7.at
  refine ⟨b, ha, hc, ka, kc, ta, tc, sa, sc, rfl, h1, h2, h3, h4, h5, h6, hsc, ho.imp id ?_⟩
  rintro ⟨bs, off, rfl, hb, hcs⟩
  exact ⟨bs, off, rfl, hb, fun j hj => ⟨by simpa using hcs j hj 0 _ rfl, by simpa using hcs j hj 1 _ rfl, by simpa using hcs j hj 2 _ rfl⟩⟩

/-- The truths are numbers that the program can reckon with. -/
def Fits (T : List (List Int)) : Prop := ∀ t ∈ T, ∀ x ∈ pad3 t, 0 ≤ x ∧ x ≤ 1000
theorem Fits.three {T : List (List Int)} (h : Fits T) {t : List Int} (ht : t ∈ T) : Three (pad3 t) (t.getD 0 0) (t.getD 1 0) (t.getD 2 0) := ⟨rfl, h t ht⟩
theorem truths_fits {c : Ce} (hg : Good c) (out : List Int) : Fits (truthsOf c out) := fun t ht => pad3_bd t (listed_bd _ _ (mem_truthsOf.1 ht).1 hg.facts.2.1)

/-- Those of a thing in some truths. -/
def bnd (c : Ce) (k : Int) (T : List (List Int)) : Rg := T.foldl (fun r s => wider r (ofT c (pad3 s) k)) ⟨ofT c (pad3 (T.headD [])) k, ofT c (pad3 (T.headD [])) k⟩

set_option maxHeartbeats 1000000 in
theorem bounds_any (c : Ce) (hg : Good c) (T : List (List Int)) (hT : Fits T) (hT0 : T ≠ []) (hTl : T.length ≤ 2000) (vw : Value) (n : Nat) (t : Int) (w : World) (hn : n ≤ w.heap.size) (h : WorkV (Lt n) w vw c T) (h0 : 0 ≤ t) (h1 : t < c.heaps.length + c.casks.length) :
    Calls Try.prog 82 #[vw, .int .i64 t] w fun e w' => e = .returned (.agg #[.int .i64 (bnd c t T).lo, .int .i64 (bnd c t T).hi]) ∧ Below w.heap.size w w' := by
  obtain ⟨b, ha, hc, ka, kc, ta, tc, sa, sc, rfl, hb, c0, c1, c2, c3, hce, hsc, ho⟩ := h.open
  obtain h2 | ⟨bs, off, rfl, hbs, hcs⟩ := ho
  · exact absurd h2 hT0
  obtain ⟨t0, TT, rfl⟩ : ∃ t0 TT, T = t0 :: TT := by cases T with
    | nil => exact absurd rfl hT0
    | cons t0 TT => exact ⟨t0, TT, rfl⟩
  have hbw : b < w.heap.size := Nat.lt_of_lt_of_le hb hn
  have hbsw : bs < w.heap.size := Nat.lt_of_lt_of_le hbs hn
  have H3 := hT.three (t := t0) (by simp)
  obtain ⟨y0, y1, y2⟩ := hcs 0 (by simp)
  simp only [Nat.zero_mul, Nat.add_zero, List.getElem_cons_zero] at y0 y1 y2
  generalize t0.getD 0 0 = a0 at *
  generalize t0.getD 1 0 = a1 at *
  generalize t0.getD 2 0 = a2 at *
  have hlen : (0 : Int) < ((t0 :: TT).length : Nat) := by simp only [List.length_cons]; omega
  obtain ⟨m, hm⟩ : ∃ m, m = (t0 :: TT).length := ⟨_, rfl⟩
  rw [← hm] at c3 hsc hTl hlen
  have HCS := hid hcs
  have HM := hid hm
  have HTT := hid hT
  clear hcs hm hT hT0
  obtain ⟨W, hW⟩ : ∃ W, W = w.alloc (Obj.cells #[Value.int .i64 0, Value.int .i64 0] 58) := ⟨_, rfl⟩
  have hWs : W.heap.size = w.heap.size + 1 := by rw [hW]; simp
  have hWb : Below w.heap.size w W := by rw [hW]; exact below_alloc1 (Nat.le_refl _) _
  have hWr : W.heap[w.heap.size]? = some (.cells #[.int .i64 0, .int .i64 0] 58 (0, 0)) := by rw [hW]; exact heap_new _ _
  obtain ⟨hgc, hgf⟩ := grew_cells W
  go_enter Try.func82, Try.ntmps82
  go_wp2
  rw [← hW]
  have e0 := ((bcell hWb).1 b 0 hbw).trans c0
  have e1 := ((bcell hWb).1 b 1 hbw).trans c1
  have e2 := ((bcell hWb).1 b 2 hbw).trans c2
  have e3 := ((bcell hWb).1 b 3 hbw).trans c3
  have f0 := ((bcell hWb).1 bs off hbsw).trans y0
  have f1 := ((bcell hWb).1 bs (off + 1) hbsw).trans y1
  have f2 := ((bcell hWb).1 bs (off + 2) hbsw).trans y2
  have l1 : b < W.heap.size := by omega
  have l2 : bs < W.heap.size := by omega
  have HN : ∀ g, n ≤ (World.grew W g).heap.size := fun g => Nat.le_trans (by omega) (grew_below W g).size
  have HX : ∀ g, CeV (Lt n) (World.grew W g) (.agg #[.slice ha c.heaps.length hc, .slice ka c.casks.length kc, .slice ta c.trials.length tc]) c := fun g => (hce.below (hWb.mono hn)).below ((grew_below W g).mono (by omega))
  clear hW
  refine wp_region_grew (by kernel_rfl) (by kernel_rfl) ?_
  repeat (go_big_quiet_step ((go_at_call 130; exact grew_of (of_any c hg _ n (pad3 t0) a0 a1 a2 H3 t _ (HN _) (HX _) h0 h1))))
  refine wpQuiet_nil ?_
  rintro _ ⟨ex, rfl⟩
  clear HN HX
  have hb1 := grew_below W ex
  have HF := hid (show (World.grew W ex).heap[w.heap.size]? = _ from (hb1.block _ (by omega)).trans hWr)
  have g3 := (hb1.cell (p := ⟨b, 3, none⟩) l1).trans e3
  have hs1 : W.heap.size ≤ (World.grew W ex).heap.size := hb1.size
  have HB1 := hid (show Below w.heap.size w (World.grew W ex) from hWb.trans (hb1.mono (by omega)))
  clear hb1 hgc hgf
  generalize World.grew W ex = W1 at *
  clear e0 e1 e2 e3 f0 f1 f2 hWr hWb
  obtain ⟨z, hz⟩ : ∃ z, z = ofT c (pad3 t0) t := ⟨_, rfl⟩
  rw [← hz]
  have HZ := hid hz
  clear hz
  have l1' : b < W1.heap.size := by omega
  go_wp2
  obtain ⟨W2, hW2⟩ : ∃ W2, W2 = W1.alloc (Obj.cells #[Value.int .i64 z, Value.int .i64 z] 58) := ⟨_, rfl⟩
  rw [← hW2]
  have hs2 : W2.heap.size = W1.heap.size + 1 := by rw [hW2]; simp
  have hb2 : Below W1.heap.size W1 W2 := by rw [hW2]; exact below_alloc1 (Nat.le_refl _) _
  have hr2 : W2.heap[W1.heap.size]? = some (.cells #[.int .i64 z, .int .i64 z] 58 (0, 0)) := by rw [hW2]; exact heap_new _ _
  clear hW2
  have HB2 := hid (below_after HB1.out hb2 (Nat.le_refl _))
  have HR2 := hid ((hb2.block w.heap.size (by omega)).trans HF.out)
  go_loopw [29] (fun i wr => ∃ k : Nat, k ≤ m ∧ i = .int .i64 k ∧ ∃ r : Rg, wr.heap[W1.heap.size]? = some (.cells #[.int .i64 r.lo, .int .i64 r.hi] 58 (0, 0)) ∧ Hid (((t0 :: TT).take k).foldl (fun r s => wider r (ofT c (pad3 s) t)) ⟨z, z⟩ = r) ∧ Hid (wr.heap[w.heap.size]? = some (.cells #[.int .i64 0, .int .i64 0] 58 (0, 0))) ∧ Hid (Below w.heap.size w wr) ∧ W1.heap.size < wr.heap.size) (fun i _ => m - (intOf i).toNat)
  case atStart => exact ⟨0, by omega, rfl, ⟨z, z⟩, hr2, hid rfl, HR2, HB2, by omega⟩
  case round =>
    obtain ⟨k, hk, rfl, ⟨lo, hi⟩, hrow, HI, HR, HB, hsz⟩ := hrel
    by_cases hlt : k < m
    · have hkl : k < (t0 :: TT).length := by rw [← HM.out]; exact hlt
      obtain ⟨v0, v1, v2⟩ := HCS.out k hkl
      have H3k := HTT.out.three (List.getElem_mem hkl)
      have HI2 := hid (show ((t0 :: TT).take (k + 1)).foldl (fun r s => wider r (ofT c (pad3 s) t)) ⟨z, z⟩ = wider ⟨lo, hi⟩ (ofT c (pad3 ((t0 :: TT)[k]'hkl)) t) by
        rw [List.take_succ_eq_append_getElem hkl, List.foldl_append, HI.out]; rfl)
      generalize (t0 :: TT)[k]'hkl = tk at *
      have g0 := ((bcell HB.out).1 bs _ hbsw).trans v0
      have g1 := ((bcell HB.out).1 bs _ hbsw).trans v1
      have g2 := ((bcell HB.out).1 bs _ hbsw).trans v2
      generalize tk.getD 0 0 = u0 at *
      generalize tk.getD 1 0 = u1 at *
      generalize tk.getD 2 0 = u2 at *
      generalize hx : ofT c (pad3 tk) t = x at *
      have HX := hid hx
      have hszw : w.heap.size < wr.heap.size := by omega
      go_wp2
      obtain ⟨D, hD⟩ : ∃ D, D = (wr.alloc (Obj.cells #[Value.int .i64 u0, Value.int .i64 u1, Value.int .i64 u2] 140)).drew := ⟨_, rfl⟩
      have hBD : Below wr.heap.size wr D := by rw [hD]; exact (below_alloc1 (Nat.le_refl _) _).drew
      have hsD : D.heap.size = wr.heap.size + 1 := by rw [hD]; simp
      have hbx : D.heap[wr.heap.size]? = some (.cells #[.int .i64 u0, .int .i64 u1, .int .i64 u2] 140 (0, 0)) := by rw [hD]; exact heap_new wr _
      refine wp_region_till (by kernel_rfl) 9 (fun w' => Below D.heap.size D w') ?_
      rw [← hD]
      have HBD := hid (below_after HB.out hBD (Nat.le_refl _))
      have hrowD := (hBD.block _ hsz).trans hrow
      have HRD := hid ((hBD.block w.heap.size (by omega)).trans HR.out)
      have d0 := ((bcell HBD.out).1 b 0 hbw).trans c0
      have d1 := ((bcell HBD.out).1 b 1 hbw).trans c1
      have d2 := ((bcell HBD.out).1 b 2 hbw).trans c2
      have x0 := cell_of_row hbx 0
      have x1 := cell_of_row hbx 1
      have x2 := cell_of_row hbx 2
      have r0 := cell_of_row hrowD 0
      have r1 := cell_of_row hrowD 1
      simp only [List.getElem?_toArray, List.getElem?_cons_zero, List.getElem?_cons_succ] at x0 x1 x2 r0 r1
      have lb : b < D.heap.size := by omega
      have lx : wr.heap.size < D.heap.size := by omega
      have lr : W1.heap.size < D.heap.size := by omega
      have hceD := hce.below (HBD.out.mono hn)
      have hND : n ≤ D.heap.size := by omega
      have HSD := hid hsD
      clear hsD hD hbx hBD g0 g1 g2 v0 v1 v2 hx c0 c1 c2 c3 y0 y1 y2 hrow
      refine wpTill_take (i := 0) (v := .agg #[.int .i64 lo, .int .i64 hi]) rfl (by kernel_rfl) (by kernel_rfl) (by kernel_rfl) (by kernel_rfl) (fun _ _ _ h => h) (by rfl) ?_ (Below.refl _ _) ?_
      · intro w' hw'
        have hcc := (bcell hw').1
        go_simp
      simp only [Act.put, List.setIfInBounds_toArray]
      refine wpTill_take (i := 1) (v := .pointer (some ⟨b, 0, none⟩)) rfl (by kernel_rfl) (by kernel_rfl) (by kernel_rfl) (by kernel_rfl) (fun _ _ _ h => h) (by rfl) ?_ (Below.refl _ _) ?_
      · intro w' hw'
        have hcc := (bcell hw').1
        go_simp
      simp only [Act.put]
      refine wpTill_take (i := 5) (v := .agg #[.int .i64 u0, .int .i64 u1, .int .i64 u2]) rfl (by kernel_rfl) (by kernel_rfl) (by kernel_rfl) (by kernel_rfl) (fun _ _ _ h => h) (by rfl) ?_ (Below.refl _ _) ?_
      · intro w' hw'
        have hcc := (bcell hw').1
        go_simp
      simp only [Act.put]
      refine wpTill_take (i := 6) (v := .int .i64 t) rfl (by kernel_rfl) (by kernel_rfl) (by kernel_rfl) (by kernel_rfl) (fun _ _ _ h => h) (by rfl) ?_ (Below.refl _ _) ?_
      · intro w' hw'
        have hcc := (bcell hw').1
        go_simp
      simp only [Act.put]
      refine wpTill_take (i := 2) (v := .pointer (some ⟨b, 0, none⟩)) rfl (by kernel_rfl) (by kernel_rfl) (by kernel_rfl) (by kernel_rfl) (fun _ _ _ h => h) (by rfl) ?_ (Below.refl _ _) ?_
      · intro w' hw'
        have hcc := (bcell hw').1
        go_simp
      simp only [Act.put]
      refine wpTill_take (i := 3) (v := .pointer (some ⟨b, 0, none⟩)) rfl (by kernel_rfl) (by kernel_rfl) (by kernel_rfl) (by kernel_rfl) (fun _ _ _ h => h) (by rfl) ?_ (Below.refl _ _) ?_
      · intro w' hw'
        have hcc := (bcell hw').1
        go_simp
      simp only [Act.put]
      refine wpTill_take (i := 4) (v := .agg #[.slice ha c.heaps.length hc, .slice ka c.casks.length kc, .slice ta c.trials.length tc]) rfl (by kernel_rfl) (by kernel_rfl) (by kernel_rfl) (by kernel_rfl) (fun _ _ _ h => h) (by rfl) ?_ (Below.refl _ _) ?_
      · intro w' hw'
        have hcc := (bcell hw').1
        go_simp
      simp only [Act.put]
      refine wpTill_only (i := 7) rfl (by kernel_rfl) (by rfl) ?_
      go_simp
      refine (of_any c hg _ n (pad3 tk) u0 u1 u2 H3k t _ hND hceD h0 h1).mono ?_
      rw [HX.out]
      rintro e w5 ⟨rfl, hb5⟩
      refine ⟨by first | exact hb5 | exact fun _ => hb5, ?_⟩
      try simp only [Act.put, List.setIfInBounds_toArray, List.set_cons_zero, List.set_cons_succ]
      refine wpTill_only (i := 8) rfl (by kernel_rfl) (by rfl) ?_
      go_simp
      refine (wider_any lo hi x _).mono ?_
      rintro e w6 ⟨rfl, hb6⟩
      refine ⟨by first | exact hb5.trans (hb6.mono hb5.size) | exact fun _ => hb5.trans (hb6.mono hb5.size), ?_⟩
      try simp only [Act.put, List.setIfInBounds_toArray, List.set_cons_zero, List.set_cons_succ]
      have hb7 := hb5.trans (hb6.mono hb5.size)
      have hrow6 := (hb7.block _ lr).trans hrowD
      have k0 := cell_of_row hrow6 0
      have k1 := cell_of_row hrow6 1
      have k0f := frozen_of_row hrow6 0
      have k1f := frozen_of_row hrow6 1
      simp only [List.getElem?_toArray, List.getElem?_cons_zero, List.getElem?_cons_succ] at k0 k1
      refine wpTill_only (i := 9) rfl (by kernel_rfl) (by rfl) ?_
      go_simp
      refine wpTill_done (by kernel_rfl) ?_ _
      have hB8 := (below_after HBD.out hb7 (Nat.le_refl _))
      have HB9 := hid ((hB8.setCell (p := ⟨W1.heap.size, 0, none⟩) (by show w.heap.size ≤ W1.heap.size; omega) (.int .i64 (wider ⟨lo, hi⟩ x).lo)).setCell (p := ⟨W1.heap.size, 1, none⟩) (by show w.heap.size ≤ W1.heap.size; omega) (.int .i64 (wider ⟨lo, hi⟩ x).hi))
      have hfin := row_set (row_set hrow6 0 (.int .i64 (wider ⟨lo, hi⟩ x).lo)) 1 (.int .i64 (wider ⟨lo, hi⟩ x).hi)
      have HRf := hid ((Below.heap_setCell _ ⟨W1.heap.size, 1, none⟩ (.int .i64 (wider ⟨lo, hi⟩ x).hi) _ (by show w.heap.size ≠ W1.heap.size; omega)).trans ((Below.heap_setCell w6 ⟨W1.heap.size, 0, none⟩ (.int .i64 (wider ⟨lo, hi⟩ x).lo) _ (by show w.heap.size ≠ W1.heap.size; omega)).trans ((hb7.block w.heap.size (by omega)).trans HRD.out)))
      have hsf : W1.heap.size < ((w6.setCell ⟨W1.heap.size, 0, none⟩ (.int .i64 (wider ⟨lo, hi⟩ x).lo)).setCell ⟨W1.heap.size, 1, none⟩ (.int .i64 (wider ⟨lo, hi⟩ x).hi)).heap.size := by have := hb7.size; simp [World.setCell]; omega
      go_wp2
      go_roundw
      case rel => exact ⟨k + 1, by omega, by go_num, ⟨(wider ⟨lo, hi⟩ x).lo, (wider ⟨lo, hi⟩ x).hi⟩, hfin, hid (by rw [HI2.out]), HRf, HB9, hsf⟩
      case measure => simp [intOf]; omega
    · have HT := hid (show (t0 :: TT).take k = t0 :: TT from List.take_of_length_le (by rw [← HM.out]; omega))
      have HE := hid (show bnd c t (t0 :: TT) = ⟨lo, hi⟩ by
        have := HI.out
        rw [HT.out, HZ.out] at this
        exact this)
      have k0 := cell_of_row hrow 0
      have k1 := cell_of_row hrow 1
      have j0 := cell_of_row HR.out 0
      have j1 := cell_of_row HR.out 1
      have j0f := frozen_of_row HR.out 0
      have j1f := frozen_of_row HR.out 1
      simp only [List.getElem?_toArray, List.getElem?_cons_zero, List.getElem?_cons_succ] at k0 k1 j0 j1
      have hzz : w.heap.size < W1.heap.size := by omega
      go_wp2
      have hres := row_set (row_set HR.out 0 (.int .i64 lo)) 1 (.int .i64 hi)
      have q0 := cell_of_row hres 0
      have q1 := cell_of_row hres 1
      simp only [List.setIfInBounds_toArray, List.set_cons_zero, List.set_cons_succ, List.getElem?_toArray, List.getElem?_cons_zero, List.getElem?_cons_succ] at q0 q1
      refine bodyPost_ret (v := .agg #[.int .i64 lo, .int .i64 hi]) (by simp only [results, Try.results82]; generalize ((wr.setCell { block := w.heap.size, off := 0 } (Value.int IntKind.i64 lo)).setCell { block := w.heap.size, off := 1 } (Value.int IntKind.i64 hi)) = WF at *; simp [go_sem, q0, q1]) rfl ⟨by rw [HE.out], ?_⟩
      exact (HB.out.setCell (p := ⟨w.heap.size, 0, none⟩) (Nat.le_refl _) _).setCell (p := ⟨w.heap.size, 1, none⟩) (Nat.le_refl _) _
end Go.Proofs.Ytjddcaimjofihaa

namespace Go.Proofs.Ytjddcaimjofihaa
open Go.RowKit Go.Shelf
set_option maxRecDepth 100000

theorem Bounds1_any (w : World) : Calls Try.prog 81 #[] w fun e w' => e = .returned (.bool true) ∧ Below w.heap.size w w' := by
  go_enter Try.func81, Try.ntmps81
  go_wp2
  go_ret
  exact ⟨rfl, Below.refl _ _⟩

def encR (r : Rg) : List Value := [.int .i64 r.lo, .int .i64 r.hi]
theorem infoRange : (Try.prog.info? 58).map (fun i => (i.zero, i.size, i.bytes)) = some (some (.agg #[.int .i64 0, .int .i64 0]), 2, 16) := by kernel_rfl
theorem encR_length (r : Rg) : (encR r).length = 2 := rfl
theorem encR_one (r : Rg) : ∀ u ∈ encR r, u.oneCell' = true := by
  intro u hu
  simp only [encR, List.mem_cons, List.not_mem_nil, or_false] at hu
  rcases hu with rfl | rfl <;> rfl

/-- The bounds of the heaps, and those of the casks. -/
def heapB (c : Ce) : List Rg := (List.range c.heaps.length).map fun i : Nat => bnd c i (truthsOf c [])
def caskB (c : Ce) : List Rg := (List.range c.casks.length).map fun i : Nat => bnd c (c.heaps.length + i) (truthsOf c [])
def RetBounds (l m : List Rg) (err : Int) (W : World) (e : Ending) (w' : World) : Prop :=
  ∃ v u, e = .returned (.tuple #[v, u, .int .i64 err]) ∧ Sl 2 encR (Lt w'.heap.size) w' v l ∧ Sl 2 encR (Lt w'.heap.size) w' u m ∧ Below W.heap.size W w'

theorem Bounds_err (c : Ce) (vc : Value) (n : Nat) (w : World) (hn : n ≤ w.heap.size) (h : CeV (Lt n) w vc c) (hsm : Small c) (he : askErr c true ≠ 0) :
    Calls Try.prog 21 #[vc] w (RetBounds [] [] (askErr c true) w) := by
  have h' := h
  obtain ⟨ha, hc, ka, kc, ta, tc, rfl, -, -, -⟩ := h.open
  have hne : (askErr c true != 0) = true := by simpa using he
  generalize hea : askErr c true = ea at *
  have HE := hid hea
  clear hea he
  go_enter Try.func21, Try.ntmps21
  go_wp2_with (go_at_call 80; refine (asked_any c _ true 81 #[] n _ (by simp; omega) (h'.below (below_alloc1 hn _)) hsm (enters_of Try.func81 (by kernel_rfl) rfl) (fun _ _ _ => Bounds1_any _)).mono ?_; rintro e w2 ⟨hb2, v, rfl, -, -⟩; rw [HE.out])
  refine bodyPost_ret (v := .tuple #[.slice none 0 0, .slice none 0 0, .int .i64 ea]) (by simp [results, Try.results21, go_sem]) rfl ⟨_, _, rfl, Sl.nil, Sl.nil, below_after (below_alloc1 (Nat.le_refl _) _) hb2 (Nat.le_refl _)⟩

set_option maxHeartbeats 1000000 in
theorem Bounds_ok (c : Ce) (vc : Value) (n : Nat) (w : World) (hn : n ≤ w.heap.size) (h : CeV (Lt n) w vc c) (hsm : Small c) (he : askErr c true = 0) :
    Calls Try.prog 21 #[vc] w (RetBounds (heapB c) (caskB c) 0 w) := by
  have hf : fault c = 0 := by
    unfold askErr at he
    split at he
    · next h => exact absurd he h
    · next h => simpa using h
  have ht0 : truthsOf c [] ≠ [] := fun h0 => by simp [askErr, hf, h0] at he
  have hg := (fault_good hf).1
  have h' := h
  obtain ⟨ha, hc, ka, kc, ta, tc, rfl, -, -, -⟩ := h.open
  obtain ⟨⟨g1, g2, g3, -⟩, -⟩ := hg.facts
  have HE := hid he
  have HT := hid (⟨truths_fits hg [], ht0, truthsOf_few hf []⟩ : Fits (truthsOf c []) ∧ truthsOf c [] ≠ [] ∧ (truthsOf c []).length ≤ 2000)
  clear he hf ht0
  go_enter Try.func21, Try.ntmps21
  go_wp2_with (go_at_call 80; refine (asked_any c _ true 81 #[] n _ (by simp; omega) (h'.below (below_alloc1 hn _)) hsm (enters_of Try.func81 (by kernel_rfl) rfl) (fun _ _ _ => Bounds1_any _)).mono ?_; rintro e w2 ⟨hb2, v, rfl, -, h1⟩; replace h1 := h1 HE.out; rw [HE.out]; have hb3 := below_after (below_alloc1 (Nat.le_refl _) _) hb2 (Nat.le_refl _); obtain ⟨hc2, hf2⟩ := bcell hb2; have hz2 : w.heap.size < w2.heap.size := (by have := hb2.size; simp at this; omega))
  have b0 : w2.cell? ⟨w.heap.size, 0, none⟩ = some (.slice ha c.heaps.length hc) := by go_simp
  have b1 : w2.cell? ⟨w.heap.size, 1, none⟩ = some (.slice ka c.casks.length kc) := by go_simp
  clear hc2 hf2 hb2
  go_loopw [2, 19] (fun v i wr => ∃ k : Nat, k ≤ c.heaps.length ∧ i = .int .i64 k ∧ Own w2.heap.size 58 2 encR wr v ((heapB c).take k) ∧ Below w2.heap.size w2 wr) (fun _ i _ => c.heaps.length - (intOf i).toNat)
  case atStart => exact ⟨0, by omega, rfl, Own.nil, Below.refl _ _⟩
  case round =>
    obtain ⟨k, hk, rfl, hown, hb⟩ := hrel
    by_cases hlt : k < c.heaps.length
    · have HX := hid (show (heapB c).take (k + 1) = (heapB c).take k ++ [bnd c k (truthsOf c [])] by
        rw [List.take_succ_eq_append_getElem (by simpa [heapB] using hlt)]; simp [heapB])
      have hlen : ((heapB c).take k).length + 1 ≤ 1000000 := by simp [heapB]; omega
      generalize hz : bnd c k (truthsOf c []) = z at *
      have HZ := hid hz
      clear hz
      have hs := hb.size
      go_wp2_with (first
        | (at_builtin; refine wpList_append1 encR rfl (.tmp 22) (.tmp 26) 29 rfl w2.heap.size 58 (.agg #[.int .i64 0, .int .i64 0]) 2 16 (by kernel_rfl) infoRange rfl (by decide) encR_length encR_one _ _ rfl (hown2.below (below_alloc1 (Nat.le_refl _) _)) _ _ z rfl (cells_new _ (encR z) _) hlen (by decide) (by simp; omega) ?_; intro v' w1 hown' hgrow)
        | (go_at_call 82; refine (bounds_any c hg _ HT.out.1 HT.out.2.1 HT.out.2.2 _ w2.heap.size _ _ (by omega) (h1.below hb) (by omega) (by omega)).mono ?_; rw [HZ.out]; rintro e w5 ⟨rfl, hb5⟩; have hown2 := hown.below hb5; have hb6 := below_after hb hb5 (Nat.le_refl _); have hs6 := hb6.size))
      go_roundw
      case rel => exact ⟨k + 1, by omega, by go_num, by rw [HX.out]; exact hown', (hown2.below (below_alloc1 (Nat.le_refl _) _)).grown hgrow (hb6.alloc (by omega) _) (Nat.le_refl _) (by simp; omega)⟩
      case measure => simp [intOf]; omega
    · have j0 := ((bcell hb).1 w.heap.size 0 hz2).trans b0
      have j1 := ((bcell hb).1 w.heap.size 1 hz2).trans b1
      have HK := hid (show (heapB c).take k = heapB c from List.take_of_length_le (by simp [heapB]; omega))
      rw [HK.out] at hown
      have hwr : w2.heap.size ≤ wr.heap.size := hb.size
      go_wp2
      obtain ⟨W5, hW5⟩ : ∃ W5, W5 = wr := ⟨_, rfl⟩
      rw [← hW5] at hown hb j0 j1 hwr ⊢
      clear hW5
      have HO1 := hid hown
      have HB1 := hid hb
      clear hown hb
      go_loopw [3, 32] (fun v i wr => ∃ k : Nat, k ≤ c.casks.length ∧ i = .int .i64 k ∧ Own W5.heap.size 58 2 encR wr v ((caskB c).take k) ∧ Below W5.heap.size W5 wr) (fun _ i _ => c.casks.length - (intOf i).toNat)
      case atStart => exact ⟨0, by omega, rfl, Own.nil, Below.refl _ _⟩
      case round =>
        obtain ⟨k2, hk2, rfl, hown, hb⟩ := hrel
        have i0 := ((bcell hb).1 w.heap.size 0 (by omega)).trans j0
        have i1 := ((bcell hb).1 w.heap.size 1 (by omega)).trans j1
        by_cases hlt2 : k2 < c.casks.length
        · have HX := hid (show (caskB c).take (k2 + 1) = (caskB c).take k2 ++ [bnd c (c.heaps.length + k2) (truthsOf c [])] by
            rw [List.take_succ_eq_append_getElem (by simpa [caskB] using hlt2)]; simp [caskB])
          have hlen : ((caskB c).take k2).length + 1 ≤ 1000000 := by simp [caskB]; omega
          generalize hz : bnd c (c.heaps.length + k2) (truthsOf c []) = z at *
          have HZ := hid hz
          clear hz
          have hs := hb.size
          have h1' := (h1.below (HB1.out.trans (hb.mono hwr)))
          have hi : IntKind.i64.wrap ((c.heaps.length : Int) + k2) = c.heaps.length + k2 := IntWalk.i64_in _ (by omega)
          go_wp2_with (first
            | (at_builtin; refine wpList_append1 encR rfl (.tmp 35) (.tmp 43) 29 rfl W5.heap.size 58 (.agg #[.int .i64 0, .int .i64 0]) 2 16 (by kernel_rfl) infoRange rfl (by decide) encR_length encR_one _ _ rfl (hown2.below (below_alloc1 (Nat.le_refl _) _)) _ _ z rfl (cells_new _ (encR z) _) hlen (by decide) (by simp; omega) ?_; intro v' w1 hown' hgrow)
            | (go_at_call 82; refine (bounds_any c hg _ HT.out.1 HT.out.2.1 HT.out.2.2 _ w2.heap.size _ _ (by omega) h1' (by omega) (by omega)).mono ?_; rw [HZ.out]; rintro e w5 ⟨rfl, hb5⟩; have hown2 := hown.below hb5; have hb6 := below_after hb hb5 (Nat.le_refl _); have hs6 := hb6.size))
          go_roundw
          case rel => exact ⟨k2 + 1, by omega, by go_num, by rw [HX.out]; exact hown', (hown2.below (below_alloc1 (Nat.le_refl _) _)).grown hgrow (hb6.alloc (by omega) _) (Nat.le_refl _) (by simp; omega)⟩
          case measure => simp [intOf]; omega
        · have HK2 := hid (show (caskB c).take k2 = caskB c from List.take_of_length_le (by simp [caskB]; omega))
          rw [HK2.out] at hown
          go_wp2
          have hfin := hb3.trans ((HB1.out.trans (hb.mono hwr)).mono (Nat.le_of_lt hz2))
          refine bodyPost_ret (v := .tuple #[u2, u3, .int .i64 0]) (by simp [results, Try.results21, go_sem]) rfl ⟨_, _, rfl, ?_, hown.slLt encR_length, hfin⟩
          exact (HO1.out.below hb).slLt encR_length

/-! ### Graded -/

theorem Graded1_any (c : Ce) (hk : c.casks.length ≤ 1000) (k g : Int) (b0 b1 b2 : Nat) (ka : Option Addr) (kc : Nat) (w : World) (h1 : w.cell? ⟨b1, 0, none⟩ = some (.int .i64 k)) (h0 : w.cell? ⟨b0, 1, none⟩ = some (.slice ka c.casks.length kc)) (h2 : w.cell? ⟨b2, 0, none⟩ = some (.int .i64 g)) :
    Calls Try.prog 84 #[.pointer (some ⟨b1, 0, none⟩), .pointer (some ⟨b0, 0, none⟩), .pointer (some ⟨b2, 0, none⟩)] w fun e w' => e = .returned (.bool (within k 0 (c.casks.length - 1) && within g 0 100)) ∧ Below w.heap.size w w' := by
  have hi : IntKind.i64.wrap ((c.casks.length : Int) - 1) = c.casks.length - 1 := IntWalk.i64_in _ (by omega)
  cases hx : within k 0 (c.casks.length - 1)
  · have HX := hid hx
    clear hx
    go_enter Try.func84, Try.ntmps84
    go_wp2_with (first | (go_at_call 85; refine (within_any _ _ _ _).mono ?_; rw [HX.out]; rintro e w' ⟨rfl, rfl⟩))
    go_ret
    exact ⟨rfl, Below.refl _ _⟩
  · have HX := hid hx
    clear hx
    go_enter Try.func84, Try.ntmps84
    go_wp2_with (first | (go_at_call 85; refine (within_any _ _ _ _).mono ?_; rw [HX.out]; rintro e w' ⟨rfl, rfl⟩) | (go_at_call 86; refine (graded_any _ _).mono ?_; rintro e w' ⟨rfl, rfl⟩))
    go_ret
    exact ⟨by simp, Below.refl _ _⟩

def gradedOk (c : Ce) (k g : Int) : Bool := within k 0 (c.casks.length - 1) && within g 0 100
def gradedV (c : Ce) (k g : Int) : Int := if g ≤ (bnd c (c.heaps.length + k) (truthsOf c [])).lo then 1 else if (bnd c (c.heaps.length + k) (truthsOf c [])).hi < g then 2 else 3
def RetTwo (a err : Int) (W : World) (e : Ending) (w' : World) : Prop := e = .returned (.tuple #[.int .i64 a, .int .i64 err]) ∧ Below W.heap.size W w'

theorem heap_three (w : World) (a b c : Obj) : (((w.alloc a).alloc b).alloc c).heap[w.heap.size]? = some a ∧ (((w.alloc a).alloc b).alloc c).heap[w.heap.size + 1]? = some b ∧ (((w.alloc a).alloc b).alloc c).heap[w.heap.size + 1 + 1]? = some c := by
  refine ⟨?_, ?_, heap_at (by simp) c⟩
  · rw [Below.heap_alloc _ _ _ (by simp; omega), Below.heap_alloc _ _ _ (by simp)]; exact heap_new _ _
  · rw [Below.heap_alloc _ _ _ (by simp)]; exact heap_new2 _ _ _

set_option maxHeartbeats 1000000 in
theorem Graded_any (c : Ce) (vc : Value) (k g : Int) (n : Nat) (w : World) (hn : n ≤ w.heap.size) (h : CeV (Lt n) w vc c) (hsm : Small c) :
    Calls Try.prog 23 #[vc, .int .i64 k, .int .i64 g] w (RetTwo (if askErr c (gradedOk c k g) = 0 then gradedV c k g else 0) (askErr c (gradedOk c k g)) w) := by
  have hmf : ∀ (fn : Fn) (first cap : Array Value) (w : World), (Instr.makeFunc fn first cap).run Try.prog w = .ok (.func fn first cap) w := fun _ _ _ _ => rfl
  have h' := h
  obtain ⟨ha, hc, ka, kc, ta, tc, rfl, -, -, -⟩ := h.open
  have HS := hid hsm
  obtain ⟨W, hW⟩ : ∃ W, W = ((w.alloc (.cells #[.slice ha c.heaps.length hc, .slice ka c.casks.length kc, .slice ta c.trials.length tc] 35)).alloc (.cells #[.int .i64 k] 3)).alloc (.cells #[.int .i64 g] 3) := ⟨_, rfl⟩
  obtain ⟨q0, q1, q2⟩ := hW ▸ heap_three w _ _ _
  have hWs : W.heap.size = w.heap.size + 3 := by rw [hW]; simp
  have hWb : Below w.heap.size w W := by rw [hW]; exact below_alloc3 (Nat.le_refl _) _ _ _
  have HASK := hid (asked_any c (.agg #[.slice ha c.heaps.length hc, .slice ka c.casks.length kc, .slice ta c.trials.length tc]) (gradedOk c k g) 84 #[.pointer (some ⟨w.heap.size + 1, 0, none⟩), .pointer (some ⟨w.heap.size, 0, none⟩), .pointer (some ⟨w.heap.size + 1 + 1, 0, none⟩)] n W (by omega) (h'.below (hWb.mono hn)) hsm (enters_of Try.func84 (by kernel_rfl) rfl)
    (fun _ w2 hb => Graded1_any c (by have := hsm.2; omega) k g _ _ _ ka kc w2 ((hb.cell (p := ⟨w.heap.size + 1, 0, none⟩) (by show w.heap.size + 1 < _; omega)).trans (cell_of_row q1 0)) ((hb.cell (p := ⟨w.heap.size, 1, none⟩) (by show w.heap.size < _; omega)).trans (cell_of_row q0 1)) ((hb.cell (p := ⟨w.heap.size + 1 + 1, 0, none⟩) (by show w.heap.size + 1 + 1 < _; omega)).trans (cell_of_row q2 0))))
  have b0 := cell_of_row q0 0
  have b1 := cell_of_row q1 0
  have b2 := cell_of_row q2 0
  simp only [List.getElem?_toArray, List.getElem?_cons_zero] at b0 b1 b2
  by_cases he : askErr c (gradedOk c k g) = 0
  · have hok : fault c = 0 ∧ gradedOk c k g = true ∧ truthsOf c [] ≠ [] := by
      unfold askErr at he
      split at he
      · next h => exact absurd he h
      · next h =>
        split at he
        · next h2 =>
          split at he
          · cases he
          · next h3 => exact ⟨by simpa using h, h2, h3⟩
        · cases he
    obtain ⟨hf, hgo, ht0⟩ := hok
    have hg := (fault_good hf).1
    obtain ⟨⟨g1, g2, g3, -⟩, -⟩ := hg.facts
    have HT := hid (⟨truths_fits hg [], ht0, truthsOf_few hf []⟩ : Fits (truthsOf c []) ∧ truthsOf c [] ≠ [] ∧ (truthsOf c []).length ≤ 2000)
    simp only [gradedOk, Bool.and_eq_true, within_iff] at hgo
    have hi : IntKind.i64.wrap ((c.heaps.length : Int) + k) = c.heaps.length + k := IntWalk.i64_in _ (by omega)
    rw [if_pos he, he]
    obtain ⟨r, hr⟩ : ∃ r, r = bnd c (c.heaps.length + k) (truthsOf c []) := ⟨_, rfl⟩
    have HV : Hid (gradedV c k g = if g ≤ r.lo then 1 else if r.hi < g then 2 else 3) := hid (by rw [hr]; rfl)
    have HR := hid hr
    have HE := hid he
    clear he hf ht0 hr q0 q1 q2
    go_enter Try.func23, Try.ntmps23
    rcases (by omega : g ≤ r.lo ∨ (¬ g ≤ r.lo ∧ r.hi < g) ∨ (¬ g ≤ r.lo ∧ ¬ r.hi < g)) with h1 | ⟨h1, h2⟩ | ⟨h1, h2⟩
    · rw [show gradedV c k g = 1 by rw [HV.out, if_pos h1]]
      go_wp2_with (first
        | (go_at_call 80; rw [← hW]; refine HASK.out.mono ?_; rintro e w2 ⟨hb2, v, rfl, -, hw⟩; replace hw := hw HE.out; rw [HE.out]; obtain ⟨hc2, hf2⟩ := bcell hb2; have hz2 : w.heap.size + 2 < w2.heap.size := (by have := hb2.size; omega))
        | (go_at_call 82; refine (bounds_any c hg _ HT.out.1 HT.out.2.1 HT.out.2.2 _ w2.heap.size _ _ (Nat.le_refl _) hw (by omega) (by omega)).mono ?_; rw [← HR.out]; rintro e w5 ⟨rfl, hb5⟩; obtain ⟨hc5, hf5⟩ := bcell hb5; have hz5 : w.heap.size + 2 < w5.heap.size := (by have := hb5.size; omega)))
      go_ret2
      exact ⟨rfl, ((below_after (below_after hWb hb2 (Nat.le_refl _)) hb5 (Nat.le_refl _))).trans (below_alloc1 (by omega) _)⟩
    · rw [show gradedV c k g = 2 by rw [HV.out, if_neg h1, if_pos h2]]
      go_wp2_with (first
        | (go_at_call 80; rw [← hW]; refine HASK.out.mono ?_; rintro e w2 ⟨hb2, v, rfl, -, hw⟩; replace hw := hw HE.out; rw [HE.out]; obtain ⟨hc2, hf2⟩ := bcell hb2; have hz2 : w.heap.size + 2 < w2.heap.size := (by have := hb2.size; omega))
        | (go_at_call 82; refine (bounds_any c hg _ HT.out.1 HT.out.2.1 HT.out.2.2 _ w2.heap.size _ _ (Nat.le_refl _) hw (by omega) (by omega)).mono ?_; rw [← HR.out]; rintro e w5 ⟨rfl, hb5⟩; obtain ⟨hc5, hf5⟩ := bcell hb5; have hz5 : w.heap.size + 2 < w5.heap.size := (by have := hb5.size; omega)))
      go_ret2
      exact ⟨rfl, ((below_after (below_after hWb hb2 (Nat.le_refl _)) hb5 (Nat.le_refl _))).trans (below_alloc1 (by omega) _)⟩
    · rw [show gradedV c k g = 3 by rw [HV.out, if_neg h1, if_neg h2]]
      go_wp2_with (first
        | (go_at_call 80; rw [← hW]; refine HASK.out.mono ?_; rintro e w2 ⟨hb2, v, rfl, -, hw⟩; replace hw := hw HE.out; rw [HE.out]; obtain ⟨hc2, hf2⟩ := bcell hb2; have hz2 : w.heap.size + 2 < w2.heap.size := (by have := hb2.size; omega))
        | (go_at_call 82; refine (bounds_any c hg _ HT.out.1 HT.out.2.1 HT.out.2.2 _ w2.heap.size _ _ (Nat.le_refl _) hw (by omega) (by omega)).mono ?_; rw [← HR.out]; rintro e w5 ⟨rfl, hb5⟩; obtain ⟨hc5, hf5⟩ := bcell hb5; have hz5 : w.heap.size + 2 < w5.heap.size := (by have := hb5.size; omega)))
      go_ret2
      exact ⟨rfl, ((below_after (below_after hWb hb2 (Nat.le_refl _)) hb5 (Nat.le_refl _))).trans (below_alloc1 (by omega) _)⟩
  · rw [if_neg he]
    have hne : (askErr c (gradedOk c k g) != 0) = true := by simpa using he
    generalize hea : askErr c (gradedOk c k g) = ea at *
    have HE := hid hea
    clear he q0 q1 q2 hea
    go_enter Try.func23, Try.ntmps23
    go_wp2_with (first
        | (go_at_call 80; rw [← hW]; refine HASK.out.mono ?_; rintro e w2 ⟨hb2, v, rfl, -, -⟩; rw [HE.out]))
    go_ret2
    exact ⟨rfl, below_after hWb hb2 (Nat.le_refl _)⟩
end Go.Proofs.Ytjddcaimjofihaa
