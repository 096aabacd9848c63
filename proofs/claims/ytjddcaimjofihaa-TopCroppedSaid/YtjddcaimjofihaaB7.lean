/- Contracts of package cask: grades, maps, class; no condition. -/
import Derived.Test.YtjddcaimjofihaaB6
import Derived.Maps.OwnSet
import Derived.Maps.OwnOps
import Derived.DeepKeys4
import Derived.Maps.Keyed
namespace Go.Proofs.Ytjddcaimjofihaa
open Go.RowKit Go.Shelf
set_option maxRecDepth 100000

def gbits : List Bool → Int
  | [] => 0
  | b :: bs => (if b then 1 else 0) + 2 * gbits bs
theorem gbits_inj : ∀ (a b : List Bool), a.length = b.length → gbits a = gbits b → a = b
  | [], [], _, _ => rfl
  | [], _ :: _, h, _ => by simp at h
  | _ :: _, [], h, _ => by simp at h
  | x :: a, y :: b, h, e => by
    simp only [gbits] at e
    have hxy : x = y := by cases x <;> cases y <;> simp at e ⊢ <;> omega
    subst hxy
    have := gbits_inj a b (by simpa using h) (by omega)
    rw [this]
theorem gbits_snoc (a : List Bool) (x : Bool) : gbits (a ++ [x]) = gbits a + (if x then 2 ^ a.length else 0) := by
  induction a with
  | nil => cases x <;> rfl
  | cons y a ih =>
    simp only [List.cons_append, gbits, ih, List.length_cons]
    cases x
    · simp
    · simp [Int.pow_succ]; omega
theorem gbits_bd (a : List Bool) : 0 ≤ gbits a ∧ gbits a < 2 ^ a.length := by
  induction a with
  | nil => simp [gbits]
  | cons y a ih =>
    simp only [gbits, List.length_cons, Int.pow_succ]
    cases y <;> simp <;> omega
/-- Which casks are of a grade. -/
def gradesL (c : Ce) (s : List Int) (g : Int) : List Bool := c.casks.map fun k => decide (g ≤ mean s k)
def gradesOf (c : Ce) (s : List Int) (g : Int) : Int := gbits (gradesL c s g)
/-- The next bits. -/
def orBit (k : Nat) (z : Int) (b : Bool) : Int := z + if b then 2 ^ k else 0

theorem or_bit (k : Nat) (x : Int) (h : (k = 0 ∧ x = 0) ∨ (k = 1 ∧ (x = 0 ∨ x = 1)) ∨ (k = 2 ∧ (x = 0 ∨ x = 1 ∨ x = 2 ∨ x = 3))) : bits BinOp.or IntKind.i64 x (wrap64 (2 ^ k)) = x + 2 ^ k := by
  rcases h with ⟨rfl, rfl⟩ | ⟨rfl, rfl | rfl⟩ | ⟨rfl, rfl | rfl | rfl | rfl⟩ <;> kernel_rfl

set_option maxHeartbeats 2000000 in
theorem grades_any (c : Ce) (hg : Good c) (T : List (List Int)) (vw : Value) (n : Nat) (s : List Int) (s0 s1 s2 : Int) (hs : Three s s0 s1 s2) (g : Int) (w : World) (hn : n ≤ w.heap.size) (h : WorkV (Lt n) w vw c T) :
    Calls Try.prog 169 #[vw, .agg #[.int .i64 s0, .int .i64 s1, .int .i64 s2], .int .i64 g] w fun e w' => e = .returned (.int .i64 (gradesOf c s g)) ∧ Below w.heap.size w w' := by
  obtain ⟨b, ha, hc, ka, kc, ta, tc, sa, sc, rfl, hb, c0, c1, c2, c3, hce, hsc, -⟩ := h.open
  have hbw : b < w.heap.size := Nat.lt_of_lt_of_le hb hn
  obtain ⟨⟨g1, g2, g3, -⟩, -, g6, -⟩ := hg.facts
  have G6 := hid g6
  obtain ⟨_, _, _, _, _, _, he, -, H2, -⟩ := hce.open
  cases he
  obtain ⟨_, _, he, -, ho⟩ := H2.open
  cases he
  have HO := hid ho
  clear g6 H2 ho
  obtain ⟨W, hW⟩ : ∃ W, W = w.alloc (Obj.cells #[Value.int .i64 s0, Value.int .i64 s1, Value.int .i64 s2] 140) := ⟨_, rfl⟩
  have hWs : W.heap.size = w.heap.size + 1 := by rw [hW]; simp
  have hWb : Below w.heap.size w W := by rw [hW]; exact below_alloc1 (Nat.le_refl _) _
  have hWr : W.heap[w.heap.size]? = some (.cells #[.int .i64 s0, .int .i64 s1, .int .i64 s2] 140 (0, 0)) := by rw [hW]; exact heap_new _ _
  have e1 := (hWb.cell (p := ⟨b, 1, none⟩) hbw).trans c1
  have r0 := cell_of_row hWr 0
  have r1 := cell_of_row hWr 1
  have r2 := cell_of_row hWr 2
  simp only [List.getElem?_toArray, List.getElem?_cons_zero, List.getElem?_cons_succ] at r0 r1 r2
  have lb : b < W.heap.size := by omega
  go_enter Try.func169, Try.ntmps169
  go_wp2
  rw [← hW]
  clear hW hWr
  go_wp2
  go_loopw [6, 15] (fun z i wr => ∃ (k : Nat) (x : Int), k ≤ c.casks.length ∧ i = .int .i64 k ∧ z = .int .i64 x ∧ Hid (gbits ((gradesL c s g).take k) = x) ∧ Below W.heap.size W wr) (fun _ i _ => c.casks.length - (intOf i).toNat)
  case atStart => exact ⟨0, 0, by omega, rfl, rfl, hid rfl, Below.refl _ _⟩
  case round =>
    obtain ⟨k, x, hk, rfl, rfl, HI, hB⟩ := hrel
    by_cases hlt : k < c.casks.length
    · rcases HO.out with hnil | ⟨bk, off, rfl, hbn, hcc⟩
      · rw [hnil] at hlt; simp at hlt
      obtain ⟨xv, y0, hx⟩ := hcc k hlt
      clear hcc
      have hbkw : bk < W.heap.size := by have : bk < n := hbn; omega
      have z0 := (hB.cell (p := ⟨bk, off + k, none⟩) hbkw).trans ((hWb.cell (p := ⟨bk, off + k, none⟩) (by show bk < _; have : bk < n := hbn; omega)).trans y0)
      have k0 := (hB.cell (p := ⟨w.heap.size, 0, none⟩) (by show w.heap.size < _; omega)).trans r0
      have k1 := (hB.cell (p := ⟨w.heap.size, 1, none⟩) (by show w.heap.size < _; omega)).trans r1
      have k2 := (hB.cell (p := ⟨w.heap.size, 2, none⟩) (by show w.heap.size < _; omega)).trans r2
      have hgl : k < (gradesL c s g).length := by simpa [gradesL] using hlt
      have HN := hid (show gbits ((gradesL c s g).take (k + 1)) = orBit k x (decide (g ≤ mean s c.casks[k])) by
        rw [List.take_succ_eq_append_getElem hgl, gbits_snoc, HI.out, List.length_take, Nat.min_eq_left (by omega)]
        simp [gradesL, orBit])
      have hbd : 0 ≤ x ∧ x < 2 ^ k := by
        have := gbits_bd ((gradesL c s g).take k)
        rw [HI.out, List.length_take, Nat.min_eq_left (by omega)] at this
        exact this
      obtain ⟨q1, q2, q3⟩ := G6.out c.casks[k] (List.getElem_mem _)
      have hxr := (hx.below (hWb.mono hn)).below (hB.mono (by omega))
      generalize c.casks[k] = ws at *
      have Q1 := hid q1
      have Q2 := hid (show ∀ x ∈ ws, 0 ≤ x ∧ x ≤ 1000 from fun x hx => by have := q2 x hx; omega)
      clear q1 q2 hx y0
      generalize hz : mean s ws = z at *
      have HZ := hid hz
      clear hz
      have hBs := hB.size
      by_cases hgz : g ≤ z
      · have hk3 : (k = 0 ∧ x = 0) ∨ (k = 1 ∧ (x = 0 ∨ x = 1)) ∨ (k = 2 ∧ (x = 0 ∨ x = 1 ∨ x = 2 ∨ x = 3)) := by
          have : k = 0 ∨ k = 1 ∨ k = 2 := by omega
          rcases this with rfl | rfl | rfl <;> simp at hbd <;> omega
        have HBIT := hid (show orBit k x (decide (g ≤ z)) = x + 2 ^ k by simp [orBit, hgz])
        clear hbd
        have HK3 := hid hk3
        clear hk3
        go_wp2_with (go_at_call 94; refine (mean_any s s0 s1 s2 hs ws xv n _ (by omega) hxr (by have := Q1.out; omega) Q2.out q3).mono ?_; rw [HZ.out]; rintro e w5 ⟨rfl, hb5⟩)
        go_roundw
        case rel => exact ⟨k + 1, _, by omega, by go_num, rfl, hid (by rw [HN.out, HBIT.out, or_bit k x HK3.out]), below_after hB hb5 (Nat.le_refl _)⟩
        case measure => simp [intOf]; omega
      · have HBIT := hid (show orBit k x (decide (g ≤ z)) = x by simp [orBit, hgz])
        clear hbd
        go_wp2_with (go_at_call 94; refine (mean_any s s0 s1 s2 hs ws xv n _ (by omega) hxr (by have := Q1.out; omega) Q2.out q3).mono ?_; rw [HZ.out]; rintro e w5 ⟨rfl, hb5⟩)
        go_roundw
        case rel => exact ⟨k + 1, x, by omega, by go_num, rfl, hid (by rw [HN.out, HBIT.out]), below_after hB hb5 (Nat.le_refl _)⟩
        case measure => simp [intOf]; omega
    · have HT := hid (show (gradesL c s g).take k = gradesL c s g from List.take_of_length_le (by simp [gradesL]; omega))
      go_wp2
      go_ret
      exact ⟨ret_int (by have := HI.out; rw [HT.out] at this; exact this.symm), hWb.trans (hB.mono (by omega))⟩
end Go.Proofs.Ytjddcaimjofihaa

namespace Go.Proofs.Ytjddcaimjofihaa
open Go.RowKit Go.Shelf Go.Maps
set_option maxRecDepth 100000

theorem shown_under : Try.prog.underlying 214 = some (.struct (Try.prog.fieldsOf 214)) := by kernel_rfl
theorem laidOut : laidOutB Try.prog = true := by kernel_rfl
theorem shown_law : Keyed Try.prog 214 := Keyed.of_law (deep_law_laid laidOut (m := 2) (by omega) (of_decide_eq_true (by kernel_rfl)) (by kernel_rfl) (by kernel_rfl))
theorem int_law : Keyed Try.prog 3 := int_keyed int_under
theorem map1_under : Try.prog.underlying 204 = some (.map 214 3) := by kernel_rfl
theorem map2_under : Try.prog.underlying 205 = some (.map 3 3) := by kernel_rfl
theorem zeroInt (w : World) : (zeroValue 3).run Try.prog w = .ok (.int .i64 0) w := by kernel_rfl

/-- The literal of a pair. -/
def klOf (a b : Int) : Lit := .string (keyBytes [.int .i64 a, .int .i64 b])
theorem shown_type : Try.prog.keyType 214 = true := by kernel_rfl
theorem shown_cells : Try.prog.cellsOf 214 = 2 := by kernel_rfl
theorem types_some : ∃ d, Try.prog.types.size + 1 = d + 1 + 1 := ⟨Try.prog.types.size - 1, by have : 0 < Try.prog.types.size := of_decide_eq_true (by kernel_rfl); omega⟩
theorem key_pair (a b : Int) (ha : (Lit.int .i64 a).wf = true) (hb : (Lit.int .i64 b).wf = true) : keyOf Try.prog 214 (.agg #[.int .i64 a, .int .i64 b]) = some (klOf a b) := by
  obtain ⟨d, hd⟩ := types_some
  have hf : (Value.agg #[.int .i64 a, .int .i64 b]).formed Try.prog 214 = true := by
    simp [Value.formed, Try.underlying214, shown_cells]
  have hi : ∀ x : Int, (Lit.int .i64 x).wf = true → Try.prog.keyLits (d + 1) 3 [.int .i64 x] = some [.int .i64 x] := fun x hx => by
    simp [Program.keyLits, hx]
  have hk : Try.prog.keyLits (d + 1 + 1) 214 [.int .i64 a, .int .i64 b] = some [.int .i64 a, .int .i64 b] := by
    simp [Program.keyLits, Try.underlying214, shown_cells, int_cells, ha, hb]
  unfold keyOf
  simp only [Try.underlying214, shown_type, hf, hd, Value.cells, hk, Bool.and_self, if_true, Option.map_some, klOf]
theorem klOf_inj {a b a' b' : Int} (ha : (Lit.int .i64 a).wf = true) (hb : (Lit.int .i64 b).wf = true) (ha' : (Lit.int .i64 a').wf = true) (hb' : (Lit.int .i64 b').wf = true) (h : klOf a b = klOf a' b') : a = a' ∧ b = b' := by
  have h1 := shown_law.inj (key_pair a b ha hb) (h ▸ key_pair a' b' ha' hb')
  injection h1 with h2
  simpa using h2

/-! ### A map as a list of pairs -/

abbrev zI : DataW Unit := .lit (.int .i64 0)
structure Assoc {κ : Type} [BEq κ] (kl : κ → Lit) (good : κ → Prop) (D : DataW Unit) (M : List (κ × Int)) : Prop where
  tidy : Tidy D
  size : Maps.size D = M.length
  has : ∀ k, good k → Maps.has D (kl k) = (M.lookup k).isSome
  val : ∀ k v, good k → M.lookup k = some v → D.atKey (kl k) zI = .lit (.int .i64 v)

theorem lookup_snoc {κ : Type} [BEq κ] [LawfulBEq κ] (M : List (κ × Int)) (k k' : κ) (v : Int) : (M ++ [(k, v)]).lookup k' = (M.lookup k').or (if k' == k then some v else none) := by
  induction M with
  | nil => simp [List.lookup]; cases k' == k <;> rfl
  | cons p M ih =>
    obtain ⟨q, u⟩ := p
    simp only [List.cons_append, List.lookup]
    cases k' == q
    · exact ih
    · rfl
theorem Assoc.nil {κ : Type} [BEq κ] {kl : κ → Lit} {good : κ → Prop} : Assoc kl good (.map []) [] :=
  ⟨tidy_empty, rfl, fun k _ => rfl, fun k v _ h => by simp [List.lookup] at h⟩
theorem Assoc.put_new {κ : Type} [BEq κ] [LawfulBEq κ] {kl : κ → Lit} {good : κ → Prop} {D : DataW Unit} {M : List (κ × Int)} (h : Assoc kl good D M) (hinj : ∀ a b, good a → good b → kl a = kl b → a = b) (k : κ) (hg : good k) (hk : WideAt.IsKeyLit (kl k)) (hn : M.lookup k = none) (v : Int) :
    Assoc kl good (D.put (kl k) (.lit (.int .i64 v))) (M ++ [(k, v)]) := by
  have hh : Maps.has D (kl k) = false := by rw [h.has k hg, hn]; rfl
  refine ⟨h.tidy.put hk _, ?_, fun k' hg' => ?_, fun k' u hg' hl => ?_⟩
  · rw [size_put h.tidy, hh, h.size]; simp
  · rw [lookup_snoc]
    by_cases e : k' = k
    · subst e; rw [has_put_same h.tidy.isMap hk, hn]; simp
    · rw [has_put_other (fun e' => e (hinj _ _ hg' hg e')), h.has k' hg']
      have : (k' == k) = false := by simpa using e
      rw [this]; cases M.lookup k' <;> rfl
  · rw [lookup_snoc] at hl
    by_cases e : k' = k
    · subst e
      rw [hn] at hl
      simp at hl
      rw [atKey_put_same h.tidy.isMap hk, hl]
    · rw [atKey_put_other (fun e' => e (hinj _ _ hg' hg e'))]
      have : (k' == k) = false := by simpa using e
      rw [this] at hl
      refine h.val k' u hg' ?_
      cases hx : M.lookup k' with
      | none => rw [hx] at hl; cases hl
      | some y => rw [hx] at hl; exact hl
theorem Assoc.put_same {κ : Type} [BEq κ] [LawfulBEq κ] {kl : κ → Lit} {good : κ → Prop} {D : DataW Unit} {M : List (κ × Int)} (h : Assoc kl good D M) (hinj : ∀ a b, good a → good b → kl a = kl b → a = b) (k : κ) (hg : good k) (hk : WideAt.IsKeyLit (kl k)) (v : Int) (hn : M.lookup k = some v) :
    Assoc kl good (D.put (kl k) (.lit (.int .i64 v))) M := by
  have hh : Maps.has D (kl k) = true := by rw [h.has k hg, hn]; rfl
  refine ⟨h.tidy.put hk _, ?_, fun k' hg' => ?_, fun k' u hg' hl => ?_⟩
  · rw [size_put h.tidy, hh, h.size]; simp
  · by_cases e : k' = k
    · subst e; rw [has_put_same h.tidy.isMap hk, hn]; rfl
    · rw [has_put_other (fun e' => e (hinj _ _ hg' hg e')), h.has k' hg']
  · by_cases e : k' = k
    · subst e; rw [hn] at hl; cases hl; rw [atKey_put_same h.tidy.isMap hk]
    · rw [atKey_put_other (fun e' => e (hinj _ _ hg' hg e'))]
      exact h.val k' u hg' hl

/-- What things show in a truth, as one number; the numbers that have been given. -/
def classS (M : List ((Int × Int) × Int)) (n : Int) : List Int → List ((Int × Int) × Int) × Int
  | [] => (M, n)
  | x :: xs => match M.lookup (n, x) with
    | some v => classS M v xs
    | none => classS (M ++ [((n, x), (M.length : Int) + 1)]) ((M.length : Int) + 1) xs
def klP (p : Int × Int) : Lit := klOf p.1 p.2
def goodP (p : Int × Int) : Prop := (Lit.int .i64 p.1).wf = true ∧ (Lit.int .i64 p.2).wf = true
theorem klP_inj : ∀ a b : Int × Int, goodP a → goodP b → klP a = klP b → a = b := fun a b ha hb h => by
  have := klOf_inj ha.1 ha.2 hb.1 hb.2 h
  exact Prod.ext this.1 this.2
theorem klP_key (p : Int × Int) : WideAt.IsKeyLit (klP p) := trivial
end Go.Proofs.Ytjddcaimjofihaa

namespace Go.Proofs.Ytjddcaimjofihaa
open Go.RowKit Go.Shelf Go.Maps
set_option maxRecDepth 100000

def ownP (w : World) (b k : Nat) (D : DataW Unit) : Prop := w.ownsMap Try.prog 214 (plainElem Try.prog 3) b k D

theorem ownP.below {w w' : World} {b k : Nat} {D : DataW Unit} (h : ownP w b k D) (hb : Below w.heap.size w w') : ownP w' b k D :=
  World.ownsMap.kept (row := none) h ⟨hb.os, hb.tape, hb.output, hb.size, fun k hk _ => hb.block k hk⟩ (by simp)
theorem mean_bd {c : Ce} (hg : Good c) {s : List Int} (hs : ∀ x ∈ s, 0 ≤ x ∧ x ≤ 1000) {ws : List Int} (hw : ws ∈ c.casks) : 0 ≤ mean s ws ∧ mean s ws ≤ 3000000 := by
  obtain ⟨⟨-, g2, -, -⟩, -, g6, -⟩ := hg.facts
  obtain ⟨q1, q2, q3⟩ := g6 ws hw
  have := dot_bd ws s (fun x hx => by have := q2 x hx; omega) hs
  have h1 : (1000000 : Int) * ws.length ≤ 3000000 := by omega
  refine ⟨Int.ediv_nonneg this.1 (by omega), ?_⟩
  have h2 : mean s ws ≤ dot ws s := by
    exact Int.ediv_le_self _ this.1
  omega

theorem ofT_bd {c : Ce} (hg : Good c) {s : List Int} (hs : ∀ x ∈ s, 0 ≤ x ∧ x ≤ 1000) {t : Int} (_ : 0 ≤ t) (h1 : t < c.heaps.length + c.casks.length) : 0 ≤ ofT c s t ∧ ofT c s t ≤ 3000000 := by
  unfold ofT
  split
  · refine mean_bd hg hs ?_
    rw [List.getD_eq_getElem?_getD, List.getElem?_eq_getElem (show (t - c.heaps.length).toNat < c.casks.length by omega)]
    exact List.getElem_mem _
  · rw [List.getD_eq_getElem?_getD]
    cases e : s[t.toNat]? with
    | none => simp
    | some y => have := hs y (List.mem_of_getElem? e); simp; omega
theorem lookup_mem {κ : Type} [BEq κ] [LawfulBEq κ] {M : List (κ × Int)} {k : κ} {v : Int} (h : M.lookup k = some v) : (k, v) ∈ M := by
  induction M with
  | nil => simp [List.lookup] at h
  | cons p M ih =>
    obtain ⟨q, u⟩ := p
    simp only [List.lookup] at h
    split at h
    · next e => cases h; have := eq_of_beq e; subst this; simp
    · exact List.mem_cons_of_mem _ (ih h)
theorem wf_int (x : Int) (h : 0 ≤ x ∧ x ≤ 100000000) : (Lit.int .i64 x).wf = true := WalkArith.wf_i64 (by omega)

set_option maxHeartbeats 2000000 in
theorem class_any (c : Ce) (hg : Good c) (T : List (List Int)) (vw : Value) (n : Nat) (s : List Int) (s0 s1 s2 : Int) (hs : Three s s0 s1 s2) (ts : List Int) (vt : Value) (hts : ∀ t ∈ ts, 0 ≤ t ∧ t < c.heaps.length + c.casks.length) (htl : ts.length ≤ 1000) (bm : Nat) (hbm : n ≤ bm)
    (M : List ((Int × Int) × Int)) (hM : ∀ p ∈ M, 0 ≤ p.2 ∧ p.2 ≤ 50000000) (hMl : M.length ≤ 10000000) (D : DataW Unit) (hA : Assoc klP goodP D M) (k0 : Nat) (hk0 : k0 ≤ 10000000) (w : World) (hn : n ≤ w.heap.size) (h : WorkV (Lt n) w vw c T) (hvt : Ints (Lt n) w vt ts) (hown : ownP w bm k0 D) :
    Calls Try.prog 168 #[vw, .agg #[.int .i64 s0, .int .i64 s1, .int .i64 s2], vt, .map (some bm)] w fun e w' => e = .returned (.int .i64 (classS M 0 (ts.map (ofT c s))).2) ∧ Chg (fun b => b = bm) w w' ∧
      ∃ D' k', k' ≤ k0 + ts.length ∧ ownP w' bm k' D' ∧ Assoc klP goodP D' (classS M 0 (ts.map (ofT c s))).1 := by
  obtain ⟨b, ha, hc, ka, kc, ta, tc, sa, sc, rfl, hb, c0, c1, c2, c3, hce, hsc, -⟩ := h.open
  obtain ⟨tsa, tscap, rfl, -, ho⟩ := hvt.open1
  have hbw : b < w.heap.size := Nat.lt_of_lt_of_le hb hn
  obtain ⟨W, hW⟩ : ∃ W, W = w.alloc (Obj.cells #[Value.int .i64 s0, Value.int .i64 s1, Value.int .i64 s2] 140) := ⟨_, rfl⟩
  have hWs : W.heap.size = w.heap.size + 1 := by rw [hW]; simp
  have hWb : Below w.heap.size w W := by rw [hW]; exact below_alloc1 (Nat.le_refl _) _
  have hWr : W.heap[w.heap.size]? = some (.cells #[.int .i64 s0, .int .i64 s1, .int .i64 s2] 140 (0, 0)) := by rw [hW]; exact heap_new _ _
  have hbm0 : bm < w.heap.size := World.ownsMap.lt hown
  have hownW : ownP W bm k0 D := (World.ownsMap.kept (row := none) hown ⟨hWb.os, hWb.tape, hWb.output, hWb.size, fun k hk _ => hWb.block k hk⟩ (by simp))
  go_enter Try.func168, Try.ntmps168
  go_wp2
  rw [← hW]
  clear hW
  go_wp2
  have e0 := (hWb.cell (p := ⟨b, 0, none⟩) hbw).trans c0
  have e1 := (hWb.cell (p := ⟨b, 1, none⟩) hbw).trans c1
  have e2 := (hWb.cell (p := ⟨b, 2, none⟩) hbw).trans c2
  have r0 := cell_of_row hWr 0
  have r1 := cell_of_row hWr 1
  have r2 := cell_of_row hWr 2
  simp only [List.getElem?_toArray, List.getElem?_cons_zero, List.getElem?_cons_succ] at r0 r1 r2
  have HTS := hid hts
  have HO := hid ho
  have HMB := hid hM
  have hbmw : bm < W.heap.size := World.ownsMap.lt hownW
  clear hts ho hM c0 c1 c2 c3 hWr hown
  go_loopw [8, 16] (fun nv i wr => ∃ (k : Nat) (x : Int) (M' : List ((Int × Int) × Int)) (D' : DataW Unit) (kk : Nat), k ≤ ts.length ∧ i = .int .i64 k ∧ nv = .int .i64 x ∧ 0 ≤ x ∧ x ≤ 50000000 ∧
      Hid (classS M' x ((ts.drop k).map (ofT c s)) = classS M 0 (ts.map (ofT c s))) ∧ Assoc klP goodP D' M' ∧ ownP wr bm kk D' ∧ kk ≤ k0 + k ∧ M'.length ≤ M.length + k ∧ Hid (∀ p ∈ M', 0 ≤ p.2 ∧ p.2 ≤ 50000000) ∧ Chg (fun b => b = bm) W wr) (fun _ i _ => ts.length - (intOf i).toNat)
  case atStart => exact ⟨0, 0, M, D, k0, by omega, rfl, rfl, by omega, by omega, hid rfl, hA, hownW, by omega, by omega, HMB, Chg.refl _ _⟩
  case round =>
    obtain ⟨k, x, M', D', kk, hk, rfl, rfl, hx0, hx1, HI, hA', hown', hkk, hMl', HMB', hch⟩ := hrel
    by_cases hlt : k < ts.length
    · rcases HO.out with hnil | ⟨tb, toff, rfl, htb, hcc⟩
      · rw [hnil] at hlt; simp at hlt
      have y0 := hcc k hlt
      clear hcc
      have ht := HTS.out ts[k] (List.getElem_mem _)
      have HD := hid (show (ts.drop k).map (ofT c s) = ofT c s ts[k] :: (ts.drop (k + 1)).map (ofT c s) by rw [List.drop_eq_getElem_cons hlt]; rfl)
      have hzb := ofT_bd hg hs.bd ht.1 ht.2
      generalize ts[k] = t at *
      have hcell : ∀ p : Addr, p.block < W.heap.size → p.block ≠ bm → wr.cell? p = W.cell? p := fun p h1 h2 => World.cell?_of_block (hch.block _ h1 h2)
      have HC := hid hcell
      clear hcell
      have hbn : b < n := hb
      have htbn : tb < n := htb
      have z0 := (HC.out ⟨tb, toff + k, none⟩ (by show tb < _; omega) (by show tb ≠ bm; omega)).trans ((hWb.cell (p := ⟨tb, toff + k, none⟩) (by show tb < _; omega)).trans y0)
      go_wp2
      obtain ⟨E, hE⟩ : ∃ E, E = wr.drew := ⟨_, rfl⟩
      refine wp_region_held (S := fun w' => Below E.heap.size E w') (by kernel_rfl) ?_
      change wpAnyH _ _ _ _ _ _ _ _ wr.drew
      rw [← hE]
      have hBE : Below wr.heap.size wr E := by rw [hE]; exact (Below.refl _ _).drew
      have hownE := hown'.below hBE
      have hchE : Chg (fun b => b = bm) W E := hch.trans (chg_of_below hBE)
      have HEC := hid (fun p h1 h2 => World.cell?_of_block (hchE.block _ h1 h2) : ∀ p : Addr, p.block < W.heap.size → p.block ≠ bm → E.cell? p = W.cell? p)
      have d0 := (HEC.out ⟨b, 0, none⟩ (by show b < _; omega) (by show b ≠ bm; omega)).trans e0
      have d1 := (HEC.out ⟨b, 1, none⟩ (by show b < _; omega) (by show b ≠ bm; omega)).trans e1
      have d2 := (HEC.out ⟨b, 2, none⟩ (by show b < _; omega) (by show b ≠ bm; omega)).trans e2
      have x0 := (HEC.out ⟨w.heap.size, 0, none⟩ (by show w.heap.size < _; omega) (by show w.heap.size ≠ bm; omega)).trans r0
      have x1 := (HEC.out ⟨w.heap.size, 1, none⟩ (by show w.heap.size < _; omega) (by show w.heap.size ≠ bm; omega)).trans r1
      have x2 := (HEC.out ⟨w.heap.size, 2, none⟩ (by show w.heap.size < _; omega) (by show w.heap.size ≠ bm; omega)).trans r2
      have lE : W.heap.size ≤ E.heap.size := hchE.size
      have lb : b < E.heap.size := by omega
      have lw : w.heap.size < E.heap.size := by omega
      have hceE : CeV (Lt n) E (.agg #[.slice ha c.heaps.length hc, .slice ka c.casks.length kc, .slice ta c.trials.length tc]) c := hce.keep ⟨by omega, fun b' hb' => (hchE.block b' (by have : b' < n := hb'; omega) (by have : b' < n := hb'; omega)).trans (hWb.block b' (by have : b' < n := hb'; omega))⟩
      generalize hz : ofT c s t = z at *
      have HZ := hid hz
      clear hz hE hBE z0 y0 hch hown'
      refine wpAnyH_take (i := 0) (v := .int .i64 x) rfl (by kernel_rfl) (by kernel_rfl) (by kernel_rfl) (fun _ _ _ h => h) (.inl ⟨by rfl, ?_⟩) (Below.refl _ _) ?_
      · intro w' hw'
        have hcc := (bcell hw').1
        go_simp
      simp only [Act.put, List.setIfInBounds_toArray]
      refine wpAnyH_take (i := 1) (v := .pointer (some ⟨b, 0, none⟩)) rfl (by kernel_rfl) (by kernel_rfl) (by kernel_rfl) (fun _ _ _ h => h) (.inl ⟨by rfl, ?_⟩) (Below.refl _ _) ?_
      · intro w' hw'
        have hcc := (bcell hw').1
        go_simp
      simp only [Act.put]
      refine wpAnyH_take (i := 5) (v := .agg #[.int .i64 s0, .int .i64 s1, .int .i64 s2]) rfl (by kernel_rfl) (by kernel_rfl) (by kernel_rfl) (fun _ _ _ h => h) (.inl ⟨by rfl, ?_⟩) (Below.refl _ _) ?_
      · intro w' hw'
        have hcc := (bcell hw').1
        go_simp
      simp only [Act.put]
      refine wpAnyH_take (i := 6) (v := .int .i64 t) rfl (by kernel_rfl) (by kernel_rfl) (by kernel_rfl) (fun _ _ _ h => h) (.inl ⟨by rfl, ?_⟩) (Below.refl _ _) ?_
      · intro w' hw'
        have hcc := (bcell hw').1
        go_simp
      simp only [Act.put]
      refine wpAnyH_take (i := 2) (v := .pointer (some ⟨b, 0, none⟩)) rfl (by kernel_rfl) (by kernel_rfl) (by kernel_rfl) (fun _ _ _ h => h) (.inl ⟨by rfl, ?_⟩) (Below.refl _ _) ?_
      · intro w' hw'
        have hcc := (bcell hw').1
        go_simp
      simp only [Act.put]
      refine wpAnyH_take (i := 3) (v := .pointer (some ⟨b, 0, none⟩)) rfl (by kernel_rfl) (by kernel_rfl) (by kernel_rfl) (fun _ _ _ h => h) (.inl ⟨by rfl, ?_⟩) (Below.refl _ _) ?_
      · intro w' hw'
        have hcc := (bcell hw').1
        go_simp
      simp only [Act.put]
      refine wpAnyH_take (i := 4) (v := .agg #[.slice ha c.heaps.length hc, .slice ka c.casks.length kc, .slice ta c.trials.length tc]) rfl (by kernel_rfl) (by kernel_rfl) (by kernel_rfl) (fun _ _ _ h => h) (.inl ⟨by rfl, ?_⟩) (Below.refl _ _) ?_
      · intro w' hw'
        have hcc := (bcell hw').1
        go_simp
      simp only [Act.put]
      refine wpAnyH_all (rs := [7, 9]) (by kernel_rfl) (by simp) (fun q hq => ?_)
      have hq2 : q = 7 ∨ q = 9 := by simpa using hq
      clear hq
      rcases hq2 with rfl | rfl
      · refine wpOp_of_wp rfl (by rfl) ?_
        go_simp
        refine (of_any c hg _ n s s0 s1 s2 hs t _ (by omega) hceE ht.1 ht.2).mono ?_
        rw [HZ.out]
        rintro e w5 ⟨rfl, hb5⟩
        refine ⟨hb5, ?_⟩
        try simp only [Act.put, List.setIfInBounds_toArray, List.set_cons_zero, List.set_cons_succ]
        refine wpAnyH_take (i := 8) (v := .agg #[.int .i64 x, .int .i64 z]) rfl (by kernel_rfl) (by kernel_rfl) (by kernel_rfl) (fun _ _ _ h => h) (.inl ⟨by rfl, ?_⟩) hb5 ?_
        · intro w' hw'
          go_simp
        simp only [Act.put, List.setIfInBounds_toArray]
        refine wpAnyH_all (rs := [9]) (by kernel_rfl) (by simp) (fun q hq => ?_)
        obtain rfl := List.mem_singleton.1 hq
        clear hq
        refine wpOp_of_wp rfl (by rfl) ?_
        go_simp
        have hb6 := hb5.alloc hb5.size (Obj.cells #[Value.int .i64 0, Value.int .i64 0] 214)
        refine ⟨hb6, ?_⟩
        have hr6 := heap_new w5 (Obj.cells #[Value.int .i64 0, Value.int .i64 0] 214)
        have hs5 := hb5.size
        have HB5 := hid hb5
        clear hb5
        refine wpAnyH_all (rs := [10]) (by kernel_rfl) (by simp) (fun q hq => ?_)
        obtain rfl := List.mem_singleton.1 hq
        clear hq
        refine wpOp_of_wp rfl (by rfl) ?_
        go_simp
        have hB6 := HB5.out.alloc hs5 (Obj.cells #[Value.int .i64 x, Value.int .i64 z] 214)
        have hr7 := heap_new w5 (Obj.cells #[Value.int .i64 x, Value.int .i64 z] 214)
        generalize w5.alloc (Obj.cells #[Value.int .i64 x, Value.int .i64 z] 214) = w6 at *
        have kx0 := cell_of_row hr7 0
        have kx1 := cell_of_row hr7 1
        simp only [List.getElem?_toArray, List.getElem?_cons_zero, List.getElem?_cons_succ] at kx0 kx1
        clear hr6 hr7 hb6
        refine ⟨hB6, ?_⟩
        refine wpAnyH_done (by kernel_rfl) ?_ _
        have own6 := hownE.below hB6
        have hch6 := hchE.trans (chg_of_below hB6)
        have hgood : goodP (x, z) := ⟨wf_int x (by omega), wf_int z (by omega)⟩
        have hhas := hA'.has (x, z) hgood
        have HVAL := hid (fun v => hA'.val (x, z) v hgood)
        have hwl : IntKind.i64.wrap ((M'.length : Int) + 1) = (M'.length : Int) + 1 := IntWalk.i64_in _ (by omega)
        cases hl : M'.lookup (x, z) with
        | some v =>
          rw [hl] at hhas
          have HL := hid hl
          clear hl
          go_wp2_with (first
            | (at_lookup; refine wpList_lookup_own_ok_int _ rfl _ _ 204 rfl 214 3 .i64 shown_law map1_under int_under (zeroInt _) bm kk _ rfl own6 _ _ rfl (key_pair x z hgood.1 hgood.2) ?_; intro cv hat hwc; rw [show Maps.has D' (klOf x z) = true from hhas]))
          have hcv : cv = v := by have := HVAL.out v HL.out; rw [show klP (x, z) = klOf x z from rfl, hat] at this; simpa using this
          subst hcv
          have hvb := HMB'.out _ (lookup_mem HL.out)
          go_roundw
          case rel => exact ⟨k + 1, cv, M', D', kk, by omega, by go_num, rfl, hvb.1, hvb.2, hid (by rw [← HI.out, HD.out, classS, HL.out]), hA', own6, by omega, by omega, HMB', hch6⟩
          case measure => simp [intOf]; omega
        | none =>
          rw [hl] at hhas
          have HL := hid hl
          clear hl
          go_wp2_with (first
            | (at_lookup; refine wpList_lookup_own_ok_int _ rfl _ _ 204 rfl 214 3 .i64 shown_law map1_under int_under (zeroInt _) bm kk _ rfl own6 _ _ rfl (key_pair x z hgood.1 hgood.2) ?_; intro cv hat hwc; rw [show Maps.has D' (klOf x z) = false from hhas])
            | (at_len; refine wpList_len_own _ rfl _ 204 rfl 214 3 map1_under _ bm kk _ rfl own6 ?_; rw [hA'.size])
            | (at_mapUpdate; refine wpList_mapUpdate_own _ rfl _ _ _ 204 rfl 214 3 shown_law map1_under _ bm kk _ rfl own6 (by unfold maxLen; omega) _ _ _ rfl rfl (key_pair x z hgood.1 hgood.2) _ [] (plainElem_int int_under (wf_int ((M'.length : Int) + 1) (by omega))) ?_; intro w7 own7 hg7))
          go_roundw
          case rel => exact ⟨k + 1, (M'.length : Int) + 1, M' ++ [((x, z), (M'.length : Int) + 1)], _, kk + 1, by omega, by go_num, rfl, by omega, by omega, hid (by rw [← HI.out, HD.out, classS, HL.out]), hA'.put_new klP_inj (x, z) hgood (klP_key _) HL.out _, own7, by omega, by simp; omega, hid (fun p hp => by rcases List.mem_append.1 hp with hp | hp; exact HMB'.out p hp; simp at hp; subst hp; simp; omega), hch6.trans ⟨hg7.os, hg7.tape, hg7.output, hg7.size, fun b hb hne => hg7.block b hb (fun e => hne (by simpa using e))⟩⟩
          case measure => simp [intOf]; omega
      · refine wpOp_of_wp rfl (by rfl) ?_
        go_simp
        have hb6 := (Below.refl E.heap.size E).alloc (Nat.le_refl _) (Obj.cells #[Value.int .i64 0, Value.int .i64 0] 214)
        refine ⟨hb6, ?_⟩
        have hr6 := heap_new E (Obj.cells #[Value.int .i64 0, Value.int .i64 0] 214)
        have hs6 : (E.alloc (Obj.cells #[Value.int .i64 0, Value.int .i64 0] 214)).heap.size = E.heap.size + 1 := by simp
        generalize E.alloc (Obj.cells #[Value.int .i64 0, Value.int .i64 0] 214) = E1 at *
        refine wpAnyH_all (rs := [7]) (by kernel_rfl) (by simp) (fun q hq => ?_)
        obtain rfl := List.mem_singleton.1 hq
        clear hq
        refine wpOp_of_wp rfl (by rfl) ?_
        go_simp
        refine (of_any c hg _ n s s0 s1 s2 hs t _ (by omega) (hceE.below (hb6.mono (by omega))) ht.1 ht.2).mono ?_
        rw [HZ.out]
        rintro e w5 ⟨rfl, hb5⟩
        have hb7 := hb6.trans (hb5.mono hb6.size)
        refine ⟨hb7, ?_⟩
        try simp only [Act.put, List.setIfInBounds_toArray, List.set_cons_zero, List.set_cons_succ]
        refine wpAnyH_take (i := 8) (v := .agg #[.int .i64 x, .int .i64 z]) rfl (by kernel_rfl) (by kernel_rfl) (by kernel_rfl) (fun _ _ _ h => h) (.inl ⟨by rfl, ?_⟩) hb7 ?_
        · intro w' hw'
          go_simp
        simp only [Act.put, List.setIfInBounds_toArray]
        have hr5 := (hb5.block E.heap.size (by omega)).trans hr6
        have j0 := cell_of_row hr5 0
        have j1 := cell_of_row hr5 1
        have j0f := frozen_of_row hr5 0
        have j1f := frozen_of_row hr5 1
        simp only [List.getElem?_toArray, List.getElem?_cons_zero, List.getElem?_cons_succ] at j0 j1
        have HB7 := hid hb7
        clear hb6 hb5 hb7 hr6
        refine wpAnyH_all (rs := [10]) (by kernel_rfl) (by simp) (fun q hq => ?_)
        obtain rfl := List.mem_singleton.1 hq
        clear hq
        refine wpOp_of_wp rfl (by rfl) ?_
        go_simp
        have hB6 : Below E.heap.size E ((w5.setCell ⟨E.heap.size, 0, none⟩ (.int .i64 x)).setCell ⟨E.heap.size, 1, none⟩ (.int .i64 z)) := (HB7.out.setCell (p := ⟨E.heap.size, 0, none⟩) (Nat.le_refl _) _).setCell (p := ⟨E.heap.size, 1, none⟩) (Nat.le_refl _) _
        have hr7 := row_set (row_set hr5 0 (.int .i64 x)) 1 (.int .i64 z)
        generalize ((w5.setCell ⟨E.heap.size, 0, none⟩ (.int .i64 x)).setCell ⟨E.heap.size, 1, none⟩ (.int .i64 z)) = w6 at *
        have kx0 := cell_of_row hr7 0
        have kx1 := cell_of_row hr7 1
        simp only [List.setIfInBounds_toArray, List.set_cons_zero, List.set_cons_succ, List.getElem?_toArray, List.getElem?_cons_zero, List.getElem?_cons_succ] at kx0 kx1
        clear hr7 hr5 j0 j1 j0f j1f
        refine ⟨hB6, ?_⟩
        refine wpAnyH_done (by kernel_rfl) ?_ _
        have own6 := hownE.below hB6
        have hch6 := hchE.trans (chg_of_below hB6)
        have hgood : goodP (x, z) := ⟨wf_int x (by omega), wf_int z (by omega)⟩
        have hhas := hA'.has (x, z) hgood
        have HVAL := hid (fun v => hA'.val (x, z) v hgood)
        have hwl : IntKind.i64.wrap ((M'.length : Int) + 1) = (M'.length : Int) + 1 := IntWalk.i64_in _ (by omega)
        cases hl : M'.lookup (x, z) with
        | some v =>
          rw [hl] at hhas
          have HL := hid hl
          clear hl
          go_wp2_with (first
            | (at_lookup; refine wpList_lookup_own_ok_int _ rfl _ _ 204 rfl 214 3 .i64 shown_law map1_under int_under (zeroInt _) bm kk _ rfl own6 _ _ rfl (key_pair x z hgood.1 hgood.2) ?_; intro cv hat hwc; rw [show Maps.has D' (klOf x z) = true from hhas]))
          have hcv : cv = v := by have := HVAL.out v HL.out; rw [show klP (x, z) = klOf x z from rfl, hat] at this; simpa using this
          subst hcv
          have hvb := HMB'.out _ (lookup_mem HL.out)
          go_roundw
          case rel => exact ⟨k + 1, cv, M', D', kk, by omega, by go_num, rfl, hvb.1, hvb.2, hid (by rw [← HI.out, HD.out, classS, HL.out]), hA', own6, by omega, by omega, HMB', hch6⟩
          case measure => simp [intOf]; omega
        | none =>
          rw [hl] at hhas
          have HL := hid hl
          clear hl
          go_wp2_with (first
            | (at_lookup; refine wpList_lookup_own_ok_int _ rfl _ _ 204 rfl 214 3 .i64 shown_law map1_under int_under (zeroInt _) bm kk _ rfl own6 _ _ rfl (key_pair x z hgood.1 hgood.2) ?_; intro cv hat hwc; rw [show Maps.has D' (klOf x z) = false from hhas])
            | (at_len; refine wpList_len_own _ rfl _ 204 rfl 214 3 map1_under _ bm kk _ rfl own6 ?_; rw [hA'.size])
            | (at_mapUpdate; refine wpList_mapUpdate_own _ rfl _ _ _ 204 rfl 214 3 shown_law map1_under _ bm kk _ rfl own6 (by unfold maxLen; omega) _ _ _ rfl rfl (key_pair x z hgood.1 hgood.2) _ [] (plainElem_int int_under (wf_int ((M'.length : Int) + 1) (by omega))) ?_; intro w7 own7 hg7))
          go_roundw
          case rel => exact ⟨k + 1, (M'.length : Int) + 1, M' ++ [((x, z), (M'.length : Int) + 1)], _, kk + 1, by omega, by go_num, rfl, by omega, by omega, hid (by rw [← HI.out, HD.out, classS, HL.out]), hA'.put_new klP_inj (x, z) hgood (klP_key _) HL.out _, own7, by omega, by simp; omega, hid (fun p hp => by rcases List.mem_append.1 hp with hp | hp; exact HMB'.out p hp; simp at hp; subst hp; simp; omega), hch6.trans ⟨hg7.os, hg7.tape, hg7.output, hg7.size, fun b hb hne => hg7.block b hb (fun e => hne (by simpa using e))⟩⟩
          case measure => simp [intOf]; omega
    · have HE := hid (show (classS M' x [] : List ((Int × Int) × Int) × Int) = classS M 0 (ts.map (ofT c s)) by rw [← HI.out, List.drop_eq_nil_of_le (by omega)]; rfl)
      go_wp2
      go_ret
      rw [← HE.out]
      exact ⟨rfl, (chg_of_below hWb).trans hch, D', kk, by omega, hown', hA'⟩
end Go.Proofs.Ytjddcaimjofihaa
