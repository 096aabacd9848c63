/- Contracts of package cask: First, the shortest list that passes, Leave; no condition. -/
import Derived.Test.YtjddcaimjofihaaB5
import Derived.Lib.SliceRun
import Derived.OrdersHeld
import Derived.WalkMore
namespace Go.Proofs.Ytjddcaimjofihaa
open Go.RowKit Go.Shelf
set_option maxRecDepth 100000

/-- The cellar with its first trials alone. -/
def upTo (c : Ce) (k : Nat) : Ce := { c with trials := c.trials.take k }
/-- The first wrong trial from the k-th one on; none if there is none. -/
def firstFrom (c : Ce) : List Nat → Option Nat
  | [] => none
  | k :: ks => if possible (upTo c (k + 1)) [] then firstFrom c ks else some k
def firstOf (c : Ce) : Option Nat := firstFrom c (List.range c.trials.length)

theorem upTo_good {c : Ce} (hg : Good c) (k : Nat) : Good (upTo c k) := by
  obtain ⟨h1, h2⟩ := hg
  refine ⟨?_, ?_⟩
  · simp only [sizes, Bool.or_eq_false_iff, decide_eq_false_iff_not] at h1 ⊢
    exact ⟨h1.1, by simp only [upTo, List.length_take]; omega⟩
  · simp only [partsOk, Bool.and_eq_true] at h2 ⊢
    exact ⟨h2.1, List.all_eq_true.2 fun t ht => List.all_eq_true.1 h2.2 t (List.mem_of_mem_take ht)⟩

theorem Sl.take {α : Type} {sz : Nat} {enc : α → List Value} {S : Nat → Prop} {w : World} {a : Option Addr} {cap : Nat} {l : List α} (h : Sl sz enc S w (.slice a l.length cap) l) (k : Nat) (hk : k ≤ l.length) : Sl sz enc S w (.slice a k cap) (l.take k) := by
  obtain ⟨a', cap', he, hcap, h⟩ := h
  cases he
  refine ⟨a, cap, by simp; omega, by simp; omega, ?_⟩
  rcases h with h | ⟨b, off, ha, hb, hc⟩
  · left; simp [h]
  · right
    refine ⟨b, off, ha, hb, fun j x hj => hc j x ?_⟩
    rw [List.getElem?_take] at hj
    split at hj
    · exact hj
    · cases hj

theorem CeV.upTo {S : Nat → Prop} {w : World} {c : Ce} {hv kv : Value} {ta : Option Addr} {tc : Nat} (h : CeV S w (.agg #[hv, kv, .slice ta c.trials.length tc]) c) (k : Nat) (hk : k ≤ c.trials.length) : CeV S w (.agg #[hv, kv, .slice ta k tc]) (upTo c k) := by
  obtain ⟨hv', kv', tv', he, h1, h2, h3⟩ := h
  cases he
  exact ⟨_, _, _, rfl, h1, h2, h3.take k hk⟩

theorem First_fault (c : Ce) (vc : Value) (n : Nat) (w : World) (hn : n ≤ w.heap.size) (h : CeV (Lt n) w vc c) (hsm : Small c) (hf : fault c ≠ 0) :
    Calls Try.prog 29 #[vc] w (RetTwo 0 (fault c) w) := by
  have h' := h
  obtain ⟨ha, hc, ka, kc, ta, tc, rfl, -, -, -⟩ := h.open
  have hne : (fault c != 0) = true := by rw [bne_iff_ne]; exact hf
  generalize hfc : fault c = fc at *
  have HF := hid hfc
  clear hf hfc
  go_enter Try.func29, Try.ntmps29
  go_wp2_with (go_at_call 57; refine (check_any c _ n _ (by simp; omega) (h'.below (below_alloc1 hn _)) hsm).mono ?_; rw [HF.out]; rintro e w2 ⟨rfl, hb2⟩)
  go_ret2
  exact ⟨rfl, below_after (below_alloc1 (Nat.le_refl _) _) hb2 (Nat.le_refl _)⟩

def firstN (r : Option Nat) : Int := match r with | some k => k | none => 0
def firstE (r : Option Nat) : Int := if r.isSome then 0 else 7

set_option maxHeartbeats 1000000 in
theorem First_ok (c : Ce) (vc : Value) (n : Nat) (w : World) (hn : n ≤ w.heap.size) (h : CeV (Lt n) w vc c) (hf : fault c = 0) :
    Calls Try.prog 29 #[vc] w (RetTwo (firstN (firstOf c)) (firstE (firstOf c)) w) := by
  have h' := h
  obtain ⟨ha, hc, ka, kc, ta, tc, rfl, -, -, H3⟩ := h.open
  obtain ⟨_, _, he, hcap, -⟩ := H3.at
  cases he
  clear H3
  have hg := (fault_good hf).1
  obtain ⟨⟨g1, g2, g3, g4⟩, -⟩ := hg.facts
  have HF := hid hf
  clear hf
  go_enter Try.func29, Try.ntmps29
  go_wp2_with (go_at_call 57; refine (check_any c _ n _ (by simp; omega) (h'.below (below_alloc1 hn _)) hg.small).mono ?_; rw [HF.out]; rintro e w2 ⟨rfl, hb2⟩; have hb3 := below_after (below_alloc1 (Nat.le_refl _) _) hb2 (Nat.le_refl _); obtain ⟨hc2, hf2⟩ := bcell hb2; have hz2 : w.heap.size < w2.heap.size := (by have := hb2.size; simp at this; omega))
  have b2 : w2.cell? ⟨w.heap.size, 2, none⟩ = some (.slice ta c.trials.length tc) := by go_simp
  obtain ⟨W3, hW3⟩ : ∃ W3, W3 = w2.alloc (Obj.cells #[Value.slice ha c.heaps.length hc, Value.slice ka c.casks.length kc, Value.slice ta c.trials.length tc] 35) := ⟨_, rfl⟩
  rw [← hW3]
  have hs3 : W3.heap.size = w2.heap.size + 1 := by rw [hW3]; simp
  have hb4 : Below w2.heap.size w2 W3 := by rw [hW3]; exact below_alloc1 (Nat.le_refl _) _
  have hr3 : W3.heap[w2.heap.size]? = some (.cells #[.slice ha c.heaps.length hc, .slice ka c.casks.length kc, .slice ta c.trials.length tc] 35 (0, 0)) := by rw [hW3]; exact heap_new _ _
  have hc3 := (hb4.cell (p := ⟨w.heap.size, 2, none⟩) hz2).trans b2
  have HB3 := hid (below_after hb3 hb4 (Nat.le_refl _))
  clear hW3 hc2 hf2 hb2 hb3 b2 hb4
  go_loopw [16] (fun i wr => ∃ k : Nat, k ≤ c.trials.length ∧ i = .int .i64 k ∧ Hid (firstFrom c ((List.range c.trials.length).drop k) = firstOf c) ∧ Below w.heap.size w wr ∧ w2.heap.size < wr.heap.size ∧ wr.cell? ⟨w.heap.size, 2, none⟩ = some (.slice ta c.trials.length tc) ∧ ∃ tl, wr.heap[w2.heap.size]? = some (.cells #[.slice ha c.heaps.length hc, .slice ka c.casks.length kc, tl] 35 (0, 0))) (fun i _ => c.trials.length - (intOf i).toNat)
  case atStart => exact ⟨0, by omega, rfl, hid rfl, HB3.out, by omega, hc3, _, hr3⟩
  case round =>
    obtain ⟨k, hk, rfl, HI, hb, hsz, htr, tl, hrow⟩ := hrel
    by_cases hlt : k < c.trials.length
    · have e0 := cell_of_row hrow 0
      have e1 := cell_of_row hrow 1
      have e2 := cell_of_row hrow 2
      have e2f := frozen_of_row hrow 2
      have hr2 := row_set hrow 2 (.slice ta (k + 1) tc)
      simp only [List.getElem?_toArray, List.getElem?_cons_zero, List.getElem?_cons_succ] at e0 e1 e2
      have hcap2 : (k : Int) + 1 ≤ tc := by omega
      have hwk : IntKind.i64.wrap ((k : Int) + 1) = (k : Int) + 1 := IntWalk.i64_in _ (by omega)
      have hbs : Below w.heap.size w (wr.setCell ⟨w2.heap.size, 2, none⟩ (.slice ta (k + 1) tc)) := hb.setCell (p := ⟨w2.heap.size, 2, none⟩) (by show w.heap.size ≤ w2.heap.size; omega) _
      have hce := (h'.below (hbs.mono hn)).upTo (k + 1) (by omega)
      have HD := hid (show firstFrom c ((List.range c.trials.length).drop k) = if possible (upTo c (k + 1)) [] then firstFrom c ((List.range c.trials.length).drop (k + 1)) else some k by
        rw [List.drop_eq_getElem_cons (by simpa using hlt), List.getElem_range]; rfl)
      have hse : (wr.setCell ⟨w2.heap.size, 2, none⟩ (.slice ta (k + 1) tc)).heap.size = wr.heap.size := by simp [World.setCell]
      have htr' : (wr.setCell ⟨w2.heap.size, 2, none⟩ (.slice ta (k + 1) tc)).cell? ⟨w.heap.size, 2, none⟩ = some (.slice ta c.trials.length tc) := (World.cell?_of_block (Below.heap_setCell _ _ _ _ (by show w.heap.size ≠ w2.heap.size; omega))).trans htr
      have HP := hid (possible_any (upTo c (k + 1)) (upTo_good hg (k + 1)) (.agg #[.slice ha c.heaps.length hc, .slice ka c.casks.length kc, .slice ta (k + 1) tc]) [] (.slice none 0 0) n (wr.setCell ⟨w2.heap.size, 2, none⟩ (.slice ta (k + 1) tc)) (by omega) hce Sl.nil (by simp))
      generalize possible (upTo c (k + 1)) [] = pb at *
      cases pb with
      | true =>
        go_wp2_with (go_at_call 88; refine HP.out.mono ?_; rintro e w5 ⟨rfl, hb5⟩)
        go_roundw
        case rel => exact ⟨k + 1, by omega, by go_num, hid (by rw [← HI.out, HD.out]; rfl), hbs.trans (hb5.mono hbs.size), by have := hb5.size; omega, (hb5.cell (p := ⟨w.heap.size, 2, none⟩) (by show w.heap.size < _; omega)).trans htr', _, (hb5.block _ (by omega)).trans hr2⟩
        case measure => simp [intOf]; omega
      | false =>
        go_wp2_with (go_at_call 88; refine HP.out.mono ?_; rintro e w5 ⟨rfl, hb5⟩)
        go_ret2
        have hfin : firstOf c = some k := by rw [← HI.out, HD.out]; rfl
        rw [hfin]
        exact ⟨rfl, hbs.trans (hb5.mono hbs.size)⟩
    · have hfin : firstOf c = none := by rw [← HI.out, List.drop_eq_nil_of_le (by simp; omega)]; rfl
      go_wp2
      go_ret2
      rw [hfin]
      exact ⟨rfl, hb⟩
end Go.Proofs.Ytjddcaimjofihaa

namespace Go.Proofs.Ytjddcaimjofihaa
open Go.RowKit Go.Shelf
set_option maxRecDepth 100000

abbrev encI : Int → List Value := fun n => [Value.int .i64 n]
theorem encI_length (n : Int) : (encI n).length = 1 := rfl
theorem encI_one (n : Int) : ∀ u ∈ encI n, u.oneCell' = true := by intro u hu; simp only [encI, List.mem_singleton] at hu; subst hu; rfl
theorem ints_under : Try.prog.underlying 47 = some (.slice 3) := by kernel_rfl
theorem Clone_any (l : List Int) (v : Value) (n : Nat) (w : World) (_ : n ≤ w.heap.size) (h : Ints (Lt n) w v l) (hll : l.length ≤ 1000) :
    Calls Try.prog 135 #[v] w fun e w' => ∃ v', e = .returned v' ∧ Own w.heap.size 3 1 encI w' v' l ∧ Below w.heap.size w w' := by
  have heq : ∀ (w : World) (a : Option Addr) (n c n' c' : Nat), (binOp .eql 47 (.slice a n c) (.slice none n' c')).run Try.prog w = .ok (.bool a.isNone) w := fun w a n c n' c' => Lib.run_eql_slice_nil w _ _ a n c n' c' ints_under
  obtain ⟨a, cap, rfl, hcap, ho⟩ := h.open1
  cases a with
  | none =>
    have hl : l = [] := by
      rcases ho with h | ⟨b, off, h, -⟩
      · exact h
      · cases h
    subst hl
    have hz : (none : Option Addr).isNone = true := rfl
    go_enter Try.func135, Try.ntmps135
    go_wp2
    go_ret
    exact ⟨_, rfl, Own.nil, Below.refl _ _⟩
  | some p =>
    obtain ⟨i, hi, hz0, hz1, hz2⟩ := info_parts infoInt
    have HI := hid (And.intro hi (And.intro hz0 (And.intro hz1 hz2)))
    clear hi hz0 hz1 hz2
    go_enter Try.func135, Try.ntmps135
    have hnews : ∀ j u, (l.map (Value.int .i64))[j]? = some u → (w.alloc (.cells #[] 3)).cell? (p.add j) = some u := by
      intro j u hj
      have hjl : j < l.length := by have := (List.getElem?_eq_some_iff.1 hj).1; simpa using this
      rcases ho with h | ⟨b, off, hp, -, hc⟩
      · rw [h] at hjl; simp at hjl
      · cases hp
        rw [Addr.add_lit]
        refine Lib.cell?_alloc_some _ ?_
        rw [hc j hjl]
        rw [List.getElem?_map, List.getElem?_eq_getElem hjl] at hj
        exact hj
    have HNEWS := hid hnews
    clear hnews ho h
    go_wp2_with (at_builtin; refine wpList_append_own _ rfl _ _ 47 rfl w.heap.size 3 i (.int .i64 0) 1 8 ints_under HI.out.1 HI.out.2.1 HI.out.2.2.1 HI.out.2.2.2 rfl (by decide) _ _ _ rfl (World.ownsRow_made w #[] 0 (Nat.le_refl _) (Nat.zero_le _) rfl) p l.length cap (l.map (Value.int .i64)) rfl (by simp) HNEWS.out (by intro u hu; obtain ⟨x, _, rfl⟩ := List.mem_map.1 hu; rfl) (by unfold maxLen; omega) (by omega) (by simp) ?_; intro v' w1 hown hgrow hnil)
    go_ret
    refine ⟨v', rfl, ?_, ?_⟩
    · have : (l.flatMap encI) = l.map (Value.int .i64) := by rw [← List.flatMap_singleton' (l.map (Value.int .i64))]; simp [List.flatMap_map]
      unfold Own
      rw [this]
      simpa using hown
    · exact (below_alloc1 (Nat.le_refl _) (Obj.cells #[] 3)).grown hgrow (by simp) (fun k hk => by cases hk; exact Nat.le_refl _)
end Go.Proofs.Ytjddcaimjofihaa

namespace Go.Proofs.Ytjddcaimjofihaa
open Go.RowKit Go.Shelf
set_option maxRecDepth 100000

def leafS (p : List Int → Bool) (l : List Int) : Option (List Int) := if p l = true then some l else none
/-- The first list, in lexicographic order, of so many more rising numbers below another one, behind l, that passes. -/
def addS (p : List Int → Bool) (below : Nat) : Nat → List Int → Nat → Option (List Int)
  | 0, l, _ => leafS p l
  | m + 1, l, fr => (List.range (below - m - fr)).findSome? fun j : Nat => addS p below m (l ++ [((fr + j : Nat) : Int)]) (fr + j + 1)
def shortestS (p : List Int → Bool) (below : Nat) : Option (List Int) := (List.range (below + 1)).findSome? fun m : Nat => addS p below m [] 0

structure SHeld where
  N0 : Nat
  bf : Nat
  bp : Nat
  bb : Nat
  ba : Nat
  g : Nat
  first : Array Value
  cap : Array Value
  below : Nat
structure SLies (H : SHeld) (W0 W : World) : Prop where
  env : Below H.N0 W0 W
  lt : H.N0 ≤ H.bf ∧ H.bf < W.heap.size ∧ H.bp < W.heap.size ∧ H.bb < W.heap.size ∧ H.ba < W.heap.size
  ne : H.bp ≠ H.bf ∧ H.bb ≠ H.bf ∧ H.ba ≠ H.bf
  pass : W.cell? ⟨H.bp, 0, none⟩ = some (.func (.func H.g) H.first H.cap)
  below : W.cell? ⟨H.bb, 0, none⟩ = some (.int .i64 H.below)
  add : W.cell? ⟨H.ba, 0, none⟩ = some (.func (.func 134) #[] #[.pointer (some ⟨H.bf, 0, none⟩), .pointer (some ⟨H.bp, 0, none⟩), .pointer (some ⟨H.bb, 0, none⟩), .pointer (some ⟨H.ba, 0, none⟩)])
  row : ∃ fv, W.heap[H.bf]? = some (.cells #[fv] 47 (0, 0))
/-- The blocks but that of what is found. -/
def SHeld.other (H : SHeld) (W : World) (b : Nat) : Prop := b < W.heap.size ∧ b ≠ H.bf

theorem SLies.chg {H : SHeld} {W0 W W' : World} (h : SLies H W0 W) (hc : Chg (fun b => b = H.bf) W W') (hr : ∃ fv, W'.heap[H.bf]? = some (.cells #[fv] 47 (0, 0))) : SLies H W0 W' := by
  obtain ⟨h1, h2, h3, h4, h5, h6, h7⟩ := h
  have hs := hc.size
  have hk : ∀ b, b < W.heap.size → b ≠ H.bf → W'.cell? ⟨b, 0, none⟩ = W.cell? ⟨b, 0, none⟩ := fun b hb hne => World.cell?_of_block (hc.block b hb hne)
  exact ⟨h1.trans (hc.below (by omega) (fun b hb => by omega)), by omega, h3, (hk _ h2.2.2.1 h3.1).trans h4, (hk _ h2.2.2.2.1 h3.2.1).trans h5, (hk _ h2.2.2.2.2 h3.2.2).trans h6, hr⟩
theorem SLies.below' {H : SHeld} {W0 W W' : World} (h : SLies H W0 W) (hb : Below W.heap.size W W') : SLies H W0 W' :=
  h.chg (chg_of_below hb) (h.row.imp fun _ hf => (hb.block _ h.lt.2.1).trans hf)

/-- How a call of add ends. -/
def AddPost (H : SHeld) (W0 W : World) (r : Option (List Int)) (e : Ending) (W' : World) : Prop :=
  e = .returned (.bool r.isSome) ∧ Chg (fun b => b = H.bf) W W' ∧ SLies H W0 W' ∧ ∀ x, r = some x → ∃ fv, W'.heap[H.bf]? = some (.cells #[fv] 47 (0, 0)) ∧ Ints (H.other W') W' fv x

/-- What pass does. -/
def PassOk (H : SHeld) (W0 : World) (p : List Int → Bool) : Prop :=
  ∀ (W' : World), Below H.N0 W0 W' → ∀ (l : List Int) (vl : Value), Ints (Lt W'.heap.size) W' vl l → l.length ≤ 1000 → (∀ x ∈ l, 0 ≤ x ∧ x < H.below) →
    Calls Try.prog H.g (H.first.push vl ++ H.cap) W' fun e w' => e = .returned (.bool (p l)) ∧ Below W'.heap.size W' w'

set_option maxHeartbeats 1000000 in
theorem add_leaf (H : SHeld) (W0 : World) (p : List Int → Bool) (hP : PassOk H W0 p) (eg : ∀ args w, (callFunc H.g args).run Try.prog w = .ok (.enter H.g args) w) (l : List Int) (vl : Value) (fr : Int) (W : World) (hL : SLies H W0 W) (hl : Ints (H.other W) W vl l) (hll : l.length ≤ 1000) (hlb : ∀ x ∈ l, 0 ≤ x ∧ x < H.below) :
    Calls Try.prog 134 #[vl, .int .i64 fr, .int .i64 0, .pointer (some ⟨H.bf, 0, none⟩), .pointer (some ⟨H.bp, 0, none⟩), .pointer (some ⟨H.bb, 0, none⟩), .pointer (some ⟨H.ba, 0, none⟩)] W
      (AddPost H W0 W (leafS p l)) := by
  have hL' := hL
  have hl' := hl
  obtain ⟨h1, h2, h3, h4, h5, h6, fv, h7⟩ := hL
  obtain ⟨la, lc, rfl, -, -⟩ := hl.open1
  have e0 := cell_of_row h7 0
  have e0f := frozen_of_row h7 0
  simp only [List.getElem?_toArray, List.getElem?_cons_zero] at e0
  have hr := row_set h7 0 (.slice la l.length lc)
  obtain ⟨W1, hW1⟩ : ∃ W1, W1 = W.setCell ⟨H.bf, 0, none⟩ (.slice la l.length lc) := ⟨_, rfl⟩
  rw [← hW1] at hr
  have hc1 : Chg (fun b => b = H.bf) W W1 := by rw [hW1]; exact chg_setCell (T := fun b => b = H.bf) W (p := ⟨H.bf, 0, none⟩) rfl _
  have hL1 := hL'.chg hc1 ⟨_, hr⟩
  have hk1 : Keep (H.other W) W W1 := ⟨hc1.size, fun b hb => hc1.block b hb.1 hb.2⟩
  have hs1 : W1.heap.size = W.heap.size := by rw [hW1]; simp [World.setCell]
  have hl1 : Ints (H.other W1) W1 (.slice la l.length lc) l := (hl'.keep hk1).mono fun b hb => ⟨by have := hb.1; omega, hb.2⟩
  have HC := hid (hP W1 hL1.env l _ (hl1.mono fun b hb => hb.1) hll hlb)
  have HW1 := hid hW1
  have HR := hid hr
  have hpass1 := hL1.pass
  clear hl hl' hlb hr hk1 h1 hP
  obtain ⟨N0, bf, bp, bb, ba, g, first, cap, below⟩ := H
  simp only at *
  go_enter Try.func134, Try.ntmps134
  go_wp2
  rw [← HW1.out]
  refine HC.out.mono ?_
  rintro e w2 ⟨rfl, hb2⟩
  go_wp2
  go_ret
  have hr2 := (hb2.block bf (by omega)).trans HR.out
  refine ⟨?_, hc1.trans (chg_of_below hb2), hL1.below' hb2, ?_⟩
  · unfold leafS; cases p l <;> rfl
  · intro x hx
    unfold leafS at hx
    split at hx
    · cases hx
      refine ⟨_, hr2, (hl1.keep ⟨hb2.size, fun b hb => hb2.block b hb.1⟩).mono fun b hb => ⟨Nat.lt_of_lt_of_le hb.1 hb2.size, hb.2⟩⟩
    · cases hx

theorem Own.lower {α : Type} {base base' : Nat} {e : TypeId} {sz : Nat} {enc : α → List Value} {w : World} {v : Value} {l : List α} (h : Own base e sz enc w v l) (hb : base' ≤ base) : Own base' e sz enc w v l := by
  obtain ⟨h1, h2⟩ := h
  refine ⟨h1, ?_⟩
  rcases h2 with h2 | ⟨g, cap, cur, rfl, h3, h4⟩
  · exact .inl h2
  · exact .inr ⟨g, cap, cur, rfl, by omega, h4⟩

theorem wpOp_of_wp {P : Program} {ops : Array Oper} {Q : Exit → Act → World → Prop} {i : Nat} {o : Oper} {K : Act → World → Prop} {a : Act} {w : World} (hi : ops[i]? = some o) (hw : Region.wanted o (yielded ops a.tmps) = true) (h : o.wp P a w K Q) : wpOp P ops Q i K a w := by
  unfold wpOp
  simp only [hi, hw, if_true]
  exact Or.inl h

theorem addS_succ (p : List Int → Bool) (below m : Nat) (l : List Int) (fr : Nat) : addS p below (m + 1) l fr = (List.range (below - m - fr)).findSome? fun j : Nat => addS p below m (l ++ [((fr + j : Nat) : Int)]) (fr + j + 1) := rfl

set_option maxHeartbeats 2000000 in
theorem add_any (H : SHeld) (W0 : World) (p : List Int → Bool) (hP : PassOk H W0 p) (eg : ∀ args w, (callFunc H.g args).run Try.prog w = .ok (.enter H.g args) w) (hbl : H.below ≤ 1000) (M : Nat) : ∀ (l : List Int) (vl : Value) (fr : Nat) (fi mi : Int), fi = fr → mi = M →
    ∀ (W : World), SLies H W0 W → Ints (H.other W) W vl l → l.length + M ≤ 1000 → fr ≤ 1000 → (∀ x ∈ l, 0 ≤ x ∧ x < H.below) →
    Calls Try.prog 134 #[vl, .int .i64 fi, .int .i64 mi, .pointer (some ⟨H.bf, 0, none⟩), .pointer (some ⟨H.bp, 0, none⟩), .pointer (some ⟨H.bb, 0, none⟩), .pointer (some ⟨H.ba, 0, none⟩)] W
      (AddPost H W0 W (addS p H.below M l fr)) := by
  induction M with
  | zero =>
    intro l vl fr fi mi hfi hmi W hL hl hll hfr hlb
    rw [hmi]
    exact add_leaf H W0 p hP eg l vl fi W hL hl (by omega) hlb
  | succ m ih =>
    intro l vl fr fi mi hfi hmi W hL hl hll hfr hlb
    have hmi' : mi = (m : Int) + 1 := by rw [hmi]; simp
    clear hmi
    subst hfi hmi'
    have IH := hid ih
    have HLB := hid hlb
    have HP := hid hP
    have HRES := hid (addS_succ p H.below m l fr)
    clear ih hlb hP eg
    obtain ⟨la, lc, rfl, -, -⟩ := hl.open1
    have hl' := hl
    have hL' := hL
    obtain ⟨n1, n2, n3⟩ := hL.ne
    have hlt := hL.lt
    have hx0 := hL.below
    clear hl hL
    obtain ⟨N0, bf, bp, bb, ba, g, first, cap, below⟩ := H
    simp only at *
    have hmz : (((m : Int) + 1) == 0) = false := by simp; omega
    go_enter Try.func134, Try.ntmps134
    go_wp2
    go_loopw [11] (fun i wr => ∃ (j : Nat) (x : Int), j ≤ below - m - fr ∧ i = .int .i64 x ∧ x = fr + j ∧ Hid (((List.range (below - m - fr)).drop j).findSome? (fun j : Nat => addS p below m (l ++ [((fr + j : Nat) : Int)]) (fr + j + 1)) = addS p below (m + 1) l fr) ∧ Chg (fun b => b = bf) W wr ∧ SLies ⟨N0, bf, bp, bb, ba, g, first, cap, below⟩ W0 wr) (fun i _ => (below - m - fr) + fr - (intOf i).toNat)
    case atStart => exact ⟨0, fr, by omega, rfl, by simp, hid HRES.out.symm, Chg.refl _ _, hL'⟩
    case round =>
      obtain ⟨j, x, hj, rfl, hx, HI, hch, hLj⟩ := hrel
      have hLj' := hLj
      have e0 := hLj.below
      have e1 := hLj.add
      simp only at e0 e1
      clear hLj
      have HWB := hid (show IntKind.i64.wrap ((below : Int) - ((m : Int) + 1)) = below - (m + 1) from IntWalk.i64_in _ (by omega))
      by_cases hjl : j < below - m - fr
      · have hle : x ≤ below - ((m : Int) + 1) := by omega
        have hwx : IntKind.i64.wrap (x + 1) = x + 1 := IntWalk.i64_in _ (by omega)
        have HWM := hid (show IntKind.i64.wrap (m : Int) = m from IntWalk.i64_in _ (by omega))
        have HWX := hid hwx
        clear hwx
        have HX := hid hx
        have hxlo : 0 ≤ x ∧ x < below := by omega
        have HXN : Hid (((fr + j : Nat) : Int) = x) := hid (by omega)
        obtain ⟨rr, hrr⟩ : ∃ rr, rr = addS p below m (l ++ [x]) (fr + j + 1) := ⟨_, rfl⟩
        have HRR := hid hrr
        clear hx hrr
        have HS := hid (findSome_drop (fun j : Nat => addS p below m (l ++ [((fr + j : Nat) : Int)]) (fr + j + 1)) (below - m - fr) j hjl)
        rw [HXN.out, ← HRR.out] at HS
        have hwb := HWB.out
        go_wp2
        clear hwb
        obtain ⟨D, hD⟩ : ∃ D, D = wr.drew := ⟨_, rfl⟩
        refine wp_region_held (S := fun w' => w'.cell? ⟨ba, 0, none⟩ = some (.func (.func 134) #[] #[.pointer (some ⟨bf, 0, none⟩), .pointer (some ⟨bp, 0, none⟩), .pointer (some ⟨bb, 0, none⟩), .pointer (some ⟨ba, 0, none⟩)])) (by kernel_rfl) ?_
        change wpAnyH _ _ _ _ _ _ _ _ wr.drew
        rw [← hD]
        have hBD : Below wr.heap.size wr D := by rw [hD]; exact (Below.refl _ _).drew
        have hLD := hLj'.below' hBD
        have hsD : D.heap.size = wr.heap.size := by rw [hD]; rfl
        have hchD : Chg (fun b => b = bf) W D := hch.trans (chg_of_below hBD)
        have hlD : Ints (Lt D.heap.size) D (.slice la l.length lc) l := (hl'.keep ⟨hchD.size, fun b hb => hchD.block b hb.1 hb.2⟩).mono fun b hb => by have := hb.1; have := hchD.size; show b < _; omega
        have hS0 := hLD.add
        have lba := hLD.lt.2.2.2.2
        have lbf := hLD.lt.2.1
        simp only at hS0 lba lbf
        clear hD hBD hsD e0 e1 hLj' hch
        refine wpAnyH_take (i := 0) (v := .func (.func 134) #[] #[.pointer (some ⟨bf, 0, none⟩), .pointer (some ⟨bp, 0, none⟩), .pointer (some ⟨bb, 0, none⟩), .pointer (some ⟨ba, 0, none⟩)]) rfl (by kernel_rfl) (by kernel_rfl) (by kernel_rfl) (fun _ _ _ h => h) (.inl ⟨by rfl, ?_⟩) hS0 ?_
        · intro w' hw'
          go_simp
        simp only [Act.put, List.setIfInBounds_toArray]
        refine wpAnyH_take (i := 1) (v := .slice la l.length lc) rfl (by kernel_rfl) (by kernel_rfl) (by kernel_rfl) (fun _ _ _ h => h) (.inl ⟨by rfl, ?_⟩) hS0 ?_
        · intro w' hw'
          go_simp
        simp only [Act.put]
        refine wpAnyH_take (i := 3) (v := .int .i64 x) rfl (by kernel_rfl) (by kernel_rfl) (by kernel_rfl) (fun _ _ _ h => h) (.inl ⟨by rfl, ?_⟩) hS0 ?_
        · intro w' hw'
          go_simp
        simp only [Act.put]
        refine wpAnyH_take (i := 6) (v := .int .i64 x) rfl (by kernel_rfl) (by kernel_rfl) (by kernel_rfl) (fun _ _ _ h => h) (.inl ⟨by rfl, ?_⟩) hS0 ?_
        · intro w' hw'
          go_simp
        simp only [Act.put]
        have hwx := HWX.out
        refine wpAnyH_take (i := 7) (v := .int .i64 (x + 1)) rfl (by kernel_rfl) (by kernel_rfl) (by kernel_rfl) (fun _ _ _ h => h) (.inl ⟨by rfl, ?_⟩) hS0 ?_
        · intro w' hw'
          go_simp
        simp only [Act.put]
        refine wpAnyH_take (i := 8) (v := .int .i64 ((m : Int) + 1)) rfl (by kernel_rfl) (by kernel_rfl) (by kernel_rfl) (fun _ _ _ h => h) (.inl ⟨by rfl, ?_⟩) hS0 ?_
        · intro w' hw'
          go_simp
        simp only [Act.put]
        have hwm := HWM.out
        refine wpAnyH_take (i := 9) (v := .int .i64 (m : Int)) rfl (by kernel_rfl) (by kernel_rfl) (by kernel_rfl) (fun _ _ _ h => h) (.inl ⟨by rfl, ?_⟩) hS0 ?_
        · intro w' hw'
          go_simp
        simp only [Act.put]
        refine wpAnyH_all (rs := [2, 4]) (by kernel_rfl) (by simp) (fun q hq => ?_)
        have hq2 : q = 2 ∨ q = 4 := by simpa using hq
        clear hq
        rcases hq2 with rfl | rfl
        · cases rr with
          | none =>
            refine wpOp_of_wp rfl (by rfl) ?_
            go_simp
            refine (Clone_any l _ D.heap.size D (Nat.le_refl _) hlD (by omega)).mono ?_
            rintro e w5 ⟨v5, rfl, hown5, hB5⟩
            refine ⟨(hB5.cell (p := ⟨ba, 0, none⟩) lba).trans hS0, ?_⟩
            try simp only [Act.put, List.setIfInBounds_toArray, List.set_cons_zero, List.set_cons_succ]
            obtain ⟨a5, c5, hv5, -, -⟩ := hown5.slLt encI_length
            obtain ⟨m5, hm5⟩ : ∃ m5, m5 = l.length := ⟨_, rfl⟩
            rw [← hm5] at hv5
            subst hv5
            clear hm5
            have hS5 : w5.cell? ⟨ba, 0, none⟩ = _ := (hB5.cell (p := ⟨ba, 0, none⟩) lba).trans hS0
            have lba5 : ba < w5.heap.size := by have := hB5.size; omega
            refine wpAnyH_all (rs := [4]) (by kernel_rfl) (by simp) (fun q hq => ?_)
            obtain rfl := List.mem_singleton.1 hq
            clear hq
            refine wpOp_of_wp rfl (by rfl) ?_
            go_simp
            have hS5' := ((below_alloc1 (Nat.le_refl w5.heap.size) (Obj.cells #[.int .i64 x] 3)).cell (p := ⟨ba, 0, none⟩) lba5).trans hS5
            have hown2 := hown5.below (below_alloc1 (Nat.le_refl _) (Obj.cells #[.int .i64 x] 3))
            have hB2 : Below D.heap.size D (w5.alloc (Obj.cells #[.int .i64 x] 3)) := hB5.alloc hB5.size _
            have hnew := cells_new w5 [Value.int .i64 x] 3
            refine wpAnyH_all (rs := [5]) (by kernel_rfl) (by simp) (fun q hq => ?_)
            obtain rfl := List.mem_singleton.1 hq
            clear hq
            refine wpOp_of_wp rfl (by rfl) ?_
            refine wp_append1 encI _ _ _ rfl D.heap.size 3 _ 1 8 ints_under infoInt rfl (by decide) encI_length encI_one _ l (by rfl) hown2 _ 1 x (by rfl) hnew (by omega) (by decide) (by have := hB2.size; omega) ?_
            intro v2 w6 hown6 hgr6
            have hB6 : Below D.heap.size D w6 := hown2.grown hgr6 hB2 (Nat.le_refl _) hB2.size
            have hS6 : w6.cell? ⟨ba, 0, none⟩ = _ := (hB6.cell (p := ⟨ba, 0, none⟩) lba).trans hS0
            refine ⟨hS6, ?_⟩
            simp only [Act.put, List.setIfInBounds_toArray]
            obtain ⟨a2, c2, hv2, -, -⟩ := hown6.slLt encI_length
            obtain ⟨m2, hm2⟩ : ∃ m2, m2 = (l ++ [x]).length := ⟨_, rfl⟩
            rw [← hm2] at hv2
            subst hv2
            have hint : Ints (SHeld.other ⟨N0, bf, bp, bb, ba, g, first, cap, below⟩ w6) w6 (.slice a2 m2 c2) (l ++ [x]) := (hown6.sl encI_length).mono fun b hb => ⟨hb.2, by show b ≠ bf; have := hb.1; omega⟩
            have hL6 := hLD.below' hB6
            have HCALL := hid (IH.out (l ++ [x]) (.slice a2 m2 c2) (fr + j + 1) (x + 1) m (by have := HX.out; omega) rfl w6 hL6 hint (by simp; omega) (by omega) (fun z hz => by
              rcases List.mem_append.1 hz with hz | hz
              · exact HLB.out z hz
              · have := HX.out; simp at hz; omega))
            rw [← HRR.out] at HCALL
            have HB6 := hid hB6
            clear hown6 hown2 hgr6 hnew hm2 hint hL6 hB6 hB2
            refine wpAnyH_all (rs := [10]) (by kernel_rfl) (by simp) (fun q hq => ?_)
            obtain rfl := List.mem_singleton.1 hq
            clear hq
            refine wpOp_of_wp rfl (by rfl) ?_
            go_simp
            refine HCALL.out.mono ?_
            rintro e w7 ⟨rfl, hch7, hL7, hfound⟩
            refine ⟨hL7.add, ?_⟩
            try simp only [Act.put, List.setIfInBounds_toArray, List.set_cons_zero, List.set_cons_succ]
            refine wpAnyH_done (by kernel_rfl) ?_ _
            go_wp2
            go_roundw
            case rel => exact ⟨j + 1, x + 1, by omega, by go_num, by have := HX.out; omega, hid (by rw [← HI.out, HS.out]; rfl), (hchD.trans (chg_of_below HB6.out)).trans hch7, hL7⟩
            case measure => have := HX.out; simp [intOf]; omega
          | some rr =>
            refine wpOp_of_wp rfl (by rfl) ?_
            go_simp
            refine (Clone_any l _ D.heap.size D (Nat.le_refl _) hlD (by omega)).mono ?_
            rintro e w5 ⟨v5, rfl, hown5, hB5⟩
            refine ⟨(hB5.cell (p := ⟨ba, 0, none⟩) lba).trans hS0, ?_⟩
            try simp only [Act.put, List.setIfInBounds_toArray, List.set_cons_zero, List.set_cons_succ]
            obtain ⟨a5, c5, hv5, -, -⟩ := hown5.slLt encI_length
            obtain ⟨m5, hm5⟩ : ∃ m5, m5 = l.length := ⟨_, rfl⟩
            rw [← hm5] at hv5
            subst hv5
            clear hm5
            have hS5 : w5.cell? ⟨ba, 0, none⟩ = _ := (hB5.cell (p := ⟨ba, 0, none⟩) lba).trans hS0
            have lba5 : ba < w5.heap.size := by have := hB5.size; omega
            refine wpAnyH_all (rs := [4]) (by kernel_rfl) (by simp) (fun q hq => ?_)
            obtain rfl := List.mem_singleton.1 hq
            clear hq
            refine wpOp_of_wp rfl (by rfl) ?_
            go_simp
            have hS5' := ((below_alloc1 (Nat.le_refl w5.heap.size) (Obj.cells #[.int .i64 x] 3)).cell (p := ⟨ba, 0, none⟩) lba5).trans hS5
            have hown2 := hown5.below (below_alloc1 (Nat.le_refl _) (Obj.cells #[.int .i64 x] 3))
            have hB2 : Below D.heap.size D (w5.alloc (Obj.cells #[.int .i64 x] 3)) := hB5.alloc hB5.size _
            have hnew := cells_new w5 [Value.int .i64 x] 3
            refine wpAnyH_all (rs := [5]) (by kernel_rfl) (by simp) (fun q hq => ?_)
            obtain rfl := List.mem_singleton.1 hq
            clear hq
            refine wpOp_of_wp rfl (by rfl) ?_
            refine wp_append1 encI _ _ _ rfl D.heap.size 3 _ 1 8 ints_under infoInt rfl (by decide) encI_length encI_one _ l (by rfl) hown2 _ 1 x (by rfl) hnew (by omega) (by decide) (by have := hB2.size; omega) ?_
            intro v2 w6 hown6 hgr6
            have hB6 : Below D.heap.size D w6 := hown2.grown hgr6 hB2 (Nat.le_refl _) hB2.size
            have hS6 : w6.cell? ⟨ba, 0, none⟩ = _ := (hB6.cell (p := ⟨ba, 0, none⟩) lba).trans hS0
            refine ⟨hS6, ?_⟩
            simp only [Act.put, List.setIfInBounds_toArray]
            obtain ⟨a2, c2, hv2, -, -⟩ := hown6.slLt encI_length
            obtain ⟨m2, hm2⟩ : ∃ m2, m2 = (l ++ [x]).length := ⟨_, rfl⟩
            rw [← hm2] at hv2
            subst hv2
            have hint : Ints (SHeld.other ⟨N0, bf, bp, bb, ba, g, first, cap, below⟩ w6) w6 (.slice a2 m2 c2) (l ++ [x]) := (hown6.sl encI_length).mono fun b hb => ⟨hb.2, by show b ≠ bf; have := hb.1; omega⟩
            have hL6 := hLD.below' hB6
            have HCALL := hid (IH.out (l ++ [x]) (.slice a2 m2 c2) (fr + j + 1) (x + 1) m (by have := HX.out; omega) rfl w6 hL6 hint (by simp; omega) (by omega) (fun z hz => by
              rcases List.mem_append.1 hz with hz | hz
              · exact HLB.out z hz
              · have := HX.out; simp at hz; omega))
            rw [← HRR.out] at HCALL
            have HB6 := hid hB6
            clear hown6 hown2 hgr6 hnew hm2 hint hL6 hB6 hB2
            refine wpAnyH_all (rs := [10]) (by kernel_rfl) (by simp) (fun q hq => ?_)
            obtain rfl := List.mem_singleton.1 hq
            clear hq
            refine wpOp_of_wp rfl (by rfl) ?_
            go_simp
            refine HCALL.out.mono ?_
            rintro e w7 ⟨rfl, hch7, hL7, hfound⟩
            refine ⟨hL7.add, ?_⟩
            try simp only [Act.put, List.setIfInBounds_toArray, List.set_cons_zero, List.set_cons_succ]
            refine wpAnyH_done (by kernel_rfl) ?_ _
            go_wp2
            go_ret
            have hfin : addS p below (m + 1) l fr = some rr := by rw [← HI.out, HS.out]; rfl
            rw [hfin]
            exact ⟨rfl, (hchD.trans (chg_of_below HB6.out)).trans hch7, hL7, hfound⟩
        · cases rr with
          | none =>
            refine wpOp_of_wp rfl (by rfl) ?_
            go_simp
            obtain ⟨E, hE⟩ : ∃ E, E = D.alloc (Obj.cells #[.int .i64 x] 3) := ⟨_, rfl⟩
            rw [← hE]
            have hBE : Below D.heap.size D E := by rw [hE]; exact below_alloc1 (Nat.le_refl _) _
            have hsE : E.heap.size = D.heap.size + 1 := by rw [hE]; simp
            have hnewE : ∀ i u, [Value.int .i64 x][i]? = some u → E.cell? ⟨D.heap.size, i, none⟩ = some u := by rw [hE]; exact cells_new D [Value.int .i64 x] 3
            have hlE : Ints (Lt E.heap.size) E (.slice la l.length lc) l := (hlD.below hBE).le hBE.size
            have hSE : E.cell? ⟨ba, 0, none⟩ = _ := (hBE.cell (p := ⟨ba, 0, none⟩) lba).trans hS0
            clear hE
            refine wpAnyH_all (rs := [2]) (by kernel_rfl) (by simp) (fun q hq => ?_)
            obtain rfl := List.mem_singleton.1 hq
            clear hq
            refine wpOp_of_wp rfl (by rfl) ?_
            go_simp
            refine (Clone_any l _ E.heap.size E (Nat.le_refl _) hlE (by omega)).mono ?_
            rintro e w5 ⟨v5, rfl, hown5, hB5⟩
            refine ⟨(hB5.cell (p := ⟨ba, 0, none⟩) (by show ba < _; omega)).trans hSE, ?_⟩
            try simp only [Act.put, List.setIfInBounds_toArray, List.set_cons_zero, List.set_cons_succ]
            obtain ⟨a5, c5, hv5, -, -⟩ := hown5.slLt encI_length
            obtain ⟨m5, hm5⟩ : ∃ m5, m5 = l.length := ⟨_, rfl⟩
            rw [← hm5] at hv5
            subst hv5
            clear hm5
            have hown2 : Own D.heap.size 3 1 encI w5 (.slice a5 m5 c5) l := Own.lower hown5 hBE.size
            have hB2 : Below D.heap.size D w5 := hBE.trans (hB5.mono hBE.size)
            have hnew : ∀ i u, [Value.int .i64 x][i]? = some u → w5.cell? ⟨D.heap.size, i, none⟩ = some u := fun i u hu => (hB5.cell (p := ⟨D.heap.size, i, none⟩) (by show D.heap.size < _; omega)).trans (hnewE i u hu)
            refine wpAnyH_all (rs := [5]) (by kernel_rfl) (by simp) (fun q hq => ?_)
            obtain rfl := List.mem_singleton.1 hq
            clear hq
            refine wpOp_of_wp rfl (by rfl) ?_
            refine wp_append1 encI _ _ _ rfl D.heap.size 3 _ 1 8 ints_under infoInt rfl (by decide) encI_length encI_one _ l (by rfl) hown2 _ 1 x (by rfl) hnew (by omega) (by decide) (by have := hB2.size; omega) ?_
            intro v2 w6 hown6 hgr6
            have hB6 : Below D.heap.size D w6 := hown2.grown hgr6 hB2 (Nat.le_refl _) hB2.size
            have hS6 : w6.cell? ⟨ba, 0, none⟩ = _ := (hB6.cell (p := ⟨ba, 0, none⟩) lba).trans hS0
            refine ⟨hS6, ?_⟩
            simp only [Act.put, List.setIfInBounds_toArray]
            obtain ⟨a2, c2, hv2, -, -⟩ := hown6.slLt encI_length
            obtain ⟨m2, hm2⟩ : ∃ m2, m2 = (l ++ [x]).length := ⟨_, rfl⟩
            rw [← hm2] at hv2
            subst hv2
            have hint : Ints (SHeld.other ⟨N0, bf, bp, bb, ba, g, first, cap, below⟩ w6) w6 (.slice a2 m2 c2) (l ++ [x]) := (hown6.sl encI_length).mono fun b hb => ⟨hb.2, by show b ≠ bf; have := hb.1; omega⟩
            have hL6 := hLD.below' hB6
            have HCALL := hid (IH.out (l ++ [x]) (.slice a2 m2 c2) (fr + j + 1) (x + 1) m (by have := HX.out; omega) rfl w6 hL6 hint (by simp; omega) (by omega) (fun z hz => by
              rcases List.mem_append.1 hz with hz | hz
              · exact HLB.out z hz
              · have := HX.out; simp at hz; omega))
            rw [← HRR.out] at HCALL
            have HB6 := hid hB6
            clear hown6 hown2 hgr6 hnew hm2 hint hL6 hB6 hB2
            refine wpAnyH_all (rs := [10]) (by kernel_rfl) (by simp) (fun q hq => ?_)
            obtain rfl := List.mem_singleton.1 hq
            clear hq
            refine wpOp_of_wp rfl (by rfl) ?_
            go_simp
            refine HCALL.out.mono ?_
            rintro e w7 ⟨rfl, hch7, hL7, hfound⟩
            refine ⟨hL7.add, ?_⟩
            try simp only [Act.put, List.setIfInBounds_toArray, List.set_cons_zero, List.set_cons_succ]
            refine wpAnyH_done (by kernel_rfl) ?_ _
            go_wp2
            go_roundw
            case rel => exact ⟨j + 1, x + 1, by omega, by go_num, by have := HX.out; omega, hid (by rw [← HI.out, HS.out]; rfl), (hchD.trans (chg_of_below HB6.out)).trans hch7, hL7⟩
            case measure => have := HX.out; simp [intOf]; omega
          | some rr =>
            refine wpOp_of_wp rfl (by rfl) ?_
            go_simp
            obtain ⟨E, hE⟩ : ∃ E, E = D.alloc (Obj.cells #[.int .i64 x] 3) := ⟨_, rfl⟩
            rw [← hE]
            have hBE : Below D.heap.size D E := by rw [hE]; exact below_alloc1 (Nat.le_refl _) _
            have hsE : E.heap.size = D.heap.size + 1 := by rw [hE]; simp
            have hnewE : ∀ i u, [Value.int .i64 x][i]? = some u → E.cell? ⟨D.heap.size, i, none⟩ = some u := by rw [hE]; exact cells_new D [Value.int .i64 x] 3
            have hlE : Ints (Lt E.heap.size) E (.slice la l.length lc) l := (hlD.below hBE).le hBE.size
            have hSE : E.cell? ⟨ba, 0, none⟩ = _ := (hBE.cell (p := ⟨ba, 0, none⟩) lba).trans hS0
            clear hE
            refine wpAnyH_all (rs := [2]) (by kernel_rfl) (by simp) (fun q hq => ?_)
            obtain rfl := List.mem_singleton.1 hq
            clear hq
            refine wpOp_of_wp rfl (by rfl) ?_
            go_simp
            refine (Clone_any l _ E.heap.size E (Nat.le_refl _) hlE (by omega)).mono ?_
            rintro e w5 ⟨v5, rfl, hown5, hB5⟩
            refine ⟨(hB5.cell (p := ⟨ba, 0, none⟩) (by show ba < _; omega)).trans hSE, ?_⟩
            try simp only [Act.put, List.setIfInBounds_toArray, List.set_cons_zero, List.set_cons_succ]
            obtain ⟨a5, c5, hv5, -, -⟩ := hown5.slLt encI_length
            obtain ⟨m5, hm5⟩ : ∃ m5, m5 = l.length := ⟨_, rfl⟩
            rw [← hm5] at hv5
            subst hv5
            clear hm5
            have hown2 : Own D.heap.size 3 1 encI w5 (.slice a5 m5 c5) l := Own.lower hown5 hBE.size
            have hB2 : Below D.heap.size D w5 := hBE.trans (hB5.mono hBE.size)
            have hnew : ∀ i u, [Value.int .i64 x][i]? = some u → w5.cell? ⟨D.heap.size, i, none⟩ = some u := fun i u hu => (hB5.cell (p := ⟨D.heap.size, i, none⟩) (by show D.heap.size < _; omega)).trans (hnewE i u hu)
            refine wpAnyH_all (rs := [5]) (by kernel_rfl) (by simp) (fun q hq => ?_)
            obtain rfl := List.mem_singleton.1 hq
            clear hq
            refine wpOp_of_wp rfl (by rfl) ?_
            refine wp_append1 encI _ _ _ rfl D.heap.size 3 _ 1 8 ints_under infoInt rfl (by decide) encI_length encI_one _ l (by rfl) hown2 _ 1 x (by rfl) hnew (by omega) (by decide) (by have := hB2.size; omega) ?_
            intro v2 w6 hown6 hgr6
            have hB6 : Below D.heap.size D w6 := hown2.grown hgr6 hB2 (Nat.le_refl _) hB2.size
            have hS6 : w6.cell? ⟨ba, 0, none⟩ = _ := (hB6.cell (p := ⟨ba, 0, none⟩) lba).trans hS0
            refine ⟨hS6, ?_⟩
            simp only [Act.put, List.setIfInBounds_toArray]
            obtain ⟨a2, c2, hv2, -, -⟩ := hown6.slLt encI_length
            obtain ⟨m2, hm2⟩ : ∃ m2, m2 = (l ++ [x]).length := ⟨_, rfl⟩
            rw [← hm2] at hv2
            subst hv2
            have hint : Ints (SHeld.other ⟨N0, bf, bp, bb, ba, g, first, cap, below⟩ w6) w6 (.slice a2 m2 c2) (l ++ [x]) := (hown6.sl encI_length).mono fun b hb => ⟨hb.2, by show b ≠ bf; have := hb.1; omega⟩
            have hL6 := hLD.below' hB6
            have HCALL := hid (IH.out (l ++ [x]) (.slice a2 m2 c2) (fr + j + 1) (x + 1) m (by have := HX.out; omega) rfl w6 hL6 hint (by simp; omega) (by omega) (fun z hz => by
              rcases List.mem_append.1 hz with hz | hz
              · exact HLB.out z hz
              · have := HX.out; simp at hz; omega))
            rw [← HRR.out] at HCALL
            have HB6 := hid hB6
            clear hown6 hown2 hgr6 hnew hm2 hint hL6 hB6 hB2
            refine wpAnyH_all (rs := [10]) (by kernel_rfl) (by simp) (fun q hq => ?_)
            obtain rfl := List.mem_singleton.1 hq
            clear hq
            refine wpOp_of_wp rfl (by rfl) ?_
            go_simp
            refine HCALL.out.mono ?_
            rintro e w7 ⟨rfl, hch7, hL7, hfound⟩
            refine ⟨hL7.add, ?_⟩
            try simp only [Act.put, List.setIfInBounds_toArray, List.set_cons_zero, List.set_cons_succ]
            refine wpAnyH_done (by kernel_rfl) ?_ _
            go_wp2
            go_ret
            have hfin : addS p below (m + 1) l fr = some rr := by rw [← HI.out, HS.out]; rfl
            rw [hfin]
            exact ⟨rfl, (hchD.trans (chg_of_below HB6.out)).trans hch7, hL7, hfound⟩
      · have hle : ¬ x ≤ below - ((m : Int) + 1) := by omega
        have hfin := hid (show addS p below (m + 1) l fr = none by rw [← HI.out, List.drop_eq_nil_of_le (by simp; omega)]; rfl)
        clear hx
        have hwb := HWB.out
        go_wp2
        go_ret
        rw [hfin.out]
        exact ⟨rfl, hch, hLj', fun x hx => by cases hx⟩
end Go.Proofs.Ytjddcaimjofihaa

namespace Go.Proofs.Ytjddcaimjofihaa
open Go.RowKit Go.Shelf
set_option maxRecDepth 100000

/-- What shortest returns, if some list passes. -/
def RetInts1 (l : List Int) (W : World) (e : Ending) (w' : World) : Prop := ∃ v, e = .returned v ∧ Ints (Lt w'.heap.size) w' v l ∧ Below W.heap.size W w'

set_option maxHeartbeats 1000000 in
theorem shortest_any (p : List Int → Bool) (below : Nat) (hbl : below ≤ 500) (g : Nat) (first cap : Array Value) (r : List Int) (hr : shortestS p below = some r) (w : World)
    (hP : ∀ (W' : World), Below w.heap.size w W' → ∀ (l : List Int) (vl : Value), Ints (Lt W'.heap.size) W' vl l → l.length ≤ 1000 → (∀ x ∈ l, 0 ≤ x ∧ x < below) →
      Calls Try.prog g (first.push vl ++ cap) W' fun e w' => e = .returned (.bool (p l)) ∧ Below W'.heap.size W' w')
    (eg : ∀ args w, (callFunc g args).run Try.prog w = .ok (.enter g args) w) :
    Calls Try.prog 89 #[.int .i64 below, .func (.func g) first cap] w (RetInts1 r w) := by
  have hmf : ∀ (fn : Fn) (first cap : Array Value) (w : World), (Instr.makeFunc fn first cap).run Try.prog w = .ok (.func fn first cap) w := fun _ _ _ _ => rfl
  obtain ⟨W, hW⟩ : ∃ W, W = (((w.alloc (.cells #[.int .i64 below] 3)).alloc (.cells #[.func (.func g) first cap] 134)).alloc (.cells #[.slice none 0 0] 47)).alloc
      (.cells #[.func (.func 134) #[] #[.pointer (some ⟨w.heap.size + 1 + 1, 0, none⟩), .pointer (some ⟨w.heap.size + 1, 0, none⟩), .pointer (some ⟨w.heap.size, 0, none⟩), .pointer (some ⟨w.heap.size + 1 + 1 + 1, 0, none⟩)]] 185) := ⟨_, rfl⟩
  obtain ⟨q0, q1, q2, q3⟩ := hW ▸ heap_four w _ _ _ _
  have hWs : W.heap.size = w.heap.size + 4 := by rw [hW]; simp
  have hWb : Below w.heap.size w W := by rw [hW]; exact below_alloc4 (Nat.le_refl _) _ _ _ _
  have hL0 : SLies ⟨w.heap.size, w.heap.size + 1 + 1, w.heap.size + 1, w.heap.size, w.heap.size + 1 + 1 + 1, g, first, cap, below⟩ w W :=
    ⟨hWb, by simp only; omega, by simp only; omega, cell_of_row q1 0, cell_of_row q0 0, cell_of_row q3 0, _, q2⟩
  have HADD := hid (add_any ⟨w.heap.size, w.heap.size + 1 + 1, w.heap.size + 1, w.heap.size, w.heap.size + 1 + 1 + 1, g, first, cap, below⟩ w p hP eg (by simp only; omega))
  have HRR := hid hr
  have hwb : IntKind.i64.wrap ((below : Int) + 1) = below + 1 := IntWalk.i64_in _ (by omega)
  have b0 : W.cell? ⟨w.heap.size, 0, none⟩ = some (.int .i64 below) := cell_of_row q0 0
  clear q0 q1 q2 q3 hP hr eg
  go_enter Try.func89, Try.ntmps89
  go_wp2
  go_step3
  go_wp2
  go_step3
  go_wp2
  rw [← hW]
  clear hW
  go_loopw [10] (fun i wr => ∃ m : Nat, m ≤ below + 1 ∧ i = .int .i64 m ∧ Hid (((List.range (below + 1)).drop m).findSome? (fun m : Nat => addS p below m [] 0) = some r) ∧ SLies ⟨w.heap.size, w.heap.size + 1 + 1, w.heap.size + 1, w.heap.size, w.heap.size + 1 + 1 + 1, g, first, cap, below⟩ w wr) (fun i _ => below + 1 - (intOf i).toNat)
  case atStart => exact ⟨0, by omega, rfl, hid HRR.out, hL0⟩
  case round =>
    obtain ⟨m, hm, rfl, HI, hL⟩ := hrel
    have e0 := hL.add
    have e1 := hL.lt
    simp only at e0 e1
    by_cases hlt : m < below + 1
    · have HS := hid (findSome_drop (fun m : Nat => addS p below m [] 0) (below + 1) m hlt)
      have HCALL := hid (HADD.out m [] (.slice none 0 0) 0 0 m rfl rfl wr hL Sl.nil (by simp; omega) (by omega) (by simp))
      try simp only at HCALL
      obtain ⟨rr, hrr⟩ : ∃ rr, rr = addS p below m [] 0 := ⟨_, rfl⟩
      rw [← hrr] at HCALL HS
      have hlt2 : (m : Int) < (below : Int) + 1 := by omega
      clear hrr
      cases rr with
      | none =>
        go_wp2_with (go_at_call 134; refine HCALL.out.mono ?_; rintro e w7 ⟨rfl, hch7, hL7, -⟩)
        go_roundw
        case rel => exact ⟨m + 1, by omega, by go_num, hid (by rw [← HI.out, HS.out]; rfl), hL7⟩
        case measure => simp [intOf]; omega
      | some rr =>
        have hrr : r = rr := by have := HI.out; rw [HS.out] at this; cases this; rfl
        subst hrr
        go_wp2_with (go_at_call 134; refine HCALL.out.mono ?_; rintro e w7 ⟨rfl, hch7, hL7, hfound⟩; obtain ⟨fv, hrow7, hints7⟩ := hfound _ rfl; have hints7' := hints7; obtain ⟨a7, c7, hv7, -, -⟩ := hints7.open1; obtain ⟨m7, hm7⟩ : ∃ m7, m7 = r.length := ⟨_, rfl⟩; rw [← hm7] at hv7; subst hv7; clear hm7; have k0 := cell_of_row hrow7 0; have k0f := frozen_of_row hrow7 0; simp only [List.getElem?_toArray, List.getElem?_cons_zero] at k0 k0f)
        have hB7 := hL7.env
        have hrf := row_set hrow7 0 (.slice a7 m7 c7)
        simp only at hrf hB7
        have q0 := cell_of_row hrf 0
        simp only [List.setIfInBounds_toArray, List.set_cons_zero, List.getElem?_toArray, List.getElem?_cons_zero] at q0
        have hs7 : (w7.setCell ⟨w.heap.size + 1 + 1, 0, none⟩ (.slice a7 m7 c7)).heap.size = w7.heap.size := by simp [World.setCell]
        refine bodyPost_ret (v := .slice a7 m7 c7) (by simp only [results, Try.results89]; simp [go_sem, q0]) rfl ⟨_, rfl, ?_, hB7.setCell (p := ⟨w.heap.size + 1 + 1, 0, none⟩) (by show w.heap.size ≤ w.heap.size + 1 + 1; omega) _⟩
        refine (hints7'.keep (w' := w7.setCell ⟨w.heap.size + 1 + 1, 0, none⟩ (.slice a7 m7 c7)) ⟨by omega, fun b hb => Below.heap_setCell _ _ _ _ hb.2⟩).mono fun b hb => by have := hb.1; show b < _; omega
    · have := HI.out
      rw [List.drop_eq_nil_of_le (by simp; omega)] at this
      cases this

/-- The smallest set of trials to leave out. -/
def leaveOf (c : Ce) : Option (List Int) := shortestS (possible c) c.trials.length

theorem Leave_fault (c : Ce) (vc : Value) (n : Nat) (w : World) (hn : n ≤ w.heap.size) (h : CeV (Lt n) w vc c) (hsm : Small c) (hf : fault c ≠ 0) :
    Calls Try.prog 30 #[vc] w (RetInts [] (fault c) w) := by
  have h' := h
  obtain ⟨ha, hc, ka, kc, ta, tc, rfl, -, -, -⟩ := h.open
  have hne : (fault c != 0) = true := by rw [bne_iff_ne]; exact hf
  generalize hfc : fault c = fc at *
  have HF := hid hfc
  clear hf hfc
  go_enter Try.func30, Try.ntmps30
  go_wp2_with (go_at_call 57; refine (check_any c _ n _ (by simp; omega) (h'.below (below_alloc1 hn _)) hsm).mono ?_; rw [HF.out]; rintro e w2 ⟨rfl, hb2⟩)
  go_ret2
  exact ⟨_, rfl, Sl.nil, below_after (below_alloc1 (Nat.le_refl _) _) hb2 (Nat.le_refl _)⟩

theorem push1 (a b : Value) : (#[a].push b ++ (#[] : Array Value)) = #[a, b] := by simp

theorem Leave_ok (c : Ce) (vc : Value) (n : Nat) (w : World) (hn : n ≤ w.heap.size) (h : CeV (Lt n) w vc c) (hf : fault c = 0) (r : List Int) (hr : leaveOf c = some r) :
    Calls Try.prog 30 #[vc] w (RetInts r 0 w) := by
  have hmf : ∀ (fn : Fn) (first cap : Array Value) (w : World), (Instr.makeFunc fn first cap).run Try.prog w = .ok (.func fn first cap) w := fun _ _ _ _ => rfl
  have h' := h
  obtain ⟨ha, hc, ka, kc, ta, tc, rfl, -, -, -⟩ := h.open
  have hg := (fault_good hf).1
  obtain ⟨⟨g1, g2, g3, g4⟩, -⟩ := hg.facts
  have HF := hid hf
  have HR := hid hr
  clear hf hr
  go_enter Try.func30, Try.ntmps30
  go_wp2_with (first
    | (go_at_call 57; refine (check_any c _ n _ (by simp; omega) (h'.below (below_alloc1 hn _)) hg.small).mono ?_; rw [HF.out]; rintro e w2 ⟨rfl, hb2⟩; have hb3 := below_after (below_alloc1 (Nat.le_refl _) _) hb2 (Nat.le_refl _); obtain ⟨hc2, hf2⟩ := bcell hb2; have hz2 : w.heap.size < w2.heap.size := (by have := hb2.size; simp at this; omega)))
  have hsh := shortest_any (possible c) c.trials.length (by omega) 88 #[.agg #[.slice ha c.heaps.length hc, .slice ka c.casks.length kc, .slice ta c.trials.length tc]] #[] r HR.out w2 (fun W' hB l vl hl hll _ => by
    rw [push1]
    exact possible_any c hg _ l vl W'.heap.size W' (Nat.le_refl _) ((h'.below ((hb3.trans (hB.mono (Nat.le_of_lt hz2))).mono hn)).le (by have := hB.size; omega)) hl hll) (enters_of Try.func88 (by kernel_rfl) rfl)
  refine hsh.mono ?_
  rintro e w5 ⟨v5, rfl, hi5, hb5⟩
  have hi5' := hi5
  obtain ⟨a5, c5, rfl, -, -⟩ := hi5.open1
  go_wp2
  go_ret2
  exact ⟨_, rfl, hi5', hb3.trans (hb5.mono (Nat.le_of_lt hz2))⟩
end Go.Proofs.Ytjddcaimjofihaa
