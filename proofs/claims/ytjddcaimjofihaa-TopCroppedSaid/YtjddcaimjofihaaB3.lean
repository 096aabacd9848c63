/- The iterator over the truths of a cellar, and possible; no condition. -/
import Derived.Test.YtjddcaimjofihaaB2
import Derived.TacticsInMore
import Derived.OwnWalkIn
import Derived.LoopNIn
import Derived.LoopIn
import Derived.Laws.EntriesVeiled
import Derived.RangeFuncLeaves
import Derived.Shelf.Abstract
namespace Go.Proofs.Ytjddcaimjofihaa
open Go.RowKit
set_option maxRecDepth 100000

/-- The strengths that are being chosen: the first ones are p, those behind the heaps are 0. -/
structure Chosen (hl : Nat) (p : List Int) (s0 s1 s2 : Int) : Prop where
  here : ∀ j, j < p.length → [s0, s1, s2].getD j 0 = p.getD j 0
  last : ∀ j, hl ≤ j → [s0, s1, s2].getD j 0 = 0
  bd : ∀ x ∈ [s0, s1, s2], 0 ≤ x ∧ x ≤ 1000

theorem Chosen.pad {hl : Nat} {p : List Int} {s0 s1 s2 : Int} (h : Chosen hl p s0 s1 s2) (hp : p.length = hl) (_ : hl ≤ 3) : pad3 p = [s0, s1, s2] := by
  obtain ⟨h1, h2, -⟩ := h
  have : ∀ j, j < 3 → [s0, s1, s2].getD j 0 = p.getD j 0 := fun j hj => by
    by_cases hlt : j < p.length
    · exact h1 j hlt
    · rw [h2 j (by omega), List.getD_eq_getElem?_getD, List.getElem?_eq_none (by omega)]; rfl
  have a := this 0 (by omega)
  have b := this 1 (by omega)
  have c := this 2 (by omega)
  simp at a b c
  simp [pad3, a, b, c]

theorem Chosen.shorter {hl : Nat} {p : List Int} {x s0 s1 s2 : Int} (h : Chosen hl (p ++ [x]) s0 s1 s2) : Chosen hl p s0 s1 s2 :=
  ⟨fun j hj => by
    have := h.here j (by simp; omega)
    rw [this, List.getD_eq_getElem?_getD, List.getD_eq_getElem?_getD, List.getElem?_append_left hj], h.last, h.bd⟩

/-- The blocks that the iterator holds. -/
structure Held where
  n : Nat
  bc : Nat
  bs : Nat
  bo : Nat
  by_ : Nat
  bh : Nat
  l : Nat
  hv : Value
  kv : Value
  tv : Value
  vo : Value

def Held.set (H : Held) (b : Nat) : Prop := b < H.n ∨ b = H.bc ∨ b = H.bo ∨ b = H.by_ ∨ b = H.bh ∨ b = H.bs

/-- What lies in them. -/
structure Lies (H : Held) (c : Ce) (out : List Int) (s0 s1 s2 : Int) (W : World) : Prop where
  size : H.n ≤ W.heap.size ∧ H.bc < W.heap.size ∧ H.bo < W.heap.size ∧ H.by_ < W.heap.size ∧ H.bh < W.heap.size
  other : H.n ≤ H.bs ∧ H.bc ≠ H.bs ∧ H.bo ≠ H.bs ∧ H.by_ ≠ H.bs ∧ H.bh ≠ H.bs
  cellar : CeV (Lt H.n) W (.agg #[H.hv, H.kv, H.tv]) c
  out : Ints (Lt H.n) W H.vo out
  bc : W.cell? ⟨H.bc, 0, none⟩ = some H.hv ∧ W.cell? ⟨H.bc, 1, none⟩ = some H.kv ∧ W.cell? ⟨H.bc, 2, none⟩ = some H.tv
  bo : W.cell? ⟨H.bo, 0, none⟩ = some H.vo
  by_ : W.cell? ⟨H.by_, 0, none⟩ = some (.func (.yield H.l) #[] #[])
  bh : W.cell? ⟨H.bh, 0, none⟩ = some (.func (.func 171) #[] #[.pointer (some ⟨H.bc, 0, none⟩), .pointer (some ⟨H.bs, 0, none⟩), .pointer (some ⟨H.bo, 0, none⟩), .pointer (some ⟨H.by_, 0, none⟩), .pointer (some ⟨H.bh, 0, none⟩)])
  row : W.heap[H.bs]? = some (.cells #[.int .i64 s0, .int .i64 s1, .int .i64 s2] 140 (0, 0))

theorem cell_same {A B : World} {b : Nat} (h : B.heap[b]? = A.heap[b]?) (o : Nat) : B.cell? ⟨b, o, none⟩ = A.cell? ⟨b, o, none⟩ := World.cell?_of_block (w := A) (a := ⟨b, o, none⟩) h

/-- All but the strengths lies as it lay. -/
theorem Lies.to {H : Held} {c : Ce} {out : List Int} {s0 s1 s2 : Int} {A B : World} (h : Lies H c out s0 s1 s2 A) (hs : A.heap.size ≤ B.heap.size) (hb : ∀ b, (b < H.n ∨ b = H.bc ∨ b = H.bo ∨ b = H.by_ ∨ b = H.bh) → B.heap[b]? = A.heap[b]?)
    {t0 t1 t2 : Int} (hr : B.heap[H.bs]? = some (.cells #[.int .i64 t0, .int .i64 t1, .int .i64 t2] 140 (0, 0))) : Lies H c out t0 t1 t2 B := by
  obtain ⟨a1, a2, a3, a4, ⟨b0, b1, b2⟩, a6, a7, a8, a9⟩ := h
  have k : Keep (Lt H.n) A B := ⟨hs, fun b hb' => hb b (.inl hb')⟩
  exact ⟨by omega, a2, a3.keep k, a4.keep k, ⟨(cell_same (hb H.bc (by simp)) 0).trans b0, (cell_same (hb H.bc (by simp)) 1).trans b1, (cell_same (hb H.bc (by simp)) 2).trans b2⟩,
    (cell_same (hb H.bo (by simp)) 0).trans a6, (cell_same (hb H.by_ (by simp)) 0).trans a7, (cell_same (hb H.bh (by simp)) 0).trans a8, hr⟩
theorem Lies.below {H : Held} {c : Ce} {out : List Int} {s0 s1 s2 : Int} {A B : World} (h : Lies H c out s0 s1 s2 A) (hb : Below A.heap.size A B) : Lies H c out s0 s1 s2 B := by
  have hs := h.size
  have hrow := h.row
  have hl := (Array.getElem?_eq_some_iff.1 hrow).1
  refine h.to hb.size (fun b hb' => hb.block b ?_) ((hb.block _ hl).trans hrow)
  rcases hb' with h | rfl | rfl | rfl | rfl <;> omega
theorem Lies.kept {H : Held} {c : Ce} {out : List Int} {s0 s1 s2 : Int} {A B : World} (h : Lies H c out s0 s1 s2 A) (hb : Kept H.set A B) : Lies H c out s0 s1 s2 B :=
  h.to hb.size (fun b hb' => hb.block b (by unfold Held.set; omega)) ((hb.block _ (by simp [Held.set])).trans h.row)

def encT (t : List Int) : Array Value := #[.agg #[.int .i64 (t.getD 0 0), .int .i64 (t.getD 1 0), .int .i64 (t.getD 2 0)]]

/-- How a call of choose ends. -/
def ChosePost (H : Held) (c : Ce) (out p : List Int) (J Jx : List (List Int) → World → Prop) (pre L : List (List Int)) (e : Ending) (W' : World) : Prop :=
  (e = .returned (.bool true) ∧ J (pre ++ L) W' ∧ ∃ s0 s1 s2, Lies H c out s0 s1 s2 W' ∧ Chosen c.heaps.length p s0 s1 s2) ∨ (e = .returned (.bool false) ∧ ∃ q, q <+: L ∧ Jx (pre ++ q) W')

/-- What yield does. -/
def YieldOk (H : Held) (J Jx : List (List Int) → World → Prop) (xs : List (List Int)) : Prop :=
  ∀ pre x W1, J pre W1 → pre ++ [x] <+: xs → YieldAt Fence.wide 0 Try.prog H.l (encT x) W1 fun e W' =>
      (e = .returned (.bool true) ∧ J (pre ++ [x]) W' ∧ Kept H.set W1 W') ∨ (e = .returned (.bool false) ∧ Jx (pre ++ [x]) W')

set_option maxHeartbeats 1000000 in
theorem choose_leaf (H : Held) (c : Ce) (hg : Good c) (out : List Int) (hol : out.length ≤ 1000) (J Jx : List (List Int) → World → Prop)
    (HJ : ∀ pre A B, J pre A → Chg (fun b => b = H.bs) A B → J pre B) (p : List Int) (xs : List (List Int)) (HY : YieldOk H J Jx xs) (hp : p.length = c.heaps.length)
    (pre : List (List Int)) (hmem : pre ++ truthsFrom c out p [] <+: xs) (W : World) (hJ : J pre W) (s0 s1 s2 : Int) (hL : Lies H c out s0 s1 s2 W) (hC : Chosen c.heaps.length p s0 s1 s2) :
    CallsIn Fence.wide 0 Try.prog 171 #[.int .i64 c.heaps.length, .pointer (some ⟨H.bc, 0, none⟩), .pointer (some ⟨H.bs, 0, none⟩), .pointer (some ⟨H.bo, 0, none⟩), .pointer (some ⟨H.by_, 0, none⟩), .pointer (some ⟨H.bh, 0, none⟩)] W
      (ChosePost H c out p J Jx pre (truthsFrom c out p [])) := by
  have hL' := hL
  obtain ⟨z1, z2, a3, a4, ⟨b0, b1, b2⟩, a6, a7, a8, a9⟩ := hL
  obtain ⟨⟨g1, g2, -, -⟩, -, -, -⟩ := hg.facts
  obtain ⟨n, bc, bs, bo, by_, bh, l, hv, kv, tv, vo⟩ := H
  simp only at *
  obtain ⟨ha, hc, ka, kc, ta, tc, e', -, -, -⟩ := a3.open
  cases e'
  have hpad := hC.pad hp g2
  have H3 : Three (pad3 p) s0 s1 s2 := ⟨hpad, by rw [hpad]; exact hC.bd⟩
  have r0 := cell_of_row a9 0
  have r1 := cell_of_row a9 1
  have r2 := cell_of_row a9 2
  simp only [List.getElem?_toArray, List.getElem?_cons_zero, List.getElem?_cons_succ] at r0 r1 r2
  have HX := hid (truthsFrom_nil c out p)
  obtain ⟨rt, hrt⟩ : ∃ rt, rt = right c (pad3 p) out := ⟨_, rfl⟩
  rw [← hrt] at HX
  have HRT := hid hrt
  have HENC := hid (show encT p = #[.agg #[.int .i64 s0, .int .i64 s1, .int .i64 s2]] by
    unfold pad3 at hpad; injection hpad with e0 e1; injection e1 with e1 e2; injection e2 with e2 e3; rw [encT, e0, e1, e2])
  have hwf : ∀ k, Fence.wide.fn k := fun _ => trivial
  have hwd : Fence.wide.depth = none := rfl
  clear hrt hpad a8
  refine callsIn_of_wp Try.func171 rfl trivial ?_ rfl
  simp only [Try.ntmps171, List.size_toArray, List.length_cons, List.length_nil, Nat.reduceAdd, Nat.reduceSub, Array.replicate_succ, Array.replicate_zero, List.push_toArray, List.append_toArray, List.nil_append, List.cons_append]
  cases rt
  · gi_wp2_with (gi_at_call 115; refine (callsIn_wide.2 (right_any c hg _ n (pad3 p) s0 s1 s2 H3 out _ _ z1.1 a3 a4 hol)).mono ?_; rw [← HRT.out]; rintro e w2 ⟨rfl, hb2⟩)
    have hJ2 := HJ _ _ _ hJ (chg_of_below hb2)
    go_ret
    exact .inl ⟨rfl, by rw [HX.out]; simpa using hJ2, s0, s1, s2, hL'.below hb2, hC⟩
  · have hx : pre ++ [p] <+: xs := by rw [HX.out] at hmem; exact hmem
    gi_wp2_with (gi_at_call 115; refine (callsIn_wide.2 (right_any c hg _ n (pad3 p) s0 s1 s2 H3 out _ _ z1.1 a3 a4 hol)).mono ?_; rw [← HRT.out]; rintro e w2 ⟨rfl, hb2⟩; have hJ2 := HJ _ _ _ hJ (chg_of_below hb2); have hL2 := hL'.below hb2; obtain ⟨fn, tmps, assign, body, hy, hR⟩ := HY pre p w2 hJ2 hx; simp only at hy; rw [HENC.out] at hy; have q1 := hL2.by_; have q0 := hL2.row; simp only at q1 q0; have q2 := cell_of_row q0 0; have q3 := cell_of_row q0 1; have q4 := cell_of_row q0 2; simp only [List.getElem?_toArray, List.getElem?_cons_zero, List.getElem?_cons_succ] at q2 q3 q4; clear q0)
    refine hR.mono ?_
    rintro e W3 (⟨rfl, hJ3, hk3⟩ | ⟨rfl, hJx3⟩)
    · gi_wp2
      go_ret
      exact .inl ⟨rfl, by rw [HX.out]; exact hJ3, s0, s1, s2, hL2.kept hk3, hC⟩
    · gi_wp2
      go_ret
      exact .inr ⟨rfl, [p], by rw [HX.out]; simp, hJx3⟩

theorem Lies.store {H : Held} {c : Ce} {out : List Int} {s0 s1 s2 : Int} {W : World} (h : Lies H c out s0 s1 s2 W) {k : Nat} (hk : k < 3) (v : Int) :
    ∃ t0 t1 t2, Lies H c out t0 t1 t2 (W.setCell ⟨H.bs, k, none⟩ (.int .i64 v)) ∧ [t0, t1, t2] = [s0, s1, s2].set k v := by
  have hs : W.heap.size ≤ (W.setCell ⟨H.bs, k, none⟩ (.int .i64 v)).heap.size := by simp [World.setCell]
  have hb : ∀ b, (b < H.n ∨ b = H.bc ∨ b = H.bo ∨ b = H.by_ ∨ b = H.bh) → (W.setCell ⟨H.bs, k, none⟩ (.int .i64 v)).heap[b]? = W.heap[b]? := fun b hb => by
    have ho := h.other
    refine Below.heap_setCell _ _ _ _ ?_
    show b ≠ H.bs
    omega
  have hr := row_set h.row k (.int .i64 v)
  have hk3 : k = 0 ∨ k = 1 ∨ k = 2 := by omega
  rcases hk3 with rfl | rfl | rfl
  · exact ⟨v, s1, s2, h.to hs hb hr, rfl⟩
  · exact ⟨s0, v, s2, h.to hs hb hr, rfl⟩
  · exact ⟨s0, s1, v, h.to hs hb hr, rfl⟩

theorem Chosen.push {hl : Nat} {p : List Int} {x s0 s1 s2 t0 t1 t2 : Int} (h : Chosen hl p s0 s1 s2) (hp : p.length < hl) (h3 : hl ≤ 3) (hx : 0 ≤ x ∧ x ≤ 1000) (ht : [t0, t1, t2] = [s0, s1, s2].set p.length x) : Chosen hl (p ++ [x]) t0 t1 t2 := by
  refine ⟨fun j hj => ?_, fun j hj => ?_, fun y hy => ?_⟩
  · rw [ht]
    by_cases hj' : j = p.length
    · subst hj'
      rw [List.getD_eq_getElem?_getD, List.getD_eq_getElem?_getD, List.getElem?_set_self (by simp; omega)]
      simp
    · have hlt : j < p.length := by simp at hj; omega
      have := h.here j hlt
      rw [List.getD_eq_getElem?_getD, List.getElem?_set_ne (by omega), ← List.getD_eq_getElem?_getD, this, List.getD_eq_getElem?_getD, List.getD_eq_getElem?_getD, List.getElem?_append_left hlt]
  · rw [ht, List.getD_eq_getElem?_getD, List.getElem?_set_ne (by omega), ← List.getD_eq_getElem?_getD]
    exact h.last j hj
  · rw [ht] at hy
    rcases List.mem_or_eq_of_mem_set hy with hy | rfl
    · exact h.bd y hy
    · exact hx

theorem flatMap_take {α β : Type} (l : List α) (f : α → List β) (j : Nat) (h : j < l.length) : (l.take (j + 1)).flatMap f = (l.take j).flatMap f ++ f l[j] := by
  rw [List.take_succ_eq_append_getElem h, List.flatMap_append]; simp
theorem flatMap_prefix {α β : Type} (l : List α) (f : α → List β) (j : Nat) (h : j < l.length) (q : List β) (hq : q <+: f l[j]) : (l.take j).flatMap f ++ q <+: l.flatMap f := by
  have : l.flatMap f = (l.take j).flatMap f ++ (f l[j] ++ (l.drop (j + 1)).flatMap f) := by
    conv => lhs; rw [← List.take_append_drop (j + 1) l, List.flatMap_append, flatMap_take l f j h, List.append_assoc]
  rw [this]
  exact (List.prefix_append_right_inj _).2 (hq.trans (List.prefix_append _ _))

/-- Between two rounds of choose's loop. -/
def NodeRel (H : Held) (c : Ce) (out p : List Int) (J : List (List Int) → World → Prop) (pre : List (List Int)) (r : Rg) (hs : List Rg) (i : Value) (W : World) : Prop :=
  ∃ (j : Nat), j ≤ (size r).toNat ∧ i = .int .i64 j ∧ J (pre ++ ((rangeList r).take j).flatMap fun x => truthsFrom c out (p ++ [x]) hs) W ∧ ∃ s0 s1 s2, Lies H c out s0 s1 s2 W ∧ Chosen c.heaps.length p s0 s1 s2

set_option maxHeartbeats 2000000 in
theorem choose_any (H : Held) (c : Ce) (hg : Good c) (out : List Int) (hol : out.length ≤ 1000) (J Jx : List (List Int) → World → Prop)
    (HJ : ∀ pre A B, J pre A → Chg (fun b => b = H.bs) A B → J pre B) (xs : List (List Int)) (HY : YieldOk H J Jx xs) (hs : List Rg) : ∀ (k : Nat) (i : Int) (p : List Int), i = k → c.heaps.drop k = hs → k ≤ c.heaps.length → p.length = k →
    ∀ (pre : List (List Int)), pre ++ truthsFrom c out p hs <+: xs → ∀ (W : World), J pre W → ∀ (s0 s1 s2 : Int), Lies H c out s0 s1 s2 W → Chosen c.heaps.length p s0 s1 s2 →
    CallsIn Fence.wide 0 Try.prog 171 #[.int .i64 i, .pointer (some ⟨H.bc, 0, none⟩), .pointer (some ⟨H.bs, 0, none⟩), .pointer (some ⟨H.bo, 0, none⟩), .pointer (some ⟨H.by_, 0, none⟩), .pointer (some ⟨H.bh, 0, none⟩)] W
      (ChosePost H c out p J Jx pre (truthsFrom c out p hs)) := by
  induction hs with
  | nil =>
    intro k i p hi hd hk hp pre hmem W hJ s0 s1 s2 hL hC
    have hkl : k = c.heaps.length := by
      have := congrArg List.length hd
      simp at this; omega
    subst hkl
    rw [hi]
    exact choose_leaf H c hg out hol J Jx HJ p xs HY hp pre hmem W hJ s0 s1 s2 hL hC
  | cons r hs ih =>
    intro k i p hi hd hk hp pre hmem W hJ s0 s1 s2 hL hC
    subst hi
    have hlt : k < c.heaps.length := by
      have := congrArg List.length hd
      simp at this; omega
    have hr : c.heaps[k] = r := by rw [List.drop_eq_getElem_cons hlt] at hd; exact (List.cons.inj hd).1
    have hd' : c.heaps.drop (k + 1) = hs := by rw [List.drop_eq_getElem_cons hlt] at hd; exact (List.cons.inj hd).2
    obtain ⟨⟨g1, g2, -, -⟩, g5, -, -⟩ := hg.facts
    obtain ⟨r0, r1, r2⟩ := g5 r (hr ▸ List.getElem_mem hlt)
    have hX := truthsFrom_cons c out p r hs
    have hszr : (size r).toNat = (r.hi - r.lo + 1).toNat := rfl
    have HX := hid hX
    have IH := hid ih
    have HD := hid hd'
    have HR := hid hr
    have HMEM := hid hmem
    clear hX ih hd hd' hmem g5
    obtain ⟨n, bc, bs, bo, by_, bh, l, hv, kv, tv, vo⟩ := H
    simp only at *
    have hL' := hL
    obtain ⟨z1, z2, a3, a4, ⟨b0, b1, b2⟩, a6, a7, a8, a9⟩ := hL
    simp only at z1 z2 a3 a4 b0 b1 b2 a6 a7 a8 a9
    obtain ⟨ha, hc, ka, kc, ta, tc, e', H1, -, -⟩ := a3.open
    cases e'
    obtain ⟨a, cap, he, -, ho⟩ := H1.open2
    cases he
    rcases ho with hnil | ⟨b, off, rfl, hbn, hcc⟩
    · rw [hnil] at hlt; simp at hlt
    obtain ⟨c0, c1⟩ := hcc k hlt
    rw [HR.out] at c0 c1
    clear hcc hr a8 a9
    have hkne : ((k : Int) == (c.heaps.length : Int)) = false := by simp; omega
    have hwf : ∀ k, Fence.wide.fn k := fun _ => trivial
    have hwd : Fence.wide.depth = none := rfl
    refine callsIn_of_wp Try.func171 rfl trivial ?_ rfl
    simp only [Try.ntmps171, List.size_toArray, List.length_cons, List.length_nil, Nat.reduceAdd, Nat.reduceSub, Array.replicate_succ, Array.replicate_zero, List.push_toArray, List.append_toArray, List.nil_append, List.cons_append]
    gi_wp2_with (gi_at_call 114; refine (callsIn_wide.2 (size_any _ _ _ ⟨r0, r1, r2⟩)).mono ?_; rw [show size ⟨r.lo, r.hi⟩ = r.hi - r.lo + 1 from rfl]; rintro e w2 ⟨rfl, hb2⟩)
    have hL2 := hL'.below hb2
    have hJ2 := HJ _ _ _ hJ (chg_of_below hb2)
    clear hL'
    gi_loopw [30] (fun i wr => NodeRel ⟨n, bc, bs, bo, by_, bh, l, .slice (some ⟨b, off, none⟩) c.heaps.length hc, .slice ka c.casks.length kc, .slice ta c.trials.length tc, vo⟩ c out p J pre r hs i wr) (fun i _ => (size r).toNat - (intOf i).toNat)
    case atStart => exact ⟨0, by omega, rfl, by simpa using hJ2, s0, s1, s2, hL2, hC⟩
    case round =>
      obtain ⟨j, hj, rfl, hJj, t0, t1, t2, hLj, hCj⟩ := hrel
      by_cases hjl : j < (size r).toNat
      · have hLj' := hLj
        obtain ⟨y1, y2, d3, d4, ⟨e0, e1, e2⟩, d6, d7, d8, d9⟩ := hLj
        simp only at y1 y2 d3 d4 e0 e1 e2 d6 d7 d8 d9
        obtain ⟨_, _, _, _, _, _, e', G1, -, -⟩ := d3.open
        cases e'
        obtain ⟨_, _, he, -, ho⟩ := G1.open2
        cases he
        rcases ho with hnil | ⟨_, _, he, hbn2, hcc⟩
        · rw [hnil] at hlt; simp at hlt
        cases he
        obtain ⟨f0, f1⟩ := hcc k hlt
        rw [HR.out] at f0 f1
        have hk3 : k < 3 := by omega
        obtain ⟨yo, hyo⟩ : ∃ y, wr.cell? ⟨bs, k, none⟩ = some (.int .i64 y) := by
          have := cell_of_row d9 k
          have hk' : k = 0 ∨ k = 1 ∨ k = 2 := by omega
          rcases hk' with rfl | rfl | rfl
          · exact ⟨t0, this⟩
          · exact ⟨t1, this⟩
          · exact ⟨t2, this⟩
        have hfz := frozen_of_row d9 k
        obtain ⟨u0, u1, u2, hLs, hset⟩ := hLj'.store hk3 (r.lo + j)
        have hJs := HJ _ _ _ hJj (chg_setCell wr (T := fun b => b = bs) (p := ⟨bs, k, none⟩) rfl (.int .i64 (r.lo + j)))
        have hCs := hCj.push (x := r.lo + j) (by omega) g2 (by omega) (by rw [hp]; exact hset)
        have q8 := hLs.bh
        simp only at q8 hLs
        have HSET := hid hset
        have hjr : j < (rangeList r).length := by rw [rangeList_length]; exact hjl
        have HTK := hid (flatMap_take (rangeList r) (fun x => truthsFrom c out (p ++ [x]) hs) j hjr)
        have hget : (rangeList r)[j] = r.lo + j := rangeList_get r j hjr
        have HG := hid hget
        have hm' : (pre ++ ((rangeList r).take j).flatMap (fun x => truthsFrom c out (p ++ [x]) hs)) ++ truthsFrom c out (p ++ [r.lo + j]) hs <+: xs := by
          refine List.IsPrefix.trans ?_ HMEM.out
          rw [HX.out, List.append_assoc]
          exact (List.prefix_append_right_inj _).2 (flatMap_prefix _ _ j hjr _ (by rw [hget]; exact List.prefix_refl _))
        have HM' := hid hm'
        clear hset hget hm' hcc d9 f1
        have hjlt : (j : Int) < r.hi - r.lo + 1 := by omega
        gi_wp2_with (fail)
        refine (IH.out (k + 1) (↑k + 1) (p ++ [r.lo + j]) (by omega) HD.out (by omega) (by simp [hp]) _ HM'.out _ hJs u0 u1 u2 hLs hCs).mono ?_
        rintro e W3 (⟨rfl, hJ3, v0, v1, v2, hL3, hC3⟩ | ⟨rfl, q, hq, hJx3⟩)
        · gi_wp2
          go_roundw
          case rel => exact ⟨j + 1, by omega, by go_num, by rw [HTK.out, HG.out, ← List.append_assoc]; exact hJ3, v0, v1, v2, hL3, hC3.shorter⟩
          case measure => simp [intOf]; omega
        · gi_wp2
          go_ret
          refine .inr ⟨rfl, ((rangeList r).take j).flatMap (fun x => truthsFrom c out (p ++ [x]) hs) ++ q, ?_, by rw [← List.append_assoc]; exact hJx3⟩
          rw [HX.out]
          exact flatMap_prefix _ _ j hjr q (by rw [HG.out]; exact hq)
      · have hjge : ¬ (j : Int) < r.hi - r.lo + 1 := by omega
        gi_wp2
        go_ret
        refine .inl ⟨rfl, ?_, t0, t1, t2, hLj, hCj⟩
        rw [HX.out]
        rwa [List.take_of_length_le (by rw [rangeList_length]; omega)] at hJj
end Go.Proofs.Ytjddcaimjofihaa

namespace Go.Proofs.Ytjddcaimjofihaa
open Go.RowKit
set_option maxRecDepth 100000

theorem truths_any (hv kv tv : Value) (oa : Option Addr) (ol oc : Nat) (w : World) :
    Calls Try.prog 129 #[.agg #[hv, kv, tv], .slice oa ol oc] w fun e w' => e = .returned (.func (.func 170) #[] #[.pointer (some ⟨w.heap.size, 0, none⟩), .pointer (some ⟨w.heap.size + 1, 0, none⟩)]) ∧ (w.alloc (.cells #[hv, kv, tv] 35)).alloc (.cells #[.slice oa ol oc] 47) = w' := by
  have hmf : ∀ (fn : Fn) (first cap : Array Value) (w : World), (Instr.makeFunc fn first cap).run Try.prog w = .ok (.func fn first cap) w := fun _ _ _ _ => rfl
  go_enter Try.func129, Try.ntmps129
  go_wp2
  go_ret
  exact ⟨rfl, rfl⟩

set_option maxHeartbeats 1000000 in
theorem truths_iter (c : Ce) (hg : Good c) (out : List Int) (hol : out.length ≤ 1000) (hv kv tv vo : Value) (n bc bo : Nat) (w : World) (hn : n ≤ w.heap.size) (hbc : n ≤ bc ∧ bc < w.heap.size) (hbo : n ≤ bo ∧ bo < w.heap.size)
    (hce : CeV (Lt n) w (.agg #[hv, kv, tv]) c) (hout : Ints (Lt n) w vo out) (h0 : w.cell? ⟨bc, 0, none⟩ = some hv) (h1 : w.cell? ⟨bc, 1, none⟩ = some kv) (h2 : w.cell? ⟨bc, 2, none⟩ = some tv) (h3 : w.cell? ⟨bo, 0, none⟩ = some vo) :
    Iter Try.prog 170 #[.pointer (some ⟨bc, 0, none⟩), .pointer (some ⟨bo, 0, none⟩)] encT 3 (fun b => b < n ∨ b = bc ∨ b = bo) (truthsOf c out) w := by
  intro l J Jx W hk hsz HJ HJx HY HJ0
  have hmf : ∀ (fn : Fn) (first cap : Array Value) (w : World), (Instr.makeFunc fn first cap).run Try.prog w = .ok (.func fn first cap) w := fun _ _ _ _ => rfl
  have hwf : ∀ k, Fence.wide.fn k := fun _ => trivial
  have hwd : Fence.wide.depth = none := rfl
  have hk0 : Keep (Lt n) w W := ⟨hk.size, fun b hb => hk.block b (.inl hb)⟩
  have e0 := (cell_same (hk.block bc (by simp)) 0).trans h0
  have e1 := (cell_same (hk.block bc (by simp)) 1).trans h1
  have e2 := (cell_same (hk.block bc (by simp)) 2).trans h2
  have e3 := (cell_same (hk.block bo (by simp)) 0).trans h3
  have hce' := hce.keep hk0
  have hout' := hout.keep hk0
  clear h0 h1 h2 h3 hce hout
  refine callsIn_of_wp Try.func170 rfl trivial ?_ rfl
  simp only [Try.ntmps170, List.size_toArray, List.length_cons, List.length_nil, Nat.reduceAdd, Nat.reduceSub, Array.replicate_succ, Array.replicate_zero, List.push_toArray, List.append_toArray, List.nil_append, List.cons_append]
  gi_wp2_with (fail)
  obtain ⟨W3, hW3⟩ : ∃ W3, W3 = (((W.alloc (Obj.cells #[Value.func (Fn.yield l) #[] #[]] 207)).alloc (Obj.cells #[Value.int IntKind.i64 0, Value.int IntKind.i64 0, Value.int IntKind.i64 0] 140)).alloc
      (Obj.cells #[Value.func (Fn.func 171) #[] #[Value.pointer (some ⟨bc, 0, none⟩), Value.pointer (some ⟨W.heap.size + 1, 0, none⟩), Value.pointer (some ⟨bo, 0, none⟩), Value.pointer (some ⟨W.heap.size, 0, none⟩), Value.pointer (some ⟨W.heap.size + 1 + 1, 0, none⟩)]] 132)) := ⟨_, rfl⟩
  have hs3 : W3.heap.size = W.heap.size + 3 := by rw [hW3]; simp
  have hb3 : Below W.heap.size W W3 := by rw [hW3]; exact below_alloc3 (Nat.le_refl _) _ _ _
  have q0 := (hb3.cell (p := ⟨bc, 0, none⟩) (by show bc < _; omega)).trans e0
  have q1 := (hb3.cell (p := ⟨bc, 1, none⟩) (by show bc < _; omega)).trans e1
  have q2 := (hb3.cell (p := ⟨bc, 2, none⟩) (by show bc < _; omega)).trans e2
  have q3 := (hb3.cell (p := ⟨bo, 0, none⟩) (by show bo < _; omega)).trans e3
  have q4 : W3.cell? ⟨W.heap.size, 0, none⟩ = some (.func (.yield l) #[] #[]) := by rw [hW3]; go_simp
  have q5 : W3.cell? ⟨W.heap.size + 1 + 1, 0, none⟩ = some (Value.func (Fn.func 171) #[] #[Value.pointer (some ⟨bc, 0, none⟩), Value.pointer (some ⟨W.heap.size + 1, 0, none⟩), Value.pointer (some ⟨bo, 0, none⟩), Value.pointer (some ⟨W.heap.size, 0, none⟩), Value.pointer (some ⟨W.heap.size + 1 + 1, 0, none⟩)]) := by rw [hW3]; go_simp
  have q6 : W3.heap[W.heap.size + 1]? = some (.cells #[.int .i64 0, .int .i64 0, .int .i64 0] 140 (0, 0)) := by
    rw [hW3, Below.heap_alloc _ _ _ (by simp)]; exact heap_new2 _ _ _
  have hL : Lies ⟨n, bc, W.heap.size + 1, bo, W.heap.size, W.heap.size + 1 + 1, l, hv, kv, tv, vo⟩ c out 0 0 0 W3 :=
    ⟨by simp only; omega, by simp only; omega, hce'.below (hb3.mono (by omega)), hout'.below (hb3.mono (by omega)), ⟨q0, q1, q2⟩, q3, q4, q5, q6⟩
  have hCh : Chosen c.heaps.length [] 0 0 0 := ⟨fun j hj => by simp at hj, fun j _ => by rcases j with _ | _ | _ | j <;> rfl, fun x hx => by simp at hx; omega⟩
  have hJ3 := HJ0 W3 (chg_of_below hb3) (by omega)
  rw [← hW3]
  refine (choose_any ⟨n, bc, W.heap.size + 1, bo, W.heap.size, W.heap.size + 1 + 1, l, hv, kv, tv, vo⟩ c hg out hol J Jx (fun pre A B hA hc => HJ pre A B hA (hc.mono fun b hb => by simp only at hb; omega)) (truthsOf c out)
    (fun pre x W1 hJ hx => ?_) c.heaps 0 0 [] rfl rfl (by omega) rfl [] (List.prefix_refl _) W3 hJ3 0 0 0 hL hCh).mono ?_
  · obtain ⟨fn, tmps, assign, body, hy, hR⟩ := HY pre x W1 hJ hx
    refine ⟨fn, tmps, assign, body, hy, hR.mono ?_⟩
    rintro e W' (⟨h1, h2, h3⟩ | h1)
    · exact .inl ⟨h1, h2, h3.mono fun b hb => by simp only [Held.set] at hb; omega⟩
    · exact .inr h1
  · rintro e W4 (⟨rfl, hJ4, -⟩ | ⟨rfl, q, hq, hJx4⟩)
    · gi_wp2
      go_end0
      exact ⟨⟨_, rfl⟩, .inl hJ4⟩
    · gi_wp2
      go_end0
      exact ⟨⟨_, rfl⟩, .inr ⟨q, hq, hJx4⟩⟩
end Go.Proofs.Ytjddcaimjofihaa

namespace Go.Proofs.Ytjddcaimjofihaa
open Go.RowKit Go.Shelf
set_option maxRecDepth 100000
attribute [local go_sem] Oper.semAt_some

def possible (c : Ce) (out : List Int) : Bool := !(truthsOf c out).isEmpty

set_option maxHeartbeats 1000000 in
theorem possible_any (c : Ce) (hg : Good c) (vc : Value) (out : List Int) (vo : Value) (n : Nat) (w : World) (hn : n ≤ w.heap.size) (h : CeV (Lt n) w vc c) (hout : Ints (Lt n) w vo out) (hol : out.length ≤ 1000) :
    Calls Try.prog 88 #[vc, vo] w fun e w' => e = .returned (.bool (possible c out)) ∧ Below w.heap.size w w' := by
  have h' := h
  have hout' := hout
  obtain ⟨ha, hc, ka, kc, ta, tc, rfl, -, -, -⟩ := h.open
  obtain ⟨oa, oc, rfl, -, -⟩ := hout.open1
  have hwf : ∀ k, Fence.wide.fn k := fun _ => trivial
  have hwd : Fence.wide.depth = none := rfl
  refine (callsIn_wide (n := 0)).1 ?_
  refine callsIn_of_wp_marks Try.func88 rfl trivial ?_ rfl
  simp only [Try.ntmps88, List.size_toArray, List.length_cons, List.length_nil, Nat.reduceAdd, Nat.reduceSub, Array.replicate_succ, Array.replicate_zero, List.push_toArray, List.append_toArray, List.nil_append, List.cons_append]
  gi_wp2_with (gi_at_call 129; refine (callsIn_wide.2 (truths_any _ _ _ _ _ _ _)).mono ?_; rintro e w2 ⟨rfl, hw2⟩)
  have hs2 : w2.heap.size = w.heap.size + 4 := by rw [← hw2]; simp
  have hb2 : Below w.heap.size w w2 := by rw [← hw2]; exact below_alloc4 (Nat.le_refl _) _ _ _ _
  have c0 : w2.cell? ⟨w.heap.size + 1 + 1, 0, none⟩ = some (.slice ha c.heaps.length hc) := by rw [← hw2]; clear hw2; go_simp
  have c1 : w2.cell? ⟨w.heap.size + 1 + 1, 1, none⟩ = some (.slice ka c.casks.length kc) := by rw [← hw2]; clear hw2; go_simp
  have c2 : w2.cell? ⟨w.heap.size + 1 + 1, 2, none⟩ = some (.slice ta c.trials.length tc) := by rw [← hw2]; clear hw2; go_simp
  have c3 : w2.cell? ⟨w.heap.size + 1 + 1 + 1, 0, none⟩ = some (.slice oa out.length oc) := by rw [← hw2]; clear hw2; go_simp
  have c4 : w2.heap[w.heap.size + 1]? = some (.cells #[.bool false] 4 (0, 0)) := by
    rw [← hw2, Below.heap_alloc _ _ _ (by simp), Below.heap_alloc _ _ _ (by simp)]; exact heap_new2 _ _ _
  clear hw2
  have hit := truths_iter c hg out hol (.slice ha c.heaps.length hc) (.slice ka c.casks.length kc) (.slice ta c.trials.length tc) (.slice oa out.length oc) n (w.heap.size + 1 + 1) (w.heap.size + 1 + 1 + 1) w2 (by omega) (by omega) (by omega) (h'.below (hb2.mono hn)) (hout'.below (hb2.mono hn)) c0 c1 c2 c3
  have hT : ∀ b, b < w.heap.size → ¬ (w2.heap.size ≤ b ∧ b < w2.heap.size + 2 + 3) := fun b hb => by omega
  refine wpIn_iter (by rfl) (enters_of Try.func170 (by kernel_rfl) rfl) hit (fun _ => rfl) (fun b hb => by omega)
    (fun pre W => pre = [] ∧ Below w.heap.size w W ∧ W.heap[w.heap.size + 1]? = some (.cells #[.bool false] 4 (0, 0)))
    (fun cd q W => cd = .ret ∧ q ≠ [] ∧ Below w.heap.size w W ∧ W.heap[w.heap.size + 1]? = some (.cells #[.bool true] 4 (0, 0)))
    ?_ ?_ ?_ ?_ ?_ ?_
  · rintro pre A B ⟨h1, h2, h3⟩ hc
    exact ⟨h1, h2.trans (hc.below h2.size hT), (hc.block _ (Array.getElem?_eq_some_iff.1 h3).1 (by omega)).trans h3⟩
  · rintro cd pre A B ⟨h1, h2, h3, h4⟩ hc
    exact ⟨h1, h2, h3.trans (hc.below h3.size hT), (hc.block _ (Array.getElem?_eq_some_iff.1 h4).1 (by omega)).trans h4⟩
  · intro A hc _
    exact ⟨rfl, hb2.trans (hc.below hb2.size hT), (hc.block _ (Array.getElem?_eq_some_iff.1 c4).1 (by omega)).trans c4⟩
  · rintro l pre x W ⟨h1, h2, h3⟩ hx hl hlt
    simp only [encT]
    gi_wp2
    refine ⟨Kept.refl _ _, fun W2 hc hs => ?_⟩
    have h4 : W2.heap[w.heap.size + 1]? = some (.cells #[.bool false] 4 (0, 0)) := (hc.block _ (Array.getElem?_eq_some_iff.1 h3).1 (by omega)).trans h3
    have h5 := cell_of_row h4 0
    have h6 := frozen_of_row h4 0
    have h7 := row_set h4 0 (.bool true)
    have h8 : Below w.heap.size w W2 := h2.trans (hc.below h2.size (fun b hb => by omega))
    simp only [List.getElem?_toArray, List.getElem?_cons_zero] at h5
    gi_wp2
    refine ⟨⟨rfl, rfl, rfl, by simp [World.setCell], fun b hb => Below.heap_setCell _ _ _ _ ?_⟩, rfl, by simp, h8.setCell (p := ⟨w.heap.size + 1, 0, none⟩) (by simp) _, h7⟩
    show b ≠ w.heap.size + 1
    omega
  · rintro W ⟨h1, h2, h3⟩ hD
    have hp := hid (show possible c out = false by unfold possible; rw [h1]; rfl)
    dsimp only
    have h5 := cell_of_row h3 0
    have h6 := frozen_of_row h3 0
    have h7 := row_set h3 0 (.bool false)
    simp only [List.getElem?_toArray, List.getElem?_cons_zero] at h5
    gi_wp2
    have h8 := (World.putObj_heap_other (w := W.setCell ⟨w.heap.size + 1, 0, none⟩ (.bool false)) (r := w2.heap.size) (k := w.heap.size + 1) (o := .deferred none) (by omega)).trans h7
    have h9 := cell_of_row h8 0
    simp only [List.setIfInBounds_toArray, List.set_cons_zero, List.getElem?_toArray, List.getElem?_cons_zero] at h9
    refine bodyPostM_mark (v := .bool false) ((Below.heap_setCell _ _ _ _ (by show w2.heap.size ≠ w.heap.size + 1; omega)).trans hD) (by simp [results, Try.results88, go_sem, h9]) ⟨by rw [hp.out], below_putObj (h2.setCell (p := ⟨w.heap.size + 1, 0, none⟩) (by simp) _) (by omega) _⟩
  · rintro cd q W hq ⟨rfl, h2, h3, h4⟩ hD
    have hp := hid (show possible c out = true by
      unfold possible
      cases e : truthsOf c out
      · rw [e] at hq; simp at hq; exact absurd hq h2
      · rfl)
    dsimp only
    have h5 := cell_of_row h4 0
    simp only [List.getElem?_toArray, List.getElem?_cons_zero] at h5
    gi_wp2
    have h8 := (World.putObj_heap_other (w := W) (r := w2.heap.size) (k := w.heap.size + 1) (o := .deferred none) (by omega)).trans h4
    have h9 := cell_of_row h8 0
    simp only [List.getElem?_toArray, List.getElem?_cons_zero] at h9
    exact bodyPostM_mark (v := .bool true) hD (by simp [results, Try.results88, go_sem, h9]) ⟨by rw [hp.out], below_putObj h3 (by omega) _⟩
end Go.Proofs.Ytjddcaimjofihaa
