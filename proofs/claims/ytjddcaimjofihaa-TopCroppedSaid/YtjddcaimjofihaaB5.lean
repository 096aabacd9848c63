/- Contracts of package cask: least, blending, Blend; no condition. -/
import Derived.Test.YtjddcaimjofihaaB4
import Derived.Deep.OwnRows
namespace Go.Proofs.Ytjddcaimjofihaa
open Go.RowKit Go.Shelf
set_option maxRecDepth 100000

/-- The minimum strength of weights in some truths. -/
def leastOf (T : List (List Int)) (ws : List Int) : Int := T.foldl (fun n s => min n (mean (pad3 s) ws)) 100

set_option maxHeartbeats 1000000 in
theorem least_any (c : Ce) (T : List (List Int)) (hT : Fits T) (hTl : T.length ≤ 2000) (vw : Value) (n : Nat) (ws : List Int) (vws : Value) (w : World) (hn : n ≤ w.heap.size) (h : WorkV (Lt n) w vw c T) (hws : Ints (Lt n) w vws ws)
    (hl : ws.length ≤ 3) (hw : ∀ x ∈ ws, 0 ≤ x ∧ x ≤ 1000) (hpos : 0 < sumI ws) :
    Calls Try.prog 120 #[vw, vws] w fun e w' => e = .returned (.int .i64 (leastOf T ws)) ∧ Below w.heap.size w w' := by
  obtain ⟨b, ha, hc, ka, kc, ta, tc, sa, sc, rfl, hb, c0, c1, c2, c3, hce, hsc, ho⟩ := h.open
  have hbw : b < w.heap.size := Nat.lt_of_lt_of_le hb hn
  obtain ⟨m, hm⟩ : ∃ m, m = T.length := ⟨_, rfl⟩
  rw [← hm] at c3 hsc hTl
  have HM := hid hm
  have HTT := hid hT
  have HW := hid hw
  have HO := hid ho
  clear hm hT hw ho
  go_enter Try.func120, Try.ntmps120
  go_wp2
  go_loopw [5, 13] (fun x i wr => ∃ (k : Nat) (z : Int), k ≤ m ∧ i = .int .i64 k ∧ x = .int .i64 z ∧ Hid ((T.take k).foldl (fun n s => min n (mean (pad3 s) ws)) 100 = z) ∧ Below w.heap.size w wr) (fun _ i _ => m - (intOf i).toNat)
  case atStart => exact ⟨0, 100, by omega, rfl, rfl, hid rfl, Below.refl _ _⟩
  case round =>
    obtain ⟨k, z, hk, rfl, rfl, HI, hB⟩ := hrel
    by_cases hlt : k < m
    · have hkl : k < T.length := by rw [← HM.out]; exact hlt
      obtain h2 | ⟨bs, off, rfl, hbs, hcs⟩ := HO.out
      · rw [h2] at hkl; simp at hkl
      have hbsw : bs < w.heap.size := Nat.lt_of_lt_of_le hbs hn
      obtain ⟨v0, v1, v2⟩ := hcs k hkl
      clear hcs
      have H3k := HTT.out.three (List.getElem_mem hkl)
      have HI2 := hid (show (T.take (k + 1)).foldl (fun n s => min n (mean (pad3 s) ws)) 100 = min z (mean (pad3 (T[k]'hkl)) ws) by
        rw [List.take_succ_eq_append_getElem hkl, List.foldl_append, HI.out]; rfl)
      generalize T[k]'hkl = tk at *
      have g0 := ((bcell hB).1 bs _ hbsw).trans v0
      have g1 := ((bcell hB).1 bs _ hbsw).trans v1
      have g2 := ((bcell hB).1 bs _ hbsw).trans v2
      generalize tk.getD 0 0 = u0 at *
      generalize tk.getD 1 0 = u1 at *
      generalize tk.getD 2 0 = u2 at *
      generalize hx : mean (pad3 tk) ws = x at *
      have HX := hid hx
      clear hx v0 v1 v2
      have hszw := hB.size
      have hwsr := hws.below (hB.mono hn)
      go_wp2_with (first
        | (go_at_call 94; refine (mean_any (pad3 tk) u0 u1 u2 H3k ws vws n _ (by simp; omega) (hwsr.below (below_alloc1 (by omega) _)) hl HW.out hpos).mono ?_; rw [HX.out]; rintro e w5 ⟨rfl, hb5⟩; have hB5 := below_after (hB.trans (below_alloc1 (n := w.heap.size) (by omega) _)) hb5 (Nat.le_refl _); have hs5 := hB5.size)
        | (go_at_call 113; refine (minimum_any z x _ _ _ (by go_simp) (by go_simp)).mono ?_; generalize hy : min z x = y; rintro e w6 ⟨rfl, rfl⟩; have HY := hid hy; clear hy))
      go_roundw
      case rel => exact ⟨k + 1, y, by omega, by go_num, rfl, hid (by rw [HI2.out]; exact HY.out), hB5.trans (below_alloc1 (by omega) _)⟩
      case measure => simp [intOf]; omega
    · have HT := hid (show T.take k = T from List.take_of_length_le (by rw [← HM.out]; omega))
      go_wp2
      go_ret
      exact ⟨ret_int (by have := HI.out; rw [HT.out] at this; exact this.symm), hB⟩

/-! ### blending -/

def blendOk (c : Ce) (st : List Int) (wt g : Int) : Bool := weightsB c.heaps.length st && within wt 1 90 && within g 0 100

theorem blending1_any (c : Ce) (st : List Int) (wt g : Int) (ha ka ta : Option Addr) (hc kc tc : Nat) (vs : Value) (b0 b1 b2 b3 n : Nat) (w : World) (hhl : c.heaps.length ≤ 1000) (hn : n ≤ w.heap.size) (hst : Ints (Lt n) w vs st) (hsl : st.length ≤ 1000)
    (h0 : w.cell? ⟨b0, 0, none⟩ = some (.slice ha c.heaps.length hc)) (h01 : w.cell? ⟨b0, 1, none⟩ = some (.slice ka c.casks.length kc)) (h02 : w.cell? ⟨b0, 2, none⟩ = some (.slice ta c.trials.length tc)) (h1 : w.cell? ⟨b1, 0, none⟩ = some vs) (h2 : w.cell? ⟨b2, 0, none⟩ = some (.int .i64 wt)) (h3 : w.cell? ⟨b3, 0, none⟩ = some (.int .i64 g))
    (l2 : b2 < w.heap.size) (l3 : b3 < w.heap.size) :
    Calls Try.prog 165 #[.pointer (some ⟨b0, 0, none⟩), .pointer (some ⟨b1, 0, none⟩), .pointer (some ⟨b2, 0, none⟩), .pointer (some ⟨b3, 0, none⟩)] w fun e w' => e = .returned (.bool (blendOk c st wt g)) ∧ Below w.heap.size w w' := by
  obtain ⟨sa, scap, rfl, -, -⟩ := hst.open1
  unfold blendOk
  cases hx : weightsB c.heaps.length st
  · have HX := hid hx
    clear hx
    go_enter Try.func165, Try.ntmps165
    go_wp2_with (go_at_call 121; refine (weights_any _ _ _ _ _ st _ n _ hhl hn hst hsl).mono ?_; rw [HX.out]; rintro e w2 ⟨rfl, hb2⟩)
    go_ret
    exact ⟨by simp, hb2⟩
  · have HX := hid hx
    clear hx
    cases hy : within wt 1 90
    · have HY := hid hy
      clear hy
      go_enter Try.func165, Try.ntmps165
      go_wp2_with (first
        | (go_at_call 121; refine (weights_any _ _ _ _ _ st _ n _ hhl hn hst hsl).mono ?_; rw [HX.out]; rintro e w2 ⟨rfl, hb2⟩; obtain ⟨hc2, hf2⟩ := bcell hb2)
        | (go_at_call 85; refine (within_any _ _ _ _).mono ?_; rw [HY.out]; rintro e w' ⟨rfl, rfl⟩))
      go_ret
      exact ⟨by simp, hb2⟩
    · have HY := hid hy
      clear hy
      go_enter Try.func165, Try.ntmps165
      go_wp2_with (first
        | (go_at_call 121; refine (weights_any _ _ _ _ _ st _ n _ hhl hn hst hsl).mono ?_; rw [HX.out]; rintro e w2 ⟨rfl, hb2⟩; obtain ⟨hc2, hf2⟩ := bcell hb2)
        | (go_at_call 85; refine (within_any _ _ _ _).mono ?_; rw [HY.out]; rintro e w' ⟨rfl, rfl⟩)
        | (go_at_call 86; refine (graded_any _ _).mono ?_; rintro e w' ⟨rfl, rfl⟩))
      go_ret
      exact ⟨by simp, hb2⟩

theorem blending_any (c : Ce) (vc : Value) (st : List Int) (vs : Value) (wt g : Int) (n : Nat) (w : World) (hn : n ≤ w.heap.size) (h : CeV (Lt n) w vc c) (hsm : Small c) (hst : Ints (Lt n) w vs st) (hsl : st.length ≤ 1000) :
    Calls Try.prog 118 #[vc, vs, .int .i64 wt, .int .i64 g] w fun e w' => AskPost c (blendOk c st wt g) w e w' := by
  have hmf : ∀ (fn : Fn) (first cap : Array Value) (w : World), (Instr.makeFunc fn first cap).run Try.prog w = .ok (.func fn first cap) w := fun _ _ _ _ => rfl
  have h' := h
  obtain ⟨ha, hc, ka, kc, ta, tc, rfl, -, -, -⟩ := h.open
  have hst' := hst
  obtain ⟨sa, scap, rfl, -, -⟩ := hst.open1
  obtain ⟨W, hW⟩ : ∃ W, W = (((w.alloc (.cells #[.slice ha c.heaps.length hc, .slice ka c.casks.length kc, .slice ta c.trials.length tc] 35)).alloc (.cells #[.slice sa st.length scap] 47)).alloc (.cells #[.int .i64 wt] 3)).alloc (.cells #[.int .i64 g] 3) := ⟨_, rfl⟩
  obtain ⟨q0, q1, q2, q3⟩ := hW ▸ heap_four w _ _ _ _
  have hWs : W.heap.size = w.heap.size + 4 := by rw [hW]; simp
  have hWb : Below w.heap.size w W := by rw [hW]; exact below_alloc4 (Nat.le_refl _) _ _ _ _
  have HASK := hid (asked_any c (.agg #[.slice ha c.heaps.length hc, .slice ka c.casks.length kc, .slice ta c.trials.length tc]) (blendOk c st wt g) 165 #[.pointer (some ⟨w.heap.size, 0, none⟩), .pointer (some ⟨w.heap.size + 1, 0, none⟩), .pointer (some ⟨w.heap.size + 1 + 1, 0, none⟩), .pointer (some ⟨w.heap.size + 1 + 1 + 1, 0, none⟩)] n W (by omega) (h'.below (hWb.mono hn)) hsm (enters_of Try.func165 (by kernel_rfl) rfl)
    (fun _ w2 hb => blending1_any c st wt g ha ka ta hc kc tc _ _ _ _ _ n w2 (by have := hsm.1; omega) (by have := hb.size; omega) (hst'.below (below_after (hWb.mono hn) hb hn)) hsl
      ((hb.cell (p := ⟨w.heap.size, 0, none⟩) (by show w.heap.size < _; omega)).trans (cell_of_row q0 0)) ((hb.cell (p := ⟨w.heap.size, 1, none⟩) (by show w.heap.size < _; omega)).trans (cell_of_row q0 1)) ((hb.cell (p := ⟨w.heap.size, 2, none⟩) (by show w.heap.size < _; omega)).trans (cell_of_row q0 2))
      ((hb.cell (p := ⟨w.heap.size + 1, 0, none⟩) (by show w.heap.size + 1 < _; omega)).trans (cell_of_row q1 0)) ((hb.cell (p := ⟨w.heap.size + 1 + 1, 0, none⟩) (by show w.heap.size + 1 + 1 < _; omega)).trans (cell_of_row q2 0)) ((hb.cell (p := ⟨w.heap.size + 1 + 1 + 1, 0, none⟩) (by show w.heap.size + 1 + 1 + 1 < _; omega)).trans (cell_of_row q3 0))
      (by have := hb.size; omega) (by have := hb.size; omega)))
  have b0 := cell_of_row q0 0
  clear q0 q1 q2 q3
  go_enter Try.func118, Try.ntmps118
  go_wp2_with (go_at_call 80; rw [← hW]; refine HASK.out.mono ?_; rintro e w2 ⟨hb2, v, rfl, hv0, hv1⟩)
  refine bodyPost_ret (v := .tuple #[v, .int .i64 (askErr c (blendOk c st wt g))]) (by simp [results, Try.results118, go_sem]) rfl ⟨below_after hWb hb2 (Nat.le_refl _), v, rfl, hv0, hv1⟩
end Go.Proofs.Ytjddcaimjofihaa

namespace Go.Proofs.Ytjddcaimjofihaa
open Go.RowKit Go.Shelf
set_option maxRecDepth 100000

/-- The first list of weights, in lexicographic order, of what is left, that passes. -/
def pickB (ok : List Int → Bool) : List Int → Int → List Int → Option (List Int)
  | [], left, pre => if left = 0 ∧ ok pre = true then some pre else none
  | x :: xs, left, pre => (List.range (min x left + 1).toNat).findSome? fun n : Nat => pickB ok xs (left - n) (pre ++ [(n : Int)])

structure BHeld where
  n : Nat
  N : Nat
  bs : Nat
  bk : Nat
  bws : Nat
  bg : Nat
  bch : Nat
  bw : Nat
  sv : Value
  wv : Value
structure BLies (B : BHeld) (c : Ce) (T : List (List Int)) (st : List Int) (g : Int) (ws : List Int) (W : World) : Prop where
  size : B.N ≤ W.heap.size
  lt : B.n ≤ B.bw ∧ B.bw < B.N ∧ B.bs < B.N ∧ B.bk < B.N ∧ B.bws < B.N ∧ B.bg < B.N ∧ B.bch < B.N
  ne : B.bs ≠ B.bw ∧ B.bk ≠ B.bw ∧ B.bws ≠ B.bw ∧ B.bg ≠ B.bw ∧ B.bch ≠ B.bw
  work : WorkV (Lt B.n) W B.wv c T
  stock : Ints (Lt B.n) W B.sv st
  xs : W.cell? ⟨B.bs, 0, none⟩ = some B.sv
  xk : W.cell? ⟨B.bk, 0, none⟩ = some B.wv
  xws : W.cell? ⟨B.bws, 0, none⟩ = some (.slice (some ⟨B.bw, 0, none⟩) st.length st.length)
  xg : W.cell? ⟨B.bg, 0, none⟩ = some (.int .i64 g)
  xch : W.cell? ⟨B.bch, 0, none⟩ = some (.func (.func 119) #[] #[.pointer (some ⟨B.bs, 0, none⟩), .pointer (some ⟨B.bk, 0, none⟩), .pointer (some ⟨B.bws, 0, none⟩), .pointer (some ⟨B.bg, 0, none⟩), .pointer (some ⟨B.bch, 0, none⟩)])
  row : W.heap[B.bw]? = some (.cells (ws.map (Value.int .i64)).toArray 3 (0, 0))
  len : ws.length = st.length

theorem BLies.to {B : BHeld} {c : Ce} {T : List (List Int)} {st : List Int} {g : Int} {ws ws' : List Int} {W W' : World} (h : BLies B c T st g ws W) (hs : W.heap.size ≤ W'.heap.size) (hb : ∀ b, b < B.N → b ≠ B.bw → W'.heap[b]? = W.heap[b]?)
    (hr : W'.heap[B.bw]? = some (.cells (ws'.map (Value.int .i64)).toArray 3 (0, 0))) (hl : ws'.length = st.length) : BLies B c T st g ws' W' := by
  obtain ⟨h1, h2, h3, h4, h5, h6, h7, h8, h9, h10, h11, h12⟩ := h
  have hc : ∀ b, b < B.N → b ≠ B.bw → W'.cell? ⟨b, 0, none⟩ = W.cell? ⟨b, 0, none⟩ := fun b h1 h2 => World.cell?_of_block (hb b h1 h2)
  have hk : Keep (Lt B.n) W W' := ⟨hs, fun b hbn => hb b (by have : b < B.n := hbn; omega) (by have : b < B.n := hbn; omega)⟩
  exact ⟨by omega, h2, h3, h4.keep hk, h5.keep hk, (hc _ h2.2.2.1 h3.1).trans h6, (hc _ h2.2.2.2.1 h3.2.1).trans h7, (hc _ h2.2.2.2.2.1 h3.2.2.1).trans h8, (hc _ h2.2.2.2.2.2.1 h3.2.2.2.1).trans h9, (hc _ h2.2.2.2.2.2.2 h3.2.2.2.2).trans h10, hr, hl⟩
theorem BLies.below {B : BHeld} {c : Ce} {T : List (List Int)} {st : List Int} {g : Int} {ws : List Int} {W W' : World} (h : BLies B c T st g ws W) (hb : Below W.heap.size W W') : BLies B c T st g ws W' :=
  h.to hb.size (fun b hb' _ => hb.block b (by have := h.size; omega)) ((hb.block _ (by have := h.size; have := h.lt; omega)).trans h.row) h.len
theorem BLies.store {B : BHeld} {c : Ce} {T : List (List Int)} {st : List Int} {g : Int} {ws : List Int} {W : World} (h : BLies B c T st g ws W) (k : Nat) (v : Int) : BLies B c T st g (ws.set k v) (W.setCell ⟨B.bw, k, none⟩ (.int .i64 v)) := by
  refine h.to (by simp [World.setCell]) (fun b _ hne => Below.heap_setCell _ _ _ _ hne) ?_ (by simp [h.len])
  rw [row_set h.row k (.int .i64 v)]
  simp [List.map_set]
theorem BLies.ints {B : BHeld} {c : Ce} {T : List (List Int)} {st : List Int} {g : Int} {ws : List Int} {W : World} (h : BLies B c T st g ws W) : Ints (Lt B.N) W (.slice (some ⟨B.bw, 0, none⟩) st.length st.length) ws := by
  refine ⟨some ⟨B.bw, 0, none⟩, st.length, by rw [h.len], by rw [h.len]; exact Nat.le_refl _, .inr ⟨B.bw, 0, rfl, h.lt.2.1, fun j x hj i u hi => ?_⟩⟩
  cases i with
  | succ i => simp at hi
  | zero =>
    simp only [List.getElem?_cons_zero, Option.some.injEq] at hi
    rw [cell_of_row h.row]
    simp [hj, hi]

/-- How a call of choose ends. -/
def ChoseB (B : BHeld) (c : Ce) (T : List (List Int)) (st : List Int) (g : Int) (W : World) (r : Option (List Int)) (old : List Int) (e : Ending) (W' : World) : Prop :=
  e = .returned (.bool r.isSome) ∧ Chg (fun b => b = B.bw) W W' ∧ BLies B c T st g (r.getD old) W'

def okB (T : List (List Int)) (g : Int) (ws : List Int) : Bool := decide (g ≤ leastOf T ws)

set_option maxHeartbeats 1000000 in
theorem blendLeaf (B : BHeld) (c : Ce) (_ : Good c) (T : List (List Int)) (hT : Fits T) (hTl : T.length ≤ 2000) (st : List Int) (g : Int) (h3 : st.length ≤ 3) (pre : List Int) (left : Int) (hp : pre.length = st.length) (hpb : ∀ x ∈ pre, 0 ≤ x ∧ x ≤ 1000) (hpos : 0 < sumI pre + left)
    (W : World) (hL : BLies B c T st g pre W) :
    Calls Try.prog 119 #[.int .i64 st.length, .int .i64 left, .pointer (some ⟨B.bs, 0, none⟩), .pointer (some ⟨B.bk, 0, none⟩), .pointer (some ⟨B.bws, 0, none⟩), .pointer (some ⟨B.bg, 0, none⟩), .pointer (some ⟨B.bch, 0, none⟩)] W
      (ChoseB B c T st g W (pickB (okB T g) [] left pre) pre) := by
  have hI := hL.ints
  have hL' := hL
  obtain ⟨h1, h2, -, h4, h5, h6, h7, h8, h9, h10, h11, h12⟩ := hL
  obtain ⟨n, N, bs, bk, bws, bg, bch, bw, sv, wv⟩ := B
  simp only at *
  obtain ⟨sa, scap, rfl, -, -⟩ := h5.open1
  obtain ⟨bb, ha, hc, ka, kc, ta, tc, sa', sc, rfl, -⟩ := h4.open
  by_cases hl0 : left = 0
  · subst hl0
    have hle : ((0 : Int) == 0) = true := rfl
    obtain ⟨W0, hW0⟩ : ∃ W0, W0 = W := ⟨_, rfl⟩
    obtain ⟨hgc, hgf⟩ := grew_cells W
    have l1 : bk < W.heap.size := by omega
    have l2 : bws < W.heap.size := by omega
    have l3 : bg < W.heap.size := by omega
    have HN : ∀ g, N ≤ (World.grew W g).heap.size := fun g => Nat.le_trans (by omega) (grew_below W g).size
    have HX : ∀ g, WorkV (Lt N) (World.grew W g) (.pointer (some ⟨bb, 0, none⟩)) c T := fun g => (h4.below ((grew_below W g).mono (by omega))).le (by omega)
    have HY : ∀ g, Ints (Lt N) (World.grew W g) (.slice (some ⟨bw, 0, none⟩) st.length st.length) pre := fun g => hI.below ((grew_below W g).mono (by omega))
    have HPB := hid hpb
    clear hpb
    go_enter Try.func119, Try.ntmps119
    go_wp2
    refine wp_region_grew (by kernel_rfl) (by kernel_rfl) ?_
    repeat (go_big_quiet_step ((go_at_call 120; exact grew_of (least_any c T hT hTl _ N pre _ _ (HN _) (HX _) (HY _) (by omega) HPB.out (by omega)))))
    refine wpQuiet_nil ?_
    rintro _ ⟨ex, rfl⟩
    go_wp2
    go_ret
    refine ⟨?_, chg_of_below (grew_below W ex), ?_⟩
    · simp only [pickB, okB]
      by_cases hk : g ≤ leastOf T pre <;> simp [hk]
    · have : (pickB (okB T g) [] 0 pre).getD pre = pre := by simp only [pickB]; split <;> rfl
      rw [this]
      exact hL'.below (grew_below W ex)
  · have hle : (left == 0) = false := by simpa using hl0
    have HP := hid (show pickB (okB T g) [] left pre = none by simp [pickB, hl0])
    clear hl0 hpos hpb
    go_enter Try.func119, Try.ntmps119
    go_wp2
    refine wp_region_quiet_lit (by kernel_rfl) (by kernel_rfl) ?_
    repeat (go_big_quiet_step (fail))
    refine wpQuiet_nil ?_
    rintro _ ⟨dk, rfl⟩
    go_wp2
    go_ret
    have hb : Below W.heap.size W (W.drewN dk) := ⟨rfl, rfl, rfl, Nat.le_refl _, fun _ _ => rfl⟩
    rw [HP.out]
    exact ⟨rfl, chg_of_below hb, hL'.below hb⟩

theorem pickB_cons (ok : List Int → Bool) (x : Int) (xs : List Int) (left : Int) (pre : List Int) : pickB ok (x :: xs) left pre = (List.range (min x left + 1).toNat).findSome? fun n : Nat => pickB ok xs (left - n) (pre ++ [(n : Int)]) := rfl
theorem findSome_drop {α : Type} (f : Nat → Option α) (m k : Nat) (h : k < m) : ((List.range m).drop k).findSome? f = (f k).or (((List.range m).drop (k + 1)).findSome? f) := by
  rw [List.drop_eq_getElem_cons (by simpa using h), List.findSome?_cons]
  simp only [List.getElem_range]
  cases f k <;> rfl
theorem set_mid (pre : List Int) (y v : Int) (l : List Int) : (pre ++ y :: l).set pre.length v = pre ++ v :: l := by
  rw [List.set_append_right _ _ (Nat.le_refl _)]; simp

set_option maxHeartbeats 2000000 in
theorem blend1_any (B : BHeld) (c : Ce) (hg : Good c) (T : List (List Int)) (hT : Fits T) (hTl : T.length ≤ 2000) (st : List Int) (g : Int) (h3 : st.length ≤ 3) (hst : ∀ x ∈ st, 0 ≤ x ∧ x ≤ 30) (xs : List Int) : ∀ (k : Nat) (i : Int) (pre : List Int) (left : Int), i = k →
    st.drop k = xs → k ≤ st.length → pre.length = k → (∀ x ∈ pre, 0 ≤ x ∧ x ≤ 1000) → 0 ≤ left → left ≤ 1000 → 0 < sumI pre + left → ∀ (W : World), BLies B c T st g (pre ++ List.replicate xs.length 0) W →
    Calls Try.prog 119 #[.int .i64 i, .int .i64 left, .pointer (some ⟨B.bs, 0, none⟩), .pointer (some ⟨B.bk, 0, none⟩), .pointer (some ⟨B.bws, 0, none⟩), .pointer (some ⟨B.bg, 0, none⟩), .pointer (some ⟨B.bch, 0, none⟩)] W
      (ChoseB B c T st g W (pickB (okB T g) xs left pre) (pre ++ List.replicate xs.length 0)) := by
  induction xs with
  | nil =>
    intro k i pre left hi hd hk hp hpb hl0 hl1 hpos W hL
    rw [hi]
    have hkl : k = st.length := by
      have := congrArg List.length hd
      simp at this; omega
    subst hkl
    simp only [List.length_nil, List.replicate_zero, List.append_nil] at hL ⊢
    exact blendLeaf B c hg T hT hTl st g h3 pre left hp hpb hpos W hL
  | cons x xs ih =>
    intro k i pre left hi hd hk hp hpb hl0 hl1 hpos W hL
    subst hi
    have hlt : k < st.length := by
      have := congrArg List.length hd
      simp at this; omega
    have hr : st[k] = x := by rw [List.drop_eq_getElem_cons hlt] at hd; exact (List.cons.inj hd).1
    have hd' : st.drop (k + 1) = xs := by rw [List.drop_eq_getElem_cons hlt] at hd; exact (List.cons.inj hd).2
    obtain ⟨x0, x1⟩ := hst x (hr ▸ List.getElem_mem hlt)
    have IH := hid ih
    have HD := hid hd'
    have HPB := hid hpb
    have HXS := hid (show xs.length = st.length - (k + 1) by rw [← hd']; simp)
    rw [List.length_cons, List.replicate_succ] at hL ⊢
    clear ih hd hd' hpb hst
    have hL' := hL
    obtain ⟨h1, h2, hne, h4, h5, h6, h7, h8, h9, h10, h11, h12⟩ := hL
    obtain ⟨n, N, bs, bk, bws, bg, bch, bw, sv, wv⟩ := B
    simp only at *
    obtain ⟨sa, scap, rfl, -, ho⟩ := h5.open1
    rcases ho with hnil | ⟨b, off, rfl, hbn, hcc⟩
    · rw [hnil] at hlt; simp at hlt
    have c0 := hcc k hlt
    rw [hr] at c0
    clear hcc hr
    have hkne : ((k : Int) == (st.length : Int)) = false := by simp; omega
    obtain ⟨m, hm⟩ : ∃ m : Nat, (m : Int) = min x left + 1 := ⟨(min x left + 1).toNat, by omega⟩
    have HPK := hid (show pickB (okB T g) (x :: xs) left pre = (List.range m).findSome? fun n : Nat => pickB (okB T g) xs (left - n) (pre ++ [(n : Int)]) by rw [pickB_cons, ← hm]; simp)
    have hmw : IntKind.i64.wrap (min x left + 1) = m := by rw [← hm]; exact IntWalk.i64_in _ (by omega)
    have HM := hid hm
    have hml : (m : Int) ≤ left + 1 := by omega
    have hmx : (m : Int) ≤ 31 := by omega
    clear hm
    go_enter Try.func119, Try.ntmps119
    go_wp2_with (go_at_call 113; refine (minimum_any x left _ _ _ (by go_simp) (by go_simp)).mono ?_; rintro e w6 ⟨rfl, rfl⟩)
    obtain ⟨W1, hW1⟩ : ∃ W1, W1 = W.alloc (Obj.cells #[Value.int .i64 x, Value.int .i64 left] 3) := ⟨_, rfl⟩
    rw [← hW1]
    have hb1 : Below W.heap.size W W1 := by rw [hW1]; exact below_alloc1 (Nat.le_refl _) _
    have hL1 := hL'.below hb1
    clear hW1 h4 h5 h6 h7 h8 h9 h10 h11 hL' c0
    obtain ⟨n1, n2, n3, n4, n5⟩ := hne
    have n5' : bw ≠ bch := Ne.symm n5
    have n3' : bw ≠ bws := Ne.symm n3
    go_loopw [32] (fun i wr => ∃ j : Nat, j ≤ m ∧ i = .int .i64 j ∧ Hid (((List.range m).drop j).findSome? (fun n : Nat => pickB (okB T g) xs (left - n) (pre ++ [(n : Int)])) = (List.range m).findSome? fun n : Nat => pickB (okB T g) xs (left - n) (pre ++ [(n : Int)])) ∧ Chg (fun b => b = bw) W wr ∧ ∃ y, BLies ⟨n, N, bs, bk, bws, bg, bch, bw, .slice (some ⟨b, off, none⟩) st.length scap, wv⟩ c T st g (pre ++ y :: List.replicate xs.length 0) wr) (fun i _ => m - (intOf i).toNat)
    case atStart => exact ⟨0, by omega, rfl, hid rfl, chg_of_below hb1, 0, hL1⟩
    case round =>
      obtain ⟨j, hj, rfl, HI, hch, y, hLj⟩ := hrel
      have hLj' := hLj
      obtain ⟨-, -, -, -, -, -, -, d8, -, d10, d11, -⟩ := hLj
      simp only at d8 d10 d11
      have hkb : k < ((pre ++ y :: List.replicate xs.length 0).map (Value.int .i64)).length := by simp; omega
      have e0 := cell_of_row d11 k
      have e1 := frozen_of_row d11 k
      rw [List.getElem?_toArray, List.getElem?_map, List.getElem?_append_right (by omega), show k - pre.length = 0 by omega] at e0
      simp only [List.getElem?_cons_zero, Option.map_some] at e0
      clear d11
      by_cases hjm : j < m
      · have hLs := hLj'.store k (j : Int)
        rw [← hp, set_mid, hp] at hLs
        have hcs := hch.trans (chg_setCell (T := fun b => b = bw) wr (p := ⟨bw, k, none⟩) rfl (.int .i64 (j : Int)))
        have hwl : IntKind.i64.wrap (left - j) = left - j := IntWalk.i64_in _ (by omega)
        have HS := hid (findSome_drop (fun n : Nat => pickB (okB T g) xs (left - n) (pre ++ [(n : Int)])) m j hjm)
        have e10 : (wr.setCell ⟨bw, k, none⟩ (.int .i64 (j : Int))).cell? ⟨bch, 0, none⟩ = _ := hLs.xch
        simp only at e10
        have happ : pre ++ (j : Int) :: List.replicate xs.length 0 = (pre ++ [(j : Int)]) ++ List.replicate xs.length 0 := by simp
        rw [happ] at hLs
        have HCALL := hid (IH.out (k + 1) ((k : Int) + 1) (pre ++ [(j : Int)]) (left - j) (by simp) HD.out (by omega) (by simp; omega) (fun z hz => by
            rcases List.mem_append.1 hz with hz | hz
            · exact HPB.out z hz
            · simp at hz; omega) (by omega) (by omega) (by rw [sumI_snoc]; omega) _ hLs)
        obtain ⟨r, hr⟩ : ∃ r, r = pickB (okB T g) xs (left - j) (pre ++ [(j : Int)]) := ⟨_, rfl⟩
        rw [← hr] at HCALL HS
        have HRR := hid hr
        clear hr
        cases r with
        | none =>
          go_wp2_with (go_at_call 119; refine HCALL.out.mono ?_; rintro e w3 ⟨rfl, hch3, hL3⟩)
          go_roundw
          case rel => exact ⟨j + 1, by omega, by go_num, hid (by rw [← HI.out, HS.out]; rfl), hcs.trans hch3, j, by rw [happ]; exact hL3⟩
          case measure => simp [intOf]; omega
        | some r =>
          go_wp2_with (go_at_call 119; refine HCALL.out.mono ?_; rintro e w3 ⟨rfl, hch3, hL3⟩)
          go_ret
          have hfin : pickB (okB T g) (x :: xs) left pre = some r := by rw [HPK.out, ← HI.out, HS.out]; rfl
          rw [hfin]
          exact ⟨rfl, hcs.trans hch3, hL3⟩
      · have hLs := hLj'.store k 0
        rw [← hp, set_mid, hp] at hLs
        have hcs := hch.trans (chg_setCell (T := fun b => b = bw) wr (p := ⟨bw, k, none⟩) rfl (.int .i64 0))
        have hfin := hid (show pickB (okB T g) (x :: xs) left pre = none by
          rw [HPK.out, ← HI.out, List.drop_eq_nil_of_le (by simp; omega)]; rfl)
        go_wp2
        go_ret
        rw [hfin.out]
        exact ⟨rfl, hcs, hLs⟩
end Go.Proofs.Ytjddcaimjofihaa

namespace Go.Proofs.Ytjddcaimjofihaa
open Go.RowKit Go.Shelf
set_option maxRecDepth 100000

def foundErr (r : Option (List Int)) : Int := if r.isSome then 0 else 10

theorem askErr_zero {c : Ce} {fb : Bool} (he : askErr c fb = 0) : fault c = 0 ∧ fb = true ∧ truthsOf c [] ≠ [] := by
  unfold askErr at he
  split at he
  · next h => exact absurd he h
  · next h =>
    split at he
    · next h2 =>
      split at he
      · cases he
      · next h3 => exact ⟨by simpa using h, h2, h3⟩
    · cases he

theorem wpList_make_ints (w : World) {ops : Array Oper} {rest : List Oper} {o : Oper} {a : Act} {Q : Exit → Act → World → Prop}
    (hg : o.guard = none) (l c : Operand) (t : TypeId) (hop : o.op = Op.makeSlice t l c) (ht : Try.prog.underlying t = some (.slice 3)) (n : Nat) (hl : a.eval l = .int .i64 (n : Int)) (hc : a.eval c = .int .i64 (n : Int)) (hn : n ≤ 1000)
    (hK : wpList Try.prog ops Q rest (a.put o.dst (.slice (some ⟨w.heap.size, 0, none⟩) n n)) (w.alloc (.cells ((List.replicate n (0 : Int)).map (Value.int .i64)).toArray 3))) :
    wpList Try.prog ops Q (o :: rest) a w := by
  obtain ⟨i, hi, hz0, hz1, hz2⟩ := info_parts infoInt
  refine wpList_make_row w hg l c t hop 3 i (.int .i64 0) ht hi hz0 hz1 rfl .i64 .i64 n hl hc (by rw [hz2]; omega) (by omega) ?_
  have : madeCells #[Value.int .i64 0] n = ((List.replicate n (0 : Int)).map (Value.int .i64)).toArray := by
    apply Array.ext'
    rw [toList_madeCells_one]
    simp
  rw [this]
  exact hK

theorem Blend_err (c : Ce) (vc : Value) (st : List Int) (vs : Value) (wt g : Int) (n : Nat) (w : World) (hn : n ≤ w.heap.size) (h : CeV (Lt n) w vc c) (hsm : Small c) (hst : Ints (Lt n) w vs st) (hsl : st.length ≤ 1000) (he : askErr c (blendOk c st wt g) ≠ 0) :
    Calls Try.prog 64 #[vc, vs, .int .i64 wt, .int .i64 g] w (RetInts [] (askErr c (blendOk c st wt g)) w) := by
  have h' := h
  obtain ⟨ha, hc, ka, kc, ta, tc, rfl, -, -, -⟩ := h.open
  have hst' := hst
  obtain ⟨sa, scap, rfl, -, -⟩ := hst.open1
  have hne : (askErr c (blendOk c st wt g) != 0) = true := by simpa using he
  generalize hea : askErr c (blendOk c st wt g) = ea at *
  have HE := hid hea
  have HNE := hid he
  clear he hea
  go_enter Try.func64, Try.ntmps64
  go_wp2_with (go_at_call 118; refine (blending_any c _ st _ wt g n _ (by simp; omega) (h'.below (below_alloc3 hn _ _ _)) hsm (hst'.below (below_alloc3 hn _ _ _)) hsl).mono ?_; rintro e w2 ⟨hb2, v, rfl, hv0, -⟩; have hvv := hv0 (by rw [HE.out]; exact HNE.out); subst hvv; rw [HE.out])
  go_ret2
  exact ⟨_, rfl, Sl.nil, (below_after (below_alloc3 (Nat.le_refl _) _ _ _) hb2 (Nat.le_refl _)).trans (below_alloc1 (by have := hb2.size; simp at this; omega) _)⟩

set_option maxHeartbeats 2000000 in
theorem Blend_go (c : Ce) (vc : Value) (st : List Int) (vs : Value) (wt g : Int) (n : Nat) (w : World) (hn : n ≤ w.heap.size) (h : CeV (Lt n) w vc c) (hsm : Small c) (hst : Ints (Lt n) w vs st) (hsl : st.length ≤ 1000) (he : askErr c (blendOk c st wt g) = 0) :
    Calls Try.prog 64 #[vc, vs, .int .i64 wt, .int .i64 g] w (RetInts ((pickB (okB (truthsOf c []) g) st wt []).getD []) (foundErr (pickB (okB (truthsOf c []) g) st wt [])) w) := by
  have hmf : ∀ (fn : Fn) (first cap : Array Value) (w : World), (Instr.makeFunc fn first cap).run Try.prog w = .ok (.func fn first cap) w := fun _ _ _ _ => rfl
  have h' := h
  obtain ⟨ha, hc, ka, kc, ta, tc, rfl, -, -, -⟩ := h.open
  have hst' := hst
  obtain ⟨sa, scap, rfl, -, -⟩ := hst.open1
  obtain ⟨hf, hbl, ht0⟩ := askErr_zero he
  have hg := (fault_good hf).1
  have hT := truths_fits hg []
  have hTl := truthsOf_few hf []
  obtain ⟨⟨g1, g2, g3, -⟩, -⟩ := hg.facts
  simp only [blendOk, weightsB, Bool.and_eq_true, beq_iff_eq, List.all_eq_true, isW, within_iff] at hbl
  obtain ⟨⟨⟨s1, s2⟩, s3⟩, s4⟩ := hbl
  have HS2 := hid s2
  have HE := hid he
  have HT := hid (And.intro hT hTl)
  have HALL := hid (And.intro s1 (And.intro s3 s4))
  clear he hf ht0 s1 s2 s3 s4 hT hTl
  go_enter Try.func64, Try.ntmps64
  go_wp2_with (first
    | (go_at_call 118; refine (blending_any c _ st _ wt g n _ (by simp; omega) (h'.below (below_alloc3 hn _ _ _)) hsm (hst'.below (below_alloc3 hn _ _ _)) hsl).mono ?_; rintro e w2 ⟨hb2, v, rfl, -, hw⟩; replace hw := hw HE.out; rw [HE.out]; have hw' := hw; obtain ⟨bb, _, _, _, _, hvv, -⟩ := hw; subst hvv; have hb3 := below_after (below_alloc3 (Nat.le_refl _) _ _ _) hb2 (Nat.le_refl _); obtain ⟨hc2, hf2⟩ := bcell hb2; have hz2 : w.heap.size + 2 < w2.heap.size := (by have := hb2.size; simp at this; omega); have l0 : w.heap.size < w2.heap.size := (by omega); have l1 : w.heap.size + 1 < w2.heap.size := (by omega); have l2 : w.heap.size + 1 + 1 < w2.heap.size := (by omega))
    | (at_make; refine wpList_make_ints _ rfl _ _ _ rfl (by kernel_rfl) st.length rfl rfl (by omega) ?_))
  obtain ⟨W4, hW4⟩ : ∃ W4, W4 = (((w2.alloc (Obj.cells #[Value.pointer (some ⟨bb, 0, none⟩)] 127)).alloc (Obj.cells (Array.replicate st.length (Value.int .i64 0)) 3)).alloc (Obj.cells #[Value.slice (some ⟨w2.heap.size + 1, 0, none⟩) st.length st.length] 47)).alloc
      (Obj.cells #[Value.func (Fn.func 119) #[] #[Value.pointer (some ⟨w.heap.size + 1, 0, none⟩), Value.pointer (some ⟨w2.heap.size, 0, none⟩), Value.pointer (some ⟨w2.heap.size + 1 + 1, 0, none⟩), Value.pointer (some ⟨w.heap.size + 1 + 1, 0, none⟩), Value.pointer (some ⟨w2.heap.size + 1 + 1 + 1, 0, none⟩)]] 170) := ⟨_, rfl⟩
  rw [← hW4]
  obtain ⟨q0, q1, q2, q3⟩ := hW4 ▸ heap_four w2 _ _ _ _
  have hs4 : W4.heap.size = w2.heap.size + 4 := by rw [hW4]; simp
  have hb4 : Below w2.heap.size w2 W4 := by rw [hW4]; exact below_alloc4 (Nat.le_refl _) _ _ _ _
  have x1 : w2.cell? ⟨w.heap.size + 1, 0, none⟩ = some (.slice sa st.length scap) := by go_simp
  have x2 : w2.cell? ⟨w.heap.size + 1 + 1, 0, none⟩ = some (.int .i64 g) := by go_simp
  clear hW4 hc2 hf2
  obtain ⟨s1, ⟨s3, s3'⟩, s4⟩ := HALL.out
  have hbw2 : Below w.heap.size w W4 := below_after hb3 hb4 (Nat.le_refl _)
  have hL : BLies ⟨w2.heap.size, W4.heap.size, w.heap.size + 1, w2.heap.size, w2.heap.size + 1 + 1, w.heap.size + 1 + 1, w2.heap.size + 1 + 1 + 1, w2.heap.size + 1, .slice sa st.length scap, .pointer (some ⟨bb, 0, none⟩)⟩ c (truthsOf c []) st g ([] ++ List.replicate st.length 0) W4 := by
    refine ⟨Nat.le_refl _, by simp only; omega, by simp only; omega, hw'.below hb4, ((hst'.below (hbw2.mono hn)).le (show n ≤ w2.heap.size by omega)), (hb4.cell (p := ⟨w.heap.size + 1, 0, none⟩) (by show w.heap.size + 1 < _; omega)).trans x1, cell_of_row q0 0, cell_of_row q2 0, (hb4.cell (p := ⟨w.heap.size + 1 + 1, 0, none⟩) (by show w.heap.size + 1 + 1 < _; omega)).trans x2, cell_of_row q3 0, by simpa using q1, by simp⟩
  have HCALL := hid (blend1_any _ c hg (truthsOf c []) HT.out.1 HT.out.2 st g (by omega) HS2.out st 0 0 [] wt rfl rfl (by omega) rfl (by simp) (by omega) (by omega) (by simp [sumI]; omega) W4 hL)
  simp only at HCALL
  clear hL q0 q1 q2 q3 x1 x2 s1
  generalize hr : pickB (okB (truthsOf c []) g) st wt [] = r at *
  have HR := hid hr
  clear hr
  cases r with
  | none =>
    go_wp2_with (go_at_call 119; refine HCALL.out.mono ?_; rintro e w5 ⟨rfl, hch, hL5⟩)
    go_ret2
    exact ⟨_, rfl, Sl.nil, hbw2.trans (hch.below (by omega) (fun b hb => by omega))⟩
  | some r =>
    go_wp2_with (go_at_call 119; refine HCALL.out.mono ?_; rintro e w5 ⟨rfl, hch, hL5⟩; have y0 := hL5.xws; simp only at y0)
    go_ret2
    exact ⟨_, rfl, (show Ints (Lt w5.heap.size) w5 (.slice (some ⟨w2.heap.size + 1, 0, none⟩) st.length st.length) r from hL5.ints.le hL5.size), hbw2.trans (hch.below (by omega) (fun b hb => by omega))⟩

def RetB (b : Bool) (W : World) (e : Ending) (w' : World) : Prop := e = .returned (.bool b) ∧ Below W.heap.size W w'
end Go.Proofs.Ytjddcaimjofihaa
