/- Contracts of package cask: strengths of things, trials, Play, ProveTruth; no condition. -/
import Derived.Test.YtjddcaimjofihaaB1
namespace Go.Proofs.Ytjddcaimjofihaa
open Go.RowKit
set_option maxRecDepth 100000

theorem dot_take (ws s : List Int) : ∀ (k : Nat) (hk : k < ws.length), k < s.length → dot (ws.take (k + 1)) s = dot (ws.take k) s + ws[k] * s.getD k 0 := by
  induction ws generalizing s with
  | nil => intro k hk; simp at hk
  | cons x ws ih =>
    intro k hk hs
    cases s with
    | nil => simp at hs
    | cons y s =>
      cases k with
      | zero => simp [dot]
      | succ k =>
        have := ih s k (by simpa using hk) (by simpa using hs)
        simp only [List.take_succ_cons, dot, List.getElem_cons_succ, List.getD_cons_succ]
        rw [this]; omega
theorem dot_bd (ws s : List Int) (hw : ∀ x ∈ ws, 0 ≤ x ∧ x ≤ 1000) (hs : ∀ x ∈ s, 0 ≤ x ∧ x ≤ 1000) : 0 ≤ dot ws s ∧ dot ws s ≤ 1000000 * ws.length := by
  induction ws generalizing s with
  | nil => cases s <;> simp [dot]
  | cons x ws ih =>
    cases s with
    | nil => simp [dot]; omega
    | cons y s =>
      obtain ⟨a, b⟩ := hw x (by simp)
      obtain ⟨c, d⟩ := hs y (by simp)
      obtain ⟨e, f⟩ := ih s (fun z hz => hw z (by simp [hz])) (fun z hz => hs z (by simp [hz]))
      have h1 := Int.mul_nonneg a c
      have h2 := Int.mul_le_mul b d c (by omega)
      simp only [dot, List.length_cons, Int.natCast_add, Int.mul_add]
      omega

/-- The three strengths as the program holds them. -/
structure Three (s : List Int) (s0 s1 s2 : Int) : Prop where
  eq : s = [s0, s1, s2]
  bd : ∀ x ∈ s, 0 ≤ x ∧ x ≤ 1000

theorem mean_any (s : List Int) (s0 s1 s2 : Int) (hs : Three s s0 s1 s2) (ws : List Int) (v : Value) (n : Nat) (w : World) (hn : n ≤ w.heap.size) (h : Ints (Lt n) w v ws) (hl : ws.length ≤ 3) (hw : ∀ x ∈ ws, 0 ≤ x ∧ x ≤ 1000) (hpos : 0 < sumI ws) :
    Calls Try.prog 94 #[.agg #[.int .i64 s0, .int .i64 s1, .int .i64 s2], v] w fun e w' => e = .returned (.int .i64 (mean s ws)) ∧ Below w.heap.size w w' := by
  obtain ⟨a, cap, rfl, -, ho⟩ := h.open1
  obtain ⟨he, hbd⟩ := hs
  have HB := hid (fun k => dot_bd (ws.take k) s (fun x hx => hw x (List.mem_of_mem_take hx)) hbd)
  have hbd0 := hbd s0 (by simp [he])
  have hbd1 := hbd s1 (by simp [he])
  have hbd2 := hbd s2 (by simp [he])
  have HE := hid he
  have HW := hid hw
  have HT := hid (dot_take ws s)
  have HM := hid (show mean s ws = dot ws s / sumI ws from rfl)
  clear he hbd hw
  obtain ⟨sm, hsm⟩ : ∃ sm, sm = sumI ws := ⟨_, rfl⟩
  rw [← hsm] at hpos HM
  have HS := hid hsm
  clear hsm
  go_enter Try.func94, Try.ntmps94
  go_wp2
  go_loop [5, 10] (fun m i => ∃ (k : Nat) (x : Int), k ≤ ws.length ∧ i = .int .i64 k ∧ m = .int .i64 x ∧ Hid (x = dot (ws.take k) s) ∧ 0 ≤ x ∧ x ≤ 3000000) (fun _ i => ws.length - (intOf i).toNat)
  case atStart => exact ⟨0, 0, by omega, rfl, rfl, hid (by cases s <;> rfl), by omega, by omega⟩
  case round =>
    obtain ⟨k, x, hk, rfl, rfl, HX, hx0, hx1⟩ := hrel
    by_cases hlt : k < ws.length
    · rcases ho with rfl | ⟨b, off, rfl, hbn, hc⟩
      · simp at hlt
      have hbw : b < w.heap.size := Nat.lt_of_lt_of_le hbn hn
      have c0 := hc k hlt
      obtain ⟨b1, b2⟩ := HW.out ws[k] (List.getElem_mem _)
      have HT1 := hid (HT.out k hlt (by rw [HE.out]; simp; omega))
      have HB1 := hid (HB.out (k + 1))
      have hlen : (List.take (k + 1) ws).length ≤ 3 := by simp; omega
      generalize ws[k] = y at *
      clear hc
      have hk3 : k = 0 ∨ k = 1 ∨ k = 2 := by omega
      have HE' := hid HE.out
      rcases hk3 with rfl | rfl | rfl
      · replace c0 : w.cell? ⟨b, off, none⟩ = some (.int .i64 y) := c0
        have hm0 : 0 ≤ y * s0 := Int.mul_nonneg b1 hbd0.1
        have hm1 : y * s0 ≤ 1000000 := by have := Int.mul_le_mul b2 hbd0.2 hbd0.1 (by omega); omega
        have hx' : x + y * s0 ≤ 3000000 := by have := HB1.out; have h2 := HT1.out; rw [← HX.out] at h2; rw [h2, HE.out] at this; simp at this; omega
        have HZ := hid (show x + y * s0 = dot (ws.take (0 + 1)) s by rw [HT1.out, HX.out, HE.out]; rfl)
        go_wp2
        go_round
        case rel => exact ⟨1, _, by omega, by go_num, rfl, HZ, by omega, by omega⟩
        case measure => simp [intOf]; omega
      · have hm0 : 0 ≤ y * s1 := Int.mul_nonneg b1 hbd1.1
        have hm1 : y * s1 ≤ 1000000 := by have := Int.mul_le_mul b2 hbd1.2 hbd1.1 (by omega); omega
        have hx' : x + y * s1 ≤ 3000000 := by have := HB1.out; have h2 := HT1.out; rw [← HX.out] at h2; rw [h2, HE.out] at this; simp at this; omega
        have HZ := hid (show x + y * s1 = dot (ws.take (1 + 1)) s by rw [HT1.out, HX.out, HE.out]; rfl)
        go_wp2
        go_round
        case rel => exact ⟨2, _, by omega, by go_num, rfl, HZ, by omega, by omega⟩
        case measure => simp [intOf]; omega
      · have hm0 : 0 ≤ y * s2 := Int.mul_nonneg b1 hbd2.1
        have hm1 : y * s2 ≤ 1000000 := by have := Int.mul_le_mul b2 hbd2.2 hbd2.1 (by omega); omega
        have hx' : x + y * s2 ≤ 3000000 := by have := HB1.out; have h2 := HT1.out; rw [← HX.out] at h2; rw [h2, HE.out] at this; simp at this; omega
        have HZ := hid (show x + y * s2 = dot (ws.take (2 + 1)) s by rw [HT1.out, HX.out, HE.out]; rfl)
        go_wp2
        go_round
        case rel => exact ⟨3, _, by omega, by go_num, rfl, HZ, by omega, by omega⟩
        case measure => simp [intOf]; omega
    · have HK := hid (show ws.take k = ws from List.take_of_length_le (by omega))
      have hb1 := below_alloc1 (n := n) (w := w) hn (Obj.cells #[.int .i64 s0, .int .i64 s1, .int .i64 s2] 140)
      go_wp2_with (go_at_call 122; refine (sum_any ws _ n _ (h.below hb1) (by omega) HW.out).mono ?_; rw [← HS.out]; rintro e w' ⟨rfl, rfl⟩)
      go_ret
      exact ⟨ret_int (by rw [HM.out, HX.out, HK.out]), below_alloc1 (Nat.le_refl _) _⟩

/-- A cellar that is valid except for the number of its truths. -/
structure Good (c : Ce) : Prop where
  sz : sizes c = false
  ok : partsOk c = true

theorem Good.facts {c : Ce} (h : Good c) : (1 ≤ c.heaps.length ∧ c.heaps.length ≤ 3 ∧ c.casks.length ≤ 3 ∧ c.trials.length ≤ 5) ∧ (∀ r ∈ c.heaps, 0 ≤ r.lo ∧ r.lo ≤ r.hi ∧ r.hi ≤ 100) ∧
    (∀ l ∈ c.casks, l.length = c.heaps.length ∧ (∀ x ∈ l, 0 ≤ x ∧ x ≤ 30) ∧ 0 < sumI l) ∧
    (∀ t ∈ c.trials, 0 ≤ t.num ∧ (t.cask = true → t.num < c.casks.length) ∧ (t.cask = false → t.num < c.heaps.length) ∧ 0 ≤ t.s.lo ∧ t.s.lo ≤ t.s.hi ∧ t.s.hi ≤ 100) := by
  obtain ⟨hs, hp⟩ := h
  simp only [sizes, Bool.or_eq_false_iff, decide_eq_false_iff_not] at hs
  simp only [partsOk, Bool.and_eq_true, List.all_eq_true] at hp
  obtain ⟨⟨⟨p0, p1⟩, p2⟩, p3⟩ := hp
  simp at p0
  have := List.length_pos_iff.2 p0
  refine ⟨⟨by omega, by omega, by omega, by omega⟩, fun r hr => strong_iff.1 (p1 r hr), fun l hl => ?_, fun t ht => ?_⟩
  · have := p2 l hl
    simp only [isCask, weightsB, Bool.and_eq_true, beq_iff_eq, decide_eq_true_eq, List.all_eq_true] at this
    exact ⟨this.1.1, fun x hx => within_iff.1 (this.1.2 x hx), this.2⟩
  · have := p3 t ht
    simp only [trialB, Bool.and_eq_true] at this
    have h1 := within_iff.1 this.1
    have h2 := strong_iff.1 this.2
    refine ⟨h1.1, fun e => ?_, fun e => ?_, h2⟩
    · rw [e] at h1; simp at h1; omega
    · rw [e] at h1; simp at h1; omega

theorem of_cask (c : Ce) (hg : Good c) (vc : Value) (n : Nat) (s : List Int) (s0 s1 s2 : Int) (hs : Three s s0 s1 s2) (t : Int) (w : World) (hn : n ≤ w.heap.size) (h : CeV (Lt n) w vc c) (h0 : (c.heaps.length : Int) ≤ t) (h1 : t < c.heaps.length + c.casks.length) :
    Calls Try.prog 130 #[vc, .agg #[.int .i64 s0, .int .i64 s1, .int .i64 s2], .int .i64 t] w fun e w' => e = .returned (.int .i64 (ofT c s t)) ∧ Below w.heap.size w w' := by
  obtain ⟨ha, hc, ka, kc, ta, tc, rfl, -, H2, -⟩ := h.open
  obtain ⟨⟨g1, g2, g3, -⟩, -, g6, -⟩ := hg.facts
  have G6 := hid g6
  clear g6
  obtain ⟨j, rfl⟩ : ∃ j : Nat, t = c.heaps.length + j := ⟨(t - c.heaps.length).toNat, by omega⟩
  have hj : j < c.casks.length := by omega
  have HR := hid (show ofT c s (c.heaps.length + j) = mean s c.casks[j] by
    rw [ofT, if_pos (by omega), show ((c.heaps.length : Int) + j - c.heaps.length).toNat = j by omega, List.getD_eq_getElem?_getD, List.getElem?_eq_getElem hj]; rfl)
  obtain ⟨a, cap, he, -, ho⟩ := H2.open
  cases he
  rcases ho with hnil | ⟨b, off, rfl, hbn, hcc⟩
  · rw [hnil] at hj; simp at hj
  have hbw : b < w.heap.size := Nat.lt_of_lt_of_le hbn hn
  obtain ⟨xv, c0, hx⟩ := hcc j hj
  have G := hid (G6.out c.casks[j] (List.getElem_mem _))
  generalize c.casks[j] = ws at *
  clear hcc H2 h
  generalize c.heaps.length = hl at *
  generalize c.casks.length = kl at *
  obtain ⟨W, hW⟩ : ∃ W, W = (w.alloc (Obj.cells #[Value.slice ha hl hc, Value.slice (some { block := b, off := off }) kl kc, Value.slice ta c.trials.length tc] 35)).alloc (Obj.cells #[Value.int IntKind.i64 s0, Value.int IntKind.i64 s1, Value.int IntKind.i64 s2] 140) := ⟨_, rfl⟩
  obtain ⟨hgc, hgf⟩ := grew_cells W
  have hWs : W.heap.size = w.heap.size + 2 := by rw [hW]; simp
  have hWb : Below w.heap.size w W := by rw [hW]; exact below_alloc2 (Nat.le_refl _) _ _
  have e0 : W.cell? ⟨w.heap.size, 1, none⟩ = some (Value.slice (some { block := b, off := off }) kl kc) := by rw [hW]; go_simp
  have e1 : W.cell? ⟨w.heap.size + 1, 0, none⟩ = some (.int .i64 s0) := by rw [hW]; go_simp
  have e2 : W.cell? ⟨w.heap.size + 1, 1, none⟩ = some (.int .i64 s1) := by rw [hW]; go_simp
  have e3 : W.cell? ⟨w.heap.size + 1, 2, none⟩ = some (.int .i64 s2) := by rw [hW]; go_simp
  have e4 : W.cell? ⟨b, off + j, none⟩ = some xv := by rw [← c0]; exact (bcell hWb).1 b _ hbw
  have l1 : w.heap.size + 1 < W.heap.size := by omega
  have l2 : w.heap.size < W.heap.size := by omega
  have l3 : b < W.heap.size := by omega
  go_enter Try.func130, Try.ntmps130
  go_wp2
  rw [← hW]
  have hi : IntKind.i64.wrap ((hl : Int) + j - hl) = j := by rw [show (hl : Int) + j - hl = j by omega]; exact IntWalk.i64_in _ (by omega)
  have HN : ∀ g, n ≤ (World.grew W g).heap.size := fun g => Nat.le_trans (by omega) (grew_below W g).size
  have HX : ∀ g, Ints (Lt n) (World.grew W g) xv ws := fun g => (hx.below (hWb.mono hn)).below ((grew_below W g).mono (by omega))
  obtain ⟨q1, q2, q3⟩ := G.out
  have Q1 := hid q1
  have Q2 : ∀ x ∈ ws, 0 ≤ x ∧ x ≤ 1000 := fun x hx => by have := q2 x hx; omega
  have Q2' := hid Q2
  clear hW hWs q1 q2 Q2
  refine wp_region_grew (by kernel_rfl) (by kernel_rfl) ?_
  repeat (go_big_quiet_step ((go_at_call 94; exact grew_of (mean_any s s0 s1 s2 hs ws xv n _ (HN _) (HX _) (by have := Q1.out; omega) Q2'.out q3))))
  refine wpQuiet_nil ?_
  rintro _ ⟨ex, rfl⟩
  go_wp2
  go_ret
  exact ⟨ret_int HR.out.symm, hWb.trans ((grew_below W ex).mono hWb.size)⟩

theorem of_heap (c : Ce) (hg : Good c) (vc : Value) (n : Nat) (s : List Int) (s0 s1 s2 : Int) (hs : Three s s0 s1 s2) (t : Int) (w : World) (h : CeV (Lt n) w vc c) (h0 : 0 ≤ t) (h1 : t < c.heaps.length) :
    Calls Try.prog 130 #[vc, .agg #[.int .i64 s0, .int .i64 s1, .int .i64 s2], .int .i64 t] w fun e w' => e = .returned (.int .i64 (ofT c s t)) ∧ Below w.heap.size w w' := by
  obtain ⟨ha, hc, ka, kc, ta, tc, rfl, -, -, -⟩ := h.open
  obtain ⟨⟨g1, g2, g3, -⟩, -, -, -⟩ := hg.facts
  have HR := hid (show ofT c s t = s.getD t.toNat 0 by rw [ofT, if_neg (by omega)])
  have HE := hid hs.eq
  generalize c.heaps.length = hl at *
  generalize c.casks.length = kl at *
  have ht : t = 0 ∨ t = 1 ∨ t = 2 := by omega
  rcases ht with rfl | rfl | rfl
  all_goals
    go_enter Try.func130, Try.ntmps130
    go_wp2
    go_ret
    exact ⟨ret_int (by rw [HR.out, HE.out]; rfl), below_alloc2 (Nat.le_refl _) _ _⟩

/-- The strength of a thing. -/
theorem of_any (c : Ce) (hg : Good c) (vc : Value) (n : Nat) (s : List Int) (s0 s1 s2 : Int) (hs : Three s s0 s1 s2) (t : Int) (w : World) (hn : n ≤ w.heap.size) (h : CeV (Lt n) w vc c) (h0 : 0 ≤ t) (h1 : t < c.heaps.length + c.casks.length) :
    Calls Try.prog 130 #[vc, .agg #[.int .i64 s0, .int .i64 s1, .int .i64 s2], .int .i64 t] w fun e w' => e = .returned (.int .i64 (ofT c s t)) ∧ Below w.heap.size w w' := by
  by_cases ht : t < c.heaps.length
  · exact of_heap c hg vc n s s0 s1 s2 hs t w h h0 ht
  · exact of_cask c hg vc n s s0 s1 s2 hs t w hn h (by omega) h1

/-! ### Membership in a list of numbers -/
theorem Index_any (l : List Int) (x : Int) (v : Value) (n : Nat) (w : World) (h : Ints (Lt n) w v l) (hll : l.length ≤ 1000) :
    Calls Try.prog 186 #[v, .int .i64 x] w fun e w' => e = .returned (.int .i64 (idxF (fun y => x == y) l 0)) ∧ w = w' := by
  obtain ⟨a, cap, rfl, -, ho⟩ := h.open1
  go_enter Try.func186, Try.ntmps186
  go_wp2
  go_loop [8] (fun i => ∃ k : Nat, k ≤ l.length ∧ i = .int .i64 k ∧ Hid (idxF (fun y => x == y) (l.drop k) k = idxF (fun y => x == y) l 0)) (fun i => l.length - (intOf i).toNat)
  case atStart => exact ⟨0, by omega, rfl, hid rfl⟩
  case round =>
    obtain ⟨k, hk, rfl, HI⟩ := hrel
    by_cases hlt : k < l.length
    · have HD := hid (List.drop_eq_getElem_cons hlt)
      rcases ho with rfl | ⟨b, off, rfl, -, hc⟩
      · simp at hlt
      have c0 := hc k hlt
      clear hc
      generalize l[k] = y at *
      have HN := hid (show idxF (fun y => x == y) (y :: l.drop (k + 1)) k = if x == y then (k : Int) else idxF (fun y => x == y) (l.drop (k + 1)) (k + 1) from rfl)
      cases hxy : (x == y)
      · have HY := hid hxy
        go_wp2
        go_round
        case rel => exact ⟨k + 1, by omega, by go_num, hid (by have := HI.out; rw [HD.out, HN.out, HY.out] at this; simpa using this)⟩
        case measure => simp [intOf]; omega
      · have HY := hid hxy
        go_wp2
        go_ret
        exact ⟨ret_int (by have := HI.out; rw [HD.out, HN.out, HY.out] at this; simpa using this), rfl⟩
    · have HE := hid (show l.drop k = [] from List.drop_eq_nil_of_le (by omega))
      go_wp2
      go_ret
      exact ⟨ret_int (by have := HI.out; rw [HE.out, idxF] at this; exact this), rfl⟩

theorem any_contains (l : List Int) (x : Int) : (l.any fun y => x == y) = l.contains x := by
  induction l with
  | nil => rfl
  | cons y l ih => rw [List.any_cons, List.contains_cons, ih]

theorem Contains_any (l : List Int) (x : Int) (v : Value) (n : Nat) (w : World) (h : Ints (Lt n) w v l) (hll : l.length ≤ 1000) :
    Calls Try.prog 163 #[v, .int .i64 x] w fun e w' => e = .returned (.bool (l.contains x)) ∧ w = w' := by
  have HR := hid (idxF_any (fun y => x == y) l 0 (by omega))
  have HC := hid (any_contains l x)
  obtain ⟨i, hi⟩ : ∃ i, i = idxF (fun y => x == y) l 0 := ⟨_, rfl⟩
  rw [← hi] at HR
  have HI := hid hi
  clear hi
  go_enter Try.func163, Try.ntmps163
  go_wp2_with (go_at_call 186; refine (Index_any l x v n _ h hll).mono ?_; rw [← HI.out]; rintro e w' ⟨rfl, rfl⟩)
  go_ret
  exact ⟨ret_bool (by rw [← HC.out]; exact HR.out), rfl⟩

end Go.Proofs.Ytjddcaimjofihaa

namespace Go.Proofs.Ytjddcaimjofihaa
open Go.RowKit
set_option maxRecDepth 100000

theorem thing_bd {c : Ce} {t : Tl} (hg : Good c) (ht : t ∈ c.trials) : 0 ≤ thing c.heaps.length t ∧ thing c.heaps.length t < c.heaps.length + c.casks.length := by
  obtain ⟨-, -, -, h⟩ := hg.facts
  obtain ⟨h1, h2, h3, -⟩ := h t ht
  unfold thing
  cases hc : t.cask
  · have := h3 hc; simp; omega
  · have := h2 hc; simp; omega

theorem Contains_hid {b : Bool} (l : List Int) (x : Int) (HB : Hid (b = l.contains x)) (v : Value) (n : Nat) (w : World) (h : Ints (Lt n) w v l) (hll : l.length ≤ 1000) :
    Calls Try.prog 163 #[v, .int .i64 x] w fun e w' => e = .returned (.bool b) ∧ w = w' := by
  rw [HB.out]; exact Contains_any l x v n w h hll

set_option maxHeartbeats 2000000 in
theorem right_any (c : Ce) (hg : Good c) (vc : Value) (n : Nat) (s : List Int) (s0 s1 s2 : Int) (hs : Three s s0 s1 s2) (out : List Int) (vo : Value) (w : World) (hn : n ≤ w.heap.size) (h : CeV (Lt n) w vc c) (hout : Ints (Lt n) w vo out) (hol : out.length ≤ 1000) :
    Calls Try.prog 115 #[vc, .agg #[.int .i64 s0, .int .i64 s1, .int .i64 s2], vo] w fun e w' => e = .returned (.bool (right c s out)) ∧ Below w.heap.size w w' := by
  have h' := h
  obtain ⟨ha, hc, ka, kc, ta, tc, rfl, -, -, H3⟩ := h.open
  obtain ⟨⟨g1, g2, g3, g4⟩, -, -, -⟩ := hg.facts
  obtain ⟨a, cap, he, -, ho⟩ := H3.open4
  cases he
  have HR := hid (show right c s out = rightFrom c s out c.trials 0 from rfl)
  obtain ⟨W0, hW0⟩ : ∃ W0, W0 = (w.alloc (Obj.cells #[Value.slice ha c.heaps.length hc, Value.slice ka c.casks.length kc, Value.slice ta c.trials.length tc] 35)).alloc (Obj.cells #[Value.int IntKind.i64 s0, Value.int IntKind.i64 s1, Value.int IntKind.i64 s2] 140) := ⟨_, rfl⟩
  have hWs : W0.heap.size = w.heap.size + 2 := by rw [hW0]; simp
  have hWb : Below w.heap.size w W0 := by rw [hW0]; exact below_alloc2 (Nat.le_refl _) _ _
  have b0 : W0.cell? ⟨w.heap.size, 0, none⟩ = some (Value.slice ha c.heaps.length hc) := by rw [hW0]; go_simp
  have b1 : W0.cell? ⟨w.heap.size, 1, none⟩ = some (Value.slice ka c.casks.length kc) := by rw [hW0]; go_simp
  have b2 : W0.cell? ⟨w.heap.size, 2, none⟩ = some (Value.slice ta c.trials.length tc) := by rw [hW0]; go_simp
  have b3 : W0.cell? ⟨w.heap.size + 1, 0, none⟩ = some (.int .i64 s0) := by rw [hW0]; go_simp
  have b4 : W0.cell? ⟨w.heap.size + 1, 1, none⟩ = some (.int .i64 s1) := by rw [hW0]; go_simp
  have b5 : W0.cell? ⟨w.heap.size + 1, 2, none⟩ = some (.int .i64 s2) := by rw [hW0]; go_simp
  go_enter Try.func115, Try.ntmps115
  go_wp2
  rw [← hW0]
  have HWS := hid hWs
  have l1 : w.heap.size < W0.heap.size := by omega
  have l2 : w.heap.size + 1 < W0.heap.size := by omega
  clear hW0 hWs
  go_loopw [12] (fun i wr => ∃ k : Nat, k ≤ c.trials.length ∧ i = .int .i64 k ∧ Hid (rightFrom c s out (c.trials.drop k) k = rightFrom c s out c.trials 0) ∧ Below W0.heap.size W0 wr) (fun i _ => c.trials.length - (intOf i).toNat)
  case atStart => exact ⟨0, by omega, rfl, hid rfl, Below.refl _ _⟩
  case round =>
    obtain ⟨k, hk, rfl, HI, hb⟩ := hrel
    by_cases hlt : k < c.trials.length
    · have HD := hid (List.drop_eq_getElem_cons hlt)
      rcases ho with hnil | ⟨b, off, rfl, hbn, hcc⟩
      · rw [hnil] at hlt; simp at hlt
      have hbw : b < w.heap.size := Nat.lt_of_lt_of_le hbn hn
      obtain ⟨c0, c1, c2, c3⟩ := hcc k hlt
      have hwr := hWb.trans (hb.mono hWb.size)
      replace c0 := ((bcell hwr).1 b _ hbw).trans c0
      replace c1 := ((bcell hwr).1 b _ hbw).trans c1
      replace c2 := ((bcell hwr).1 b _ hbw).trans c2
      replace c3 := ((bcell hwr).1 b _ hbw).trans c3
      obtain ⟨tb0, tb1⟩ := thing_bd hg (List.getElem_mem hlt)
      have tn : 0 ≤ c.trials[k].num ∧ c.trials[k].num ≤ 1000 := by
        obtain ⟨-, -, -, hh⟩ := hg.facts
        obtain ⟨h1, h2, h3, -⟩ := hh c.trials[k] (List.getElem_mem hlt)
        cases hc : c.trials[k].cask
        · have := h3 hc; omega
        · have := h2 hc; omega
      have HN := hid (show rightFrom c s out (c.trials[k] :: c.trials.drop (k + 1)) k = ((out.contains (k : Int) || has c.trials[k].s (ofT c s (thing c.heaps.length c.trials[k]))) && rightFrom c s out (c.trials.drop (k + 1)) (k + 1)) from rfl)
      clear hcc
      generalize c.trials[k] = t at *
      obtain ⟨W, hW⟩ : ∃ W, W = wr.alloc (Obj.cells #[Value.bool t.cask, .int .i64 t.num, .int .i64 t.s.lo, .int .i64 t.s.hi] 125) := ⟨_, rfl⟩
      obtain ⟨hgc, hgf⟩ := grew_cells W
      have hWr : Below wr.heap.size wr W := by rw [hW]; exact below_alloc1 (Nat.le_refl _) _
      have hW1 : Below W0.heap.size W0 W := hb.trans (hWr.mono hb.size)
      have hw2 : Below w.heap.size w W := hWb.trans (hW1.mono hWb.size)
      have k0 := ((bcell hW1).1 w.heap.size 0 l1).trans b0
      have k1 := ((bcell hW1).1 w.heap.size 1 l1).trans b1
      have k2 := ((bcell hW1).1 w.heap.size 2 l1).trans b2
      have k3 := ((bcell hW1).1 (w.heap.size + 1) 0 l2).trans b3
      have k4 := ((bcell hW1).1 (w.heap.size + 1) 1 l2).trans b4
      have k5 := ((bcell hW1).1 (w.heap.size + 1) 2 l2).trans b5
      have t0 : W.cell? ⟨wr.heap.size, 0, none⟩ = some (.bool t.cask) := by rw [hW]; go_simp
      have t1 : W.cell? ⟨wr.heap.size, 1, none⟩ = some (.int .i64 t.num) := by rw [hW]; go_simp
      have t2 : W.cell? ⟨wr.heap.size, 2, none⟩ = some (.int .i64 t.s.lo) := by rw [hW]; go_simp
      have t3 : W.cell? ⟨wr.heap.size, 3, none⟩ = some (.int .i64 t.s.hi) := by rw [hW]; go_simp
      have l3 : wr.heap.size < W.heap.size := by rw [hW]; simp
      have l4 : w.heap.size < W.heap.size := by have := hW1.size; omega
      have l5 : w.heap.size + 1 < W.heap.size := by have := hW1.size; omega
      have HN1 : ∀ g, n ≤ (World.grew W g).heap.size := fun g => Nat.le_trans (by omega) (grew_below W g).size
      have HG : ∀ g, Below n w (World.grew W g) := fun g => (hw2.mono hn).trans ((grew_below W g).mono (by omega))
      have HGH := hid HG
      clear HG
      obtain ⟨cn, hcn⟩ : ∃ cn, cn = out.contains (k : Int) := ⟨_, rfl⟩
      rw [← hcn] at HN
      have HCN := hid hcn
      clear hcn
      go_wp2
      rw [← hW]
      clear hW
      cases cn
      · refine wp_region_grew (by kernel_rfl) (by kernel_rfl) ?_
        repeat (go_big_quiet_step ((first
          | (go_at_call 163; exact grew_same (Contains_hid out k HCN vo n _ (hout.below (HGH.out _)) hol))
          | (go_at_call 164; exact grew_of (thing_any c.heaps.length ha hc _ _ t _ (by omega) tn))
          | (go_at_call 130; exact grew_of (of_any c hg _ n s s0 s1 s2 hs _ _ (HN1 _) (h'.below (HGH.out _)) tb0 tb1))
          | (go_at_call 136; exact grew_of (has_any _ _ _ _)))))
        refine wpQuiet_nil ?_
        rintro _ ⟨ex, rfl⟩
        go_wp2
        · have hh : (!has { lo := t.s.lo, hi := t.s.hi } (ofT c s (thing c.heaps.length t))) = true := by assumption
          have hh' : has t.s (ofT c s (thing c.heaps.length t)) = false := by simpa using hh
          go_ret
          exact ⟨ret_bool (by rw [HR.out, ← HI.out, HD.out, HN.out, hh']; rfl), hw2.trans ((grew_below W ex).mono hw2.size)⟩
        · have hh : (!has { lo := t.s.lo, hi := t.s.hi } (ofT c s (thing c.heaps.length t))) = false := by assumption
          have hh' : has t.s (ofT c s (thing c.heaps.length t)) = true := by simpa using hh
          go_roundw
          case rel => exact ⟨k + 1, by omega, by go_num, hid (by rw [← HI.out, HD.out, HN.out, hh']; simp), hW1.trans ((grew_below W ex).mono hW1.size)⟩
          case measure => simp [intOf]; omega
      · refine wp_region_grew (by kernel_rfl) (by kernel_rfl) ?_
        repeat (go_big_quiet_step ((first
          | (go_at_call 163; exact grew_same (Contains_hid out k HCN vo n _ (hout.below (HGH.out _)) hol)))))
        refine wpQuiet_nil ?_
        rintro _ ⟨ex, rfl⟩
        go_wp2
        go_roundw
        case rel => exact ⟨k + 1, by omega, by go_num, hid (by rw [← HI.out, HD.out, HN.out]; simp), hW1.trans ((grew_below W ex).mono hW1.size)⟩
        case measure => simp [intOf]; omega
    · have HE := hid (show c.trials.drop k = [] from List.drop_eq_nil_of_le (by omega))
      go_wp2
      go_ret
      exact ⟨ret_bool (by rw [HR.out, ← HI.out, HE.out]; rfl), hWb.trans (hb.mono hWb.size)⟩
end Go.Proofs.Ytjddcaimjofihaa

namespace Go.Proofs.Ytjddcaimjofihaa
open Go.RowKit
set_option maxRecDepth 100000

theorem splice3 (l : List Int) (h1 : 1 ≤ l.length) (h3 : l.length ≤ 3) : splice [Value.int .i64 0, Value.int .i64 0, Value.int .i64 0] 0 (l.map (Value.int .i64)) = [Value.int .i64 (l.getD 0 0), Value.int .i64 (l.getD 1 0), Value.int .i64 (l.getD 2 0)] := by
  match l, h1, h3 with
  | [x], _, _ => rfl
  | [x, y], _, _ => rfl
  | [x, y, z], _, _ => rfl

/-- What listed hands back. -/
def listedV (b : Bool) (l : List Int) : Value := if b then .tuple #[.agg #[.int .i64 (l.getD 0 0), .int .i64 (l.getD 1 0), .int .i64 (l.getD 2 0)], .bool true] else .tuple #[.agg #[.int .i64 0, .int .i64 0, .int .i64 0], .bool false]

theorem retI {_ : Func} {e : Ending} {a : Value} (h : e = .returned a) {b : Value} (hb : a = b) : e = .returned b := by rw [h, hb]

set_option maxHeartbeats 1000000 in
theorem listed_any (c : Ce) (hg : Good c) (vc : Value) (n : Nat) (l : List Int) (vl : Value) (w : World) (hn : n ≤ w.heap.size) (h : CeV (Lt n) w vc c) (hl : Ints (Lt n) w vl l) (hll : l.length ≤ 1000) :
    Calls Try.prog 93 #[vc, vl] w fun e w' => e = .returned (listedV (listed c.heaps l) l) ∧ Below w.heap.size w w' := by
  obtain ⟨ha, hc, ka, kc, ta, tc, rfl, H1, -, -⟩ := h.open
  obtain ⟨⟨g1, g2, g3, g4⟩, -, -, -⟩ := hg.facts
  obtain ⟨a, cap, rfl, -, hol⟩ := hl.open1
  by_cases hlen : l.length = c.heaps.length
  · obtain ⟨W0, hW0⟩ : ∃ W0, W0 = (w.alloc (Obj.cells #[Value.slice ha c.heaps.length hc, Value.slice ka c.casks.length kc, Value.slice ta c.trials.length tc] 35)).alloc (Obj.cells #[Value.int .i64 0, Value.int .i64 0, Value.int .i64 0] 140) := ⟨_, rfl⟩
    have hWs : W0.heap.size = w.heap.size + 2 := by rw [hW0]; simp
    have hWb : Below w.heap.size w W0 := by rw [hW0]; exact below_alloc2 (Nat.le_refl _) _ _
    have z0 : W0.cell? ⟨w.heap.size + 1, 0, none⟩ = some (.int .i64 0) := by rw [hW0]; go_simp
    have z1 : W0.cell? ⟨w.heap.size + 1, 1, none⟩ = some (.int .i64 0) := by rw [hW0]; go_simp
    have z2 : W0.cell? ⟨w.heap.size + 1, 2, none⟩ = some (.int .i64 0) := by rw [hW0]; go_simp
    have z3 : ∀ o, W0.frozen? ⟨w.heap.size + 1, o, none⟩ = false := by intro o; rw [hW0]; go_simp
    have l1 : w.heap.size + 1 < W0.heap.size := by omega
    have HZ := hid (show W0.heap[w.heap.size + 1]? = some (.cells #[Value.int .i64 0, Value.int .i64 0, Value.int .i64 0] 140 (0, 0)) by rw [hW0]; exact heap_new2 _ _ _)
    have hne : ((l.length : Int) != (c.heaps.length : Int)) = false := by simp [hlen]
    have HLen := hid hlen
    obtain ⟨a2, cap2, he, -, hoh⟩ := H1.open2
    cases he
    obtain ⟨li, hli⟩ : ∃ li, li = listed c.heaps l := ⟨_, rfl⟩
    have HR := hid hli
    rw [← hli]
    clear hlen hli
    go_enter Try.func93, Try.ntmps93
    go_wp2
    rw [← hW0]
    clear hW0 hWs
    go_loopw [18] (fun i wr => ∃ k : Nat, k ≤ c.heaps.length ∧ i = .int .i64 k ∧ Hid (listed (c.heaps.drop k) (l.drop k) = listed c.heaps l) ∧ Below W0.heap.size W0 wr) (fun i _ => c.heaps.length - (intOf i).toNat)
    case atStart => exact ⟨0, by omega, rfl, hid rfl, Below.refl _ _⟩
    case round =>
      obtain ⟨k, hk, rfl, HI, hb⟩ := hrel
      have hwr := hWb.trans (hb.mono hWb.size)
      by_cases hlt : k < c.heaps.length
      · have HD := hid (List.drop_eq_getElem_cons hlt)
        have hlt2 : k < l.length := by have := HLen.out; omega
        have HD2 := hid (List.drop_eq_getElem_cons hlt2)
        rcases hoh with hnil | ⟨b, off, rfl, hbn, hcc⟩
        · rw [hnil] at hlt; simp at hlt
        rcases hol with rfl | ⟨b', off', rfl, hbn', hcc'⟩
        · simp at hlt2
        have hbw : b < w.heap.size := Nat.lt_of_lt_of_le hbn hn
        have hbw' : b' < w.heap.size := Nat.lt_of_lt_of_le hbn' hn
        obtain ⟨c0, c1⟩ := hcc k hlt
        have d0 := hcc' k hlt2
        replace c0 := ((bcell hwr).1 b _ hbw).trans c0
        replace c1 := ((bcell hwr).1 b _ hbw).trans c1
        replace d0 := ((bcell hwr).1 b' _ hbw').trans d0
        generalize c.heaps[k] = r at *
        generalize l[k] = x at *
        clear hcc hcc'
        obtain ⟨W, hW⟩ : ∃ W, W = wr.alloc (Obj.cells #[Value.int .i64 r.lo, .int .i64 r.hi] 58) := ⟨_, rfl⟩
        obtain ⟨hgc, hgf⟩ := grew_cells W
        have hWr : Below wr.heap.size wr W := by rw [hW]; exact below_alloc1 (Nat.le_refl _) _
        have hW1 : Below W0.heap.size W0 W := hb.trans (hWr.mono hb.size)
        have t0 : W.cell? ⟨wr.heap.size, 0, none⟩ = some (.int .i64 r.lo) := by rw [hW]; go_simp
        have t1 : W.cell? ⟨wr.heap.size, 1, none⟩ = some (.int .i64 r.hi) := by rw [hW]; go_simp
        have d1 : W.cell? ⟨b', off' + k, none⟩ = some (.int .i64 x) := by rw [← d0]; exact (bcell hWr).1 b' _ (Nat.lt_of_lt_of_le hbw' hwr.size)
        have l3 : wr.heap.size < W.heap.size := by rw [hW]; simp
        have l4 : b' < W.heap.size := by have := hWr.size; have := hwr.size; omega
        go_wp2
        rw [← hW]
        clear hW
        refine wp_region_grew (by kernel_rfl) (by kernel_rfl) ?_
        repeat (go_big_quiet_step ((go_at_call 136; exact grew_of (has_any _ _ _ _))))
        refine wpQuiet_nil ?_
        rintro _ ⟨ex, rfl⟩
        have hfin := hW1.trans ((grew_below W ex).mono hW1.size)
        obtain ⟨f1, f2⟩ := bcell hfin
        go_wp2
        · have hh : (!has { lo := r.lo, hi := r.hi } x) = true := by assumption
          have hh' : has r x = false := by simpa using hh
          have HV := hid (show listedV li l = .tuple #[.agg #[.int .i64 0, .int .i64 0, .int .i64 0], .bool false] by
            rw [HR.out, ← HI.out, HD.out, HD2.out, listed_cons, hh']; rfl)
          rw [HV.out]
          have r3 := row_set3 ((hfin.block _ l1).trans HZ.out) (Value.int .i64 0) (Value.int .i64 0) (Value.int .i64 0)
          have q0 := cell_of_row r3 0
          have q1 := cell_of_row r3 1
          have q2 := cell_of_row r3 2
          exact bodyPost_ret (v := .tuple #[.agg #[.int .i64 0, .int .i64 0, .int .i64 0], .bool false]) (by simp [results, Try.results93, go_sem, q0, q1, q2]) rfl ⟨rfl, below_set3 (hWb.trans (hfin.mono hWb.size)) (by omega) _ _ _⟩
        · have hh : (!has { lo := r.lo, hi := r.hi } x) = false := by assumption
          have hh' : has r x = true := by simpa using hh
          go_roundw
          case rel => exact ⟨k + 1, by omega, by go_num, hid (by rw [← HI.out, HD.out, HD2.out, listed_cons, hh']; simp), hfin⟩
          case measure => simp [intOf]; omega
      · have HV := hid (show listedV li l = .tuple #[.agg #[.int .i64 (l.getD 0 0), .int .i64 (l.getD 1 0), .int .i64 (l.getD 2 0)], .bool true] by
          have e1 : c.heaps.drop k = [] := List.drop_eq_nil_of_le (by omega)
          have e2 : l.drop k = [] := List.drop_eq_nil_of_le (by have := HLen.out; omega)
          rw [HR.out, ← HI.out, e1, e2]; rfl)
        have hrow : wr.heap[w.heap.size + 1]? = some (.cells [Value.int .i64 0, Value.int .i64 0, Value.int .i64 0].toArray 140 (0, 0)) := by rw [hb.block _ l1, HZ.out]
        have hl1 : 1 ≤ l.length := by have := HLen.out; omega
        have hl3 : l.length ≤ 3 := by have := HLen.out; omega
        have hlr : w.heap.size + 1 < wr.heap.size := Nat.lt_of_lt_of_le l1 hb.size
        rcases hol with rfl | ⟨b', off', rfl, hbn', hcc'⟩
        · simp at hl1
        have hsrc : ∀ (j : Nat) v, (l.map (Value.int .i64))[j]? = some v → wr.cell? ((⟨b', off', none⟩ : Addr).add j) = some v := by
          intro j v hv
          rw [List.getElem?_map, Option.map_eq_some_iff] at hv
          obtain ⟨x, hx, rfl⟩ := hv
          obtain ⟨hj, rfl⟩ := List.getElem?_eq_some_iff.1 hx
          have := ((bcell hwr).1 b' (off' + j) (Nat.lt_of_lt_of_le hbn' hn)).trans (hcc' j hj)
          unfold Addr.add
          split
          · next h0 => subst h0; exact this
          · exact this
        obtain ⟨cs, hcs⟩ : ∃ cs, cs = l.map (Value.int .i64) := ⟨_, rfl⟩
        rw [← hcs] at hsrc
        have hcl : cs.length = l.length := by rw [hcs]; simp
        have hone : ∀ v ∈ cs, v.oneCell' = true := by rw [hcs]; simp [Value.oneCell']
        have hcn : cs.length = Nat.min l.length 3 := by show _ = min _ _; omega
        have hcf : 0 + cs.length ≤ [Value.int .i64 0, Value.int .i64 0, Value.int .i64 0].length := by simp only [List.length_cons, List.length_nil]; omega
        have HSP := hid (splice3 l hl1 hl3)
        rw [← hcs] at HSP
        obtain ⟨y0, hy0⟩ : ∃ y0, y0 = l.getD 0 0 := ⟨_, rfl⟩
        obtain ⟨y1, hy1⟩ : ∃ y1, y1 = l.getD 1 0 := ⟨_, rfl⟩
        obtain ⟨y2, hy2⟩ : ∃ y2, y2 = l.getD 2 0 := ⟨_, rfl⟩
        rw [← hy0, ← hy1, ← hy2] at HSP HV
        clear hy0 hy1 hy2
        clear hcs hcc'
        go_wp2_with ((refine wpList_copy_splice rfl (.tmp 32) (.tmp 33) _ _ rfl 3 Try.underlying47 (by kernel_rfl) _ _ _ _ _ _ rfl rfl (w.heap.size + 1) 0 [Value.int .i64 0, Value.int .i64 0, Value.int .i64 0] 140 hrow cs hcn (fun _ => ⟨rfl, _, rfl, hsrc⟩) hcf hone w.heap.size w hwr (by omega) ?_); intro w2 HG2 hB2; have R2 := hid (HG2.out.trans (by rw [HSP.out])); have q0 := cell_of_row R2.out 0; have q1 := cell_of_row R2.out 1; have q2 := cell_of_row R2.out 2; have qf := frozen_of_row R2.out; simp only [List.getElem?_toArray, List.getElem?_cons_zero, List.getElem?_cons_succ] at q0 q1 q2)
        have R3 := row_set3 R2.out (Value.int .i64 y0) (Value.int .i64 y1) (Value.int .i64 y2)
        have p0 := cell_of_row R3 0
        have p1 := cell_of_row R3 1
        have p2 := cell_of_row R3 2
        rw [HV.out]
        exact bodyPost_ret (v := .tuple #[.agg #[.int .i64 y0, .int .i64 y1, .int .i64 y2], .bool true]) (by simp [results, Try.results93, go_sem, p0, p1, p2]) rfl ⟨rfl, below_set3 hB2 (by omega) _ _ _⟩
  · have HL := hid (listed_ne c.heaps l hlen)
    have HV := hid (show listedV (listed c.heaps l) l = .tuple #[.agg #[.int .i64 0, .int .i64 0, .int .i64 0], .bool false] by rw [HL.out]; rfl)
    rw [HV.out]
    have hne : ((l.length : Int) != (c.heaps.length : Int)) = true := by rw [bne_iff_ne]; omega
    generalize c.heaps.length = hl' at *
    clear hlen
    go_enter Try.func93, Try.ntmps93
    go_wp2
    exact bodyPost_ret (v := .tuple #[.agg #[.int .i64 0, .int .i64 0, .int .i64 0], .bool false]) (by simp [results, Try.results93, go_sem]) rfl ⟨rfl, below_alloc2 (Nat.le_refl _) _ _⟩
end Go.Proofs.Ytjddcaimjofihaa

namespace Go.Proofs.Ytjddcaimjofihaa
open Go.RowKit
set_option maxRecDepth 100000

theorem fault_good {c : Ce} (h : fault c = 0) : Good c ∧ manyTo 2001 c.heaps 1 ≤ 2000 := by
  unfold fault at h
  split at h
  · omega
  · next hs =>
    split at h
    · next hp =>
      split at h
      · omega
      · exact ⟨⟨by simpa using hs, hp⟩, by omega⟩
    · omega

theorem infoInt : (Try.prog.info? 3).map (fun i => (i.zero, i.size, i.bytes)) = some (some (.int .i64 0), 1, 8) := by kernel_rfl

/-- Two results, a list of numbers in new memory and an error. -/
def RetInts (l : List Int) (err : Int) (W : World) (e : Ending) (w' : World) : Prop := ∃ v, e = .returned (.tuple #[v, .int .i64 err]) ∧ Ints (Lt w'.heap.size) w' v l ∧ Below W.heap.size W w'

theorem play_fault (c : Ce) (vc vl : Value) (n : Nat) (w : World) (hn : n ≤ w.heap.size) (h : CeV (Lt n) w vc c) (hsm : Small c) (hf : fault c ≠ 0) :
    Calls Try.prog 42 #[vc, vl] w (RetInts [] (fault c) w) := by
  obtain ⟨ha, hc, ka, kc, ta, tc, rfl, -, -, -⟩ := h.open
  have hne : (fault c != 0) = true := by rw [bne_iff_ne]; exact hf
  generalize hfc : fault c = fc at *
  have HF := hid hfc
  clear hf hfc
  go_enter Try.func42, Try.ntmps42
  go_wp2_with (go_at_call 57; refine (check_any c _ n _ (by simp; omega) (h.below (below_alloc1 hn _)) hsm).mono ?_; rw [HF.out]; rintro e w2 ⟨rfl, hb2⟩)
  go_ret2
  exact ⟨_, rfl, Sl.nil, below_after (below_alloc1 (Nat.le_refl _) _) hb2 (Nat.le_refl _)⟩

theorem Good.small {c : Ce} (h : Good c) : Small c := by
  obtain ⟨⟨-, h1, h2, h3⟩, -, h4, -⟩ := h.facts
  exact ⟨by omega, by omega, by omega, fun l hl => by have := (h4 l hl).1; omega⟩

theorem play_range (c : Ce) (vc vl : Value) (l : List Int) (n : Nat) (w : World) (hn : n ≤ w.heap.size) (h : CeV (Lt n) w vc c) (hl : Ints (Lt n) w vl l) (hll : l.length ≤ 1000) (hf : fault c = 0) (hli : listed c.heaps l = false) :
    Calls Try.prog 42 #[vc, vl] w (RetInts [] 2 w) := by
  have h' := h
  obtain ⟨ha, hc, ka, kc, ta, tc, rfl, -, -, -⟩ := h.open
  have hg := (fault_good hf).1
  have HF := hid hf
  have HV := hid (show listedV (listed c.heaps l) l = .tuple #[.agg #[.int .i64 0, .int .i64 0, .int .i64 0], .bool false] by rw [hli]; rfl)
  clear hf hli
  go_enter Try.func42, Try.ntmps42
  go_wp2_with (first
    | (go_at_call 57; refine (check_any c _ n _ (by simp; omega) (h'.below (below_alloc1 hn _)) hg.small).mono ?_; rw [HF.out]; rintro e w2 ⟨rfl, hb2⟩; have hb3 := below_after (below_alloc1 hn _) hb2 hn; have hb3' := below_after (below_alloc1 (Nat.le_refl _) _) hb2 (Nat.le_refl _); obtain ⟨hc2, hf2⟩ := bcell hb2; have hz2 : w.heap.size < w2.heap.size := (by have := hb2.size; simp at this; omega))
    | (go_at_call 93; refine (listed_any c hg _ n l _ _ (by omega) (h'.below hb3) (hl.below hb3) hll).mono ?_; rw [HV.out]; rintro e w3 ⟨rfl, hb4⟩))
  go_ret2
  exact ⟨_, rfl, Sl.nil, (below_after hb3' hb4 (Nat.le_refl _)).alloc (Nat.le_trans hb3'.size hb4.size) _⟩

set_option maxHeartbeats 1000000 in
theorem play_ok (c : Ce) (vc vl : Value) (l : List Int) (n : Nat) (w : World) (hn : n ≤ w.heap.size) (h : CeV (Lt n) w vc c) (hl : Ints (Lt n) w vl l) (hll : l.length ≤ 1000) (hf : fault c = 0) (hli : listed c.heaps l = true) :
    Calls Try.prog 42 #[vc, vl] w (RetInts (c.casks.map fun k => mean (pad3 l) k) 0 w) := by
  have h' := h
  obtain ⟨ha, hc, ka, kc, ta, tc, rfl, -, H2, -⟩ := h.open
  have hg := (fault_good hf).1
  obtain ⟨⟨g1, g2, g3, g4⟩, g5, g6, -⟩ := hg.facts
  have HF := hid hf
  have HV := hid (show listedV (listed c.heaps l) l = .tuple #[.agg #[.int .i64 (l.getD 0 0), .int .i64 (l.getD 1 0), .int .i64 (l.getD 2 0)], .bool true] by rw [hli]; rfl)
  have H3 : Three (pad3 l) (l.getD 0 0) (l.getD 1 0) (l.getD 2 0) := ⟨rfl, pad3_bd l (listed_bd _ _ hli g5)⟩
  generalize l.getD 0 0 = y0 at *
  generalize l.getD 1 0 = y1 at *
  generalize l.getD 2 0 = y2 at *
  have G6 := hid g6
  clear hf hli g5 g6
  go_enter Try.func42, Try.ntmps42
  go_wp2_with (first
    | (go_at_call 57; refine (check_any c _ n _ (by simp; omega) (h'.below (below_alloc1 hn _)) hg.small).mono ?_; rw [HF.out]; rintro e w2 ⟨rfl, hb2⟩; have hb3 := below_after (below_alloc1 hn _) hb2 hn; have hb3' := below_after (below_alloc1 (Nat.le_refl _) _) hb2 (Nat.le_refl _); obtain ⟨hc2, hf2⟩ := bcell hb2; have hz2 : w.heap.size < w2.heap.size := (by have := hb2.size; simp at this; omega))
    | (go_at_call 93; refine (listed_any c hg _ n l _ _ (by omega) (h'.below hb3) (hl.below hb3) hll).mono ?_; rw [HV.out]; rintro e w3 ⟨rfl, hb4⟩; have hb5 := below_after hb3 hb4 hn; have hb5' := below_after hb3' hb4 (Nat.le_refl _); obtain ⟨hc4, hf4⟩ := bcell hb4; have hz4 : w.heap.size < w3.heap.size := (by have := hb4.size; omega)))
  have hb6 := hb5.trans (below_alloc1 (n := n) (by have := hb5.size; omega) (Obj.cells #[Value.int .i64 y0, Value.int .i64 y1, Value.int .i64 y2] 140))
  have hb6' := hb5'.trans (below_alloc1 (n := w.heap.size) (by omega) (Obj.cells #[Value.int .i64 y0, Value.int .i64 y1, Value.int .i64 y2] 140))
  have b0 : (w3.alloc (Obj.cells #[Value.int .i64 y0, Value.int .i64 y1, Value.int .i64 y2] 140)).cell? ⟨w3.heap.size, 0, none⟩ = some (.int .i64 y0) := by go_simp
  have b1 : (w3.alloc (Obj.cells #[Value.int .i64 y0, Value.int .i64 y1, Value.int .i64 y2] 140)).cell? ⟨w3.heap.size, 1, none⟩ = some (.int .i64 y1) := by go_simp
  have b2 : (w3.alloc (Obj.cells #[Value.int .i64 y0, Value.int .i64 y1, Value.int .i64 y2] 140)).cell? ⟨w3.heap.size, 2, none⟩ = some (.int .i64 y2) := by go_simp
  have l1 : w3.heap.size < (w3.alloc (Obj.cells #[Value.int .i64 y0, Value.int .i64 y1, Value.int .i64 y2] 140)).heap.size := by simp
  obtain ⟨W0, hW0⟩ : ∃ W0, W0 = w3.alloc (Obj.cells #[Value.int .i64 y0, Value.int .i64 y1, Value.int .i64 y2] 140) := ⟨_, rfl⟩
  rw [← hW0] at hb6 hb6' b0 b1 b2 l1 ⊢
  clear hc2 hf2 hc4 hf4 hb2 hb3 hb3' hb4 hb5 hb5' hW0
  obtain ⟨a, cap, he, -, ho⟩ := (H2.below hb6).open
  cases he
  go_loopw [9, 28] (fun v i wr => ∃ k : Nat, k ≤ c.casks.length ∧ i = .int .i64 k ∧ Own W0.heap.size 3 1 (fun n : Int => [Value.int .i64 n]) wr v ((c.casks.take k).map fun k => mean (pad3 l) k) ∧ Below W0.heap.size W0 wr) (fun _ i _ => c.casks.length - (intOf i).toNat)
  case atStart => exact ⟨0, by omega, rfl, Own.nil, Below.refl _ _⟩
  case round =>
    obtain ⟨k, hk, rfl, hown, hb⟩ := hrel
    have hwr6 := hb6.trans (hb.mono (Nat.le_trans hn hb6'.size))
    have hwr6' := hb6'.trans (hb.mono hb6'.size)
    by_cases hlt : k < c.casks.length
    · rcases ho with hnil | ⟨b, off, rfl, hbn, hcc⟩
      · rw [hnil] at hlt; simp at hlt
      have hbw : b < W0.heap.size := by have := hb6'.size; have : b < n := hbn; omega
      obtain ⟨xv, c0, hx⟩ := hcc k hlt
      replace c0 := ((bcell hb).1 b _ hbw).trans c0
      have G := G6.out c.casks[k] (List.getElem_mem _)
      have HT := hid (show (c.casks.take (k + 1)).map (fun k => mean (pad3 l) k) = (c.casks.take k).map (fun k => mean (pad3 l) k) ++ [mean (pad3 l) c.casks[k]] by
        rw [List.take_succ_eq_append_getElem hlt, List.map_append]; rfl)
      generalize c.casks[k] = ws at *
      clear hcc
      have k0 := ((bcell hb).1 w3.heap.size 0 l1).trans b0
      have k1 := ((bcell hb).1 w3.heap.size 1 l1).trans b1
      have k2 := ((bcell hb).1 w3.heap.size 2 l1).trans b2
      have hlen : ((c.casks.take k).map fun k => mean (pad3 l) k).length + 1 ≤ 1000000 := by simp; omega
      obtain ⟨q1, q2, q3⟩ := G
      have Q2 := hid (show ∀ x ∈ ws, 0 ≤ x ∧ x ≤ 1000 from fun x hx => by have := q2 x hx; omega)
      have Q1 := hid q1
      have hx2 := hx.below (hb.mono (Nat.le_trans hn hb6'.size))
      generalize hz : mean (pad3 l) ws = z at *
      have HZ := hid hz
      clear q1 q2 hz
      have hW0r := hb.size
      go_wp2_with (first
        | (at_builtin; refine wpList_append1 (fun n : Int => [Value.int .i64 n]) rfl (.tmp 32) (.tmp 36) 47 rfl W0.heap.size 3 (.int .i64 0) 1 8 Try.underlying47 infoInt rfl (by decide) (fun _ => rfl) (fun _ => by simp [Value.oneCell']) _ _ rfl (hown2.below (below_alloc1 (Nat.le_refl _) _)) _ _ z rfl (cells_new _ [Value.int .i64 z] _) hlen (by decide) (by simp; omega) ?_; intro v' w1 hown' hgrow)
        | (go_at_call 94; refine (mean_any (pad3 l) y0 y1 y2 H3 ws xv n _ (by omega) hx2 (by have := Q1.out; omega) Q2.out q3).mono ?_; rw [HZ.out]; rintro e w5 ⟨rfl, hb7⟩; have hown2 := hown.below hb7; have hb8 := below_after hb hb7 (Nat.le_refl _); have hs8 := hb8.size))
      go_roundw
      case rel =>
        refine ⟨k + 1, by omega, by go_num, ?_, ?_⟩
        · rw [HT.out]; exact hown'
        · exact (hown2.below (below_alloc1 (Nat.le_refl _) _)).grown hgrow (hb8.alloc (by omega) _) (Nat.le_refl _) (by simp; omega)
      case measure => simp [intOf]; omega
    · have HT := hid (show c.casks.take k = c.casks from List.take_of_length_le (by omega))
      go_wp2
      go_ret2
      exact ⟨_, rfl, by rw [← HT.out]; exact hown.slLt (fun _ => rfl), hwr6'⟩

/-- Whether a list is a truth of a valid cellar. -/
def proveTruth (c : Ce) (l : List Int) : Bool := (fault c == 0) && listed c.heaps l && right c (pad3 l) []

theorem proveTruth_any (c : Ce) (vc vl : Value) (l : List Int) (n : Nat) (w : World) (hn : n ≤ w.heap.size) (h : CeV (Lt n) w vc c) (hsm : Small c) (hl : Ints (Lt n) w vl l) (hll : l.length ≤ 1000) :
    Calls Try.prog 58 #[vc, vl] w fun e w' => e = .returned (.bool (proveTruth c l)) ∧ Below w.heap.size w w' := by
  have h' := h
  obtain ⟨ha, hc, ka, kc, ta, tc, rfl, -, -, -⟩ := h.open
  by_cases hf : fault c = 0
  · have hg := (fault_good hf).1
    have hg5 := hg.facts.2.1
    have HF := hid hf
    obtain ⟨li, hli⟩ : ∃ li, li = listed c.heaps l := ⟨_, rfl⟩
    have HL := hid hli
    have HR := hid (show proveTruth c l = (li && right c (pad3 l) []) by rw [proveTruth, ← hli, hf]; simp)
    cases li
    · have HV := hid (show listedV (listed c.heaps l) l = .tuple #[.agg #[.int .i64 0, .int .i64 0, .int .i64 0], .bool false] by rw [← hli]; rfl)
      clear hf hli hg5
      go_enter Try.func58, Try.ntmps58
      go_wp2_with (first
        | (go_at_call 57; refine (check_any c _ n _ (by simp; omega) (h'.below (below_alloc1 hn _)) hsm).mono ?_; rw [HF.out]; rintro e w2 ⟨rfl, hb2⟩; have hb3 := below_after (below_alloc1 hn _) hb2 hn; have hb3' := below_after (below_alloc1 (Nat.le_refl _) _) hb2 (Nat.le_refl _); obtain ⟨hc2, hf2⟩ := bcell hb2; have hz2 : w.heap.size < w2.heap.size := (by have := hb2.size; simp at this; omega))
        | (go_at_call 93; refine (listed_any c hg _ n l _ _ (by omega) (h'.below hb3) (hl.below hb3) hll).mono ?_; rw [HV.out]; rintro e w3 ⟨rfl, hb4⟩))
      go_ret
      exact ⟨ret_bool (by rw [HR.out]; rfl), (below_after hb3' hb4 (Nat.le_refl _)).alloc (Nat.le_trans hb3'.size hb4.size) _⟩
    · have HV := hid (show listedV (listed c.heaps l) l = .tuple #[.agg #[.int .i64 (l.getD 0 0), .int .i64 (l.getD 1 0), .int .i64 (l.getD 2 0)], .bool true] by rw [← hli]; rfl)
      have H3 : Three (pad3 l) (l.getD 0 0) (l.getD 1 0) (l.getD 2 0) := ⟨rfl, pad3_bd l (listed_bd _ _ hli.symm hg5)⟩
      generalize l.getD 0 0 = y0 at *
      generalize l.getD 1 0 = y1 at *
      generalize l.getD 2 0 = y2 at *
      clear hf hli hg5
      go_enter Try.func58, Try.ntmps58
      go_wp2_with (first
        | (go_at_call 57; refine (check_any c _ n _ (by simp; omega) (h'.below (below_alloc1 hn _)) hsm).mono ?_; rw [HF.out]; rintro e w2 ⟨rfl, hb2⟩; have hb3 := below_after (below_alloc1 hn _) hb2 hn; have hb3' := below_after (below_alloc1 (Nat.le_refl _) _) hb2 (Nat.le_refl _); obtain ⟨hc2, hf2⟩ := bcell hb2; have hz2 : w.heap.size < w2.heap.size := (by have := hb2.size; simp at this; omega))
        | (go_at_call 93; refine (listed_any c hg _ n l _ _ (by omega) (h'.below hb3) (hl.below hb3) hll).mono ?_; rw [HV.out]; rintro e w3 ⟨rfl, hb4⟩; have hb5 := below_after hb3 hb4 hn; have hb5' := below_after hb3' hb4 (Nat.le_refl _); obtain ⟨hc4, hf4⟩ := bcell hb4; have hz4 : w.heap.size < w3.heap.size := (by have := hb4.size; omega))
        | (go_at_call 115; refine (right_any c hg _ n (pad3 l) y0 y1 y2 H3 [] _ _ (by simp; omega) (h'.below (hb5.alloc (by omega) _)) Sl.nil (by simp)).mono ?_; rintro e w4 ⟨rfl, hb6⟩))
      go_ret
      exact ⟨ret_bool (by rw [HR.out]; rfl), below_after (hb5'.alloc (by omega) _) hb6 (Nat.le_refl _)⟩
  · have hne : (fault c != 0) = true := by rw [bne_iff_ne]; exact hf
    have HR := hid (show proveTruth c l = false by simp [proveTruth, hf])
    generalize hfc : fault c = fc at *
    have HF := hid hfc
    clear hf hfc
    go_enter Try.func58, Try.ntmps58
    go_wp2_with (go_at_call 57; refine (check_any c _ n _ (by simp; omega) (h'.below (below_alloc1 hn _)) hsm).mono ?_; rw [HF.out]; rintro e w2 ⟨rfl, hb2⟩)
    go_ret
    exact ⟨ret_bool (by rw [HR.out]), below_after (below_alloc1 (Nat.le_refl _) _) hb2 (Nat.le_refl _)⟩
end Go.Proofs.Ytjddcaimjofihaa
