/- Contracts of the reference's small functions, Fault, and the statements' Thin, fault, ready; no condition. -/
import Derived.Test.YtjddcaimjofihaaB9
namespace Go.Proofs.Ytjddcaimjofihaa
open Go.RowKit Go.Shelf
set_option maxRecDepth 100000

theorem inR_any (n lo hi : Int) (w : World) :
    Calls Try.prog 26 #[.int .i64 n, .int .i64 lo, .int .i64 hi] w fun e w' => e = .returned (.bool (within n lo hi)) ∧ w = w' := by
  have HR := hid (show within n lo hi = (decide (lo ≤ n) && decide (n ≤ hi)) from rfl)
  by_cases h1 : lo ≤ n <;> by_cases h2 : n ≤ hi
  all_goals
    go_enter Try.func26, Try.ntmps26
    go_wp2
    go_ret
    rw [HR.out]
    exact ⟨by simp [h1, h2], rfl⟩

/-- Whether a range has only numbers from low to high, and one at least. -/
def withinR (r : Rg) (lo hi : Int) : Bool := decide (lo ≤ r.lo) && decide (r.lo ≤ r.hi) && decide (r.hi ≤ hi)
theorem withinR_strong (r : Rg) : withinR r 0 100 = strong r := rfl
theorem WithinR_any (a b lo hi : Int) (w : World) :
    Calls Try.prog 128 #[.agg #[.int .i64 a, .int .i64 b], .int .i64 lo, .int .i64 hi] w fun e w' => e = .returned (.bool (withinR ⟨a, b⟩ lo hi)) ∧ Below w.heap.size w w' := by
  have HR := hid (show withinR ⟨a, b⟩ lo hi = (decide (lo ≤ a) && decide (a ≤ b) && decide (b ≤ hi)) from rfl)
  by_cases h1 : lo ≤ a <;> by_cases h2 : a ≤ b <;> by_cases h3 : b ≤ hi
  all_goals
    go_enter Try.func128, Try.ntmps128
    go_wp2
    go_ret
    rw [HR.out]
    exact ⟨by simp [h1, h2, h3], below_alloc1 (Nat.le_refl _) _⟩

theorem sizeR_any (lo hi : Int) (w : World) (h : 0 ≤ lo ∧ lo ≤ hi ∧ hi ≤ 100) :
    Calls Try.prog 92 #[.agg #[.int .i64 lo, .int .i64 hi]] w fun e w' => e = .returned (.int .i64 (size ⟨lo, hi⟩)) ∧ Below w.heap.size w w' := by
  have HR := hid (show size ⟨lo, hi⟩ = hi - lo + 1 from rfl)
  go_enter Try.func92, Try.ntmps92
  go_wp2
  go_ret
  rw [HR.out]
  exact ⟨rfl, below_alloc1 (Nat.le_refl _) _⟩

/-- The sum of a list as the machine has it. -/
def sumW (l : List Int) : Int := l.foldl (fun a x => wrap64 (a + x)) 0
theorem sumW_take (l : List Int) (k : Nat) (h : k < l.length) : sumW (l.take (k + 1)) = wrap64 (sumW (l.take k) + l[k]) := by
  rw [List.take_succ_eq_append_getElem h]
  unfold sumW
  rw [List.foldl_append]
  rfl
theorem sumW_eq {l : List Int} (h : ∀ x ∈ l, 0 ≤ x ∧ x ≤ 1000) (hl : l.length ≤ 1000) : sumW l = sumI l := by
  have : ∀ k, k ≤ l.length → sumW (l.take k) = sumI (l.take k) ∧ 0 ≤ sumI (l.take k) ∧ sumI (l.take k) ≤ 1000 * k := by
    intro k
    induction k with
    | zero => intro _; simp [sumW, sumI]
    | succ k ih =>
      intro hk
      obtain ⟨h1, h2, h3⟩ := ih (by omega)
      have hx := h l[k] (List.getElem_mem _)
      have hs := take_sum l k (by omega)
      refine ⟨?_, by omega, by omega⟩
      rw [sumW_take l k (by omega), h1, hs]
      unfold wrap64
      omega
  have h2 := (this l.length (Nat.le_refl _)).1
  rwa [List.take_length] at h2
theorem sumR_any (l : List Int) (v : Value) (n : Nat) (w : World) (h : Ints (Lt n) w v l) (hl : l.length ≤ 1000) :
    Calls Try.prog 116 #[v] w fun e w' => e = .returned (.int .i64 (sumW l)) ∧ w = w' := by
  obtain ⟨a, cap, rfl, hcap, ho⟩ := h.open1
  go_enter Try.func116, Try.ntmps116
  go_wp2
  go_loop [3, 4] (fun s i => ∃ k : Nat, k ≤ l.length ∧ i = .int .i64 k ∧ s = .int .i64 (sumW (l.take k))) (fun _ i => l.length - (intOf i).toNat)
  case atStart => exact ⟨0, by omega, rfl, rfl⟩
  case round =>
    obtain ⟨k, hk, rfl, rfl⟩ := hrel
    by_cases hlt : k < l.length
    · rcases ho with rfl | ⟨b, off, rfl, -, hc⟩
      · simp at hlt
      have c0 := hc k hlt
      have HT := hid (sumW_take l k hlt)
      clear hc
      generalize l[k] = x at *
      go_wp2
      go_round
      case rel => exact ⟨k + 1, by omega, by go_num, by rw [HT.out]⟩
      case measure => simp [intOf]; omega
    · go_wp2
      go_ret
      have : k = l.length := by omega
      subst this
      exact ⟨ret_int (by rw [List.take_length]), rfl⟩

theorem isStock_any (hl : Nat) (ha : Option Addr) (hcap : Nat) (kv tv : Value) (l : List Int) (v : Value) (n : Nat) (w : World) (_ : hl ≤ 1000) (hn : n ≤ w.heap.size) (h : Ints (Lt n) w v l) (hlen : l.length ≤ 1000) :
    Calls Try.prog 66 #[.agg #[.slice ha hl hcap, kv, tv], v] w fun e w' => e = .returned (.bool (weightsB hl l)) ∧ Below w.heap.size w w' := by
  have h0 := h.below (below_alloc1 hn (Obj.cells #[.slice ha hl hcap, kv, tv] 26))
  obtain ⟨a, cap, rfl, hcp, ho⟩ := h0.open1
  clear h h0
  have HO := hid ho
  clear ho
  have HR := hid (show weightsB hl l = ((l.length == hl) && l.all isW) from rfl)
  have heq : ((l.length : Int) == (hl : Int)) = (l.length == hl) := by
    rw [Bool.eq_iff_iff]; simp only [beq_iff_eq]; omega
  have HEQ := hid heq
  clear heq
  go_enter Try.func66, Try.ntmps66
  go_wp2
  go_loop [5] (fun i => ∃ k : Nat, k ≤ l.length ∧ i = .int .i64 k ∧ Hid ((l.drop k).all isW = l.all isW)) (fun i => l.length - (intOf i).toNat)
  case atStart => exact ⟨0, by omega, rfl, hid rfl⟩
  case round =>
    obtain ⟨k, hk, rfl, HI⟩ := hrel
    by_cases hlt : k < l.length
    · rcases HO.out with rfl | ⟨b, off, rfl, -, hc⟩
      · simp at hlt
      have c0 := hc k hlt
      have HD := hid (show (l.drop k).all isW = (within l[k] 0 30 && (l.drop (k + 1)).all isW) by rw [List.drop_eq_getElem_cons hlt, List.all_cons]; rfl)
      clear hc
      generalize l[k] = x at *
      generalize hb : within x 0 30 = b0 at *
      have HB := hid hb
      clear hb
      cases b0 with
      | true =>
        go_wp2_with (go_at_call 26; refine (inR_any _ _ _ _).mono ?_; rw [HB.out]; rintro e w' ⟨rfl, rfl⟩)
        go_round
        case rel => exact ⟨k + 1, by omega, by go_num, hid (by rw [← HI.out, HD.out]; simp)⟩
        case measure => simp [intOf]; omega
      | false =>
        go_wp2_with (go_at_call 26; refine (inR_any _ _ _ _).mono ?_; rw [HB.out]; rintro e w' ⟨rfl, rfl⟩)
        go_ret
        exact ⟨ret_bool (by rw [HR.out, ← HI.out, HD.out]; simp), below_alloc1 (Nat.le_refl _) _⟩
    · have HE := hid (show l.all isW = true by rw [← HI.out, List.drop_eq_nil_of_le (by omega)]; rfl)
      go_wp2
      go_ret
      exact ⟨ret_bool (by rw [HR.out, HE.out, ← HEQ.out]; simp), below_alloc1 (Nat.le_refl _) _⟩

theorem many_any (c : Ce) (hr : ∀ r ∈ c.heaps, 0 ≤ r.lo ∧ r.lo ≤ r.hi ∧ r.hi ≤ 100) (hhl : c.heaps.length ≤ 1000) (v : Value) (n : Nat) (w : World) (hn : n ≤ w.heap.size) (h : CeV (Lt n) w v c) :
    Calls Try.prog 40 #[v] w fun e w' => e = .returned (.int .i64 (manyR c)) ∧ Below w.heap.size w w' := by
  obtain ⟨ha, hc, ka, kc, ta, tc, rfl, H1, -, -⟩ := h.open
  obtain ⟨_, _, he, -, ho⟩ := H1.open2
  cases he
  obtain ⟨W, hW⟩ : ∃ W, W = w.alloc (Obj.cells #[.slice ha c.heaps.length hc, .slice ka c.casks.length kc, .slice ta c.trials.length tc] 26) := ⟨_, rfl⟩
  have hWs : W.heap.size = w.heap.size + 1 := by rw [hW]; simp
  have hWb : Below w.heap.size w W := by rw [hW]; exact below_alloc1 (Nat.le_refl _) _
  have hWr : W.heap[w.heap.size]? = some (.cells #[.slice ha c.heaps.length hc, .slice ka c.casks.length kc, .slice ta c.trials.length tc] 26 (0, 0)) := by rw [hW]; exact heap_new _ _
  have r0 := cell_of_row hWr 0
  simp only [List.getElem?_toArray, List.getElem?_cons_zero] at r0
  have HO := hid ho
  have HRR := hid hr
  have HM := hid (show manyR c = manyTo 3000 c.heaps 1 from rfl)
  clear H1 ho hr
  go_enter Try.func40, Try.ntmps40
  go_wp2
  rw [← hW]
  clear hW hWr
  go_loopw [3, 4] (fun s i wr => ∃ (k : Nat) (m : Int), k ≤ c.heaps.length ∧ i = .int .i64 k ∧ s = .int .i64 m ∧ 0 ≤ m ∧ m ≤ 3000 ∧ Hid (manyTo 3000 (c.heaps.drop k) m = manyTo 3000 c.heaps 1) ∧ Below W.heap.size W wr) (fun _ i _ => c.heaps.length - (intOf i).toNat)
  case atStart => exact ⟨0, 1, by omega, rfl, rfl, by omega, by omega, hid rfl, Below.refl _ _⟩
  case round =>
    obtain ⟨k, m, hk, rfl, rfl, hm0, hm1, HI, hb⟩ := hrel
    have k0 := (hb.cell (p := ⟨w.heap.size, 0, none⟩) (by show w.heap.size < _; omega)).trans r0
    have hbs := hb.size
    by_cases hlt : k < c.heaps.length
    · rcases HO.out with hnil | ⟨b, off, rfl, hbn, hcc⟩
      · rw [hnil] at hlt; simp at hlt
      obtain ⟨y0, y1⟩ := hcc k hlt
      clear hcc
      have hbl : b < n := hbn
      have z0 := (hb.cell (p := ⟨b, off + k * 2, none⟩) (by show b < _; omega)).trans ((hWb.cell (p := ⟨b, off + k * 2, none⟩) (by show b < _; omega)).trans y0)
      have z1 := (hb.cell (p := ⟨b, off + k * 2 + 1, none⟩) (by show b < _; omega)).trans ((hWb.cell (p := ⟨b, off + k * 2 + 1, none⟩) (by show b < _; omega)).trans y1)
      have hx := HRR.out c.heaps[k] (List.getElem_mem _)
      have HD := hid (show manyTo 3000 (c.heaps.drop k) m = manyTo 3000 (c.heaps.drop (k + 1)) (min (m * size c.heaps[k]) 3000) by rw [List.drop_eq_getElem_cons hlt]; rfl)
      clear y0 y1
      generalize c.heaps[k] = r at *
      obtain ⟨lo, hi⟩ := r
      simp only at hx z0 z1
      have hsz : 1 ≤ size ⟨lo, hi⟩ ∧ size ⟨lo, hi⟩ ≤ 101 := by simp only [size]; omega
      have HX := hid hx
      clear hx
      obtain ⟨s, hs⟩ : ∃ s, s = size ⟨lo, hi⟩ := ⟨_, rfl⟩
      rw [← hs] at hsz HD
      have HS := hid hs
      clear hs
      have hmul : 0 ≤ m * s ∧ m * s ≤ 303000 := by
        have h1 := Int.mul_nonneg hm0 (show 0 ≤ s by omega)
        have h2 : m * s ≤ 3000 * 101 := Int.mul_le_mul hm1 hsz.2 (by omega) (by omega)
        omega
      obtain ⟨p, hp⟩ : ∃ p, p = m * s := ⟨_, rfl⟩
      have hwr : IntKind.i64.wrap (m * s) = p := by rw [hp]; exact IntWalk.i64_in _ (by omega)
      rw [← hp] at hmul HD
      have HP := hid hp
      clear hp
      go_wp2_with (go_at_call 92; refine (sizeR_any lo hi _ HX.out).mono ?_; rw [← HS.out]; rintro e w5 ⟨rfl, hb5⟩)
      go_roundw
      case rel => exact ⟨k + 1, min p 3000, by omega, by go_num, by congr 1; split <;> omega, by omega, by omega, hid (by rw [← HI.out, HD.out]), below_after hb hb5 (Nat.le_refl _)⟩
      case measure => simp [intOf]; omega
    · go_wp2
      go_ret
      exact ⟨ret_int (by rw [HM.out, ← HI.out, List.drop_eq_nil_of_le (by omega)]; rfl), hWb.trans (hb.mono (by omega))⟩
end Go.Proofs.Ytjddcaimjofihaa

namespace Go.Proofs.Ytjddcaimjofihaa
open Go.RowKit Go.Shelf
set_option maxRecDepth 100000

theorem inR_hid {b : Bool} (n lo hi : Int) (HB : Hid (b = within n lo hi)) (w : World) :
    Calls Try.prog 26 #[.int .i64 n, .int .i64 lo, .int .i64 hi] w fun e w' => e = .returned (.bool b) ∧ w = w' := by
  rw [HB.out]; exact inR_any n lo hi w
theorem withinR_hid {b : Bool} (r : Rg) (HB : Hid (b = strong r)) (w : World) :
    Calls Try.prog 128 #[.agg #[.int .i64 r.lo, .int .i64 r.hi], .int .i64 0, .int .i64 100] w fun e w' => e = .returned (.bool b) ∧ Below w.heap.size w w' := by
  rw [HB.out, ← withinR_strong]; exact WithinR_any r.lo r.hi 0 100 w
theorem isStock_hid {b : Bool} (hl : Nat) (ha : Option Addr) (hcap : Nat) (kv tv : Value) (l : List Int) (HB : Hid (b = weightsB hl l)) (v : Value) (n : Nat) (w : World) (hhl : hl ≤ 1000) (hn : n ≤ w.heap.size) (h : Ints (Lt n) w v l) (hlen : l.length ≤ 1000) :
    Calls Try.prog 66 #[.agg #[.slice ha hl hcap, kv, tv], v] w fun e w' => e = .returned (.bool b) ∧ Below w.heap.size w w' := by
  rw [HB.out]; exact isStock_any hl ha hcap kv tv l v n w hhl hn h hlen
theorem sumR_hid {s : Int} (l : List Int) (HB : Hid (s = sumW l)) (v : Value) (n : Nat) (w : World) (h : Ints (Lt n) w v l) (hl : l.length ≤ 1000) :
    Calls Try.prog 116 #[v] w fun e w' => e = .returned (.int .i64 s) ∧ w = w' := by
  rw [HB.out]; exact sumR_any l v n w h hl

theorem fault_sizes (c : Ce) (v : Value) (n : Nat) (w : World) (h : CeV (Lt n) w v c) (hsm : Small c) (hs : sizes c = true) :
    Calls Try.prog 79 #[v] w fun e w' => e = .returned (.int .i64 (fault c)) ∧ Below w.heap.size w w' := by
  obtain ⟨ha, hc, ka, kc, ta, tc, rfl, -, -, -⟩ := h.open
  have HF := hid (show fault c = 3 by unfold fault; rw [if_pos hs])
  simp only [sizes, Bool.or_eq_true, decide_eq_true_eq] at hs
  obtain ⟨m1, m2, m3, -⟩ := hsm
  generalize c.heaps.length = x1 at *
  generalize c.casks.length = x2 at *
  generalize c.trials.length = x3 at *
  by_cases h1 : 3 < x1
  · go_enter Try.func79, Try.ntmps79
    go_wp2
    go_ret
    exact ⟨ret_int HF.out.symm, below_alloc1 (Nat.le_refl _) _⟩
  · by_cases h2 : 3 < x2
    · have d1 : decide (3 < x1) = false := by simpa using h1
      go_enter Try.func79, Try.ntmps79
      go_wp2
      go_ret
      exact ⟨ret_int HF.out.symm, below_alloc1 (Nat.le_refl _) _⟩
    · have h3 : 5 < x3 := by omega
      clear hs
      go_enter Try.func79, Try.ntmps79
      go_wp2
      go_ret
      exact ⟨ret_int HF.out.symm, below_alloc1 (Nat.le_refl _) _⟩

set_option maxHeartbeats 4000000 in
theorem fault_else (c : Ce) (v : Value) (n : Nat) (w : World) (hn : n ≤ w.heap.size) (h : CeV (Lt n) w v c) (hsm : Small c) (hs : sizes c = false) :
    Calls Try.prog 79 #[v] w fun e w' => e = .returned (.int .i64 (fault c)) ∧ Below w.heap.size w w' := by
  have h' := h
  obtain ⟨ha, hc, ka, kc, ta, tc, rfl, H1, H2, H3⟩ := h.open
  obtain ⟨_, _, he, -, ho1⟩ := H1.open2
  cases he
  obtain ⟨_, _, he, -, ho2⟩ := H2.open
  cases he
  obtain ⟨_, _, he, -, ho3⟩ := H3.open4
  cases he
  have HF := hid (show fault c = if partsOk c then (if 2000 < manyTo 2001 c.heaps 1 then 3 else 0) else 1 by unfold fault; rw [hs]; rfl)
  have HP := hid (show partsOk c = (!(c.heaps.length == 0) && c.heaps.all strong && c.casks.all (isCask c.heaps.length) && c.trials.all (trialB c)) from rfl)
  have HSZ := hid hs
  have HO1 := hid ho1
  have HO2 := hid ho2
  have HO3 := hid ho3
  have HSM := hid hsm
  obtain ⟨m1, m2, m3, m4⟩ := hsm
  have HM4 := hid m4
  simp only [sizes, Bool.or_eq_false_iff, decide_eq_false_iff_not] at hs
  obtain ⟨⟨n1, n2⟩, n3⟩ := hs
  have e1 : (c.heaps.length : Int) ≤ 3 := by omega
  have e2 : (c.casks.length : Int) ≤ 3 := by omega
  have e3 : (c.trials.length : Int) ≤ 5 := by omega
  have n1' : decide ((3 : Int) < (c.heaps.length : Int)) = false := decide_eq_false (by omega)
  have n2' : decide ((3 : Int) < (c.casks.length : Int)) = false := decide_eq_false (by omega)
  have n3' : decide ((5 : Int) < (c.trials.length : Int)) = false := decide_eq_false (by omega)
  obtain ⟨W, hW⟩ : ∃ W, W = w.alloc (Obj.cells #[.slice ha c.heaps.length hc, .slice ka c.casks.length kc, .slice ta c.trials.length tc] 26) := ⟨_, rfl⟩
  have hWs : W.heap.size = w.heap.size + 1 := by rw [hW]; simp
  have hWb : Below w.heap.size w W := by rw [hW]; exact below_alloc1 (Nat.le_refl _) _
  have hWr : W.heap[w.heap.size]? = some (.cells #[.slice ha c.heaps.length hc, .slice ka c.casks.length kc, .slice ta c.trials.length tc] 26 (0, 0)) := by rw [hW]; exact heap_new _ _
  have r0 := cell_of_row hWr 0
  have r1 := cell_of_row hWr 1
  have r2 := cell_of_row hWr 2
  simp only [List.getElem?_toArray, List.getElem?_cons_zero, List.getElem?_cons_succ] at r0 r1 r2
  clear H1 H2 H3 ho1 ho2 ho3 m4
  go_enter Try.func79, Try.ntmps79
  by_cases hz : c.heaps.length = 0
  · have hz' : ((c.heaps.length : Int) == 0) = true := by simp [hz]
    have HZ := hid hz
    clear hWr hz
    go_wp2
    go_ret
    rw [← hW]
    exact ⟨ret_int (by rw [HF.out, HP.out, HZ.out]; rfl), hWb⟩
  have hz' : ((c.heaps.length : Int) == 0) = false := by rw [beq_eq_false_iff_ne]; omega
  have HZ := hid hz
  clear hWr hz
  go_wp2
  rw [← hW]
  clear hW
  have hz1 : 1 ≤ c.heaps.length := by have := HZ.out; omega
  go_loopw [3] (fun i wr => ∃ k : Nat, k ≤ c.heaps.length ∧ i = .int .i64 k ∧ Hid ((c.heaps.drop k).all strong = c.heaps.all strong) ∧ Below W.heap.size W wr) (fun i _ => c.heaps.length - (intOf i).toNat)
  case atStart => exact ⟨0, by omega, rfl, hid rfl, Below.refl _ _⟩
  case round =>
    obtain ⟨k, hk, rfl, HI, hb⟩ := hrel
    have hbs := hb.size
    have k0 := (hb.cell (p := ⟨w.heap.size, 0, none⟩) (by show w.heap.size < _; omega)).trans r0
    have k1 := (hb.cell (p := ⟨w.heap.size, 1, none⟩) (by show w.heap.size < _; omega)).trans r1
    have k2 := (hb.cell (p := ⟨w.heap.size, 2, none⟩) (by show w.heap.size < _; omega)).trans r2
    by_cases hlt : k < c.heaps.length
    · rcases HO1.out with hnil | ⟨b, off, rfl, hbn, hcc⟩
      · rw [hnil] at hlt; simp at hlt
      obtain ⟨y0, y1⟩ := hcc k hlt
      clear hcc
      have hbl : b < n := hbn
      have z0 := (hb.cell (p := ⟨b, off + k * 2, none⟩) (by show b < _; omega)).trans ((hWb.cell (p := ⟨b, off + k * 2, none⟩) (by show b < _; omega)).trans y0)
      have z1 := (hb.cell (p := ⟨b, off + k * 2 + 1, none⟩) (by show b < _; omega)).trans ((hWb.cell (p := ⟨b, off + k * 2 + 1, none⟩) (by show b < _; omega)).trans y1)
      have HD := hid (show (c.heaps.drop k).all strong = (strong c.heaps[k] && (c.heaps.drop (k + 1)).all strong) by rw [List.drop_eq_getElem_cons hlt, List.all_cons])
      clear y0 y1
      generalize c.heaps[k] = r at *
      generalize hsb : strong r = sb at *
      have HB := hid hsb.symm
      clear hsb
      cases sb with
      | true =>
        go_wp2_with (go_at_call 128; refine (withinR_hid r HB _).mono ?_; rintro e w5 ⟨rfl, hb5⟩)
        go_roundw
        case rel => exact ⟨k + 1, by omega, by go_num, hid (by rw [← HI.out, HD.out]; simp), below_after hb hb5 (Nat.le_refl _)⟩
        case measure => simp [intOf]; omega
      | false =>
        go_wp2_with (go_at_call 128; refine (withinR_hid r HB _).mono ?_; rintro e w5 ⟨rfl, hb5⟩)
        go_ret
        exact ⟨ret_int (by rw [HF.out, HP.out, ← HI.out, HD.out]; simp), hWb.trans ((below_after hb hb5 (Nat.le_refl _)).mono (by omega))⟩
    · have HA1 := hid (show c.heaps.all strong = true by rw [← HI.out, List.drop_eq_nil_of_le (by omega)]; rfl)
      clear HI
      have hbW := hid hb
      clear hb
      go_wp2
      clear k0 k1 k2 hbs hlt hk
      go_loopw [4] (fun i wr2 => ∃ k : Nat, k ≤ c.casks.length ∧ i = .int .i64 k ∧ Hid ((c.casks.drop k).all (isCask c.heaps.length) = c.casks.all (isCask c.heaps.length)) ∧ Below W.heap.size W wr2) (fun i _ => c.casks.length - (intOf i).toNat)
      case atStart => exact ⟨0, by omega, rfl, hid rfl, hbW.out⟩
      case round =>
        clear hbW
        obtain ⟨k, hk, rfl, HI, hb⟩ := hrel
        have hbs := hb.size
        have j0 := (hb.cell (p := ⟨w.heap.size, 0, none⟩) (by show w.heap.size < _; omega)).trans r0
        have j1 := (hb.cell (p := ⟨w.heap.size, 1, none⟩) (by show w.heap.size < _; omega)).trans r1
        have j2 := (hb.cell (p := ⟨w.heap.size, 2, none⟩) (by show w.heap.size < _; omega)).trans r2
        by_cases hlt : k < c.casks.length
        · rcases HO2.out with hnil | ⟨b, off, rfl, hbn, hcc⟩
          · rw [hnil] at hlt; simp at hlt
          obtain ⟨xv, y0, hx⟩ := hcc k hlt
          clear hcc
          have hbl : b < n := hbn
          have hbl2 : b < wr.heap.size := by omega
          have hwl : w.heap.size < wr.heap.size := by omega
          have z0 := (hb.cell (p := ⟨b, off + k, none⟩) (by show b < _; omega)).trans ((hWb.cell (p := ⟨b, off + k, none⟩) (by show b < _; omega)).trans y0)
          have HD := hid (show (c.casks.drop k).all (isCask c.heaps.length) = (isCask c.heaps.length c.casks[k] && (c.casks.drop (k + 1)).all (isCask c.heaps.length)) by rw [List.drop_eq_getElem_cons hlt, List.all_cons])
          have HL4 := HM4.out c.casks[k] (List.getElem_mem _)
          have hxw : ∀ g, Ints (Lt n) (World.grew wr g) xv c.casks[k] := fun g => hx.below (((hWb.trans (hb.mono (by omega))).mono hn).trans ((grew_below wr g).mono (by omega)))
          clear y0 hx
          generalize c.casks[k] = ws at *
          have HX := hid hxw
          clear hxw
          have HN1 : ∀ g, n ≤ (World.grew wr g).heap.size := fun g => Nat.le_trans (by omega) (grew_below wr g).size
          have HG1 := hid HN1
          clear HN1
          obtain ⟨hgc, hgf⟩ := grew_cells wr
          obtain ⟨la, lc, hv0, -, -⟩ := (HX.out ⟨wr, Below.refl _ _⟩).open1
          obtain ⟨lm, hlm⟩ : ∃ lm, lm = ws.length := ⟨_, rfl⟩
          rw [← hlm] at hv0
          have HLM := hid hlm
          clear hlm
          subst hv0
          have HIC := hid (show isCask c.heaps.length ws = (weightsB c.heaps.length ws && decide (0 < sumI ws)) from rfl)
          obtain ⟨sb, hsb⟩ : ∃ sb, sb = weightsB c.heaps.length ws := ⟨_, rfl⟩
          rw [← hsb] at HIC
          have HSB := hid hsb
          clear hsb
          cases sb with
          | false =>
            go_wp2
            refine wp_region_grew (by kernel_rfl) (by kernel_rfl) ?_
            repeat (go_big_quiet_step ((go_at_call 66; exact grew_of (isStock_hid c.heaps.length ha hc _ _ ws HSB _ n _ (by omega) (HG1.out _) (HX.out _) HL4))))
            refine wpQuiet_nil ?_
            rintro _ ⟨ex, rfl⟩
            have hbE := hb.trans ((grew_below wr ex).mono hbs)
            go_wp2
            go_ret
            exact ⟨ret_int (by rw [HF.out, HP.out, HA1.out, ← HI.out, HD.out, HIC.out]; simp), hWb.trans (hbE.mono (by omega))⟩
          | true =>
            have hwb : ∀ x ∈ ws, 0 ≤ x ∧ x ≤ 30 := fun x hx => by
              have := HSB.out
              simp only [weightsB, Bool.true_eq, Bool.and_eq_true, List.all_eq_true] at this
              exact within_iff.1 (this.2 x hx)
            have hsw := sumW_eq (l := ws) (fun x hx => by have := hwb x hx; omega) HL4
            have hsn := sumI_nonneg (l := ws) fun x hx => (hwb x hx).1
            obtain ⟨s, hs⟩ : ∃ s, s = sumW ws := ⟨_, rfl⟩
            rw [← hs] at hsw
            have HS := hid hs
            clear hs hwb
            rw [← hsw] at HIC hsn
            clear hsw
            by_cases hs0 : s = 0
            · subst hs0
              go_wp2
              refine wp_region_grew (by kernel_rfl) (by kernel_rfl) ?_
              repeat (go_big_quiet_step ((first
                | (go_at_call 66; exact grew_of (isStock_hid c.heaps.length ha hc _ _ ws HSB _ n _ (by omega) (HG1.out _) (HX.out _) HL4))
                | (go_at_call 116; exact grew_same (sumR_hid ws HS _ n _ (HX.out _) HL4)))))
              refine wpQuiet_nil ?_
              rintro _ ⟨ex, rfl⟩
              have hbE := hb.trans ((grew_below wr ex).mono hbs)
              go_wp2
              go_ret
              exact ⟨ret_int (by rw [HF.out, HP.out, HA1.out, ← HI.out, HD.out, HIC.out]; simp), hWb.trans (hbE.mono (by omega))⟩
            · have hs1 : (s == 0) = false := by simpa using hs0
              have HSP := hid (show decide (0 < s) = true from decide_eq_true (by omega))
              clear hs0
              go_wp2
              refine wp_region_grew (by kernel_rfl) (by kernel_rfl) ?_
              repeat (go_big_quiet_step ((first
                | (go_at_call 66; exact grew_of (isStock_hid c.heaps.length ha hc _ _ ws HSB _ n _ (by omega) (HG1.out _) (HX.out _) HL4))
                | (go_at_call 116; exact grew_same (sumR_hid ws HS _ n _ (HX.out _) HL4)))))
              refine wpQuiet_nil ?_
              rintro _ ⟨ex, rfl⟩
              have hbE := hb.trans ((grew_below wr ex).mono hbs)
              go_wp2
              go_roundw
              case rel => exact ⟨k + 1, by omega, by go_num, hid (by rw [← HI.out, HD.out, HIC.out, HSP.out]; simp), hbE⟩
              case measure => simp [intOf]; omega
        · have HA2 := hid (show c.casks.all (isCask c.heaps.length) = true by rw [← HI.out, List.drop_eq_nil_of_le (by omega)]; rfl)
          have hbW := hid hb
          clear hb HI
          go_wp2
          clear j0 j1 j2 hbs hlt hk
          go_loopw [5] (fun i wr3 => ∃ k : Nat, k ≤ c.trials.length ∧ i = .int .i64 k ∧ Hid ((c.trials.drop k).all (trialB c) = c.trials.all (trialB c)) ∧ Below W.heap.size W wr3) (fun i _ => c.trials.length - (intOf i).toNat)
          case atStart => exact ⟨0, by omega, rfl, hid rfl, hbW.out⟩
          case round =>
            clear hbW
            obtain ⟨k, hk, rfl, HI, hb⟩ := hrel
            have hbs := hb.size
            have j0 := (hb.cell (p := ⟨w.heap.size, 0, none⟩) (by show w.heap.size < _; omega)).trans r0
            have j1 := (hb.cell (p := ⟨w.heap.size, 1, none⟩) (by show w.heap.size < _; omega)).trans r1
            have j2 := (hb.cell (p := ⟨w.heap.size, 2, none⟩) (by show w.heap.size < _; omega)).trans r2
            have hwl : w.heap.size < wr.heap.size := by omega
            by_cases hlt : k < c.trials.length
            · rcases HO3.out with hnil | ⟨b, off, rfl, hbn, hcc⟩
              · rw [hnil] at hlt; simp at hlt
              obtain ⟨y0, y1, y2, y3⟩ := hcc k hlt
              clear hcc
              have hbl : b < n := hbn
              have z0 := (hb.cell (p := ⟨b, off + k * 4, none⟩) (by show b < _; omega)).trans ((hWb.cell (p := ⟨b, off + k * 4, none⟩) (by show b < _; omega)).trans y0)
              have z1 := (hb.cell (p := ⟨b, off + k * 4 + 1, none⟩) (by show b < _; omega)).trans ((hWb.cell (p := ⟨b, off + k * 4 + 1, none⟩) (by show b < _; omega)).trans y1)
              have z2 := (hb.cell (p := ⟨b, off + k * 4 + 2, none⟩) (by show b < _; omega)).trans ((hWb.cell (p := ⟨b, off + k * 4 + 2, none⟩) (by show b < _; omega)).trans y2)
              have z3 := (hb.cell (p := ⟨b, off + k * 4 + 3, none⟩) (by show b < _; omega)).trans ((hWb.cell (p := ⟨b, off + k * 4 + 3, none⟩) (by show b < _; omega)).trans y3)
              have HD := hid (show (c.trials.drop k).all (trialB c) = (trialB c c.trials[k] && (c.trials.drop (k + 1)).all (trialB c)) by rw [List.drop_eq_getElem_cons hlt, List.all_cons])
              clear y0 y1 y2 y3
              generalize c.trials[k] = t at *
              obtain ⟨ck, num, s⟩ := t
              simp only at z0 z1 z2 z3
              obtain ⟨sb, hsb⟩ : ∃ sb, sb = strong s := ⟨_, rfl⟩
              have HSB := hid hsb
              clear hsb
              cases ck with
              | true =>
                obtain ⟨b0, hb0⟩ : ∃ b0, b0 = within num 0 ((c.casks.length : Int) - 1) := ⟨_, rfl⟩
                have HB0 := hid hb0
                have HT := hid (show trialB c ⟨true, num, s⟩ = (b0 && sb) by rw [hb0, HSB.out]; rfl)
                clear hb0
                cases b0 with
                | false =>
                  go_wp2_with (go_at_call 26; refine (inR_hid _ _ _ HB0 _).mono ?_; rintro e w5 ⟨rfl, rfl⟩)
                  go_ret
                  exact ⟨ret_int (by rw [HF.out, HP.out, HA1.out, HA2.out, ← HI.out, HD.out, HT.out]; simp), hWb.trans ((below_after hb (below_alloc1 (Nat.le_refl _) _) (Nat.le_refl _)).mono (by omega))⟩
                | true =>
                  cases sb with
                  | false =>
                    go_wp2_with (first
                      | (go_at_call 26; refine (inR_hid _ _ _ HB0 _).mono ?_; rintro e w5 ⟨rfl, rfl⟩)
                      | (go_at_call 128; refine (withinR_hid s HSB _).mono ?_; rintro e w5 ⟨rfl, hb5⟩))
                    go_ret
                    exact ⟨ret_int (by rw [HF.out, HP.out, HA1.out, HA2.out, ← HI.out, HD.out, HT.out]; simp), hWb.trans ((below_after hb (below_after (below_alloc1 (Nat.le_refl _) _) hb5 (Nat.le_refl _)) (Nat.le_refl _)).mono (by omega))⟩
                  | true =>
                    go_wp2_with (first
                      | (go_at_call 26; refine (inR_hid _ _ _ HB0 _).mono ?_; rintro e w5 ⟨rfl, rfl⟩)
                      | (go_at_call 128; refine (withinR_hid s HSB _).mono ?_; rintro e w5 ⟨rfl, hb5⟩))
                    go_roundw
                    case rel => exact ⟨k + 1, by omega, by go_num, hid (by rw [← HI.out, HD.out, HT.out]; simp), below_after hb (below_after (below_alloc1 (Nat.le_refl _) _) hb5 (Nat.le_refl _)) (Nat.le_refl _)⟩
                    case measure => simp [intOf]; omega
              | false =>
                obtain ⟨b0, hb0⟩ : ∃ b0, b0 = within num 0 ((c.heaps.length : Int) - 1) := ⟨_, rfl⟩
                have HB0 := hid hb0
                have HT := hid (show trialB c ⟨false, num, s⟩ = (b0 && sb) by rw [hb0, HSB.out]; rfl)
                clear hb0
                cases b0 with
                | false =>
                  go_wp2_with (go_at_call 26; refine (inR_hid _ _ _ HB0 _).mono ?_; rintro e w5 ⟨rfl, rfl⟩)
                  go_ret
                  exact ⟨ret_int (by rw [HF.out, HP.out, HA1.out, HA2.out, ← HI.out, HD.out, HT.out]; simp), hWb.trans ((below_after hb (below_alloc1 (Nat.le_refl _) _) (Nat.le_refl _)).mono (by omega))⟩
                | true =>
                  cases sb with
                  | false =>
                    go_wp2_with (first
                      | (go_at_call 26; refine (inR_hid _ _ _ HB0 _).mono ?_; rintro e w5 ⟨rfl, rfl⟩)
                      | (go_at_call 128; refine (withinR_hid s HSB _).mono ?_; rintro e w5 ⟨rfl, hb5⟩))
                    go_ret
                    exact ⟨ret_int (by rw [HF.out, HP.out, HA1.out, HA2.out, ← HI.out, HD.out, HT.out]; simp), hWb.trans ((below_after hb (below_after (below_alloc1 (Nat.le_refl _) _) hb5 (Nat.le_refl _)) (Nat.le_refl _)).mono (by omega))⟩
                  | true =>
                    go_wp2_with (first
                      | (go_at_call 26; refine (inR_hid _ _ _ HB0 _).mono ?_; rintro e w5 ⟨rfl, rfl⟩)
                      | (go_at_call 128; refine (withinR_hid s HSB _).mono ?_; rintro e w5 ⟨rfl, hb5⟩))
                    go_roundw
                    case rel => exact ⟨k + 1, by omega, by go_num, hid (by rw [← HI.out, HD.out, HT.out]; simp), below_after hb (below_after (below_alloc1 (Nat.le_refl _) _) hb5 (Nat.le_refl _)) (Nat.le_refl _)⟩
                    case measure => simp [intOf]; omega
            · have HA3 := hid (show c.trials.all (trialB c) = true by rw [← HI.out, List.drop_eq_nil_of_le (by omega)]; rfl)
              have hgood : Good c := ⟨HSZ.out, by rw [HP.out, HA1.out, HA2.out, HA3.out]; simp; have := HZ.out; intro h; rw [h] at this; exact this rfl⟩
              have HG := hid hgood
              have HPO := hid hgood.ok
              have HOV := hid (manyR_over hgood)
              clear hgood
              by_cases hov : 2000 < manyR c
              · have HV := hid (HOV.out.1 hov)
                go_wp2_with (go_at_call 40; refine (many_any c HG.out.facts.2.1 m1 _ n _ (by omega) (h'.below ((hWb.trans (hb.mono (by omega))).mono hn))).mono ?_; rintro e w5 ⟨rfl, hb5⟩)
                go_ret
                exact ⟨ret_int (by rw [HF.out, HPO.out, if_pos rfl, if_pos HV.out]), hWb.trans ((below_after hb hb5 (Nat.le_refl _)).mono (by omega))⟩
              · have HV := hid (fun h => hov (HOV.out.2 h))
                go_wp2_with (go_at_call 40; refine (many_any c HG.out.facts.2.1 m1 _ n _ (by omega) (h'.below ((hWb.trans (hb.mono (by omega))).mono hn))).mono ?_; rintro e w5 ⟨rfl, hb5⟩)
                go_ret
                exact ⟨ret_int (by rw [HF.out, HPO.out, if_pos rfl, if_neg HV.out]), hWb.trans ((below_after hb hb5 (Nat.le_refl _)).mono (by omega))⟩

theorem faultR_any (c : Ce) (v : Value) (n : Nat) (w : World) (hn : n ≤ w.heap.size) (h : CeV (Lt n) w v c) (hsm : Small c) :
    Calls Try.prog 79 #[v] w fun e w' => e = .returned (.int .i64 (fault c)) ∧ Below w.heap.size w w' := by
  cases hs : sizes c with
  | true => exact fault_sizes c v n w h hsm hs
  | false => exact fault_else c v n w hn h hsm hs
end Go.Proofs.Ytjddcaimjofihaa

namespace Go.Proofs.Ytjddcaimjofihaa
open Go.RowKit Go.Shelf
set_option maxRecDepth 100000

def bigB (c : Ce) : Bool := decide (5 < c.heaps.length) || decide (5 < c.casks.length) || decide (7 < c.trials.length)
def longB (l : List Int) : Bool := decide (6 < l.length)
/-- Whether a statement looks at a cellar. -/
def thinB (c : Ce) : Bool := !bigB c && (!c.casks.any longB && (fault c != 0 || decide (manyR c ≤ 150)))
def readyB (c : Ce) : Bool := thinB c && (fault c == 0)

theorem small_of {c : Ce} (h1 : bigB c = false) (h2 : c.casks.any longB = false) : Small c := by
  simp only [bigB, Bool.or_eq_false_iff, decide_eq_false_iff_not] at h1
  refine ⟨by omega, by omega, by omega, fun l hl => ?_⟩
  rw [List.any_eq_false] at h2
  have := h2 l hl
  simp only [longB, decide_eq_true_eq] at this
  omega
theorem thin_small {c : Ce} (h : thinB c = true) : Small c := by
  simp only [thinB, Bool.and_eq_true, Bool.not_eq_true'] at h
  exact small_of h.1 h.2.1
theorem ready_fault {c : Ce} (h : readyB c = true) : fault c = 0 := by
  simp only [readyB, Bool.and_eq_true, beq_iff_eq] at h
  exact h.2
theorem ready_thin {c : Ce} (h : readyB c = true) : thinB c = true := by
  simp only [readyB, Bool.and_eq_true] at h
  exact h.1
theorem ready_many {c : Ce} (h : readyB c = true) : manyR c ≤ 150 := by
  have hf := ready_fault h
  have := ready_thin h
  simp only [thinB, Bool.and_eq_true, Bool.or_eq_true, bne_iff_ne, decide_eq_true_eq] at this
  rcases this.2.2 with h | h
  · exact absurd hf h
  · exact h

theorem thin_big (c : Ce) (v : Value) (n : Nat) (w : World) (h : CeV (Lt n) w v c) (hs : bigB c = true) :
    Calls Try.prog 19 #[v] w fun e w' => e = .returned (.bool (thinB c)) ∧ Below w.heap.size w w' := by
  obtain ⟨ha, hc, ka, kc, ta, tc, rfl, -, -, -⟩ := h.open
  have HF := hid (show thinB c = false by unfold thinB; rw [hs]; rfl)
  simp only [bigB, Bool.or_eq_true, decide_eq_true_eq] at hs
  generalize c.heaps.length = x1 at *
  generalize c.casks.length = x2 at *
  generalize c.trials.length = x3 at *
  by_cases h1 : 5 < x1
  · go_enter Try.func19, Try.ntmps19
    go_wp2
    go_ret
    exact ⟨ret_bool HF.out.symm, below_alloc1 (Nat.le_refl _) _⟩
  · by_cases h2 : 5 < x2
    · have d1 : decide (5 < x1) = false := by simpa using h1
      go_enter Try.func19, Try.ntmps19
      go_wp2
      go_ret
      exact ⟨ret_bool HF.out.symm, below_alloc1 (Nat.le_refl _) _⟩
    · have h3 : 7 < x3 := by omega
      clear hs
      go_enter Try.func19, Try.ntmps19
      go_wp2
      go_ret
      exact ⟨ret_bool HF.out.symm, below_alloc1 (Nat.le_refl _) _⟩

set_option maxHeartbeats 1000000 in
theorem thin_else (c : Ce) (v : Value) (n : Nat) (w : World) (hn : n ≤ w.heap.size) (h : CeV (Lt n) w v c) (hs : bigB c = false) :
    Calls Try.prog 19 #[v] w fun e w' => e = .returned (.bool (thinB c)) ∧ Below w.heap.size w w' := by
  have h' := h
  obtain ⟨ha, hc, ka, kc, ta, tc, rfl, -, H2, -⟩ := h.open
  obtain ⟨_, _, he, -, ho2⟩ := H2.open
  cases he
  have HF := hid (show thinB c = (!c.casks.any longB && (fault c != 0 || decide (manyR c ≤ 150))) by unfold thinB; rw [hs]; rfl)
  have HSM := hid (fun h2 => small_of hs h2)
  have HO2 := hid ho2
  simp only [bigB, Bool.or_eq_false_iff, decide_eq_false_iff_not] at hs
  obtain ⟨⟨n1, n2⟩, n3⟩ := hs
  have n1' : decide ((5 : Int) < (c.heaps.length : Int)) = false := decide_eq_false (by omega)
  have n2' : decide ((5 : Int) < (c.casks.length : Int)) = false := decide_eq_false (by omega)
  have n3' : decide ((7 : Int) < (c.trials.length : Int)) = false := decide_eq_false (by omega)
  have e2 : (c.casks.length : Int) ≤ 5 := by omega
  obtain ⟨W, hW⟩ : ∃ W, W = w.alloc (Obj.cells #[.slice ha c.heaps.length hc, .slice ka c.casks.length kc, .slice ta c.trials.length tc] 26) := ⟨_, rfl⟩
  have hWs : W.heap.size = w.heap.size + 1 := by rw [hW]; simp
  have hWb : Below w.heap.size w W := by rw [hW]; exact below_alloc1 (Nat.le_refl _) _
  have hWr : W.heap[w.heap.size]? = some (.cells #[.slice ha c.heaps.length hc, .slice ka c.casks.length kc, .slice ta c.trials.length tc] 26 (0, 0)) := by rw [hW]; exact heap_new _ _
  have r0 := cell_of_row hWr 0
  have r1 := cell_of_row hWr 1
  have r2 := cell_of_row hWr 2
  simp only [List.getElem?_toArray, List.getElem?_cons_zero, List.getElem?_cons_succ] at r0 r1 r2
  clear H2 ho2 hWr
  go_enter Try.func19, Try.ntmps19
  go_wp2
  rw [← hW]
  clear hW
  go_loopw [3] (fun i wr => ∃ k : Nat, k ≤ c.casks.length ∧ i = .int .i64 k ∧ Hid ((c.casks.drop k).any longB = c.casks.any longB) ∧ Below W.heap.size W wr) (fun i _ => c.casks.length - (intOf i).toNat)
  case atStart => exact ⟨0, by omega, rfl, hid rfl, Below.refl _ _⟩
  case round =>
    obtain ⟨k, hk, rfl, HI, hb⟩ := hrel
    have hbs := hb.size
    have j0 := (hb.cell (p := ⟨w.heap.size, 0, none⟩) (by show w.heap.size < _; omega)).trans r0
    have j1 := (hb.cell (p := ⟨w.heap.size, 1, none⟩) (by show w.heap.size < _; omega)).trans r1
    have j2 := (hb.cell (p := ⟨w.heap.size, 2, none⟩) (by show w.heap.size < _; omega)).trans r2
    by_cases hlt : k < c.casks.length
    · rcases HO2.out with hnil | ⟨b, off, rfl, hbn, hcc⟩
      · rw [hnil] at hlt; simp at hlt
      obtain ⟨xv, y0, hx⟩ := hcc k hlt
      clear hcc
      have hbl : b < n := hbn
      have z0 := (hb.cell (p := ⟨b, off + k, none⟩) (by show b < _; omega)).trans ((hWb.cell (p := ⟨b, off + k, none⟩) (by show b < _; omega)).trans y0)
      have HD := hid (show (c.casks.drop k).any longB = (longB c.casks[k] || (c.casks.drop (k + 1)).any longB) by rw [List.drop_eq_getElem_cons hlt, List.any_cons])
      clear y0
      have HLB := hid (show longB c.casks[k] = decide (6 < c.casks[k].length) from rfl)
      obtain ⟨la, lc, rfl, -, -⟩ := hx.open1
      clear hx
      generalize longB c.casks[k] = lb at *
      generalize c.casks[k].length = ll at *
      by_cases h6 : 6 < ll
      · go_wp2
        go_ret
        exact ⟨ret_bool (by rw [HF.out, ← HI.out, HD.out, HLB.out, decide_eq_true h6]; rfl), hWb.trans (hb.mono (by omega))⟩
      · go_wp2
        go_roundw
        case rel => exact ⟨k + 1, by omega, by go_num, hid (by rw [← HI.out, HD.out, HLB.out, decide_eq_false h6]; rfl), hb⟩
        case measure => simp [intOf]; omega
    · have hA := (show c.casks.any longB = false by rw [← HI.out, List.drop_eq_nil_of_le (by omega)]; rfl)
      have HS := hid (HSM.out hA)
      have HA := hid hA
      clear hA
      obtain ⟨f, hf⟩ : ∃ f, f = fault c := ⟨_, rfl⟩
      have HFF := hid hf
      by_cases hf0 : f = 0
      · have hfz : (f != 0) = false := by simp [hf0]
        have hgood := (fault_good (hf.symm.trans hf0)).1
        have HG := hid hgood
        have hsm := HS.out.heaps
        clear hf hgood hf0
        go_wp2_with (first
          | (go_at_call 79; refine (faultR_any c _ n _ (by omega) (h'.below ((hWb.trans (hb.mono (by omega))).mono hn)) HS.out).mono ?_; rw [← HFF.out]; rintro e w5 ⟨rfl, hb5⟩; have hb05 := hb.trans (hb5.mono hbs); have i0 := (hb05.cell (p := ⟨w.heap.size, 0, none⟩) (by show w.heap.size < _; omega)).trans r0; have i1 := (hb05.cell (p := ⟨w.heap.size, 1, none⟩) (by show w.heap.size < _; omega)).trans r1; have i2 := (hb05.cell (p := ⟨w.heap.size, 2, none⟩) (by show w.heap.size < _; omega)).trans r2; have hbs5 := hb05.size)
          | (go_at_call 40; refine (many_any c HG.out.facts.2.1 hsm _ n _ (by omega) (h'.below ((hWb.trans (hb05.mono (by omega))).mono hn))).mono ?_; rintro e w6 ⟨rfl, hb6⟩))
        go_ret
        exact ⟨ret_bool (by rw [HF.out, HA.out, ← HFF.out, hfz]; simp), hWb.trans ((hb05.trans (hb6.mono hbs5)).mono (by omega))⟩
      · have hfz : (f != 0) = true := by simp [hf0]
        clear hf hf0
        go_wp2_with (go_at_call 79; refine (faultR_any c _ n _ (by omega) (h'.below ((hWb.trans (hb.mono (by omega))).mono hn)) HS.out).mono ?_; rw [← HFF.out]; rintro e w5 ⟨rfl, hb5⟩)
        go_ret
        exact ⟨ret_bool (by rw [HF.out, HA.out, ← HFF.out, hfz]; simp), hWb.trans ((hb.trans (hb5.mono hbs)).mono (by omega))⟩

theorem thin_any (c : Ce) (v : Value) (n : Nat) (w : World) (hn : n ≤ w.heap.size) (h : CeV (Lt n) w v c) :
    Calls Try.prog 19 #[v] w fun e w' => e = .returned (.bool (thinB c)) ∧ Below w.heap.size w w' := by
  cases hs : bigB c with
  | true => exact thin_big c v n w h hs
  | false => exact thin_else c v n w hn h hs

theorem faultL_any (c : Ce) (v : Value) (n : Nat) (w : World) (hn : n ≤ w.heap.size) (h : CeV (Lt n) w v c) (hsm : Small c) :
    Calls Try.prog 25 #[v] w fun e w' => e = .returned (.int .i64 (fault c)) ∧ Below w.heap.size w w' := by
  have h' := h
  obtain ⟨ha, hc, ka, kc, ta, tc, rfl, -, -, -⟩ := h.open
  generalize hf : fault c = f at *
  have HF := hid hf
  clear hf
  go_enter Try.func25, Try.ntmps25
  go_wp2_with (go_at_call 79; refine (faultR_any c _ n _ (by simp; omega) (h'.below (below_alloc1 hn _)) hsm).mono ?_; rw [HF.out]; rintro e w2 ⟨rfl, hb2⟩)
  go_ret
  exact ⟨rfl, below_after (below_alloc1 (Nat.le_refl _) _) hb2 (Nat.le_refl _)⟩

theorem ready_any (c : Ce) (v : Value) (n : Nat) (w : World) (hn : n ≤ w.heap.size) (h : CeV (Lt n) w v c) :
    Calls Try.prog 35 #[v] w fun e w' => e = .returned (.bool (readyB c)) ∧ Below w.heap.size w w' := by
  have h' := h
  obtain ⟨ha, hc, ka, kc, ta, tc, rfl, -, -, -⟩ := h.open
  have HR := hid (show readyB c = (thinB c && (fault c == 0)) from rfl)
  have HSM := hid (fun h => thin_small (c := c) h)
  generalize hf : fault c = f at *
  have HF := hid hf
  generalize ht : thinB c = t at *
  have HT := hid ht
  clear hf ht
  cases t with
  | false =>
    go_enter Try.func35, Try.ntmps35
    go_wp2_with (go_at_call 19; refine (thin_any c _ n _ (by simp; omega) (h'.below (below_alloc1 hn _))).mono ?_; rw [HT.out]; rintro e w2 ⟨rfl, hb2⟩)
    go_ret
    exact ⟨ret_bool (by rw [HR.out]; rfl), below_after (below_alloc1 (Nat.le_refl _) _) hb2 (Nat.le_refl _)⟩
  | true =>
    have hsm := hid (HSM.out rfl)
    go_enter Try.func35, Try.ntmps35
    go_wp2_with (first
      | (go_at_call 19; refine (thin_any c _ n _ (by simp; omega) (h'.below (below_alloc1 hn _))).mono ?_; rw [HT.out]; rintro e w2 ⟨rfl, hb2⟩; have hb3 := below_after (below_alloc1 (Nat.le_refl _) _) hb2 (Nat.le_refl _); obtain ⟨hc2, hf2⟩ := bcell hb2; have hz2 : w.heap.size < w2.heap.size := (by have := hb2.size; simp at this; omega))
      | (go_at_call 25; refine (faultL_any c _ n _ (by omega) (h'.below (hb3.mono hn)) hsm.out).mono ?_; rw [HF.out]; rintro e w4 ⟨rfl, hb4⟩))
    go_ret
    exact ⟨ret_bool (by rw [HR.out]; simp), hb3.trans (hb4.mono (by omega))⟩
end Go.Proofs.Ytjddcaimjofihaa
