/- The walk of the law CaskFirst; no condition. -/
import Derived.Test.YtjddcaimjofihaaXG
namespace Go.Proofs.Ytjddcaimjofihaa
open Go.RowKit Go.Shelf
set_option maxRecDepth 100000

/-- What Bounds returns, but for the bounds. -/
def RetCode (err : Int) (W : World) (e : Ending) (w' : World) : Prop := ∃ v u, e = .returned (.tuple #[v, u, .int .i64 err]) ∧ Below W.heap.size W w'
theorem bounds_code {c : Ce} {err : Int} (he : askErr c true = err) (hsm : Small c) (vc : Value) (n : Nat) (w : World) (hn : n ≤ w.heap.size) (h : CeV (Lt n) w vc c) :
    Calls Try.prog 21 #[vc] w (RetCode err w) := by
  subst he
  by_cases h0 : askErr c true = 0
  · rw [h0]
    exact (Bounds_ok c vc n w hn h hsm h0).mono fun e w' ⟨v, u, he, _, _, hb⟩ => ⟨v, u, he, hb⟩
  · exact (Bounds_err c vc n w hn h hsm h0).mono fun e w' ⟨v, u, he, _, _, hb⟩ => ⟨v, u, he, hb⟩
theorem upTo_fault {c : Ce} (hf : fault c = 0) (k : Nat) : fault (upTo c k) = 0 := by
  obtain ⟨hg, hm⟩ := fault_good hf
  have hg2 := upTo_good hg k
  unfold fault
  rw [hg2.sz, hg2.ok]
  simp only [Bool.false_eq_true, if_false, if_true]
  rw [if_neg]
  show ¬ 2000 < manyTo 2001 c.heaps 1
  omega
theorem bit_ones (k i : Nat) : ((2 : Int) ^ k - 1) / 2 ^ i % 2 = 1 ↔ i < k := by
  have hp : 0 < 2 ^ k := Nat.pow_pos (by omega)
  have h := Nat.testBit_two_pow_sub_one k i
  rw [Nat.testBit_eq_decide_div_mod_eq, decide_eq_decide] at h
  rw [← h]
  have e1 : ((2 : Int) ^ k - 1) = ((2 ^ k - 1 : Nat) : Int) := by
    rw [Int.natCast_sub (by omega)]; simp
  have e2 : ((2 : Int) ^ i) = ((2 ^ i : Nat) : Int) := by simp
  rw [e1, e2, ← Int.natCast_ediv]
  omega
theorem someL_ones (k : Nat) (ts : List Tl) : ∀ i, someL ((2 : Int) ^ k - 1) ts i = ts.take (k - i) := by
  induction ts with
  | nil => intro i; simp [someL]
  | cons t ts ih =>
    intro i
    simp only [someL, ih]
    by_cases h : i < k
    · rw [if_pos ((bit_ones k i).2 h), show k - i = (k - (i + 1)) + 1 by omega, List.take_succ_cons]
    · rw [if_neg (fun e => h ((bit_ones k i).1 e)), show k - i = 0 by omega, show k - (i + 1) = 0 by omega, List.take_zero, List.take_zero]
theorem someC_ones (c : Ce) (k : Nat) {b : Int} (hb : b = (2 : Int) ^ k - 1) : someC c b = upTo c k := by
  subst hb
  unfold someC upTo
  rw [someL_ones, Nat.sub_zero]
theorem upTo_all {c : Ce} {k : Nat} (h : c.trials.length ≤ k) : upTo c k = c := by unfold upTo; rw [List.take_of_length_le h]
theorem ask_possible {c : Ce} (hf : fault c = 0) : askErr c true = if possible c [] then 0 else 11 := by
  unfold askErr possible
  rw [if_neg (by simpa using hf)]
  cases truthsOf c [] <;> simp
theorem possible_none {c : Ce} (hg : Good c) (ht : c.trials = []) : possible c [] = true := by
  obtain ⟨l, hl⟩ := listed_some hg
  exact (possible_iff hg).2 ⟨l, hl, right_nil_iff.2 (by rw [ht]; simp)⟩
/-- What the first wrong trial is. -/
theorem firstFrom_spec (c : Ce) (m : Nat) : ∀ (d k : Nat), k + d = m → (∀ r, firstFrom c ((List.range m).drop k) = some r → k ≤ r ∧ r < m ∧ possible (upTo c (r + 1)) [] = false ∧ (k < r → possible (upTo c r) [] = true)) ∧
    (firstFrom c ((List.range m).drop k) = none → ∀ j, k ≤ j → j < m → possible (upTo c (j + 1)) [] = true) := by
  intro d
  induction d with
  | zero =>
    intro k hk
    rw [List.drop_eq_nil_of_le (by simp; omega)]
    exact ⟨fun r h => by simp [firstFrom] at h, fun _ j h1 h2 => by omega⟩
  | succ d ih =>
    intro k hk
    obtain ⟨i1, i2⟩ := ih (k + 1) (by omega)
    rw [List.drop_eq_getElem_cons (by simp; omega), List.getElem_range]
    simp only [firstFrom]
    by_cases hp : possible (upTo c (k + 1)) [] = true
    · rw [if_pos hp]
      refine ⟨fun r h => ?_, fun h j h1 h2 => ?_⟩
      · obtain ⟨a1, a2, a3, a4⟩ := i1 r h
        refine ⟨by omega, a2, a3, fun _ => ?_⟩
        by_cases e : r = k + 1
        · rw [e]; exact hp
        · exact a4 (by omega)
      · by_cases e : j = k
        · rw [e]; exact hp
        · exact i2 h j (by omega) h2
    · rw [if_neg hp]
      refine ⟨fun r h => ?_, fun h => by cases h⟩
      cases h
      exact ⟨Nat.le_refl _, by omega, by simpa using hp, fun h => by omega⟩
theorem first_some {c : Ce} (hf : fault c = 0) {r : Nat} (h : firstOf c = some r) : r < c.trials.length ∧ askErr (upTo c r) true = 0 ∧ askErr (upTo c (r + 1)) true = 11 := by
  obtain ⟨a1, a2, a3, a4⟩ := (firstFrom_spec c c.trials.length c.trials.length 0 (by omega)).1 r h
  obtain ⟨hg, -⟩ := fault_good hf
  refine ⟨a2, ?_, ?_⟩
  · rw [ask_possible (upTo_fault hf r)]
    by_cases e : r = 0
    · subst e; rw [possible_none (upTo_good hg 0) (by simp [upTo]), if_pos rfl]
    · rw [a4 (by omega), if_pos rfl]
  · rw [ask_possible (upTo_fault hf _), a3]; simp
theorem first_none {c : Ce} (hf : fault c = 0) (h : firstOf c = none) : askErr c true = 0 := by
  obtain ⟨hg, -⟩ := fault_good hf
  rw [ask_possible hf]
  by_cases e : c.trials.length = 0
  · rw [possible_none hg (List.eq_nil_of_length_eq_zero e), if_pos rfl]
  · have := (firstFrom_spec c c.trials.length c.trials.length 0 (by omega)).2 h (c.trials.length - 1) (by omega) (by omega)
    rw [show c.trials.length - 1 + 1 = c.trials.length by omega, upTo_all (Nat.le_refl _)] at this
    rw [this, if_pos rfl]
theorem upTo_small {c : Ce} (h : Small c) (k : Nat) : Small (upTo c k) := ⟨h.heaps, h.casks, by have := h.trials; simp only [upTo, List.length_take]; omega, h.cask⟩

set_option maxHeartbeats 8000000 in
theorem CaskFirst_walk (c : Ce) (v : Value) {w : World} (h : CeV (Lt w.heap.size) w v c) :
    Calls Try.prog 9 #[v] w (RetT w) := by
  have h' := h
  obtain ⟨ha, hc, ka, kc, ta, tc, rfl, -, -, -⟩ := h.open
  obtain ⟨W, hW⟩ : ∃ W, W = w.alloc (Obj.cells #[.slice ha c.heaps.length hc, .slice ka c.casks.length kc, .slice ta c.trials.length tc] 26) := ⟨_, rfl⟩
  have hWs : W.heap.size = w.heap.size + 1 := by rw [hW]; simp
  have hWb : Below w.heap.size w W := by rw [hW]; exact below_alloc1 (Nat.le_refl _) _
  have hWr : W.heap[w.heap.size]? = some (.cells #[.slice ha c.heaps.length hc, .slice ka c.casks.length kc, .slice ta c.trials.length tc] 26 (0, 0)) := by rw [hW]; exact heap_new _ _
  have HBOX := hid (fun w1 (hb : Below W.heap.size W w1) => (hb.block w.heap.size (by omega)).trans hWr : ∀ w1, Below W.heap.size W w1 → w1.heap[w.heap.size]? = _)
  have HCE := hid (fun w1 (hb : Below W.heap.size W w1) => h'.below (hWb.trans (hb.mono (by omega))) : ∀ w1, Below W.heap.size W w1 → CeV (Lt w.heap.size) w1 _ c)
  clear hWr
  obtain ⟨rb, hrb⟩ : ∃ rb, rb = readyB c := ⟨_, rfl⟩
  have HRB := hid hrb
  clear hrb
  cases rb with
  | false =>
    go_enter Try.func9, Try.ntmps9
    go_wp2_with fail
    rw [← hW]
    clear hW
    refine (ready_hid c HRB _ w.heap.size W (by omega) (HCE.out W (Below.refl _ _))).mono ?_
    rintro e w1 ⟨rfl, hb1⟩
    go_wp2_with (go_at_call 20; refine (awake_any _).mono ?_; rintro e w2 ⟨rfl, hb2⟩)
    go_ret
    exact ⟨rfl, hWb.trans ((below_after hb1 hb2 (Nat.le_refl _)).mono (by omega))⟩
  | true =>
    have hf := ready_fault HRB.out.symm
    have hsm := thin_small (ready_thin HRB.out.symm)
    have hgood := (fault_good hf).1
    obtain ⟨⟨g1, g2, g3, g4⟩, -⟩ := hgood.facts
    have HF := hid hf
    have HSM := hid hsm
    clear hf hsm hgood
    cases hfo : firstOf c with
    | none =>
      have HFO := hid hfo
      have HA := hid (first_none HF.out hfo)
      clear hfo
      go_enter Try.func9, Try.ntmps9
      go_wp2_with fail
      rw [← hW]
      clear hW
      refine (ready_hid c HRB _ w.heap.size W (by omega) (HCE.out W (Below.refl _ _))).mono ?_
      rintro e w1 ⟨rfl, hb1⟩
      have j0 := cell_of_row (HBOX.out w1 hb1) 0
      have j1 := cell_of_row (HBOX.out w1 hb1) 1
      have j2 := cell_of_row (HBOX.out w1 hb1) 2
      simp only [List.getElem?_toArray, List.getElem?_cons_zero, List.getElem?_cons_succ] at j0 j1 j2
      have HB1 := hid hb1
      have hs1 := hb1.size
      clear hb1
      go_wp2_with fail
      refine (CellarL_any c _ w.heap.size w1 (by omega) (HCE.out w1 HB1.out) HSM.out).mono ?_
      rintro e w2 ⟨v2, rfl, hc2, hb2⟩
      obtain ⟨_, _, _, _, _, _, rfl, -⟩ := id hc2.open
      have HB2 := hid (below_after HB1.out hb2 (Nat.le_refl _))
      clear hb2 j0 j1 j2
      go_wp2_with fail
      refine (First_ok c _ _ w2 (Nat.le_refl _) hc2 HF.out).mono ?_
      rw [HFO.out]
      rintro e w3 ⟨rfl, hb3⟩
      simp only [firstN, firstE, Option.isSome_none, Bool.false_eq_true, if_false]
      have HB3 := hid (below_after HB2.out hb3 (Nat.le_refl _))
      clear hb3 hc2
      have hs3 := HB3.out.size
      have j0 := cell_of_row (HBOX.out w3 HB3.out) 0
      have j1 := cell_of_row (HBOX.out w3 HB3.out) 1
      have j2 := cell_of_row (HBOX.out w3 HB3.out) 2
      simp only [List.getElem?_toArray, List.getElem?_cons_zero, List.getElem?_cons_succ] at j0 j1 j2
      go_wp2_with fail
      refine (CellarL_any c _ w.heap.size w3 (by omega) (HCE.out w3 HB3.out) HSM.out).mono ?_
      rintro e w4 ⟨v4, rfl, hc4, hb4⟩
      obtain ⟨_, _, _, _, _, _, rfl, -⟩ := id hc4.open
      have HB4 := hid (below_after HB3.out hb4 (Nat.le_refl _))
      clear hb4 j0 j1 j2
      go_wp2_with fail
      refine (bounds_code HA.out HSM.out _ _ w4 (Nat.le_refl _) hc4).mono ?_
      rintro e w5 ⟨_, _, rfl, hb5⟩
      have HB5 := hid (below_after HB4.out hb5 (Nat.le_refl _))
      clear hb5 hc4
      go_wp2_with (go_at_call 20; refine (awake_any _).mono ?_; rintro e w6 ⟨rfl, hb6⟩)
      go_ret
      exact ⟨rfl, hWb.trans ((below_after HB5.out hb6 (Nat.le_refl _)).mono (by omega))⟩
    | some r =>
      have HFO := hid hfo
      obtain ⟨hrl, ha1, ha2⟩ := first_some HF.out hfo
      have HA1 := hid ha1
      have HA2 := hid ha2
      clear hfo ha1 ha2
      have hwi := hid (show true = within (r : Int) 0 ((c.trials.length : Int) - 1) from (within_iff.2 (by omega)).symm)
      have hsb : ∀ (k : Nat) (b : Int), b = (2 : Int) ^ k - 1 → Hid (someC c b = upTo c k) := fun k b hb => hid (someC_ones c k hb)
      have HSB := hid hsb
      clear hsb
      have hr5 : r = 0 ∨ r = 1 ∨ r = 2 ∨ r = 3 ∨ r = 4 := by omega
      rcases hr5 with rfl | rfl | rfl | rfl | rfl
      · go_enter Try.func9, Try.ntmps9
        go_wp2_with fail
        rw [← hW]
        clear hW
        refine (ready_hid c HRB _ w.heap.size W (by omega) (HCE.out W (Below.refl _ _))).mono ?_
        rintro e w1 ⟨rfl, hb1⟩
        have j0 := cell_of_row (HBOX.out w1 hb1) 0
        have j1 := cell_of_row (HBOX.out w1 hb1) 1
        have j2 := cell_of_row (HBOX.out w1 hb1) 2
        simp only [List.getElem?_toArray, List.getElem?_cons_zero, List.getElem?_cons_succ] at j0 j1 j2
        have HB1 := hid hb1
        have hs1 := hb1.size
        clear hb1
        go_wp2_with fail
        refine (CellarL_any c _ w.heap.size w1 (by omega) (HCE.out w1 HB1.out) HSM.out).mono ?_
        rintro e w2 ⟨v2, rfl, hc2, hb2⟩
        obtain ⟨_, _, _, _, _, _, rfl, -⟩ := id hc2.open
        have HB2 := hid (below_after HB1.out hb2 (Nat.le_refl _))
        clear hb2 j0 j1 j2
        go_wp2_with fail
        refine (First_ok c _ _ w2 (Nat.le_refl _) hc2 HF.out).mono ?_
        rw [HFO.out]
        rintro e w3 ⟨rfl, hb3⟩
        simp only [firstN, firstE, Option.isSome_some, if_true]
        have HB3 := hid (below_after HB2.out hb3 (Nat.le_refl _))
        clear hb3 hc2
        have hs3 := HB3.out.size
        have j0 := cell_of_row (HBOX.out w3 HB3.out) 0
        have j1 := cell_of_row (HBOX.out w3 HB3.out) 1
        have j2 := cell_of_row (HBOX.out w3 HB3.out) 2
        simp only [List.getElem?_toArray, List.getElem?_cons_zero, List.getElem?_cons_succ] at j0 j1 j2
        go_wp2_with fail
        refine (inR_hid _ _ _ hwi _).mono ?_
        rintro e w3b ⟨rfl, rfl⟩
        go_wp2_with fail
        refine (some_any c _ 0 (by omega) w.heap.size w3 (by omega) (HCE.out w3 HB3.out) (by omega)).mono ?_
        rw [(HSB.out 0 0 (by decide)).out]
        rintro e x3 ⟨y3, rfl, hx3, hy3⟩
        obtain ⟨_, _, _, _, _, _, rfl, -⟩ := id hx3.open
        have HY3 := hid (below_after HB3.out hy3 (Nat.le_refl _))
        clear hy3
        go_wp2_with fail
        refine (CellarL_any (upTo c 0) _ _ x3 (Nat.le_refl _) hx3 (upTo_small HSM.out _)).mono ?_
        rintro e z3 ⟨u3, rfl, hz3, hq3⟩
        obtain ⟨_, _, _, _, _, _, rfl, -⟩ := id hz3.open
        have HQ3 := hid (below_after HY3.out hq3 (Nat.le_refl _))
        clear hq3 hx3 j0 j1 j2
        go_wp2_with fail
        refine (bounds_code HA1.out (upTo_small HSM.out _) _ _ z3 (Nat.le_refl _) hz3).mono ?_
        rintro e t3 ⟨_, _, rfl, hb3t⟩
        have HT3 := hid (below_after HQ3.out hb3t (Nat.le_refl _))
        clear hb3t hz3
        have hs3t := HT3.out.size
        have j0 := cell_of_row (HBOX.out t3 HT3.out) 0
        have j1 := cell_of_row (HBOX.out t3 HT3.out) 1
        have j2 := cell_of_row (HBOX.out t3 HT3.out) 2
        simp only [List.getElem?_toArray, List.getElem?_cons_zero, List.getElem?_cons_succ] at j0 j1 j2
        go_wp2_with fail
        refine (some_any c _ 1 (by omega) w.heap.size t3 (by omega) (HCE.out t3 HT3.out) (by omega)).mono ?_
        rw [(HSB.out 1 1 (by decide)).out]
        rintro e x4 ⟨y4, rfl, hx4, hy4⟩
        obtain ⟨_, _, _, _, _, _, rfl, -⟩ := id hx4.open
        have HY4 := hid (below_after HT3.out hy4 (Nat.le_refl _))
        clear hy4
        go_wp2_with fail
        refine (CellarL_any (upTo c 1) _ _ x4 (Nat.le_refl _) hx4 (upTo_small HSM.out _)).mono ?_
        rintro e z4 ⟨u4, rfl, hz4, hq4⟩
        obtain ⟨_, _, _, _, _, _, rfl, -⟩ := id hz4.open
        have HQ4 := hid (below_after HY4.out hq4 (Nat.le_refl _))
        clear hq4 hx4 j0 j1 j2
        go_wp2_with fail
        refine (bounds_code HA2.out (upTo_small HSM.out _) _ _ z4 (Nat.le_refl _) hz4).mono ?_
        rintro e t4 ⟨_, _, rfl, hb4t⟩
        have HT4 := hid (below_after HQ4.out hb4t (Nat.le_refl _))
        clear hb4t hz4
        go_wp2_with (go_at_call 20; refine (awake_any _).mono ?_; rintro e w6 ⟨rfl, hb6⟩)
        go_ret
        exact ⟨rfl, hWb.trans ((below_after HT4.out hb6 (Nat.le_refl _)).mono (by omega))⟩
      · go_enter Try.func9, Try.ntmps9
        go_wp2_with fail
        rw [← hW]
        clear hW
        refine (ready_hid c HRB _ w.heap.size W (by omega) (HCE.out W (Below.refl _ _))).mono ?_
        rintro e w1 ⟨rfl, hb1⟩
        have j0 := cell_of_row (HBOX.out w1 hb1) 0
        have j1 := cell_of_row (HBOX.out w1 hb1) 1
        have j2 := cell_of_row (HBOX.out w1 hb1) 2
        simp only [List.getElem?_toArray, List.getElem?_cons_zero, List.getElem?_cons_succ] at j0 j1 j2
        have HB1 := hid hb1
        have hs1 := hb1.size
        clear hb1
        go_wp2_with fail
        refine (CellarL_any c _ w.heap.size w1 (by omega) (HCE.out w1 HB1.out) HSM.out).mono ?_
        rintro e w2 ⟨v2, rfl, hc2, hb2⟩
        obtain ⟨_, _, _, _, _, _, rfl, -⟩ := id hc2.open
        have HB2 := hid (below_after HB1.out hb2 (Nat.le_refl _))
        clear hb2 j0 j1 j2
        go_wp2_with fail
        refine (First_ok c _ _ w2 (Nat.le_refl _) hc2 HF.out).mono ?_
        rw [HFO.out]
        rintro e w3 ⟨rfl, hb3⟩
        simp only [firstN, firstE, Option.isSome_some, if_true]
        have HB3 := hid (below_after HB2.out hb3 (Nat.le_refl _))
        clear hb3 hc2
        have hs3 := HB3.out.size
        have j0 := cell_of_row (HBOX.out w3 HB3.out) 0
        have j1 := cell_of_row (HBOX.out w3 HB3.out) 1
        have j2 := cell_of_row (HBOX.out w3 HB3.out) 2
        simp only [List.getElem?_toArray, List.getElem?_cons_zero, List.getElem?_cons_succ] at j0 j1 j2
        go_wp2_with fail
        refine (inR_hid _ _ _ hwi _).mono ?_
        rintro e w3b ⟨rfl, rfl⟩
        go_wp2_with fail
        refine (some_any c _ 1 (by omega) w.heap.size w3 (by omega) (HCE.out w3 HB3.out) (by omega)).mono ?_
        rw [(HSB.out 1 1 (by decide)).out]
        rintro e x3 ⟨y3, rfl, hx3, hy3⟩
        obtain ⟨_, _, _, _, _, _, rfl, -⟩ := id hx3.open
        have HY3 := hid (below_after HB3.out hy3 (Nat.le_refl _))
        clear hy3
        go_wp2_with fail
        refine (CellarL_any (upTo c 1) _ _ x3 (Nat.le_refl _) hx3 (upTo_small HSM.out _)).mono ?_
        rintro e z3 ⟨u3, rfl, hz3, hq3⟩
        obtain ⟨_, _, _, _, _, _, rfl, -⟩ := id hz3.open
        have HQ3 := hid (below_after HY3.out hq3 (Nat.le_refl _))
        clear hq3 hx3 j0 j1 j2
        go_wp2_with fail
        refine (bounds_code HA1.out (upTo_small HSM.out _) _ _ z3 (Nat.le_refl _) hz3).mono ?_
        rintro e t3 ⟨_, _, rfl, hb3t⟩
        have HT3 := hid (below_after HQ3.out hb3t (Nat.le_refl _))
        clear hb3t hz3
        have hs3t := HT3.out.size
        have j0 := cell_of_row (HBOX.out t3 HT3.out) 0
        have j1 := cell_of_row (HBOX.out t3 HT3.out) 1
        have j2 := cell_of_row (HBOX.out t3 HT3.out) 2
        simp only [List.getElem?_toArray, List.getElem?_cons_zero, List.getElem?_cons_succ] at j0 j1 j2
        go_wp2_with fail
        refine (some_any c _ 3 (by omega) w.heap.size t3 (by omega) (HCE.out t3 HT3.out) (by omega)).mono ?_
        rw [(HSB.out 2 3 (by decide)).out]
        rintro e x4 ⟨y4, rfl, hx4, hy4⟩
        obtain ⟨_, _, _, _, _, _, rfl, -⟩ := id hx4.open
        have HY4 := hid (below_after HT3.out hy4 (Nat.le_refl _))
        clear hy4
        go_wp2_with fail
        refine (CellarL_any (upTo c 2) _ _ x4 (Nat.le_refl _) hx4 (upTo_small HSM.out _)).mono ?_
        rintro e z4 ⟨u4, rfl, hz4, hq4⟩
        obtain ⟨_, _, _, _, _, _, rfl, -⟩ := id hz4.open
        have HQ4 := hid (below_after HY4.out hq4 (Nat.le_refl _))
        clear hq4 hx4 j0 j1 j2
        go_wp2_with fail
        refine (bounds_code HA2.out (upTo_small HSM.out _) _ _ z4 (Nat.le_refl _) hz4).mono ?_
        rintro e t4 ⟨_, _, rfl, hb4t⟩
        have HT4 := hid (below_after HQ4.out hb4t (Nat.le_refl _))
        clear hb4t hz4
        go_wp2_with (go_at_call 20; refine (awake_any _).mono ?_; rintro e w6 ⟨rfl, hb6⟩)
        go_ret
        exact ⟨rfl, hWb.trans ((below_after HT4.out hb6 (Nat.le_refl _)).mono (by omega))⟩
      · go_enter Try.func9, Try.ntmps9
        go_wp2_with fail
        rw [← hW]
        clear hW
        refine (ready_hid c HRB _ w.heap.size W (by omega) (HCE.out W (Below.refl _ _))).mono ?_
        rintro e w1 ⟨rfl, hb1⟩
        have j0 := cell_of_row (HBOX.out w1 hb1) 0
        have j1 := cell_of_row (HBOX.out w1 hb1) 1
        have j2 := cell_of_row (HBOX.out w1 hb1) 2
        simp only [List.getElem?_toArray, List.getElem?_cons_zero, List.getElem?_cons_succ] at j0 j1 j2
        have HB1 := hid hb1
        have hs1 := hb1.size
        clear hb1
        go_wp2_with fail
        refine (CellarL_any c _ w.heap.size w1 (by omega) (HCE.out w1 HB1.out) HSM.out).mono ?_
        rintro e w2 ⟨v2, rfl, hc2, hb2⟩
        obtain ⟨_, _, _, _, _, _, rfl, -⟩ := id hc2.open
        have HB2 := hid (below_after HB1.out hb2 (Nat.le_refl _))
        clear hb2 j0 j1 j2
        go_wp2_with fail
        refine (First_ok c _ _ w2 (Nat.le_refl _) hc2 HF.out).mono ?_
        rw [HFO.out]
        rintro e w3 ⟨rfl, hb3⟩
        simp only [firstN, firstE, Option.isSome_some, if_true]
        have HB3 := hid (below_after HB2.out hb3 (Nat.le_refl _))
        clear hb3 hc2
        have hs3 := HB3.out.size
        have j0 := cell_of_row (HBOX.out w3 HB3.out) 0
        have j1 := cell_of_row (HBOX.out w3 HB3.out) 1
        have j2 := cell_of_row (HBOX.out w3 HB3.out) 2
        simp only [List.getElem?_toArray, List.getElem?_cons_zero, List.getElem?_cons_succ] at j0 j1 j2
        go_wp2_with fail
        refine (inR_hid _ _ _ hwi _).mono ?_
        rintro e w3b ⟨rfl, rfl⟩
        go_wp2_with fail
        refine (some_any c _ 3 (by omega) w.heap.size w3 (by omega) (HCE.out w3 HB3.out) (by omega)).mono ?_
        rw [(HSB.out 2 3 (by decide)).out]
        rintro e x3 ⟨y3, rfl, hx3, hy3⟩
        obtain ⟨_, _, _, _, _, _, rfl, -⟩ := id hx3.open
        have HY3 := hid (below_after HB3.out hy3 (Nat.le_refl _))
        clear hy3
        go_wp2_with fail
        refine (CellarL_any (upTo c 2) _ _ x3 (Nat.le_refl _) hx3 (upTo_small HSM.out _)).mono ?_
        rintro e z3 ⟨u3, rfl, hz3, hq3⟩
        obtain ⟨_, _, _, _, _, _, rfl, -⟩ := id hz3.open
        have HQ3 := hid (below_after HY3.out hq3 (Nat.le_refl _))
        clear hq3 hx3 j0 j1 j2
        go_wp2_with fail
        refine (bounds_code HA1.out (upTo_small HSM.out _) _ _ z3 (Nat.le_refl _) hz3).mono ?_
        rintro e t3 ⟨_, _, rfl, hb3t⟩
        have HT3 := hid (below_after HQ3.out hb3t (Nat.le_refl _))
        clear hb3t hz3
        have hs3t := HT3.out.size
        have j0 := cell_of_row (HBOX.out t3 HT3.out) 0
        have j1 := cell_of_row (HBOX.out t3 HT3.out) 1
        have j2 := cell_of_row (HBOX.out t3 HT3.out) 2
        simp only [List.getElem?_toArray, List.getElem?_cons_zero, List.getElem?_cons_succ] at j0 j1 j2
        go_wp2_with fail
        refine (some_any c _ 7 (by omega) w.heap.size t3 (by omega) (HCE.out t3 HT3.out) (by omega)).mono ?_
        rw [(HSB.out 3 7 (by decide)).out]
        rintro e x4 ⟨y4, rfl, hx4, hy4⟩
        obtain ⟨_, _, _, _, _, _, rfl, -⟩ := id hx4.open
        have HY4 := hid (below_after HT3.out hy4 (Nat.le_refl _))
        clear hy4
        go_wp2_with fail
        refine (CellarL_any (upTo c 3) _ _ x4 (Nat.le_refl _) hx4 (upTo_small HSM.out _)).mono ?_
        rintro e z4 ⟨u4, rfl, hz4, hq4⟩
        obtain ⟨_, _, _, _, _, _, rfl, -⟩ := id hz4.open
        have HQ4 := hid (below_after HY4.out hq4 (Nat.le_refl _))
        clear hq4 hx4 j0 j1 j2
        go_wp2_with fail
        refine (bounds_code HA2.out (upTo_small HSM.out _) _ _ z4 (Nat.le_refl _) hz4).mono ?_
        rintro e t4 ⟨_, _, rfl, hb4t⟩
        have HT4 := hid (below_after HQ4.out hb4t (Nat.le_refl _))
        clear hb4t hz4
        go_wp2_with (go_at_call 20; refine (awake_any _).mono ?_; rintro e w6 ⟨rfl, hb6⟩)
        go_ret
        exact ⟨rfl, hWb.trans ((below_after HT4.out hb6 (Nat.le_refl _)).mono (by omega))⟩
      · go_enter Try.func9, Try.ntmps9
        go_wp2_with fail
        rw [← hW]
        clear hW
        refine (ready_hid c HRB _ w.heap.size W (by omega) (HCE.out W (Below.refl _ _))).mono ?_
        rintro e w1 ⟨rfl, hb1⟩
        have j0 := cell_of_row (HBOX.out w1 hb1) 0
        have j1 := cell_of_row (HBOX.out w1 hb1) 1
        have j2 := cell_of_row (HBOX.out w1 hb1) 2
        simp only [List.getElem?_toArray, List.getElem?_cons_zero, List.getElem?_cons_succ] at j0 j1 j2
        have HB1 := hid hb1
        have hs1 := hb1.size
        clear hb1
        go_wp2_with fail
        refine (CellarL_any c _ w.heap.size w1 (by omega) (HCE.out w1 HB1.out) HSM.out).mono ?_
        rintro e w2 ⟨v2, rfl, hc2, hb2⟩
        obtain ⟨_, _, _, _, _, _, rfl, -⟩ := id hc2.open
        have HB2 := hid (below_after HB1.out hb2 (Nat.le_refl _))
        clear hb2 j0 j1 j2
        go_wp2_with fail
        refine (First_ok c _ _ w2 (Nat.le_refl _) hc2 HF.out).mono ?_
        rw [HFO.out]
        rintro e w3 ⟨rfl, hb3⟩
        simp only [firstN, firstE, Option.isSome_some, if_true]
        have HB3 := hid (below_after HB2.out hb3 (Nat.le_refl _))
        clear hb3 hc2
        have hs3 := HB3.out.size
        have j0 := cell_of_row (HBOX.out w3 HB3.out) 0
        have j1 := cell_of_row (HBOX.out w3 HB3.out) 1
        have j2 := cell_of_row (HBOX.out w3 HB3.out) 2
        simp only [List.getElem?_toArray, List.getElem?_cons_zero, List.getElem?_cons_succ] at j0 j1 j2
        go_wp2_with fail
        refine (inR_hid _ _ _ hwi _).mono ?_
        rintro e w3b ⟨rfl, rfl⟩
        go_wp2_with fail
        refine (some_any c _ 7 (by omega) w.heap.size w3 (by omega) (HCE.out w3 HB3.out) (by omega)).mono ?_
        rw [(HSB.out 3 7 (by decide)).out]
        rintro e x3 ⟨y3, rfl, hx3, hy3⟩
        obtain ⟨_, _, _, _, _, _, rfl, -⟩ := id hx3.open
        have HY3 := hid (below_after HB3.out hy3 (Nat.le_refl _))
        clear hy3
        go_wp2_with fail
        refine (CellarL_any (upTo c 3) _ _ x3 (Nat.le_refl _) hx3 (upTo_small HSM.out _)).mono ?_
        rintro e z3 ⟨u3, rfl, hz3, hq3⟩
        obtain ⟨_, _, _, _, _, _, rfl, -⟩ := id hz3.open
        have HQ3 := hid (below_after HY3.out hq3 (Nat.le_refl _))
        clear hq3 hx3 j0 j1 j2
        go_wp2_with fail
        refine (bounds_code HA1.out (upTo_small HSM.out _) _ _ z3 (Nat.le_refl _) hz3).mono ?_
        rintro e t3 ⟨_, _, rfl, hb3t⟩
        have HT3 := hid (below_after HQ3.out hb3t (Nat.le_refl _))
        clear hb3t hz3
        have hs3t := HT3.out.size
        have j0 := cell_of_row (HBOX.out t3 HT3.out) 0
        have j1 := cell_of_row (HBOX.out t3 HT3.out) 1
        have j2 := cell_of_row (HBOX.out t3 HT3.out) 2
        simp only [List.getElem?_toArray, List.getElem?_cons_zero, List.getElem?_cons_succ] at j0 j1 j2
        go_wp2_with fail
        refine (some_any c _ 15 (by omega) w.heap.size t3 (by omega) (HCE.out t3 HT3.out) (by omega)).mono ?_
        rw [(HSB.out 4 15 (by decide)).out]
        rintro e x4 ⟨y4, rfl, hx4, hy4⟩
        obtain ⟨_, _, _, _, _, _, rfl, -⟩ := id hx4.open
        have HY4 := hid (below_after HT3.out hy4 (Nat.le_refl _))
        clear hy4
        go_wp2_with fail
        refine (CellarL_any (upTo c 4) _ _ x4 (Nat.le_refl _) hx4 (upTo_small HSM.out _)).mono ?_
        rintro e z4 ⟨u4, rfl, hz4, hq4⟩
        obtain ⟨_, _, _, _, _, _, rfl, -⟩ := id hz4.open
        have HQ4 := hid (below_after HY4.out hq4 (Nat.le_refl _))
        clear hq4 hx4 j0 j1 j2
        go_wp2_with fail
        refine (bounds_code HA2.out (upTo_small HSM.out _) _ _ z4 (Nat.le_refl _) hz4).mono ?_
        rintro e t4 ⟨_, _, rfl, hb4t⟩
        have HT4 := hid (below_after HQ4.out hb4t (Nat.le_refl _))
        clear hb4t hz4
        go_wp2_with (go_at_call 20; refine (awake_any _).mono ?_; rintro e w6 ⟨rfl, hb6⟩)
        go_ret
        exact ⟨rfl, hWb.trans ((below_after HT4.out hb6 (Nat.le_refl _)).mono (by omega))⟩
      · go_enter Try.func9, Try.ntmps9
        go_wp2_with fail
        rw [← hW]
        clear hW
        refine (ready_hid c HRB _ w.heap.size W (by omega) (HCE.out W (Below.refl _ _))).mono ?_
        rintro e w1 ⟨rfl, hb1⟩
        have j0 := cell_of_row (HBOX.out w1 hb1) 0
        have j1 := cell_of_row (HBOX.out w1 hb1) 1
        have j2 := cell_of_row (HBOX.out w1 hb1) 2
        simp only [List.getElem?_toArray, List.getElem?_cons_zero, List.getElem?_cons_succ] at j0 j1 j2
        have HB1 := hid hb1
        have hs1 := hb1.size
        clear hb1
        go_wp2_with fail
        refine (CellarL_any c _ w.heap.size w1 (by omega) (HCE.out w1 HB1.out) HSM.out).mono ?_
        rintro e w2 ⟨v2, rfl, hc2, hb2⟩
        obtain ⟨_, _, _, _, _, _, rfl, -⟩ := id hc2.open
        have HB2 := hid (below_after HB1.out hb2 (Nat.le_refl _))
        clear hb2 j0 j1 j2
        go_wp2_with fail
        refine (First_ok c _ _ w2 (Nat.le_refl _) hc2 HF.out).mono ?_
        rw [HFO.out]
        rintro e w3 ⟨rfl, hb3⟩
        simp only [firstN, firstE, Option.isSome_some, if_true]
        have HB3 := hid (below_after HB2.out hb3 (Nat.le_refl _))
        clear hb3 hc2
        have hs3 := HB3.out.size
        have j0 := cell_of_row (HBOX.out w3 HB3.out) 0
        have j1 := cell_of_row (HBOX.out w3 HB3.out) 1
        have j2 := cell_of_row (HBOX.out w3 HB3.out) 2
        simp only [List.getElem?_toArray, List.getElem?_cons_zero, List.getElem?_cons_succ] at j0 j1 j2
        go_wp2_with fail
        refine (inR_hid _ _ _ hwi _).mono ?_
        rintro e w3b ⟨rfl, rfl⟩
        go_wp2_with fail
        refine (some_any c _ 15 (by omega) w.heap.size w3 (by omega) (HCE.out w3 HB3.out) (by omega)).mono ?_
        rw [(HSB.out 4 15 (by decide)).out]
        rintro e x3 ⟨y3, rfl, hx3, hy3⟩
        obtain ⟨_, _, _, _, _, _, rfl, -⟩ := id hx3.open
        have HY3 := hid (below_after HB3.out hy3 (Nat.le_refl _))
        clear hy3
        go_wp2_with fail
        refine (CellarL_any (upTo c 4) _ _ x3 (Nat.le_refl _) hx3 (upTo_small HSM.out _)).mono ?_
        rintro e z3 ⟨u3, rfl, hz3, hq3⟩
        obtain ⟨_, _, _, _, _, _, rfl, -⟩ := id hz3.open
        have HQ3 := hid (below_after HY3.out hq3 (Nat.le_refl _))
        clear hq3 hx3 j0 j1 j2
        go_wp2_with fail
        refine (bounds_code HA1.out (upTo_small HSM.out _) _ _ z3 (Nat.le_refl _) hz3).mono ?_
        rintro e t3 ⟨_, _, rfl, hb3t⟩
        have HT3 := hid (below_after HQ3.out hb3t (Nat.le_refl _))
        clear hb3t hz3
        have hs3t := HT3.out.size
        have j0 := cell_of_row (HBOX.out t3 HT3.out) 0
        have j1 := cell_of_row (HBOX.out t3 HT3.out) 1
        have j2 := cell_of_row (HBOX.out t3 HT3.out) 2
        simp only [List.getElem?_toArray, List.getElem?_cons_zero, List.getElem?_cons_succ] at j0 j1 j2
        go_wp2_with fail
        refine (some_any c _ 31 (by omega) w.heap.size t3 (by omega) (HCE.out t3 HT3.out) (by omega)).mono ?_
        rw [(HSB.out 5 31 (by decide)).out]
        rintro e x4 ⟨y4, rfl, hx4, hy4⟩
        obtain ⟨_, _, _, _, _, _, rfl, -⟩ := id hx4.open
        have HY4 := hid (below_after HT3.out hy4 (Nat.le_refl _))
        clear hy4
        go_wp2_with fail
        refine (CellarL_any (upTo c 5) _ _ x4 (Nat.le_refl _) hx4 (upTo_small HSM.out _)).mono ?_
        rintro e z4 ⟨u4, rfl, hz4, hq4⟩
        obtain ⟨_, _, _, _, _, _, rfl, -⟩ := id hz4.open
        have HQ4 := hid (below_after HY4.out hq4 (Nat.le_refl _))
        clear hq4 hx4 j0 j1 j2
        go_wp2_with fail
        refine (bounds_code HA2.out (upTo_small HSM.out _) _ _ z4 (Nat.le_refl _) hz4).mono ?_
        rintro e t4 ⟨_, _, rfl, hb4t⟩
        have HT4 := hid (below_after HQ4.out hb4t (Nat.le_refl _))
        clear hb4t hz4
        go_wp2_with (go_at_call 20; refine (awake_any _).mono ?_; rintro e w6 ⟨rfl, hb6⟩)
        go_ret
        exact ⟨rfl, hWb.trans ((below_after HT4.out hb6 (Nat.le_refl _)).mono (by omega))⟩
end Go.Proofs.Ytjddcaimjofihaa
