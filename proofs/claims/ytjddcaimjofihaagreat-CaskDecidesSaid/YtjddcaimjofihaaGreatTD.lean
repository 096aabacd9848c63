/- Contracts of the reference's Decides and of the statements' IsThings; no condition. -/
import Derived.Test.YtjddcaimjofihaaGreatT3
import Derived.Test.YtjddcaimjofihaaGreatP3
namespace Go.Proofs.YtjddcaimjofihaaGreat
open Go.RowKit Go.Shelf
set_option maxRecDepth 100000

/-- Whether two truths differ in the grade of some of the first casks. -/
def diffN (c : Ce) (g : Int) (s u : List Int) (j : Nat) : Bool := (c.casks.take j).any fun k => (decide (g ≤ mean s k)) != (decide (g ≤ mean u k))
theorem diffN_succ (c : Ce) (g : Int) (s u : List Int) (j : Nat) (h : j < c.casks.length) : diffN c g s u (j + 1) = (diffN c g s u j || ((decide (g ≤ mean s c.casks[j])) != (decide (g ≤ mean u c.casks[j])))) := by
  simp only [diffN, List.take_succ_eq_append_getElem h, List.any_append, List.any_cons, List.any_nil, Bool.or_false]
/-- Whether they agree in those of the first things that are among some, by bits. -/
def agreeN (c : Ce) (m : Nat) (s u : List Int) (t : Nat) : Bool := (List.range t).all fun i : Nat => !m.testBit i || ofT c s i == ofT c u i
theorem agreeN_succ (c : Ce) (m : Nat) (s u : List Int) (t : Nat) : agreeN c m s u (t + 1) = (agreeN c m s u t && (!m.testBit t || ofT c s t == ofT c u t)) := by
  simp [agreeN, List.range_succ, List.all_append]
theorem agreeN_mono (c : Ce) (m : Nat) (s u : List Int) {t N : Nat} (h : t ≤ N) (he : agreeN c m s u t = false) : agreeN c m s u N = false := by
  induction N with
  | zero => obtain rfl : t = 0 := by omega
            exact he
  | succ N ih =>
    by_cases e : t = N + 1
    · subst e; exact he
    · rw [agreeN_succ, ih (by omega)]; rfl
def otherB (c : Ce) (g : Int) (m : Nat) (s u : List Int) : Bool := diffN c g s u c.casks.length && agreeN c m s u (c.heaps.length + c.casks.length)
/-- No two of the truths that come ahead of a pair are told apart. -/
def PairsTo (c : Ce) (L : List (List Int)) (g : Int) (m : Nat) (i k : Nat) : Prop := ∀ (p q : Nat) (hp : p < L.length) (hq : q < L.length), q < p → (p < i ∨ (p = i ∧ q < k)) → otherB c g m L[p] L[q] = false
theorem PairsTo.next {c : Ce} {L : List (List Int)} {g : Int} {m i k : Nat} (h : PairsTo c L g m i k) (hn : ∀ (hi : i < L.length) (hk : k < L.length), otherB c g m L[i] L[k] = false) : PairsTo c L g m i (k + 1) := fun p q hp hq h1 h2 => by
  by_cases e : p = i ∧ q = k
  · obtain ⟨rfl, rfl⟩ := e; exact hn hp hq
  · exact h p q hp hq h1 (by omega)
theorem PairsTo.row {c : Ce} {L : List (List Int)} {g : Int} {m i k : Nat} (h : PairsTo c L g m i k) (hk : i ≤ k) : PairsTo c L g m (i + 1) 0 := fun p q hp hq h1 h2 => h p q hp hq h1 (by omega)

theorem things_hidD {N : Nat} (c : Ce) (HN : Hid (N = c.heaps.length + c.casks.length)) (h3 : c.heaps.length ≤ 1000) (h4 : c.casks.length ≤ 1000) (v : Value) (n : Nat) (w : World) (h : CeV (Lt n) w v c) :
    Calls Tryz.prog 39 #[v] w fun e w' => e = .returned (.int .i64 N) ∧ Below w.heap.size w w' := by
  have := things_any c h3 h4 v n w h
  rwa [← Int.natCast_add, ← HN.out] at this

set_option maxHeartbeats 16000000 in
theorem decidesRf_any {b : Bool} (c : Ce) (hg : Good c) (L : List (List Int)) (hfit : ∀ l ∈ L, Fit c l) (hLl : L.length ≤ 100000) (g : Int) (m : Nat) (hm : m < 1024)
    (Hb0 : ∀ (i k : Nat) (hi : i < L.length) (hk : k < L.length), k < i → otherB c g m L[i] L[k] = true → b = false) (Hb1 : PairsTo c L g m L.length 0 → b = true)
    (v vl : Value) (n : Nat) (w : World) (hn : n ≤ w.heap.size) (h : CeV (Lt n) w v c) (hl : Lss (Lt n) w vl L) :
    Calls Tryz.prog 14 #[v, vl, .int .i64 g, .int .i64 m] w fun e w' => e = .returned (.bool b) ∧ Below w.heap.size w w' := by
  obtain ⟨la, lc, rfl, -, hlo⟩ := hl.open
  have h' := h
  obtain ⟨ha, hc, ka, kc, ta, tc, rfl, hp1, hp2, hp3⟩ := h.open
  have HOP := hid (And.intro hp1 (And.intro hp2 hp3))
  clear hp1 hp2 hp3
  obtain ⟨W, hW⟩ : ∃ W, W = w.alloc (Obj.cells #[.slice ha c.heaps.length hc, .slice ka c.casks.length kc, .slice ta c.trials.length tc] 26) := ⟨_, rfl⟩
  have hWs : W.heap.size = w.heap.size + 1 := by rw [hW]; simp
  have hWb : Below w.heap.size w W := by rw [hW]; exact below_alloc1 (Nat.le_refl _) _
  have hWr : W.heap[w.heap.size]? = some (.cells #[.slice ha c.heaps.length hc, .slice ka c.casks.length kc, .slice ta c.trials.length tc] 26 (0, 0)) := by rw [hW]; exact heap_new _ _
  have HBOX := hid (fun w1 (hb : Below W.heap.size W w1) => (hb.block w.heap.size (by omega)).trans hWr : ∀ w1, Below W.heap.size W w1 → w1.heap[w.heap.size]? = _)
  have HCE := hid (fun w1 (hb : Below W.heap.size W w1) => h'.below (hWb.trans (hb.mono (by omega)) |>.mono hn) : ∀ w1, Below W.heap.size W w1 → CeV (Lt _) w1 _ c)
  clear hWr h' h
  obtain ⟨⟨g1, g2, g3, -⟩, -, g6, -⟩ := hg.facts
  have H2 := HOP.out.2.1
  obtain ⟨_, _, he, -, hko⟩ := H2.open
  cases he
  have HKO := hid hko
  have HLO := hid hlo
  have HFIT := hid hfit
  have HGD := hid hg
  have HG6 := hid g6
  have HB0 := hid Hb0
  have HBO1 := hid Hb1
  obtain ⟨N, hN⟩ : ∃ N, N = c.heaps.length + c.casks.length := ⟨_, rfl⟩
  have HN := hid hN
  have hN6 : N ≤ 6 := by omega
  have HBIT := hid (show ∀ k : Nat, ((m : Int) / 2 ^ k % 2 == 0) = !m.testBit k from fun k => by
    rw [Nat.testBit_eq_decide_div_mod_eq, show ((2 : Int) ^ k) = ((2 ^ k : Nat) : Int) by simp, ← Int.natCast_ediv]
    rw [Bool.eq_iff_iff, beq_iff_eq, Bool.not_eq_true', decide_eq_false_iff_not]
    omega)
  clear hl hlo hfit hg g6 Hb0 Hb1 H2 hko HOP hN
  go_enter Tryz.func14, Tryz.ntmps14
  go_wp2
  rw [← hW]
  clear hW
  go_loopw [9] (fun i wr => ∃ p : Nat, p ≤ L.length ∧ i = .int .i64 p ∧ Hid (PairsTo c L g m p 0) ∧ Below W.heap.size W wr) (fun i _ => L.length - (intOf i).toNat)
  case atStart => exact ⟨0, by omega, rfl, hid (fun p q hp hq h1 h2 => by omega), Below.refl _ _⟩
  case round =>
    obtain ⟨p, hp1, rfl, HIP, hb3⟩ := hrel
    have HX3 := hid hb3
    have hs3 := hb3.size
    clear hb3
    by_cases hlt : p < L.length
    · rcases HLO.out with hnil | ⟨bl, offl, rfl, hbl, hcl⟩
      · rw [hnil] at hlt; simp at hlt
      have hbl' : bl < n := hbl
      have HCL := hid hcl
      obtain ⟨x1, y1, hx1⟩ := hcl p hlt
      have HFP := hid (HFIT.out L[p] (List.getElem_mem _))
      have HNXP := hid (fun (q : Nat) (h : PairsTo c L g m p q) (hn : ∀ (hk : q < L.length), otherB c g m L[p] L[q] = false) => (h.next fun _ hk => hn hk : PairsTo c L g m p (q + 1)))
      have HBAD := hid (fun (q : Nat) (hk : q < L.length) (hq : q < p) (h : otherB c g m L[p] L[q] = true) => (HB0.out p q hlt hk hq h : b = false))
      clear hcl
      generalize L[p] = s at *
      obtain ⟨sa, sc, rfl, -, -⟩ := id hx1.open1
      have HY1 := hid y1
      have HX1 := hid hx1
      clear y1 hx1
      obtain ⟨w3, hw3⟩ : ∃ w3, w3 = wr := ⟨_, rfl⟩
      go_wp2
      rw [← hw3]
      rw [← hw3] at HX3 hs3
      clear hw3
      go_loopw [10] (fun i wr => ∃ q : Nat, q ≤ p ∧ i = .int .i64 q ∧ Hid (PairsTo c L g m p q) ∧ Below w3.heap.size w3 wr) (fun i _ => p - (intOf i).toNat)
      case atStart => exact ⟨0, by omega, rfl, HIP, Below.refl _ _⟩
      case round =>
        obtain ⟨q, hq1, rfl, HIQ, hb4⟩ := hrel
        have HX4 := hid (HX3.out.trans (hb4.mono hs3))
        have HL4 := hid hb4
        have hs4 := HX4.out.size
        have hs43 := hb4.size
        clear hb4
        by_cases hlt2 : q < p
        · have hqL : q < L.length := by omega
          obtain ⟨x2, y2, hx2⟩ := HCL.out q hqL
          have HFQ := hid (HFIT.out L[q] (List.getElem_mem _))
          have HNXQ := hid (fun (hn : otherB c g m s L[q] = false) => HNXP.out q HIQ.out (fun _ => hn))
          have HBADQ := hid (fun (h : otherB c g m s L[q] = true) => HBAD.out q hqL hlt2 h)
          generalize L[q] = u at *
          obtain ⟨ua, uc, rfl, -, -⟩ := id hx2.open1
          have HY2 := hid y2
          have HX2 := hid hx2
          clear y2 hx2
          obtain ⟨w4, hw4⟩ : ∃ w4, w4 = wr := ⟨_, rfl⟩
          go_wp2
          rw [← hw4]
          rw [← hw4] at HX4 HL4 hs4 hs43
          clear hw4
          go_loopw [11, 12] (fun o i wr => ∃ j : Nat, j ≤ c.casks.length ∧ i = .int .i64 j ∧ o = .bool (diffN c g s u j) ∧ Below w4.heap.size w4 wr) (fun _ i _ => c.casks.length - (intOf i).toNat)
          case atStart => exact ⟨0, by omega, rfl, by simp [diffN], Below.refl _ _⟩
          case round =>
            obtain ⟨j, hj1, rfl, rfl, hb5⟩ := hrel
            have HX5 := hid (HX4.out.trans (hb5.mono hs4))
            have HL5 := hid hb5
            have hs5 := HX5.out.size
            have hs54 := hb5.size
            clear hb5
            have j0 := cell_of_row (HBOX.out wr HX5.out) 0
            have j1 := cell_of_row (HBOX.out wr HX5.out) 1
            have j2 := cell_of_row (HBOX.out wr HX5.out) 2
            simp only [List.getElem?_toArray, List.getElem?_cons_zero, List.getElem?_cons_succ] at j0 j1 j2
            by_cases hlt3 : j < c.casks.length
            · rcases HKO.out with hnil | ⟨bk, offk, rfl, hbk, hck⟩
              · rw [hnil] at hlt3; simp at hlt3
              have hbk' : bk < n := hbk
              obtain ⟨x3, y3, hx3⟩ := hck j hlt3
              obtain ⟨q1, q2, q3⟩ := HG6.out c.casks[j] (List.getElem_mem _)
              have HSU := hid (diffN_succ c g s u j hlt3)
              clear hck
              generalize c.casks[j] = ws at *
              obtain ⟨ka2, kc2, rfl, -, -⟩ := id hx3.open1
              have HQ := hid (And.intro q1 (And.intro q2 q3))
              clear q1 q2 q3
              obtain ⟨ob, hob⟩ : ∃ ob, ob = diffN c g s u j := ⟨_, rfl⟩
              rw [← hob] at HSU
              rw [← hob]
              clear hob
              have HAL := hid (hWb.trans (HX5.out.mono (by omega)))
              have z1 := (HAL.out.cell (p := ⟨bl, offl + p, none⟩) (by show bl < _; omega)).trans HY1.out
              have z2 := (HAL.out.cell (p := ⟨bl, offl + q, none⟩) (by show bl < _; omega)).trans HY2.out
              have z3 := (HAL.out.cell (p := ⟨bk, offk + j, none⟩) (by show bk < _; omega)).trans y3
              have HK3 := hid (hx3.below (HAL.out.mono hn))
              have HS3 := hid (HX1.out.below (HAL.out.mono hn))
              have HU3 := hid (HX2.out.below (HAL.out.mono hn))
              obtain ⟨z, hz⟩ : ∃ z, z = mean s ws := ⟨_, rfl⟩
              obtain ⟨z', hz'⟩ : ∃ z, z = mean u ws := ⟨_, rfl⟩
              have HZ := hid hz
              have HZ' := hid hz'
              rw [← hz, ← hz'] at HSU
              clear hz hz' hx3 y3
              have hSS := hid (fun w' (h : Below wr.heap.size wr w') => ⟨(h.cell (p := ⟨w.heap.size, 1, none⟩) (by show w.heap.size < _; omega)).trans j1, (h.cell (p := ⟨bl, offl + p, none⟩) (by show bl < _; omega)).trans z1, (h.cell (p := ⟨bl, offl + q, none⟩) (by show bl < _; omega)).trans z2, (h.cell (p := ⟨bk, offk + j, none⟩) (by show bk < _; omega)).trans z3⟩ :
                ∀ w', Below wr.heap.size wr w' → w'.cell? ⟨w.heap.size, 1, none⟩ = some (.slice (some ⟨bk, offk, none⟩) c.casks.length kc) ∧ w'.cell? ⟨bl, offl + p, none⟩ = some (.slice sa s.length sc) ∧ w'.cell? ⟨bl, offl + q, none⟩ = some (.slice ua u.length uc) ∧ w'.cell? ⟨bk, offk + j, none⟩ = some (.slice ka2 ws.length kc2))
              go_wp2
              refine wp_region_grow (by kernel_rfl) 99 (fun w' => Below wr.heap.size wr w') ?_ ?_
              · exact (Below.refl _ _).drew
              have HG := fun (a b : World) (h : Below wr.heap.size wr a) (k : Below a.heap.size a b) => (h.trans (k.mono h.size) : Below wr.heap.size wr b)
              clear z1 z2 z3 j0 j1 j2
              refine wpG_take (i := 0) (v := .bool ob) rfl rfl (by kernel_rfl) (by kernel_rfl) (by kernel_rfl) (by kernel_rfl) (fun _ _ _ h => h) (by rfl) (fun w' hS' => grow_value ?_ hS') ?_
              · go_simp
              try simp only [List.setIfInBounds_toArray, List.set_cons_zero, List.set_cons_succ]
              refine wpG_take (i := 1) (v := .bool ob) rfl rfl (by kernel_rfl) (by kernel_rfl) (by kernel_rfl) (by kernel_rfl) (fun _ _ _ h => h) (by rfl) (fun w' hS' => grow_value ?_ hS') ?_
              · go_simp
              try simp only [List.setIfInBounds_toArray, List.set_cons_zero, List.set_cons_succ]
              cases ob with
              | true =>
                refine wpG_skip (i := 2) rfl rfl (by kernel_rfl) (by kernel_rfl) (by kernel_rfl) (by kernel_rfl) (fun _ _ _ h => h) (by rfl) ?_
                try simp only [List.setIfInBounds_toArray, List.set_cons_zero, List.set_cons_succ]
                refine wpG_skip (i := 3) rfl rfl (by kernel_rfl) (by kernel_rfl) (by kernel_rfl) (by kernel_rfl) (fun _ _ _ h => h) (by rfl) ?_
                try simp only [List.setIfInBounds_toArray, List.set_cons_zero, List.set_cons_succ]
                refine wpG_skip (i := 4) rfl rfl (by kernel_rfl) (by kernel_rfl) (by kernel_rfl) (by kernel_rfl) (fun _ _ _ h => h) (by rfl) ?_
                try simp only [List.setIfInBounds_toArray, List.set_cons_zero, List.set_cons_succ]
                refine wpG_skip (i := 5) rfl rfl (by kernel_rfl) (by kernel_rfl) (by kernel_rfl) (by kernel_rfl) (fun _ _ _ h => h) (by rfl) ?_
                try simp only [List.setIfInBounds_toArray, List.set_cons_zero, List.set_cons_succ]
                refine wpG_skip (i := 6) rfl rfl (by kernel_rfl) (by kernel_rfl) (by kernel_rfl) (by kernel_rfl) (fun _ _ _ h => h) (by rfl) ?_
                try simp only [List.setIfInBounds_toArray, List.set_cons_zero, List.set_cons_succ]
                refine wpG_skip (i := 7) rfl rfl (by kernel_rfl) (by kernel_rfl) (by kernel_rfl) (by kernel_rfl) (fun _ _ _ h => h) (by rfl) ?_
                try simp only [List.setIfInBounds_toArray, List.set_cons_zero, List.set_cons_succ]
                refine wpG_skip (i := 8) rfl rfl (by kernel_rfl) (by kernel_rfl) (by kernel_rfl) (by kernel_rfl) (fun _ _ _ h => h) (by rfl) ?_
                try simp only [List.setIfInBounds_toArray, List.set_cons_zero, List.set_cons_succ]
                refine wpG_skip (i := 9) rfl rfl (by kernel_rfl) (by kernel_rfl) (by kernel_rfl) (by kernel_rfl) (fun _ _ _ h => h) (by rfl) ?_
                try simp only [List.setIfInBounds_toArray, List.set_cons_zero, List.set_cons_succ]
                refine wpG_skip (i := 10) rfl rfl (by kernel_rfl) (by kernel_rfl) (by kernel_rfl) (by kernel_rfl) (fun _ _ _ h => h) (by rfl) ?_
                try simp only [List.setIfInBounds_toArray, List.set_cons_zero, List.set_cons_succ]
                refine wpG_skip (i := 11) rfl rfl (by kernel_rfl) (by kernel_rfl) (by kernel_rfl) (by kernel_rfl) (fun _ _ _ h => h) (by rfl) ?_
                try simp only [List.setIfInBounds_toArray, List.set_cons_zero, List.set_cons_succ]
                refine wpG_skip (i := 12) rfl rfl (by kernel_rfl) (by kernel_rfl) (by kernel_rfl) (by kernel_rfl) (fun _ _ _ h => h) (by rfl) ?_
                try simp only [List.setIfInBounds_toArray, List.set_cons_zero, List.set_cons_succ]
                refine wpG_skip (i := 13) rfl rfl (by kernel_rfl) (by kernel_rfl) (by kernel_rfl) (by kernel_rfl) (fun _ _ _ h => h) (by rfl) ?_
                try simp only [List.setIfInBounds_toArray, List.set_cons_zero, List.set_cons_succ]
                refine wpG_skip (i := 14) rfl rfl (by kernel_rfl) (by kernel_rfl) (by kernel_rfl) (by kernel_rfl) (fun _ _ _ h => h) (by rfl) ?_
                try simp only [List.setIfInBounds_toArray, List.set_cons_zero, List.set_cons_succ]
                refine wpG_skip (i := 15) rfl rfl (by kernel_rfl) (by kernel_rfl) (by kernel_rfl) (by kernel_rfl) (fun _ _ _ h => h) (by rfl) ?_
                try simp only [List.setIfInBounds_toArray, List.set_cons_zero, List.set_cons_succ]
                refine wpG_skip (i := 16) rfl rfl (by kernel_rfl) (by kernel_rfl) (by kernel_rfl) (by kernel_rfl) (fun _ _ _ h => h) (by rfl) ?_
                try simp only [List.setIfInBounds_toArray, List.set_cons_zero, List.set_cons_succ]
                refine wpG_skip (i := 17) rfl rfl (by kernel_rfl) (by kernel_rfl) (by kernel_rfl) (by kernel_rfl) (fun _ _ _ h => h) (by rfl) ?_
                try simp only [List.setIfInBounds_toArray, List.set_cons_zero, List.set_cons_succ]
                refine wpG_skip (i := 18) rfl rfl (by kernel_rfl) (by kernel_rfl) (by kernel_rfl) (by kernel_rfl) (fun _ _ _ h => h) (by rfl) ?_
                try simp only [List.setIfInBounds_toArray, List.set_cons_zero, List.set_cons_succ]
                refine wpG_skip (i := 19) rfl rfl (by kernel_rfl) (by kernel_rfl) (by kernel_rfl) (by kernel_rfl) (fun _ _ _ h => h) (by rfl) ?_
                try simp only [List.setIfInBounds_toArray, List.set_cons_zero, List.set_cons_succ]
                refine wpG_skip (i := 20) rfl rfl (by kernel_rfl) (by kernel_rfl) (by kernel_rfl) (by kernel_rfl) (fun _ _ _ h => h) (by rfl) ?_
                try simp only [List.setIfInBounds_toArray, List.set_cons_zero, List.set_cons_succ]
                refine wpG_skip (i := 21) rfl rfl (by kernel_rfl) (by kernel_rfl) (by kernel_rfl) (by kernel_rfl) (fun _ _ _ h => h) (by rfl) ?_
                try simp only [List.setIfInBounds_toArray, List.set_cons_zero, List.set_cons_succ]
                refine wpG_skip (i := 22) rfl rfl (by kernel_rfl) (by kernel_rfl) (by kernel_rfl) (by kernel_rfl) (fun _ _ _ h => h) (by rfl) ?_
                try simp only [List.setIfInBounds_toArray, List.set_cons_zero, List.set_cons_succ]
                refine wpG_skip (i := 23) rfl rfl (by kernel_rfl) (by kernel_rfl) (by kernel_rfl) (by kernel_rfl) (fun _ _ _ h => h) (by rfl) ?_
                try simp only [List.setIfInBounds_toArray, List.set_cons_zero, List.set_cons_succ]
                refine wpG_skip (i := 24) rfl rfl (by kernel_rfl) (by kernel_rfl) (by kernel_rfl) (by kernel_rfl) (fun _ _ _ h => h) (by rfl) ?_
                try simp only [List.setIfInBounds_toArray, List.set_cons_zero, List.set_cons_succ]
                refine wpG_skip (i := 25) rfl rfl (by kernel_rfl) (by kernel_rfl) (by kernel_rfl) (by kernel_rfl) (fun _ _ _ h => h) (by rfl) ?_
                try simp only [List.setIfInBounds_toArray, List.set_cons_zero, List.set_cons_succ]
                refine wpG_skip (i := 26) rfl rfl (by kernel_rfl) (by kernel_rfl) (by kernel_rfl) (by kernel_rfl) (fun _ _ _ h => h) (by rfl) ?_
                try simp only [List.setIfInBounds_toArray, List.set_cons_zero, List.set_cons_succ]
                refine wpG_take (i := 27) (v := .bool true) rfl rfl (by kernel_rfl) (by kernel_rfl) (by kernel_rfl) (by kernel_rfl) (fun _ _ _ h => h) (by rfl) (fun w' hS' => grow_value ?_ hS') ?_
                · go_simp
                try simp only [List.setIfInBounds_toArray, List.set_cons_zero, List.set_cons_succ]
                refine wpG_take (i := 28) (v := .bool true) rfl rfl (by kernel_rfl) (by kernel_rfl) (by kernel_rfl) (by kernel_rfl) (fun _ _ _ h => h) (by rfl) (fun w' hS' => grow_value ?_ hS') ?_
                · go_simp
                try simp only [List.setIfInBounds_toArray, List.set_cons_zero, List.set_cons_succ]
                refine wpG_done (by kernel_rfl) (fun w5 hq hbx => ?_) _
                have HE5 := hid (HL5.out.trans (hbx.mono hs54))
                clear hSS HG hq hbx
                go_wp2
                go_roundw
                case rel => exact ⟨j + 1, by omega, by go_num, by rw [HSU.out, Bool.true_or], HE5.out⟩
                case measure => simp [intOf]; omega
              | false =>
                refine wpG_take (i := 2) (v := .slice (some ⟨bl, offl, none⟩) L.length lc) rfl rfl (by kernel_rfl) (by kernel_rfl) (by kernel_rfl) (by kernel_rfl) (fun _ _ _ h => h) (by rfl) (fun w' hS' => grow_value ?_ hS') ?_
                · go_simp
                try simp only [List.setIfInBounds_toArray, List.set_cons_zero, List.set_cons_succ]
                refine wpG_take (i := 3) (v := .int .i64 p) rfl rfl (by kernel_rfl) (by kernel_rfl) (by kernel_rfl) (by kernel_rfl) (fun _ _ _ h => h) (by rfl) (fun w' hS' => grow_value ?_ hS') ?_
                · go_simp
                try simp only [List.setIfInBounds_toArray, List.set_cons_zero, List.set_cons_succ]
                refine wpG_take (i := 4) (v := .pointer (some ⟨bl, offl + p, none⟩)) rfl rfl (by kernel_rfl) (by kernel_rfl) (by kernel_rfl) (by kernel_rfl) (fun _ _ _ h => h) (by rfl) (fun w' hS' => grow_value ?_ hS') ?_
                · go_simp
                try simp only [List.setIfInBounds_toArray, List.set_cons_zero, List.set_cons_succ]
                refine wpG_take (i := 5) (v := .slice sa s.length sc) rfl rfl (by kernel_rfl) (by kernel_rfl) (by kernel_rfl) (by kernel_rfl) (fun _ _ _ h => h) (by rfl) (fun w' hS' => grow_value ?_ hS') ?_
                · have ⟨s0, s1, s2, s3⟩ := hSS.out _ hS'; go_simp
                try simp only [List.setIfInBounds_toArray, List.set_cons_zero, List.set_cons_succ]
                refine wpG_take (i := 6) (v := .pointer (some ⟨w.heap.size, 1, none⟩)) rfl rfl (by kernel_rfl) (by kernel_rfl) (by kernel_rfl) (by kernel_rfl) (fun _ _ _ h => h) (by rfl) (fun w' hS' => grow_value ?_ hS') ?_
                · go_simp
                try simp only [List.setIfInBounds_toArray, List.set_cons_zero, List.set_cons_succ]
                refine wpG_take (i := 7) (v := .slice (some ⟨bk, offk, none⟩) c.casks.length kc) rfl rfl (by kernel_rfl) (by kernel_rfl) (by kernel_rfl) (by kernel_rfl) (fun _ _ _ h => h) (by rfl) (fun w' hS' => grow_value ?_ hS') ?_
                · have ⟨s0, s1, s2, s3⟩ := hSS.out _ hS'; go_simp
                try simp only [List.setIfInBounds_toArray, List.set_cons_zero, List.set_cons_succ]
                refine wpG_take (i := 8) (v := .int .i64 j) rfl rfl (by kernel_rfl) (by kernel_rfl) (by kernel_rfl) (by kernel_rfl) (fun _ _ _ h => h) (by rfl) (fun w' hS' => grow_value ?_ hS') ?_
                · go_simp
                try simp only [List.setIfInBounds_toArray, List.set_cons_zero, List.set_cons_succ]
                refine wpG_take (i := 9) (v := .pointer (some ⟨bk, offk + j, none⟩)) rfl rfl (by kernel_rfl) (by kernel_rfl) (by kernel_rfl) (by kernel_rfl) (fun _ _ _ h => h) (by rfl) (fun w' hS' => grow_value ?_ hS') ?_
                · go_simp
                try simp only [List.setIfInBounds_toArray, List.set_cons_zero, List.set_cons_succ]
                refine wpG_take (i := 10) (v := .slice ka2 ws.length kc2) rfl rfl (by kernel_rfl) (by kernel_rfl) (by kernel_rfl) (by kernel_rfl) (fun _ _ _ h => h) (by rfl) (fun w' hS' => grow_value ?_ hS') ?_
                · have ⟨s0, s1, s2, s3⟩ := hSS.out _ hS'; go_simp
                try simp only [List.setIfInBounds_toArray, List.set_cons_zero, List.set_cons_succ]
                refine wpG_take (i := 11) (v := .int .i64 z) rfl rfl (by kernel_rfl) (by kernel_rfl) (by kernel_rfl) (by kernel_rfl) (fun _ _ _ h => h) (by rfl) (fun w' hS' => grow_make (f := 40) (args := #[.slice sa s.length sc, .slice ka2 ws.length kc2]) ?_ hS' HG ?_) ?_
                · have ⟨s0, s1, s2, s3⟩ := hSS.out _ hS'; go_simp
                · have ⟨s0, s1, s2, s3⟩ := hSS.out _ hS'; exact mean_hid0 HZ _ _ n _ (by have := hS'.size; omega) (HS3.out.below (hS'.mono (by omega))) (HK3.out.below (hS'.mono (by omega))) (by have := HFP.out.len; have := HQ.out.1; omega) (by have := HFP.out.len; omega) (fun x hx => by have := HQ.out.2.1 x hx; omega) HFP.out.bd HQ.out.2.2
                try simp only [List.setIfInBounds_toArray, List.set_cons_zero, List.set_cons_succ]
                refine wpG_take (i := 12) (v := .int .i64 g) rfl rfl (by kernel_rfl) (by kernel_rfl) (by kernel_rfl) (by kernel_rfl) (fun _ _ _ h => h) (by rfl) (fun w' hS' => grow_value ?_ hS') ?_
                · go_simp
                try simp only [List.setIfInBounds_toArray, List.set_cons_zero, List.set_cons_succ]
                refine wpG_take (i := 13) (v := .bool (decide (g ≤ z))) rfl rfl (by kernel_rfl) (by kernel_rfl) (by kernel_rfl) (by kernel_rfl) (fun _ _ _ h => h) (by rfl) (fun w' hS' => grow_value ?_ hS') ?_
                · go_simp
                try simp only [List.setIfInBounds_toArray, List.set_cons_zero, List.set_cons_succ]
                refine wpG_take (i := 14) (v := .slice (some ⟨bl, offl, none⟩) L.length lc) rfl rfl (by kernel_rfl) (by kernel_rfl) (by kernel_rfl) (by kernel_rfl) (fun _ _ _ h => h) (by rfl) (fun w' hS' => grow_value ?_ hS') ?_
                · go_simp
                try simp only [List.setIfInBounds_toArray, List.set_cons_zero, List.set_cons_succ]
                refine wpG_take (i := 15) (v := .int .i64 q) rfl rfl (by kernel_rfl) (by kernel_rfl) (by kernel_rfl) (by kernel_rfl) (fun _ _ _ h => h) (by rfl) (fun w' hS' => grow_value ?_ hS') ?_
                · go_simp
                try simp only [List.setIfInBounds_toArray, List.set_cons_zero, List.set_cons_succ]
                refine wpG_take (i := 16) (v := .pointer (some ⟨bl, offl + q, none⟩)) rfl rfl (by kernel_rfl) (by kernel_rfl) (by kernel_rfl) (by kernel_rfl) (fun _ _ _ h => h) (by rfl) (fun w' hS' => grow_value ?_ hS') ?_
                · go_simp
                try simp only [List.setIfInBounds_toArray, List.set_cons_zero, List.set_cons_succ]
                refine wpG_take (i := 17) (v := .slice ua u.length uc) rfl rfl (by kernel_rfl) (by kernel_rfl) (by kernel_rfl) (by kernel_rfl) (fun _ _ _ h => h) (by rfl) (fun w' hS' => grow_value ?_ hS') ?_
                · have ⟨s0, s1, s2, s3⟩ := hSS.out _ hS'; go_simp
                try simp only [List.setIfInBounds_toArray, List.set_cons_zero, List.set_cons_succ]
                refine wpG_take (i := 18) (v := .pointer (some ⟨w.heap.size, 1, none⟩)) rfl rfl (by kernel_rfl) (by kernel_rfl) (by kernel_rfl) (by kernel_rfl) (fun _ _ _ h => h) (by rfl) (fun w' hS' => grow_value ?_ hS') ?_
                · go_simp
                try simp only [List.setIfInBounds_toArray, List.set_cons_zero, List.set_cons_succ]
                refine wpG_take (i := 19) (v := .slice (some ⟨bk, offk, none⟩) c.casks.length kc) rfl rfl (by kernel_rfl) (by kernel_rfl) (by kernel_rfl) (by kernel_rfl) (fun _ _ _ h => h) (by rfl) (fun w' hS' => grow_value ?_ hS') ?_
                · have ⟨s0, s1, s2, s3⟩ := hSS.out _ hS'; go_simp
                try simp only [List.setIfInBounds_toArray, List.set_cons_zero, List.set_cons_succ]
                refine wpG_take (i := 20) (v := .int .i64 j) rfl rfl (by kernel_rfl) (by kernel_rfl) (by kernel_rfl) (by kernel_rfl) (fun _ _ _ h => h) (by rfl) (fun w' hS' => grow_value ?_ hS') ?_
                · go_simp
                try simp only [List.setIfInBounds_toArray, List.set_cons_zero, List.set_cons_succ]
                refine wpG_take (i := 21) (v := .pointer (some ⟨bk, offk + j, none⟩)) rfl rfl (by kernel_rfl) (by kernel_rfl) (by kernel_rfl) (by kernel_rfl) (fun _ _ _ h => h) (by rfl) (fun w' hS' => grow_value ?_ hS') ?_
                · go_simp
                try simp only [List.setIfInBounds_toArray, List.set_cons_zero, List.set_cons_succ]
                refine wpG_take (i := 22) (v := .slice ka2 ws.length kc2) rfl rfl (by kernel_rfl) (by kernel_rfl) (by kernel_rfl) (by kernel_rfl) (fun _ _ _ h => h) (by rfl) (fun w' hS' => grow_value ?_ hS') ?_
                · have ⟨s0, s1, s2, s3⟩ := hSS.out _ hS'; go_simp
                try simp only [List.setIfInBounds_toArray, List.set_cons_zero, List.set_cons_succ]
                refine wpG_take (i := 23) (v := .int .i64 z') rfl rfl (by kernel_rfl) (by kernel_rfl) (by kernel_rfl) (by kernel_rfl) (fun _ _ _ h => h) (by rfl) (fun w' hS' => grow_make (f := 40) (args := #[.slice ua u.length uc, .slice ka2 ws.length kc2]) ?_ hS' HG ?_) ?_
                · have ⟨s0, s1, s2, s3⟩ := hSS.out _ hS'; go_simp
                · have ⟨s0, s1, s2, s3⟩ := hSS.out _ hS'; exact mean_hid0 HZ' _ _ n _ (by have := hS'.size; omega) (HU3.out.below (hS'.mono (by omega))) (HK3.out.below (hS'.mono (by omega))) (by have := HFQ.out.len; have := HQ.out.1; omega) (by have := HFQ.out.len; omega) (fun x hx => by have := HQ.out.2.1 x hx; omega) HFQ.out.bd HQ.out.2.2
                try simp only [List.setIfInBounds_toArray, List.set_cons_zero, List.set_cons_succ]
                refine wpG_take (i := 24) (v := .int .i64 g) rfl rfl (by kernel_rfl) (by kernel_rfl) (by kernel_rfl) (by kernel_rfl) (fun _ _ _ h => h) (by rfl) (fun w' hS' => grow_value ?_ hS') ?_
                · go_simp
                try simp only [List.setIfInBounds_toArray, List.set_cons_zero, List.set_cons_succ]
                refine wpG_take (i := 25) (v := .bool (decide (g ≤ z'))) rfl rfl (by kernel_rfl) (by kernel_rfl) (by kernel_rfl) (by kernel_rfl) (fun _ _ _ h => h) (by rfl) (fun w' hS' => grow_value ?_ hS') ?_
                · go_simp
                try simp only [List.setIfInBounds_toArray, List.set_cons_zero, List.set_cons_succ]
                refine wpG_take (i := 26) (v := .bool ((decide (g ≤ z)) != (decide (g ≤ z')))) rfl rfl (by kernel_rfl) (by kernel_rfl) (by kernel_rfl) (by kernel_rfl) (fun _ _ _ h => h) (by rfl) (fun w' hS' => grow_value ?_ hS') ?_
                · have ⟨s0, s1, s2, s3⟩ := hSS.out _ hS'; go_simp; (try (cases decide (g ≤ z) <;> cases decide (g ≤ z') <;> rfl))
                try simp only [List.setIfInBounds_toArray, List.set_cons_zero, List.set_cons_succ]
                refine wpG_take (i := 27) (v := .bool ((decide (g ≤ z)) != (decide (g ≤ z')))) rfl rfl (by kernel_rfl) (by kernel_rfl) (by kernel_rfl) (by kernel_rfl) (fun _ _ _ h => h) (by rfl) (fun w' hS' => grow_value ?_ hS') ?_
                · go_simp
                try simp only [List.setIfInBounds_toArray, List.set_cons_zero, List.set_cons_succ]
                refine wpG_take (i := 28) (v := .bool ((decide (g ≤ z)) != (decide (g ≤ z')))) rfl rfl (by kernel_rfl) (by kernel_rfl) (by kernel_rfl) (by kernel_rfl) (fun _ _ _ h => h) (by rfl) (fun w' hS' => grow_value ?_ hS') ?_
                · go_simp
                try simp only [List.setIfInBounds_toArray, List.set_cons_zero, List.set_cons_succ]
                refine wpG_done (by kernel_rfl) (fun w5 hq hbx => ?_) _
                have HE5 := hid (HL5.out.trans (hbx.mono hs54))
                clear hSS HG hq hbx
                go_wp2
                go_roundw
                case rel => exact ⟨j + 1, by omega, by go_num, by rw [HSU.out, Bool.false_or], HE5.out⟩
                case measure => simp [intOf]; omega
            · have hje : j = c.casks.length := by omega
              obtain ⟨db, hdb⟩ : ∃ db, db = diffN c g s u j := ⟨_, rfl⟩
              have HDB := hid (show db = diffN c g s u c.casks.length by rw [hdb, hje])
              rw [← hdb]
              clear hdb hje
              have HOT := hid (show otherB c g m s u = (db && agreeN c m s u N) by rw [otherB, ← HDB.out, ← HN.out])
              obtain ⟨w5, hw5⟩ : ∃ w5, w5 = wr := ⟨_, rfl⟩
              have hs5' := hs5
              go_wp2
              rw [← hw5]
              rw [← hw5] at HX5 HL5 hs5 hs54
              clear hw5 j0 j1 j2
              go_loopw [11, 13] (fun o i wr => ∃ t : Nat, t ≤ N ∧ i = .int .i64 t ∧ o = .bool (db && agreeN c m s u t) ∧ Below w5.heap.size w5 wr) (fun _ i _ => N - (intOf i).toNat)
              case atStart => exact ⟨0, by omega, rfl, by simp [agreeN], Below.refl _ _⟩
              case round =>
                obtain ⟨t, ht1, rfl, rfl, hb6⟩ := hrel
                have HX6 := hid (HX5.out.trans (hb6.mono hs5))
                have HL6 := hid hb6
                have hs6 := HX6.out.size
                have hs65 := hb6.size
                clear hb6
                obtain ⟨ob, hob⟩ : ∃ ob, ob = (db && agreeN c m s u t) := ⟨_, rfl⟩
                have HOB := hid hob
                rw [← hob]
                clear hob
                have j0 := cell_of_row (HBOX.out wr HX6.out) 0
                have j1 := cell_of_row (HBOX.out wr HX6.out) 1
                have j2 := cell_of_row (HBOX.out wr HX6.out) 2
                simp only [List.getElem?_toArray, List.getElem?_cons_zero, List.getElem?_cons_succ] at j0 j1 j2
                go_wp2_with fail
                refine (things_hidD c HN (by omega) (by omega) _ n wr (HCE.out wr HX6.out)).mono ?_
                rintro e w7 ⟨rfl, hb7⟩
                have HX7 := hid (HX6.out.trans (hb7.mono hs6))
                have HL7 := hid (HL6.out.trans (hb7.mono hs65))
                have hs7 := HX7.out.size
                have hs75 := HL7.out.size
                clear hb7 j0 j1 j2
                by_cases hgo : t < N ∧ ob = true
                · obtain ⟨htN, rfl⟩ := hgo
                  obtain ⟨bt, hbt⟩ : ∃ bt, bt = m.testBit t := ⟨_, rfl⟩
                  have HSU := hid (show (db && agreeN c m s u (t + 1)) = (!bt || ofT c s t == ofT c u t) by rw [agreeN_succ, ← Bool.and_assoc, ← HOB.out, Bool.true_and, hbt])
                  have hbz := HBIT.out t
                  rw [← hbt] at hbz
                  have HBZ := hid hbz
                  clear hbt hbz
                  have hwk : IntKind.u64.wrap (t : Int) = t := by unfold IntKind.wrap; simp [IntKind.bits, IntKind.signed]; omega
                  have hd0 : 0 ≤ (m : Int) / 2 ^ t := Int.ediv_nonneg (by omega) (Int.pow_nonneg (by decide))
                  have HAL := hid (hWb.trans (HX7.out.mono (by omega)))
                  have z1 := (HAL.out.cell (p := ⟨bl, offl + p, none⟩) (by show bl < _; omega)).trans HY1.out
                  have z2 := (HAL.out.cell (p := ⟨bl, offl + q, none⟩) (by show bl < _; omega)).trans HY2.out
                  have HS3 := hid (HX1.out.below (HAL.out.mono hn))
                  have HU3 := hid (HX2.out.below (HAL.out.mono hn))
                  have j0 := cell_of_row (HBOX.out w7 HX7.out) 0
                  have j1 := cell_of_row (HBOX.out w7 HX7.out) 1
                  have j2 := cell_of_row (HBOX.out w7 HX7.out) 2
                  simp only [List.getElem?_toArray, List.getElem?_cons_zero, List.getElem?_cons_succ] at j0 j1 j2
                  obtain ⟨z, hz⟩ : ∃ z, z = ofT c s t := ⟨_, rfl⟩
                  obtain ⟨z', hz'⟩ : ∃ z, z = ofT c u t := ⟨_, rfl⟩
                  have HZ := hid hz
                  have HZ' := hid hz'
                  rw [← hz, ← hz'] at HSU
                  obtain ⟨zb, hzb⟩ : ∃ zb, zb = (z == z') := ⟨_, rfl⟩
                  rw [← hzb] at HSU
                  have HZB := hid hzb
                  clear hz hz' hzb
                  have hSS := hid (fun w' (h : Below w7.heap.size w7 w') => ⟨(h.cell (p := ⟨w.heap.size, 0, none⟩) (by show w.heap.size < _; omega)).trans j0, (h.cell (p := ⟨w.heap.size, 1, none⟩) (by show w.heap.size < _; omega)).trans j1, (h.cell (p := ⟨w.heap.size, 2, none⟩) (by show w.heap.size < _; omega)).trans j2, (h.cell (p := ⟨bl, offl + p, none⟩) (by show bl < _; omega)).trans z1, (h.cell (p := ⟨bl, offl + q, none⟩) (by show bl < _; omega)).trans z2⟩ :
                    ∀ w', Below w7.heap.size w7 w' → w'.cell? ⟨w.heap.size, 0, none⟩ = some (.slice ha c.heaps.length hc) ∧ w'.cell? ⟨w.heap.size, 1, none⟩ = some (.slice ka c.casks.length kc) ∧ w'.cell? ⟨w.heap.size, 2, none⟩ = some (.slice ta c.trials.length tc) ∧ w'.cell? ⟨bl, offl + p, none⟩ = some (.slice sa s.length sc) ∧ w'.cell? ⟨bl, offl + q, none⟩ = some (.slice ua u.length uc))
                  go_wp2
                  refine wp_region_grow (by kernel_rfl) 99 (fun w' => Below w7.heap.size w7 w') ?_ ?_
                  · exact (Below.refl _ _).drew
                  have HG := fun (a b : World) (h : Below w7.heap.size w7 a) (k : Below a.heap.size a b) => (h.trans (k.mono h.size) : Below w7.heap.size w7 b)
                  clear z1 z2 j0 j1 j2
                  refine wpG_take (i := 0) (v := .int .i64 m) rfl rfl (by kernel_rfl) (by kernel_rfl) (by kernel_rfl) (by kernel_rfl) (fun _ _ _ h => h) (by rfl) (fun w' hS' => grow_value ?_ hS') ?_
                  · go_simp
                  try simp only [List.setIfInBounds_toArray, List.set_cons_zero, List.set_cons_succ]
                  refine wpG_take (i := 1) (v := .int .i64 t) rfl rfl (by kernel_rfl) (by kernel_rfl) (by kernel_rfl) (by kernel_rfl) (fun _ _ _ h => h) (by rfl) (fun w' hS' => grow_value ?_ hS') ?_
                  · go_simp
                  try simp only [List.setIfInBounds_toArray, List.set_cons_zero, List.set_cons_succ]
                  refine wpG_take (i := 2) (v := .int .u64 t) rfl rfl (by kernel_rfl) (by kernel_rfl) (by kernel_rfl) (by kernel_rfl) (fun _ _ _ h => h) (by rfl) (fun w' hS' => grow_value ?_ hS') ?_
                  · go_simp
                  try simp only [List.setIfInBounds_toArray, List.set_cons_zero, List.set_cons_succ]
                  refine wpG_take (i := 3) (v := .int .i64 ((m : Int) / 2 ^ t)) rfl rfl (by kernel_rfl) (by kernel_rfl) (by kernel_rfl) (by kernel_rfl) (fun _ _ _ h => h) (by rfl) (fun w' hS' => grow_value ?_ hS') ?_
                  · go_simp
                  try simp only [List.setIfInBounds_toArray, List.set_cons_zero, List.set_cons_succ]
                  refine wpG_take (i := 4) (v := .int .i64 ((m : Int) / 2 ^ t % 2)) rfl rfl (by kernel_rfl) (by kernel_rfl) (by kernel_rfl) (by kernel_rfl) (fun _ _ _ h => h) (by rfl) (fun w' hS' => grow_value ?_ hS') ?_
                  · have ⟨s0, s1, s2, s3, s4⟩ := hSS.out _ hS'; go_simp; (try exact Int.tmod_eq_emod_of_nonneg hd0)
                  try simp only [List.setIfInBounds_toArray, List.set_cons_zero, List.set_cons_succ]
                  refine wpG_take (i := 5) (v := .bool (!bt)) rfl rfl (by kernel_rfl) (by kernel_rfl) (by kernel_rfl) (by kernel_rfl) (fun _ _ _ h => h) (by rfl) (fun w' hS' => grow_value ?_ hS') ?_
                  · have ⟨s0, s1, s2, s3, s4⟩ := hSS.out _ hS'; go_simp; rw [HBZ.out]
                  try simp only [List.setIfInBounds_toArray, List.set_cons_zero, List.set_cons_succ]
                  refine wpG_take (i := 6) (v := .bool (!bt)) rfl rfl (by kernel_rfl) (by kernel_rfl) (by kernel_rfl) (by kernel_rfl) (fun _ _ _ h => h) (by rfl) (fun w' hS' => grow_value ?_ hS') ?_
                  · go_simp
                  try simp only [List.setIfInBounds_toArray, List.set_cons_zero, List.set_cons_succ]
                  cases bt with
                  | false =>
                    refine wpG_skip (i := 7) rfl rfl (by kernel_rfl) (by kernel_rfl) (by kernel_rfl) (by kernel_rfl) (fun _ _ _ h => h) (by rfl) ?_
                    try simp only [List.setIfInBounds_toArray, List.set_cons_zero, List.set_cons_succ]
                    refine wpG_skip (i := 8) rfl rfl (by kernel_rfl) (by kernel_rfl) (by kernel_rfl) (by kernel_rfl) (fun _ _ _ h => h) (by rfl) ?_
                    try simp only [List.setIfInBounds_toArray, List.set_cons_zero, List.set_cons_succ]
                    refine wpG_skip (i := 9) rfl rfl (by kernel_rfl) (by kernel_rfl) (by kernel_rfl) (by kernel_rfl) (fun _ _ _ h => h) (by rfl) ?_
                    try simp only [List.setIfInBounds_toArray, List.set_cons_zero, List.set_cons_succ]
                    refine wpG_skip (i := 10) rfl rfl (by kernel_rfl) (by kernel_rfl) (by kernel_rfl) (by kernel_rfl) (fun _ _ _ h => h) (by rfl) ?_
                    try simp only [List.setIfInBounds_toArray, List.set_cons_zero, List.set_cons_succ]
                    refine wpG_skip (i := 11) rfl rfl (by kernel_rfl) (by kernel_rfl) (by kernel_rfl) (by kernel_rfl) (fun _ _ _ h => h) (by rfl) ?_
                    try simp only [List.setIfInBounds_toArray, List.set_cons_zero, List.set_cons_succ]
                    refine wpG_skip (i := 12) rfl rfl (by kernel_rfl) (by kernel_rfl) (by kernel_rfl) (by kernel_rfl) (fun _ _ _ h => h) (by rfl) ?_
                    try simp only [List.setIfInBounds_toArray, List.set_cons_zero, List.set_cons_succ]
                    refine wpG_skip (i := 13) rfl rfl (by kernel_rfl) (by kernel_rfl) (by kernel_rfl) (by kernel_rfl) (fun _ _ _ h => h) (by rfl) ?_
                    try simp only [List.setIfInBounds_toArray, List.set_cons_zero, List.set_cons_succ]
                    refine wpG_skip (i := 14) rfl rfl (by kernel_rfl) (by kernel_rfl) (by kernel_rfl) (by kernel_rfl) (fun _ _ _ h => h) (by rfl) ?_
                    try simp only [List.setIfInBounds_toArray, List.set_cons_zero, List.set_cons_succ]
                    refine wpG_skip (i := 15) rfl rfl (by kernel_rfl) (by kernel_rfl) (by kernel_rfl) (by kernel_rfl) (fun _ _ _ h => h) (by rfl) ?_
                    try simp only [List.setIfInBounds_toArray, List.set_cons_zero, List.set_cons_succ]
                    refine wpG_skip (i := 16) rfl rfl (by kernel_rfl) (by kernel_rfl) (by kernel_rfl) (by kernel_rfl) (fun _ _ _ h => h) (by rfl) ?_
                    try simp only [List.setIfInBounds_toArray, List.set_cons_zero, List.set_cons_succ]
                    refine wpG_skip (i := 17) rfl rfl (by kernel_rfl) (by kernel_rfl) (by kernel_rfl) (by kernel_rfl) (fun _ _ _ h => h) (by rfl) ?_
                    try simp only [List.setIfInBounds_toArray, List.set_cons_zero, List.set_cons_succ]
                    refine wpG_skip (i := 18) rfl rfl (by kernel_rfl) (by kernel_rfl) (by kernel_rfl) (by kernel_rfl) (fun _ _ _ h => h) (by rfl) ?_
                    try simp only [List.setIfInBounds_toArray, List.set_cons_zero, List.set_cons_succ]
                    refine wpG_skip (i := 19) rfl rfl (by kernel_rfl) (by kernel_rfl) (by kernel_rfl) (by kernel_rfl) (fun _ _ _ h => h) (by rfl) ?_
                    try simp only [List.setIfInBounds_toArray, List.set_cons_zero, List.set_cons_succ]
                    refine wpG_skip (i := 20) rfl rfl (by kernel_rfl) (by kernel_rfl) (by kernel_rfl) (by kernel_rfl) (fun _ _ _ h => h) (by rfl) ?_
                    try simp only [List.setIfInBounds_toArray, List.set_cons_zero, List.set_cons_succ]
                    refine wpG_skip (i := 21) rfl rfl (by kernel_rfl) (by kernel_rfl) (by kernel_rfl) (by kernel_rfl) (fun _ _ _ h => h) (by rfl) ?_
                    try simp only [List.setIfInBounds_toArray, List.set_cons_zero, List.set_cons_succ]
                    refine wpG_take (i := 22) (v := .bool true) rfl rfl (by kernel_rfl) (by kernel_rfl) (by kernel_rfl) (by kernel_rfl) (fun _ _ _ h => h) (by rfl) (fun w' hS' => grow_value ?_ hS') ?_
                    · go_simp
                    try simp only [List.setIfInBounds_toArray, List.set_cons_zero, List.set_cons_succ]
                    refine wpG_take (i := 23) (v := .bool true) rfl rfl (by kernel_rfl) (by kernel_rfl) (by kernel_rfl) (by kernel_rfl) (fun _ _ _ h => h) (by rfl) (fun w' hS' => grow_value ?_ hS') ?_
                    · go_simp
                    try simp only [List.setIfInBounds_toArray, List.set_cons_zero, List.set_cons_succ]
                    refine wpG_done (by kernel_rfl) (fun w8 hq hbx => ?_) _
                    have HE8 := hid (HL7.out.trans (hbx.mono hs75))
                    clear hSS HG hq hbx
                    go_wp2
                    go_roundw
                    case rel => exact ⟨t + 1, by omega, by go_num, by rw [HSU.out]; rfl, HE8.out⟩
                    case measure => simp [intOf]; omega
                  | true =>
                    refine wpG_take (i := 7) (v := .agg #[.slice ha c.heaps.length hc, .slice ka c.casks.length kc, .slice ta c.trials.length tc]) rfl rfl (by kernel_rfl) (by kernel_rfl) (by kernel_rfl) (by kernel_rfl) (fun _ _ _ h => h) (by rfl) (fun w' hS' => grow_value ?_ hS') ?_
                    · have ⟨s0, s1, s2, s3, s4⟩ := hSS.out _ hS'; go_simp
                    try simp only [List.setIfInBounds_toArray, List.set_cons_zero, List.set_cons_succ]
                    refine wpG_take (i := 8) (v := .slice (some ⟨bl, offl, none⟩) L.length lc) rfl rfl (by kernel_rfl) (by kernel_rfl) (by kernel_rfl) (by kernel_rfl) (fun _ _ _ h => h) (by rfl) (fun w' hS' => grow_value ?_ hS') ?_
                    · go_simp
                    try simp only [List.setIfInBounds_toArray, List.set_cons_zero, List.set_cons_succ]
                    refine wpG_take (i := 9) (v := .int .i64 p) rfl rfl (by kernel_rfl) (by kernel_rfl) (by kernel_rfl) (by kernel_rfl) (fun _ _ _ h => h) (by rfl) (fun w' hS' => grow_value ?_ hS') ?_
                    · go_simp
                    try simp only [List.setIfInBounds_toArray, List.set_cons_zero, List.set_cons_succ]
                    refine wpG_take (i := 10) (v := .pointer (some ⟨bl, offl + p, none⟩)) rfl rfl (by kernel_rfl) (by kernel_rfl) (by kernel_rfl) (by kernel_rfl) (fun _ _ _ h => h) (by rfl) (fun w' hS' => grow_value ?_ hS') ?_
                    · go_simp
                    try simp only [List.setIfInBounds_toArray, List.set_cons_zero, List.set_cons_succ]
                    refine wpG_take (i := 11) (v := .slice sa s.length sc) rfl rfl (by kernel_rfl) (by kernel_rfl) (by kernel_rfl) (by kernel_rfl) (fun _ _ _ h => h) (by rfl) (fun w' hS' => grow_value ?_ hS') ?_
                    · have ⟨s0, s1, s2, s3, s4⟩ := hSS.out _ hS'; go_simp
                    try simp only [List.setIfInBounds_toArray, List.set_cons_zero, List.set_cons_succ]
                    refine wpG_take (i := 12) (v := .int .i64 t) rfl rfl (by kernel_rfl) (by kernel_rfl) (by kernel_rfl) (by kernel_rfl) (fun _ _ _ h => h) (by rfl) (fun w' hS' => grow_value ?_ hS') ?_
                    · go_simp
                    try simp only [List.setIfInBounds_toArray, List.set_cons_zero, List.set_cons_succ]
                    refine wpG_take (i := 13) (v := .int .i64 z) rfl rfl (by kernel_rfl) (by kernel_rfl) (by kernel_rfl) (by kernel_rfl) (fun _ _ _ h => h) (by rfl) (fun w' hS' => grow_make (f := 41) (args := #[.agg #[.slice ha c.heaps.length hc, .slice ka c.casks.length kc, .slice ta c.trials.length tc], .slice sa s.length sc, .int .i64 t]) ?_ hS' HG ?_) ?_
                    · have ⟨s0, s1, s2, s3, s4⟩ := hSS.out _ hS'; go_simp
                    · have ⟨s0, s1, s2, s3, s4⟩ := hSS.out _ hS'; exact ofR_hid c HGD.out s HFP.out t HZ _ _ (by omega) (by have := HN.out; omega) n _ (by have := hS'.size; omega) (HCE.out _ (HX7.out.trans (hS'.mono (by omega)))) (HS3.out.below (hS'.mono (by omega)))
                    try simp only [List.setIfInBounds_toArray, List.set_cons_zero, List.set_cons_succ]
                    refine wpG_take (i := 14) (v := .agg #[.slice ha c.heaps.length hc, .slice ka c.casks.length kc, .slice ta c.trials.length tc]) rfl rfl (by kernel_rfl) (by kernel_rfl) (by kernel_rfl) (by kernel_rfl) (fun _ _ _ h => h) (by rfl) (fun w' hS' => grow_value ?_ hS') ?_
                    · have ⟨s0, s1, s2, s3, s4⟩ := hSS.out _ hS'; go_simp
                    try simp only [List.setIfInBounds_toArray, List.set_cons_zero, List.set_cons_succ]
                    refine wpG_take (i := 15) (v := .slice (some ⟨bl, offl, none⟩) L.length lc) rfl rfl (by kernel_rfl) (by kernel_rfl) (by kernel_rfl) (by kernel_rfl) (fun _ _ _ h => h) (by rfl) (fun w' hS' => grow_value ?_ hS') ?_
                    · go_simp
                    try simp only [List.setIfInBounds_toArray, List.set_cons_zero, List.set_cons_succ]
                    refine wpG_take (i := 16) (v := .int .i64 q) rfl rfl (by kernel_rfl) (by kernel_rfl) (by kernel_rfl) (by kernel_rfl) (fun _ _ _ h => h) (by rfl) (fun w' hS' => grow_value ?_ hS') ?_
                    · go_simp
                    try simp only [List.setIfInBounds_toArray, List.set_cons_zero, List.set_cons_succ]
                    refine wpG_take (i := 17) (v := .pointer (some ⟨bl, offl + q, none⟩)) rfl rfl (by kernel_rfl) (by kernel_rfl) (by kernel_rfl) (by kernel_rfl) (fun _ _ _ h => h) (by rfl) (fun w' hS' => grow_value ?_ hS') ?_
                    · go_simp
                    try simp only [List.setIfInBounds_toArray, List.set_cons_zero, List.set_cons_succ]
                    refine wpG_take (i := 18) (v := .slice ua u.length uc) rfl rfl (by kernel_rfl) (by kernel_rfl) (by kernel_rfl) (by kernel_rfl) (fun _ _ _ h => h) (by rfl) (fun w' hS' => grow_value ?_ hS') ?_
                    · have ⟨s0, s1, s2, s3, s4⟩ := hSS.out _ hS'; go_simp
                    try simp only [List.setIfInBounds_toArray, List.set_cons_zero, List.set_cons_succ]
                    refine wpG_take (i := 19) (v := .int .i64 t) rfl rfl (by kernel_rfl) (by kernel_rfl) (by kernel_rfl) (by kernel_rfl) (fun _ _ _ h => h) (by rfl) (fun w' hS' => grow_value ?_ hS') ?_
                    · go_simp
                    try simp only [List.setIfInBounds_toArray, List.set_cons_zero, List.set_cons_succ]
                    refine wpG_take (i := 20) (v := .int .i64 z') rfl rfl (by kernel_rfl) (by kernel_rfl) (by kernel_rfl) (by kernel_rfl) (fun _ _ _ h => h) (by rfl) (fun w' hS' => grow_make (f := 41) (args := #[.agg #[.slice ha c.heaps.length hc, .slice ka c.casks.length kc, .slice ta c.trials.length tc], .slice ua u.length uc, .int .i64 t]) ?_ hS' HG ?_) ?_
                    · have ⟨s0, s1, s2, s3, s4⟩ := hSS.out _ hS'; go_simp
                    · have ⟨s0, s1, s2, s3, s4⟩ := hSS.out _ hS'; exact ofR_hid c HGD.out u HFQ.out t HZ' _ _ (by omega) (by have := HN.out; omega) n _ (by have := hS'.size; omega) (HCE.out _ (HX7.out.trans (hS'.mono (by omega)))) (HU3.out.below (hS'.mono (by omega)))
                    try simp only [List.setIfInBounds_toArray, List.set_cons_zero, List.set_cons_succ]
                    refine wpG_take (i := 21) (v := .bool zb) rfl rfl (by kernel_rfl) (by kernel_rfl) (by kernel_rfl) (by kernel_rfl) (fun _ _ _ h => h) (by rfl) (fun w' hS' => grow_value ?_ hS') ?_
                    · have ⟨s0, s1, s2, s3, s4⟩ := hSS.out _ hS'; go_simp; (rw [HZB.out])
                    try simp only [List.setIfInBounds_toArray, List.set_cons_zero, List.set_cons_succ]
                    refine wpG_take (i := 22) (v := .bool zb) rfl rfl (by kernel_rfl) (by kernel_rfl) (by kernel_rfl) (by kernel_rfl) (fun _ _ _ h => h) (by rfl) (fun w' hS' => grow_value ?_ hS') ?_
                    · go_simp
                    try simp only [List.setIfInBounds_toArray, List.set_cons_zero, List.set_cons_succ]
                    refine wpG_take (i := 23) (v := .bool zb) rfl rfl (by kernel_rfl) (by kernel_rfl) (by kernel_rfl) (by kernel_rfl) (fun _ _ _ h => h) (by rfl) (fun w' hS' => grow_value ?_ hS') ?_
                    · go_simp
                    try simp only [List.setIfInBounds_toArray, List.set_cons_zero, List.set_cons_succ]
                    refine wpG_done (by kernel_rfl) (fun w8 hq hbx => ?_) _
                    have HE8 := hid (HL7.out.trans (hbx.mono hs75))
                    clear hSS HG hq hbx
                    go_wp2
                    go_roundw
                    case rel => exact ⟨t + 1, by omega, by go_num, by rw [HSU.out]; rfl, HE8.out⟩
                    case measure => simp [intOf]; omega
                · have HNO := hid hgo
                  have HE3 := hid (HL4.out.trans ((HL5.out.trans (HL7.out.mono hs54)).mono hs43))
                  have hsE := HE3.out.size
                  by_cases htN : t < N
                  · have hof : ob = false := by
                      cases ob
                      · rfl
                      · exact absurd ⟨htN, rfl⟩ HNO.out
                    subst hof
                    have HFIN := hid (show otherB c g m s u = false by
                      rw [HOT.out]
                      cases hd : db with
                      | false => rfl
                      | true =>
                        have := HOB.out
                        rw [hd, Bool.true_and] at this
                        rw [Bool.true_and]
                        exact agreeN_mono c m s u ht1 this.symm)
                    have HR := hid (HNXQ.out HFIN.out)
                    clear hgo
                    go_wp2
                    go_roundw
                    case rel => exact ⟨q + 1, by omega, by go_num, HR, HE3.out⟩
                    case measure => simp [intOf]; omega
                  · have hte : t = N := by omega
                    have HFIN := hid (show otherB c g m s u = ob by rw [HOT.out, HOB.out, hte])
                    clear hgo
                    cases ob with
                    | false =>
                      have HR := hid (HNXQ.out HFIN.out)
                      go_wp2
                      go_roundw
                      case rel => exact ⟨q + 1, by omega, by go_num, HR, HE3.out⟩
                      case measure => simp [intOf]; omega
                    | true =>
                      have HR := hid (HBADQ.out HFIN.out)
                      go_wp2
                      go_ret
                      obtain rfl := HR.out
                      exact ⟨rfl, hWb.trans (HX7.out.mono (by omega))⟩
        · have hqe : q = p := by omega
          subst hqe
          have HR := hid (HIQ.out.row (Nat.le_refl _))
          go_wp2
          go_roundw
          case rel => exact ⟨q + 1, by omega, by go_num, HR, HX4.out⟩
          case measure => simp [intOf]; omega
    · have hpe : p = L.length := by omega
      subst hpe
      have HR := hid (HBO1.out HIP.out)
      go_wp2
      go_ret
      obtain rfl := HR.out
      exact ⟨rfl, hWb.trans (HX3.out.mono (by omega))⟩
end Go.Proofs.YtjddcaimjofihaaGreat
