/- Contracts of the reference's IsBlend and Blend; no condition. -/
import Derived.Test.YtjddcaimjofihaaT3
import Derived.Test.YtjddcaimjofihaaP3
namespace Go.Proofs.Ytjddcaimjofihaa
open Go.RowKit Go.Shelf
set_option maxRecDepth 100000

theorem inStock_idx : ∀ (st ws : List Int), inStock st ws = true ↔ ws.length = st.length ∧ ∀ i, i < ws.length → 0 ≤ ws.getD i 0 ∧ ws.getD i 0 ≤ st.getD i 0
  | [], [] => by simp [inStock]
  | [], _ :: _ => by simp [inStock]
  | _ :: _, [] => by simp [inStock]
  | s :: st, w :: ws => by
    simp only [inStock, Bool.and_eq_true, List.length_cons, Nat.add_right_cancel_iff, inStock_idx st ws, within_iff]
    constructor
    · rintro ⟨h1, h2, h3⟩
      refine ⟨h2, fun i hi => ?_⟩
      cases i with
      | zero => simpa using h1
      | succ i => simpa using h3 i (by omega)
    · rintro ⟨h2, h3⟩
      exact ⟨by simpa using h3 0 (by omega), h2, fun i hi => by simpa using h3 (i + 1) (by omega)⟩
theorem getD_at {l : List Int} {k : Nat} (h : k < l.length) : l[k] = l.getD k 0 := by rw [List.getD_eq_getElem?_getD, List.getElem?_eq_getElem h]; rfl
theorem inStock_bd {st ws : List Int} (hst : ∀ x ∈ st, 0 ≤ x ∧ x ≤ 30) (h : inStock st ws = true) : ∀ x ∈ ws, 0 ≤ x ∧ x ≤ 1000 := fun x hx => by
  obtain ⟨h1, h2⟩ := (inStock_idx st ws).1 h
  obtain ⟨i, hi, rfl⟩ := List.getElem_of_mem hx
  have a := h2 i hi
  have b := hst st[i] (List.getElem_mem (by omega))
  rw [getD_at (by omega)] at b
  rw [getD_at hi]
  omega

set_option maxHeartbeats 4000000 in
theorem isBlendRf_any {b : Bool} (c : Ce) (L : List (List Int)) (hfit : ∀ l ∈ L, Fit c l) (hLl : L.length ≤ 100000) (hcl : c.heaps.length ≤ 3) (st ws : List Int) (wt g : Int) (HB : Hid (b = isBlendR L st wt g ws)) (hst : ∀ x ∈ st, 0 ≤ x ∧ x ≤ 30) (hsl : st.length = c.heaps.length) (hwl : ws.length ≤ 1000) (hwt : 1 ≤ wt)
    (v vl vs vw : Value) (n : Nat) (w : World) (hn : n ≤ w.heap.size) (h : CeV (Lt n) w v c) (hl : Lss (Lt n) w vl L) (hs : Ints (Lt n) w vs st) (hw : Ints (Lt n) w vw ws) :
    Calls Try.prog 67 #[v, vl, vs, .int .i64 wt, .int .i64 g, vw] w fun e w' => e = .returned (.bool b) ∧ Below w.heap.size w w' := by
  obtain ⟨la, lc, rfl, -, hlo⟩ := hl.open
  obtain ⟨sa, sc, rfl, -, hso⟩ := hs.open1
  have hw' := hw
  obtain ⟨wa, wc, rfl, -, hwo⟩ := hw.open1
  have h' := h
  obtain ⟨ha, hc, ka, kc, ta, tc, rfl, hp1, hp2, hp3⟩ := h.open
  have HOP := hid (And.intro hp1 (And.intro hp2 hp3))
  clear hp1 hp2 hp3
  obtain ⟨W, hW⟩ : ∃ W, W = w.alloc (Obj.cells #[.slice ha c.heaps.length hc, .slice ka c.casks.length kc, .slice ta c.trials.length tc] 26) := ⟨_, rfl⟩
  have hWs : W.heap.size = w.heap.size + 1 := by rw [hW]; simp
  have hWb : Below w.heap.size w W := by rw [hW]; exact below_alloc1 (Nat.le_refl _) _
  have hWr : W.heap[w.heap.size]? = some (.cells #[.slice ha c.heaps.length hc, .slice ka c.casks.length kc, .slice ta c.trials.length tc] 26 (0, 0)) := by rw [hW]; exact heap_new _ _
  have HBOX := hid (fun w1 (hb : Below W.heap.size W w1) => (hb.block w.heap.size (by omega)).trans hWr : ∀ w1, Below W.heap.size W w1 → w1.heap[w.heap.size]? = _)
  have HCE := hid (fun w1 (hb : Below W.heap.size W w1) => h'.below (hWb.trans (hb.mono (by omega)) |>.mono hn) : ∀ w1, Below W.heap.size W w1 → CeV (Lt _) w1 _ c)
  clear hWr h' h
  have HWV := hid (fun w1 (hb : Below W.heap.size W w1) => hw'.below (hWb.trans (hb.mono (by omega)) |>.mono hn) : ∀ w1, Below W.heap.size W w1 → Ints (Lt n) w1 _ ws)
  have HLO := hid hlo
  have HSO := hid hso
  have HWO := hid hwo
  have HFIT := hid hfit
  have HST := hid hst
  have HSL := hid hsl
  have HIS := hid (inStock_idx st ws)
  clear hl hs hw hw' hlo hso hwo hfit hst HOP
  have HN := hid (fun (h : inStock st ws = false) => (by rw [HB.out, isBlendR, h]; rfl : b = false))
  by_cases hle : ws.length = st.length
  · have hle1 : ((ws.length : Int) != (st.length : Int)) = false := by simp [hle]
    have hle2 : ((ws.length : Int) == (st.length : Int)) = true := by simp [hle]
    have HLE := hid hle
    obtain ⟨sm, hsm⟩ : ∃ sm, sm = sumW ws := ⟨_, rfl⟩
    have HSM := hid hsm
    clear hle hsl hsm
    go_enter Try.func67, Try.ntmps67
    go_wp2_with fail
    rw [← hW]
    clear hW
    refine (sumR_hid ws HSM _ n W (HWV.out W (Below.refl _ _)) hwl).mono ?_
    rintro e w1 ⟨rfl, hq1⟩
    have hb1 : Below W.heap.size W w1 := by rw [← hq1]; exact Below.refl _ _
    have HB1 := hid hb1
    have hs1 := hb1.size
    clear hb1 hq1
    by_cases hse : sm = wt
    · have hse1 : (sm != wt) = false := by simp [hse]
      have hse2 : (sm == wt) = true := by simp [hse]
      have HSE := hid hse
      clear hse
      go_wp2
      go_loopw [13] (fun i wr => ∃ k : Nat, k ≤ ws.length ∧ i = .int .i64 k ∧ Hid (∀ j, j < k → 0 ≤ ws.getD j 0 ∧ ws.getD j 0 ≤ st.getD j 0) ∧ Below w1.heap.size w1 wr) (fun i _ => ws.length - (intOf i).toNat)
      case atStart => exact ⟨0, by omega, rfl, hid (fun j hj => by omega), Below.refl _ _⟩
      case round =>
        obtain ⟨k, hk, rfl, HI, hbr⟩ := hrel
        have HBr := hid (below_after HB1.out hbr (Nat.le_refl _))
        have HRr := hid hbr
        have hsr := HBr.out.size
        have hrr := hbr.size
        clear hbr
        by_cases hlt : k < ws.length
        · have hlt2 : k < st.length := by have := HLE.out; omega
          rcases HWO.out with hnil | ⟨b1, off1, rfl, hbn1, hc1⟩
          · rw [hnil] at hlt; simp at hlt
          rcases HSO.out with hnil | ⟨b2, off2, rfl, hbn2, hc2⟩
          · rw [hnil] at hlt2; simp at hlt2
          have hbn1' : b1 < n := hbn1
          have hbn2' : b2 < n := hbn2
          have HAL := hid (hWb.trans (HBr.out.mono (by omega)))
          have y1 := (HAL.out.cell (p := ⟨b1, off1 + k, none⟩) (by show b1 < _; omega)).trans (hc1 k hlt)
          have y2 := (HAL.out.cell (p := ⟨b2, off2 + k, none⟩) (by show b2 < _; omega)).trans (hc2 k hlt2)
          rw [getD_at hlt] at y1
          rw [getD_at hlt2] at y2
          have HNX := hid (fun (h : 0 ≤ ws.getD k 0 ∧ ws.getD k 0 ≤ st.getD k 0) => (fun j hj => by
            by_cases e : j = k
            · subst e; exact h
            · exact HI.out j (by omega) : ∀ j, j < k + 1 → 0 ≤ ws.getD j 0 ∧ ws.getD j 0 ≤ st.getD j 0))
          have HBD := hid (fun (h : ¬ (0 ≤ ws.getD k 0 ∧ ws.getD k 0 ≤ st.getD k 0)) => (HN.out (by
            cases e : inStock st ws
            · rfl
            · exact absurd ((HIS.out.1 e).2 k hlt) h) : b = false))
          clear hc1 hc2
          generalize ws.getD k 0 = x at *
          generalize st.getD k 0 = y at *
          obtain ⟨ib, hib⟩ : ∃ ib, ib = within x 0 y := ⟨_, rfl⟩
          have HIB := hid hib
          clear hib
          have hSS := hid (fun w' (h : Below wr.heap.size wr w') => ⟨(h.cell (p := ⟨b1, off1 + k, none⟩) (by show b1 < _; omega)).trans y1, (h.cell (p := ⟨b2, off2 + k, none⟩) (by show b2 < _; omega)).trans y2⟩ :
            ∀ w', Below wr.heap.size wr w' → w'.cell? ⟨b1, off1 + k, none⟩ = some (.int .i64 x) ∧ w'.cell? ⟨b2, off2 + k, none⟩ = some (.int .i64 y))
          go_wp2
          refine wp_region_grow (by kernel_rfl) 99 (fun w' => Below wr.heap.size wr w') ?_ ?_
          · exact (Below.refl _ _).drew
          have HG := fun (a b : World) (h : Below wr.heap.size wr a) (k : Below a.heap.size a b) => (h.trans (k.mono h.size) : Below wr.heap.size wr b)
          clear y1 y2
          refine wpG_take (i := 0) (v := .slice (some ⟨b1, off1, none⟩) ws.length wc) rfl rfl (by kernel_rfl) (by kernel_rfl) (by kernel_rfl) (by kernel_rfl) (fun _ _ _ h => h) (by rfl) (fun w' hS' => grow_value ?_ hS') ?_
          · go_simp
          try simp only [List.setIfInBounds_toArray, List.set_cons_zero, List.set_cons_succ]
          refine wpG_take (i := 1) (v := .int .i64 k) rfl rfl (by kernel_rfl) (by kernel_rfl) (by kernel_rfl) (by kernel_rfl) (fun _ _ _ h => h) (by rfl) (fun w' hS' => grow_value ?_ hS') ?_
          · go_simp
          try simp only [List.setIfInBounds_toArray, List.set_cons_zero, List.set_cons_succ]
          refine wpG_take (i := 2) (v := .pointer (some ⟨b1, off1 + k, none⟩)) rfl rfl (by kernel_rfl) (by kernel_rfl) (by kernel_rfl) (by kernel_rfl) (fun _ _ _ h => h) (by rfl) (fun w' hS' => grow_value ?_ hS') ?_
          · go_simp
          try simp only [List.setIfInBounds_toArray, List.set_cons_zero, List.set_cons_succ]
          refine wpG_take (i := 3) (v := .int .i64 x) rfl rfl (by kernel_rfl) (by kernel_rfl) (by kernel_rfl) (by kernel_rfl) (fun _ _ _ h => h) (by rfl) (fun w' hS' => grow_value ?_ hS') ?_
          · have ⟨s0, s1⟩ := hSS.out _ hS'; go_simp
          try simp only [List.setIfInBounds_toArray, List.set_cons_zero, List.set_cons_succ]
          refine wpG_take (i := 4) (v := .slice (some ⟨b2, off2, none⟩) st.length sc) rfl rfl (by kernel_rfl) (by kernel_rfl) (by kernel_rfl) (by kernel_rfl) (fun _ _ _ h => h) (by rfl) (fun w' hS' => grow_value ?_ hS') ?_
          · go_simp
          try simp only [List.setIfInBounds_toArray, List.set_cons_zero, List.set_cons_succ]
          refine wpG_take (i := 5) (v := .int .i64 k) rfl rfl (by kernel_rfl) (by kernel_rfl) (by kernel_rfl) (by kernel_rfl) (fun _ _ _ h => h) (by rfl) (fun w' hS' => grow_value ?_ hS') ?_
          · go_simp
          try simp only [List.setIfInBounds_toArray, List.set_cons_zero, List.set_cons_succ]
          refine wpG_take (i := 6) (v := .pointer (some ⟨b2, off2 + k, none⟩)) rfl rfl (by kernel_rfl) (by kernel_rfl) (by kernel_rfl) (by kernel_rfl) (fun _ _ _ h => h) (by rfl) (fun w' hS' => grow_value ?_ hS') ?_
          · go_simp
          try simp only [List.setIfInBounds_toArray, List.set_cons_zero, List.set_cons_succ]
          refine wpG_take (i := 7) (v := .int .i64 y) rfl rfl (by kernel_rfl) (by kernel_rfl) (by kernel_rfl) (by kernel_rfl) (fun _ _ _ h => h) (by rfl) (fun w' hS' => grow_value ?_ hS') ?_
          · have ⟨s0, s1⟩ := hSS.out _ hS'; go_simp
          try simp only [List.setIfInBounds_toArray, List.set_cons_zero, List.set_cons_succ]
          refine wpG_take (i := 8) (v := .bool ib) rfl rfl (by kernel_rfl) (by kernel_rfl) (by kernel_rfl) (by kernel_rfl) (fun _ _ _ h => h) (by rfl) (fun w' hS' => grow_keep (f := 26) (args := #[.int .i64 x, .int .i64 0, .int .i64 y]) ?_ hS' ?_) ?_
          · have ⟨s0, s1⟩ := hSS.out _ hS'; go_simp
          · have ⟨s0, s1⟩ := hSS.out _ hS'; exact inR_hid x 0 y HIB _
          try simp only [List.setIfInBounds_toArray, List.set_cons_zero, List.set_cons_succ]
          refine wpG_take (i := 9) (v := .bool (!ib)) rfl rfl (by kernel_rfl) (by kernel_rfl) (by kernel_rfl) (by kernel_rfl) (fun _ _ _ h => h) (by rfl) (fun w' hS' => grow_value ?_ hS') ?_
          · go_simp
          try simp only [List.setIfInBounds_toArray, List.set_cons_zero, List.set_cons_succ]
          refine wpG_done (by kernel_rfl) (fun w5 hq hbx => ?_) _
          have HR5 := hid (below_after HRr.out hbx (Nat.le_refl _))
          clear hSS HG hq hbx
          cases ib with
          | true =>
            have HR := hid (HNX.out (within_iff.1 HIB.out.symm))
            go_wp2
            go_roundw
            case rel => exact ⟨k + 1, by omega, by go_num, HR, HR5.out⟩
            case measure => simp [intOf]; omega
          | false =>
            have HR := hid (HBD.out (fun h => by have := HIB.out; rw [within_iff.2 h] at this; cases this))
            go_wp2
            go_ret
            obtain rfl := HR.out
            exact ⟨rfl, hWb.trans ((HB1.out.trans (HR5.out.mono (by omega))).mono (by omega))⟩
        · have hke : k = ws.length := by omega
          have HIN := hid (HIS.out.2 ⟨HLE.out, by rw [← hke]; exact HI.out⟩)
          clear HI HN
          have HBDW := hid (inStock_bd HST.out HIN.out)
          have HSI := hid (show sumI ws = wt by rw [← HSE.out, HSM.out]; exact (sumW_eq HBDW.out hwl).symm)
          obtain ⟨w2, hw2⟩ : ∃ w2, w2 = wr := ⟨_, rfl⟩
          have HB2 := hid (show Below W.heap.size W w2 by rw [hw2]; exact HBr.out)
          have hs2 := HB2.out.size
          clear hke
          go_wp2
          rw [← hw2]
          clear hw2 HBr HRr hsr hrr hk
          go_loopw [14] (fun i wr => ∃ k : Nat, k ≤ L.length ∧ i = .int .i64 k ∧ Hid (∀ s ∈ L.take k, g ≤ mean s ws) ∧ Below w2.heap.size w2 wr) (fun i _ => L.length - (intOf i).toNat)
          case atStart => exact ⟨0, by omega, rfl, hid (fun s hs => by simp at hs), Below.refl _ _⟩
          case round =>
            obtain ⟨k, hk, rfl, HI, hbr⟩ := hrel
            have HBr := hid (below_after HB2.out hbr (Nat.le_refl _))
            have HRr := hid hbr
            have hsr := HBr.out.size
            have hrr := hbr.size
            clear hbr
            by_cases hlt : k < L.length
            · rcases HLO.out with hnil | ⟨b3, off3, rfl, hbn3, hcc⟩
              · rw [hnil] at hlt; simp at hlt
              obtain ⟨xv, x0, hx⟩ := hcc k hlt
              have hbn3' : b3 < n := hbn3
              have HAL := hid (hWb.trans (HBr.out.mono (by omega)))
              have HFK := hid (HFIT.out L[k] (List.getElem_mem _))
              have HMEM := hid (List.getElem_mem hlt)
              have HTK := hid (show ∀ s, s ∈ L.take (k + 1) → s ∈ L.take k ∨ s = L[k] from fun s hs => by
                rw [List.take_succ_eq_append_getElem hlt] at hs
                simpa only [List.mem_append, List.mem_singleton] using hs)
              have z0 := (HAL.out.cell (p := ⟨b3, off3 + k, none⟩) (by show b3 < _; omega)).trans x0
              have hx' := hx.below (HAL.out.mono hn)
              clear hcc x0 hx
              generalize L[k] = l at *
              obtain ⟨xa, xc, rfl, -, -⟩ := id hx'.open1
              obtain ⟨z, hz⟩ : ∃ z, z = mean l ws := ⟨_, rfl⟩
              have HZ := hid hz
              have HX := hid hx'
              clear hz hx'
              go_wp2_with fail
              refine (mean_hid0 HZ _ _ n wr (by omega) HX.out (HWV.out wr HBr.out) (by have := HFK.out.len; have := HLE.out; have := HSL.out; omega) (by have := HFK.out.len; omega) HBDW.out HFK.out.bd (by rw [HSI.out]; omega)).mono ?_
              rintro e w5 ⟨rfl, hb5⟩
              have HB5 := hid (below_after HBr.out hb5 (Nat.le_refl _))
              have HR5 := hid (below_after HRr.out hb5 (Nat.le_refl _))
              clear hb5
              by_cases hgz : z < g
              · have hd : decide (z < g) = true := decide_eq_true hgz
                have HR := hid (show b = false by
                  rw [HB.out]
                  cases e : isBlendR L st wt g ws
                  · rfl
                  · have := (isBlendR_iff.1 e).2.2 l HMEM.out
                    rw [← HZ.out] at this
                    omega)
                go_wp2
                go_ret
                obtain rfl := HR.out
                exact ⟨rfl, hWb.trans (HB5.out.mono (by omega))⟩
              · have hd : decide (z < g) = false := decide_eq_false hgz
                have HR := hid (show ∀ s ∈ L.take (k + 1), g ≤ mean s ws from fun s hs => by
                  rcases HTK.out s hs with h | rfl
                  · exact HI.out s h
                  · rw [← HZ.out]; omega)
                go_wp2
                go_roundw
                case rel => exact ⟨k + 1, by omega, by go_num, HR, HR5.out⟩
                case measure => simp [intOf]; omega
            · have HR := hid (show b = true by
                rw [HB.out]
                refine isBlendR_iff.2 ⟨HIN.out, HSI.out, ?_⟩
                have := HI.out
                rwa [List.take_of_length_le (by omega)] at this)
              go_wp2
              go_ret
              obtain rfl := HR.out
              exact ⟨rfl, hWb.trans (HBr.out.mono (by omega))⟩
    · have hse1 : (sm != wt) = true := by simp [hse]
      have hse2 : (sm == wt) = false := by simp [hse]
      have HR := hid (show b = false by
        rw [HB.out]
        cases e : isBlendR L st wt g ws
        · rfl
        · have h1 := isBlendR_iff.1 e
          exact absurd ((HSM.out.trans (sumW_eq (inStock_bd HST.out h1.1) hwl)).trans h1.2.1) hse)
      clear hse
      go_wp2
      go_ret
      obtain rfl := HR.out
      exact ⟨rfl, hWb.trans (HB1.out.mono (by omega))⟩
  · have hle1 : ((ws.length : Int) != (st.length : Int)) = true := by simp; omega
    have hle2 : ((ws.length : Int) == (st.length : Int)) = false := by rw [beq_eq_false_iff_ne]; omega
    have HR := hid (HN.out (by
      cases e : inStock st ws
      · rfl
      · exact absurd (HIS.out.1 e).1 hle))
    clear hle hsl
    go_enter Try.func67, Try.ntmps67
    go_wp2
    go_ret
    obtain rfl := HR.out
    exact ⟨rfl, by rw [← hW]; exact hWb⟩

/-! ### Blend -/
/-- The list of a choice of three numbers. -/
def trip (n a b d : Nat) : List Int := [(a : Int), b, d].take n
/-- How much there is of a heap, or 0. -/
def stN (st : List Int) (i : Nat) : Nat := (st.getD i 0).toNat
theorem trip_of {st t : List Int} (hst : ∀ x ∈ st, 0 ≤ x ∧ x ≤ 30) (h3 : st.length ≤ 3) (h1 : 1 ≤ st.length) (h : inStock st t = true) :
    ∃ a b d : Nat, t = trip st.length a b d ∧ a ≤ stN st 0 ∧ b ≤ stN st 1 ∧ d ≤ stN st 2 ∧ sumI t = (a + b + d : Nat) := by
  obtain ⟨e, H⟩ := (inStock_idx st t).1 h
  unfold stN trip
  match st, t, h1, h3, e, H with
  | [s0], [t0], _, _, _, H =>
    have h0 := H 0 (by simp)
    simp at h0
    exact ⟨t0.toNat, 0, 0, by simp; omega, by simp; omega, by simp, by simp, by simp [sumI]; omega⟩
  | [s0, s1], [t0, t1], _, _, _, H =>
    have h0 := H 0 (by simp)
    have h1 := H 1 (by simp)
    simp at h0 h1
    exact ⟨t0.toNat, t1.toNat, 0, by simp; omega, by simp; omega, by simp; omega, by simp, by simp [sumI]; omega⟩
  | [s0, s1, s2], [t0, t1, t2], _, _, _, H =>
    have h0 := H 0 (by simp)
    have h1 := H 1 (by simp)
    have h2 := H 2 (by simp)
    simp at h0 h1 h2
    exact ⟨t0.toNat, t1.toNat, t2.toNat, by simp; omega, by simp; omega, by simp; omega, by simp; omega, by simp [sumI]; omega⟩
theorem trip_before {n a b d a' b' d' : Nat} (h3 : n ≤ 3) (h : beforeB (trip n a' b' d') (trip n a b d) = true) : a' < a ∨ (a' = a ∧ (b' < b ∨ (b' = b ∧ d' < d))) := by
  unfold trip at h
  rcases (by omega : n = 0 ∨ n = 1 ∨ n = 2 ∨ n = 3) with rfl | rfl | rfl | rfl
  all_goals
    simp [beforeB] at h
  all_goals
    repeat' split at h
    all_goals first | omega | (simp at h; omega)
/-- No candidate before one is a blend. -/
def NoneB (P : List Int → Bool) (st : List Int) (wt : Int) (a b d : Nat) : Prop :=
  ∀ a' b' d' : Nat, a' ≤ stN st 0 → b' ≤ stN st 1 → d' ≤ stN st 2 → ((a' + b' + d' : Nat) : Int) = wt → (a' < a ∨ (a' = a ∧ (b' < b ∨ (b' = b ∧ d' < d)))) → P (trip st.length a' b' d') = false
theorem best_of {L : List (List Int)} {st : List Int} {wt g : Int} (hst : ∀ x ∈ st, 0 ≤ x ∧ x ≤ 30) (h3 : st.length ≤ 3) (h1 : 1 ≤ st.length) {a b d : Nat} (hn : NoneB (isBlendR L st wt g) st wt a b d) (hp : isBlendR L st wt g (trip st.length a b d) = true) :
    Best (fun ws => isBlendR L st wt g ws = true) (trip st.length a b d) := by
  refine ⟨hp, fun t ht => ?_⟩
  cases e : beforeB t (trip st.length a b d)
  · rfl
  · obtain ⟨i1, i2, -⟩ := isBlendR_iff.1 ht
    obtain ⟨a', b', d', rfl, j1, j2, j3, j4⟩ := trip_of hst h3 h1 i1
    have := hn a' b' d' j1 j2 j3 (by rw [← j4]; exact i2) (trip_before h3 e)
    rw [this] at ht; cases ht
theorem none_of {L : List (List Int)} {st : List Int} {wt g : Int} (hst : ∀ x ∈ st, 0 ≤ x ∧ x ≤ 30) (h3 : st.length ≤ 3) (h1 : 1 ≤ st.length) (hn : NoneB (isBlendR L st wt g) st wt (stN st 0 + 1) 0 0) (t : List Int) : isBlendR L st wt g t = false := by
  cases e : isBlendR L st wt g t
  · rfl
  · obtain ⟨i1, i2, -⟩ := isBlendR_iff.1 e
    obtain ⟨a', b', d', rfl, j1, j2, j3, j4⟩ := trip_of hst h3 h1 i1
    have := hn a' b' d' j1 j2 j3 (by rw [← j4]; exact i2) (by omega)
    rw [this] at e; cases e
theorem NoneB.nextD {P : List Int → Bool} {st : List Int} {wt : Int} {a b d : Nat} (h : NoneB P st wt a b d) (hd : ((a + b + d : Nat) : Int) = wt → P (trip st.length a b d) = false) : NoneB P st wt a b (d + 1) := fun a' b' d' h0 h1 h2 h3 h4 => by
  by_cases e : a' = a ∧ b' = b ∧ d' = d
  · obtain ⟨rfl, rfl, rfl⟩ := e; exact hd h3
  · exact h a' b' d' h0 h1 h2 h3 (by omega)
theorem NoneB.nextB {P : List Int → Bool} {st : List Int} {wt : Int} {a b d : Nat} (h : NoneB P st wt a b d) (hd : stN st 2 < d) : NoneB P st wt a (b + 1) 0 := fun a' b' d' h0 h1 h2 h3 h4 => h a' b' d' h0 h1 h2 h3 (by omega)
theorem NoneB.nextA {P : List Int → Bool} {st : List Int} {wt : Int} {a b : Nat} (h : NoneB P st wt a b 0) (hd : stN st 1 < b) : NoneB P st wt (a + 1) 0 0 := fun a' b' d' h0 h1 h2 h3 h4 => h a' b' d' h0 h1 h2 h3 (by omega)
end Go.Proofs.Ytjddcaimjofihaa
