/- The walk of the statement TopCropped; no condition. -/
import Derived.Test.YtjddcaimjofihaaKF
import Derived.Test.YtjddcaimjofihaaKQ
import Derived.Test.YtjddcaimjofihaaK4
import Derived.Test.YtjddcaimjofihaaK5
import Derived.Test.YtjddcaimjofihaaK6
import Derived.Test.YtjddcaimjofihaaB4
import Derived.Test.YtjddcaimjofihaaXG
import Derived.Test.YtjddcaimjofihaaKG
namespace Go.Proofs.Ytjddcaimjofihaa
open Go.RowKit Go.Shelf Go.Maps
set_option maxRecDepth 100000

theorem FlV.up {w w' : World} {v : Value} {f : Fl} (h : FlV (Lt w.heap.size) w v f) (hb : Below w.heap.size w w') : FlV (Lt w'.heap.size) w' v f := (h.below hb).le hb.size
theorem Sl.up {α : Type} {sz : Nat} {enc : α → List Value} {w w' : World} {v : Value} {l : List α} (h : Sl sz enc (Lt w.heap.size) w v l) (hb : Below w.heap.size w w') : Sl sz enc (Lt w'.heap.size) w' v l := (h.below hb).le hb.size
theorem Sl.emp {α : Type} {sz : Nat} {enc : α → List Value} {w w' : World} {v : Value} {l : List α} {p : Nat} {e : TypeId} (h : Sl sz enc (Lt w.heap.size) w v l) (hp : w.heap[p]? = some (.cells #[] e (0, 0))) (hg : w.grownBy w' (some p)) : Sl sz enc (Lt w'.heap.size) w' v l := by
  obtain ⟨a, cap, rfl, hcap, hor⟩ := h
  refine ⟨a, cap, rfl, hcap, ?_⟩
  rcases hor with hn | ⟨b, off, rfl, hb, hc⟩
  · exact .inl hn
  · refine .inr ⟨b, off, rfl, Nat.lt_of_lt_of_le hb hg.size, fun j x hx i c hi => ?_⟩
    have h1 := hc j x hx i c hi
    have hne : b ≠ p := by
      rintro rfl
      rw [cell_of_row hp] at h1
      simp at h1
    exact (World.cell?_of_block (a := ⟨b, _, none⟩) (hg.block b hb (fun e => hne (Option.some.inj e)))).trans h1
theorem FlV.emp {w w' : World} {v : Value} {f : Fl} {p : Nat} {e : TypeId} (h : FlV (Lt w.heap.size) w v f) (hp : w.heap[p]? = some (.cells #[] e (0, 0))) (hg : w.grownBy w' (some p)) : FlV (Lt w'.heap.size) w' v f := by
  obtain ⟨gv, wv, bv, cv, lv, rfl, h1, h2, h3, h4, h5⟩ := h
  exact ⟨gv, wv, bv, cv, lv, rfl, h1.emp hp hg, h2.emp hp hg, h3.emp hp hg, h4.emp hp hg, h5.emp hp hg⟩
/-- An empty slice that was made since, and its row. -/
def EmpV (n : Nat) (E : Value) (w : World) : Prop := ∃ p, E = .slice (some ⟨p, 0, none⟩) 0 0 ∧ n ≤ p ∧ w.heap[p]? = some (.cells #[] 3 (0, 0))
theorem EmpV.up {n : Nat} {E : Value} {w w' : World} (h : EmpV n E w) (hb : Below w.heap.size w w') : EmpV n E w' := by
  obtain ⟨p, rfl, h1, h2⟩ := h
  exact ⟨p, rfl, h1, (hb.block p (Array.getElem?_eq_some_iff.1 h2).1).trans h2⟩
theorem wp_via8 {P : Program} {c : Code} {Q : Exit → Act → World → Prop} {a : Act} {w : World} {act : Value → Value → Value → Value → Value → Value → Value → Value → Act} (F : Value → World → Prop)
    (h : c.wp P (Nrm fun a' w' => ∃ x0 x1 x2 x3 x4 x5 x6 x7, a' = act x0 x1 x2 x3 x4 x5 x6 x7 ∧ F x7 w') a w) (hq : ∀ x0 x1 x2 x3 x4 x5 x6 x7 w', F x7 w' → Q .normal (act x0 x1 x2 x3 x4 x5 x6 x7) w') : c.wp P Q a w :=
  Code.wp_mono (fun e a' w' hx => by
    cases e <;> first | exact hx.elim | skip
    obtain ⟨x0, x1, x2, x3, x4, x5, x6, x7, rfl, hf⟩ := hx
    exact hq _ _ _ _ _ _ _ _ _ hf) h

/-- The lists that the loop makes, after some rounds. -/
structure LoopC (l : List Cr) (j n : Nat) (wv sv : Value) (w4 wr : World) : Prop where
  size : w4.heap.size + 1 ≤ wr.heap.size
  ws : Own n 3 1 encI wr wv (wsC (l.take j))
  ss : Own n 3 1 encI wr sv (ssC (l.take j))
  ap : ∀ k, wv.ownBlock = some k → sv.ownBlock ≠ some k
  hs : ∃ hv, wr.heap[w4.heap.size]? = some (.cells #[hv, .slice none 0 0, .slice none 0 0] 35 (0, 0)) ∧ Own n 58 2 encR wr hv (hsC (l.take j))
  bd : Below w4.heap.size w4 wr
  small : ∀ c ∈ l.take j, c.weight ≤ 30 ∧ c.strength ≤ 100

theorem LoopC.e {l : List Cr} {j : Nat} {wv sv : Value} {w4 wr : World} (h : LoopC l j (w4.heap.size + 1) wv sv w4 wr) : ∃ hv, LoopE (wsC (l.take j)) (ssC (l.take j)) (hsC (l.take j)) wv sv hv hv w4 wr := by
  obtain ⟨hv, h1, h2⟩ := h.hs
  exact ⟨hv, h.size, h.ws, h.ss, h.ap, h2, h1, h.bd⟩
theorem LoopE.c {l : List Cr} {j : Nat} {c : Cr} {wv sv hv : Value} {w4 wr : World} (ht : l.take (j + 1) = l.take j ++ [c]) (h : LoopE (wsC (l.take j) ++ [c.weight]) (ssC (l.take j) ++ [c.strength]) (hsC (l.take j) ++ [⟨c.strength, c.strength⟩]) wv sv hv hv w4 wr)
    (hs : ∀ c ∈ l.take (j + 1), c.weight ≤ 30 ∧ c.strength ≤ 100) : LoopC l (j + 1) (w4.heap.size + 1) wv sv w4 wr := by
  refine ⟨h.size, ?_, ?_, h.ap, ⟨hv, h.row, ?_⟩, h.bd, hs⟩
  · rw [ht, wsC, List.map_append]; exact h.ws
  · rw [ht, ssC, List.map_append]; exact h.ss
  · rw [ht, hsC, List.map_append]; exact h.hs

set_option maxHeartbeats 4000000 in
theorem TopCropped_walk {w : World} (f : Fl) (v : Value) (h : FlV (Lt w.heap.size) w v f) (a : Int) (ha : 0 ≤ a ∧ a ≤ 65535) (b : Int) (hb : 0 ≤ b ∧ b ≤ 65535) : Calls Try.prog 11 #[v, .int .u16 a, .int .u16 b] w (RetT w) := by
  have h' := h
  obtain ⟨ga, gc, wa, wc, ba, bc, ca, cc, la, lc, rfl, hp1, hp2, hp3, hp4, hp5⟩ := h.open
  obtain ⟨W, hW⟩ : ∃ W, W = w.alloc (Obj.cells #[.int .i64 f.last, .slice ga f.growth.length gc, .slice wa f.wet.length wc, .slice ba f.base.length bc, .slice ca f.crops.length cc, .int .i64 f.ripe, .int .i64 f.late, .int .i64 f.trod, .slice la f.looks.length lc] 78) := ⟨_, rfl⟩
  have hWs : W.heap.size = w.heap.size + 1 := by rw [hW]; simp
  have hWb : Below w.heap.size w W := by rw [hW]; exact below_alloc1 (Nat.le_refl _) _
  have hWr : W.heap[w.heap.size]? = some (.cells #[.int .i64 f.last, .slice ga f.growth.length gc, .slice wa f.wet.length wc, .slice ba f.base.length bc, .slice ca f.crops.length cc, .int .i64 f.ripe, .int .i64 f.late, .int .i64 f.trod, .slice la f.looks.length lc] 78 (0, 0)) := by rw [hW]; exact heap_new _ _
  have HBOX := hid (fun w1 (hb : Below W.heap.size W w1) => (hb.block w.heap.size (by omega)).trans hWr : ∀ w1, Below W.heap.size W w1 → w1.heap[w.heap.size]? = _)
  clear hWr
  have HFL := hid (fun w1 (hb : Below W.heap.size W w1) => h'.below (hWb.trans (hb.mono (by omega))) : ∀ w1, Below W.heap.size W w1 → FlV (Lt w.heap.size) w1 _ f)
  have hWl : w.heap.size < W.heap.size := by omega
  have HWb := hid hWb
  clear h h' hp1 hp2 hp3 hp4 hp5 hWs hWb
  go_enter Try.func11, Try.ntmps11
  go_wp2_with fail
  rw [← hW]
  clear hW
  have hrow := HBOX.out W (Below.refl _ _)
  have j0 := cell_of_row hrow 0
  have j1 := cell_of_row hrow 1
  have j2 := cell_of_row hrow 2
  have j3 := cell_of_row hrow 3
  have j4 := cell_of_row hrow 4
  have j5 := cell_of_row hrow 5
  have j6 := cell_of_row hrow 6
  have j7 := cell_of_row hrow 7
  have j8 := cell_of_row hrow 8
  simp only [List.getElem?_toArray, List.getElem?_cons_zero, List.getElem?_cons_succ] at j0 j1 j2 j3 j4 j5 j6 j7 j8
  clear hrow
  go_wp2_with fail
  refine (thinS_any f _ w.heap.size W (by omega) (HFL.out W (Below.refl _ _))).mono ?_
  rintro e w1 ⟨tb, rfl, hsm, hb1⟩
  have HB1 := hid hb1
  have hs1 := hb1.size
  have HSM := hid hsm
  clear hb1 hsm j0 j1 j2 j3 j4 j5 j6 j7 j8
  have hrow := HBOX.out w1 HB1.out
  have j0 := cell_of_row hrow 0
  have j1 := cell_of_row hrow 1
  have j2 := cell_of_row hrow 2
  have j3 := cell_of_row hrow 3
  have j4 := cell_of_row hrow 4
  have j5 := cell_of_row hrow 5
  have j6 := cell_of_row hrow 6
  have j7 := cell_of_row hrow 7
  have j8 := cell_of_row hrow 8
  simp only [List.getElem?_toArray, List.getElem?_cons_zero, List.getElem?_cons_succ] at j0 j1 j2 j3 j4 j5 j6 j7 j8
  clear hrow
  have hl1 : w.heap.size < w1.heap.size := by omega
  cases tb with
  | false =>
    go_wp2_with fail
    refine (barrelled_any w1).mono ?_
    rintro e wZ ⟨rfl, hbZ⟩
    have HZ := hid (HWb.out.trans ((below_after HB1.out hbZ (Nat.le_refl _)).mono (by omega)))
    clear hbZ
    go_wp2_with fail
    go_ret
    exact ⟨rfl, HZ.out⟩
  | true =>
    have hsmall := HSM.out rfl
    go_wp2_with fail
    refine (faultS_any f _ w.heap.size w1 (by omega) (HFL.out w1 HB1.out) hsmall).mono ?_
    rintro e w2 ⟨x, rfl, hfew, hb2⟩
    have HB2 := hid (below_after HB1.out hb2 (Nat.le_refl _))
    have hs2 := HB2.out.size
    clear hb2 j0 j1 j2 j3 j4 j5 j6 j7 j8 HB1
    by_cases hx : x = 0
    · have hgood := hfew hx
      subst hx
      obtain ⟨hg, hmany⟩ := hgood
      have hrow := HBOX.out w2 HB2.out
      have j0 := cell_of_row hrow 0
      have j1 := cell_of_row hrow 1
      have j2 := cell_of_row hrow 2
      have j3 := cell_of_row hrow 3
      have j4 := cell_of_row hrow 4
      have j5 := cell_of_row hrow 5
      have j6 := cell_of_row hrow 6
      have j7 := cell_of_row hrow 7
      have j8 := cell_of_row hrow 8
      simp only [List.getElem?_toArray, List.getElem?_cons_zero, List.getElem?_cons_succ] at j0 j1 j2 j3 j4 j5 j6 j7 j8
      clear hrow
      have hl2 : w.heap.size < w2.heap.size := by omega
      obtain ⟨g1, g2⟩ := hg.last
      have HGD := hid hg
      have HMANY := hid hmany
      have HSMALL := hid hsmall
      clear hg hmany hsmall hfew
      go_wp2_with fail
      rw [mask_eq f.last b ⟨g1, g2⟩ hb]
      obtain ⟨hd1, hd2⟩ := mask_lt f.last b ⟨g1, g2⟩
      generalize b.toNat % 2 ^ (f.last.toNat + 1) = d at *
      refine (bitsS_any d hd2 w2).mono ?_
      rintro e w3 ⟨pv, rfl, hown, hb3⟩
      have HB3 := hid (below_after HB2.out hb3 (Nat.le_refl _))
      have hs3 := HB3.out.size
      have hpi := hown.slLt encI_length
      obtain ⟨pa, pc, hpv, hpc, -⟩ := hpi.open1
      subst hpv
      have HPI := hid hpi
      have hbl := bitsL_len d
      have HPL := hid (fun k hk => bits_plan f.last ⟨g1, g2⟩ d k f.base.length hd1 hk : ∀ k, k ≤ f.base.length → planB f.last f.base.length ((bitsL d).take k) = true)
      clear hb3 j0 j1 j2 j3 j4 j5 j6 j7 j8 hown hpi hd1 hd2 HB2
      have hrow := HBOX.out w3 HB3.out
      have j0 := cell_of_row hrow 0
      have j1 := cell_of_row hrow 1
      have j2 := cell_of_row hrow 2
      have j3 := cell_of_row hrow 3
      have j4 := cell_of_row hrow 4
      have j5 := cell_of_row hrow 5
      have j6 := cell_of_row hrow 6
      have j7 := cell_of_row hrow 7
      have j8 := cell_of_row hrow 8
      simp only [List.getElem?_toArray, List.getElem?_cons_zero, List.getElem?_cons_succ] at j0 j1 j2 j3 j4 j5 j6 j7 j8
      clear hrow
      have hl3 : w.heap.size < w3.heap.size := by omega
      have hbL := HGD.out.baseL
      obtain ⟨bl, hble⟩ : ∃ bl, bl = f.base.length := ⟨_, rfl⟩
      rw [← hble] at j3 hbL
      obtain ⟨pl, hple⟩ : ∃ pl, pl = (bitsL d).length := ⟨_, rfl⟩
      rw [← hple] at hpc hbl ⊢
      go_wp2_with fail
      have hgw : f.growth.length = f.wet.length := by have := HGD.out.growthL; have := HGD.out.wetL; omega
      have hgs : f.growth.length ≤ 10 := by have := HGD.out.growthL; omega
      obtain ⟨k, hk⟩ : ∃ k, k = min pl bl := ⟨_, rfl⟩
      have hkk : (min ((bitsL d).length : Int) (f.base.length : Int)).toNat = k := by omega
      rw [hkk]
      clear hkk
      have HPT := hid (HPI.out.take k (by omega))
      have hplan := HPL.out k (by omega)
      have hpll : ((bitsL d).take k).length = k := by rw [List.length_take]; omega
      generalize (bitsL d).take k = plan at *
      have HPLAN := hid hplan
      obtain ⟨m, hm⟩ : ∃ m, m = manyF f.growth f.wet 1 := ⟨_, rfl⟩
      have hm1 := manyF_pos HGD.out
      have HM := hid hm
      rw [← hm] at hm1
      have hL1 := hid (nthG_listed f.growth f.wet hgw HGD.out.sizes (a.tmod m))
      have hL2 := hid (nthW_listed f.growth f.wet hgw HGD.out.wet (a.tmod m))
      have hN1 := hid (nthG_length f.growth f.wet hgw HGD.out.sizes (a.tmod m))
      have hN2 := hid (nthW_length f.growth f.wet hgw HGD.out.wet (a.tmod m))
      have hmd : 0 ≤ a.tmod m ∧ a.tmod m ≤ 3000 := by
        rw [Int.tmod_eq_emod_of_nonneg ha.1]
        have := Int.emod_lt_of_pos a (show 0 < m by omega)
        exact ⟨Int.emod_nonneg _ (by omega), by omega⟩
      have hm0 : m ≠ 0 := by omega
      have hwa : IntKind.i64.wrap a = a := IntWalk.i64_in _ (by omega)
      have HGW := hid hgw
      have hws : f.wet.length ≤ 10 := by omega
      have hk3 : k ≤ 3 := by omega
      have HPLL := hid hpll
      clear hgw hpll hm hplan hk hple hble j0 j1 j2 j3 j4 j5 j6 j7 j8 HPI HPL
      obtain ⟨D, hD⟩ : ∃ D, D = w3.drew := ⟨_, rfl⟩
      have hBD : Below w3.heap.size w3 D := by rw [hD]; exact (Below.refl _ _).drew
      have hsD : D.heap.size ≤ w3.heap.size ∧ w3.heap.size ≤ D.heap.size := by rw [hD]; simp
      have HBD := hid (fun w' h => below_after (below_after HB3.out hBD (Nat.le_refl _)) h (Nat.le_refl _) : ∀ w', Below D.heap.size D w' → Below W.heap.size W w')
      have HPD := hid (fun w' h => (HPT.out.below hBD).below (h.mono (by omega)) : ∀ w', Below D.heap.size D w' → Ints (Lt w3.heap.size) w' (.slice pa k pc) plan)
      have HL := hid (fun w' h => HBOX.out w' (HBD.out w' h) : ∀ w', Below D.heap.size D w' → w'.heap[w.heap.size]? = _)
      have HDD := hid hD
      have HG := below_grow D
      clear hD hBD
      apply wp_via8 (fun u w' => Crs (Lt w'.heap.size) w' u (cropsF f (nthG f.growth f.wet (a.tmod m)) (nthW f.growth f.wet (a.tmod m)) plan) ∧ Below W.heap.size W w')
      refine wp_region_grow (by kernel_rfl) 18 (Below D.heap.size D) ?_ ?_
      · rw [← HDD.out]; exact Below.refl _ _
      rw [← HDD.out]
      refine wpG_take (i := 0) (v := .agg #[.int .i64 f.last, .slice ga f.growth.length gc, .slice wa f.wet.length wc, .slice ba f.base.length bc, .slice ca f.crops.length cc, .int .i64 f.ripe, .int .i64 f.late, .int .i64 f.trod, .slice la f.looks.length lc]) rfl rfl (by kernel_rfl) (by kernel_rfl) (by kernel_rfl) (by kernel_rfl) (fun _ _ _ h => h) (by rfl) (fun w' hS' => grow_value ?_ hS') ?_
      · have hwr := HL.out _ hS'; have j0 := cell_of_row hwr 0; have j1 := cell_of_row hwr 1; have j2 := cell_of_row hwr 2; have j3 := cell_of_row hwr 3; have j4 := cell_of_row hwr 4; have j5 := cell_of_row hwr 5; have j6 := cell_of_row hwr 6; have j7 := cell_of_row hwr 7; have j8 := cell_of_row hwr 8; simp only [List.getElem?_toArray, List.getElem?_cons_zero, List.getElem?_cons_succ] at j0 j1 j2 j3 j4 j5 j6 j7 j8; go_simp
      try simp only [List.setIfInBounds_toArray, List.set_cons_zero, List.set_cons_succ]
      refine wpG_take (i := 2) (v := .agg #[.int .i64 f.last, .slice ga f.growth.length gc, .slice wa f.wet.length wc, .slice ba f.base.length bc, .slice ca f.crops.length cc, .int .i64 f.ripe, .int .i64 f.late, .int .i64 f.trod, .slice la f.looks.length lc]) rfl rfl (by kernel_rfl) (by kernel_rfl) (by kernel_rfl) (by kernel_rfl) (fun _ _ _ h => h) (by rfl) (fun w' hS' => grow_value ?_ hS') ?_
      · have hwr := HL.out _ hS'; have j0 := cell_of_row hwr 0; have j1 := cell_of_row hwr 1; have j2 := cell_of_row hwr 2; have j3 := cell_of_row hwr 3; have j4 := cell_of_row hwr 4; have j5 := cell_of_row hwr 5; have j6 := cell_of_row hwr 6; have j7 := cell_of_row hwr 7; have j8 := cell_of_row hwr 8; simp only [List.getElem?_toArray, List.getElem?_cons_zero, List.getElem?_cons_succ] at j0 j1 j2 j3 j4 j5 j6 j7 j8; go_simp
      try simp only [List.setIfInBounds_toArray, List.set_cons_zero, List.set_cons_succ]
      refine wpG_take (i := 5) (v := .agg #[.int .i64 f.last, .slice ga f.growth.length gc, .slice wa f.wet.length wc, .slice ba f.base.length bc, .slice ca f.crops.length cc, .int .i64 f.ripe, .int .i64 f.late, .int .i64 f.trod, .slice la f.looks.length lc]) rfl rfl (by kernel_rfl) (by kernel_rfl) (by kernel_rfl) (by kernel_rfl) (fun _ _ _ h => h) (by rfl) (fun w' hS' => grow_value ?_ hS') ?_
      · have hwr := HL.out _ hS'; have j0 := cell_of_row hwr 0; have j1 := cell_of_row hwr 1; have j2 := cell_of_row hwr 2; have j3 := cell_of_row hwr 3; have j4 := cell_of_row hwr 4; have j5 := cell_of_row hwr 5; have j6 := cell_of_row hwr 6; have j7 := cell_of_row hwr 7; have j8 := cell_of_row hwr 8; simp only [List.getElem?_toArray, List.getElem?_cons_zero, List.getElem?_cons_succ] at j0 j1 j2 j3 j4 j5 j6 j7 j8; go_simp
      try simp only [List.setIfInBounds_toArray, List.set_cons_zero, List.set_cons_succ]
      refine wpG_take (i := 3) (v := .int .u16 a) rfl rfl (by kernel_rfl) (by kernel_rfl) (by kernel_rfl) (by kernel_rfl) (fun _ _ _ h => h) (by rfl) (fun w' hS' => grow_value ?_ hS') ?_
      · go_simp
      try simp only [List.setIfInBounds_toArray, List.set_cons_zero, List.set_cons_succ]
      refine wpG_take (i := 4) (v := .int .i64 a) rfl rfl (by kernel_rfl) (by kernel_rfl) (by kernel_rfl) (by kernel_rfl) (fun _ _ _ h => h) (by rfl) (fun w' hS' => grow_value ?_ hS') ?_
      · go_simp
      try simp only [List.setIfInBounds_toArray, List.set_cons_zero, List.set_cons_succ]
      refine wpG_take (i := 11) (v := .slice pa k pc) rfl rfl (by kernel_rfl) (by kernel_rfl) (by kernel_rfl) (by kernel_rfl) (fun _ _ _ h => h) (by rfl) (fun w' hS' => grow_value ?_ hS') ?_
      · go_simp
      try simp only [List.setIfInBounds_toArray, List.set_cons_zero, List.set_cons_succ]
      · skip
        refine wpG_fork (i := 1) (j := 10) rfl rfl rfl rfl (by kernel_rfl) (by rfl) (by rfl) (fun wI hbI hSI => ?_) (fun wI hbI hSI => ?_)
        · skip
          try replace HF := hid (HF.out.up hbI)
          try replace HU1 := hid (HU1.out.up hbI)
          try replace HV1 := hid (HV1.out.up hbI)
          try replace HU2 := hid (HU2.out.up hbI)
          try replace HV2 := hid (HV2.out.up hbI)
          try replace HE := hid (HE.out.below hbI)
          try replace HR := hid (HR.out.up hbI)
          go_simp
          refine (fieldM_any f _ w.heap.size wI (by have := (HBD.out wI hSI).size; omega) (HFL.out wI (HBD.out wI hSI)) HSMALL.out).mono ?_
          rintro e wJ ⟨F, rfl, hF, hbJ⟩
          have HF := hid hF
          have hSJ := HG _ _ hSI hbJ
          try replace HF := hid (HF.out.up hbJ)
          try replace HU1 := hid (HU1.out.up hbJ)
          try replace HV1 := hid (HV1.out.up hbJ)
          try replace HU2 := hid (HU2.out.up hbJ)
          try replace HV2 := hid (HV2.out.up hbJ)
          try replace HE := hid (HE.out.below hbJ)
          try replace HR := hid (HR.out.up hbJ)
          refine ⟨hSJ, ?_⟩
          clear hF hbI hSI hbJ hSJ
          try simp only [List.setIfInBounds_toArray, List.set_cons_zero, List.set_cons_succ]
          refine wpG_fork (i := 6) (j := 10) rfl rfl rfl rfl (by kernel_rfl) (by rfl) (by rfl) (fun wI hbI hSI => ?_) (fun wI hbI hSI => ?_)
          · skip
            try replace HF := hid (HF.out.up hbI)
            try replace HU1 := hid (HU1.out.up hbI)
            try replace HV1 := hid (HV1.out.up hbI)
            try replace HU2 := hid (HU2.out.up hbI)
            try replace HV2 := hid (HV2.out.up hbI)
            try replace HE := hid (HE.out.below hbI)
            try replace HR := hid (HR.out.up hbI)
            go_simp
            refine (manyS_any f HGD.out.growth HGD.out.wet HGW.out (by omega) _ w.heap.size wI (by have := (HBD.out wI hSI).size; omega) (HFL.out wI (HBD.out wI hSI))).mono ?_
            rintro e wJ ⟨rfl, hbJ⟩
            have hSJ := HG _ _ hSI hbJ
            try replace HF := hid (HF.out.up hbJ)
            try replace HU1 := hid (HU1.out.up hbJ)
            try replace HV1 := hid (HV1.out.up hbJ)
            try replace HU2 := hid (HU2.out.up hbJ)
            try replace HV2 := hid (HV2.out.up hbJ)
            try replace HE := hid (HE.out.below hbJ)
            try replace HR := hid (HR.out.up hbJ)
            refine ⟨hSJ, ?_⟩
            clear hbI hSI hbJ hSJ
            rw [← HM.out]
            try simp only [List.setIfInBounds_toArray, List.set_cons_zero, List.set_cons_succ]
            refine wpG_take (i := 7) (v := .int .i64 (a.tmod m)) rfl rfl (by kernel_rfl) (by kernel_rfl) (by kernel_rfl) (by kernel_rfl) (fun _ _ _ h => h) (by rfl) (fun w' hS' => grow_value ?_ hS') ?_
            · go_simp
            try simp only [List.setIfInBounds_toArray, List.set_cons_zero, List.set_cons_succ]
            refine wpG_fork (i := 8) (j := 10) rfl rfl rfl rfl (by kernel_rfl) (by rfl) (by rfl) (fun wI hbI hSI => ?_) (fun wI hbI hSI => ?_)
            · skip
              try replace HF := hid (HF.out.up hbI)
              try replace HU1 := hid (HU1.out.up hbI)
              try replace HV1 := hid (HV1.out.up hbI)
              try replace HU2 := hid (HU2.out.up hbI)
              try replace HV2 := hid (HV2.out.up hbI)
              try replace HE := hid (HE.out.below hbI)
              try replace HR := hid (HR.out.up hbI)
              go_simp
              refine (nthS_any f HGD.out.growth HGD.out.wet HGW.out (by omega) (a.tmod m) (by omega) _ w.heap.size wI (by have := (HBD.out wI hSI).size; omega) (HFL.out wI (HBD.out wI hSI))).mono ?_
              rintro e wJ ⟨U1, V1, rfl, hU, hV, hbJ⟩
              have hSJ := HG _ _ hSI hbJ
              try replace HF := hid (HF.out.up hbJ)
              try replace HU1 := hid (HU1.out.up hbJ)
              try replace HV1 := hid (HV1.out.up hbJ)
              try replace HU2 := hid (HU2.out.up hbJ)
              try replace HV2 := hid (HV2.out.up hbJ)
              try replace HE := hid (HE.out.below hbJ)
              try replace HR := hid (HR.out.up hbJ)
              have HU1 := hid hU
              have HV1 := hid hV
              refine ⟨hSJ, ?_⟩
              clear hU hV hbI hSI hbJ hSJ
              try simp only [List.setIfInBounds_toArray, List.set_cons_zero, List.set_cons_succ]
              refine wpG_fork (i := 9) (j := 10) rfl rfl rfl rfl (by kernel_rfl) (by rfl) (by rfl) (fun wI hbI hSI => ?_) (fun wI hbI hSI => ?_)
              · skip
                try replace HF := hid (HF.out.up hbI)
                try replace HU1 := hid (HU1.out.up hbI)
                try replace HV1 := hid (HV1.out.up hbI)
                try replace HU2 := hid (HU2.out.up hbI)
                try replace HV2 := hid (HV2.out.up hbI)
                try replace HE := hid (HE.out.below hbI)
                try replace HR := hid (HR.out.up hbI)
                go_simp
                refine (truthM_any _ _ U1 V1 wI.heap.size wI (Nat.le_refl _) HU1.out HV1.out (by rw [hN1.out]; omega) (by rw [hN2.out]; omega)).mono ?_
                rintro e wJ ⟨U2, V2, rfl, hU, hV, hbJ⟩
                have hSJ := HG _ _ hSI hbJ
                try replace HF := hid (HF.out.up hbJ)
                try replace HU1 := hid (HU1.out.up hbJ)
                try replace HV1 := hid (HV1.out.up hbJ)
                try replace HU2 := hid (HU2.out.up hbJ)
                try replace HV2 := hid (HV2.out.up hbJ)
                try replace HE := hid (HE.out.below hbJ)
                try replace HR := hid (HR.out.up hbJ)
                have HU2 := hid hU
                have HV2 := hid hV
                refine ⟨hSJ, ?_⟩
                clear hU hV hbI hSI hbJ hSJ
                try simp only [List.setIfInBounds_toArray, List.set_cons_zero, List.set_cons_succ]
                refine wpG_only (i := 10) rfl (by rfl) (by kernel_rfl) (by rfl) (fun wI hbI hSI => ?_)
                try replace HF := hid (HF.out.up hbI)
                try replace HU1 := hid (HU1.out.up hbI)
                try replace HV1 := hid (HV1.out.up hbI)
                try replace HU2 := hid (HU2.out.up hbI)
                try replace HV2 := hid (HV2.out.up hbI)
                try replace HE := hid (HE.out.below hbI)
                try replace HR := hid (HR.out.up hbI)
                go_simp
                have hbJ := below_alloc1 (Nat.le_refl wI.heap.size) (Obj.cells #[] 3)
                have HE := hid (Own.empty (α := Int) (sz := 1) (enc := encI) (e := 3) (base := D.heap.size) wI hSI.size)
                obtain ⟨wJ, hwJ⟩ : ∃ wJ, wJ = wI.alloc (Obj.cells #[] 3) := ⟨_, rfl⟩
                have HR := hid (show EmpV D.heap.size (.slice (some ⟨wI.heap.size, 0, none⟩) 0 0) (wI.alloc (Obj.cells #[] 3)) from ⟨_, rfl, hSI.size, heap_new _ _⟩)
                rw [← hwJ] at hbJ HE HR
                obtain ⟨E, hE⟩ : ∃ E, E = Value.slice (some ⟨wI.heap.size, 0, none⟩) 0 0 := ⟨_, rfl⟩
                rw [← hE] at HE HR
                have hSJ := HG _ _ hSI hbJ
                try replace HF := hid (HF.out.up hbJ)
                try replace HU1 := hid (HU1.out.up hbJ)
                try replace HV1 := hid (HV1.out.up hbJ)
                try replace HU2 := hid (HU2.out.up hbJ)
                try replace HV2 := hid (HV2.out.up hbJ)
                try replace HE := hid (HE.out.below hbJ)
                try replace HR := hid (HR.out.up hbJ)
                refine ⟨by rw [← hwJ]; exact hSJ, ?_⟩
                rw [← hwJ, ← hE]
                clear hbI hSI hbJ hwJ hE hSJ
                try simp only [List.setIfInBounds_toArray, List.set_cons_zero, List.set_cons_succ]
                refine wpG_only (i := 12) rfl (by rfl) (by kernel_rfl) (by rfl) (fun wI hbI hSI => ?_)
                try replace HF := hid (HF.out.up hbI)
                try replace HU1 := hid (HU1.out.up hbI)
                try replace HV1 := hid (HV1.out.up hbI)
                try replace HU2 := hid (HU2.out.up hbI)
                try replace HV2 := hid (HV2.out.up hbI)
                try replace HE := hid (HE.out.below hbI)
                try replace HR := hid (HR.out.up hbI)
                refine wp_appendL encI (.tmp 59) (.tmp 60) 47 rfl D.heap.size 3 (.int .i64 0) 1 8 ints_under infoInt rfl (by decide) encI_length encI_one E [] (by rfl) HE.out (Lt w3.heap.size) (.slice pa k pc) plan (by rfl) (HPD.out wI hSI) (by have := HPLL.out; simp; omega) (by decide) hSI.size ?_
                intro A wJ hownA hgrA
                rw [List.nil_append] at hownA
                have hSJ := hSI.grown hgrA hSI.size (fun k hk => (HE.out.block k hk).1)
                obtain ⟨p, hEp, hpn, hpr⟩ := HR.out
                rw [hEp] at hgrA
                have hgrB : wI.grownBy wJ (some p) := hgrA
                have HF9 := hid (HF.out.emp hpr hgrB)
                have HU9 := hid (HU2.out.emp hpr hgrB)
                have HV9 := hid (HV2.out.emp hpr hgrB)
                have HA := hid (hownA.slLt encI_length)
                refine ⟨hSJ, ?_⟩
                clear hownA hgrA hSJ hEp hpn hpr hgrB hbI hSI HE HR HF HU1 HV1 HU2 HV2
                try simp only [List.setIfInBounds_toArray, List.set_cons_zero, List.set_cons_succ]
                refine wpG_only (i := 13) rfl (by rfl) (by kernel_rfl) (by rfl) (fun wI hbI hSI => ?_)
                go_simp
                refine (playK_ok f ⟨HGD.out, HMANY.out⟩ _ _ plan hL1.out hL2.out HPLAN.out F U2 V2 A wI.heap.size wI (Nat.le_refl _) (HF9.out.up hbI) (HU9.out.up hbI) (HV9.out.up hbI) (HA.out.up hbI)).mono ?_
                rintro e wJ ⟨u, rfl, hcr, hbJ⟩
                have hSJ := HG _ _ hSI hbJ
                have HCR := hid hcr
                refine ⟨hSJ, ?_⟩
                clear hcr hbJ hSJ hbI hSI HF9 HU9 HV9 HA
                try simp only [List.setIfInBounds_toArray, List.set_cons_zero, List.set_cons_succ]
                refine wpG_take (i := 14) (v := .tuple #[u, .int .i64 0]) rfl rfl (by kernel_rfl) (by kernel_rfl) (by kernel_rfl) (by kernel_rfl) (fun _ _ _ h => h) (by rfl) (fun w' hS' => grow_value ?_ hS') ?_
                · go_simp
                try simp only [List.setIfInBounds_toArray, List.set_cons_zero, List.set_cons_succ]
                refine wpG_take (i := 15) (v := u) rfl rfl (by kernel_rfl) (by kernel_rfl) (by kernel_rfl) (by kernel_rfl) (fun _ _ _ h => h) (by rfl) (fun w' hS' => grow_value ?_ hS') ?_
                · go_simp
                try simp only [List.setIfInBounds_toArray, List.set_cons_zero, List.set_cons_succ]
                refine wpG_take (i := 16) (v := .int .i64 0) rfl rfl (by kernel_rfl) (by kernel_rfl) (by kernel_rfl) (by kernel_rfl) (fun _ _ _ h => h) (by rfl) (fun w' hS' => grow_value ?_ hS') ?_
                · go_simp
                try simp only [List.setIfInBounds_toArray, List.set_cons_zero, List.set_cons_succ]
                refine wpG_only (i := 17) rfl (by rfl) (by kernel_rfl) (by rfl) (fun wI hbI hSI => ?_)
                have HSI := hid hSI
                have HCI := hid (HCR.out.up hbI)
                clear hSI hbI HCR
                go_simp
                refine ⟨HSI.out, ?_⟩
                clear HSI
                try simp only [List.setIfInBounds_toArray, List.set_cons_zero, List.set_cons_succ]
                refine wpG_last rfl (by kernel_rfl) (by kernel_rfl) (by rfl) (fun wI hbI hSI => ?_)
                have hQQ : Crs (Lt wI.heap.size) wI u (cropsF f (nthG f.growth f.wet (a.tmod m)) (nthW f.growth f.wet (a.tmod m)) plan) ∧ Below W.heap.size W wI := ⟨HCI.out.up hbI, HBD.out wI hSI⟩
                clear hbI hSI HCI
                go_simp
                exact ⟨F, U1, V1, U2, V2, E, A, u, rfl, hQQ⟩
              · skip
                try replace HF := hid (HF.out.up hbI)
                try replace HU1 := hid (HU1.out.up hbI)
                try replace HV1 := hid (HV1.out.up hbI)
                try replace HU2 := hid (HU2.out.up hbI)
                try replace HV2 := hid (HV2.out.up hbI)
                try replace HE := hid (HE.out.below hbI)
                try replace HR := hid (HR.out.up hbI)
                go_simp
                have hbJ := below_alloc1 (Nat.le_refl wI.heap.size) (Obj.cells #[] 3)
                have HE := hid (Own.empty (α := Int) (sz := 1) (enc := encI) (e := 3) (base := D.heap.size) wI hSI.size)
                obtain ⟨wJ, hwJ⟩ : ∃ wJ, wJ = wI.alloc (Obj.cells #[] 3) := ⟨_, rfl⟩
                have HR := hid (show EmpV D.heap.size (.slice (some ⟨wI.heap.size, 0, none⟩) 0 0) (wI.alloc (Obj.cells #[] 3)) from ⟨_, rfl, hSI.size, heap_new _ _⟩)
                rw [← hwJ] at hbJ HE HR
                obtain ⟨E, hE⟩ : ∃ E, E = Value.slice (some ⟨wI.heap.size, 0, none⟩) 0 0 := ⟨_, rfl⟩
                rw [← hE] at HE HR
                have hSJ := HG _ _ hSI hbJ
                try replace HF := hid (HF.out.up hbJ)
                try replace HU1 := hid (HU1.out.up hbJ)
                try replace HV1 := hid (HV1.out.up hbJ)
                try replace HU2 := hid (HU2.out.up hbJ)
                try replace HV2 := hid (HV2.out.up hbJ)
                try replace HE := hid (HE.out.below hbJ)
                try replace HR := hid (HR.out.up hbJ)
                refine ⟨by rw [← hwJ]; exact hSJ, ?_⟩
                rw [← hwJ, ← hE]
                clear hbI hSI hbJ hwJ hE hSJ
                try simp only [List.setIfInBounds_toArray, List.set_cons_zero, List.set_cons_succ]
                refine wpG_only (i := 9) rfl (by rfl) (by kernel_rfl) (by rfl) (fun wI hbI hSI => ?_)
                try replace HF := hid (HF.out.up hbI)
                try replace HU1 := hid (HU1.out.up hbI)
                try replace HV1 := hid (HV1.out.up hbI)
                try replace HU2 := hid (HU2.out.up hbI)
                try replace HV2 := hid (HV2.out.up hbI)
                try replace HE := hid (HE.out.below hbI)
                try replace HR := hid (HR.out.up hbI)
                go_simp
                refine (truthM_any _ _ U1 V1 wI.heap.size wI (Nat.le_refl _) HU1.out HV1.out (by rw [hN1.out]; omega) (by rw [hN2.out]; omega)).mono ?_
                rintro e wJ ⟨U2, V2, rfl, hU, hV, hbJ⟩
                have hSJ := HG _ _ hSI hbJ
                try replace HF := hid (HF.out.up hbJ)
                try replace HU1 := hid (HU1.out.up hbJ)
                try replace HV1 := hid (HV1.out.up hbJ)
                try replace HU2 := hid (HU2.out.up hbJ)
                try replace HV2 := hid (HV2.out.up hbJ)
                try replace HE := hid (HE.out.below hbJ)
                try replace HR := hid (HR.out.up hbJ)
                have HU2 := hid hU
                have HV2 := hid hV
                refine ⟨hSJ, ?_⟩
                clear hU hV hbI hSI hbJ hSJ
                try simp only [List.setIfInBounds_toArray, List.set_cons_zero, List.set_cons_succ]
                refine wpG_only (i := 12) rfl (by rfl) (by kernel_rfl) (by rfl) (fun wI hbI hSI => ?_)
                try replace HF := hid (HF.out.up hbI)
                try replace HU1 := hid (HU1.out.up hbI)
                try replace HV1 := hid (HV1.out.up hbI)
                try replace HU2 := hid (HU2.out.up hbI)
                try replace HV2 := hid (HV2.out.up hbI)
                try replace HE := hid (HE.out.below hbI)
                try replace HR := hid (HR.out.up hbI)
                refine wp_appendL encI (.tmp 59) (.tmp 60) 47 rfl D.heap.size 3 (.int .i64 0) 1 8 ints_under infoInt rfl (by decide) encI_length encI_one E [] (by rfl) HE.out (Lt w3.heap.size) (.slice pa k pc) plan (by rfl) (HPD.out wI hSI) (by have := HPLL.out; simp; omega) (by decide) hSI.size ?_
                intro A wJ hownA hgrA
                rw [List.nil_append] at hownA
                have hSJ := hSI.grown hgrA hSI.size (fun k hk => (HE.out.block k hk).1)
                obtain ⟨p, hEp, hpn, hpr⟩ := HR.out
                rw [hEp] at hgrA
                have hgrB : wI.grownBy wJ (some p) := hgrA
                have HF9 := hid (HF.out.emp hpr hgrB)
                have HU9 := hid (HU2.out.emp hpr hgrB)
                have HV9 := hid (HV2.out.emp hpr hgrB)
                have HA := hid (hownA.slLt encI_length)
                refine ⟨hSJ, ?_⟩
                clear hownA hgrA hSJ hEp hpn hpr hgrB hbI hSI HE HR HF HU1 HV1 HU2 HV2
                try simp only [List.setIfInBounds_toArray, List.set_cons_zero, List.set_cons_succ]
                refine wpG_only (i := 13) rfl (by rfl) (by kernel_rfl) (by rfl) (fun wI hbI hSI => ?_)
                go_simp
                refine (playK_ok f ⟨HGD.out, HMANY.out⟩ _ _ plan hL1.out hL2.out HPLAN.out F U2 V2 A wI.heap.size wI (Nat.le_refl _) (HF9.out.up hbI) (HU9.out.up hbI) (HV9.out.up hbI) (HA.out.up hbI)).mono ?_
                rintro e wJ ⟨u, rfl, hcr, hbJ⟩
                have hSJ := HG _ _ hSI hbJ
                have HCR := hid hcr
                refine ⟨hSJ, ?_⟩
                clear hcr hbJ hSJ hbI hSI HF9 HU9 HV9 HA
                try simp only [List.setIfInBounds_toArray, List.set_cons_zero, List.set_cons_succ]
                refine wpG_take (i := 14) (v := .tuple #[u, .int .i64 0]) rfl rfl (by kernel_rfl) (by kernel_rfl) (by kernel_rfl) (by kernel_rfl) (fun _ _ _ h => h) (by rfl) (fun w' hS' => grow_value ?_ hS') ?_
                · go_simp
                try simp only [List.setIfInBounds_toArray, List.set_cons_zero, List.set_cons_succ]
                refine wpG_take (i := 15) (v := u) rfl rfl (by kernel_rfl) (by kernel_rfl) (by kernel_rfl) (by kernel_rfl) (fun _ _ _ h => h) (by rfl) (fun w' hS' => grow_value ?_ hS') ?_
                · go_simp
                try simp only [List.setIfInBounds_toArray, List.set_cons_zero, List.set_cons_succ]
                refine wpG_take (i := 16) (v := .int .i64 0) rfl rfl (by kernel_rfl) (by kernel_rfl) (by kernel_rfl) (by kernel_rfl) (fun _ _ _ h => h) (by rfl) (fun w' hS' => grow_value ?_ hS') ?_
                · go_simp
                try simp only [List.setIfInBounds_toArray, List.set_cons_zero, List.set_cons_succ]
                refine wpG_only (i := 17) rfl (by rfl) (by kernel_rfl) (by rfl) (fun wI hbI hSI => ?_)
                have HSI := hid hSI
                have HCI := hid (HCR.out.up hbI)
                clear hSI hbI HCR
                go_simp
                refine ⟨HSI.out, ?_⟩
                clear HSI
                try simp only [List.setIfInBounds_toArray, List.set_cons_zero, List.set_cons_succ]
                refine wpG_last rfl (by kernel_rfl) (by kernel_rfl) (by rfl) (fun wI hbI hSI => ?_)
                have hQQ : Crs (Lt wI.heap.size) wI u (cropsF f (nthG f.growth f.wet (a.tmod m)) (nthW f.growth f.wet (a.tmod m)) plan) ∧ Below W.heap.size W wI := ⟨HCI.out.up hbI, HBD.out wI hSI⟩
                clear hbI hSI HCI
                go_simp
                exact ⟨F, U1, V1, U2, V2, E, A, u, rfl, hQQ⟩
            · skip
              try replace HF := hid (HF.out.up hbI)
              try replace HU1 := hid (HU1.out.up hbI)
              try replace HV1 := hid (HV1.out.up hbI)
              try replace HU2 := hid (HU2.out.up hbI)
              try replace HV2 := hid (HV2.out.up hbI)
              try replace HE := hid (HE.out.below hbI)
              try replace HR := hid (HR.out.up hbI)
              go_simp
              have hbJ := below_alloc1 (Nat.le_refl wI.heap.size) (Obj.cells #[] 3)
              have HE := hid (Own.empty (α := Int) (sz := 1) (enc := encI) (e := 3) (base := D.heap.size) wI hSI.size)
              obtain ⟨wJ, hwJ⟩ : ∃ wJ, wJ = wI.alloc (Obj.cells #[] 3) := ⟨_, rfl⟩
              have HR := hid (show EmpV D.heap.size (.slice (some ⟨wI.heap.size, 0, none⟩) 0 0) (wI.alloc (Obj.cells #[] 3)) from ⟨_, rfl, hSI.size, heap_new _ _⟩)
              rw [← hwJ] at hbJ HE HR
              obtain ⟨E, hE⟩ : ∃ E, E = Value.slice (some ⟨wI.heap.size, 0, none⟩) 0 0 := ⟨_, rfl⟩
              rw [← hE] at HE HR
              have hSJ := HG _ _ hSI hbJ
              try replace HF := hid (HF.out.up hbJ)
              try replace HU1 := hid (HU1.out.up hbJ)
              try replace HV1 := hid (HV1.out.up hbJ)
              try replace HU2 := hid (HU2.out.up hbJ)
              try replace HV2 := hid (HV2.out.up hbJ)
              try replace HE := hid (HE.out.below hbJ)
              try replace HR := hid (HR.out.up hbJ)
              refine ⟨by rw [← hwJ]; exact hSJ, ?_⟩
              rw [← hwJ, ← hE]
              clear hbI hSI hbJ hwJ hE hSJ
              try simp only [List.setIfInBounds_toArray, List.set_cons_zero, List.set_cons_succ]
              refine wpG_only (i := 8) rfl (by rfl) (by kernel_rfl) (by rfl) (fun wI hbI hSI => ?_)
              try replace HF := hid (HF.out.up hbI)
              try replace HU1 := hid (HU1.out.up hbI)
              try replace HV1 := hid (HV1.out.up hbI)
              try replace HU2 := hid (HU2.out.up hbI)
              try replace HV2 := hid (HV2.out.up hbI)
              try replace HE := hid (HE.out.below hbI)
              try replace HR := hid (HR.out.up hbI)
              go_simp
              refine (nthS_any f HGD.out.growth HGD.out.wet HGW.out (by omega) (a.tmod m) (by omega) _ w.heap.size wI (by have := (HBD.out wI hSI).size; omega) (HFL.out wI (HBD.out wI hSI))).mono ?_
              rintro e wJ ⟨U1, V1, rfl, hU, hV, hbJ⟩
              have hSJ := HG _ _ hSI hbJ
              try replace HF := hid (HF.out.up hbJ)
              try replace HU1 := hid (HU1.out.up hbJ)
              try replace HV1 := hid (HV1.out.up hbJ)
              try replace HU2 := hid (HU2.out.up hbJ)
              try replace HV2 := hid (HV2.out.up hbJ)
              try replace HE := hid (HE.out.below hbJ)
              try replace HR := hid (HR.out.up hbJ)
              have HU1 := hid hU
              have HV1 := hid hV
              refine ⟨hSJ, ?_⟩
              clear hU hV hbI hSI hbJ hSJ
              try simp only [List.setIfInBounds_toArray, List.set_cons_zero, List.set_cons_succ]
              refine wpG_only (i := 9) rfl (by rfl) (by kernel_rfl) (by rfl) (fun wI hbI hSI => ?_)
              try replace HF := hid (HF.out.up hbI)
              try replace HU1 := hid (HU1.out.up hbI)
              try replace HV1 := hid (HV1.out.up hbI)
              try replace HU2 := hid (HU2.out.up hbI)
              try replace HV2 := hid (HV2.out.up hbI)
              try replace HE := hid (HE.out.below hbI)
              try replace HR := hid (HR.out.up hbI)
              go_simp
              refine (truthM_any _ _ U1 V1 wI.heap.size wI (Nat.le_refl _) HU1.out HV1.out (by rw [hN1.out]; omega) (by rw [hN2.out]; omega)).mono ?_
              rintro e wJ ⟨U2, V2, rfl, hU, hV, hbJ⟩
              have hSJ := HG _ _ hSI hbJ
              try replace HF := hid (HF.out.up hbJ)
              try replace HU1 := hid (HU1.out.up hbJ)
              try replace HV1 := hid (HV1.out.up hbJ)
              try replace HU2 := hid (HU2.out.up hbJ)
              try replace HV2 := hid (HV2.out.up hbJ)
              try replace HE := hid (HE.out.below hbJ)
              try replace HR := hid (HR.out.up hbJ)
              have HU2 := hid hU
              have HV2 := hid hV
              refine ⟨hSJ, ?_⟩
              clear hU hV hbI hSI hbJ hSJ
              try simp only [List.setIfInBounds_toArray, List.set_cons_zero, List.set_cons_succ]
              refine wpG_only (i := 12) rfl (by rfl) (by kernel_rfl) (by rfl) (fun wI hbI hSI => ?_)
              try replace HF := hid (HF.out.up hbI)
              try replace HU1 := hid (HU1.out.up hbI)
              try replace HV1 := hid (HV1.out.up hbI)
              try replace HU2 := hid (HU2.out.up hbI)
              try replace HV2 := hid (HV2.out.up hbI)
              try replace HE := hid (HE.out.below hbI)
              try replace HR := hid (HR.out.up hbI)
              refine wp_appendL encI (.tmp 59) (.tmp 60) 47 rfl D.heap.size 3 (.int .i64 0) 1 8 ints_under infoInt rfl (by decide) encI_length encI_one E [] (by rfl) HE.out (Lt w3.heap.size) (.slice pa k pc) plan (by rfl) (HPD.out wI hSI) (by have := HPLL.out; simp; omega) (by decide) hSI.size ?_
              intro A wJ hownA hgrA
              rw [List.nil_append] at hownA
              have hSJ := hSI.grown hgrA hSI.size (fun k hk => (HE.out.block k hk).1)
              obtain ⟨p, hEp, hpn, hpr⟩ := HR.out
              rw [hEp] at hgrA
              have hgrB : wI.grownBy wJ (some p) := hgrA
              have HF9 := hid (HF.out.emp hpr hgrB)
              have HU9 := hid (HU2.out.emp hpr hgrB)
              have HV9 := hid (HV2.out.emp hpr hgrB)
              have HA := hid (hownA.slLt encI_length)
              refine ⟨hSJ, ?_⟩
              clear hownA hgrA hSJ hEp hpn hpr hgrB hbI hSI HE HR HF HU1 HV1 HU2 HV2
              try simp only [List.setIfInBounds_toArray, List.set_cons_zero, List.set_cons_succ]
              refine wpG_only (i := 13) rfl (by rfl) (by kernel_rfl) (by rfl) (fun wI hbI hSI => ?_)
              go_simp
              refine (playK_ok f ⟨HGD.out, HMANY.out⟩ _ _ plan hL1.out hL2.out HPLAN.out F U2 V2 A wI.heap.size wI (Nat.le_refl _) (HF9.out.up hbI) (HU9.out.up hbI) (HV9.out.up hbI) (HA.out.up hbI)).mono ?_
              rintro e wJ ⟨u, rfl, hcr, hbJ⟩
              have hSJ := HG _ _ hSI hbJ
              have HCR := hid hcr
              refine ⟨hSJ, ?_⟩
              clear hcr hbJ hSJ hbI hSI HF9 HU9 HV9 HA
              try simp only [List.setIfInBounds_toArray, List.set_cons_zero, List.set_cons_succ]
              refine wpG_take (i := 14) (v := .tuple #[u, .int .i64 0]) rfl rfl (by kernel_rfl) (by kernel_rfl) (by kernel_rfl) (by kernel_rfl) (fun _ _ _ h => h) (by rfl) (fun w' hS' => grow_value ?_ hS') ?_
              · go_simp
              try simp only [List.setIfInBounds_toArray, List.set_cons_zero, List.set_cons_succ]
              refine wpG_take (i := 15) (v := u) rfl rfl (by kernel_rfl) (by kernel_rfl) (by kernel_rfl) (by kernel_rfl) (fun _ _ _ h => h) (by rfl) (fun w' hS' => grow_value ?_ hS') ?_
              · go_simp
              try simp only [List.setIfInBounds_toArray, List.set_cons_zero, List.set_cons_succ]
              refine wpG_take (i := 16) (v := .int .i64 0) rfl rfl (by kernel_rfl) (by kernel_rfl) (by kernel_rfl) (by kernel_rfl) (fun _ _ _ h => h) (by rfl) (fun w' hS' => grow_value ?_ hS') ?_
              · go_simp
              try simp only [List.setIfInBounds_toArray, List.set_cons_zero, List.set_cons_succ]
              refine wpG_only (i := 17) rfl (by rfl) (by kernel_rfl) (by rfl) (fun wI hbI hSI => ?_)
              have HSI := hid hSI
              have HCI := hid (HCR.out.up hbI)
              clear hSI hbI HCR
              go_simp
              refine ⟨HSI.out, ?_⟩
              clear HSI
              try simp only [List.setIfInBounds_toArray, List.set_cons_zero, List.set_cons_succ]
              refine wpG_last rfl (by kernel_rfl) (by kernel_rfl) (by rfl) (fun wI hbI hSI => ?_)
              have hQQ : Crs (Lt wI.heap.size) wI u (cropsF f (nthG f.growth f.wet (a.tmod m)) (nthW f.growth f.wet (a.tmod m)) plan) ∧ Below W.heap.size W wI := ⟨HCI.out.up hbI, HBD.out wI hSI⟩
              clear hbI hSI HCI
              go_simp
              exact ⟨F, U1, V1, U2, V2, E, A, u, rfl, hQQ⟩
          · skip
            try replace HF := hid (HF.out.up hbI)
            try replace HU1 := hid (HU1.out.up hbI)
            try replace HV1 := hid (HV1.out.up hbI)
            try replace HU2 := hid (HU2.out.up hbI)
            try replace HV2 := hid (HV2.out.up hbI)
            try replace HE := hid (HE.out.below hbI)
            try replace HR := hid (HR.out.up hbI)
            go_simp
            have hbJ := below_alloc1 (Nat.le_refl wI.heap.size) (Obj.cells #[] 3)
            have HE := hid (Own.empty (α := Int) (sz := 1) (enc := encI) (e := 3) (base := D.heap.size) wI hSI.size)
            obtain ⟨wJ, hwJ⟩ : ∃ wJ, wJ = wI.alloc (Obj.cells #[] 3) := ⟨_, rfl⟩
            have HR := hid (show EmpV D.heap.size (.slice (some ⟨wI.heap.size, 0, none⟩) 0 0) (wI.alloc (Obj.cells #[] 3)) from ⟨_, rfl, hSI.size, heap_new _ _⟩)
            rw [← hwJ] at hbJ HE HR
            obtain ⟨E, hE⟩ : ∃ E, E = Value.slice (some ⟨wI.heap.size, 0, none⟩) 0 0 := ⟨_, rfl⟩
            rw [← hE] at HE HR
            have hSJ := HG _ _ hSI hbJ
            try replace HF := hid (HF.out.up hbJ)
            try replace HU1 := hid (HU1.out.up hbJ)
            try replace HV1 := hid (HV1.out.up hbJ)
            try replace HU2 := hid (HU2.out.up hbJ)
            try replace HV2 := hid (HV2.out.up hbJ)
            try replace HE := hid (HE.out.below hbJ)
            try replace HR := hid (HR.out.up hbJ)
            refine ⟨by rw [← hwJ]; exact hSJ, ?_⟩
            rw [← hwJ, ← hE]
            clear hbI hSI hbJ hwJ hE hSJ
            try simp only [List.setIfInBounds_toArray, List.set_cons_zero, List.set_cons_succ]
            refine wpG_only (i := 6) rfl (by rfl) (by kernel_rfl) (by rfl) (fun wI hbI hSI => ?_)
            try replace HF := hid (HF.out.up hbI)
            try replace HU1 := hid (HU1.out.up hbI)
            try replace HV1 := hid (HV1.out.up hbI)
            try replace HU2 := hid (HU2.out.up hbI)
            try replace HV2 := hid (HV2.out.up hbI)
            try replace HE := hid (HE.out.below hbI)
            try replace HR := hid (HR.out.up hbI)
            go_simp
            refine (manyS_any f HGD.out.growth HGD.out.wet HGW.out (by omega) _ w.heap.size wI (by have := (HBD.out wI hSI).size; omega) (HFL.out wI (HBD.out wI hSI))).mono ?_
            rintro e wJ ⟨rfl, hbJ⟩
            have hSJ := HG _ _ hSI hbJ
            try replace HF := hid (HF.out.up hbJ)
            try replace HU1 := hid (HU1.out.up hbJ)
            try replace HV1 := hid (HV1.out.up hbJ)
            try replace HU2 := hid (HU2.out.up hbJ)
            try replace HV2 := hid (HV2.out.up hbJ)
            try replace HE := hid (HE.out.below hbJ)
            try replace HR := hid (HR.out.up hbJ)
            refine ⟨hSJ, ?_⟩
            clear hbI hSI hbJ hSJ
            rw [← HM.out]
            try simp only [List.setIfInBounds_toArray, List.set_cons_zero, List.set_cons_succ]
            refine wpG_take (i := 7) (v := .int .i64 (a.tmod m)) rfl rfl (by kernel_rfl) (by kernel_rfl) (by kernel_rfl) (by kernel_rfl) (fun _ _ _ h => h) (by rfl) (fun w' hS' => grow_value ?_ hS') ?_
            · go_simp
            try simp only [List.setIfInBounds_toArray, List.set_cons_zero, List.set_cons_succ]
            refine wpG_only (i := 8) rfl (by rfl) (by kernel_rfl) (by rfl) (fun wI hbI hSI => ?_)
            try replace HF := hid (HF.out.up hbI)
            try replace HU1 := hid (HU1.out.up hbI)
            try replace HV1 := hid (HV1.out.up hbI)
            try replace HU2 := hid (HU2.out.up hbI)
            try replace HV2 := hid (HV2.out.up hbI)
            try replace HE := hid (HE.out.below hbI)
            try replace HR := hid (HR.out.up hbI)
            go_simp
            refine (nthS_any f HGD.out.growth HGD.out.wet HGW.out (by omega) (a.tmod m) (by omega) _ w.heap.size wI (by have := (HBD.out wI hSI).size; omega) (HFL.out wI (HBD.out wI hSI))).mono ?_
            rintro e wJ ⟨U1, V1, rfl, hU, hV, hbJ⟩
            have hSJ := HG _ _ hSI hbJ
            try replace HF := hid (HF.out.up hbJ)
            try replace HU1 := hid (HU1.out.up hbJ)
            try replace HV1 := hid (HV1.out.up hbJ)
            try replace HU2 := hid (HU2.out.up hbJ)
            try replace HV2 := hid (HV2.out.up hbJ)
            try replace HE := hid (HE.out.below hbJ)
            try replace HR := hid (HR.out.up hbJ)
            have HU1 := hid hU
            have HV1 := hid hV
            refine ⟨hSJ, ?_⟩
            clear hU hV hbI hSI hbJ hSJ
            try simp only [List.setIfInBounds_toArray, List.set_cons_zero, List.set_cons_succ]
            refine wpG_only (i := 9) rfl (by rfl) (by kernel_rfl) (by rfl) (fun wI hbI hSI => ?_)
            try replace HF := hid (HF.out.up hbI)
            try replace HU1 := hid (HU1.out.up hbI)
            try replace HV1 := hid (HV1.out.up hbI)
            try replace HU2 := hid (HU2.out.up hbI)
            try replace HV2 := hid (HV2.out.up hbI)
            try replace HE := hid (HE.out.below hbI)
            try replace HR := hid (HR.out.up hbI)
            go_simp
            refine (truthM_any _ _ U1 V1 wI.heap.size wI (Nat.le_refl _) HU1.out HV1.out (by rw [hN1.out]; omega) (by rw [hN2.out]; omega)).mono ?_
            rintro e wJ ⟨U2, V2, rfl, hU, hV, hbJ⟩
            have hSJ := HG _ _ hSI hbJ
            try replace HF := hid (HF.out.up hbJ)
            try replace HU1 := hid (HU1.out.up hbJ)
            try replace HV1 := hid (HV1.out.up hbJ)
            try replace HU2 := hid (HU2.out.up hbJ)
            try replace HV2 := hid (HV2.out.up hbJ)
            try replace HE := hid (HE.out.below hbJ)
            try replace HR := hid (HR.out.up hbJ)
            have HU2 := hid hU
            have HV2 := hid hV
            refine ⟨hSJ, ?_⟩
            clear hU hV hbI hSI hbJ hSJ
            try simp only [List.setIfInBounds_toArray, List.set_cons_zero, List.set_cons_succ]
            refine wpG_only (i := 12) rfl (by rfl) (by kernel_rfl) (by rfl) (fun wI hbI hSI => ?_)
            try replace HF := hid (HF.out.up hbI)
            try replace HU1 := hid (HU1.out.up hbI)
            try replace HV1 := hid (HV1.out.up hbI)
            try replace HU2 := hid (HU2.out.up hbI)
            try replace HV2 := hid (HV2.out.up hbI)
            try replace HE := hid (HE.out.below hbI)
            try replace HR := hid (HR.out.up hbI)
            refine wp_appendL encI (.tmp 59) (.tmp 60) 47 rfl D.heap.size 3 (.int .i64 0) 1 8 ints_under infoInt rfl (by decide) encI_length encI_one E [] (by rfl) HE.out (Lt w3.heap.size) (.slice pa k pc) plan (by rfl) (HPD.out wI hSI) (by have := HPLL.out; simp; omega) (by decide) hSI.size ?_
            intro A wJ hownA hgrA
            rw [List.nil_append] at hownA
            have hSJ := hSI.grown hgrA hSI.size (fun k hk => (HE.out.block k hk).1)
            obtain ⟨p, hEp, hpn, hpr⟩ := HR.out
            rw [hEp] at hgrA
            have hgrB : wI.grownBy wJ (some p) := hgrA
            have HF9 := hid (HF.out.emp hpr hgrB)
            have HU9 := hid (HU2.out.emp hpr hgrB)
            have HV9 := hid (HV2.out.emp hpr hgrB)
            have HA := hid (hownA.slLt encI_length)
            refine ⟨hSJ, ?_⟩
            clear hownA hgrA hSJ hEp hpn hpr hgrB hbI hSI HE HR HF HU1 HV1 HU2 HV2
            try simp only [List.setIfInBounds_toArray, List.set_cons_zero, List.set_cons_succ]
            refine wpG_only (i := 13) rfl (by rfl) (by kernel_rfl) (by rfl) (fun wI hbI hSI => ?_)
            go_simp
            refine (playK_ok f ⟨HGD.out, HMANY.out⟩ _ _ plan hL1.out hL2.out HPLAN.out F U2 V2 A wI.heap.size wI (Nat.le_refl _) (HF9.out.up hbI) (HU9.out.up hbI) (HV9.out.up hbI) (HA.out.up hbI)).mono ?_
            rintro e wJ ⟨u, rfl, hcr, hbJ⟩
            have hSJ := HG _ _ hSI hbJ
            have HCR := hid hcr
            refine ⟨hSJ, ?_⟩
            clear hcr hbJ hSJ hbI hSI HF9 HU9 HV9 HA
            try simp only [List.setIfInBounds_toArray, List.set_cons_zero, List.set_cons_succ]
            refine wpG_take (i := 14) (v := .tuple #[u, .int .i64 0]) rfl rfl (by kernel_rfl) (by kernel_rfl) (by kernel_rfl) (by kernel_rfl) (fun _ _ _ h => h) (by rfl) (fun w' hS' => grow_value ?_ hS') ?_
            · go_simp
            try simp only [List.setIfInBounds_toArray, List.set_cons_zero, List.set_cons_succ]
            refine wpG_take (i := 15) (v := u) rfl rfl (by kernel_rfl) (by kernel_rfl) (by kernel_rfl) (by kernel_rfl) (fun _ _ _ h => h) (by rfl) (fun w' hS' => grow_value ?_ hS') ?_
            · go_simp
            try simp only [List.setIfInBounds_toArray, List.set_cons_zero, List.set_cons_succ]
            refine wpG_take (i := 16) (v := .int .i64 0) rfl rfl (by kernel_rfl) (by kernel_rfl) (by kernel_rfl) (by kernel_rfl) (fun _ _ _ h => h) (by rfl) (fun w' hS' => grow_value ?_ hS') ?_
            · go_simp
            try simp only [List.setIfInBounds_toArray, List.set_cons_zero, List.set_cons_succ]
            refine wpG_only (i := 17) rfl (by rfl) (by kernel_rfl) (by rfl) (fun wI hbI hSI => ?_)
            have HSI := hid hSI
            have HCI := hid (HCR.out.up hbI)
            clear hSI hbI HCR
            go_simp
            refine ⟨HSI.out, ?_⟩
            clear HSI
            try simp only [List.setIfInBounds_toArray, List.set_cons_zero, List.set_cons_succ]
            refine wpG_last rfl (by kernel_rfl) (by kernel_rfl) (by rfl) (fun wI hbI hSI => ?_)
            have hQQ : Crs (Lt wI.heap.size) wI u (cropsF f (nthG f.growth f.wet (a.tmod m)) (nthW f.growth f.wet (a.tmod m)) plan) ∧ Below W.heap.size W wI := ⟨HCI.out.up hbI, HBD.out wI hSI⟩
            clear hbI hSI HCI
            go_simp
            exact ⟨F, U1, V1, U2, V2, E, A, u, rfl, hQQ⟩
        · skip
          try replace HF := hid (HF.out.up hbI)
          try replace HU1 := hid (HU1.out.up hbI)
          try replace HV1 := hid (HV1.out.up hbI)
          try replace HU2 := hid (HU2.out.up hbI)
          try replace HV2 := hid (HV2.out.up hbI)
          try replace HE := hid (HE.out.below hbI)
          try replace HR := hid (HR.out.up hbI)
          go_simp
          have hbJ := below_alloc1 (Nat.le_refl wI.heap.size) (Obj.cells #[] 3)
          have HE := hid (Own.empty (α := Int) (sz := 1) (enc := encI) (e := 3) (base := D.heap.size) wI hSI.size)
          obtain ⟨wJ, hwJ⟩ : ∃ wJ, wJ = wI.alloc (Obj.cells #[] 3) := ⟨_, rfl⟩
          have HR := hid (show EmpV D.heap.size (.slice (some ⟨wI.heap.size, 0, none⟩) 0 0) (wI.alloc (Obj.cells #[] 3)) from ⟨_, rfl, hSI.size, heap_new _ _⟩)
          rw [← hwJ] at hbJ HE HR
          obtain ⟨E, hE⟩ : ∃ E, E = Value.slice (some ⟨wI.heap.size, 0, none⟩) 0 0 := ⟨_, rfl⟩
          rw [← hE] at HE HR
          have hSJ := HG _ _ hSI hbJ
          try replace HF := hid (HF.out.up hbJ)
          try replace HU1 := hid (HU1.out.up hbJ)
          try replace HV1 := hid (HV1.out.up hbJ)
          try replace HU2 := hid (HU2.out.up hbJ)
          try replace HV2 := hid (HV2.out.up hbJ)
          try replace HE := hid (HE.out.below hbJ)
          try replace HR := hid (HR.out.up hbJ)
          refine ⟨by rw [← hwJ]; exact hSJ, ?_⟩
          rw [← hwJ, ← hE]
          clear hbI hSI hbJ hwJ hE hSJ
          try simp only [List.setIfInBounds_toArray, List.set_cons_zero, List.set_cons_succ]
          refine wpG_only (i := 1) rfl (by rfl) (by kernel_rfl) (by rfl) (fun wI hbI hSI => ?_)
          try replace HF := hid (HF.out.up hbI)
          try replace HU1 := hid (HU1.out.up hbI)
          try replace HV1 := hid (HV1.out.up hbI)
          try replace HU2 := hid (HU2.out.up hbI)
          try replace HV2 := hid (HV2.out.up hbI)
          try replace HE := hid (HE.out.below hbI)
          try replace HR := hid (HR.out.up hbI)
          go_simp
          refine (fieldM_any f _ w.heap.size wI (by have := (HBD.out wI hSI).size; omega) (HFL.out wI (HBD.out wI hSI)) HSMALL.out).mono ?_
          rintro e wJ ⟨F, rfl, hF, hbJ⟩
          have HF := hid hF
          have hSJ := HG _ _ hSI hbJ
          try replace HF := hid (HF.out.up hbJ)
          try replace HU1 := hid (HU1.out.up hbJ)
          try replace HV1 := hid (HV1.out.up hbJ)
          try replace HU2 := hid (HU2.out.up hbJ)
          try replace HV2 := hid (HV2.out.up hbJ)
          try replace HE := hid (HE.out.below hbJ)
          try replace HR := hid (HR.out.up hbJ)
          refine ⟨hSJ, ?_⟩
          clear hF hbI hSI hbJ hSJ
          try simp only [List.setIfInBounds_toArray, List.set_cons_zero, List.set_cons_succ]
          refine wpG_only (i := 6) rfl (by rfl) (by kernel_rfl) (by rfl) (fun wI hbI hSI => ?_)
          try replace HF := hid (HF.out.up hbI)
          try replace HU1 := hid (HU1.out.up hbI)
          try replace HV1 := hid (HV1.out.up hbI)
          try replace HU2 := hid (HU2.out.up hbI)
          try replace HV2 := hid (HV2.out.up hbI)
          try replace HE := hid (HE.out.below hbI)
          try replace HR := hid (HR.out.up hbI)
          go_simp
          refine (manyS_any f HGD.out.growth HGD.out.wet HGW.out (by omega) _ w.heap.size wI (by have := (HBD.out wI hSI).size; omega) (HFL.out wI (HBD.out wI hSI))).mono ?_
          rintro e wJ ⟨rfl, hbJ⟩
          have hSJ := HG _ _ hSI hbJ
          try replace HF := hid (HF.out.up hbJ)
          try replace HU1 := hid (HU1.out.up hbJ)
          try replace HV1 := hid (HV1.out.up hbJ)
          try replace HU2 := hid (HU2.out.up hbJ)
          try replace HV2 := hid (HV2.out.up hbJ)
          try replace HE := hid (HE.out.below hbJ)
          try replace HR := hid (HR.out.up hbJ)
          refine ⟨hSJ, ?_⟩
          clear hbI hSI hbJ hSJ
          rw [← HM.out]
          try simp only [List.setIfInBounds_toArray, List.set_cons_zero, List.set_cons_succ]
          refine wpG_take (i := 7) (v := .int .i64 (a.tmod m)) rfl rfl (by kernel_rfl) (by kernel_rfl) (by kernel_rfl) (by kernel_rfl) (fun _ _ _ h => h) (by rfl) (fun w' hS' => grow_value ?_ hS') ?_
          · go_simp
          try simp only [List.setIfInBounds_toArray, List.set_cons_zero, List.set_cons_succ]
          refine wpG_only (i := 8) rfl (by rfl) (by kernel_rfl) (by rfl) (fun wI hbI hSI => ?_)
          try replace HF := hid (HF.out.up hbI)
          try replace HU1 := hid (HU1.out.up hbI)
          try replace HV1 := hid (HV1.out.up hbI)
          try replace HU2 := hid (HU2.out.up hbI)
          try replace HV2 := hid (HV2.out.up hbI)
          try replace HE := hid (HE.out.below hbI)
          try replace HR := hid (HR.out.up hbI)
          go_simp
          refine (nthS_any f HGD.out.growth HGD.out.wet HGW.out (by omega) (a.tmod m) (by omega) _ w.heap.size wI (by have := (HBD.out wI hSI).size; omega) (HFL.out wI (HBD.out wI hSI))).mono ?_
          rintro e wJ ⟨U1, V1, rfl, hU, hV, hbJ⟩
          have hSJ := HG _ _ hSI hbJ
          try replace HF := hid (HF.out.up hbJ)
          try replace HU1 := hid (HU1.out.up hbJ)
          try replace HV1 := hid (HV1.out.up hbJ)
          try replace HU2 := hid (HU2.out.up hbJ)
          try replace HV2 := hid (HV2.out.up hbJ)
          try replace HE := hid (HE.out.below hbJ)
          try replace HR := hid (HR.out.up hbJ)
          have HU1 := hid hU
          have HV1 := hid hV
          refine ⟨hSJ, ?_⟩
          clear hU hV hbI hSI hbJ hSJ
          try simp only [List.setIfInBounds_toArray, List.set_cons_zero, List.set_cons_succ]
          refine wpG_only (i := 9) rfl (by rfl) (by kernel_rfl) (by rfl) (fun wI hbI hSI => ?_)
          try replace HF := hid (HF.out.up hbI)
          try replace HU1 := hid (HU1.out.up hbI)
          try replace HV1 := hid (HV1.out.up hbI)
          try replace HU2 := hid (HU2.out.up hbI)
          try replace HV2 := hid (HV2.out.up hbI)
          try replace HE := hid (HE.out.below hbI)
          try replace HR := hid (HR.out.up hbI)
          go_simp
          refine (truthM_any _ _ U1 V1 wI.heap.size wI (Nat.le_refl _) HU1.out HV1.out (by rw [hN1.out]; omega) (by rw [hN2.out]; omega)).mono ?_
          rintro e wJ ⟨U2, V2, rfl, hU, hV, hbJ⟩
          have hSJ := HG _ _ hSI hbJ
          try replace HF := hid (HF.out.up hbJ)
          try replace HU1 := hid (HU1.out.up hbJ)
          try replace HV1 := hid (HV1.out.up hbJ)
          try replace HU2 := hid (HU2.out.up hbJ)
          try replace HV2 := hid (HV2.out.up hbJ)
          try replace HE := hid (HE.out.below hbJ)
          try replace HR := hid (HR.out.up hbJ)
          have HU2 := hid hU
          have HV2 := hid hV
          refine ⟨hSJ, ?_⟩
          clear hU hV hbI hSI hbJ hSJ
          try simp only [List.setIfInBounds_toArray, List.set_cons_zero, List.set_cons_succ]
          refine wpG_only (i := 12) rfl (by rfl) (by kernel_rfl) (by rfl) (fun wI hbI hSI => ?_)
          try replace HF := hid (HF.out.up hbI)
          try replace HU1 := hid (HU1.out.up hbI)
          try replace HV1 := hid (HV1.out.up hbI)
          try replace HU2 := hid (HU2.out.up hbI)
          try replace HV2 := hid (HV2.out.up hbI)
          try replace HE := hid (HE.out.below hbI)
          try replace HR := hid (HR.out.up hbI)
          refine wp_appendL encI (.tmp 59) (.tmp 60) 47 rfl D.heap.size 3 (.int .i64 0) 1 8 ints_under infoInt rfl (by decide) encI_length encI_one E [] (by rfl) HE.out (Lt w3.heap.size) (.slice pa k pc) plan (by rfl) (HPD.out wI hSI) (by have := HPLL.out; simp; omega) (by decide) hSI.size ?_
          intro A wJ hownA hgrA
          rw [List.nil_append] at hownA
          have hSJ := hSI.grown hgrA hSI.size (fun k hk => (HE.out.block k hk).1)
          obtain ⟨p, hEp, hpn, hpr⟩ := HR.out
          rw [hEp] at hgrA
          have hgrB : wI.grownBy wJ (some p) := hgrA
          have HF9 := hid (HF.out.emp hpr hgrB)
          have HU9 := hid (HU2.out.emp hpr hgrB)
          have HV9 := hid (HV2.out.emp hpr hgrB)
          have HA := hid (hownA.slLt encI_length)
          refine ⟨hSJ, ?_⟩
          clear hownA hgrA hSJ hEp hpn hpr hgrB hbI hSI HE HR HF HU1 HV1 HU2 HV2
          try simp only [List.setIfInBounds_toArray, List.set_cons_zero, List.set_cons_succ]
          refine wpG_only (i := 13) rfl (by rfl) (by kernel_rfl) (by rfl) (fun wI hbI hSI => ?_)
          go_simp
          refine (playK_ok f ⟨HGD.out, HMANY.out⟩ _ _ plan hL1.out hL2.out HPLAN.out F U2 V2 A wI.heap.size wI (Nat.le_refl _) (HF9.out.up hbI) (HU9.out.up hbI) (HV9.out.up hbI) (HA.out.up hbI)).mono ?_
          rintro e wJ ⟨u, rfl, hcr, hbJ⟩
          have hSJ := HG _ _ hSI hbJ
          have HCR := hid hcr
          refine ⟨hSJ, ?_⟩
          clear hcr hbJ hSJ hbI hSI HF9 HU9 HV9 HA
          try simp only [List.setIfInBounds_toArray, List.set_cons_zero, List.set_cons_succ]
          refine wpG_take (i := 14) (v := .tuple #[u, .int .i64 0]) rfl rfl (by kernel_rfl) (by kernel_rfl) (by kernel_rfl) (by kernel_rfl) (fun _ _ _ h => h) (by rfl) (fun w' hS' => grow_value ?_ hS') ?_
          · go_simp
          try simp only [List.setIfInBounds_toArray, List.set_cons_zero, List.set_cons_succ]
          refine wpG_take (i := 15) (v := u) rfl rfl (by kernel_rfl) (by kernel_rfl) (by kernel_rfl) (by kernel_rfl) (fun _ _ _ h => h) (by rfl) (fun w' hS' => grow_value ?_ hS') ?_
          · go_simp
          try simp only [List.setIfInBounds_toArray, List.set_cons_zero, List.set_cons_succ]
          refine wpG_take (i := 16) (v := .int .i64 0) rfl rfl (by kernel_rfl) (by kernel_rfl) (by kernel_rfl) (by kernel_rfl) (fun _ _ _ h => h) (by rfl) (fun w' hS' => grow_value ?_ hS') ?_
          · go_simp
          try simp only [List.setIfInBounds_toArray, List.set_cons_zero, List.set_cons_succ]
          refine wpG_only (i := 17) rfl (by rfl) (by kernel_rfl) (by rfl) (fun wI hbI hSI => ?_)
          have HSI := hid hSI
          have HCI := hid (HCR.out.up hbI)
          clear hSI hbI HCR
          go_simp
          refine ⟨HSI.out, ?_⟩
          clear HSI
          try simp only [List.setIfInBounds_toArray, List.set_cons_zero, List.set_cons_succ]
          refine wpG_last rfl (by kernel_rfl) (by kernel_rfl) (by rfl) (fun wI hbI hSI => ?_)
          have hQQ : Crs (Lt wI.heap.size) wI u (cropsF f (nthG f.growth f.wet (a.tmod m)) (nthW f.growth f.wet (a.tmod m)) plan) ∧ Below W.heap.size W wI := ⟨HCI.out.up hbI, HBD.out wI hSI⟩
          clear hbI hSI HCI
          go_simp
          exact ⟨F, U1, V1, U2, V2, E, A, u, rfl, hQQ⟩
      intro x0 x1 x2 x3 x4 x5 x6 u w4 hq
      obtain ⟨hcr, hb4⟩ := hq
      have HB4 := hid hb4
      have hs4 := hb4.size
      have hbd := cropF_bd HGD.out (listed_bdm 50 _ _ hL1.out HGD.out.growth) (by rw [hN1.out]; omega) (nthW f.growth f.wet (a.tmod m)) plan
      have hsd := fun i => strongF_bd HGD.out plan i
      have hln := cropsF_length f (nthG f.growth f.wet (a.tmod m)) (nthW f.growth f.wet (a.tmod m)) plan
      have HCB := hid (fun c hc => by
        simp only [cropsF, List.mem_map, List.mem_range] at hc
        obtain ⟨i, -, rfl⟩ := hc
        have h1 := hbd i
        exact ⟨h1.1, h1.2.1, h1.2.2.1, (hsd i).2, h1.2.2.2⟩ : ∀ c ∈ cropsF f (nthG f.growth f.wet (a.tmod m)) (nthW f.growth f.wet (a.tmod m)) plan, 0 ≤ c.weight ∧ c.weight ≤ 500 ∧ 0 ≤ c.strength ∧ c.strength ≤ 200 ∧ c.worth = c.weight * c.strength)
      rw [HPLL.out] at hln
      generalize cropsF f (nthG f.growth f.wet (a.tmod m)) (nthW f.growth f.wet (a.tmod m)) plan = l at *
      obtain ⟨la', lc', hu, -, hlo⟩ := hcr.open3
      rw [hln] at hu
      subst hu
      have HLO := hid hlo
      have HLN := hid hln
      clear hcr hlo hln hbd hsd hb4 HL HPD HBD HG HDD hL1 hL2 hN1 hN2 HM HPT HPLAN HPLL HGW HGD HMANY HSMALL HSM HB3
      generalize a.tmod m = qm at *
      go_wp2_with fail
      obtain ⟨V, hV⟩ : ∃ V, V = w4.alloc (Obj.cells #[.slice none 0 0, .slice none 0 0, .slice none 0 0] 35) := ⟨_, rfl⟩
      rw [← hV]
      have hbV : Below w4.heap.size w4 V := by rw [hV]; exact below_alloc1 (Nat.le_refl _) _
      have hsV : w4.heap.size + 1 ≤ V.heap.size ∧ V.heap.size ≤ w4.heap.size + 1 := by rw [hV]; simp
      have hL0 : LoopC l 0 (w4.heap.size + 1) (.slice none 0 0) (.slice none 0 0) w4 V :=
        ⟨by omega, Own.nil, Own.nil, fun k hk => by simp [Value.ownBlock] at hk, ⟨_, by rw [hV]; exact heap_new _ _, Own.nil⟩, hbV, fun c hc => by simp at hc⟩
      have HL0 := hid hL0
      clear hV hbV hL0
      go_loopw [11, 12, 13, 14, 15, 16] (fun wv sv sm wo be i wr => ∃ (j : Nat) (x y z : Int), j ≤ k ∧ i = .int .i64 j ∧ sm = .int .i64 x ∧ wo = .int .i64 y ∧ be = .int .i64 z ∧ 0 ≤ x ∧ x ≤ 30 * j ∧ 0 ≤ y ∧ y ≤ 3000 * j ∧ Hid (x = sumI (wsC (l.take j)) ∧ y = worthC (l.take j) ∧ z = bestC (l.take j) 0) ∧ Hid (LoopC l j (w4.heap.size + 1) wv sv w4 wr)) (fun _ _ _ _ _ i _ => k - (intOf i).toNat)
      case atStart => exact ⟨0, 0, 0, 0, by omega, rfl, rfl, rfl, rfl, by omega, by omega, by omega, by omega, hid ⟨by simp [wsC, sumI], by simp [worthC, sumI], by simp [bestC]⟩, HL0.out⟩
      case round =>
        obtain ⟨j, x, y, z, hj, rfl, rfl, rfl, rfl, hx0, hx1, hy0, hy1, HS, HLC⟩ := hrel
        have hsr := HLC.out.size
        by_cases hlt : j < k
        · rcases HLO.out with hnil | ⟨lb, loff, rfl, hlb, hlc⟩
          · rw [hnil] at HLN
            have := HLN.out
            simp at this
            omega
          have hjl : j < l.length := by rw [HLN.out]; exact hlt
          have hcs := hlc j hjl
          have hlb' : lb < w4.heap.size := hlb
          have y0 := (HLC.out.bd.cell (p := ⟨lb, loff + j * 3, none⟩) hlb').trans hcs.1
          have y1 := (HLC.out.bd.cell (p := ⟨lb, loff + j * 3 + 1, none⟩) hlb').trans hcs.2.1
          have y2 := (HLC.out.bd.cell (p := ⟨lb, loff + j * 3 + 2, none⟩) hlb').trans hcs.2.2
          have HCJ := hid (HCB.out l[j] (List.getElem_mem _))
          have HTK := hid (show l.take (j + 1) = l.take j ++ [l[j]] from List.take_succ_eq_append_getElem hjl)
          have hcj := HCJ.out
          obtain ⟨z0, z1, z2⟩ := hcs
          clear hlc
          generalize l[j] = c at *
          obtain ⟨cw, cs, cx⟩ := c
          simp only at y0 y1 y2 z0 z1 z2 hcj
          have HY := hid (fun w' h => ⟨(h.cell (p := ⟨lb, loff + j * 3, none⟩) hlb').trans z0, (h.cell (p := ⟨lb, loff + j * 3 + 1, none⟩) hlb').trans z1, (h.cell (p := ⟨lb, loff + j * 3 + 2, none⟩) hlb').trans z2⟩ :
            ∀ w', Below w4.heap.size w4 w' → w'.cell? ⟨lb, loff + j * 3, none⟩ = some (.int .i64 cw) ∧ w'.cell? ⟨lb, loff + j * 3 + 1, none⟩ = some (.int .i64 cs) ∧ w'.cell? ⟨lb, loff + j * 3 + 2, none⟩ = some (.int .i64 cx))
          clear z0 z1 z2
          obtain ⟨p1, p2, p3, p4, hp5⟩ := hcj
          have HP5 := hid hp5
          clear hp5
          by_cases hA : 30 < cw
          · go_wp2_with fail
            refine (barrelled_any wr).mono ?_
            rintro e wZ ⟨rfl, hbZ⟩
            have HZ := hid (HWb.out.trans ((below_after (below_after HB4.out HLC.out.bd (Nat.le_refl _)) hbZ (Nat.le_refl _)).mono (by omega)))
            clear hbZ
            go_wp2_with fail
            go_ret
            exact ⟨rfl, HZ.out⟩
          by_cases hB : 100 < cs
          · go_wp2_with fail
            refine (barrelled_any wr).mono ?_
            rintro e wZ ⟨rfl, hbZ⟩
            have HZ := hid (HWb.out.trans ((below_after (below_after HB4.out HLC.out.bd (Nat.le_refl _)) hbZ (Nat.le_refl _)).mono (by omega)))
            clear hbZ
            go_wp2_with fail
            go_ret
            exact ⟨rfl, HZ.out⟩
          go_wp2_with fail
          obtain ⟨hv, hE⟩ := HLC.out.e
          have HSML := hid (show ∀ c ∈ l.take (j + 1), c.weight ≤ 30 ∧ c.strength ≤ 100 by
            rw [HTK.out]
            intro c hc
            rcases List.mem_append.1 hc with h | h
            · exact HLC.out.small c h
            · obtain rfl := List.mem_singleton.1 h
              exact ⟨hA, hB⟩)
          have HLW := hid (show (wsC (l.take j)).length ≤ 3 ∧ (ssC (l.take j)).length ≤ 3 ∧ (hsC (l.take j)).length ≤ 3 by
            have := HLN.out
            simp only [wsC, ssC, hsC, List.length_map, List.length_take]
            omega)
          obtain ⟨DR, hDR⟩ : ∃ DR, DR = wr.drew := ⟨_, rfl⟩
          have hBR : Below wr.heap.size wr DR := by rw [hDR]; exact (Below.refl _ _).drew
          have HE := hid (hE.up hBR)
          have HGS := hid (fun a b h k => below_after h k (Nat.le_refl _) : ∀ a b : World, Below w4.heap.size w4 a → Below a.heap.size a b → Below w4.heap.size w4 b)
          have HDR := hid hDR
          clear hE hBR hDR y0 y1 y2 HLC hsr
          apply wp_via4 (fun v1 v2 w' => LoopE (wsC (l.take j) ++ [cw]) (ssC (l.take j) ++ [cs]) (hsC (l.take j)) v1 v2 hv hv w4 w')
          · skip
            refine wp_region_grow (by kernel_rfl) 17 (Below w4.heap.size w4) ?_ ?_
            · rw [← HDR.out]; exact HE.out.bd
            rw [← HDR.out]
            refine wpG_take (i := 0) (v := u11) rfl rfl (by kernel_rfl) (by kernel_rfl) (by kernel_rfl) (by kernel_rfl) (fun _ _ _ h => h) (by rfl) (fun w' hS' => grow_value ?_ hS') ?_
            · go_simp
            try simp only [List.setIfInBounds_toArray, List.set_cons_zero, List.set_cons_succ]
            refine wpG_take (i := 1) (v := .slice (some ⟨lb, loff, none⟩) k lc') rfl rfl (by kernel_rfl) (by kernel_rfl) (by kernel_rfl) (by kernel_rfl) (fun _ _ _ h => h) (by rfl) (fun w' hS' => grow_value ?_ hS') ?_
            · go_simp
            try simp only [List.setIfInBounds_toArray, List.set_cons_zero, List.set_cons_succ]
            refine wpG_take (i := 2) (v := .int .i64 j) rfl rfl (by kernel_rfl) (by kernel_rfl) (by kernel_rfl) (by kernel_rfl) (fun _ _ _ h => h) (by rfl) (fun w' hS' => grow_value ?_ hS') ?_
            · go_simp
            try simp only [List.setIfInBounds_toArray, List.set_cons_zero, List.set_cons_succ]
            refine wpG_take (i := 3) (v := .pointer (some ⟨lb, loff + j * 3, none⟩)) rfl rfl (by kernel_rfl) (by kernel_rfl) (by kernel_rfl) (by kernel_rfl) (fun _ _ _ h => h) (by rfl) (fun w' hS' => grow_value ?_ hS') ?_
            · go_simp
            try simp only [List.setIfInBounds_toArray, List.set_cons_zero, List.set_cons_succ]
            refine wpG_take (i := 4) (v := .pointer (some ⟨lb, loff + j * 3, none⟩)) rfl rfl (by kernel_rfl) (by kernel_rfl) (by kernel_rfl) (by kernel_rfl) (fun _ _ _ h => h) (by rfl) (fun w' hS' => grow_value ?_ hS') ?_
            · go_simp
            try simp only [List.setIfInBounds_toArray, List.set_cons_zero, List.set_cons_succ]
            refine wpG_take (i := 5) (v := .int .i64 cw) rfl rfl (by kernel_rfl) (by kernel_rfl) (by kernel_rfl) (by kernel_rfl) (fun _ _ _ h => h) (by rfl) (fun w' hS' => grow_value ?_ hS') ?_
            · have y0 := (HY.out _ hS').1; have y1 := (HY.out _ hS').2.1; go_simp
            try simp only [List.setIfInBounds_toArray, List.set_cons_zero, List.set_cons_succ]
            refine wpG_take (i := 8) (v := u12) rfl rfl (by kernel_rfl) (by kernel_rfl) (by kernel_rfl) (by kernel_rfl) (fun _ _ _ h => h) (by rfl) (fun w' hS' => grow_value ?_ hS') ?_
            · go_simp
            try simp only [List.setIfInBounds_toArray, List.set_cons_zero, List.set_cons_succ]
            refine wpG_take (i := 9) (v := .slice (some ⟨lb, loff, none⟩) k lc') rfl rfl (by kernel_rfl) (by kernel_rfl) (by kernel_rfl) (by kernel_rfl) (fun _ _ _ h => h) (by rfl) (fun w' hS' => grow_value ?_ hS') ?_
            · go_simp
            try simp only [List.setIfInBounds_toArray, List.set_cons_zero, List.set_cons_succ]
            refine wpG_take (i := 10) (v := .int .i64 j) rfl rfl (by kernel_rfl) (by kernel_rfl) (by kernel_rfl) (by kernel_rfl) (fun _ _ _ h => h) (by rfl) (fun w' hS' => grow_value ?_ hS') ?_
            · go_simp
            try simp only [List.setIfInBounds_toArray, List.set_cons_zero, List.set_cons_succ]
            refine wpG_take (i := 11) (v := .pointer (some ⟨lb, loff + j * 3, none⟩)) rfl rfl (by kernel_rfl) (by kernel_rfl) (by kernel_rfl) (by kernel_rfl) (fun _ _ _ h => h) (by rfl) (fun w' hS' => grow_value ?_ hS') ?_
            · go_simp
            try simp only [List.setIfInBounds_toArray, List.set_cons_zero, List.set_cons_succ]
            refine wpG_take (i := 12) (v := .pointer (some ⟨lb, loff + j * 3 + 1, none⟩)) rfl rfl (by kernel_rfl) (by kernel_rfl) (by kernel_rfl) (by kernel_rfl) (fun _ _ _ h => h) (by rfl) (fun w' hS' => grow_value ?_ hS') ?_
            · go_simp
            try simp only [List.setIfInBounds_toArray, List.set_cons_zero, List.set_cons_succ]
            refine wpG_take (i := 13) (v := .int .i64 cs) rfl rfl (by kernel_rfl) (by kernel_rfl) (by kernel_rfl) (by kernel_rfl) (fun _ _ _ h => h) (by rfl) (fun w' hS' => grow_value ?_ hS') ?_
            · have y0 := (HY.out _ hS').1; have y1 := (HY.out _ hS').2.1; go_simp
            try simp only [List.setIfInBounds_toArray, List.set_cons_zero, List.set_cons_succ]
            refine wpG_fork (i := 6) (j := 14) rfl rfl rfl rfl (by kernel_rfl) (by rfl) (by rfl) (fun wI hbI hSI => ?_) (fun wI hbI hSI => ?_)
            · skip
              try replace HE := hid (HE.out.up hbI)
              try replace HC6 := hid (HC6.out.up hbI)
              try replace HC14 := hid (HC14.out.up hbI)
              go_simp
              have HC6 := hid (NewC.new wI (.int .i64 cw) 3)
              have HO6 := hid HE.out.off1
              have hbJ := below_alloc1 (Nat.le_refl wI.heap.size) (Obj.cells #[.int .i64 cw] 3)
              obtain ⟨wJ, hwJ⟩ : ∃ wJ, wJ = wI.alloc (Obj.cells #[.int .i64 cw] 3) := ⟨_, rfl⟩
              obtain ⟨p6, hp⟩ : ∃ p, p = wI.heap.size := ⟨_, rfl⟩
              obtain ⟨L6, hl⟩ : ∃ v, v = Value.slice (some ⟨p6, 0, none⟩) 1 1 := ⟨_, rfl⟩
              rw [← hwJ] at hbJ HC6
              rw [← hp] at HC6 HO6
              have HL6 := hid hl
              have hSJ := HGS.out _ _ hSI hbJ
              rw [← hwJ, ← hp, ← hl]
              try replace HE := hid (HE.out.up hbJ)
              try replace HC6 := hid (HC6.out.up hbJ)
              try replace HC14 := hid (HC14.out.up hbJ)
              refine ⟨hSJ, ?_⟩
              clear hbI hSI hbJ hwJ hl hp hSJ
              try simp only [List.setIfInBounds_toArray, List.set_cons_zero, List.set_cons_succ]
              refine wpG_fork (i := 7) (j := 14) rfl rfl rfl rfl (by kernel_rfl) (by rfl) (by rfl) (fun wI hbI hSI => ?_) (fun wI hbI hSI => ?_)
              · skip
                try replace HE := hid (HE.out.up hbI)
                try replace HC6 := hid (HC6.out.up hbI)
                try replace HC14 := hid (HC14.out.up hbI)
                refine wp_append2 encI (.tmp 109) (.tmp 115) 47 rfl (w4.heap.size + 1) 3 (.int .i64 0) 1 8 ints_under infoInt rfl (by decide) encI_length encI_one u11 (wsC (l.take j)) (by rfl) HE.out.ws p6 1 cw (by exact HL6.out) HC6.out.news (by have := HLW.out.1; omega) (by decide) HE.out.size ?_
                intro v1 wJ hown hgr hwh
                replace HE := hid (HE.out.app1 hgr hown hwh)
                try replace HC14 := hid (HC14.out.app HO14.out hgr)
                refine ⟨HE.out.bd, ?_⟩
                clear hown hgr hwh hbI hSI
                try simp only [List.setIfInBounds_toArray, List.set_cons_zero, List.set_cons_succ]
                refine wpG_only (i := 14) rfl (by rfl) (by kernel_rfl) (by rfl) (fun wI hbI hSI => ?_)
                try replace HE := hid (HE.out.up hbI)
                try replace HC6 := hid (HC6.out.up hbI)
                try replace HC14 := hid (HC14.out.up hbI)
                go_simp
                have HC14 := hid (NewC.new wI (.int .i64 cs) 3)
                have HO14 := hid HE.out.off1
                have hbJ := below_alloc1 (Nat.le_refl wI.heap.size) (Obj.cells #[.int .i64 cs] 3)
                obtain ⟨wJ, hwJ⟩ : ∃ wJ, wJ = wI.alloc (Obj.cells #[.int .i64 cs] 3) := ⟨_, rfl⟩
                obtain ⟨p14, hp⟩ : ∃ p, p = wI.heap.size := ⟨_, rfl⟩
                obtain ⟨L14, hl⟩ : ∃ v, v = Value.slice (some ⟨p14, 0, none⟩) 1 1 := ⟨_, rfl⟩
                rw [← hwJ] at hbJ HC14
                rw [← hp] at HC14 HO14
                have HL14 := hid hl
                have hSJ := HGS.out _ _ hSI hbJ
                rw [← hwJ, ← hp, ← hl]
                try replace HE := hid (HE.out.up hbJ)
                try replace HC6 := hid (HC6.out.up hbJ)
                try replace HC14 := hid (HC14.out.up hbJ)
                refine ⟨hSJ, ?_⟩
                clear hbI hSI hbJ hwJ hl hp hSJ
                try simp only [List.setIfInBounds_toArray, List.set_cons_zero, List.set_cons_succ]
                refine wpG_only (i := 15) rfl (by rfl) (by kernel_rfl) (by rfl) (fun wI hbI hSI => ?_)
                try replace HE := hid (HE.out.up hbI)
                try replace HC6 := hid (HC6.out.up hbI)
                try replace HC14 := hid (HC14.out.up hbI)
                refine wp_append2 encI (.tmp 117) (.tmp 123) 47 rfl (w4.heap.size + 1) 3 (.int .i64 0) 1 8 ints_under infoInt rfl (by decide) encI_length encI_one u12 (ssC (l.take j)) (by rfl) HE.out.ss p14 1 cs (by exact HL14.out) HC14.out.news (by have := HLW.out.2.1; omega) (by decide) HE.out.size ?_
                intro v2 wJ hown hgr hwh
                replace HE := hid (HE.out.app2 hgr hown hwh)
                refine ⟨HE.out.bd, ?_⟩
                clear hown hgr hwh hbI hSI
                try simp only [List.setIfInBounds_toArray, List.set_cons_zero, List.set_cons_succ]
                refine wpG_take (i := 16) (v := v1) rfl rfl (by kernel_rfl) (by kernel_rfl) (by kernel_rfl) (by kernel_rfl) (fun _ _ _ h => h) (by rfl) (fun w' hS' => grow_value ?_ hS') ?_
                · go_simp
                try simp only [List.setIfInBounds_toArray, List.set_cons_zero, List.set_cons_succ]
                refine wpG_last rfl (by kernel_rfl) (by kernel_rfl) (by rfl) (fun wI hbI hSI => ?_)
                try replace HE := hid (HE.out.up hbI)
                try replace HC6 := hid (HC6.out.up hbI)
                try replace HC14 := hid (HC14.out.up hbI)
                go_simp
                exact ⟨L6, L14, v1, v2, rfl, HE.out⟩
              · skip
                try replace HE := hid (HE.out.up hbI)
                try replace HC6 := hid (HC6.out.up hbI)
                try replace HC14 := hid (HC14.out.up hbI)
                go_simp
                have HC14 := hid (NewC.new wI (.int .i64 cs) 3)
                have HO14 := hid HE.out.off1
                have hbJ := below_alloc1 (Nat.le_refl wI.heap.size) (Obj.cells #[.int .i64 cs] 3)
                obtain ⟨wJ, hwJ⟩ : ∃ wJ, wJ = wI.alloc (Obj.cells #[.int .i64 cs] 3) := ⟨_, rfl⟩
                obtain ⟨p14, hp⟩ : ∃ p, p = wI.heap.size := ⟨_, rfl⟩
                obtain ⟨L14, hl⟩ : ∃ v, v = Value.slice (some ⟨p14, 0, none⟩) 1 1 := ⟨_, rfl⟩
                rw [← hwJ] at hbJ HC14
                rw [← hp] at HC14 HO14
                have HL14 := hid hl
                have hSJ := HGS.out _ _ hSI hbJ
                rw [← hwJ, ← hp, ← hl]
                try replace HE := hid (HE.out.up hbJ)
                try replace HC6 := hid (HC6.out.up hbJ)
                try replace HC14 := hid (HC14.out.up hbJ)
                refine ⟨hSJ, ?_⟩
                clear hbI hSI hbJ hwJ hl hp hSJ
                try simp only [List.setIfInBounds_toArray, List.set_cons_zero, List.set_cons_succ]
                refine wpG_only (i := 7) rfl (by rfl) (by kernel_rfl) (by rfl) (fun wI hbI hSI => ?_)
                try replace HE := hid (HE.out.up hbI)
                try replace HC6 := hid (HC6.out.up hbI)
                try replace HC14 := hid (HC14.out.up hbI)
                refine wp_append2 encI (.tmp 109) (.tmp 115) 47 rfl (w4.heap.size + 1) 3 (.int .i64 0) 1 8 ints_under infoInt rfl (by decide) encI_length encI_one u11 (wsC (l.take j)) (by rfl) HE.out.ws p6 1 cw (by exact HL6.out) HC6.out.news (by have := HLW.out.1; omega) (by decide) HE.out.size ?_
                intro v1 wJ hown hgr hwh
                replace HE := hid (HE.out.app1 hgr hown hwh)
                try replace HC14 := hid (HC14.out.app HO14.out hgr)
                refine ⟨HE.out.bd, ?_⟩
                clear hown hgr hwh hbI hSI
                try simp only [List.setIfInBounds_toArray, List.set_cons_zero, List.set_cons_succ]
                refine wpG_only (i := 15) rfl (by rfl) (by kernel_rfl) (by rfl) (fun wI hbI hSI => ?_)
                try replace HE := hid (HE.out.up hbI)
                try replace HC6 := hid (HC6.out.up hbI)
                try replace HC14 := hid (HC14.out.up hbI)
                refine wp_append2 encI (.tmp 117) (.tmp 123) 47 rfl (w4.heap.size + 1) 3 (.int .i64 0) 1 8 ints_under infoInt rfl (by decide) encI_length encI_one u12 (ssC (l.take j)) (by rfl) HE.out.ss p14 1 cs (by exact HL14.out) HC14.out.news (by have := HLW.out.2.1; omega) (by decide) HE.out.size ?_
                intro v2 wJ hown hgr hwh
                replace HE := hid (HE.out.app2 hgr hown hwh)
                refine ⟨HE.out.bd, ?_⟩
                clear hown hgr hwh hbI hSI
                try simp only [List.setIfInBounds_toArray, List.set_cons_zero, List.set_cons_succ]
                refine wpG_take (i := 16) (v := v1) rfl rfl (by kernel_rfl) (by kernel_rfl) (by kernel_rfl) (by kernel_rfl) (fun _ _ _ h => h) (by rfl) (fun w' hS' => grow_value ?_ hS') ?_
                · go_simp
                try simp only [List.setIfInBounds_toArray, List.set_cons_zero, List.set_cons_succ]
                refine wpG_last rfl (by kernel_rfl) (by kernel_rfl) (by rfl) (fun wI hbI hSI => ?_)
                try replace HE := hid (HE.out.up hbI)
                try replace HC6 := hid (HC6.out.up hbI)
                try replace HC14 := hid (HC14.out.up hbI)
                go_simp
                exact ⟨L6, L14, v1, v2, rfl, HE.out⟩
            · skip
              try replace HE := hid (HE.out.up hbI)
              try replace HC6 := hid (HC6.out.up hbI)
              try replace HC14 := hid (HC14.out.up hbI)
              go_simp
              have HC14 := hid (NewC.new wI (.int .i64 cs) 3)
              have HO14 := hid HE.out.off1
              have hbJ := below_alloc1 (Nat.le_refl wI.heap.size) (Obj.cells #[.int .i64 cs] 3)
              obtain ⟨wJ, hwJ⟩ : ∃ wJ, wJ = wI.alloc (Obj.cells #[.int .i64 cs] 3) := ⟨_, rfl⟩
              obtain ⟨p14, hp⟩ : ∃ p, p = wI.heap.size := ⟨_, rfl⟩
              obtain ⟨L14, hl⟩ : ∃ v, v = Value.slice (some ⟨p14, 0, none⟩) 1 1 := ⟨_, rfl⟩
              rw [← hwJ] at hbJ HC14
              rw [← hp] at HC14 HO14
              have HL14 := hid hl
              have hSJ := HGS.out _ _ hSI hbJ
              rw [← hwJ, ← hp, ← hl]
              try replace HE := hid (HE.out.up hbJ)
              try replace HC6 := hid (HC6.out.up hbJ)
              try replace HC14 := hid (HC14.out.up hbJ)
              refine ⟨hSJ, ?_⟩
              clear hbI hSI hbJ hwJ hl hp hSJ
              try simp only [List.setIfInBounds_toArray, List.set_cons_zero, List.set_cons_succ]
              refine wpG_only (i := 6) rfl (by rfl) (by kernel_rfl) (by rfl) (fun wI hbI hSI => ?_)
              try replace HE := hid (HE.out.up hbI)
              try replace HC6 := hid (HC6.out.up hbI)
              try replace HC14 := hid (HC14.out.up hbI)
              go_simp
              have HC6 := hid (NewC.new wI (.int .i64 cw) 3)
              have HO6 := hid HE.out.off1
              have hbJ := below_alloc1 (Nat.le_refl wI.heap.size) (Obj.cells #[.int .i64 cw] 3)
              obtain ⟨wJ, hwJ⟩ : ∃ wJ, wJ = wI.alloc (Obj.cells #[.int .i64 cw] 3) := ⟨_, rfl⟩
              obtain ⟨p6, hp⟩ : ∃ p, p = wI.heap.size := ⟨_, rfl⟩
              obtain ⟨L6, hl⟩ : ∃ v, v = Value.slice (some ⟨p6, 0, none⟩) 1 1 := ⟨_, rfl⟩
              rw [← hwJ] at hbJ HC6
              rw [← hp] at HC6 HO6
              have HL6 := hid hl
              have hSJ := HGS.out _ _ hSI hbJ
              rw [← hwJ, ← hp, ← hl]
              try replace HE := hid (HE.out.up hbJ)
              try replace HC6 := hid (HC6.out.up hbJ)
              try replace HC14 := hid (HC14.out.up hbJ)
              refine ⟨hSJ, ?_⟩
              clear hbI hSI hbJ hwJ hl hp hSJ
              try simp only [List.setIfInBounds_toArray, List.set_cons_zero, List.set_cons_succ]
              refine wpG_only (i := 7) rfl (by rfl) (by kernel_rfl) (by rfl) (fun wI hbI hSI => ?_)
              try replace HE := hid (HE.out.up hbI)
              try replace HC6 := hid (HC6.out.up hbI)
              try replace HC14 := hid (HC14.out.up hbI)
              refine wp_append2 encI (.tmp 109) (.tmp 115) 47 rfl (w4.heap.size + 1) 3 (.int .i64 0) 1 8 ints_under infoInt rfl (by decide) encI_length encI_one u11 (wsC (l.take j)) (by rfl) HE.out.ws p6 1 cw (by exact HL6.out) HC6.out.news (by have := HLW.out.1; omega) (by decide) HE.out.size ?_
              intro v1 wJ hown hgr hwh
              replace HE := hid (HE.out.app1 hgr hown hwh)
              try replace HC14 := hid (HC14.out.app HO14.out hgr)
              refine ⟨HE.out.bd, ?_⟩
              clear hown hgr hwh hbI hSI
              try simp only [List.setIfInBounds_toArray, List.set_cons_zero, List.set_cons_succ]
              refine wpG_only (i := 15) rfl (by rfl) (by kernel_rfl) (by rfl) (fun wI hbI hSI => ?_)
              try replace HE := hid (HE.out.up hbI)
              try replace HC6 := hid (HC6.out.up hbI)
              try replace HC14 := hid (HC14.out.up hbI)
              refine wp_append2 encI (.tmp 117) (.tmp 123) 47 rfl (w4.heap.size + 1) 3 (.int .i64 0) 1 8 ints_under infoInt rfl (by decide) encI_length encI_one u12 (ssC (l.take j)) (by rfl) HE.out.ss p14 1 cs (by exact HL14.out) HC14.out.news (by have := HLW.out.2.1; omega) (by decide) HE.out.size ?_
              intro v2 wJ hown hgr hwh
              replace HE := hid (HE.out.app2 hgr hown hwh)
              refine ⟨HE.out.bd, ?_⟩
              clear hown hgr hwh hbI hSI
              try simp only [List.setIfInBounds_toArray, List.set_cons_zero, List.set_cons_succ]
              refine wpG_take (i := 16) (v := v1) rfl rfl (by kernel_rfl) (by kernel_rfl) (by kernel_rfl) (by kernel_rfl) (fun _ _ _ h => h) (by rfl) (fun w' hS' => grow_value ?_ hS') ?_
              · go_simp
              try simp only [List.setIfInBounds_toArray, List.set_cons_zero, List.set_cons_succ]
              refine wpG_last rfl (by kernel_rfl) (by kernel_rfl) (by rfl) (fun wI hbI hSI => ?_)
              try replace HE := hid (HE.out.up hbI)
              try replace HC6 := hid (HC6.out.up hbI)
              try replace HC14 := hid (HC14.out.up hbI)
              go_simp
              exact ⟨L6, L14, v1, v2, rfl, HE.out⟩
          intro x0 x1 v1 v2 w5 hE5
          have HE5 := hid hE5
          clear hE5 HE HDR
          go_wp2_with fail
          obtain ⟨DS, hDS⟩ : ∃ DS, DS = w5.drew := ⟨_, rfl⟩
          have hBS : Below w5.heap.size w5 DS := by rw [hDS]; exact (Below.refl _ _).drew
          have HE := hid (HE5.out.up hBS)
          have HDS := hid hDS
          have hs5 := HE.out.size
          clear hBS hDS HE5
          refine wp_region_grow (by kernel_rfl) 16 (fun w' => Below w4.heap.size w4 w' ∧ w'.heap[w4.heap.size]? = some (.cells #[hv, .slice none 0 0, .slice none 0 0] 35 (0, 0))) ?_ ?_
          · rw [← HDS.out]; exact ⟨HE.out.bd, HE.out.row⟩
          rw [← HDS.out]
          refine wpG_take (i := 0) (v := .pointer (some ⟨w4.heap.size, 0, none⟩)) rfl rfl (by kernel_rfl) (by kernel_rfl) (by kernel_rfl) (by kernel_rfl) (fun _ _ _ h => h) (by rfl) (fun w' hS' => grow_value ?_ hS') ?_
          · go_simp
          try simp only [List.setIfInBounds_toArray, List.set_cons_zero, List.set_cons_succ]
          refine wpG_take (i := 1) (v := hv) rfl rfl (by kernel_rfl) (by kernel_rfl) (by kernel_rfl) (by kernel_rfl) (fun _ _ _ h => h) (by rfl) (fun w' hS' => grow_value ?_ hS') ?_
          · have y1 := (HY.out _ hS'.1).2.1; have r0 := cell_of_row hS'.2 0; simp only [List.getElem?_toArray, List.getElem?_cons_zero] at r0; go_simp
          try simp only [List.setIfInBounds_toArray, List.set_cons_zero, List.set_cons_succ]
          refine wpG_take (i := 2) (v := .slice (some ⟨lb, loff, none⟩) k lc') rfl rfl (by kernel_rfl) (by kernel_rfl) (by kernel_rfl) (by kernel_rfl) (fun _ _ _ h => h) (by rfl) (fun w' hS' => grow_value ?_ hS') ?_
          · go_simp
          try simp only [List.setIfInBounds_toArray, List.set_cons_zero, List.set_cons_succ]
          refine wpG_take (i := 7) (v := .slice (some ⟨lb, loff, none⟩) k lc') rfl rfl (by kernel_rfl) (by kernel_rfl) (by kernel_rfl) (by kernel_rfl) (fun _ _ _ h => h) (by rfl) (fun w' hS' => grow_value ?_ hS') ?_
          · go_simp
          try simp only [List.setIfInBounds_toArray, List.set_cons_zero, List.set_cons_succ]
          refine wpG_take (i := 3) (v := .int .i64 j) rfl rfl (by kernel_rfl) (by kernel_rfl) (by kernel_rfl) (by kernel_rfl) (fun _ _ _ h => h) (by rfl) (fun w' hS' => grow_value ?_ hS') ?_
          · go_simp
          try simp only [List.setIfInBounds_toArray, List.set_cons_zero, List.set_cons_succ]
          refine wpG_take (i := 8) (v := .int .i64 j) rfl rfl (by kernel_rfl) (by kernel_rfl) (by kernel_rfl) (by kernel_rfl) (fun _ _ _ h => h) (by rfl) (fun w' hS' => grow_value ?_ hS') ?_
          · go_simp
          try simp only [List.setIfInBounds_toArray, List.set_cons_zero, List.set_cons_succ]
          refine wpG_take (i := 4) (v := .pointer (some ⟨lb, loff + j * 3, none⟩)) rfl rfl (by kernel_rfl) (by kernel_rfl) (by kernel_rfl) (by kernel_rfl) (fun _ _ _ h => h) (by rfl) (fun w' hS' => grow_value ?_ hS') ?_
          · go_simp
          try simp only [List.setIfInBounds_toArray, List.set_cons_zero, List.set_cons_succ]
          refine wpG_take (i := 9) (v := .pointer (some ⟨lb, loff + j * 3, none⟩)) rfl rfl (by kernel_rfl) (by kernel_rfl) (by kernel_rfl) (by kernel_rfl) (fun _ _ _ h => h) (by rfl) (fun w' hS' => grow_value ?_ hS') ?_
          · go_simp
          try simp only [List.setIfInBounds_toArray, List.set_cons_zero, List.set_cons_succ]
          refine wpG_take (i := 5) (v := .pointer (some ⟨lb, loff + j * 3 + 1, none⟩)) rfl rfl (by kernel_rfl) (by kernel_rfl) (by kernel_rfl) (by kernel_rfl) (fun _ _ _ h => h) (by rfl) (fun w' hS' => grow_value ?_ hS') ?_
          · go_simp
          try simp only [List.setIfInBounds_toArray, List.set_cons_zero, List.set_cons_succ]
          refine wpG_take (i := 10) (v := .pointer (some ⟨lb, loff + j * 3 + 1, none⟩)) rfl rfl (by kernel_rfl) (by kernel_rfl) (by kernel_rfl) (by kernel_rfl) (fun _ _ _ h => h) (by rfl) (fun w' hS' => grow_value ?_ hS') ?_
          · go_simp
          try simp only [List.setIfInBounds_toArray, List.set_cons_zero, List.set_cons_succ]
          refine wpG_take (i := 6) (v := .int .i64 cs) rfl rfl (by kernel_rfl) (by kernel_rfl) (by kernel_rfl) (by kernel_rfl) (fun _ _ _ h => h) (by rfl) (fun w' hS' => grow_value ?_ hS') ?_
          · have y1 := (HY.out _ hS'.1).2.1; have r0 := cell_of_row hS'.2 0; simp only [List.getElem?_toArray, List.getElem?_cons_zero] at r0; go_simp
          try simp only [List.setIfInBounds_toArray, List.set_cons_zero, List.set_cons_succ]
          refine wpG_take (i := 11) (v := .int .i64 cs) rfl rfl (by kernel_rfl) (by kernel_rfl) (by kernel_rfl) (by kernel_rfl) (fun _ _ _ h => h) (by rfl) (fun w' hS' => grow_value ?_ hS') ?_
          · have y1 := (HY.out _ hS'.1).2.1; have r0 := cell_of_row hS'.2 0; simp only [List.getElem?_toArray, List.getElem?_cons_zero] at r0; go_simp
          try simp only [List.setIfInBounds_toArray, List.set_cons_zero, List.set_cons_succ]
          refine wpG_take (i := 12) (v := .agg #[.int .i64 cs, .int .i64 cs]) rfl rfl (by kernel_rfl) (by kernel_rfl) (by kernel_rfl) (by kernel_rfl) (fun _ _ _ h => h) (by rfl) (fun w' hS' => grow_value ?_ hS') ?_
          · go_simp
          try simp only [List.setIfInBounds_toArray, List.set_cons_zero, List.set_cons_succ]
          refine wpG_only (i := 13) rfl (by rfl) (by kernel_rfl) (by rfl) (fun wI hbI hSI => ?_)
          try replace HE := hid (HE.out.up hbI)
          try replace HN := hid (fun i u hu => (hbI.cell (p := ⟨p, i, none⟩) HPW.out).trans (HN.out i u hu) : ∀ i u, [Value.int .i64 cs, .int .i64 cs][i]? = some u → _)
          try replace HPW := hid (Nat.lt_of_lt_of_le HPW.out hbI.size)
          go_simp
          have hbJ := below_alloc1 (Nat.le_refl wI.heap.size) (Obj.cells #[.int .i64 cs, .int .i64 cs] 58)
          have hnew := cells_new wI [.int .i64 cs, .int .i64 cs] 58
          have hpw : wI.heap.size < (wI.alloc (Obj.cells #[.int .i64 cs, .int .i64 cs] 58)).heap.size := by simp
          obtain ⟨wJ, hwJ⟩ : ∃ wJ, wJ = wI.alloc (Obj.cells #[.int .i64 cs, .int .i64 cs] 58) := ⟨_, rfl⟩
          obtain ⟨p, hp⟩ : ∃ p, p = wI.heap.size := ⟨_, rfl⟩
          rw [← hwJ] at hbJ hpw
          rw [← hp] at hpw
          have HN := hid (show ∀ i u, [Value.int .i64 cs, .int .i64 cs][i]? = some u → wJ.cell? ⟨p, i, none⟩ = some u by rw [hwJ, hp]; exact hnew)
          have HPW := hid hpw
          replace HE := hid (HE.out.up hbJ)
          rw [← hwJ, ← hp]
          refine ⟨⟨HE.out.bd, HE.out.row⟩, ?_⟩
          clear hbI hSI hbJ hwJ hp hpw hnew
          try simp only [List.setIfInBounds_toArray, List.set_cons_zero, List.set_cons_succ]
          refine wpG_only (i := 14) rfl (by rfl) (by kernel_rfl) (by rfl) (fun wI hbI hSI => ?_)
          replace HE := hid (HE.out.up hbI)
          have HN9 := hid (fun i u hu => (hbI.cell (p := ⟨p, i, none⟩) HPW.out).trans (HN.out i u hu) : ∀ i u, [Value.int .i64 cs, .int .i64 cs][i]? = some u → wI.cell? ⟨p, i, none⟩ = some u)
          refine wp_append1 encR (.tmp 126) (.tmp 138) 29 rfl (w4.heap.size + 1) 58 (.agg #[.int .i64 0, .int .i64 0]) 2 16 ranges_under infoRange rfl (by decide) encR_length encR_one hv (hsC (l.take j)) (by rfl) HE.out.hs p 1 ⟨cs, cs⟩ (by rfl) HN9.out (by have := HLW.out.2.2; omega) (by decide) HE.out.size ?_
          intro ov wJ hown hgr
          replace HE := hid (HE.out.app3 hgr hown)
          obtain ⟨qa, qc, hov, -, -⟩ := hown.slLt encR_length
          obtain ⟨qm, hqm⟩ : ∃ qm, qm = (hsC (l.take j) ++ [(⟨cs, cs⟩ : Rg)]).length := ⟨_, rfl⟩
          rw [← hqm] at hov
          clear hqm hown hgr hbI hSI HN HN9 HPW
          subst hov
          refine ⟨⟨HE.out.bd, HE.out.row⟩, ?_⟩
          try simp only [List.setIfInBounds_toArray, List.set_cons_zero, List.set_cons_succ]
          refine wpG_take (i := 15) (v := .pointer (some ⟨w4.heap.size, 0, none⟩)) rfl rfl (by kernel_rfl) (by kernel_rfl) (by kernel_rfl) (by kernel_rfl) (fun _ _ _ h => h) (by rfl) (fun w' hS' => grow_value ?_ hS') ?_
          · go_simp
          try simp only [List.setIfInBounds_toArray, List.set_cons_zero, List.set_cons_succ]
          refine wpG_last rfl (by kernel_rfl) (by kernel_rfl) (by rfl) (fun wI hbI hSI => ?_)
          replace HE := hid (HE.out.up hbI)
          have hrow := HE.out.row
          have c5 := cell_of_row hrow 0
          have f5 := frozen_of_row hrow 0
          simp only [List.getElem?_toArray, List.getElem?_cons_zero] at c5
          go_simp
          replace HE := hid HE.out.store
          clear hrow c5 f5 hbI hSI HDS
          generalize wI.setCell ⟨w4.heap.size, 0, none⟩ (.slice qa qm qc) = w6 at *
          go_wp2_with fail
          have hcx : 0 ≤ cx ∧ cx ≤ 3000 := by
            rw [HP5.out]
            exact ⟨Int.mul_nonneg p1 p3, Int.le_trans (Int.mul_le_mul hA hB p3 (by decide)) (by decide)⟩
          obtain ⟨sx, hsx⟩ : ∃ sx, sx = x + cw := ⟨_, rfl⟩
          obtain ⟨sy, hsy⟩ : ∃ sy, sy = y + cx := ⟨_, rfl⟩
          obtain ⟨sz, hsz⟩ : ∃ sz, sz = max z cs := ⟨_, rfl⟩
          have hwx : IntKind.i64.wrap (x + cw) = sx := by rw [hsx]; exact IntWalk.i64_in _ (by omega)
          have hwy : IntKind.i64.wrap (y + cx) = sy := by rw [hsy]; exact IntWalk.i64_in _ (by omega)
          have HSX := hid hsx
          have HSY := hid hsy
          have HSZ := hid hsz
          clear hsx hsy hsz
          obtain ⟨DT, hDT⟩ : ∃ DT, DT = w6.drew := ⟨_, rfl⟩
          have hBT : Below w6.heap.size w6 DT := by rw [hDT]; exact (Below.refl _ _).drew
          replace HE := hid (HE.out.up hBT)
          have HDT := hid hDT
          clear hBT hDT
          refine wp_region_grow (by kernel_rfl) 23 (Below w4.heap.size w4) ?_ ?_
          · rw [← HDT.out]; exact HE.out.bd
          rw [← HDT.out]
          refine wpG_take (i := 0) (v := .int .i64 x) rfl rfl (by kernel_rfl) (by kernel_rfl) (by kernel_rfl) (by kernel_rfl) (fun _ _ _ h => h) (by rfl) (fun w' hS' => grow_value ?_ hS') ?_
          · go_simp
          try simp only [List.setIfInBounds_toArray, List.set_cons_zero, List.set_cons_succ]
          refine wpG_take (i := 1) (v := .slice (some ⟨lb, loff, none⟩) k lc') rfl rfl (by kernel_rfl) (by kernel_rfl) (by kernel_rfl) (by kernel_rfl) (fun _ _ _ h => h) (by rfl) (fun w' hS' => grow_value ?_ hS') ?_
          · go_simp
          try simp only [List.setIfInBounds_toArray, List.set_cons_zero, List.set_cons_succ]
          refine wpG_take (i := 8) (v := .slice (some ⟨lb, loff, none⟩) k lc') rfl rfl (by kernel_rfl) (by kernel_rfl) (by kernel_rfl) (by kernel_rfl) (fun _ _ _ h => h) (by rfl) (fun w' hS' => grow_value ?_ hS') ?_
          · go_simp
          try simp only [List.setIfInBounds_toArray, List.set_cons_zero, List.set_cons_succ]
          refine wpG_take (i := 15) (v := .slice (some ⟨lb, loff, none⟩) k lc') rfl rfl (by kernel_rfl) (by kernel_rfl) (by kernel_rfl) (by kernel_rfl) (fun _ _ _ h => h) (by rfl) (fun w' hS' => grow_value ?_ hS') ?_
          · go_simp
          try simp only [List.setIfInBounds_toArray, List.set_cons_zero, List.set_cons_succ]
          refine wpG_take (i := 2) (v := .int .i64 j) rfl rfl (by kernel_rfl) (by kernel_rfl) (by kernel_rfl) (by kernel_rfl) (fun _ _ _ h => h) (by rfl) (fun w' hS' => grow_value ?_ hS') ?_
          · go_simp
          try simp only [List.setIfInBounds_toArray, List.set_cons_zero, List.set_cons_succ]
          refine wpG_take (i := 9) (v := .int .i64 j) rfl rfl (by kernel_rfl) (by kernel_rfl) (by kernel_rfl) (by kernel_rfl) (fun _ _ _ h => h) (by rfl) (fun w' hS' => grow_value ?_ hS') ?_
          · go_simp
          try simp only [List.setIfInBounds_toArray, List.set_cons_zero, List.set_cons_succ]
          refine wpG_take (i := 16) (v := .int .i64 j) rfl rfl (by kernel_rfl) (by kernel_rfl) (by kernel_rfl) (by kernel_rfl) (fun _ _ _ h => h) (by rfl) (fun w' hS' => grow_value ?_ hS') ?_
          · go_simp
          try simp only [List.setIfInBounds_toArray, List.set_cons_zero, List.set_cons_succ]
          refine wpG_take (i := 3) (v := .pointer (some ⟨lb, loff + j * 3, none⟩)) rfl rfl (by kernel_rfl) (by kernel_rfl) (by kernel_rfl) (by kernel_rfl) (fun _ _ _ h => h) (by rfl) (fun w' hS' => grow_value ?_ hS') ?_
          · go_simp
          try simp only [List.setIfInBounds_toArray, List.set_cons_zero, List.set_cons_succ]
          refine wpG_take (i := 10) (v := .pointer (some ⟨lb, loff + j * 3, none⟩)) rfl rfl (by kernel_rfl) (by kernel_rfl) (by kernel_rfl) (by kernel_rfl) (fun _ _ _ h => h) (by rfl) (fun w' hS' => grow_value ?_ hS') ?_
          · go_simp
          try simp only [List.setIfInBounds_toArray, List.set_cons_zero, List.set_cons_succ]
          refine wpG_take (i := 17) (v := .pointer (some ⟨lb, loff + j * 3, none⟩)) rfl rfl (by kernel_rfl) (by kernel_rfl) (by kernel_rfl) (by kernel_rfl) (fun _ _ _ h => h) (by rfl) (fun w' hS' => grow_value ?_ hS') ?_
          · go_simp
          try simp only [List.setIfInBounds_toArray, List.set_cons_zero, List.set_cons_succ]
          refine wpG_take (i := 4) (v := .pointer (some ⟨lb, loff + j * 3, none⟩)) rfl rfl (by kernel_rfl) (by kernel_rfl) (by kernel_rfl) (by kernel_rfl) (fun _ _ _ h => h) (by rfl) (fun w' hS' => grow_value ?_ hS') ?_
          · go_simp
          try simp only [List.setIfInBounds_toArray, List.set_cons_zero, List.set_cons_succ]
          refine wpG_take (i := 5) (v := .int .i64 cw) rfl rfl (by kernel_rfl) (by kernel_rfl) (by kernel_rfl) (by kernel_rfl) (fun _ _ _ h => h) (by rfl) (fun w' hS' => grow_value ?_ hS') ?_
          · have y0 := (HY.out _ hS').1; have y1 := (HY.out _ hS').2.1; have y2 := (HY.out _ hS').2.2; go_simp
          try simp only [List.setIfInBounds_toArray, List.set_cons_zero, List.set_cons_succ]
          refine wpG_take (i := 6) (v := .int .i64 sx) rfl rfl (by kernel_rfl) (by kernel_rfl) (by kernel_rfl) (by kernel_rfl) (fun _ _ _ h => h) (by rfl) (fun w' hS' => grow_value ?_ hS') ?_
          · go_simp
          try simp only [List.setIfInBounds_toArray, List.set_cons_zero, List.set_cons_succ]
          refine wpG_take (i := 7) (v := .int .i64 y) rfl rfl (by kernel_rfl) (by kernel_rfl) (by kernel_rfl) (by kernel_rfl) (fun _ _ _ h => h) (by rfl) (fun w' hS' => grow_value ?_ hS') ?_
          · go_simp
          try simp only [List.setIfInBounds_toArray, List.set_cons_zero, List.set_cons_succ]
          refine wpG_take (i := 11) (v := .pointer (some ⟨lb, loff + j * 3 + 2, none⟩)) rfl rfl (by kernel_rfl) (by kernel_rfl) (by kernel_rfl) (by kernel_rfl) (fun _ _ _ h => h) (by rfl) (fun w' hS' => grow_value ?_ hS') ?_
          · go_simp
          try simp only [List.setIfInBounds_toArray, List.set_cons_zero, List.set_cons_succ]
          refine wpG_take (i := 12) (v := .int .i64 cx) rfl rfl (by kernel_rfl) (by kernel_rfl) (by kernel_rfl) (by kernel_rfl) (fun _ _ _ h => h) (by rfl) (fun w' hS' => grow_value ?_ hS') ?_
          · have y0 := (HY.out _ hS').1; have y1 := (HY.out _ hS').2.1; have y2 := (HY.out _ hS').2.2; go_simp
          try simp only [List.setIfInBounds_toArray, List.set_cons_zero, List.set_cons_succ]
          refine wpG_take (i := 13) (v := .int .i64 sy) rfl rfl (by kernel_rfl) (by kernel_rfl) (by kernel_rfl) (by kernel_rfl) (fun _ _ _ h => h) (by rfl) (fun w' hS' => grow_value ?_ hS') ?_
          · go_simp
          try simp only [List.setIfInBounds_toArray, List.set_cons_zero, List.set_cons_succ]
          refine wpG_take (i := 14) (v := .int .i64 z) rfl rfl (by kernel_rfl) (by kernel_rfl) (by kernel_rfl) (by kernel_rfl) (fun _ _ _ h => h) (by rfl) (fun w' hS' => grow_value ?_ hS') ?_
          · go_simp
          try simp only [List.setIfInBounds_toArray, List.set_cons_zero, List.set_cons_succ]
          refine wpG_take (i := 18) (v := .pointer (some ⟨lb, loff + j * 3 + 1, none⟩)) rfl rfl (by kernel_rfl) (by kernel_rfl) (by kernel_rfl) (by kernel_rfl) (fun _ _ _ h => h) (by rfl) (fun w' hS' => grow_value ?_ hS') ?_
          · go_simp
          try simp only [List.setIfInBounds_toArray, List.set_cons_zero, List.set_cons_succ]
          refine wpG_take (i := 19) (v := .int .i64 cs) rfl rfl (by kernel_rfl) (by kernel_rfl) (by kernel_rfl) (by kernel_rfl) (fun _ _ _ h => h) (by rfl) (fun w' hS' => grow_value ?_ hS') ?_
          · have y0 := (HY.out _ hS').1; have y1 := (HY.out _ hS').2.1; have y2 := (HY.out _ hS').2.2; go_simp
          try simp only [List.setIfInBounds_toArray, List.set_cons_zero, List.set_cons_succ]
          refine wpG_take (i := 20) (v := .int .i64 sz) rfl rfl (by kernel_rfl) (by kernel_rfl) (by kernel_rfl) (by kernel_rfl) (fun _ _ _ h => h) (by rfl) (fun w' hS' => grow_value ?_ hS') ?_
          · have y0 := (HY.out _ hS').1; have y1 := (HY.out _ hS').2.1; have y2 := (HY.out _ hS').2.2; go_simp; exact HSZ.out.symm
          try simp only [List.setIfInBounds_toArray, List.set_cons_zero, List.set_cons_succ]
          refine wpG_take (i := 21) (v := .int .i64 sx) rfl rfl (by kernel_rfl) (by kernel_rfl) (by kernel_rfl) (by kernel_rfl) (fun _ _ _ h => h) (by rfl) (fun w' hS' => grow_value ?_ hS') ?_
          · go_simp
          try simp only [List.setIfInBounds_toArray, List.set_cons_zero, List.set_cons_succ]
          refine wpG_take (i := 22) (v := .int .i64 sy) rfl rfl (by kernel_rfl) (by kernel_rfl) (by kernel_rfl) (by kernel_rfl) (fun _ _ _ h => h) (by rfl) (fun w' hS' => grow_value ?_ hS') ?_
          · go_simp
          try simp only [List.setIfInBounds_toArray, List.set_cons_zero, List.set_cons_succ]
          refine wpG_last rfl (by kernel_rfl) (by kernel_rfl) (by rfl) (fun wI hbI hSI => ?_)
          replace HE := hid (HE.out.up hbI)
          clear hbI hSI HDT
          go_simp
          go_wp2_with fail
          go_roundw
          case rel => exact ⟨j + 1, sx, sy, sz, by omega, by go_num, rfl, rfl, rfl, by have := HSX.out; omega, by have := HSX.out; omega, by have := HSY.out; omega, by have := HSY.out; omega, hid ⟨by rw [HTK.out, HSX.out, HS.out.1, wsC, wsC, List.map_append, sumI_append]; simp [sumI], by rw [HTK.out, HSY.out, HS.out.2.1, worthC, worthC, List.map_append, sumI_append]; simp [sumI], by rw [HTK.out, HSZ.out, HS.out.2.2, bestC_snoc]⟩, hid (HE.out.c HTK.out HSML.out)⟩
          case measure => simp [intOf]; omega
        · have hje : j = k := by omega
          subst hje
          by_cases hx00 : x = 0
          · subst hx00
            go_wp2_with fail
            refine (barrelled_any wr).mono ?_
            rintro e wZ ⟨rfl, hbZ⟩
            have HZ := hid (HWb.out.trans ((below_after (below_after HB4.out HLC.out.bd (Nat.le_refl _)) hbZ (Nat.le_refl _)).mono (by omega)))
            clear hbZ
            go_wp2_with fail
            go_ret
            exact ⟨rfl, HZ.out⟩
          · have hxe : (x == 0) = false := by simpa using hx00
            have hlj : l.take j = l := by rw [← HLN.out, List.take_length]
            obtain ⟨hv, hrow, hownh⟩ := HLC.out.hs
            have hownw := HLC.out.ws
            have howns := HLC.out.ss
            rw [hlj] at hownh hownw howns
            obtain ⟨wa2, wc2, hwv, -, -⟩ := hownw.slLt encI_length
            obtain ⟨sa2, sc2, hsv, -, -⟩ := howns.slLt encI_length
            obtain ⟨ha2, hc2, hhv, -, -⟩ := hownh.slLt encR_length
            rw [show (wsC l).length = j by rw [wsC, List.length_map]; exact HLN.out] at hwv
            rw [show (ssC l).length = j by rw [ssC, List.length_map]; exact HLN.out] at hsv
            rw [show (hsC l).length = j by rw [hsC, List.length_map]; exact HLN.out] at hhv
            subst hwv hsv hhv
            have HOW := hid hownw
            have HOS := hid howns
            have HOH := hid hownh
            have HRW := hid hrow
            have HBR := hid HLC.out.bd
            have HSMC := hid HLC.out.small
            have HLJ := hid hlj
            clear hownw howns hownh HLC hlj
            have hXl : w4.heap.size < wr.heap.size := by omega
            have o1 := cell_of_row hrow 1
            have f1 := frozen_of_row hrow 1
            simp only [List.getElem?_toArray, List.getElem?_cons_zero, List.getElem?_cons_succ] at o1
            clear hrow
            go_wp2_with fail
            obtain ⟨Y, hY⟩ : ∃ Y, Y = wr.setCell ⟨w4.heap.size, 1, none⟩ (.slice (some ⟨wr.heap.size, 0, none⟩) 1 1) := ⟨_, rfl⟩
            rw [← hY]
            have hYc : Chg (fun b => b = w4.heap.size) wr Y := by rw [hY]; exact setCell_chg _
            have hYr := row_set HRW.out 1 (.slice (some ⟨wr.heap.size, 0, none⟩) 1 1)
            have hYs : Y.heap.size = wr.heap.size := by rw [hY]; simp
            rw [← hY] at hYr
            simp only [List.setIfInBounds_toArray, List.set_cons_zero, List.set_cons_succ] at hYr
            obtain ⟨Z, hZ⟩ : ∃ Z, Z = Y.alloc (Obj.cells #[.slice wa2 j wc2] 47) := ⟨_, rfl⟩
            rw [← hZ]
            have hZb : Below Y.heap.size Y Z := by rw [hZ]; exact below_alloc1 (Nat.le_refl _) _
            have hZn : Z.heap[wr.heap.size]? = some (.cells #[.slice wa2 j wc2] 47 (0, 0)) := by
              rw [hZ, ← hYs]; exact heap_new _ _
            have hZl : wr.heap.size < Z.heap.size := (Array.getElem?_eq_some_iff.1 hZn).1
            have hZr := (hZb.block _ (by omega)).trans hYr
            have hOW := (HOW.out.chg hYc (fun b hb => by omega)).below hZb
            have hOS := (HOS.out.chg hYc (fun b hb => by omega)).below hZb
            have hOH := (HOH.out.chg hYc (fun b hb => by omega)).below hZb
            have hIW := hOW.slLt encI_length
            have hks : Lss (Lt Z.heap.size) Z (.slice (some ⟨wr.heap.size, 0, none⟩) 1 1) [wsC l] :=
              Lss.of (vs := [.slice wa2 j wc2]) (Sl.of_row (α := Value) (sz := 1) (enc := fun v : Value => [v]) (S := Lt Z.heap.size) (l := [.slice wa2 j wc2]) hZn (by show _ < _; exact hZl) rfl (fun _ => rfl) (Nat.le_refl _)) rfl (fun i x l' hx hl => by
                match i, hx, hl with
                | 0, hx, hl => cases hx; cases hl; exact hIW
                | i + 1, hx, _ => simp at hx)
            have hce : CeV (Lt Z.heap.size) Z (.agg #[.slice ha2 j hc2, .slice (some ⟨wr.heap.size, 0, none⟩) 1 1, .slice none 0 0]) (cropC l) := ⟨_, _, _, rfl, hOH.slLt encR_length, hks, Sl.nil⟩
            have HCE := hid hce
            clear hce
            have HSI := hid (hOS.slLt encI_length)
            have HZB := hid (below_after HB4.out (HBR.out.trans ((hYc.below (n := w4.heap.size) (by omega) fun b hb e => by omega).trans (hZb.mono (by omega)))) (Nat.le_refl _))
            have HZR := hid hZr
            have hXZ : w4.heap.size < Z.heap.size := by omega
            clear hY hZ hYc hYr hYs hZb hZr hZn hOW hOS hOH hIW hks o1 f1 HOW HOS HOH HRW HBR
            have hfit : FitC l := by
              have hxs := HS.out.1
              rw [HLJ.out] at hxs
              refine ⟨?_, by rw [HLN.out]; exact hk3, fun c hc => ?_, by omega⟩
              · rcases l with _ | ⟨c, l⟩
                · simp [wsC, sumI] at hxs; omega
                · simp
              · have h1 := HCB.out c hc
                have h2 := HSMC.out c (by rw [HLJ.out]; exact hc)
                exact ⟨h1.1, h2.1, h1.2.2.1, h2.2, h1.2.2.2.2⟩
            have HFIT := hid hfit
            clear hfit
            obtain ⟨D2, hD2⟩ : ∃ D2, D2 = Z.drew := ⟨_, rfl⟩
            have hBZ : Below Z.heap.size Z D2 := by rw [hD2]; exact (Below.refl _ _).drew
            have hsZ : D2.heap.size ≤ Z.heap.size ∧ Z.heap.size ≤ D2.heap.size := by rw [hD2]; simp
            have HL2 := hid (fun w' h => ((hBZ.trans (h.mono (by omega))).block _ (by omega)).trans HZR.out : ∀ w', Below D2.heap.size D2 w' → w'.heap[w4.heap.size]? = _)
            have HC2 := hid (fun w' h => HCE.out.below (hBZ.trans (h.mono (by omega))) : ∀ w', Below D2.heap.size D2 w' → CeV (Lt Z.heap.size) w' _ (cropC l))
            have HS2 := hid (fun w' h => HSI.out.below (hBZ.trans (h.mono (by omega))) : ∀ w', Below D2.heap.size D2 w' → Ints (Lt Z.heap.size) w' _ (ssC l))
            refine wp_region_grow (by kernel_rfl) 9 (Below D2.heap.size D2) ?_ ?_
            · rw [← hD2]; exact Below.refl _ _
            rw [← hD2]
            have HG := below_grow D2
            clear hD2
            refine wpG_take (i := 0) (v := .agg #[.slice ha2 j hc2, .slice (some ⟨wr.heap.size, 0, none⟩) 1 1, .slice none 0 0]) rfl rfl (by kernel_rfl) (by kernel_rfl) (by kernel_rfl) (by kernel_rfl) (fun _ _ _ h => h) (by rfl) (fun w' hS' => grow_value ?_ hS') ?_
            · have hwr := HL2.out _ hS'; have j0 := cell_of_row hwr 0; have j1 := cell_of_row hwr 1; have j2 := cell_of_row hwr 2; simp only [List.getElem?_toArray, List.getElem?_cons_zero, List.getElem?_cons_succ] at j0 j1 j2; go_simp
            try simp only [List.setIfInBounds_toArray, List.set_cons_zero, List.set_cons_succ]
            refine wpG_take (i := 2) (v := .slice sa2 j sc2) rfl rfl (by kernel_rfl) (by kernel_rfl) (by kernel_rfl) (by kernel_rfl) (fun _ _ _ h => h) (by rfl) (fun w' hS' => grow_value ?_ hS') ?_
            · go_simp
            try simp only [List.setIfInBounds_toArray, List.set_cons_zero, List.set_cons_succ]
            refine wpG_only (i := 1) rfl (by rfl) (by kernel_rfl) (by rfl) (fun wI hbI hSI => ?_)
            go_simp
            have hbJ := below_alloc1 (Nat.le_refl wI.heap.size) (Obj.cells #[] 3)
            have HE := hid (Own.empty (α := Int) (sz := 1) (enc := encI) (e := 3) (base := D2.heap.size) wI hSI.size)
            obtain ⟨wJ, hwJ⟩ : ∃ wJ, wJ = wI.alloc (Obj.cells #[] 3) := ⟨_, rfl⟩
            rw [← hwJ] at hbJ HE
            obtain ⟨E, hE⟩ : ∃ E, E = Value.slice (some ⟨wI.heap.size, 0, none⟩) 0 0 := ⟨_, rfl⟩
            rw [← hE] at HE
            have hSJ := HG _ _ hSI hbJ
            refine ⟨by rw [← hwJ]; exact hSJ, ?_⟩
            rw [← hwJ, ← hE]
            clear hbI hSI hbJ hwJ hE hSJ
            try simp only [List.setIfInBounds_toArray, List.set_cons_zero, List.set_cons_succ]
            refine wpG_only (i := 3) rfl (by rfl) (by kernel_rfl) (by rfl) (fun wI hbI hSI => ?_)
            have hssl : (ssC l).length ≤ 3 := by rw [ssC, List.length_map, HLN.out]; exact hk3
            refine wp_appendL encI (.tmp 170) (.tmp 171) 47 rfl D2.heap.size 3 (.int .i64 0) 1 8 ints_under infoInt rfl (by decide) encI_length encI_one E [] (by rfl) (HE.out.below hbI) (Lt Z.heap.size) (.slice sa2 j sc2) (ssC l) (by rfl) (HS2.out wI hSI) (by simp; omega) (by decide) hSI.size ?_
            intro A wJ2 hownA hgrA
            rw [List.nil_append] at hownA
            have hSJ := hSI.grown hgrA hSI.size (fun k hk => (HE.out.block k hk).1)
            have HA := hid (hownA.slLt encI_length)
            refine ⟨hSJ, ?_⟩
            clear hownA hgrA hSJ hbI hSI HE
            try simp only [List.setIfInBounds_toArray, List.set_cons_zero, List.set_cons_succ]
            refine wpG_only (i := 4) rfl (by rfl) (by kernel_rfl) (by rfl) (fun wI hbI hSI => ?_)
            go_simp
            refine (play_ok (cropC l) _ A (ssC l) wI.heap.size wI (Nat.le_refl _) ((HC2.out wI hSI).le (by have := hSI.size; omega)) (HA.out.up hbI) (by omega) HFIT.out.fault (hsC_listed l)).mono ?_
            rintro e wK ⟨r, rfl, hr, hbK⟩
            have hSK := HG _ _ hSI hbK
            rw [show ((cropC l).casks.map fun k => mean (pad3 (ssC l)) k) = [worthC l / sumI (wsC l)] by rw [← HFIT.out.mean]; rfl] at hr
            have HR := hid hr
            refine ⟨hSK, ?_⟩
            clear hr hbK hSK hbI hSI HA
            try simp only [List.setIfInBounds_toArray, List.set_cons_zero, List.set_cons_succ]
            refine wpG_take (i := 5) (v := .tuple #[r, .int .i64 0]) rfl rfl (by kernel_rfl) (by kernel_rfl) (by kernel_rfl) (by kernel_rfl) (fun _ _ _ h => h) (by rfl) (fun w' hS' => grow_value ?_ hS') ?_
            · go_simp
            try simp only [List.setIfInBounds_toArray, List.set_cons_zero, List.set_cons_succ]
            refine wpG_take (i := 6) (v := r) rfl rfl (by kernel_rfl) (by kernel_rfl) (by kernel_rfl) (by kernel_rfl) (fun _ _ _ h => h) (by rfl) (fun w' hS' => grow_value ?_ hS') ?_
            · go_simp
            try simp only [List.setIfInBounds_toArray, List.set_cons_zero, List.set_cons_succ]
            refine wpG_take (i := 7) (v := .int .i64 0) rfl rfl (by kernel_rfl) (by kernel_rfl) (by kernel_rfl) (by kernel_rfl) (fun _ _ _ h => h) (by rfl) (fun w' hS' => grow_value ?_ hS') ?_
            · go_simp
            try simp only [List.setIfInBounds_toArray, List.set_cons_zero, List.set_cons_succ]
            refine wpG_only (i := 8) rfl (by rfl) (by kernel_rfl) (by rfl) (fun wI hbI hSI => ?_)
            have HSJ := hid hSI
            have HRI := hid (HR.out.up hbI)
            clear hSI hbI HR
            go_simp
            refine ⟨HSJ.out, ?_⟩
            clear HSJ
            try simp only [List.setIfInBounds_toArray, List.set_cons_zero, List.set_cons_succ]
            refine wpG_last rfl (by kernel_rfl) (by kernel_rfl) (by rfl) (fun w5 hb5 hS5 => ?_)
            have HR5 := hid (HRI.out.up hb5)
            have HS5 := hid hS5
            clear hb5 hS5 HRI
            go_simp
            have hwr := HL2.out w5 HS5.out
            have j0 := cell_of_row hwr 0
            have j1 := cell_of_row hwr 1
            have j2 := cell_of_row hwr 2
            simp only [List.getElem?_toArray, List.getElem?_cons_zero, List.getElem?_cons_succ] at j0 j1 j2
            have hz5 := HS5.out.size
            clear hwr
            go_wp2_with fail
            refine (Bounds_ok (cropC l) _ Z.heap.size w5 (by omega) (HC2.out w5 HS5.out) ⟨by simp [cropC, hsC]; have := HLN.out; omega, by simp [cropC], by simp [cropC], fun t ht => by simp only [cropC, List.mem_singleton] at ht; subst ht; rw [wsC, List.length_map]; have := HLN.out; omega⟩ HFIT.out.ask).mono ?_
            rintro e w6 ⟨v6, u6, rfl, -, hk6, hb6⟩
            rw [HFIT.out.bounds] at hk6
            have hr6 := HR5.out.up hb6
            obtain ⟨ra, rc, hre, -, hro⟩ := hr6.open1
            obtain ⟨qa, qc, hqe, -, hqo⟩ := hk6.open2
            simp only [List.length_cons, List.length_nil] at hre hqe
            subst hre hqe
            rcases hro with hnil | ⟨rb, roff, rfl, hrb, hrc⟩
            · simp at hnil
            rcases hqo with hnil | ⟨qb, qoff, rfl, hqb, hqc⟩
            · simp at hnil
            have r0 := hrc 0 (by simp)
            have q0 := hqc 0 (by simp)
            simp only [List.getElem_cons_zero, Nat.zero_mul, Nat.add_zero] at r0 q0
            have hMx : worthC l / sumI (wsC l) = y / x := by
              have h1 := HS.out
              rw [HLJ.out] at h1
              rw [h1.1, h1.2.1]
            have hMb : y / x ≤ z := by
              have h1 := HS.out
              rw [HLJ.out] at h1
              rw [← hMx, h1.2.2]
              exact HFIT.out.best
            rw [hMx] at r0 q0
            have htd : y.tdiv x = y / x := Int.tdiv_eq_ediv_of_nonneg hy0
            obtain ⟨q0a, q0b⟩ := q0
            have HB6 := hid hb6
            clear hr6 hk6 hrc hqc hMx hb6 j0 j1 j2
            generalize hMd : y / x = M at *
            have hMw : IntKind.i64.wrap M = M := by
              have h1 : 0 ≤ M := by rw [← hMd]; exact Int.ediv_nonneg hy0 hx0
              have h2 : M ≤ y := by rw [← hMd]; exact Int.ediv_le_self _ hy0
              exact IntWalk.i64_in _ (by omega)
            have HMD := hid hMd
            clear hMd
            go_wp2_with fail
            obtain ⟨D3, hD3⟩ : ∃ D3, D3 = w6.drew := ⟨_, rfl⟩
            have hB3 : Below w6.heap.size w6 D3 := by rw [hD3]; exact (Below.refl _ _).drew
            have hs3' : D3.heap.size ≤ w6.heap.size ∧ w6.heap.size ≤ D3.heap.size := by rw [hD3]; simp
            have hbZ6 : Below W.heap.size W w6 := below_after (below_after HZB.out (hBZ.trans (HS5.out.mono (by omega))) (Nat.le_refl _)) HB6.out (Nat.le_refl _)
            have HB7 := hid (below_after hbZ6 hB3 (Nat.le_refl _))
            have hrb6 : rb < w6.heap.size := hrb
            have hqb6 : qb < w6.heap.size := hqb
            have HR0 := hid (fun w' h => ((hB3.trans (h.mono (by omega))).cell (p := ⟨rb, roff, none⟩) hrb6).trans r0 : ∀ w', Below D3.heap.size D3 w' → w'.cell? ⟨rb, roff, none⟩ = _)
            have HQ0 := hid (fun w' h => ((hB3.trans (h.mono (by omega))).cell (p := ⟨qb, qoff, none⟩) hqb6).trans q0a : ∀ w', Below D3.heap.size D3 w' → w'.cell? ⟨qb, qoff, none⟩ = _)
            have HQ1 := hid (fun w' h => ((hB3.trans (h.mono (by omega))).cell (p := ⟨qb, qoff + 1, none⟩) hqb6).trans q0b : ∀ w', Below D3.heap.size D3 w' → w'.cell? ⟨qb, qoff + 1, none⟩ = _)
            have HG3 := below_grow D3
            have HZZ := hid (fun w' (h : Below D3.heap.size D3 w') => (HWb.out.trans ((below_after HB7.out h (Nat.le_refl _)).mono (by omega)) : Below w.heap.size w w'))
            clear r0 q0a q0b hB3 hbZ6
            refine wp_region_grow (by kernel_rfl) 48 (Below D3.heap.size D3) ?_ ?_
            · rw [← hD3]; exact Below.refl _ _
            rw [← hD3]
            clear hD3
            refine wpG_take (i := 0) (v := .int .i64 0) rfl rfl (by kernel_rfl) (by kernel_rfl) (by kernel_rfl) (by kernel_rfl) (fun _ _ _ h => h) (by rfl) (fun w' hS' => grow_value ?_ hS') ?_
            · go_simp
            try simp only [List.setIfInBounds_toArray, List.set_cons_zero, List.set_cons_succ]
            refine wpG_take (i := 1) (v := .bool true) rfl rfl (by kernel_rfl) (by kernel_rfl) (by kernel_rfl) (by kernel_rfl) (fun _ _ _ h => h) (by rfl) (fun w' hS' => grow_value ?_ hS') ?_
            · go_simp
            try simp only [List.setIfInBounds_toArray, List.set_cons_zero, List.set_cons_succ]
            refine wpG_take (i := 2) (v := .bool true) rfl rfl (by kernel_rfl) (by kernel_rfl) (by kernel_rfl) (by kernel_rfl) (fun _ _ _ h => h) (by rfl) (fun w' hS' => grow_value ?_ hS') ?_
            · go_simp
            try simp only [List.setIfInBounds_toArray, List.set_cons_zero, List.set_cons_succ]
            refine wpG_take (i := 3) (v := .int .i64 0) rfl rfl (by kernel_rfl) (by kernel_rfl) (by kernel_rfl) (by kernel_rfl) (fun _ _ _ h => h) (by rfl) (fun w' hS' => grow_value ?_ hS') ?_
            · go_simp
            try simp only [List.setIfInBounds_toArray, List.set_cons_zero, List.set_cons_succ]
            refine wpG_take (i := 4) (v := .bool true) rfl rfl (by kernel_rfl) (by kernel_rfl) (by kernel_rfl) (by kernel_rfl) (fun _ _ _ h => h) (by rfl) (fun w' hS' => grow_value ?_ hS') ?_
            · go_simp
            try simp only [List.setIfInBounds_toArray, List.set_cons_zero, List.set_cons_succ]
            refine wpG_take (i := 5) (v := .bool true) rfl rfl (by kernel_rfl) (by kernel_rfl) (by kernel_rfl) (by kernel_rfl) (fun _ _ _ h => h) (by rfl) (fun w' hS' => grow_value ?_ hS') ?_
            · go_simp
            try simp only [List.setIfInBounds_toArray, List.set_cons_zero, List.set_cons_succ]
            refine wpG_take (i := 6) (v := .bool true) rfl rfl (by kernel_rfl) (by kernel_rfl) (by kernel_rfl) (by kernel_rfl) (fun _ _ _ h => h) (by rfl) (fun w' hS' => grow_value ?_ hS') ?_
            · go_simp
            try simp only [List.setIfInBounds_toArray, List.set_cons_zero, List.set_cons_succ]
            refine wpG_take (i := 7) (v := .slice (some ⟨rb, roff, none⟩) 1 rc) rfl rfl (by kernel_rfl) (by kernel_rfl) (by kernel_rfl) (by kernel_rfl) (fun _ _ _ h => h) (by rfl) (fun w' hS' => grow_value ?_ hS') ?_
            · go_simp
            try simp only [List.setIfInBounds_toArray, List.set_cons_zero, List.set_cons_succ]
            refine wpG_take (i := 8) (v := .int .i64 1) rfl rfl (by kernel_rfl) (by kernel_rfl) (by kernel_rfl) (by kernel_rfl) (fun _ _ _ h => h) (by rfl) (fun w' hS' => grow_value ?_ hS') ?_
            · go_simp
            try simp only [List.setIfInBounds_toArray, List.set_cons_zero, List.set_cons_succ]
            refine wpG_take (i := 9) (v := .bool true) rfl rfl (by kernel_rfl) (by kernel_rfl) (by kernel_rfl) (by kernel_rfl) (fun _ _ _ h => h) (by rfl) (fun w' hS' => grow_value ?_ hS') ?_
            · go_simp
            try simp only [List.setIfInBounds_toArray, List.set_cons_zero, List.set_cons_succ]
            refine wpG_take (i := 10) (v := .bool true) rfl rfl (by kernel_rfl) (by kernel_rfl) (by kernel_rfl) (by kernel_rfl) (fun _ _ _ h => h) (by rfl) (fun w' hS' => grow_value ?_ hS') ?_
            · go_simp
            try simp only [List.setIfInBounds_toArray, List.set_cons_zero, List.set_cons_succ]
            refine wpG_take (i := 11) (v := .bool true) rfl rfl (by kernel_rfl) (by kernel_rfl) (by kernel_rfl) (by kernel_rfl) (fun _ _ _ h => h) (by rfl) (fun w' hS' => grow_value ?_ hS') ?_
            · go_simp
            try simp only [List.setIfInBounds_toArray, List.set_cons_zero, List.set_cons_succ]
            refine wpG_take (i := 12) (v := .slice (some ⟨qb, qoff, none⟩) 1 qc) rfl rfl (by kernel_rfl) (by kernel_rfl) (by kernel_rfl) (by kernel_rfl) (fun _ _ _ h => h) (by rfl) (fun w' hS' => grow_value ?_ hS') ?_
            · go_simp
            try simp only [List.setIfInBounds_toArray, List.set_cons_zero, List.set_cons_succ]
            refine wpG_take (i := 13) (v := .int .i64 1) rfl rfl (by kernel_rfl) (by kernel_rfl) (by kernel_rfl) (by kernel_rfl) (fun _ _ _ h => h) (by rfl) (fun w' hS' => grow_value ?_ hS') ?_
            · go_simp
            try simp only [List.setIfInBounds_toArray, List.set_cons_zero, List.set_cons_succ]
            refine wpG_take (i := 14) (v := .bool true) rfl rfl (by kernel_rfl) (by kernel_rfl) (by kernel_rfl) (by kernel_rfl) (fun _ _ _ h => h) (by rfl) (fun w' hS' => grow_value ?_ hS') ?_
            · go_simp
            try simp only [List.setIfInBounds_toArray, List.set_cons_zero, List.set_cons_succ]
            refine wpG_take (i := 15) (v := .bool true) rfl rfl (by kernel_rfl) (by kernel_rfl) (by kernel_rfl) (by kernel_rfl) (fun _ _ _ h => h) (by rfl) (fun w' hS' => grow_value ?_ hS') ?_
            · go_simp
            try simp only [List.setIfInBounds_toArray, List.set_cons_zero, List.set_cons_succ]
            refine wpG_take (i := 16) (v := .bool true) rfl rfl (by kernel_rfl) (by kernel_rfl) (by kernel_rfl) (by kernel_rfl) (fun _ _ _ h => h) (by rfl) (fun w' hS' => grow_value ?_ hS') ?_
            · go_simp
            try simp only [List.setIfInBounds_toArray, List.set_cons_zero, List.set_cons_succ]
            refine wpG_take (i := 17) (v := .slice (some ⟨rb, roff, none⟩) 1 rc) rfl rfl (by kernel_rfl) (by kernel_rfl) (by kernel_rfl) (by kernel_rfl) (fun _ _ _ h => h) (by rfl) (fun w' hS' => grow_value ?_ hS') ?_
            · go_simp
            try simp only [List.setIfInBounds_toArray, List.set_cons_zero, List.set_cons_succ]
            refine wpG_take (i := 18) (v := .pointer (some ⟨rb, roff, none⟩)) rfl rfl (by kernel_rfl) (by kernel_rfl) (by kernel_rfl) (by kernel_rfl) (fun _ _ _ h => h) (by rfl) (fun w' hS' => grow_value ?_ hS') ?_
            · go_simp
            try simp only [List.setIfInBounds_toArray, List.set_cons_zero, List.set_cons_succ]
            refine wpG_take (i := 19) (v := .int .i64 M) rfl rfl (by kernel_rfl) (by kernel_rfl) (by kernel_rfl) (by kernel_rfl) (fun _ _ _ h => h) (by rfl) (fun w' hS' => grow_value ?_ hS') ?_
            · have r0 := HR0.out _ hS'; have q0 := HQ0.out _ hS'; have q1 := HQ1.out _ hS'; go_simp
            try simp only [List.setIfInBounds_toArray, List.set_cons_zero, List.set_cons_succ]
            refine wpG_take (i := 20) (v := .int .i64 y) rfl rfl (by kernel_rfl) (by kernel_rfl) (by kernel_rfl) (by kernel_rfl) (fun _ _ _ h => h) (by rfl) (fun w' hS' => grow_value ?_ hS') ?_
            · go_simp
            try simp only [List.setIfInBounds_toArray, List.set_cons_zero, List.set_cons_succ]
            refine wpG_take (i := 21) (v := .int .i64 x) rfl rfl (by kernel_rfl) (by kernel_rfl) (by kernel_rfl) (by kernel_rfl) (fun _ _ _ h => h) (by rfl) (fun w' hS' => grow_value ?_ hS') ?_
            · go_simp
            try simp only [List.setIfInBounds_toArray, List.set_cons_zero, List.set_cons_succ]
            refine wpG_take (i := 22) (v := .int .i64 M) rfl rfl (by kernel_rfl) (by kernel_rfl) (by kernel_rfl) (by kernel_rfl) (fun _ _ _ h => h) (by rfl) (fun w' hS' => grow_value ?_ hS') ?_
            · go_simp
            try simp only [List.setIfInBounds_toArray, List.set_cons_zero, List.set_cons_succ]
            refine wpG_take (i := 23) (v := .bool true) rfl rfl (by kernel_rfl) (by kernel_rfl) (by kernel_rfl) (by kernel_rfl) (fun _ _ _ h => h) (by rfl) (fun w' hS' => grow_value ?_ hS') ?_
            · go_simp
            try simp only [List.setIfInBounds_toArray, List.set_cons_zero, List.set_cons_succ]
            refine wpG_take (i := 24) (v := .bool true) rfl rfl (by kernel_rfl) (by kernel_rfl) (by kernel_rfl) (by kernel_rfl) (fun _ _ _ h => h) (by rfl) (fun w' hS' => grow_value ?_ hS') ?_
            · go_simp
            try simp only [List.setIfInBounds_toArray, List.set_cons_zero, List.set_cons_succ]
            refine wpG_take (i := 25) (v := .bool true) rfl rfl (by kernel_rfl) (by kernel_rfl) (by kernel_rfl) (by kernel_rfl) (fun _ _ _ h => h) (by rfl) (fun w' hS' => grow_value ?_ hS') ?_
            · go_simp
            try simp only [List.setIfInBounds_toArray, List.set_cons_zero, List.set_cons_succ]
            refine wpG_take (i := 26) (v := .slice (some ⟨rb, roff, none⟩) 1 rc) rfl rfl (by kernel_rfl) (by kernel_rfl) (by kernel_rfl) (by kernel_rfl) (fun _ _ _ h => h) (by rfl) (fun w' hS' => grow_value ?_ hS') ?_
            · go_simp
            try simp only [List.setIfInBounds_toArray, List.set_cons_zero, List.set_cons_succ]
            refine wpG_take (i := 27) (v := .pointer (some ⟨rb, roff, none⟩)) rfl rfl (by kernel_rfl) (by kernel_rfl) (by kernel_rfl) (by kernel_rfl) (fun _ _ _ h => h) (by rfl) (fun w' hS' => grow_value ?_ hS') ?_
            · go_simp
            try simp only [List.setIfInBounds_toArray, List.set_cons_zero, List.set_cons_succ]
            refine wpG_take (i := 28) (v := .int .i64 M) rfl rfl (by kernel_rfl) (by kernel_rfl) (by kernel_rfl) (by kernel_rfl) (fun _ _ _ h => h) (by rfl) (fun w' hS' => grow_value ?_ hS') ?_
            · have r0 := HR0.out _ hS'; have q0 := HQ0.out _ hS'; have q1 := HQ1.out _ hS'; go_simp
            try simp only [List.setIfInBounds_toArray, List.set_cons_zero, List.set_cons_succ]
            refine wpG_take (i := 29) (v := .int .i64 z) rfl rfl (by kernel_rfl) (by kernel_rfl) (by kernel_rfl) (by kernel_rfl) (fun _ _ _ h => h) (by rfl) (fun w' hS' => grow_value ?_ hS') ?_
            · go_simp
            try simp only [List.setIfInBounds_toArray, List.set_cons_zero, List.set_cons_succ]
            refine wpG_take (i := 30) (v := .bool true) rfl rfl (by kernel_rfl) (by kernel_rfl) (by kernel_rfl) (by kernel_rfl) (fun _ _ _ h => h) (by rfl) (fun w' hS' => grow_value ?_ hS') ?_
            · go_simp
            try simp only [List.setIfInBounds_toArray, List.set_cons_zero, List.set_cons_succ]
            refine wpG_take (i := 31) (v := .bool true) rfl rfl (by kernel_rfl) (by kernel_rfl) (by kernel_rfl) (by kernel_rfl) (fun _ _ _ h => h) (by rfl) (fun w' hS' => grow_value ?_ hS') ?_
            · go_simp
            try simp only [List.setIfInBounds_toArray, List.set_cons_zero, List.set_cons_succ]
            refine wpG_take (i := 32) (v := .bool true) rfl rfl (by kernel_rfl) (by kernel_rfl) (by kernel_rfl) (by kernel_rfl) (fun _ _ _ h => h) (by rfl) (fun w' hS' => grow_value ?_ hS') ?_
            · go_simp
            try simp only [List.setIfInBounds_toArray, List.set_cons_zero, List.set_cons_succ]
            refine wpG_take (i := 33) (v := .slice (some ⟨qb, qoff, none⟩) 1 qc) rfl rfl (by kernel_rfl) (by kernel_rfl) (by kernel_rfl) (by kernel_rfl) (fun _ _ _ h => h) (by rfl) (fun w' hS' => grow_value ?_ hS') ?_
            · go_simp
            try simp only [List.setIfInBounds_toArray, List.set_cons_zero, List.set_cons_succ]
            refine wpG_take (i := 34) (v := .pointer (some ⟨qb, qoff, none⟩)) rfl rfl (by kernel_rfl) (by kernel_rfl) (by kernel_rfl) (by kernel_rfl) (fun _ _ _ h => h) (by rfl) (fun w' hS' => grow_value ?_ hS') ?_
            · go_simp
            try simp only [List.setIfInBounds_toArray, List.set_cons_zero, List.set_cons_succ]
            refine wpG_take (i := 35) (v := .agg #[.int .i64 M, .int .i64 M]) rfl rfl (by kernel_rfl) (by kernel_rfl) (by kernel_rfl) (by kernel_rfl) (fun _ _ _ h => h) (by rfl) (fun w' hS' => grow_value ?_ hS') ?_
            · have r0 := HR0.out _ hS'; have q0 := HQ0.out _ hS'; have q1 := HQ1.out _ hS'; go_simp
            try simp only [List.setIfInBounds_toArray, List.set_cons_zero, List.set_cons_succ]
            refine wpG_take (i := 36) (v := .slice (some ⟨rb, roff, none⟩) 1 rc) rfl rfl (by kernel_rfl) (by kernel_rfl) (by kernel_rfl) (by kernel_rfl) (fun _ _ _ h => h) (by rfl) (fun w' hS' => grow_value ?_ hS') ?_
            · go_simp
            try simp only [List.setIfInBounds_toArray, List.set_cons_zero, List.set_cons_succ]
            refine wpG_take (i := 39) (v := .slice (some ⟨rb, roff, none⟩) 1 rc) rfl rfl (by kernel_rfl) (by kernel_rfl) (by kernel_rfl) (by kernel_rfl) (fun _ _ _ h => h) (by rfl) (fun w' hS' => grow_value ?_ hS') ?_
            · go_simp
            try simp only [List.setIfInBounds_toArray, List.set_cons_zero, List.set_cons_succ]
            refine wpG_take (i := 37) (v := .pointer (some ⟨rb, roff, none⟩)) rfl rfl (by kernel_rfl) (by kernel_rfl) (by kernel_rfl) (by kernel_rfl) (fun _ _ _ h => h) (by rfl) (fun w' hS' => grow_value ?_ hS') ?_
            · go_simp
            try simp only [List.setIfInBounds_toArray, List.set_cons_zero, List.set_cons_succ]
            refine wpG_take (i := 40) (v := .pointer (some ⟨rb, roff, none⟩)) rfl rfl (by kernel_rfl) (by kernel_rfl) (by kernel_rfl) (by kernel_rfl) (fun _ _ _ h => h) (by rfl) (fun w' hS' => grow_value ?_ hS') ?_
            · go_simp
            try simp only [List.setIfInBounds_toArray, List.set_cons_zero, List.set_cons_succ]
            refine wpG_take (i := 38) (v := .int .i64 M) rfl rfl (by kernel_rfl) (by kernel_rfl) (by kernel_rfl) (by kernel_rfl) (fun _ _ _ h => h) (by rfl) (fun w' hS' => grow_value ?_ hS') ?_
            · have r0 := HR0.out _ hS'; have q0 := HQ0.out _ hS'; have q1 := HQ1.out _ hS'; go_simp
            try simp only [List.setIfInBounds_toArray, List.set_cons_zero, List.set_cons_succ]
            refine wpG_take (i := 41) (v := .int .i64 M) rfl rfl (by kernel_rfl) (by kernel_rfl) (by kernel_rfl) (by kernel_rfl) (fun _ _ _ h => h) (by rfl) (fun w' hS' => grow_value ?_ hS') ?_
            · have r0 := HR0.out _ hS'; have q0 := HQ0.out _ hS'; have q1 := HQ1.out _ hS'; go_simp
            try simp only [List.setIfInBounds_toArray, List.set_cons_zero, List.set_cons_succ]
            refine wpG_take (i := 42) (v := .agg #[.int .i64 M, .int .i64 M]) rfl rfl (by kernel_rfl) (by kernel_rfl) (by kernel_rfl) (by kernel_rfl) (fun _ _ _ h => h) (by rfl) (fun w' hS' => grow_value ?_ hS') ?_
            · go_simp
            try simp only [List.setIfInBounds_toArray, List.set_cons_zero, List.set_cons_succ]
            refine wpG_take (i := 43) (v := .bool true) rfl rfl (by kernel_rfl) (by kernel_rfl) (by kernel_rfl) (by kernel_rfl) (fun _ _ _ h => h) (by rfl) (fun w' hS' => grow_value ?_ hS') ?_
            · go_simp
            try simp only [List.setIfInBounds_toArray, List.set_cons_zero, List.set_cons_succ]
            refine wpG_take (i := 44) (v := .bool true) rfl rfl (by kernel_rfl) (by kernel_rfl) (by kernel_rfl) (by kernel_rfl) (fun _ _ _ h => h) (by rfl) (fun w' hS' => grow_value ?_ hS') ?_
            · go_simp
            try simp only [List.setIfInBounds_toArray, List.set_cons_zero, List.set_cons_succ]
            refine wpG_take (i := 45) (v := .bool true) rfl rfl (by kernel_rfl) (by kernel_rfl) (by kernel_rfl) (by kernel_rfl) (fun _ _ _ h => h) (by rfl) (fun w' hS' => grow_value ?_ hS') ?_
            · go_simp
            try simp only [List.setIfInBounds_toArray, List.set_cons_zero, List.set_cons_succ]
            refine wpG_take (i := 46) (v := .bool true) rfl rfl (by kernel_rfl) (by kernel_rfl) (by kernel_rfl) (by kernel_rfl) (fun _ _ _ h => h) (by rfl) (fun w' hS' => grow_make (f := 50) (args := #[]) ?_ hS' HG3 ?_) ?_
            · go_simp
            · exact barrelled_any w'
            try simp only [List.setIfInBounds_toArray, List.set_cons_zero, List.set_cons_succ]
            refine wpG_take (i := 47) (v := .bool true) rfl rfl (by kernel_rfl) (by kernel_rfl) (by kernel_rfl) (by kernel_rfl) (fun _ _ _ h => h) (by rfl) (fun w' hS' => grow_value ?_ hS') ?_
            · go_simp
            try simp only [List.setIfInBounds_toArray, List.set_cons_zero, List.set_cons_succ]
            refine wpG_last rfl (by kernel_rfl) (by kernel_rfl) (by rfl) (fun w7 hb7 hS7 => ?_)
            have HZ := hid (HZZ.out w7 hS7)
            clear hb7 hS7
            go_simp
            go_wp2_with fail
            go_ret
            exact ⟨rfl, HZ.out⟩
    · have hxb : (x != 0) = true := by simpa using hx
      clear hfew
      go_wp2_with fail
      refine (barrelled_any w2).mono ?_
      rintro e wZ ⟨rfl, hbZ⟩
      have HZ := hid (HWb.out.trans ((below_after HB2.out hbZ (Nat.le_refl _)).mono (by omega)))
      clear hbZ
      go_wp2_with fail
      go_ret
      exact ⟨rfl, HZ.out⟩
end Go.Proofs.Ytjddcaimjofihaa
