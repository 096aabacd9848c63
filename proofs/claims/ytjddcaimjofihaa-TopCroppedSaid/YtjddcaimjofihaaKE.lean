/- Contract of package crop: Play of a valid field, a listed truth and a plan; no condition. -/
import Derived.Test.YtjddcaimjofihaaKD
import Derived.Test.YtjddcaimjofihaaKA
import Derived.Test.YtjddcaimjofihaaK9
namespace Go.Proofs.Ytjddcaimjofihaa
open Go.RowKit Go.Shelf Go.Maps
set_option maxRecDepth 100000

theorem listed_bdm (m : Int) : ∀ (hs : List Rg) (l : List Int), listed hs l = true → (∀ r ∈ hs, 0 ≤ r.lo ∧ r.lo ≤ r.hi ∧ r.hi ≤ m) → ∀ x ∈ l, 0 ≤ x ∧ x ≤ m
  | [], [], _, _, x, hx => by simp at hx
  | [], _ :: _, h, _, _, _ => by simp [listed] at h
  | _ :: _, [], h, _, _, _ => by simp [listed] at h
  | r :: hs, y :: l, h, hr, x, hx => by
    rw [listed_cons, Bool.and_eq_true] at h
    have h0 := hr r (by simp)
    have h1 := h.1
    rw [has_iff] at h1
    rcases List.mem_cons.1 hx with rfl | hx
    · omega
    · exact listed_bdm m hs l h.2 (fun r hr' => hr r (by simp [hr'])) x hx

def RetPlay (l : List Cr) (n : Nat) (w : World) (e : Ending) (w' : World) : Prop := ∃ u, e = .returned (.tuple #[u, .int .i64 0]) ∧ Crs (Lt w'.heap.size) w' u l ∧ Below n w w'

set_option maxHeartbeats 4000000 in
theorem playK_ok (f : Fl) (hf : FewF f) (gl wl plan : List Int) (h1 : listed f.growth gl = true) (h2 : listed (f.wet.map wetR) wl = true) (hp : planB f.last f.base.length plan = true) (v gv wv pv : Value) (n : Nat) (w : World) (hn : n ≤ w.heap.size) (h : FlV (Lt n) w v f) (hgv : Ints (Lt n) w gv gl) (hwv : Ints (Lt n) w wv wl) (hpv : Ints (Lt n) w pv plan) :
    Calls Try.prog 52 #[v, .agg #[gv, wv], pv] w (RetPlay (cropsF f gl wl plan) n w) := by
  have h' := h
  have hg := hf.1
  obtain ⟨ga, gc, wa, wc, ba, bc, ca, cc, la, lc, rfl, hp1, hp2, hp3, hp4, hp5⟩ := h.open
  have hl1 := listed_length _ _ h1
  have hl2 := listed_length _ _ h2
  rw [List.length_map] at hl2
  have hgl1 := hg.growthL
  have hwl1 := hg.wetL
  obtain ⟨g1, g2⟩ := hg.last
  have hb3 := hg.baseL
  obtain ⟨hpb, hpf⟩ := planB_iff.1 hp
  have HPM := hid (fun x hx => by have := planFrom_mem hpf x hx; omega : ∀ x ∈ plan, 0 ≤ x ∧ x < (gl.length : Int) ∧ x < (wl.length : Int))
  have HGB := hid (listed_bdm 50 _ _ h1 hg.growth)
  have HL1 := hid h1
  have HL2 := hid h2
  have HPP := hid hp
  obtain ⟨ga', gc', hgv', -, -⟩ := hgv.open1
  obtain ⟨wa', wc', hwv', -, -⟩ := hwv.open1
  obtain ⟨pa, pc, hpv', -, -⟩ := hpv.open1
  obtain ⟨gm, hgm⟩ : ∃ gm, gm = gl.length := ⟨_, rfl⟩
  obtain ⟨wm, hwm⟩ : ∃ wm, wm = wl.length := ⟨_, rfl⟩
  obtain ⟨pm, hpm⟩ : ∃ pm, pm = plan.length := ⟨_, rfl⟩
  rw [← hgm] at hgv'
  rw [← hwm] at hwv'
  rw [← hpm] at hpv'
  subst hgv' hwv' hpv'
  obtain ⟨W, hW⟩ : ∃ W, W = (w.alloc (Obj.cells #[.int .i64 f.last, .slice ga f.growth.length gc, .slice wa f.wet.length wc, .slice ba f.base.length bc, .slice ca f.crops.length cc, .int .i64 f.ripe, .int .i64 f.late, .int .i64 f.trod, .slice la f.looks.length lc] 87)).alloc (Obj.cells #[.slice ga' gm gc', .slice wa' wm wc'] 90) := ⟨_, rfl⟩
  have hWs : W.heap.size = w.heap.size + 2 := by rw [hW]; simp
  have hWb : Below w.heap.size w W := by rw [hW]; exact below_alloc2 (Nat.le_refl _) _ _
  have q1 : W.heap[w.heap.size + 1]? = some (.cells #[.slice ga' gm gc', .slice wa' wm wc'] 90 (0, 0)) := by rw [hW]; exact heap_new2 _ _ _
  have q0 : W.heap[w.heap.size]? = some (.cells #[.int .i64 f.last, .slice ga f.growth.length gc, .slice wa f.wet.length wc, .slice ba f.base.length bc, .slice ca f.crops.length cc, .int .i64 f.ripe, .int .i64 f.late, .int .i64 f.trod, .slice la f.looks.length lc] 87 (0, 0)) := by
    rw [hW]; exact (Below.heap_alloc _ _ _ (by simp)).trans (heap_new _ _)
  have hWl : W.heap.size ≤ w.heap.size + 2 ∧ w.heap.size + 2 ≤ W.heap.size := by omega
  have HBOX := hid (fun w1 (hb : Below W.heap.size W w1) => (hb.block w.heap.size (by omega)).trans q0 : ∀ w1, Below W.heap.size W w1 → w1.heap[w.heap.size]? = _)
  have HTR := hid (fun w1 (hb : Below W.heap.size W w1) => (hb.block (w.heap.size + 1) (by omega)).trans q1 : ∀ w1, Below W.heap.size W w1 → w1.heap[w.heap.size + 1]? = _)
  have HFL := hid (fun w1 (hb : Below W.heap.size W w1) => h'.below ((hWb.trans (hb.mono (by omega))).mono hn) : ∀ w1, Below W.heap.size W w1 → FlV (Lt n) w1 _ f)
  have HGI := hid (fun w1 (hb : Below W.heap.size W w1) => hgv.below ((hWb.trans (hb.mono (by omega))).mono hn) : ∀ w1, Below W.heap.size W w1 → Ints (Lt n) w1 _ gl)
  have HWI := hid (fun w1 (hb : Below W.heap.size W w1) => hwv.below ((hWb.trans (hb.mono (by omega))).mono hn) : ∀ w1, Below W.heap.size W w1 → Ints (Lt n) w1 _ wl)
  have HPI := hid (fun w1 (hb : Below W.heap.size W w1) => hpv.below ((hWb.trans (hb.mono (by omega))).mono hn) : ∀ w1, Below W.heap.size W w1 → Ints (Lt n) w1 _ plan)
  have hgm2 : gl.length ≤ 10 ∧ wl.length ≤ 10 ∧ plan.length ≤ 3 := by omega
  have HGD := hid hg
  have HFW := hid hf
  clear hWs hgm hwm hpm hl1 hl2 hgl1 hwl1 hp1 hp2 hp3 hp4 hp5 h h' h1 h2 hgv hwv hpv q0 q1 hg hf hp hpf
  go_enter Try.func52, Try.ntmps52
  go_wp2_with fail
  rw [← hW]
  clear hW
  have hrow := HBOX.out W (Below.refl _ _)
  have j0 := cell_of_row hrow 0
  have j1 := cell_of_row hrow 1
  have j2 := cell_of_row hrow 2
  have j3 := cell_of_row hrow 3
  have j4 := cell_of_row hrow 4
  have j5 := cell_of_row hrow 5
  have j6 := cell_of_row hrow 6
  have j7 := cell_of_row hrow 7
  have j8 := cell_of_row hrow 8
  simp only [List.getElem?_toArray, List.getElem?_cons_zero, List.getElem?_cons_succ] at j0 j1 j2 j3 j4 j5 j6 j7 j8
  clear hrow
  have hgl : w.heap.size < W.heap.size := by omega
  go_wp2_with fail
  refine (checkK_ok f HFW.out _ n W (by omega) (HFL.out W (Below.refl _ _))).mono ?_
  rintro e w1 ⟨rfl, hb1⟩
  have HB1 := hid hb1
  have hs1 := hb1.size
  clear hb1 j0 j1 j2 j3 j4 j5 j6 j7 j8
  have hrow := HBOX.out w1 HB1.out
  have j0 := cell_of_row hrow 0
  have j1 := cell_of_row hrow 1
  have j2 := cell_of_row hrow 2
  have j3 := cell_of_row hrow 3
  have j4 := cell_of_row hrow 4
  have j5 := cell_of_row hrow 5
  have j6 := cell_of_row hrow 6
  have j7 := cell_of_row hrow 7
  have j8 := cell_of_row hrow 8
  simp only [List.getElem?_toArray, List.getElem?_cons_zero, List.getElem?_cons_succ] at j0 j1 j2 j3 j4 j5 j6 j7 j8
  clear hrow
  have t0 := cell_of_row (HTR.out w1 HB1.out) 0
  have t1 := cell_of_row (HTR.out w1 HB1.out) 1
  simp only [List.getElem?_toArray, List.getElem?_cons_zero, List.getElem?_cons_succ] at t0 t1
  go_wp2_with fail
  refine (listedK_yes f HGD.out gl wl HL1.out HL2.out _ _ _ n w1 (by omega) (HFL.out w1 HB1.out) (HGI.out w1 HB1.out) (HWI.out w1 HB1.out)).mono ?_
  rintro e w2 ⟨rfl, hb2⟩
  have HB2 := hid (below_after HB1.out hb2 (Nat.le_refl _))
  have hs2 := HB2.out.size
  clear hb2 j0 j1 j2 j3 j4 j5 j6 j7 j8 t0 t1
  have hrow := HBOX.out w2 HB2.out
  have j0 := cell_of_row hrow 0
  have j1 := cell_of_row hrow 1
  have j2 := cell_of_row hrow 2
  have j3 := cell_of_row hrow 3
  have j4 := cell_of_row hrow 4
  have j5 := cell_of_row hrow 5
  have j6 := cell_of_row hrow 6
  have j7 := cell_of_row hrow 7
  have j8 := cell_of_row hrow 8
  simp only [List.getElem?_toArray, List.getElem?_cons_zero, List.getElem?_cons_succ] at j0 j1 j2 j3 j4 j5 j6 j7 j8
  clear hrow
  go_wp2_with fail
  refine (planK_yes f ⟨g1, g2⟩ _ plan HPP.out _ n w2 (by omega) (HFL.out w2 HB2.out) (HPI.out w2 HB2.out) (by omega)).mono ?_
  rintro e w3 ⟨rfl, hb3'⟩
  have HB3 := hid (below_after HB2.out hb3' (Nat.le_refl _))
  have hs3 := HB3.out.size
  clear hb3' j0 j1 j2 j3 j4 j5 j6 j7 j8
  go_wp2_with fail
  obtain ⟨D, hD⟩ : ∃ D, D = w3.drew := ⟨_, rfl⟩
  have hBD : Below w3.heap.size w3 D := by rw [hD]; exact (Below.refl _ _).drew
  have hsD : D.heap.size ≤ w3.heap.size ∧ w3.heap.size ≤ D.heap.size := by rw [hD]; simp
  have HBD := hid (fun w' h => below_after (below_after HB3.out hBD (Nat.le_refl _)) h (Nat.le_refl _) : ∀ w', Below D.heap.size D w' → Below W.heap.size W w')
  have HL := hid (fun w' h => ⟨HBOX.out w' (HBD.out w' h), HTR.out w' (HBD.out w' h)⟩ : ∀ w', Below D.heap.size D w' → w'.heap[w.heap.size]? = _ ∧ w'.heap[w.heap.size + 1]? = _)
  refine wp_region_grow (by kernel_rfl) 6 (Below D.heap.size D) ?_ ?_
  · rw [← hD]; exact Below.refl _ _
  rw [← hD]
  have HG := below_grow D
  clear hD
  refine wpG_take (i := 0) (v := .agg #[.int .i64 f.last, .slice ga f.growth.length gc, .slice wa f.wet.length wc, .slice ba f.base.length bc, .slice ca f.crops.length cc, .int .i64 f.ripe, .int .i64 f.late, .int .i64 f.trod, .slice la f.looks.length lc]) rfl rfl (by kernel_rfl) (by kernel_rfl) (by kernel_rfl) (by kernel_rfl) (fun _ _ _ h => h) (by rfl) (fun w' hS' => grow_value ?_ hS') ?_
  · have ⟨hwr, htr⟩ := HL.out _ hS'; have j0 := cell_of_row hwr 0; have j1 := cell_of_row hwr 1; have j2 := cell_of_row hwr 2; have j3 := cell_of_row hwr 3; have j4 := cell_of_row hwr 4; have j5 := cell_of_row hwr 5; have j6 := cell_of_row hwr 6; have j7 := cell_of_row hwr 7; have j8 := cell_of_row hwr 8; have t0 := cell_of_row htr 0; have t1 := cell_of_row htr 1; simp only [List.getElem?_toArray, List.getElem?_cons_zero, List.getElem?_cons_succ] at j0 j1 j2 j3 j4 j5 j6 j7 j8 t0 t1; go_simp
  try simp only [List.setIfInBounds_toArray, List.set_cons_zero, List.set_cons_succ]
  refine wpG_take (i := 2) (v := .agg #[.slice ga' gm gc', .slice wa' wm wc']) rfl rfl (by kernel_rfl) (by kernel_rfl) (by kernel_rfl) (by kernel_rfl) (fun _ _ _ h => h) (by rfl) (fun w' hS' => grow_value ?_ hS') ?_
  · have ⟨hwr, htr⟩ := HL.out _ hS'; have j0 := cell_of_row hwr 0; have j1 := cell_of_row hwr 1; have j2 := cell_of_row hwr 2; have j3 := cell_of_row hwr 3; have j4 := cell_of_row hwr 4; have j5 := cell_of_row hwr 5; have j6 := cell_of_row hwr 6; have j7 := cell_of_row hwr 7; have j8 := cell_of_row hwr 8; have t0 := cell_of_row htr 0; have t1 := cell_of_row htr 1; simp only [List.getElem?_toArray, List.getElem?_cons_zero, List.getElem?_cons_succ] at j0 j1 j2 j3 j4 j5 j6 j7 j8 t0 t1; go_simp
  try simp only [List.setIfInBounds_toArray, List.set_cons_zero, List.set_cons_succ]
  refine wpG_take (i := 3) (v := .slice pa pm pc) rfl rfl (by kernel_rfl) (by kernel_rfl) (by kernel_rfl) (by kernel_rfl) (fun _ _ _ h => h) (by rfl) (fun w' hS' => grow_value ?_ hS') ?_
  · go_simp
  try simp only [List.setIfInBounds_toArray, List.set_cons_zero, List.set_cons_succ]
  refine wpG_only (i := 1) rfl (by rfl) (by kernel_rfl) (by rfl) (fun w4 hb4 hS4 => ?_)
  go_simp
  refine (workK_any f ga wa ba ca la gc wc bc cc lc w4).mono ?_
  rintro e w5 ⟨bw, bm, rfl, hbw, hbm, hwk, hb5⟩
  have hS5 := HG _ _ hS4 hb5
  refine ⟨hS5, ?_⟩
  have HWK := hid hwk
  have hs4 := hS4.size
  have hs5 := hb5.size
  clear hwk hb5
  try simp only [List.setIfInBounds_toArray, List.set_cons_zero, List.set_cons_succ]
  refine wpG_only (i := 4) rfl (by rfl) (by kernel_rfl) (by rfl) (fun w6 hb6 hS6 => ?_)
  go_simp
  have hbx := HBD.out w6 hS6
  refine (cropsK_any f HGD.out ga wa ba ca la gc wc bc cc lc bw bm gl wl plan HGB.out hgm2.1 hgm2.2.1 HPM.out hpb _ _ _ D.heap.size w6 hS6.size (by omega) (HWK.out.below hb6) ((HFL.out w6 hbx).le (by omega)) ((HGI.out w6 hbx).le (by omega)) ((HWI.out w6 hbx).le (by omega)) ((HPI.out w6 hbx).le (by omega))).mono ?_
  rintro e w7 ⟨u, rfl, hcr, hb7⟩
  have hS7 := hS6.trans hb7
  refine ⟨hS7, ?_⟩
  have HCR := hid hcr
  have hs7 := hS7.size
  clear hcr hb7 hbx HWK
  try simp only [List.setIfInBounds_toArray, List.set_cons_zero, List.set_cons_succ]
  refine wpG_only (i := 5) rfl (by rfl) (by kernel_rfl) (by rfl) (fun w8 hb8 hS8 => ?_)
  have HS8 := hid hS8
  clear hS8
  go_simp
  refine ⟨HS8.out, ?_⟩
  try simp only [List.setIfInBounds_toArray, List.set_cons_zero, List.set_cons_succ]
  refine wpG_last rfl (by kernel_rfl) (by kernel_rfl) (by rfl) (fun w9 hb9 hS9 => ?_)
  go_simp
  have HC9 := hid ((HCR.out.below hb8).below (hb9.mono hb8.size))
  have HS9 := hid hS9
  have hs9 := hb9.size
  have hs8 := hb8.size
  clear hS9 hb9 hb8 hS7 hS6 hb6 hS5 hS4 hb4
  go_wp2
  have hQ : RetPlay (cropsF f gl wl plan) n w (.returned (.tuple #[u, .int .i64 0])) w9 := ⟨_, rfl, HC9.out.mono (fun b hb => Nat.lt_of_lt_of_le hb (by omega)), (hWb.mono hn).trans ((HBD.out w9 HS9.out).mono (by omega))⟩
  exact bodyPost_ret (v := .tuple #[u, .int .i64 0]) (by simp only [results, Try.results52]; simp [go_sem]) rfl hQ
end Go.Proofs.Ytjddcaimjofihaa
