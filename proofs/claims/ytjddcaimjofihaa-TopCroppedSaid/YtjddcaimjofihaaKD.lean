/- Contracts of package crop: work, the crops of a plan, Play; no condition. -/
import Derived.Test.YtjddcaimjofihaaKC
namespace Go.Proofs.Ytjddcaimjofihaa
open Go.RowKit Go.Shelf Go.Maps
set_option maxRecDepth 100000

/-- A field at work. -/
structure WorkAt' (f : Fl) (ga wa ba ca la : Option Addr) (gc wc bc cc lc : Nat) (bw bm k : Nat) (w : World) : Prop where
  row : w.heap[bw]? = some (.cells #[.int .i64 f.last, .slice ga f.growth.length gc, .slice wa f.wet.length wc, .slice ba f.base.length bc, .slice ca f.crops.length cc, .int .i64 f.ripe, .int .i64 f.late, .int .i64 f.trod, .slice la f.looks.length lc, .map (some bm)] 195 (0, 0))
  ne : bw ≠ bm
  known : Known f.trod w bm k
def RetWork (f : Fl) (ga wa ba ca la : Option Addr) (gc wc bc cc lc : Nat) (w : World) (e : Ending) (w' : World) : Prop :=
  ∃ bw bm, e = .returned (.pointer (some ⟨bw, 0, none⟩)) ∧ w.heap.size ≤ bw ∧ w.heap.size ≤ bm ∧ WorkAt' f ga wa ba ca la gc wc bc cc lc bw bm 0 w' ∧ Below w.heap.size w w'

theorem workK_any (f : Fl) (ga wa ba ca la : Option Addr) (gc wc bc cc lc : Nat) (w : World) :
    Calls Try.prog 101 #[.agg #[.int .i64 f.last, .slice ga f.growth.length gc, .slice wa f.wet.length wc, .slice ba f.base.length bc, .slice ca f.crops.length cc, .int .i64 f.ripe, .int .i64 f.late, .int .i64 f.trod, .slice la f.looks.length lc]] w (RetWork f ga wa ba ca la gc wc bc cc lc w) := by
  have hmm := @run_makeMap Try.prog
  obtain ⟨W, hW⟩ : ∃ W, W = w.alloc (Obj.cells #[.int .i64 f.last, .slice ga f.growth.length gc, .slice wa f.wet.length wc, .slice ba f.base.length bc, .slice ca f.crops.length cc, .int .i64 f.ripe, .int .i64 f.late, .int .i64 f.trod, .slice la f.looks.length lc] 87) := ⟨_, rfl⟩
  have hWs : W.heap.size = w.heap.size + 1 := by rw [hW]; simp
  have hWb : Below w.heap.size w W := by rw [hW]; exact below_alloc1 (Nat.le_refl _) _
  have hWr : W.heap[w.heap.size]? = some (.cells #[.int .i64 f.last, .slice ga f.growth.length gc, .slice wa f.wet.length wc, .slice ba f.base.length bc, .slice ca f.crops.length cc, .int .i64 f.ripe, .int .i64 f.late, .int .i64 f.trod, .slice la f.looks.length lc] 87 (0, 0)) := by rw [hW]; exact heap_new _ _
  have HBOX := hid (fun w1 (hb : Below W.heap.size W w1) => (hb.block w.heap.size (by omega)).trans hWr : ∀ w1, Below W.heap.size W w1 → w1.heap[w.heap.size]? = _)
  clear hWr
  obtain ⟨V, hV⟩ : ∃ V, V = (W.alloc (Obj.map #[] 0)).alloc (Obj.cells #[.int .i64 f.last, .slice ga f.growth.length gc, .slice wa f.wet.length wc, .slice ba f.base.length bc, .slice ca f.crops.length cc, .int .i64 f.ripe, .int .i64 f.late, .int .i64 f.trod, .slice la f.looks.length lc, .map (some (w.heap.size + 1))] 195) := ⟨_, rfl⟩
  have hVr : V.heap[w.heap.size + 1 + 1]? = some (.cells #[.int .i64 f.last, .slice ga f.growth.length gc, .slice wa f.wet.length wc, .slice ba f.base.length bc, .slice ca f.crops.length cc, .int .i64 f.ripe, .int .i64 f.late, .int .i64 f.trod, .slice la f.looks.length lc, .map (some (w.heap.size + 1))] 195 (0, 0)) := by
    rw [hV]
    have := heap_new (W.alloc (Obj.map #[] 0)) (Obj.cells #[.int .i64 f.last, .slice ga f.growth.length gc, .slice wa f.wet.length wc, .slice ba f.base.length bc, .slice ca f.crops.length cc, .int .i64 f.ripe, .int .i64 f.late, .int .i64 f.trod, .slice la f.looks.length lc, .map (some (w.heap.size + 1))] 195)
    rw [World.size_alloc, hWs] at this
    exact this
  have hVo : ownS V (w.heap.size + 1) 0 (.map []) := by
    have h1 := World.ownsMap_made (H := Unit) W Try.prog 201 (plainElem Try.prog 3)
    rw [hWs] at h1
    rw [hV]
    exact World.ownsMap.alloc h1 _
  have hVb : Below w.heap.size w V := by rw [hV]; exact hWb.trans ((below_alloc2 (Nat.le_refl _) _ _).mono (by omega))
  have HF := hid (show RetWork f ga wa ba ca la gc wc bc cc lc w (.returned (.pointer (some ⟨w.heap.size + 1 + 1, 0, none⟩))) V from
    ⟨w.heap.size + 1 + 1, w.heap.size + 1, rfl, by omega, by omega, ⟨hVr, by omega, ⟨_, [], hVo, Assoc.nil, fun p hp => by simp at hp⟩⟩, hVb⟩)
  have HW := hid hW
  have HV := hid hV
  clear hW hV hVr hVo hVb
  go_enter Try.func101, Try.ntmps101
  go_wp2
  go_ret
  have := HF.out
  rw [HV.out, HW.out] at this
  exact this

theorem WorkAt'.below {f : Fl} {ga wa ba ca la : Option Addr} {gc wc bc cc lc bw bm k : Nat} {w w' : World} (h : WorkAt' f ga wa ba ca la gc wc bc cc lc bw bm k w) (hb : Below w.heap.size w w') : WorkAt' f ga wa ba ca la gc wc bc cc lc bw bm k w' :=
  ⟨(hb.block bw (Array.getElem?_eq_some_iff.1 h.row).1).trans h.row, h.ne, h.known.below hb⟩
def encCr (c : Cr) : List Value := [.int .i64 c.weight, .int .i64 c.strength, .int .i64 c.worth]
theorem encCr_length (c : Cr) : (encCr c).length = 3 := rfl
theorem encCr_one (c : Cr) : ∀ u ∈ encCr c, u.oneCell' = true := by
  intro u hu
  simp only [encCr, List.mem_cons, List.not_mem_nil, or_false] at hu
  rcases hu with rfl | rfl | rfl <;> rfl
theorem kcrops_under : Try.prog.underlying 81 = some (.slice 95) := by kernel_rfl
theorem infoCrop : (Try.prog.info? 95).map (fun i => (i.zero, i.size, i.bytes)) = some (some (.agg #[.int .i64 0, .int .i64 0, .int .i64 0]), 3, 24) := by kernel_rfl
theorem cropsF_take (f : Fl) (growth wet plan : List Int) (k : Nat) (h : k < plan.length) : (cropsF f growth wet plan).take (k + 1) = (cropsF f growth wet plan).take k ++ [cropF f growth wet plan k] := by
  rw [List.take_succ_eq_append_getElem (by rw [cropsF_length]; exact h)]
  simp [cropsF]
theorem standF_getD (plan gl : List Int) (hgb : ∀ x ∈ gl, 0 ≤ x ∧ x ≤ 50) (hgl : gl.length ≤ 10) (k : Nat) : 0 ≤ (standF plan gl 0 0).getD k 0 ∧ (standF plan gl 0 0).getD k 0 ≤ 500 := by
  rw [List.getD_eq_getElem?_getD]
  cases e : (standF plan gl 0 0)[k]? with
  | none => simp
  | some y =>
    have := standF_bd plan gl hgb 0 0 0 (by omega) (by omega) y (List.mem_of_getElem? e)
    simp only [Option.getD_some]
    omega
theorem strongF_bd {f : Fl} (hg : GoodF f) (plan : List Int) (i : Nat) : 0 ≤ strongF f plan i ∧ strongF f plan i ≤ 200 := by
  have hb : f.base.getD i 0 ≤ 200 := by
    rw [List.getD_eq_getElem?_getD]
    cases e : f.base[i]? with
    | none => simp
    | some y => have := fallFrom_mem hg.base y (List.mem_of_getElem? e); simp; omega
  have hl := hg.late
  simp only [strongF]
  obtain ⟨e, he⟩ : ∃ e, e = max 0 (plan.getD i 0 - (if i = 0 then -1 else plan.getD (i - 1) 0) - f.ripe) := ⟨_, rfl⟩
  rw [← he]
  have := Int.mul_nonneg hl.1 (show 0 ≤ e by omega)
  omega

theorem Known.grown {trod : Int} {w w' : World} {bm k : Nat} {row : Option Nat} (h : Known trod w bm k) (hg : w.grownBy w' row) (hn : some bm ≠ row) : Known trod w' bm k := by
  obtain ⟨D, M, h1, h2, h3⟩ := h.ex
  exact ⟨D, M, World.ownsMap.kept h1 hg hn, h2, h3⟩
def RetCrops (l : List Cr) (n : Nat) (w : World) (e : Ending) (w' : World) : Prop := ∃ v, e = .returned v ∧ Crs (Lt w'.heap.size) w' v l ∧ Below n w w'

set_option maxHeartbeats 4000000 in
theorem cropsK_any (f : Fl) (hg : GoodF f) (ga wa ba ca la : Option Addr) (gc wc bc cc lc : Nat) (bw bm : Nat) (gl wl plan : List Int) (hgb : ∀ x ∈ gl, 0 ≤ x ∧ x ≤ 50) (hgl : gl.length ≤ 10) (hwl : wl.length ≤ 10) (hpm : ∀ x ∈ plan, 0 ≤ x ∧ x < (gl.length : Int) ∧ x < (wl.length : Int)) (hpb : plan.length ≤ f.base.length)
    (gv wv pv : Value) (n : Nat) (w : World) (hn : n ≤ w.heap.size) (hnb : n ≤ bm) (hW : WorkAt' f ga wa ba ca la gc wc bc cc lc bw bm 0 w)
    (hf : FlV (Lt n) w (.agg #[.int .i64 f.last, .slice ga f.growth.length gc, .slice wa f.wet.length wc, .slice ba f.base.length bc, .slice ca f.crops.length cc, .int .i64 f.ripe, .int .i64 f.late, .int .i64 f.trod, .slice la f.looks.length lc]) f)
    (hgv : Ints (Lt n) w gv gl) (hwv : Ints (Lt n) w wv wl) (hpv : Ints (Lt n) w pv plan) :
    Calls Try.prog 102 #[.pointer (some ⟨bw, 0, none⟩), .agg #[gv, wv], pv] w (RetCrops (cropsF f gl wl plan) n w) := by
  obtain ⟨ga', gc', hgv', -, -⟩ := hgv.open1
  obtain ⟨wa', wc', hwv', -, how⟩ := hwv.open1
  obtain ⟨pa, pc, hpv', -, hop⟩ := hpv.open1
  obtain ⟨gm, hgm⟩ : ∃ gm, gm = gl.length := ⟨_, rfl⟩
  rw [← hgm] at hgv'
  subst hgv' hwv' hpv'
  have hbwl : bw < w.heap.size := (Array.getElem?_eq_some_iff.1 hW.row).1
  have hbml : bm < w.heap.size := by
    obtain ⟨D, M, h1, _⟩ := hW.known.ex
    exact World.ownsMap.lt h1
  have hne := hW.ne
  have hb3 := hg.baseL
  obtain ⟨W, hWe⟩ : ∃ W, W = w.alloc (Obj.cells #[.slice ga' gm gc', .slice wa' wl.length wc'] 90) := ⟨_, rfl⟩
  have hWb : Below w.heap.size w W := by rw [hWe]; exact below_alloc1 (Nat.le_refl _) _
  have hWs : W.heap.size ≤ w.heap.size + 1 ∧ w.heap.size + 1 ≤ W.heap.size := by rw [hWe]; simp
  have q0 : W.heap[w.heap.size]? = some (.cells #[.slice ga' gm gc', .slice wa' wl.length wc'] 90 (0, 0)) := by rw [hWe]; exact heap_new _ _
  have hWW := hW.below hWb
  have HST := hid (standK_any (.pointer (some ⟨bw, 0, none⟩)) gl plan hgb hgl (by omega) _ _ _ n W (by omega) (hgv.below (hWb.mono hn)) ⟨wl, hwv.below (hWb.mono hn)⟩ (hpv.below (hWb.mono hn)))
  have t0 := cell_of_row q0 0
  have t1 := cell_of_row q0 1
  simp only [List.getElem?_toArray, List.getElem?_cons_zero, List.getElem?_cons_succ] at t0 t1
  have HGB := hid hgb
  have HPM := hid hpm
  have HGD := hid hg
  have HQ0 := hid q0
  have HFL := hid (hf.below (hWb.mono hn))
  have HPI := hid (hpv.below (hWb.mono hn))
  have HOW := hid how
  have HOP := hid hop
  have HWK := hid hWW
  have HSL := hid (standF_length plan gl 0 0)
  have HGM := hid hgm
  clear hW hgv hwv hpv hgb hpm hg q0 hf how hop hWW hgm
  go_enter Try.func102, Try.ntmps102
  go_wp2_with fail
  rw [← hWe]
  clear hWe
  refine HST.out.mono ?_
  rintro e w2 ⟨rfl, hb2⟩
  have hlen : (padT (standF plan gl 0 0)).length = 10 := padT_length _ (by rw [HSL.out]; exact hgl)
  have HV := hid (show stArr (standF plan gl 0 0) = ((padT (standF plan gl 0 0)).map (Value.int .i64)).toArray from rfl)
  have HPG := hid (fun k (hk : k < gl.length) => padT_getD (standF plan gl 0 0) k (by rw [HSL.out]; exact hk))
  rw [HV.out]
  obtain ⟨x0, x1, x2, x3, x4, x5, x6, x7, x8, x9, hten⟩ := ten_open _ hlen
  rw [hten]
  simp only [List.map_cons, List.map_nil]
  have HB2 := hid hb2
  have HTEN := hid hten
  clear hlen hten hb2 HST
  go_wp2_with fail
  obtain ⟨W3, hW3⟩ : ∃ W3, W3 = w2.alloc (Obj.cells #[.int .i64 x0, .int .i64 x1, .int .i64 x2, .int .i64 x3, .int .i64 x4, .int .i64 x5, .int .i64 x6, .int .i64 x7, .int .i64 x8, .int .i64 x9] 197) := ⟨_, rfl⟩
  rw [← hW3]
  have h3b : Below w2.heap.size w2 W3 := by rw [hW3]; exact below_alloc1 (Nat.le_refl _) _
  have h3r : W3.heap[w2.heap.size]? = some (.cells #[.int .i64 x0, .int .i64 x1, .int .i64 x2, .int .i64 x3, .int .i64 x4, .int .i64 x5, .int .i64 x6, .int .i64 x7, .int .i64 x8, .int .i64 x9] 197 (0, 0)) := by rw [hW3]; exact heap_new _ _
  have h3l : w2.heap.size < W3.heap.size := (Array.getElem?_eq_some_iff.1 h3r).1
  have h2l := HB2.out.size
  have HX3 := hid (below_after HB2.out h3b (Nat.le_refl _))
  have HWK3 := hid (HWK.out.below HX3.out)
  -- the cells that stand, while the map changes
  have HCX := hid (fun (w' : World) (k : Nat) (hk : k < gl.length) (h : Chg (fun b => b = bm) W3 w') => by
    have hlen : (padT (standF plan gl 0 0)).length = 10 := padT_length _ (by rw [HSL.out]; exact hgl)
    have hr := h3r
    rw [show (#[.int .i64 x0, .int .i64 x1, .int .i64 x2, .int .i64 x3, .int .i64 x4, .int .i64 x5, .int .i64 x6, .int .i64 x7, .int .i64 x8, .int .i64 x9] : Array Value) = stArr (standF plan gl 0 0) by rw [HV.out, HTEN.out]; rfl] at hr
    have h1 := cell_of_row hr k
    rw [stArr_at _ (by rw [HSL.out]; exact hgl) k (by omega), HPG.out k hk] at h1
    exact (h.cell h3l (by omega)).trans h1 :
    ∀ (w' : World) (k : Nat), k < gl.length → Chg (fun b => b = bm) W3 w' → w'.cell? ⟨w2.heap.size, k, none⟩ = some (.int .i64 ((standF plan gl 0 0).getD k 0)))
  have HCB := hid (fun (w' : World) (b o : Nat) (hb : b < W.heap.size) (hne : b ≠ bm) (h : Chg (fun b => b = bm) W3 w') => (h.cell (by omega) hne).trans (HX3.out.cell (p := ⟨b, o, none⟩) hb) :
    ∀ (w' : World) (b o : Nat), b < W.heap.size → b ≠ bm → Chg (fun b => b = bm) W3 w' → w'.cell? ⟨b, o, none⟩ = W.cell? ⟨b, o, none⟩)
  have HRB := hid (fun (w' : World) (h : Chg (fun b => b = bm) W3 w') => (h.block bw (by omega) hne).trans HWK3.out.row : ∀ w', Chg (fun b => b = bm) W3 w' → w'.heap[bw]? = _)
  have HFB := hid (fun (w' : World) (h : Chg (fun b => b = bm) W3 w') => HFL.out.keep ⟨by have := h.size; omega, fun b hb => (h.block b (by have : b < n := hb; omega) (by have : b < n := hb; omega)).trans (HX3.out.block b (by have : b < n := hb; omega))⟩ : ∀ w', Chg (fun b => b = bm) W3 w' → FlV (Lt n) w' _ f)
  have HPB := hid (fun (w' : World) (h : Chg (fun b => b = bm) W3 w') => HPI.out.keep ⟨by have := h.size; omega, fun b hb => (h.block b (by have : b < n := hb; omega) (by have : b < n := hb; omega)).trans (HX3.out.block b (by have : b < n := hb; omega))⟩ : ∀ w', Chg (fun b => b = bm) W3 w' → Ints (Lt n) w' _ plan)
  clear hW3 h3b h3r HFL HPI HB2
  go_loopw [6, 18] (fun s i wr => ∃ k : Nat, k ≤ plan.length ∧ i = .int .i64 k ∧ Own W3.heap.size 95 3 encCr wr s ((cropsF f gl wl plan).take k) ∧ Chg (fun b => b = bm) W3 wr ∧ Hid (Known f.trod wr bm k)) (fun _ i _ => plan.length - (intOf i).toNat)
  case atStart => exact ⟨0, by omega, rfl, Own.nil, Chg.refl _ _, hid HWK3.out.known⟩
  case round =>
    obtain ⟨k, hk, rfl, hown, hch, HKN⟩ := hrel
    have hsz := hch.size
    by_cases hlt : k < plan.length
    · rcases HOP.out with hnil | ⟨b1, off1, rfl, hbn1, hc1⟩
      · rw [hnil] at hlt; simp at hlt
      have hp := HPM.out plan[k] (List.getElem_mem _)
      have hwl0 : 0 < wl.length := by omega
      rcases HOW.out with hnil | ⟨b2, off2, rfl, hbn2, hc2⟩
      · rw [hnil] at hwl0; simp at hwl0
      have hbl1 : b1 < n := hbn1
      have hbl2 : b2 < n := hbn2
      have hpk := getD_at plan 0 k hlt
      rw [hpk] at hp
      have y1 := (HCB.out wr b1 (off1 + k) (by omega) (by omega) hch).trans ((hWb.cell (p := ⟨b1, off1 + k, none⟩) (by show b1 < _; omega)).trans (hc1 k hlt))
      rw [hpk] at y1
      have HT := hid (cropsF_take f gl wl plan k hlt)
      have HC2 := hc2
      obtain ⟨pn, hpe⟩ : ∃ pn : Nat, (pn : Int) = plan.getD k 0 := ⟨(plan.getD k 0).toNat, Int.toNat_of_nonneg hp.1⟩
      rw [← hpe] at y1 hp
      have HPE := hid hpe
      have HHC := hid hch
      have hpg : pn < gl.length := by omega
      have hpw : pn < wl.length := by omega
      have HXB := hid (standF_getD plan gl HGB.out hgl pn)
      have HCW := hid ((hc2 pn hpw).trans (by rw [getD_at wl 0 pn hpw]) : w.cell? ⟨b2, off2 + pn, none⟩ = some (.int .i64 (wl.getD pn 0)))
      have HCF := hid (show cropF f gl wl plan k = ⟨leftF f.trod ((standF plan gl 0 0).getD pn 0) (decide (0 < wl.getD pn 0)), strongF f plan k, leftF f.trod ((standF plan gl 0 0).getD pn 0) (decide (0 < wl.getD pn 0)) * strongF f plan k⟩ by
        have : (plan.getD k 0).toNat = pn := by rw [← hpe]; rfl
        unfold cropF
        rw [this])
      have HCXk := hid (fun w' h => HCX.out w' pn hpg h : ∀ w', Chg (fun b => b = bm) W3 w' → w'.cell? ⟨w2.heap.size, pn, none⟩ = some (.int .i64 ((standF plan gl 0 0).getD pn 0)))
      have hpn10 : pn < 10 := by omega
      have hpn10i : (pn : Int) < 10 := by omega
      obtain ⟨sa, sc, hsv, -, -⟩ := hown.slLt encCr_length
      obtain ⟨sm, hsm⟩ : ∃ sm, sm = ((cropsF f gl wl plan).take k).length := ⟨_, rfl⟩
      rw [← hsm] at hsv
      clear hsm
      subst hsv
      have HOWN := hid hown
      clear hpe hpk hc1 hc2 hown hch hp HCX
      generalize (standF plan gl 0 0).getD pn 0 = x at *
      generalize wl.getD pn 0 = u at *
      go_wp2_with fail
      obtain ⟨D, hD⟩ : ∃ D, D = wr.drew := ⟨_, rfl⟩
      have hBD : Below wr.heap.size wr D := by rw [hD]; exact (Below.refl _ _).drew
      have hsD : D.heap.size ≤ wr.heap.size ∧ wr.heap.size ≤ D.heap.size := by rw [hD]; simp
      have HD3 := hid (fun w' h => (HHC.out.trans (chg_of_below hBD)).trans h : ∀ w', Chg (fun b => b = bm) D w' → Chg (fun b => b = bm) W3 w')
      have HL := hid (fun w' h => ⟨HCXk.out w' (HD3.out w' h), (HCB.out w' w.heap.size 1 (by omega) (by omega) (HD3.out w' h)).trans t1, (HCB.out w' b2 (off2 + pn) (by omega) (by omega) (HD3.out w' h)).trans ((hWb.cell (p := ⟨b2, off2 + pn, none⟩) (by show b2 < _; omega)).trans HCW.out), HRB.out w' (HD3.out w' h)⟩ :
        ∀ w', Chg (fun b => b = bm) D w' → w'.cell? ⟨w2.heap.size, pn, none⟩ = some (.int .i64 x) ∧ w'.cell? ⟨w.heap.size, 1, none⟩ = some (.slice (some ⟨b2, off2, none⟩) wl.length wc') ∧ w'.cell? ⟨b2, off2 + pn, none⟩ = some (.int .i64 u) ∧ w'.heap[bw]? = _)
      refine wp_region_grow (by kernel_rfl) 20 (Chg (fun b => b = bm) D) ?_ ?_
      · rw [← hD]; exact Chg.refl _ _
      rw [← hD]
      have HG := chg_grow (T := fun b => b = bm) D
      have HKD := hid (HKN.out.below hBD)
      clear hD t0 t1 y1
      refine wpG_take (i := 0) (v := .pointer (some ⟨bw, 0, none⟩)) rfl rfl (by kernel_rfl) (by kernel_rfl) (by kernel_rfl) (by kernel_rfl) (fun _ _ _ h => h) (by rfl) (fun w' hS' => grow_value ?_ hS') ?_
      · go_simp
      try simp only [List.setIfInBounds_toArray, List.set_cons_zero, List.set_cons_succ]
      refine wpG_take (i := 1) (v := .int .i64 pn) rfl rfl (by kernel_rfl) (by kernel_rfl) (by kernel_rfl) (by kernel_rfl) (fun _ _ _ h => h) (by rfl) (fun w' hS' => grow_value ?_ hS') ?_
      · go_simp
      try simp only [List.setIfInBounds_toArray, List.set_cons_zero, List.set_cons_succ]
      refine wpG_take (i := 2) (v := .pointer (some ⟨w2.heap.size, pn, none⟩)) rfl rfl (by kernel_rfl) (by kernel_rfl) (by kernel_rfl) (by kernel_rfl) (fun _ _ _ h => h) (by rfl) (fun w' hS' => grow_value ?_ hS') ?_
      · go_simp
      try simp only [List.setIfInBounds_toArray, List.set_cons_zero, List.set_cons_succ]
      refine wpG_take (i := 3) (v := .int .i64 x) rfl rfl (by kernel_rfl) (by kernel_rfl) (by kernel_rfl) (by kernel_rfl) (fun _ _ _ h => h) (by rfl) (fun w' hS' => grow_value ?_ hS') ?_
      · have ⟨s0, s1, s2, hwr⟩ := HL.out _ hS'; have j0 := cell_of_row hwr 0; have j1 := cell_of_row hwr 1; have j2 := cell_of_row hwr 2; have j3 := cell_of_row hwr 3; have j4 := cell_of_row hwr 4; have j5 := cell_of_row hwr 5; have j6 := cell_of_row hwr 6; have j7 := cell_of_row hwr 7; have j8 := cell_of_row hwr 8; simp only [List.getElem?_toArray, List.getElem?_cons_zero, List.getElem?_cons_succ] at j0 j1 j2 j3 j4 j5 j6 j7 j8; go_simp
      try simp only [List.setIfInBounds_toArray, List.set_cons_zero, List.set_cons_succ]
      refine wpG_take (i := 4) (v := .pointer (some ⟨w.heap.size, 1, none⟩)) rfl rfl (by kernel_rfl) (by kernel_rfl) (by kernel_rfl) (by kernel_rfl) (fun _ _ _ h => h) (by rfl) (fun w' hS' => grow_value ?_ hS') ?_
      · go_simp
      try simp only [List.setIfInBounds_toArray, List.set_cons_zero, List.set_cons_succ]
      refine wpG_take (i := 5) (v := .slice (some ⟨b2, off2, none⟩) wl.length wc') rfl rfl (by kernel_rfl) (by kernel_rfl) (by kernel_rfl) (by kernel_rfl) (fun _ _ _ h => h) (by rfl) (fun w' hS' => grow_value ?_ hS') ?_
      · have ⟨s0, s1, s2, hwr⟩ := HL.out _ hS'; have j0 := cell_of_row hwr 0; have j1 := cell_of_row hwr 1; have j2 := cell_of_row hwr 2; have j3 := cell_of_row hwr 3; have j4 := cell_of_row hwr 4; have j5 := cell_of_row hwr 5; have j6 := cell_of_row hwr 6; have j7 := cell_of_row hwr 7; have j8 := cell_of_row hwr 8; simp only [List.getElem?_toArray, List.getElem?_cons_zero, List.getElem?_cons_succ] at j0 j1 j2 j3 j4 j5 j6 j7 j8; go_simp
      try simp only [List.setIfInBounds_toArray, List.set_cons_zero, List.set_cons_succ]
      refine wpG_take (i := 6) (v := .int .i64 pn) rfl rfl (by kernel_rfl) (by kernel_rfl) (by kernel_rfl) (by kernel_rfl) (fun _ _ _ h => h) (by rfl) (fun w' hS' => grow_value ?_ hS') ?_
      · go_simp
      try simp only [List.setIfInBounds_toArray, List.set_cons_zero, List.set_cons_succ]
      refine wpG_take (i := 7) (v := .pointer (some ⟨b2, off2 + pn, none⟩)) rfl rfl (by kernel_rfl) (by kernel_rfl) (by kernel_rfl) (by kernel_rfl) (fun _ _ _ h => h) (by rfl) (fun w' hS' => grow_value ?_ hS') ?_
      · go_simp
      try simp only [List.setIfInBounds_toArray, List.set_cons_zero, List.set_cons_succ]
      refine wpG_take (i := 8) (v := .int .i64 u) rfl rfl (by kernel_rfl) (by kernel_rfl) (by kernel_rfl) (by kernel_rfl) (fun _ _ _ h => h) (by rfl) (fun w' hS' => grow_value ?_ hS') ?_
      · have ⟨s0, s1, s2, hwr⟩ := HL.out _ hS'; have j0 := cell_of_row hwr 0; have j1 := cell_of_row hwr 1; have j2 := cell_of_row hwr 2; have j3 := cell_of_row hwr 3; have j4 := cell_of_row hwr 4; have j5 := cell_of_row hwr 5; have j6 := cell_of_row hwr 6; have j7 := cell_of_row hwr 7; have j8 := cell_of_row hwr 8; simp only [List.getElem?_toArray, List.getElem?_cons_zero, List.getElem?_cons_succ] at j0 j1 j2 j3 j4 j5 j6 j7 j8; go_simp
      try simp only [List.setIfInBounds_toArray, List.set_cons_zero, List.set_cons_succ]
      refine wpG_take (i := 9) (v := .bool (decide (0 < u))) rfl rfl (by kernel_rfl) (by kernel_rfl) (by kernel_rfl) (by kernel_rfl) (fun _ _ _ h => h) (by rfl) (fun w' hS' => grow_value ?_ hS') ?_
      · go_simp
      try simp only [List.setIfInBounds_toArray, List.set_cons_zero, List.set_cons_succ]
      refine wpG_take (i := 10) (v := .agg #[.int .i64 x, .bool (decide (0 < u))]) rfl rfl (by kernel_rfl) (by kernel_rfl) (by kernel_rfl) (by kernel_rfl) (fun _ _ _ h => h) (by rfl) (fun w' hS' => grow_value ?_ hS') ?_
      · go_simp
      try simp only [List.setIfInBounds_toArray, List.set_cons_zero, List.set_cons_succ]
      refine wpG_take (i := 12) (v := .pointer (some ⟨bw, 0, none⟩)) rfl rfl (by kernel_rfl) (by kernel_rfl) (by kernel_rfl) (by kernel_rfl) (fun _ _ _ h => h) (by rfl) (fun w' hS' => grow_value ?_ hS') ?_
      · go_simp
      try simp only [List.setIfInBounds_toArray, List.set_cons_zero, List.set_cons_succ]
      refine wpG_take (i := 13) (v := .pointer (some ⟨bw, 0, none⟩)) rfl rfl (by kernel_rfl) (by kernel_rfl) (by kernel_rfl) (by kernel_rfl) (fun _ _ _ h => h) (by rfl) (fun w' hS' => grow_value ?_ hS') ?_
      · go_simp
      try simp only [List.setIfInBounds_toArray, List.set_cons_zero, List.set_cons_succ]
      refine wpG_take (i := 14) (v := .pointer (some ⟨bw, 0, none⟩)) rfl rfl (by kernel_rfl) (by kernel_rfl) (by kernel_rfl) (by kernel_rfl) (fun _ _ _ h => h) (by rfl) (fun w' hS' => grow_value ?_ hS') ?_
      · go_simp
      try simp only [List.setIfInBounds_toArray, List.set_cons_zero, List.set_cons_succ]
      refine wpG_take (i := 15) (v := .agg #[.int .i64 f.last, .slice ga f.growth.length gc, .slice wa f.wet.length wc, .slice ba f.base.length bc, .slice ca f.crops.length cc, .int .i64 f.ripe, .int .i64 f.late, .int .i64 f.trod, .slice la f.looks.length lc]) rfl rfl (by kernel_rfl) (by kernel_rfl) (by kernel_rfl) (by kernel_rfl) (fun _ _ _ h => h) (by rfl) (fun w' hS' => grow_value ?_ hS') ?_
      · have ⟨s0, s1, s2, hwr⟩ := HL.out _ hS'; have j0 := cell_of_row hwr 0; have j1 := cell_of_row hwr 1; have j2 := cell_of_row hwr 2; have j3 := cell_of_row hwr 3; have j4 := cell_of_row hwr 4; have j5 := cell_of_row hwr 5; have j6 := cell_of_row hwr 6; have j7 := cell_of_row hwr 7; have j8 := cell_of_row hwr 8; simp only [List.getElem?_toArray, List.getElem?_cons_zero, List.getElem?_cons_succ] at j0 j1 j2 j3 j4 j5 j6 j7 j8; go_simp
      try simp only [List.setIfInBounds_toArray, List.set_cons_zero, List.set_cons_succ]
      refine wpG_take (i := 16) (v := .slice (some ⟨b1, off1, none⟩) plan.length pc) rfl rfl (by kernel_rfl) (by kernel_rfl) (by kernel_rfl) (by kernel_rfl) (fun _ _ _ h => h) (by rfl) (fun w' hS' => grow_value ?_ hS') ?_
      · go_simp
      try simp only [List.setIfInBounds_toArray, List.set_cons_zero, List.set_cons_succ]
      refine wpG_take (i := 17) (v := .int .i64 k) rfl rfl (by kernel_rfl) (by kernel_rfl) (by kernel_rfl) (by kernel_rfl) (fun _ _ _ h => h) (by rfl) (fun w' hS' => grow_value ?_ hS') ?_
      · go_simp
      try simp only [List.setIfInBounds_toArray, List.set_cons_zero, List.set_cons_succ]
      refine wpG_only (i := 11) rfl (by rfl) (by kernel_rfl) (by rfl) (fun w4 hb4 hS4 => ?_)
      go_simp
      have hwr4 := (HL.out w4 hS4).2.2.2
      have c7 := cell_of_row hwr4 7
      have c9 := cell_of_row hwr4 9
      simp only [List.getElem?_toArray, List.getElem?_cons_zero, List.getElem?_cons_succ] at c7 c9
      refine (leftK_any f.trod x (decide (0 < u)) HGD.out.trod ⟨HXB.out.1, by have := HXB.out.2; omega⟩ bw bm k (by omega) w4 c7 c9 (by have := hS4.size; omega) hne (HKD.out.below (hb4.mono (Nat.le_refl _)))).mono ?_
      rintro e w5 ⟨rfl, hc5, hK5⟩
      have hS5 := hS4.trans hc5
      refine ⟨hS5, ?_⟩
      have HK5 := hid hK5
      clear hwr4 c7 c9 hc5 hK5
      try simp only [List.setIfInBounds_toArray, List.set_cons_zero, List.set_cons_succ]
      refine wpG_only (i := 18) rfl (by rfl) (by kernel_rfl) (by rfl) (fun w6 hb6 hS6 => ?_)
      go_simp
      refine (strengthK_any f HGD.out plan (fun y hy => by have := HPM.out y hy; omega) (by omega) k hlt (by omega) _ _ n w6 (by have := hS6.size; omega) (HFB.out w6 (HD3.out w6 hS6)) (HPB.out w6 (HD3.out w6 hS6))).mono ?_
      rintro e w7 ⟨rfl, hb7⟩
      have hS7 := HG _ _ hS6 hb7
      refine ⟨hS7, ?_⟩
      have HK7 := hid ((HK5.out.below hb6).below hb7)
      clear hb7 HK5 hb6
      try simp only [List.setIfInBounds_toArray, List.set_cons_zero, List.set_cons_succ]
      refine wpG_only (i := 19) rfl (by rfl) (by kernel_rfl) (by rfl) (fun w8 hb8 hS8 => ?_)
      have HS8 := hid hS8
      clear hS8
      go_simp
      refine ⟨HS8.out, ?_⟩
      try simp only [List.setIfInBounds_toArray, List.set_cons_zero, List.set_cons_succ]
      refine wpG_last rfl (by kernel_rfl) (by kernel_rfl) (by rfl) (fun w9 hb9 hS9 => ?_)
      go_simp
      have HK9 := hid ((HK7.out.below hb8).below hb9)
      have HO9 := hid (HOWN.out.chg ((chg_of_below hBD).trans hS9) (fun b hb => by omega))
      have HC9 := hid (HHC.out.trans ((chg_of_below hBD).trans hS9))
      have hz9 := hS9.size
      clear HK7 hb8 hb9 hS7 hS6 hS5 hS4 hb4 hS9 HOWN HHC HKD HL HD3 HG HKN HWK3 HWK HCXk HCB HRB HFB HPB
      have hlb := leftF_bd (trod := f.trod) HGD.out.trod HXB.out.1 (decide (0 < u))
      have hsb := strongF_bd HGD.out plan k
      have hxb := HXB.out.2
      have hpl9 : ((cropsF f gl wl plan).take k).length ≤ k := List.length_take_le _ _
      have HTF := hid (show (cropsF f gl wl plan).take (k + 1) = (cropsF f gl wl plan).take k ++ [⟨_, _, _⟩] from HT.out.trans (by rw [HCF.out]))
      clear HT HCF
      generalize leftF f.trod x (decide (0 < u)) = lf at *
      generalize strongF f plan k = sf at *
      have hm0 := Int.mul_nonneg hlb.1 hsb.1
      have hm1 : lf * sf ≤ 500 * 200 := Int.mul_le_mul (by omega) hsb.2 hsb.1 (by omega)
      have hwp : IntKind.i64.wrap (lf * sf) = lf * sf := IntWalk.i64_in _ (by omega)
      generalize hmm : lf * sf = ms at *
      generalize (cropsF f gl wl plan).take k = pre at *
      go_wp2_with (at_builtin; refine wpList_append1 encCr rfl (.tmp 42) (.tmp 49) 81 rfl W3.heap.size 95 (.agg #[.int .i64 0, .int .i64 0, .int .i64 0]) 3 24 kcrops_under infoCrop rfl (by decide) encCr_length encCr_one _ pre rfl (HO9.out.below (below_alloc1 (Nat.le_refl _) _)) _ _ (⟨lf, sf, ms⟩ : Cr) rfl (fun i c hc => cells_new w9 [.int .i64 lf, .int .i64 sf, .int .i64 ms] 95 i c hc) (by omega) (by decide) (by simp; omega) ?_; intro v7 w7 hown7 hgr7; have HX := hid (And.intro hown7 hgr7); clear hown7 hgr7)
      have hblk := HO9.out.block
      have ha9 := below_alloc1 (Nat.le_refl w9.heap.size) (Obj.cells #[.int .i64 lf, .int .i64 sf, .int .i64 ms] 95)
      have hcA := HC9.out.trans (chg_of_below ha9)
      have hgB := chg_grown HX.out.2
      have hcE : Chg (fun b => b = bm) W3 w7 := ⟨hgB.os.trans hcA.os, hgB.tape.trans hcA.tape, hgB.output.trans hcA.output, Nat.le_trans hcA.size hgB.size, fun b hb hne => (hgB.block b (by have := hcA.size; omega) (fun e => by have := (hblk b e).1; omega)).trans (hcA.block b hb hne)⟩
      have hKE : Known f.trod w7 bm (k + 1) := (HK9.out.below ha9).grown HX.out.2 (fun e => by have := (hblk bm e.symm).1; omega)
      exact ⟨⟨k + 1, by omega, by go_num, by rw [HTF.out]; exact HX.out.1, hcE, hid hKE⟩, by simp [intOf]; omega⟩
    · have hke : k = plan.length := by omega
      subst hke
      rw [show (cropsF f gl wl plan).take plan.length = cropsF f gl wl plan by rw [← cropsF_length f gl wl plan, List.take_length]] at hown
      have HOWN := hid hown
      have HHC := hid hch
      clear hown hch
      go_wp2
      go_ret
      exact ⟨_, rfl, HOWN.out.slLt encCr_length, (hWb.mono hn).trans ((HX3.out.mono (by omega)).trans (HHC.out.below (n := n) (by omega) fun b hb e => by omega))⟩
end Go.Proofs.Ytjddcaimjofihaa
