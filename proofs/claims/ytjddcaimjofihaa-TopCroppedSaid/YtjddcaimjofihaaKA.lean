/- Contracts of package crop: lists put together, listed truths; no condition. -/
import Derived.Test.YtjddcaimjofihaaK9
import Derived.Test.YtjddcaimjofihaaRG
import Derived.Lib.Walk
import Derived.Lib.AppendZerosOnto
namespace Go.Proofs.Ytjddcaimjofihaa
open Go.RowKit Go.Shelf
set_option maxRecDepth 100000

/-- slices.Grow(nil, n). -/
theorem Grow_nil (n : Nat) (h0 : 0 < n) (hn : n ≤ 1000) (w : World) :
    Calls Try.prog 182 #[.slice none 0 0, .int .i64 n] w fun e w' => ∃ v', e = .returned v' ∧ Own w.heap.size 3 1 encI w' v' [] ∧ Below w.heap.size w w' := by
  obtain ⟨i, hi, hz0, hz1, hz2⟩ := info_parts infoInt
  have hold : (Builtin.firstCells i.size 0 (.slice none 0 0)).run Try.prog w.drew = .ok #[] w.drew := run_firstCells_none w.drew i.size 0 0 0
  have hrz : ∀ ty, (Builtin.append_ #[47, 3] ty #[.slice none 0 0, .int .i64 n]).run Try.prog w =
      .ok (.slice (some ⟨w.heap.size, 0, none⟩) n (grownCap w n 0 3)) (w.drew.alloc (.cells (Builtin.zeroCells (Value.int .i64 0).cells n ++ Builtin.zeroCells (Value.int .i64 0).cells (grownCap w n 0 3 - n)) 3)) := fun ty => by
    have h := Lib.run_append_grow_zeros w 47 3 ty 3 i (.int .i64 0) .i64 .i64 ints_under int_under hi hz0 none 0 0 [] hold n h0 (by omega) (by omega) (by omega) (by rw [hz2]; omega) (by rw [Nat.zero_add]; exact growslice_fits (by omega) (by rw [hz2]; omega))
    simpa using h
  have hge := grownCap_ge w n 0 3
  have hle := grownCap_le_maxLen w n 0 3 (by unfold maxLen; omega)
  obtain ⟨G, hG⟩ : ∃ G, G = grownCap w n 0 3 := ⟨_, rfl⟩
  rw [← hG] at hrz hge hle
  have hG63 : G ≤ 9223372036854775807 := by unfold maxLen at hle; omega
  have HRZ := hid hrz
  have hnI : ¬ ((n : Int) < 0) := by omega
  have hnJ : (0 : Int) < (n : Int) := by omega
  have hn1 : decide ((n : Int) < 0) = false := decide_eq_false (by omega)
  have hn2 : decide ((0 : Int) < (n : Int)) = true := decide_eq_true (by omega)
  have hn3 : decide (0 < n) = true := decide_eq_true h0
  have hwr : IntKind.i64.wrap (n : Int) = n := IntWalk.i64_in _ (by omega)
  have HLE := hid hle
  clear hold hrz hG hle
  go_enter Try.func182, Try.ntmps182
  go_wp2_with (at_builtin; refine Lib.wpList_append_run _ rfl _ _ _ _ rfl _ _ rfl rfl _ _ (HRZ.out _) ?_)
  go_ret
  refine ⟨_, rfl, ⟨by simp, .inr ⟨w.heap.size, G, _, rfl, Nat.le_refl _, heap_new w.drew _, Nat.zero_le _, HLE.out, ?_, by simp⟩⟩, ((Below.refl w.heap.size w).drew).alloc (by simp) _⟩
  rw [Array.size_append, size_zeroCells, size_zeroCells]
  show n * 1 + (G - n) * 1 = G * 1
  omega

def lenS (ls : List (List Int)) : Nat := (ls.map List.length).sum
theorem lenS_take (ls : List (List Int)) (k : Nat) (h : k < ls.length) : lenS (ls.take (k + 1)) = lenS (ls.take k) + ls[k].length := by
  rw [List.take_succ_eq_append_getElem h]
  simp only [lenS, List.map_append, List.sum_append, List.map_cons, List.map_nil, List.sum_cons, List.sum_nil]
  omega
theorem lenS_le (ls : List (List Int)) (k : Nat) : lenS (ls.take k) ≤ lenS ls := by
  have : lenS ls = lenS (ls.take k) + lenS (ls.drop k) := by
    conv => lhs; rw [← List.take_append_drop k ls]
    simp only [lenS, List.map_append, List.sum_append]
  omega
theorem lenS_flatten (ls : List (List Int)) : ls.flatten.length = lenS ls := by simp [lenS, List.length_flatten]

set_option maxHeartbeats 2000000 in
theorem ConcatI_any (ls : List (List Int)) (h0 : 0 < lenS ls) (hls : lenS ls ≤ 1000) (hll : ls.length ≤ 1000) (v : Value) (n : Nat) (w : World) (hn : n ≤ w.heap.size) (h : Lss (Lt n) w v ls) :
    Calls Try.prog 149 #[v] w fun e w' => ∃ v', e = .returned v' ∧ Own w.heap.size 3 1 encI w' v' ls.flatten ∧ Below w.heap.size w w' := by
  obtain ⟨a, cap, rfl, hcap, ho⟩ := h.open
  have HO := hid ho
  clear h ho
  go_enter Try.func149, Try.ntmps149
  go_wp2_with fail
  go_loop [3, 11] (fun s i => ∃ k : Nat, k ≤ ls.length ∧ i = .int .i64 k ∧ s = .int .i64 (lenS (ls.take k) : Nat)) (fun _ i => ls.length - (intOf i).toNat)
  case atStart => exact ⟨0, by omega, rfl, rfl⟩
  case round =>
    obtain ⟨k, hk, rfl, rfl⟩ := hrel
    have hsl := lenS_le ls k
    by_cases hlt : k < ls.length
    · rcases HO.out with hnil | ⟨b, off, rfl, hbn, hc⟩
      · rw [hnil] at hlt; simp at hlt
      obtain ⟨xv, y0, hx⟩ := hc k hlt
      have HT := hid (lenS_take ls k hlt)
      have hsl1 := lenS_le ls (k + 1)
      rw [HT.out] at hsl1
      clear hc
      generalize ls[k] = l at *
      generalize lenS (ls.take k) = s at *
      obtain ⟨xa, xc, hxv, -, -⟩ := hx.open1
      obtain ⟨lm, hlm⟩ : ∃ lm, lm = l.length := ⟨_, rfl⟩
      rw [← hlm] at hxv HT hsl1
      clear hlm hx
      subst hxv
      have hwr : IntKind.i64.wrap ((s : Int) + lm) = (s : Int) + lm := IntWalk.i64_in _ (by omega)
      have hneg : decide ((s : Int) + (lm : Int) < 0) = false := decide_eq_false (by omega)
      go_wp2
      go_round
      case rel => exact ⟨k + 1, by omega, by go_num, by rw [HT.out, Int.natCast_add]⟩
      case measure => simp [intOf]; omega
    · have hke : k = ls.length := by omega
      subst hke
      rw [List.take_length]
      obtain ⟨s, hs⟩ : ∃ s, s = lenS ls := ⟨_, rfl⟩
      have HLS := hid hls
      rw [← hs] at h0 hls hsl ⊢
      clear hs
      go_wp2_with fail
      refine (Grow_nil s h0 hls w).mono ?_
      rintro e w2 ⟨v2, rfl, hown2, hb2⟩
      have HOWN2 := hid hown2
      have HB2 := hid hb2
      clear hown2 hb2 hlt hk hsl
      go_wp2_with fail
      go_loopw [6, 27] (fun s i wr => ∃ k : Nat, k ≤ ls.length ∧ i = .int .i64 k ∧ Own w.heap.size 3 1 encI wr s (ls.take k).flatten ∧ Below w.heap.size w wr) (fun _ i _ => ls.length - (intOf i).toNat)
      case atStart => exact ⟨0, by omega, rfl, by simpa using HOWN2.out, HB2.out⟩
      case round =>
        clear HOWN2 HB2
        obtain ⟨k, hk, rfl, hown, hb⟩ := hrel
        have hbs := hb.size
        by_cases hlt : k < ls.length
        · rcases HO.out with hnil | ⟨b, off, rfl, hbn, hc⟩
          · rw [hnil] at hlt; simp at hlt
          obtain ⟨xv, y0, hx⟩ := hc k hlt
          have hbl : b < n := hbn
          have z0 := (hb.cell (p := ⟨b, off + k, none⟩) (by show b < _; omega)).trans y0
          have HX := hid (hx.below (hb.mono hn))
          have HT := hid (show (ls.take (k + 1)).flatten = (ls.take k).flatten ++ ls[k] by rw [List.take_succ_eq_append_getElem hlt, List.flatten_append, List.flatten_cons, List.flatten_nil, List.append_nil])
          have hln : (ls.take k).flatten.length + ls[k].length ≤ 1000 := by
            rw [lenS_flatten, ← lenS_take ls k hlt]
            have := lenS_le ls (k + 1)
            have := HLS.out
            omega
          clear hc y0 hx
          generalize ls[k] = l at *
          obtain ⟨xa, xc, hxv, -, -⟩ := HX.out.open1
          obtain ⟨lm, hlm⟩ : ∃ lm, lm = l.length := ⟨_, rfl⟩
          have HLM := hid hlm
          rw [← hlm] at hxv
          clear hlm
          subst hxv
          obtain ⟨pa, pc, hv0, -, -⟩ := hown.slLt encI_length
          have HOWN := hid hown
          have HOB := hid hown.block
          have HB := hid hb
          generalize (ls.take k).flatten = pre at *
          obtain ⟨pm, hpm⟩ : ∃ pm, pm = pre.length := ⟨_, rfl⟩
          rw [← hpm] at hv0
          clear hpm hown hb
          subst hv0
          go_wp2_with (at_builtin; refine wpList_appendL encI rfl _ _ 47 rfl w.heap.size 3 _ 1 8 ints_under infoInt rfl (by decide) encI_length encI_one _ pre rfl HOWN.out _ _ l rfl HX.out (by omega) (by decide) (by omega) ?_; intro v7 w7 hown7 hgr7; have HY := hid (And.intro hown7 hgr7); clear hown7 hgr7)
          have hbE := hid (HB.out.grown HY.out.2 hbs fun k hk => (HOB.out k hk).1)
          go_roundw
          case rel => exact ⟨k + 1, by omega, by go_num, by rw [HT.out]; exact HY.out.1, hbE.out⟩
          case measure => simp [intOf]; omega
        · have HE := hid (show (ls.take k).flatten = ls.flatten by rw [List.take_of_length_le (by omega)])
          go_wp2
          go_ret
          exact ⟨_, rfl, by rw [← HE.out]; exact hown, hb⟩

theorem listed_get : ∀ (hs : List Rg) (l : List Int), listed hs l = true → ∀ k (h1 : k < hs.length) (h2 : k < l.length), hs[k].lo ≤ l[k] ∧ l[k] ≤ hs[k].hi
  | [], _, _, k, h1, _ => by simp at h1
  | _ :: _, [], h, _, _, _ => by simp [listed] at h
  | r :: hs, x :: l, h, k, h1, h2 => by
    simp only [listed, Bool.and_eq_true] at h
    cases k with
    | zero => exact has_iff.1 h.1
    | succ k => exact listed_get hs l h.2 k (by simpa using h1) (by simpa using h2)

set_option maxHeartbeats 4000000 in
theorem listedK_yes (f : Fl) (hg : GoodF f) (gl wl : List Int) (h1 : listed f.growth gl = true) (h2 : listed (f.wet.map wetR) wl = true) (v gv wv : Value) (n : Nat) (w : World) (hn : n ≤ w.heap.size) (h : FlV (Lt n) w v f) (hgv : Ints (Lt n) w gv gl) (hwv : Ints (Lt n) w wv wl) :
    Calls Try.prog 99 #[v, .agg #[gv, wv]] w fun e w' => e = .returned (.bool true) ∧ Below w.heap.size w w' := by
  have h' := h
  obtain ⟨ga, gc, wa, wc, ba, bc, ca, cc, la, lc, rfl, hp1, hp2, hp3, hp4, hp5⟩ := h.open
  have hl1 := listed_length _ _ h1
  have hl2 := listed_length _ _ h2
  rw [List.length_map] at hl2
  have hgl1 := hg.growthL
  have hwl1 := hg.wetL
  obtain ⟨g1, g2⟩ := hg.last
  have HLL := hid (show listed (rangesF f) (gl ++ wl) = true from listed_append _ _ _ _ h1 h2)
  have hlr : (rangesF f).length = gl.length + wl.length := by simp only [rangesF, List.length_append, List.length_map]; omega
  obtain ⟨ga', gc', hgv', -, -⟩ := hgv.open1
  obtain ⟨wa', wc', hwv', -, -⟩ := hwv.open1
  obtain ⟨gm, hgm⟩ : ∃ gm, gm = gl.length := ⟨_, rfl⟩
  obtain ⟨wm, hwm⟩ : ∃ wm, wm = wl.length := ⟨_, rfl⟩
  rw [← hgm] at hgv'
  rw [← hwm] at hwv'
  subst hgv' hwv'
  obtain ⟨W, hW⟩ : ∃ W, W = (w.alloc (Obj.cells #[.int .i64 f.last, .slice ga f.growth.length gc, .slice wa f.wet.length wc, .slice ba f.base.length bc, .slice ca f.crops.length cc, .int .i64 f.ripe, .int .i64 f.late, .int .i64 f.trod, .slice la f.looks.length lc] 87)).alloc (Obj.cells #[.slice ga' gm gc', .slice wa' wm wc'] 90) := ⟨_, rfl⟩
  have hWs : W.heap.size = w.heap.size + 2 := by rw [hW]; simp
  have hWb : Below w.heap.size w W := by rw [hW]; exact below_alloc2 (Nat.le_refl _) _ _
  have q1 : W.heap[w.heap.size + 1]? = some (.cells #[.slice ga' gm gc', .slice wa' wm wc'] 90 (0, 0)) := by rw [hW]; exact heap_new2 _ _ _
  have q0 : W.heap[w.heap.size]? = some (.cells #[.int .i64 f.last, .slice ga f.growth.length gc, .slice wa f.wet.length wc, .slice ba f.base.length bc, .slice ca f.crops.length cc, .int .i64 f.ripe, .int .i64 f.late, .int .i64 f.trod, .slice la f.looks.length lc] 87 (0, 0)) := by
    rw [hW]; exact (Below.heap_alloc _ _ _ (by simp)).trans (heap_new _ _)
  have hWl : W.heap.size ≤ w.heap.size + 2 ∧ w.heap.size + 2 ≤ W.heap.size := by omega
  have HBOX := hid (fun w1 (hb : Below W.heap.size W w1) => (hb.block w.heap.size (by omega)).trans q0 : ∀ w1, Below W.heap.size W w1 → w1.heap[w.heap.size]? = _)
  have HTR := hid (fun w1 (hb : Below W.heap.size W w1) => (hb.block (w.heap.size + 1) (by omega)).trans q1 : ∀ w1, Below W.heap.size W w1 → w1.heap[w.heap.size + 1]? = _)
  have HFL := hid (fun w1 (hb : Below W.heap.size W w1) => h'.below ((hWb.trans (hb.mono (by omega))).mono hn) : ∀ w1, Below W.heap.size W w1 → FlV (Lt n) w1 _ f)
  have HGI := hid (fun w1 (hb : Below W.heap.size W w1) => hgv.below ((hWb.trans (hb.mono (by omega))).mono hn) : ∀ w1, Below W.heap.size W w1 → Ints (Lt n) w1 _ gl)
  have HWI := hid (fun w1 (hb : Below W.heap.size W w1) => hwv.below ((hWb.trans (hb.mono (by omega))).mono hn) : ∀ w1, Below W.heap.size W w1 → Ints (Lt n) w1 _ wl)
  have z1 : ((gm : Int) != f.last + 1) = false := by rw [bne_eq_false_iff_eq]; omega
  have z2 : ((wm : Int) != f.last + 1) = false := by rw [bne_eq_false_iff_eq]; omega
  have hgw : f.growth.length ≤ 100 ∧ f.wet.length ≤ 100 := by omega
  have hgm2 : gm ≤ 10 ∧ 1 ≤ gm := by omega
  have hwm2 : wm ≤ 10 ∧ 1 ≤ wm := by omega
  have HGM := hid hgm
  have HWM := hid hwm
  have HLR := hid hlr
  have HGD := hid hg
  clear hWs hgm hwm hl1 hl2 hgl1 hwl1 hlr hp1 hp2 hp3 hp4 hp5 h h' h1 h2 hgv hwv q0 q1 hg
  go_enter Try.func99, Try.ntmps99
  go_wp2
  rw [← hW]
  clear hW
  have t0 := cell_of_row (HTR.out W (Below.refl _ _)) 0
  have t1 := cell_of_row (HTR.out W (Below.refl _ _)) 1
  simp only [List.getElem?_toArray, List.getElem?_cons_zero, List.getElem?_cons_succ] at t0 t1
  have hrow := HBOX.out W (Below.refl _ _)
  have j0 := cell_of_row hrow 0
  have j1 := cell_of_row hrow 1
  have j2 := cell_of_row hrow 2
  have j3 := cell_of_row hrow 3
  have j4 := cell_of_row hrow 4
  have j5 := cell_of_row hrow 5
  have j6 := cell_of_row hrow 6
  have j7 := cell_of_row hrow 7
  have j8 := cell_of_row hrow 8
  simp only [List.getElem?_toArray, List.getElem?_cons_zero, List.getElem?_cons_succ] at j0 j1 j2 j3 j4 j5 j6 j7 j8
  clear hrow
  have hgl : w.heap.size < W.heap.size := by omega
  have hgl' : w.heap.size + 1 < W.heap.size := by omega
  obtain ⟨hgc, hgf⟩ := grew_cells W
  refine wp_region_grew (by kernel_rfl) (by kernel_rfl) ?_
  repeat (go_big_quiet_step ((go_at_call 139; exact grew_of (weeksK_any f ⟨g1, g2⟩ _ n _ (HFL.out _ (grew_below W _))))))
  refine wpQuiet_nil ?_
  rintro _ ⟨ex, rfl⟩
  have hbE := grew_below W ex
  generalize World.grew W ex = w3 at *
  have HE := hid hbE
  have hs3 := hbE.size
  clear t0 t1 j0 j1 j2 j3 j4 j5 j6 j7 j8 hgc hgf hgl hgl' z1 z2
  have hrow := HBOX.out w3 hbE
  have j0 := cell_of_row hrow 0
  have j1 := cell_of_row hrow 1
  have j2 := cell_of_row hrow 2
  have j3 := cell_of_row hrow 3
  have j4 := cell_of_row hrow 4
  have j5 := cell_of_row hrow 5
  have j6 := cell_of_row hrow 6
  have j7 := cell_of_row hrow 7
  have j8 := cell_of_row hrow 8
  simp only [List.getElem?_toArray, List.getElem?_cons_zero, List.getElem?_cons_succ] at j0 j1 j2 j3 j4 j5 j6 j7 j8
  clear hrow
  have t0 := cell_of_row (HTR.out w3 hbE) 0
  have t1 := cell_of_row (HTR.out w3 hbE) 1
  simp only [List.getElem?_toArray, List.getElem?_cons_zero, List.getElem?_cons_succ] at t0 t1
  have hgl : w.heap.size < w3.heap.size := by omega
  have hgl' : w.heap.size + 1 < w3.heap.size := by omega
  clear hbE
  go_wp2_with fail
  have hbA := below_alloc1 (Nat.le_refl w3.heap.size) (Obj.cells #[.slice ga' gm gc', .slice wa' wm wc'] 47)
  have hrA := heap_new w3 (Obj.cells #[.slice ga' gm gc', .slice wa' wm wc'] 47)
  have hsA : w3.heap.size < (w3.alloc (Obj.cells #[.slice ga' gm gc', .slice wa' wm wc'] 47)).heap.size := by simp
  have HEA := hid (below_after HE.out hbA (Nat.le_refl _))
  generalize w3.alloc (Obj.cells #[.slice ga' gm gc', .slice wa' wm wc'] 47) = wA at *
  have hLss : Lss (Lt wA.heap.size) wA (.slice (some ⟨w3.heap.size, 0, none⟩) 2 2) [gl, wl] := by
    refine Lss.of (vs := [.slice ga' gm gc', .slice wa' wm wc']) (Sl.of_row (α := Value) (sz := 1) (enc := fun v : Value => [v]) (S := Lt wA.heap.size) (l := [.slice ga' gm gc', .slice wa' wm wc']) hrA hsA rfl (fun _ => rfl) (Nat.le_refl _)) rfl ?_
    intro j x l hx hl
    match j, hx, hl with
    | 0, hx, hl => cases hx; cases hl; exact (HGI.out wA HEA.out).le (by have := HEA.out.size; omega)
    | 1, hx, hl => cases hx; cases hl; exact (HWI.out wA HEA.out).le (by have := HEA.out.size; omega)
    | j + 2, hx, _ => simp at hx
  have hls : lenS [gl, wl] = gm + wm := by simp [lenS, HGM.out, HWM.out]
  refine (ConcatI_any [gl, wl] (by omega) (by omega) (by simp) _ wA.heap.size wA (Nat.le_refl _) hLss).mono ?_
  rintro e w4 ⟨v4, rfl, hown4, hb4⟩
  have HB4 := hid (below_after HEA.out hb4 (Nat.le_refl _))
  have HI4 := hid (show Ints (Lt w4.heap.size) w4 v4 (gl ++ wl) by simpa using hown4.slLt encI_length)
  have hs4 := HB4.out.size
  obtain ⟨pa, pc, hv4, -, ho4⟩ := HI4.out.open1
  obtain ⟨pm, hpm⟩ : ∃ pm, pm = (gl ++ wl).length := ⟨_, rfl⟩
  have hpmr : (rangesF f).length ≤ pm ∧ pm ≤ (rangesF f).length := by rw [hpm, HLR.out, List.length_append]; omega
  have HPM := hid hpm
  rw [← hpm] at hv4
  subst hv4
  have HO4 := hid ho4
  clear hls hLss hbA hrA hsA hown4 hb4 hpm ho4 t0 t1 j0 j1 j2 j3 j4 j5 j6 j7 j8 hgl hgl'
  have hrow := HBOX.out w4 HB4.out
  have j0 := cell_of_row hrow 0
  have j1 := cell_of_row hrow 1
  have j2 := cell_of_row hrow 2
  have j3 := cell_of_row hrow 3
  have j4 := cell_of_row hrow 4
  have j5 := cell_of_row hrow 5
  have j6 := cell_of_row hrow 6
  have j7 := cell_of_row hrow 7
  have j8 := cell_of_row hrow 8
  simp only [List.getElem?_toArray, List.getElem?_cons_zero, List.getElem?_cons_succ] at j0 j1 j2 j3 j4 j5 j6 j7 j8
  clear hrow
  have hgl : w.heap.size < w4.heap.size := by omega
  go_wp2_with fail
  refine (rangesK_any f hgw.1 hgw.2 _ n w4 (by omega) (HFL.out _ HB4.out)).mono ?_
  rintro e w5 ⟨v5, rfl, hown5, hb5⟩
  have HB5 := hid (below_after HB4.out hb5 (Nat.le_refl _))
  have HK5 := hid hb5
  have hs5 := hb5.size
  obtain ⟨ra, rc, hv5, -, ho5⟩ := id (show Rgs _ _ _ _ from hown5.slLt encR_length).open2
  subst hv5
  have HO5 := hid ho5
  have hr40 : (rangesF f).length ≤ 20 := by have := HLR.out; have := HGM.out; have := HWM.out; omega
  clear hown5 hb5 ho5 j0 j1 j2 j3 j4 j5 j6 j7 j8 hgl
  go_wp2_with fail
  go_loopw [31] (fun i wr => ∃ k : Nat, k ≤ (rangesF f).length ∧ i = .int .i64 k ∧ Below w5.heap.size w5 wr) (fun i _ => (rangesF f).length - (intOf i).toNat)
  case atStart => exact ⟨0, by omega, rfl, Below.refl _ _⟩
  case round =>
    obtain ⟨k, hk, rfl, hb⟩ := hrel
    have hbs := hb.size
    by_cases hlt : k < (rangesF f).length
    · rcases HO5.out with hnil | ⟨b1, off1, rfl, hbn1, hc1⟩
      · rw [hnil] at hlt; simp at hlt
      have hkl : k < (gl ++ wl).length := by rw [← HPM.out]; omega
      rcases HO4.out with hnil | ⟨b2, off2, rfl, hbn2, hc2⟩
      · rw [hnil] at hkl; simp at hkl
      have hbl1 : b1 < w5.heap.size := hbn1
      have hbl2 : b2 < w4.heap.size := hbn2
      have z0 := (hb.cell (p := ⟨b1, off1 + k * 2, none⟩) (by show b1 < _; omega)).trans (hc1 k hlt).1
      have z1 := (hb.cell (p := ⟨b1, off1 + k * 2 + 1, none⟩) (by show b1 < _; omega)).trans (hc1 k hlt).2
      have z2 := (hb.cell (p := ⟨b2, off2 + k, none⟩) (by show b2 < _; omega)).trans ((HK5.out.cell (p := ⟨b2, off2 + k, none⟩) (by show b2 < _; omega)).trans (hc2 k hkl))
      have hin := listed_get _ _ HLL.out k hlt hkl
      have hkp : k < pm := by omega
      clear hc1 hc2
      generalize (rangesF f)[k] = r at *
      generalize (gl ++ wl)[k] = x at *
      have hbr1 : b1 < wr.heap.size := by omega
      have hbr2 : b2 < wr.heap.size := by omega
      have HIN := hid hin
      have HB := hid hb
      clear hin hkl hb
      go_wp2
      obtain ⟨wD, hwD⟩ : ∃ w', w' = wr.alloc (Obj.cells #[.int .i64 r.lo, .int .i64 r.hi] 149) := ⟨_, rfl⟩
      rw [← hwD]
      have hDb : Below wr.heap.size wr wD := by rw [hwD]; exact below_alloc1 (Nat.le_refl _) _
      have hDr : wD.heap[wr.heap.size]? = some (.cells #[.int .i64 r.lo, .int .i64 r.hi] 149 (0, 0)) := by rw [hwD]; exact heap_new _ _
      have x0 := cell_of_row hDr 0
      have x1 := cell_of_row hDr 1
      simp only [List.getElem?_toArray, List.getElem?_cons_zero, List.getElem?_cons_succ] at x0 x1
      have x2 := (hDb.cell (p := ⟨b2, off2 + k, none⟩) hbr2).trans z2
      have hDl : wr.heap.size < wD.heap.size := (Array.getElem?_eq_some_iff.1 hDr).1
      have hbD2 : b2 < wD.heap.size := by omega
      clear hwD hDr z0 z1 z2
      obtain ⟨hgc, hgf⟩ := grew_cells wD
      refine wp_region_grew (by kernel_rfl) (by kernel_rfl) ?_
      repeat (go_big_quiet_step ((go_at_call 150; exact grew_of (hasK_yes HIN.out _))))
      refine wpQuiet_nil ?_
      rintro _ ⟨ex, rfl⟩
      have hbE := below_after (below_after HB.out hDb (Nat.le_refl _)) (grew_below wD ex) (Nat.le_refl _)
      have HBE := hid hbE
      generalize World.grew wD ex = wX at *
      clear hbE hgc hgf x0 x1 x2
      go_wp2
      go_roundw
      case rel => exact ⟨k + 1, by omega, by go_num, HBE.out⟩
      case measure => simp [intOf]; omega
    · go_wp2
      go_ret
      exact ⟨rfl, hWb.trans ((below_after HB5.out hb (Nat.le_refl _)).mono (by omega))⟩
end Go.Proofs.Ytjddcaimjofihaa
