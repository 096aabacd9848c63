/- The walk of the law CaskBlended; no condition. -/
import Derived.Test.YtjddcaimjofihaaXG
import Derived.Test.YtjddcaimjofihaaT7
import Derived.Test.YtjddcaimjofihaaC2
import Derived.Test.YtjddcaimjofihaaU2
import Derived.Test.YtjddcaimjofihaaRH
import Derived.Test.YtjddcaimjofihaaU4
import Derived.Deep.Cut
import Derived.Deep.CutRange
namespace Go.Proofs.Ytjddcaimjofihaa
open Go.RowKit Go.Shelf
set_option maxRecDepth 100000

/-- One cell of a list in memory is set. -/
theorem ints_put {S : Nat → Prop} {w : World} {b cap : Nat} {l : List Int} (h : Ints S w (.slice (some ⟨b, 0, none⟩) l.length cap) l) (k : Nat) (hk : k < l.length) (x : Int) : Ints S (w.setCell ⟨b, k, none⟩ (.int .i64 x)) (.slice (some ⟨b, 0, none⟩) l.length cap) (l.set k x) := by
  have hcell : w.cell? ⟨b, k, none⟩ = some (.int .i64 l[k]) := by
    obtain ⟨_, _, he, -, hor⟩ := h.open1
    injection he with he
    rcases hor with h0 | ⟨b', off, e, -, hcc⟩
    · subst h0; simp at hk
    · rw [e] at he
      injection he with he
      injection he with e1 e2
      subst e1; subst e2
      simpa using hcc k hk
  refine Sl.put (sz := 1) (enc := fun n : Int => [Value.int .i64 n]) h (fun _ => rfl) k hk x (fun i c hc => ?_) (fun j _ hne i hi => ?_)
  · match i, hc with
    | 0, hc =>
      simp only [List.getElem?_cons_zero, Option.some.injEq] at hc
      subst hc
      simpa using World.cell?_setCell_same _ _ _ hcell
    | i + 1, hc => simp at hc
  · exact World.cell?_setCell_other _ _ _ _ (by intro e; injection e with _ e; omega)
def GradedN (c : Ce) (k g p : Int) : Prop := ∀ (vc : Value) (n : Nat) (w : World), n ≤ w.heap.size → CeV (Lt n) w vc c → Calls Try.prog 23 #[vc, .int .i64 k, .int .i64 g] w (RetTwo p 0 w)
/-- What the walk calls for behind the best blend. -/
structure BlendedIs (c : Ce) (st : List Int) (wt g : Int) (x : List Int) : Prop where
  isb : true = isBlendR (truthsR c) st wt g x
  prove : Pb2 c st wt g x true
  first : ∀ y, isBlendR (truthsR c) st wt g y = true → beforeB y x = false
  len : x.length = c.heaps.length
  more : ∀ (k : Nat) (v : Int), (∀ z, st[k]? = some z → z ≤ v) → v ≤ 30 → ∃ u, Bl2 c (st.set k v) wt g u 0 ∧ beforeB x u = false ∧ u.length ≤ 3
  less : ∀ h, 0 ≤ h → h ≤ g → ∃ u, Bl2 c st wt h u 0 ∧ beforeB x u = false ∧ u.length ≤ 3
  cask : (blendC c x).trials.length = c.trials.length → GradedN (blendC c x) 0 g 1
theorem blended_is {c : Ce} {st : List Int} {wt g : Int} (F : BlFit c st wt g) {x : List Int} (hb : Best (fun ws => isBlendR (truthsR c) st wt g ws = true) x) (hl : x.length = c.heaps.length) : BlendedIs c st wt g x := by
  have hs3 := F.short
  have hlen := F.len
  refine ⟨hb.good.symm, ?_, fun y hy => hb.first y hy, hl, fun k v hv h30 => ?_, fun h h0 h1 => ?_, fun ht => ?_⟩
  · have := F.prove (ws := x) (by omega)
    rwa [hb.good] at this
  · have F' : BlFit c (st.set k v) wt g := ⟨F.fault, F.small, F.truth, by rw [List.length_set]; exact F.len, fun y hy => by
      rcases mem_set_or _ _ _ _ hy with h | h
      · exact F.st y h
      · subst h
        by_cases hk : k < st.length
        · have := hv st[k] (List.getElem?_eq_getElem hk)
          have := F.st st[k] (List.getElem_mem hk)
          omega
        · rw [List.set_eq_of_length_le (by omega)] at hy
          exact F.st _ hy, F.wt, F.g⟩
    obtain ⟨r, h1, h2, h3⟩ := F'.blend
    have hx' : isBlendR (truthsR c) (st.set k v) wt g x = true := blend_stock (by rw [List.length_set]) (set_more st k v hv) (Int.le_refl _) hb.good
    cases r with
    | none => have := h3 rfl x; rw [hx'] at this; cases this
    | some u =>
      obtain ⟨b1, b2⟩ := h2 u rfl
      exact ⟨u, h1, b1.first x hx', by omega⟩
  · have F' : BlFit c st wt h := ⟨F.fault, F.small, F.truth, F.len, F.st, F.wt, by have := F.g; omega⟩
    obtain ⟨r, e1, e2, e3⟩ := F'.blend
    have hx' : isBlendR (truthsR c) st wt h x = true := blend_stock rfl (fun i a b ha hb => by rw [ha] at hb; simp only [Option.some.injEq] at hb; omega) h1 hb.good
    cases r with
    | none => have := e3 rfl x; rw [hx'] at this; cases this
    | some u =>
      obtain ⟨b1, b2⟩ := e2 u rfl
      exact ⟨u, e1, b1.first x hx', by omega⟩
  · have hall := blendC_all ht
    obtain ⟨f1, f2, f3⟩ := blendC_graded F.fault F.truth F.len F.st F.wt.1 hb.good hall
    have hsm : Small (blendC c x) := ⟨F.small.heaps, by simp [blendC], by rw [ht]; exact F.small.trials, fun l hl' => by
      have hmem : l ∈ [x] := hl'
      simp only [List.mem_singleton] at hmem
      subst hmem; omega⟩
    intro vc n w hn h
    have := graded_some f1 f2 (k := 0) (g := g) ⟨Int.le_refl _, by simp [blendC]⟩ F.g hsm vc n w hn h
    rwa [f3] at this
/-- The trials of heaps among the first k. -/
def heapT (ts : List Tl) (k : Nat) : List Tl := (ts.take k).filter fun t => !t.cask
theorem heapT_succ (ts : List Tl) (k : Nat) (h : k < ts.length) : heapT ts (k + 1) = heapT ts k ++ if ts[k].cask then [] else [ts[k]] := by
  unfold heapT
  rw [List.take_succ_eq_append_getElem h, List.filter_append]
  congr 1
  cases e : ts[k].cask <;> simp [e]
theorem heapT_length (ts : List Tl) (k : Nat) : (heapT ts k).length ≤ k := by
  have h1 := List.length_filter_le (fun t : Tl => !t.cask) (ts.take k)
  have h2 := List.length_take_le k ts
  unfold heapT; omega

set_option maxHeartbeats 16000000 in
theorem CaskBlended_walk (c : Ce) (v : Value) {w : World} (h : CeV (Lt w.heap.size) w v c) (s0 s1 s2 : Int) (ps0 : 0 ≤ s0 ∧ s0 ≤ 255) (ps1 : 0 ≤ s1 ∧ s1 ≤ 255) (ps2 : 0 ≤ s2 ∧ s2 ≤ 255) (wt : Int) (hwt : 0 ≤ wt ∧ wt ≤ 255) (gr : Int) (hgr : 0 ≤ gr ∧ gr ≤ 255)
    (o0 o1 o2 : Int) (po0 : 0 ≤ o0 ∧ o0 ≤ 255) (po1 : 0 ≤ o1 ∧ o1 ≤ 255) (po2 : 0 ≤ o2 ∧ o2 ≤ 255) (by0 : Int) (hby : 0 ≤ by0 ∧ by0 ≤ 255) :
    Calls Try.prog 16 #[v, .agg #[.int .u8 s0, .int .u8 s1, .int .u8 s2], .int .u8 wt, .int .u8 gr, .agg #[.int .u8 o0, .int .u8 o1, .int .u8 o2], .int .u8 by0] w (RetT w) := by
  have h' := h
  obtain ⟨ha, hc, ka, kc, ta, tc, rfl, hp1, hp2, hp3⟩ := h.open
  have HP3 := hid hp3
  have HP1 := hid hp1
  obtain ⟨W, hW⟩ : ∃ W, W = ((w.alloc (Obj.cells #[.slice ha c.heaps.length hc, .slice ka c.casks.length kc, .slice ta c.trials.length tc] 26)).alloc (Obj.cells #[.int .u8 s0, .int .u8 s1, .int .u8 s2] 112)).alloc (Obj.cells #[.int .u8 o0, .int .u8 o1, .int .u8 o2] 112) := ⟨_, rfl⟩
  have hWs : W.heap.size = w.heap.size + 1 + 1 + 1 := by rw [hW]; simp
  have hWb : Below w.heap.size w W := by rw [hW]; exact below_alloc3 (Nat.le_refl _) _ _ _
  have hWr : W.heap[w.heap.size]? = some (.cells #[.slice ha c.heaps.length hc, .slice ka c.casks.length kc, .slice ta c.trials.length tc] 26 (0, 0)) := by rw [hW, Below.heap_alloc _ _ _ (by simp; omega), Below.heap_alloc _ _ _ (by simp)]; exact heap_new _ _
  have hWt : W.heap[w.heap.size + 1]? = some (.cells #[.int .u8 s0, .int .u8 s1, .int .u8 s2] 112 (0, 0)) := by rw [hW, Below.heap_alloc _ _ _ (by simp)]; exact heap_new2 _ _ _
  have hWz : W.heap[w.heap.size + 1 + 1]? = some (.cells #[.int .u8 o0, .int .u8 o1, .int .u8 o2] 112 (0, 0)) := by rw [hW]; exact heap_at (by simp) _
  have HBOX := hid (fun w1 (hb : Below W.heap.size W w1) => (hb.block w.heap.size (by omega)).trans hWr : ∀ w1, Below W.heap.size W w1 → w1.heap[w.heap.size]? = _)
  have HBT := hid (fun w1 (hb : Below W.heap.size W w1) => (hb.block (w.heap.size + 1) (by omega)).trans hWt : ∀ w1, Below W.heap.size W w1 → w1.heap[w.heap.size + 1]? = _)
  have HBZ := hid (fun w1 (hb : Below W.heap.size W w1) => (hb.block (w.heap.size + 1 + 1) (by omega)).trans hWz : ∀ w1, Below W.heap.size W w1 → w1.heap[w.heap.size + 1 + 1]? = _)
  have HCE := hid (fun w1 (hb : Below W.heap.size W w1) => h'.below (hWb.trans (hb.mono (by omega))) : ∀ w1, Below W.heap.size W w1 → CeV (Lt w.heap.size) w1 _ c)
  clear hWr hWt hWz h' h hp1 hp2 hp3
  obtain ⟨rb, hrb⟩ : ∃ rb, rb = readyB c := ⟨_, rfl⟩
  have HRB := hid hrb
  clear hrb
  cases rb with
  | false =>
    go_enter Try.func16, Try.ntmps16
    go_wp2_with fail
    rw [← hW]
    clear hW
    refine (ready_hid c HRB _ w.heap.size W (by omega) (HCE.out W (Below.refl _ _))).mono ?_
    rintro e w1 ⟨rfl, hb1⟩
    have HB1 := hid hb1
    have hs1 := hb1.size
    clear hb1
    go_wp2_with (go_at_call 20; refine (awake_any _).mono ?_; rintro e wz ⟨rfl, hbz⟩)
    go_ret
    exact ⟨rfl, hWb.trans ((below_after HB1.out hbz (Nat.le_refl _)).mono (by omega))⟩
  | true =>
    have hf := ready_fault HRB.out.symm
    have hsm := thin_small (ready_thin HRB.out.symm)
    have hgood := (fault_good hf).1
    obtain ⟨⟨g1, g2, g3, g4⟩, -⟩ := hgood.facts
    have HF := hid hf
    have HSM := hid hsm
    have HGD := hid hgood
    have hG : 0 ≤ gr % 101 ∧ gr % 101 ≤ 100 := by omega
    have hW9 : 1 ≤ wt % 90 + 1 ∧ wt % 90 + 1 ≤ 90 := by omega
    have hww : IntKind.i64.wrap wt = wt := IntWalk.i64_in _ (by omega)
    have hwg : IntKind.i64.wrap gr = gr := IntWalk.i64_in _ (by omega)
    have hwb : IntKind.i64.wrap by0 = by0 := IntWalk.i64_in _ (by omega)
    have hsl : (stockL [s0, s1, s2] c.heaps.length).length = c.heaps.length := stockL_length _ _ (by simp; omega)
    have hsb := stockL_bd [s0, s1, s2] c.heaps.length
    have hyl : (stockL [o0, o1, o2] c.heaps.length).length = c.heaps.length := stockL_length _ _ (by simp; omega)
    obtain ⟨st, hst⟩ : ∃ st, st = stockL [s0, s1, s2] c.heaps.length := ⟨_, rfl⟩
    obtain ⟨y, hy⟩ : ∃ y, y = stockL [o0, o1, o2] c.heaps.length := ⟨_, rfl⟩
    rw [← hst] at hsl hsb
    rw [← hy] at hyl
    have HST := hid hst
    have HY := hid hy
    have HSB := hid hsb
    have HSL := hid hsl
    have hst3 : st.length ≤ 3 := by omega
    have hst1 : 1 ≤ st.length := by omega
    have hy3 : y.length ≤ 3 := by omega
    clear hst hy hsb hsl hyl
    by_cases hT : truthsOf c [] = []
    · have HTR := hid ((truthsR_nil hf).2 hT)
      have hok : blendOk c st (wt % 90 + 1) (gr % 101) = true := by
        simp only [blendOk, weightsB, Bool.and_eq_true, beq_iff_eq, List.all_eq_true, isW, within_iff]
        exact ⟨⟨⟨HSL.out, HSB.out⟩, hW9⟩, hG⟩
      have hae : askErr c (blendOk c st (wt % 90 + 1) (gr % 101)) = 11 := by rw [hok]; unfold askErr; simp [hf, hT]
      have HBK := hid (show Bl2 c st (wt % 90 + 1) (gr % 101) [] 11 from fun vc vs n w hn hc hs => by have := Blend_err c vc st vs _ _ n w hn hc hsm hs (by omega) (by rw [hae]; decide); rwa [hae] at this)
      clear hf hsm hgood hT hok hae
      go_enter Try.func16, Try.ntmps16
      go_wp2_with fail
      rw [← hW]
      clear hW
      refine (ready_hid c HRB _ w.heap.size W (by omega) (HCE.out W (Below.refl _ _))).mono ?_
      rintro e w1 ⟨rfl, hb1⟩
      have HB1 := hid hb1
      have hs1 := hb1.size
      clear hb1
      have z0 := cell_of_row (HBT.out w1 HB1.out) 0
      have z1 := cell_of_row (HBT.out w1 HB1.out) 1
      have z2 := cell_of_row (HBT.out w1 HB1.out) 2
      simp only [List.getElem?_toArray, List.getElem?_cons_zero, List.getElem?_cons_succ] at z0 z1 z2
      have j0 := cell_of_row (HBOX.out w1 HB1.out) 0
      have j1 := cell_of_row (HBOX.out w1 HB1.out) 1
      have j2 := cell_of_row (HBOX.out w1 HB1.out) 2
      simp only [List.getElem?_toArray, List.getElem?_cons_zero, List.getElem?_cons_succ] at j0 j1 j2
      go_wp2_with fail
      refine (stocked_any c g2 s0 s1 s2 ps0 ps1 ps2 _ w.heap.size w1 (by omega) (HCE.out w1 HB1.out)).mono ?_
      rintro e w2 ⟨v2, rfl, ho2, hb2⟩
      have HB2 := hid (below_after HB1.out hb2 (Nat.le_refl _))
      have hs2 := HB2.out.size
      have hd2 := hb2.size
      clear hb2 j0 j1 j2
      clear z0 z1 z2
      rw [← HST.out] at ho2
      have hi2 : Ints (Lt w2.heap.size) w2 v2 st := ho2.slLt encI_length
      obtain ⟨_, _, rfl, -, -⟩ := id hi2.open1
      have HI2 := hid hi2
      have HL2 := hid (Below.refl w2.heap.size w2)
      clear ho2 hi2
      have j0 := cell_of_row (HBOX.out w2 HB2.out) 0
      have j1 := cell_of_row (HBOX.out w2 HB2.out) 1
      have j2 := cell_of_row (HBOX.out w2 HB2.out) 2
      simp only [List.getElem?_toArray, List.getElem?_cons_zero, List.getElem?_cons_succ] at j0 j1 j2
      go_wp2_with fail
      refine (CellarL_any c _ w.heap.size w2 (by omega) (HCE.out w2 HB2.out) HSM.out).mono ?_
      rintro e w3 ⟨v3, rfl, hc3, hb3⟩
      have HB3 := hid (below_after HB2.out hb3 (Nat.le_refl _))
      have hs3 := HB3.out.size
      have hd3 := hb3.size
      have HL3 := hid (below_after HL2.out hb3 (Nat.le_refl _))
      have zHL3 := HL3.out.size
      clear hb3 j0 j1 j2
      obtain ⟨_, _, _, _, _, _, rfl, -⟩ := id hc3.open
      go_wp2_with fail
      refine (list_any st _ w2.heap.size w3 (by omega) (HI2.out.below HL3.out) (by omega)).mono ?_
      rintro e w4 ⟨v4, rfl, ho4, hb4⟩
      have HB4 := hid (below_after HB3.out hb4 (Nat.le_refl _))
      have hs4 := HB4.out.size
      have hd4 := hb4.size
      have HL4 := hid (below_after HL3.out hb4 (Nat.le_refl _))
      have zHL4 := HL4.out.size
      have HI_4 := hid hb4
      clear hb4
      have hi4 : Ints (Lt w4.heap.size) w4 v4 st := ho4.slLt encI_length
      obtain ⟨_, _, rfl, -, -⟩ := id hi4.open1
      have hc4 := (hc3.below HI_4.out).le hd4
      clear ho4 hc3
      go_wp2_with fail
      refine (HBK.out _ _ _ w4 (Nat.le_refl _) hc4 hi4).mono ?_
      rintro e w5 ⟨v5, rfl, hi5, hb5⟩
      have HB5 := hid (below_after HB4.out hb5 (Nat.le_refl _))
      have hs5 := HB5.out.size
      have hd5 := hb5.size
      have HL5 := hid (below_after HL4.out hb5 (Nat.le_refl _))
      have zHL5 := HL5.out.size
      clear hb5
      clear hc4 hi4
      obtain ⟨_, _, rfl, -, -⟩ := id hi5.open1
      have HI5 := hid hi5
      have HM5 := hid (Below.refl w5.heap.size w5)
      clear hi5
      have j0 := cell_of_row (HBOX.out w5 HB5.out) 0
      have j1 := cell_of_row (HBOX.out w5 HB5.out) 1
      have j2 := cell_of_row (HBOX.out w5 HB5.out) 2
      simp only [List.getElem?_toArray, List.getElem?_cons_zero, List.getElem?_cons_succ] at j0 j1 j2
      go_wp2_with fail
      refine (truthsR_any c HF.out _ w.heap.size w5 (by omega) (HCE.out w5 HB5.out)).mono ?_
      rintro e w6 ⟨v6, rfl, ho6, hb6⟩
      have HB6 := hid (below_after HB5.out hb6 (Nat.le_refl _))
      have hs6 := HB6.out.size
      have hd6 := hb6.size
      have HL6 := hid (below_after HL5.out hb6 (Nat.le_refl _))
      have zHL6 := HL6.out.size
      have HM6 := hid (below_after HM5.out hb6 (Nat.le_refl _))
      have zHM6 := HM6.out.size
      clear hb6 j0 j1 j2
      rw [HTR.out] at ho6
      obtain ⟨_, _, rfl⟩ := ho6.open
      go_wp2_with (go_at_call 20; refine (awake_any _).mono ?_; rintro e wz ⟨rfl, hbz⟩)
      go_ret
      exact ⟨rfl, hWb.trans ((below_after HB6.out hbz (Nat.le_refl _)).mono (by omega))⟩
    · have F : BlFit c st (wt % 90 + 1) (gr % 101) := ⟨hf, hsm, hT, HSL.out, HSB.out, hW9, hG⟩
      have hTR : truthsR c ≠ [] := fun h => hT ((truthsR_nil hf).1 h)
      obtain ⟨r, hb1, hb2, hb3⟩ := F.blend
      obtain ⟨ib, hib⟩ : ∃ ib, ib = isBlendR (truthsR c) st (wt % 90 + 1) (gr % 101) y := ⟨_, rfl⟩
      have hpy := F.prove (ws := y) (by omega)
      rw [← hib] at hpy
      have HPY := hid hpy
      have HIB := hid hib
      have hfit := fun (l : List Int) (hl : l ∈ truthsR c) => fit_listed hgood (mem_truthsOf.1 ((mem_truthsR hf).1 hl)).1
      have htm : (truthsR c).length ≤ 100000 := by
        have h1 := truthsN_length c (manyR c).toNat
        have h2 : truthsR c = truthsN c (manyR c).toNat := rfl
        have h3 := (manyR_eq hf).2.1
        rw [h2]; omega
      have HBI := hid (fun t ht => blended_is F (hb2 t ht).1 (hb2 t ht).2 : ∀ t, r = some t → BlendedIs c st (wt % 90 + 1) (gr % 101) t)
      have HNO := hid hb3
      have HBB := hid hb1
      obtain ⟨T, hTT⟩ : ∃ T, T = truthsR c := ⟨_, rfl⟩
      rw [← hTT] at hTR hfit htm
      have HTT := hid hTT
      have HFIT := hid hfit
      have hTn : T.length ≠ 0 := fun h => hTR (List.length_eq_zero_iff.1 h)
      have hTp' : ((T.length : Int) == 0) = false := by rw [beq_eq_false_iff_ne]; omega
      clear hf hsm hgood hT F hTR hb1 hb2 hb3 hib hpy hfit hTT
      cases r with
      | none =>
        have HBK := hid (show Bl2 c st (wt % 90 + 1) (gr % 101) [] 10 from HBB.out)
        obtain rfl : ib = false := by rw [HIB.out]; exact HNO.out rfl y
        go_enter Try.func16, Try.ntmps16
        go_wp2_with fail
        rw [← hW]
        clear hW
        refine (ready_hid c HRB _ w.heap.size W (by omega) (HCE.out W (Below.refl _ _))).mono ?_
        rintro e w1 ⟨rfl, hb1⟩
        have HB1 := hid hb1
        have hs1 := hb1.size
        clear hb1
        have z0 := cell_of_row (HBT.out w1 HB1.out) 0
        have z1 := cell_of_row (HBT.out w1 HB1.out) 1
        have z2 := cell_of_row (HBT.out w1 HB1.out) 2
        simp only [List.getElem?_toArray, List.getElem?_cons_zero, List.getElem?_cons_succ] at z0 z1 z2
        have j0 := cell_of_row (HBOX.out w1 HB1.out) 0
        have j1 := cell_of_row (HBOX.out w1 HB1.out) 1
        have j2 := cell_of_row (HBOX.out w1 HB1.out) 2
        simp only [List.getElem?_toArray, List.getElem?_cons_zero, List.getElem?_cons_succ] at j0 j1 j2
        go_wp2_with fail
        refine (stocked_any c g2 s0 s1 s2 ps0 ps1 ps2 _ w.heap.size w1 (by omega) (HCE.out w1 HB1.out)).mono ?_
        rintro e w2 ⟨v2, rfl, ho2, hb2⟩
        have HB2 := hid (below_after HB1.out hb2 (Nat.le_refl _))
        have hs2 := HB2.out.size
        have hd2 := hb2.size
        clear hb2 j0 j1 j2
        clear z0 z1 z2
        rw [← HST.out] at ho2
        have hi2 : Ints (Lt w2.heap.size) w2 v2 st := ho2.slLt encI_length
        obtain ⟨_, _, rfl, -, -⟩ := id hi2.open1
        have HI2 := hid hi2
        have HL2 := hid (Below.refl w2.heap.size w2)
        clear ho2 hi2
        have j0 := cell_of_row (HBOX.out w2 HB2.out) 0
        have j1 := cell_of_row (HBOX.out w2 HB2.out) 1
        have j2 := cell_of_row (HBOX.out w2 HB2.out) 2
        simp only [List.getElem?_toArray, List.getElem?_cons_zero, List.getElem?_cons_succ] at j0 j1 j2
        go_wp2_with fail
        refine (CellarL_any c _ w.heap.size w2 (by omega) (HCE.out w2 HB2.out) HSM.out).mono ?_
        rintro e w3 ⟨v3, rfl, hc3, hb3⟩
        have HB3 := hid (below_after HB2.out hb3 (Nat.le_refl _))
        have hs3 := HB3.out.size
        have hd3 := hb3.size
        have HL3 := hid (below_after HL2.out hb3 (Nat.le_refl _))
        have zHL3 := HL3.out.size
        clear hb3 j0 j1 j2
        obtain ⟨_, _, _, _, _, _, rfl, -⟩ := id hc3.open
        go_wp2_with fail
        refine (list_any st _ w2.heap.size w3 (by omega) (HI2.out.below HL3.out) (by omega)).mono ?_
        rintro e w4 ⟨v4, rfl, ho4, hb4⟩
        have HB4 := hid (below_after HB3.out hb4 (Nat.le_refl _))
        have hs4 := HB4.out.size
        have hd4 := hb4.size
        have HL4 := hid (below_after HL3.out hb4 (Nat.le_refl _))
        have zHL4 := HL4.out.size
        have HI_4 := hid hb4
        clear hb4
        have hi4 : Ints (Lt w4.heap.size) w4 v4 st := ho4.slLt encI_length
        obtain ⟨_, _, rfl, -, -⟩ := id hi4.open1
        have hc4 := (hc3.below HI_4.out).le hd4
        clear ho4 hc3
        go_wp2_with fail
        refine (HBK.out _ _ _ w4 (Nat.le_refl _) hc4 hi4).mono ?_
        rintro e w5 ⟨v5, rfl, hi5, hb5⟩
        have HB5 := hid (below_after HB4.out hb5 (Nat.le_refl _))
        have hs5 := HB5.out.size
        have hd5 := hb5.size
        have HL5 := hid (below_after HL4.out hb5 (Nat.le_refl _))
        have zHL5 := HL5.out.size
        clear hb5
        clear hc4 hi4
        obtain ⟨_, _, rfl, -, -⟩ := id hi5.open1
        have HI5 := hid hi5
        have HM5 := hid (Below.refl w5.heap.size w5)
        clear hi5
        have j0 := cell_of_row (HBOX.out w5 HB5.out) 0
        have j1 := cell_of_row (HBOX.out w5 HB5.out) 1
        have j2 := cell_of_row (HBOX.out w5 HB5.out) 2
        simp only [List.getElem?_toArray, List.getElem?_cons_zero, List.getElem?_cons_succ] at j0 j1 j2
        go_wp2_with fail
        refine (truthsR_any c HF.out _ w.heap.size w5 (by omega) (HCE.out w5 HB5.out)).mono ?_
        rintro e w6 ⟨v6, rfl, ho6, hb6⟩
        have HB6 := hid (below_after HB5.out hb6 (Nat.le_refl _))
        have hs6 := HB6.out.size
        have hd6 := hb6.size
        have HL6 := hid (below_after HL5.out hb6 (Nat.le_refl _))
        have zHL6 := HL6.out.size
        have HM6 := hid (below_after HM5.out hb6 (Nat.le_refl _))
        have zHM6 := HM6.out.size
        clear hb6 j0 j1 j2
        rw [← HTT.out] at ho6
        have hl6 := ho6.lss
        obtain ⟨_, _, rfl, -, -⟩ := id hl6.open
        have HL6' := hid (hl6.mono (S' := Lt w6.heap.size) fun b hb => hb.2)
        have HN6 := hid (Below.refl w6.heap.size w6)
        clear ho6 hl6
        have z0 := cell_of_row (HBZ.out w6 HB6.out) 0
        have z1 := cell_of_row (HBZ.out w6 HB6.out) 1
        have z2 := cell_of_row (HBZ.out w6 HB6.out) 2
        simp only [List.getElem?_toArray, List.getElem?_cons_zero, List.getElem?_cons_succ] at z0 z1 z2
        have j0 := cell_of_row (HBOX.out w6 HB6.out) 0
        have j1 := cell_of_row (HBOX.out w6 HB6.out) 1
        have j2 := cell_of_row (HBOX.out w6 HB6.out) 2
        simp only [List.getElem?_toArray, List.getElem?_cons_zero, List.getElem?_cons_succ] at j0 j1 j2
        go_wp2_with fail
        refine (stocked_any c g2 o0 o1 o2 po0 po1 po2 _ w.heap.size w6 (by omega) (HCE.out w6 HB6.out)).mono ?_
        rintro e w7 ⟨v7, rfl, ho7, hb7⟩
        have HB7 := hid (below_after HB6.out hb7 (Nat.le_refl _))
        have hs7 := HB7.out.size
        have hd7 := hb7.size
        have HL7 := hid (below_after HL6.out hb7 (Nat.le_refl _))
        have zHL7 := HL7.out.size
        have HM7 := hid (below_after HM6.out hb7 (Nat.le_refl _))
        have zHM7 := HM7.out.size
        have HN7 := hid (below_after HN6.out hb7 (Nat.le_refl _))
        have zHN7 := HN7.out.size
        clear hb7 j0 j1 j2
        clear z0 z1 z2
        rw [← HY.out] at ho7
        have hi7 : Ints (Lt w7.heap.size) w7 v7 y := ho7.slLt encI_length
        obtain ⟨_, _, rfl, -, -⟩ := id hi7.open1
        have HI7 := hid hi7
        have HQ7 := hid (Below.refl w7.heap.size w7)
        clear ho7 hi7
        have j0 := cell_of_row (HBOX.out w7 HB7.out) 0
        have j1 := cell_of_row (HBOX.out w7 HB7.out) 1
        have j2 := cell_of_row (HBOX.out w7 HB7.out) 2
        simp only [List.getElem?_toArray, List.getElem?_cons_zero, List.getElem?_cons_succ] at j0 j1 j2
        go_wp2_with fail
        refine (CellarL_any c _ w.heap.size w7 (by omega) (HCE.out w7 HB7.out) HSM.out).mono ?_
        rintro e w8 ⟨v8, rfl, hc8, hb8⟩
        have HB8 := hid (below_after HB7.out hb8 (Nat.le_refl _))
        have hs8 := HB8.out.size
        have hd8 := hb8.size
        have HL8 := hid (below_after HL7.out hb8 (Nat.le_refl _))
        have zHL8 := HL8.out.size
        have HM8 := hid (below_after HM7.out hb8 (Nat.le_refl _))
        have zHM8 := HM8.out.size
        have HN8 := hid (below_after HN7.out hb8 (Nat.le_refl _))
        have zHN8 := HN8.out.size
        have HQ8 := hid (below_after HQ7.out hb8 (Nat.le_refl _))
        have zHQ8 := HQ8.out.size
        clear hb8 j0 j1 j2
        obtain ⟨_, _, _, _, _, _, rfl, -⟩ := id hc8.open
        go_wp2_with fail
        refine (list_any st _ w2.heap.size w8 (by omega) (HI2.out.below HL8.out) (by omega)).mono ?_
        rintro e w9 ⟨v9, rfl, ho9, hb9⟩
        have HB9 := hid (below_after HB8.out hb9 (Nat.le_refl _))
        have hs9 := HB9.out.size
        have hd9 := hb9.size
        have HL9 := hid (below_after HL8.out hb9 (Nat.le_refl _))
        have zHL9 := HL9.out.size
        have HM9 := hid (below_after HM8.out hb9 (Nat.le_refl _))
        have zHM9 := HM9.out.size
        have HN9 := hid (below_after HN8.out hb9 (Nat.le_refl _))
        have zHN9 := HN9.out.size
        have HQ9 := hid (below_after HQ8.out hb9 (Nat.le_refl _))
        have zHQ9 := HQ9.out.size
        have HI_9 := hid hb9
        clear hb9
        have hi9 : Ints (Lt w9.heap.size) w9 v9 st := ho9.slLt encI_length
        obtain ⟨_, _, rfl, -, -⟩ := id hi9.open1
        have hc9 := (hc8.below HI_9.out).le hd9
        clear ho9 hc8
        go_wp2_with fail
        refine (list_any y _ w7.heap.size w9 (by omega) (HI7.out.below HQ9.out) (by omega)).mono ?_
        rintro e w10 ⟨v10, rfl, ho10, hb10⟩
        have HB10 := hid (below_after HB9.out hb10 (Nat.le_refl _))
        have hs10 := HB10.out.size
        have hd10 := hb10.size
        have HL10 := hid (below_after HL9.out hb10 (Nat.le_refl _))
        have zHL10 := HL10.out.size
        have HM10 := hid (below_after HM9.out hb10 (Nat.le_refl _))
        have zHM10 := HM10.out.size
        have HN10 := hid (below_after HN9.out hb10 (Nat.le_refl _))
        have zHN10 := HN10.out.size
        have HQ10 := hid (below_after HQ9.out hb10 (Nat.le_refl _))
        have zHQ10 := HQ10.out.size
        have HI_10 := hid hb10
        clear hb10
        have hi10 : Ints (Lt w10.heap.size) w10 v10 y := ho10.slLt encI_length
        obtain ⟨_, _, rfl, -, -⟩ := id hi10.open1
        have hc10 := (hc9.below HI_10.out).le hd10
        have hi9' := (hi9.below HI_10.out).le hd10
        clear ho10 hc9 hi9
        go_wp2_with fail
        refine (HPY.out _ _ _ _ w10 (Nat.le_refl _) hc10 hi9' hi10).mono ?_
        rintro e w11 ⟨rfl, hb11⟩
        have HB11 := hid (below_after HB10.out hb11 (Nat.le_refl _))
        have hs11 := HB11.out.size
        have hd11 := hb11.size
        have HL11 := hid (below_after HL10.out hb11 (Nat.le_refl _))
        have zHL11 := HL11.out.size
        have HM11 := hid (below_after HM10.out hb11 (Nat.le_refl _))
        have zHM11 := HM11.out.size
        have HN11 := hid (below_after HN10.out hb11 (Nat.le_refl _))
        have zHN11 := HN11.out.size
        have HQ11 := hid (below_after HQ10.out hb11 (Nat.le_refl _))
        have zHQ11 := HQ11.out.size
        clear hb11
        clear hc10 hi9' hi10
        go_wp2_with (go_at_call 20; refine (awake_any _).mono ?_; rintro e wz ⟨rfl, hbz⟩)
        go_ret
        exact ⟨rfl, hWb.trans ((below_after HB11.out hbz (Nat.le_refl _)).mono (by omega))⟩
      | some x =>
        have HBK := hid (show Bl2 c st (wt % 90 + 1) (gr % 101) x 0 from HBB.out)
        have HBD := hid (HBI.out x rfl)
        have hx3 : x.length ≤ 3 := by have := HBD.out.len; omega
        clear HBI HBB HNO
        go_enter Try.func16, Try.ntmps16
        go_wp2_with fail
        rw [← hW]
        clear hW
        refine (ready_hid c HRB _ w.heap.size W (by omega) (HCE.out W (Below.refl _ _))).mono ?_
        rintro e w1 ⟨rfl, hb1⟩
        have HB1 := hid hb1
        have hs1 := hb1.size
        clear hb1
        have z0 := cell_of_row (HBT.out w1 HB1.out) 0
        have z1 := cell_of_row (HBT.out w1 HB1.out) 1
        have z2 := cell_of_row (HBT.out w1 HB1.out) 2
        simp only [List.getElem?_toArray, List.getElem?_cons_zero, List.getElem?_cons_succ] at z0 z1 z2
        have j0 := cell_of_row (HBOX.out w1 HB1.out) 0
        have j1 := cell_of_row (HBOX.out w1 HB1.out) 1
        have j2 := cell_of_row (HBOX.out w1 HB1.out) 2
        simp only [List.getElem?_toArray, List.getElem?_cons_zero, List.getElem?_cons_succ] at j0 j1 j2
        go_wp2_with fail
        refine (stocked_any c g2 s0 s1 s2 ps0 ps1 ps2 _ w.heap.size w1 (by omega) (HCE.out w1 HB1.out)).mono ?_
        rintro e w2 ⟨v2, rfl, ho2, hb2⟩
        have HB2 := hid (below_after HB1.out hb2 (Nat.le_refl _))
        have hs2 := HB2.out.size
        have hd2 := hb2.size
        clear hb2 j0 j1 j2
        clear z0 z1 z2
        rw [← HST.out] at ho2
        have hi2 : Ints (Lt w2.heap.size) w2 v2 st := ho2.slLt encI_length
        obtain ⟨_, _, rfl, -, -⟩ := id hi2.open1
        have HI2 := hid hi2
        have HL2 := hid (Below.refl w2.heap.size w2)
        clear ho2 hi2
        have j0 := cell_of_row (HBOX.out w2 HB2.out) 0
        have j1 := cell_of_row (HBOX.out w2 HB2.out) 1
        have j2 := cell_of_row (HBOX.out w2 HB2.out) 2
        simp only [List.getElem?_toArray, List.getElem?_cons_zero, List.getElem?_cons_succ] at j0 j1 j2
        go_wp2_with fail
        refine (CellarL_any c _ w.heap.size w2 (by omega) (HCE.out w2 HB2.out) HSM.out).mono ?_
        rintro e w3 ⟨v3, rfl, hc3, hb3⟩
        have HB3 := hid (below_after HB2.out hb3 (Nat.le_refl _))
        have hs3 := HB3.out.size
        have hd3 := hb3.size
        have HL3 := hid (below_after HL2.out hb3 (Nat.le_refl _))
        have zHL3 := HL3.out.size
        clear hb3 j0 j1 j2
        obtain ⟨_, _, _, _, _, _, rfl, -⟩ := id hc3.open
        go_wp2_with fail
        refine (list_any st _ w2.heap.size w3 (by omega) (HI2.out.below HL3.out) (by omega)).mono ?_
        rintro e w4 ⟨v4, rfl, ho4, hb4⟩
        have HB4 := hid (below_after HB3.out hb4 (Nat.le_refl _))
        have hs4 := HB4.out.size
        have hd4 := hb4.size
        have HL4 := hid (below_after HL3.out hb4 (Nat.le_refl _))
        have zHL4 := HL4.out.size
        have HI_4 := hid hb4
        clear hb4
        have hi4 : Ints (Lt w4.heap.size) w4 v4 st := ho4.slLt encI_length
        obtain ⟨_, _, rfl, -, -⟩ := id hi4.open1
        have hc4 := (hc3.below HI_4.out).le hd4
        clear ho4 hc3
        go_wp2_with fail
        refine (HBK.out _ _ _ w4 (Nat.le_refl _) hc4 hi4).mono ?_
        rintro e w5 ⟨v5, rfl, hi5, hb5⟩
        have HB5 := hid (below_after HB4.out hb5 (Nat.le_refl _))
        have hs5 := HB5.out.size
        have hd5 := hb5.size
        have HL5 := hid (below_after HL4.out hb5 (Nat.le_refl _))
        have zHL5 := HL5.out.size
        clear hb5
        clear hc4 hi4
        obtain ⟨_, _, rfl, -, -⟩ := id hi5.open1
        have HI5 := hid hi5
        have HM5 := hid (Below.refl w5.heap.size w5)
        clear hi5
        have j0 := cell_of_row (HBOX.out w5 HB5.out) 0
        have j1 := cell_of_row (HBOX.out w5 HB5.out) 1
        have j2 := cell_of_row (HBOX.out w5 HB5.out) 2
        simp only [List.getElem?_toArray, List.getElem?_cons_zero, List.getElem?_cons_succ] at j0 j1 j2
        go_wp2_with fail
        refine (truthsR_any c HF.out _ w.heap.size w5 (by omega) (HCE.out w5 HB5.out)).mono ?_
        rintro e w6 ⟨v6, rfl, ho6, hb6⟩
        have HB6 := hid (below_after HB5.out hb6 (Nat.le_refl _))
        have hs6 := HB6.out.size
        have hd6 := hb6.size
        have HL6 := hid (below_after HL5.out hb6 (Nat.le_refl _))
        have zHL6 := HL6.out.size
        have HM6 := hid (below_after HM5.out hb6 (Nat.le_refl _))
        have zHM6 := HM6.out.size
        clear hb6 j0 j1 j2
        rw [← HTT.out] at ho6
        have hl6 := ho6.lss
        obtain ⟨_, _, rfl, -, -⟩ := id hl6.open
        have HL6' := hid (hl6.mono (S' := Lt w6.heap.size) fun b hb => hb.2)
        have HN6 := hid (Below.refl w6.heap.size w6)
        clear ho6 hl6
        have z0 := cell_of_row (HBZ.out w6 HB6.out) 0
        have z1 := cell_of_row (HBZ.out w6 HB6.out) 1
        have z2 := cell_of_row (HBZ.out w6 HB6.out) 2
        simp only [List.getElem?_toArray, List.getElem?_cons_zero, List.getElem?_cons_succ] at z0 z1 z2
        have j0 := cell_of_row (HBOX.out w6 HB6.out) 0
        have j1 := cell_of_row (HBOX.out w6 HB6.out) 1
        have j2 := cell_of_row (HBOX.out w6 HB6.out) 2
        simp only [List.getElem?_toArray, List.getElem?_cons_zero, List.getElem?_cons_succ] at j0 j1 j2
        go_wp2_with fail
        refine (stocked_any c g2 o0 o1 o2 po0 po1 po2 _ w.heap.size w6 (by omega) (HCE.out w6 HB6.out)).mono ?_
        rintro e w7 ⟨v7, rfl, ho7, hb7⟩
        have HB7 := hid (below_after HB6.out hb7 (Nat.le_refl _))
        have hs7 := HB7.out.size
        have hd7 := hb7.size
        have HL7 := hid (below_after HL6.out hb7 (Nat.le_refl _))
        have zHL7 := HL7.out.size
        have HM7 := hid (below_after HM6.out hb7 (Nat.le_refl _))
        have zHM7 := HM7.out.size
        have HN7 := hid (below_after HN6.out hb7 (Nat.le_refl _))
        have zHN7 := HN7.out.size
        clear hb7 j0 j1 j2
        clear z0 z1 z2
        rw [← HY.out] at ho7
        have hi7 : Ints (Lt w7.heap.size) w7 v7 y := ho7.slLt encI_length
        obtain ⟨_, _, rfl, -, -⟩ := id hi7.open1
        have HI7 := hid hi7
        have HQ7 := hid (Below.refl w7.heap.size w7)
        clear ho7 hi7
        have j0 := cell_of_row (HBOX.out w7 HB7.out) 0
        have j1 := cell_of_row (HBOX.out w7 HB7.out) 1
        have j2 := cell_of_row (HBOX.out w7 HB7.out) 2
        simp only [List.getElem?_toArray, List.getElem?_cons_zero, List.getElem?_cons_succ] at j0 j1 j2
        go_wp2_with fail
        refine (CellarL_any c _ w.heap.size w7 (by omega) (HCE.out w7 HB7.out) HSM.out).mono ?_
        rintro e w8 ⟨v8, rfl, hc8, hb8⟩
        have HB8 := hid (below_after HB7.out hb8 (Nat.le_refl _))
        have hs8 := HB8.out.size
        have hd8 := hb8.size
        have HL8 := hid (below_after HL7.out hb8 (Nat.le_refl _))
        have zHL8 := HL8.out.size
        have HM8 := hid (below_after HM7.out hb8 (Nat.le_refl _))
        have zHM8 := HM8.out.size
        have HN8 := hid (below_after HN7.out hb8 (Nat.le_refl _))
        have zHN8 := HN8.out.size
        have HQ8 := hid (below_after HQ7.out hb8 (Nat.le_refl _))
        have zHQ8 := HQ8.out.size
        clear hb8 j0 j1 j2
        obtain ⟨_, _, _, _, _, _, rfl, -⟩ := id hc8.open
        go_wp2_with fail
        refine (list_any st _ w2.heap.size w8 (by omega) (HI2.out.below HL8.out) (by omega)).mono ?_
        rintro e w9 ⟨v9, rfl, ho9, hb9⟩
        have HB9 := hid (below_after HB8.out hb9 (Nat.le_refl _))
        have hs9 := HB9.out.size
        have hd9 := hb9.size
        have HL9 := hid (below_after HL8.out hb9 (Nat.le_refl _))
        have zHL9 := HL9.out.size
        have HM9 := hid (below_after HM8.out hb9 (Nat.le_refl _))
        have zHM9 := HM9.out.size
        have HN9 := hid (below_after HN8.out hb9 (Nat.le_refl _))
        have zHN9 := HN9.out.size
        have HQ9 := hid (below_after HQ8.out hb9 (Nat.le_refl _))
        have zHQ9 := HQ9.out.size
        have HI_9 := hid hb9
        clear hb9
        have hi9 : Ints (Lt w9.heap.size) w9 v9 st := ho9.slLt encI_length
        obtain ⟨_, _, rfl, -, -⟩ := id hi9.open1
        have hc9 := (hc8.below HI_9.out).le hd9
        clear ho9 hc8
        go_wp2_with fail
        refine (list_any y _ w7.heap.size w9 (by omega) (HI7.out.below HQ9.out) (by omega)).mono ?_
        rintro e w10 ⟨v10, rfl, ho10, hb10⟩
        have HB10 := hid (below_after HB9.out hb10 (Nat.le_refl _))
        have hs10 := HB10.out.size
        have hd10 := hb10.size
        have HL10 := hid (below_after HL9.out hb10 (Nat.le_refl _))
        have zHL10 := HL10.out.size
        have HM10 := hid (below_after HM9.out hb10 (Nat.le_refl _))
        have zHM10 := HM10.out.size
        have HN10 := hid (below_after HN9.out hb10 (Nat.le_refl _))
        have zHN10 := HN10.out.size
        have HQ10 := hid (below_after HQ9.out hb10 (Nat.le_refl _))
        have zHQ10 := HQ10.out.size
        have HI_10 := hid hb10
        clear hb10
        have hi10 : Ints (Lt w10.heap.size) w10 v10 y := ho10.slLt encI_length
        obtain ⟨_, _, rfl, -, -⟩ := id hi10.open1
        have hc10 := (hc9.below HI_10.out).le hd10
        have hi9' := (hi9.below HI_10.out).le hd10
        clear ho10 hc9 hi9
        go_wp2_with fail
        refine (HPY.out _ _ _ _ w10 (Nat.le_refl _) hc10 hi9' hi10).mono ?_
        rintro e w11 ⟨rfl, hb11⟩
        have HB11 := hid (below_after HB10.out hb11 (Nat.le_refl _))
        have hs11 := HB11.out.size
        have hd11 := hb11.size
        have HL11 := hid (below_after HL10.out hb11 (Nat.le_refl _))
        have zHL11 := HL11.out.size
        have HM11 := hid (below_after HM10.out hb11 (Nat.le_refl _))
        have zHM11 := HM11.out.size
        have HN11 := hid (below_after HN10.out hb11 (Nat.le_refl _))
        have zHN11 := HN11.out.size
        have HQ11 := hid (below_after HQ10.out hb11 (Nat.le_refl _))
        have zHQ11 := HQ11.out.size
        clear hb11
        clear hc10 hi9' hi10
        go_upto_region 12 with fail
        go_cut [115] from 88 to 115 (fun s wx => s = .bool false ∧ Below w11.heap.size w11 wx)
        case first =>
          have HISB := hid (show true = isBlendR T st (wt % 90 + 1) (gr % 101) x by rw [HTT.out]; exact HBD.out.isb)
          have j0 := cell_of_row (HBOX.out w11 HB11.out) 0
          have j1 := cell_of_row (HBOX.out w11 HB11.out) 1
          have j2 := cell_of_row (HBOX.out w11 HB11.out) 2
          simp only [List.getElem?_toArray, List.getElem?_cons_zero, List.getElem?_cons_succ] at j0 j1 j2
          go_wp2_with fail
          refine (isBlendRf_any c T HFIT.out htm g2 st x (wt % 90 + 1) (gr % 101) HISB HSB.out HSL.out (by omega) hW9.1 _ _ _ _ w11.heap.size w11 (Nat.le_refl _) ((HCE.out w11 HB11.out).le (by omega)) ((HL6'.out.below HN11.out).le (by omega)) ((HI2.out.below HL11.out).le (by omega)) ((HI5.out.below HM11.out).le (by omega))).mono ?_
          rintro e w12 ⟨rfl, hb12⟩
          have HB12 := hid (below_after HB11.out hb12 (Nat.le_refl _))
          have HL12 := hid (below_after HL11.out hb12 (Nat.le_refl _))
          have HM12 := hid (below_after HM11.out hb12 (Nat.le_refl _))
          have HQ12 := hid (below_after HQ11.out hb12 (Nat.le_refl _))
          have HE12 := hid hb12
          have zHE12 := hb12.size
          have hs12 := HB12.out.size
          have zHL12 := HL12.out.size
          have zHM12 := HM12.out.size
          have zHQ12 := HQ12.out.size
          clear hb12 j0 j1 j2
          have j0 := cell_of_row (HBOX.out w12 HB12.out) 0
          have j1 := cell_of_row (HBOX.out w12 HB12.out) 1
          have j2 := cell_of_row (HBOX.out w12 HB12.out) 2
          simp only [List.getElem?_toArray, List.getElem?_cons_zero, List.getElem?_cons_succ] at j0 j1 j2
          go_wp2_with fail
          refine (CellarL_any c _ w.heap.size w12 (by omega) (HCE.out w12 HB12.out) HSM.out).mono ?_
          rintro e w13 ⟨v13, rfl, hc13, hb13⟩
          have HB13 := hid (below_after HB12.out hb13 (Nat.le_refl _))
          have hs13 := HB13.out.size
          have hd13 := hb13.size
          have HL13 := hid (below_after HL12.out hb13 (Nat.le_refl _))
          have zHL13 := HL13.out.size
          have HM13 := hid (below_after HM12.out hb13 (Nat.le_refl _))
          have zHM13 := HM13.out.size
          have HQ13 := hid (below_after HQ12.out hb13 (Nat.le_refl _))
          have zHQ13 := HQ13.out.size
          have HE13 := hid (below_after HE12.out hb13 (Nat.le_refl _))
          have zHE13 := HE13.out.size
          clear hb13 j0 j1 j2
          obtain ⟨_, _, _, _, _, _, rfl, -⟩ := id hc13.open
          go_wp2_with fail
          refine (list_any st _ w2.heap.size w13 (by omega) (HI2.out.below HL13.out) (by omega)).mono ?_
          rintro e w14 ⟨v14, rfl, ho14, hb14⟩
          have HB14 := hid (below_after HB13.out hb14 (Nat.le_refl _))
          have hs14 := HB14.out.size
          have hd14 := hb14.size
          have HL14 := hid (below_after HL13.out hb14 (Nat.le_refl _))
          have zHL14 := HL14.out.size
          have HM14 := hid (below_after HM13.out hb14 (Nat.le_refl _))
          have zHM14 := HM14.out.size
          have HQ14 := hid (below_after HQ13.out hb14 (Nat.le_refl _))
          have zHQ14 := HQ14.out.size
          have HE14 := hid (below_after HE13.out hb14 (Nat.le_refl _))
          have zHE14 := HE14.out.size
          have HI_14 := hid hb14
          clear hb14
          have hi14 : Ints (Lt w14.heap.size) w14 v14 st := ho14.slLt encI_length
          obtain ⟨_, _, rfl, -, -⟩ := id hi14.open1
          have hc14 := (hc13.below HI_14.out).le hd14
          clear ho14 hc13
          go_wp2_with fail
          refine (list_any x _ w5.heap.size w14 (by omega) (HI5.out.below HM14.out) (by omega)).mono ?_
          rintro e w15 ⟨v15, rfl, ho15, hb15⟩
          have HB15 := hid (below_after HB14.out hb15 (Nat.le_refl _))
          have hs15 := HB15.out.size
          have hd15 := hb15.size
          have HL15 := hid (below_after HL14.out hb15 (Nat.le_refl _))
          have zHL15 := HL15.out.size
          have HM15 := hid (below_after HM14.out hb15 (Nat.le_refl _))
          have zHM15 := HM15.out.size
          have HQ15 := hid (below_after HQ14.out hb15 (Nat.le_refl _))
          have zHQ15 := HQ15.out.size
          have HE15 := hid (below_after HE14.out hb15 (Nat.le_refl _))
          have zHE15 := HE15.out.size
          have HI_15 := hid hb15
          clear hb15
          have hi15 : Ints (Lt w15.heap.size) w15 v15 x := ho15.slLt encI_length
          obtain ⟨_, _, rfl, -, -⟩ := id hi15.open1
          have hc15 := (hc14.below HI_15.out).le hd15
          have hi14' := (hi14.below HI_15.out).le hd15
          clear ho15 hc14 hi14
          go_wp2_with fail
          refine (HBD.out.prove _ _ _ _ w15 (Nat.le_refl _) hc15 hi14' hi15).mono ?_
          rintro e w16 ⟨rfl, hb16⟩
          have HB16 := hid (below_after HB15.out hb16 (Nat.le_refl _))
          have hs16 := HB16.out.size
          have hd16 := hb16.size
          have HL16 := hid (below_after HL15.out hb16 (Nat.le_refl _))
          have zHL16 := HL16.out.size
          have HM16 := hid (below_after HM15.out hb16 (Nat.le_refl _))
          have zHM16 := HM16.out.size
          have HQ16 := hid (below_after HQ15.out hb16 (Nat.le_refl _))
          have zHQ16 := HQ16.out.size
          have HE16 := hid (below_after HE15.out hb16 (Nat.le_refl _))
          have zHE16 := HE16.out.size
          clear hb16
          clear hc15 hi14' hi15
          cases ib with
          | false =>
            go_wp2_with fail
            go_meet
            case rel => exact ⟨rfl, HE16.out⟩
          | true =>
            have HBF := hid (show false = beforeB y x from (HBD.out.first y HIB.out.symm).symm)
            go_wp2_with fail
            refine (before_hid y x HBF _ _ w16.heap.size w16 ((HI7.out.below HQ16.out).le (by omega)) ((HI5.out.below HM16.out).le (by omega)) (Nat.le_refl _) (by omega) (by omega)).mono ?_
            rintro e w17 ⟨rfl, hb17⟩
            have HB17 := hid (below_after HB16.out hb17 (Nat.le_refl _))
            have hs17 := HB17.out.size
            have hd17 := hb17.size
            have HL17 := hid (below_after HL16.out hb17 (Nat.le_refl _))
            have zHL17 := HL17.out.size
            have HM17 := hid (below_after HM16.out hb17 (Nat.le_refl _))
            have zHM17 := HM17.out.size
            have HE17 := hid (below_after HE16.out hb17 (Nat.le_refl _))
            have zHE17 := HE17.out.size
            clear hb17
            go_wp2_with fail
            go_meet
            case rel => exact ⟨rfl, HE17.out⟩
        case rest =>
          obtain ⟨rfl, hbc⟩ := hcut
          have HB17 := hid (below_after HB11.out hbc (Nat.le_refl _))
          have HL17 := hid (below_after HL11.out hbc (Nat.le_refl _))
          have HM17 := hid (below_after HM11.out hbc (Nat.le_refl _))
          have hs17 := HB17.out.size
          have zHL17 := HL17.out.size
          have zHM17 := HM17.out.size
          clear hbc
          obtain ⟨w17, hw17⟩ : ∃ w', w' = wc := ⟨_, rfl⟩
          rw [← hw17] at HB17 HL17 HM17 hs17 zHL17 zHM17 ⊢
          clear hw17
          go_wp2_with fail
          refine (list_any st _ w2.heap.size w17 (by omega) (HI2.out.below HL17.out) (by omega)).mono ?_
          rintro e w18 ⟨v18, rfl, ho18, hb18⟩
          have HB18 := hid (below_after HB17.out hb18 (Nat.le_refl _))
          have hs18 := HB18.out.size
          have hd18 := hb18.size
          have HL18 := hid (below_after HL17.out hb18 (Nat.le_refl _))
          have zHL18 := HL18.out.size
          have HM18 := hid (below_after HM17.out hb18 (Nat.le_refl _))
          have zHM18 := HM18.out.size
          clear hb18
          have HOW18 := hid ho18
          have hbk := ho18.block
          rcases ho18.2 with ⟨-, hn⟩ | ⟨g, cap, cur, rfl, hgb, hgr', -⟩
          · exfalso; omega
          have HGRW := hid hgr'
          clear ho18 hgr' hbk
          have hm0 : 0 ≤ by0 % (st.length : Int) := Int.emod_nonneg _ (by omega)
          have hm1 : by0 % (st.length : Int) < (st.length : Int) := Int.emod_lt_of_pos _ (by omega)
          have hkn : ((st.length : Int) == 0) = false := by rw [beq_eq_false_iff_ne]; omega
          have hkn2 : ¬ (st.length : Int) = 0 := by omega
          obtain ⟨kk, hkk⟩ := Int.eq_ofNat_of_zero_le hm0
          have hkl : kk < st.length := by omega
          have hcell : w18.cell? ⟨g, (by0 % (st.length : Int)).toNat, none⟩ = some (.int .i64 st[kk]) := by
            rw [hkk, Int.toNat_natCast]
            obtain ⟨_, _, he, -, hor⟩ := (HOW18.out.slLt encI_length).open1
            injection he with he
            rcases hor with h0 | ⟨b', off, e, -, hcc⟩
            · rw [h0] at hkl; simp at hkl
            · rw [e] at he
              injection he with he
              injection he with e1 e2
              subst e1; subst e2
              simpa using hcc kk hkl
          have f0 := frozen_of_row HGRW.out (by0 % (st.length : Int)).toNat
          have hsk := HSB.out st[kk] (List.getElem_mem _)
          have HGET := hid (show st[kk]? = some st[kk] from List.getElem?_eq_getElem hkl)
          have HKK := hid hkk
          clear hkk
          generalize st[kk] = sx at *
          have hb5 : 0 ≤ by0 / 4 % 5 ∧ by0 / 4 % 5 ≤ 4 := by omega
          have hgw : g ≠ w.heap.size ∧ w.heap.size ≠ g := by omega
          have hkt : (by0 % (st.length : Int)).toNat < st.length := by omega
          have HGT := hid (show st[(by0 % (st.length : Int)).toNat]? = some sx by rw [HKK.out, Int.toNat_natCast]; exact HGET.out)
          have hg7 : 0 ≤ by0 % 7 ∧ by0 % 7 ≤ 6 := by omega
          have j0 := cell_of_row (HBOX.out w18 HB18.out) 0
          have j1 := cell_of_row (HBOX.out w18 HB18.out) 1
          have j2 := cell_of_row (HBOX.out w18 HB18.out) 2
          simp only [List.getElem?_toArray, List.getElem?_cons_zero, List.getElem?_cons_succ] at j0 j1 j2
          go_upto_region 16 with fail
          go_cut [] from 123 to 135 (fun wx => ∃ vv : Int, sx ≤ vv ∧ vv ≤ 30 ∧ wx = w18.setCell ⟨g, (by0 % (st.length : Int)).toNat, none⟩ (.int .i64 vv))
          case first =>
            by_cases hmn : sx + by0 / 4 % 5 < 30
            all_goals
              go_wp2_with fail
              go_meet
              case rel => exact ⟨_, by omega, by omega, rfl⟩
          case rest =>
            obtain ⟨vv, hv1, hv2, hwc⟩ := hcut
            have HVV := hid (And.intro hv1 hv2)
            clear hv1 hv2
            obtain ⟨w19, hw19⟩ : ∃ w', w' = wc := ⟨_, rfl⟩
            rw [← hw19]
            rw [← hw19] at hwc
            clear hw19
            have hw19 := hwc
            clear hwc
            have hs19 : w19.heap.size = w18.heap.size := by rw [hw19]; simp [World.setCell]
            have HB19 := hid (show Below W.heap.size W w19 by rw [hw19]; exact HB18.out.setCell (p := ⟨g, _, none⟩) (by show W.heap.size ≤ g; omega) _)
            have HL19 := hid (show Below w2.heap.size w2 w19 by rw [hw19]; exact HL18.out.setCell (p := ⟨g, _, none⟩) (by show w2.heap.size ≤ g; omega) _)
            have HM19 := hid (show Below w5.heap.size w5 w19 by rw [hw19]; exact HM18.out.setCell (p := ⟨g, _, none⟩) (by show w5.heap.size ≤ g; omega) _)
            have zHL19 := HL19.out.size
            have zHM19 := HM19.out.size
            have HI19 := hid (show Ints (Lt w19.heap.size) w19 (.slice (some ⟨g, 0, none⟩) st.length cap) (st.set (by0 % (st.length : Int)).toNat vv) by
              rw [hs19, hw19]
              exact ints_put (HOW18.out.slLt encI_length) _ hkt vv)
            obtain ⟨u, hu1, hu2, hu3⟩ := HBD.out.more (by0 % (st.length : Int)).toNat vv (fun z hz => by rw [HGT.out] at hz; simp only [Option.some.injEq] at hz; subst hz; exact HVV.out.1) HVV.out.2
            have HU1 := hid hu1
            have HU2 := hid hu2.symm
            have HR19 := hid (Below.refl w19.heap.size w19)
            have zHR19 := Nat.le_refl w19.heap.size
            clear hw19 hs19 hu1 hu2 hcell f0 j0 j1 j2 hgw
            have j0 := cell_of_row (HBOX.out w19 HB19.out) 0
            have j1 := cell_of_row (HBOX.out w19 HB19.out) 1
            have j2 := cell_of_row (HBOX.out w19 HB19.out) 2
            simp only [List.getElem?_toArray, List.getElem?_cons_zero, List.getElem?_cons_succ] at j0 j1 j2
            go_wp2_with fail
            refine (CellarL_any c _ w.heap.size w19 (by omega) (HCE.out w19 HB19.out) HSM.out).mono ?_
            rintro e w20 ⟨v20, rfl, hc20, hb20⟩
            have HB20 := hid (below_after HB19.out hb20 (Nat.le_refl _))
            have hs20 := HB20.out.size
            have hd20 := hb20.size
            have HL20 := hid (below_after HL19.out hb20 (Nat.le_refl _))
            have zHL20 := HL20.out.size
            have HM20 := hid (below_after HM19.out hb20 (Nat.le_refl _))
            have zHM20 := HM20.out.size
            have HR20 := hid (below_after HR19.out hb20 (Nat.le_refl _))
            have zHR20 := HR20.out.size
            clear hb20 j0 j1 j2
            obtain ⟨_, _, _, _, _, _, rfl, -⟩ := id hc20.open
            go_wp2_with fail
            refine (HU1.out _ _ _ w20 (Nat.le_refl _) hc20 ((HI19.out.below HR20.out).le (by omega))).mono ?_
            rintro e w21 ⟨v21, rfl, hi21, hb21⟩
            have HB21 := hid (below_after HB20.out hb21 (Nat.le_refl _))
            have hs21 := HB21.out.size
            have hd21 := hb21.size
            have HL21 := hid (below_after HL20.out hb21 (Nat.le_refl _))
            have zHL21 := HL21.out.size
            have HM21 := hid (below_after HM20.out hb21 (Nat.le_refl _))
            have zHM21 := HM21.out.size
            clear hb21
            obtain ⟨_, _, rfl, -, -⟩ := id hi21.open1
            have HI21 := hid hi21
            have HR21 := hid (Below.refl w21.heap.size w21)
            clear hc20 hi21
            go_upto_region 18 with fail
            go_cut [25, 26] from 145 to 159 (fun s25 s26 wx => s26 = .int .i64 0 ∧ Below w21.heap.size w21 wx ∧ ∃ v' : List Int, Ints (Lt wx.heap.size) wx s25 v' ∧ false = beforeB x v' ∧ v'.length ≤ 3)
            case first =>
              have j0 := cell_of_row (HBOX.out w21 HB21.out) 0
              have j1 := cell_of_row (HBOX.out w21 HB21.out) 1
              have j2 := cell_of_row (HBOX.out w21 HB21.out) 2
              simp only [List.getElem?_toArray, List.getElem?_cons_zero, List.getElem?_cons_succ] at j0 j1 j2
              go_wp2_with fail
              refine (CellarL_any c _ w.heap.size w21 (by omega) (HCE.out w21 HB21.out) HSM.out).mono ?_
              rintro e w22 ⟨v22, rfl, hc22, hb22⟩
              have HB22 := hid (below_after HB21.out hb22 (Nat.le_refl _))
              have hs22 := HB22.out.size
              have hd22 := hb22.size
              have HL22 := hid (below_after HL21.out hb22 (Nat.le_refl _))
              have zHL22 := HL22.out.size
              have HM22 := hid (below_after HM21.out hb22 (Nat.le_refl _))
              have zHM22 := HM22.out.size
              have HR22 := hid (below_after HR21.out hb22 (Nat.le_refl _))
              have zHR22 := HR22.out.size
              clear hb22 j0 j1 j2
              obtain ⟨_, _, _, _, _, _, rfl, -⟩ := id hc22.open
              go_wp2_with fail
              refine (list_any st _ w2.heap.size w22 (by omega) (HI2.out.below HL22.out) (by omega)).mono ?_
              rintro e w23 ⟨v23, rfl, ho23, hb23⟩
              have HB23 := hid (below_after HB22.out hb23 (Nat.le_refl _))
              have hs23 := HB23.out.size
              have hd23 := hb23.size
              have HL23 := hid (below_after HL22.out hb23 (Nat.le_refl _))
              have zHL23 := HL23.out.size
              have HM23 := hid (below_after HM22.out hb23 (Nat.le_refl _))
              have zHM23 := HM23.out.size
              have HR23 := hid (below_after HR22.out hb23 (Nat.le_refl _))
              have zHR23 := HR23.out.size
              have HI_23 := hid hb23
              clear hb23
              have hi23 : Ints (Lt w23.heap.size) w23 v23 st := ho23.slLt encI_length
              obtain ⟨_, _, rfl, -, -⟩ := id hi23.open1
              have hc23 := (hc22.below HI_23.out).le hd23
              clear ho23 hc22
              by_cases hmx : by0 % 7 < gr % 101
              · obtain ⟨v', hv1, hv2, hv3⟩ := HBD.out.less (gr % 101 - by0 % 7) (by omega) (by omega)
                have HV1 := hid hv1
                have HV2 := hid hv2.symm
                clear hv1 hv2
                go_wp2_with fail
                refine (HV1.out _ _ _ w23 (Nat.le_refl _) hc23 hi23).mono ?_
                rintro e w24 ⟨v24, rfl, hi24, hb24⟩
                have HB24 := hid (below_after HB23.out hb24 (Nat.le_refl _))
                have hs24 := HB24.out.size
                have hd24 := hb24.size
                have HL24 := hid (below_after HL23.out hb24 (Nat.le_refl _))
                have zHL24 := HL24.out.size
                have HM24 := hid (below_after HM23.out hb24 (Nat.le_refl _))
                have zHM24 := HM24.out.size
                have HR24 := hid (below_after HR23.out hb24 (Nat.le_refl _))
                have zHR24 := HR24.out.size
                clear hb24
                have HI24 := hid hi24
                clear hi24 hc23 hi23
                go_wp2_with fail
                go_meet
                case rel => exact ⟨rfl, HR24.out, v', HI24.out, HV2.out, hv3⟩
              · obtain ⟨v', hv1, hv2, hv3⟩ := HBD.out.less 0 (by omega) (by omega)
                have HV1 := hid hv1
                have HV2 := hid hv2.symm
                clear hv1 hv2
                go_wp2_with fail
                refine (HV1.out _ _ _ w23 (Nat.le_refl _) hc23 hi23).mono ?_
                rintro e w24 ⟨v24, rfl, hi24, hb24⟩
                have HB24 := hid (below_after HB23.out hb24 (Nat.le_refl _))
                have hs24 := HB24.out.size
                have hd24 := hb24.size
                have HL24 := hid (below_after HL23.out hb24 (Nat.le_refl _))
                have zHL24 := HL24.out.size
                have HM24 := hid (below_after HM23.out hb24 (Nat.le_refl _))
                have zHM24 := HM24.out.size
                have HR24 := hid (below_after HR23.out hb24 (Nat.le_refl _))
                have zHR24 := HR24.out.size
                clear hb24
                have HI24 := hid hi24
                clear hi24 hc23 hi23
                go_wp2_with fail
                go_meet
                case rel => exact ⟨rfl, HR24.out, v', HI24.out, HV2.out, hv3⟩
            case rest =>
              obtain ⟨rfl, hbc, v', hi24, hv2, hv3⟩ := hcut
              obtain ⟨w24, hw24⟩ : ∃ w', w' = wc := ⟨_, rfl⟩
              rw [← hw24] at hbc hi24 ⊢
              clear hw24
              have HB24 := hid (below_after HB21.out hbc (Nat.le_refl _))
              have HL24 := hid (below_after HL21.out hbc (Nat.le_refl _))
              have HM24 := hid (below_after HM21.out hbc (Nat.le_refl _))
              have HR24 := hid hbc
              have hs24 := HB24.out.size
              have zHL24 := HL24.out.size
              have zHM24 := HM24.out.size
              have zHR24 := HR24.out.size
              have HV2 := hid hv2
              clear hbc hv2
              obtain ⟨_, _, rfl, -, -⟩ := id hi24.open1
              have HI24 := hid hi24
              have HP24 := hid (Below.refl w24.heap.size w24)
              clear hi24
              go_wp2_with fail
              refine (before_hid x u HU2 _ _ w24.heap.size w24 ((HI5.out.below HM24.out).le (by omega)) ((HI21.out.below HR24.out).le (by omega)) (Nat.le_refl _) (by omega) (by omega)).mono ?_
              rintro e w25 ⟨rfl, hb25⟩
              have HB25 := hid (below_after HB24.out hb25 (Nat.le_refl _))
              have hs25 := HB25.out.size
              have hd25 := hb25.size
              have HL25 := hid (below_after HL24.out hb25 (Nat.le_refl _))
              have zHL25 := HL25.out.size
              have HM25 := hid (below_after HM24.out hb25 (Nat.le_refl _))
              have zHM25 := HM25.out.size
              have HR25 := hid (below_after HR24.out hb25 (Nat.le_refl _))
              have zHR25 := HR25.out.size
              have HP25 := hid (below_after HP24.out hb25 (Nat.le_refl _))
              have zHP25 := HP25.out.size
              clear hb25
              go_wp2_with fail
              refine (before_hid x v' HV2 _ _ w24.heap.size w25 ((HI5.out.below HM25.out).le (by omega)) (HI24.out.below HP25.out) (by omega) (by omega) (by omega)).mono ?_
              rintro e w26 ⟨rfl, hb26⟩
              have HB26 := hid (below_after HB25.out hb26 (Nat.le_refl _))
              have hs26 := HB26.out.size
              have hd26 := hb26.size
              have HL26 := hid (below_after HL25.out hb26 (Nat.le_refl _))
              have zHL26 := HL26.out.size
              have HM26 := hid (below_after HM25.out hb26 (Nat.le_refl _))
              have zHM26 := HM26.out.size
              have HR26 := hid (below_after HR25.out hb26 (Nat.le_refl _))
              have zHR26 := HR26.out.size
              have HP26 := hid (below_after HP25.out hb26 (Nat.le_refl _))
              have zHP26 := HP26.out.size
              clear hb26
              have j0 := cell_of_row (HBOX.out w26 HB26.out) 0
              have j1 := cell_of_row (HBOX.out w26 HB26.out) 1
              have j2 := cell_of_row (HBOX.out w26 HB26.out) 2
              simp only [List.getElem?_toArray, List.getElem?_cons_zero, List.getElem?_cons_succ] at j0 j1 j2
              go_wp2_with fail
              have hfin := HBD.out.cask
              have hSMZ : Small (blendC c x) := ⟨HSM.out.heaps, by simp [blendC], by have := List.length_filter_le (fun t : Tl => !t.cask) c.trials; have := HSM.out.trials; simp only [blendC]; omega, fun l hl' => by
                have hmem : l ∈ [x] := hl'
                simp only [List.mem_singleton] at hmem
                subst hmem; omega⟩
              have HFIN := hid hfin
              have HSMZ := hid hSMZ
              clear hfin hSMZ
              obtain ⟨Z, hZ⟩ : ∃ Z, Z = w26.heap.size := ⟨_, rfl⟩
              obtain ⟨w27, hw27⟩ : ∃ w', w' = w26.alloc (Obj.cells #[.slice ha c.heaps.length hc, .slice ka c.casks.length kc, .slice ta c.trials.length tc] 26) := ⟨_, rfl⟩
              have hb27 : Below w26.heap.size w26 w27 := by rw [hw27]; exact below_alloc1 (Nat.le_refl _) _
              have hs27 : w27.heap.size = Z + 1 := by rw [hw27, hZ]; simp
              have hr27 : w27.heap[Z]? = some (.cells #[.slice ha c.heaps.length hc, .slice ka c.casks.length kc, .slice ta c.trials.length tc] 26 (0, 0)) := by rw [hw27, hZ]; exact heap_new _ _
              have HB27 := hid (below_after HB26.out hb27 (Nat.le_refl _))
              have HM27 := hid (below_after HM26.out hb27 (Nat.le_refl _))
              have hZZ : Z ≤ w26.heap.size ∧ w26.heap.size ≤ Z := by omega
              rw [← hw27, ← hZ]
              clear hw27 hZ hb27 j0 j1 j2
              have zHM27 := HM27.out.size
              refine (list_any x _ w5.heap.size w27 (by omega) (HI5.out.below HM27.out) (by omega)).mono ?_
              rintro e w28 ⟨v28, rfl, ho28, hb28⟩
              have hs28 := hb28.size
              have HB28 := hid (below_after HB27.out hb28 (Nat.le_refl _))
              have hr28 := row_grow hr27 hb28
              have hx28 := list_keep ho28
              obtain ⟨xa, xcap, rfl, -, -⟩ := id hx28.open1
              have HX28 := hid hx28
              have lZ : Z < w28.heap.size := by omega
              have f1 := frozen_of_row hr28 1
              have f2 := frozen_of_row hr28 2
              have q1 := cell_of_row hr28 1
              have q2 := cell_of_row hr28 2
              simp only [List.getElem?_toArray, List.getElem?_cons_zero, List.getElem?_cons_succ] at q1 q2
              have HR28 := hid hr28
              have hZW : W.heap.size ≤ Z := by have := HB26.out.size; omega
              clear hb28 ho28 hx28 hr27 hr28
              go_wp2
              obtain ⟨w29, hw29⟩ : ∃ w', w' = ((w28.setCell ⟨Z, 1, none⟩ (.slice (some ⟨w28.heap.size, 0, none⟩) 1 1)).setCell ⟨Z, 2, none⟩ (.slice none 0 0)).alloc (Obj.cells #[.slice xa x.length xcap] 47) := ⟨_, rfl⟩
              rw [← hw29]
              have hv1 := row_set HR28.out 1 (.slice (some ⟨w28.heap.size, 0, none⟩) 1 1)
              have hv2 := row_set hv1 2 (.slice none 0 0)
              have hz2 : ((w28.setCell ⟨Z, 1, none⟩ (.slice (some ⟨w28.heap.size, 0, none⟩) 1 1)).setCell ⟨Z, 2, none⟩ (.slice none 0 0)).heap.size = w28.heap.size := by simp [World.setCell]
              have hch2 : Chg (fun b => b = Z) w28 ((w28.setCell ⟨Z, 1, none⟩ (.slice (some ⟨w28.heap.size, 0, none⟩) 1 1)).setCell ⟨Z, 2, none⟩ (.slice none 0 0)) := (setCell_chg (A := w28) (g := Z) (i := 1) _).trans (setCell_chg (g := Z) (i := 2) _)
              have hs29 : w29.heap.size = w28.heap.size + 1 := by rw [hw29]; simp [World.setCell]
              have hrZ : w29.heap[Z]? = some (.cells #[.slice ha c.heaps.length hc, .slice (some ⟨w28.heap.size, 0, none⟩) 1 1, .slice none 0 0] 26 (0, 0)) := by
                rw [hw29, Below.heap_alloc _ _ _ (by rw [hz2]; omega)]
                simpa using hv2
              have hrB : w29.heap[w28.heap.size]? = some (.cells #[.slice xa x.length xcap] 47 (0, 0)) := by rw [hw29]; exact heap_at hz2 _
              have hch9 : Chg (fun b => b = Z) w28 w29 := by rw [hw29]; exact hch2.trans (chg_of_below (below_alloc1 (Nat.le_refl _) _))
              have HX29 := hid (HX28.out.keep (w' := w29) ⟨hch9.size, fun b hb => hch9.block b hb.2 (by have := hb.1; omega)⟩)
              have HB29 := hid (HB28.out.trans (hch9.below (n := W.heap.size) (by have := HB28.out.size; omega) (fun b hb e => by omega)))
              have HRZ := hid hrZ
              have HRB := hid hrB
              have hBZ : Z < w28.heap.size := by omega
              obtain ⟨_, _, he3, -, ho3⟩ := HP3.out.open4
              cases he3
              have HO3 := hid ho3
              clear hw29 hv1 hv2 hz2 hch2 hch9 hrZ hrB f1 f2 q1 q2 ho3
              go_loopw [28] (fun i wr => ∃ (k : Nat) (tv : Value), k ≤ c.trials.length ∧ i = .int .i64 k ∧ Chg (fun b => b = Z) w29 wr ∧ wr.heap[Z]? = some (.cells #[.slice ha c.heaps.length hc, .slice (some ⟨w28.heap.size, 0, none⟩) 1 1, tv] 26 (0, 0)) ∧ Own w29.heap.size 68 4 encT4 wr tv (heapT c.trials k)) (fun i _ => c.trials.length - (intOf i).toNat)
              case atStart => exact ⟨0, .slice none 0 0, by omega, rfl, Chg.refl _ _, HRZ.out, Own.nil⟩
              case round =>
                obtain ⟨k, tv, hk, rfl, hch, hrow, hown⟩ := hrel
                have hsz2 := hch.size
                have HBr := hid (HB29.out.trans (hch.below (n := W.heap.size) (by omega) (fun b hb e => by omega)))
                have HCH := hid hch
                have HROW := hid hrow
                have HOWN := hid hown
                have HOB := hid hown.block
                have hlen := heapT_length c.trials k
                obtain ⟨pa, pc, hv0, -, -⟩ := hown.slLt (fun _ => rfl)
                obtain ⟨pm, hpm⟩ : ∃ pm, pm = (heapT c.trials k).length := ⟨_, rfl⟩
                rw [← hpm] at hv0 hlen
                have HPM := hid hpm
                subst hv0
                have o0 := cell_of_row hrow 0
                have o1 := cell_of_row hrow 1
                have o2 := cell_of_row hrow 2
                simp only [List.getElem?_toArray, List.getElem?_cons_zero, List.getElem?_cons_succ] at o0 o1 o2
                clear hch hrow hown hpm
                have j0 := cell_of_row (HBOX.out wr HBr.out) 0
                have j1 := cell_of_row (HBOX.out wr HBr.out) 1
                have j2 := cell_of_row (HBOX.out wr HBr.out) 2
                simp only [List.getElem?_toArray, List.getElem?_cons_zero, List.getElem?_cons_succ] at j0 j1 j2
                by_cases hlt : k < c.trials.length
                · rcases HO3.out with hnil | ⟨b, off, rfl, hbn, hcc⟩
                  · rw [hnil] at hlt; simp at hlt
                  obtain ⟨y0, y1, y2, y3⟩ := hcc k hlt
                  have hbl : b < w.heap.size := hbn
                  have HLOW := hid (hWb.trans (HBr.out.mono (by omega)) : Below w.heap.size w wr)
                  have z0 := (HLOW.out.cell (p := ⟨b, off + k * 4, none⟩) hbl).trans y0
                  have z1 := (HLOW.out.cell (p := ⟨b, off + k * 4 + 1, none⟩) hbl).trans y1
                  have z2 := (HLOW.out.cell (p := ⟨b, off + k * 4 + 2, none⟩) hbl).trans y2
                  have z3 := (HLOW.out.cell (p := ⟨b, off + k * 4 + 3, none⟩) hbl).trans y3
                  have HT := hid (heapT_succ c.trials k hlt)
                  clear y0 y1 y2 y3 hcc
                  generalize c.trials[k] = t at *
                  obtain ⟨ck, num, lo, hi⟩ := t
                  simp only at z0 z1 z2 z3
                  cases ck with
                  | true =>
                    go_wp2
                    go_roundw
                    case rel => exact ⟨k + 1, _, by omega, by go_num, HCH.out, HROW.out, by rw [HT.out]; simpa using HOWN.out⟩
                    case measure => simp [intOf]; omega
                  | false =>
                    go_wp2
                    refine wp_region_till (by kernel_rfl) 10 (fun w' => w'.cell? ⟨Z, 2, none⟩ = some (.slice pa pm pc) ∧ w'.cell? ⟨w.heap.size, 2, none⟩ = some (.slice (some ⟨b, off, none⟩) c.trials.length tc) ∧ w'.cell? ⟨b, off + k * 4, none⟩ = some (.bool false) ∧ w'.cell? ⟨b, off + k * 4 + 1, none⟩ = some (.int .i64 num) ∧ w'.cell? ⟨b, off + k * 4 + 2, none⟩ = some (.int .i64 lo) ∧ w'.cell? ⟨b, off + k * 4 + 3, none⟩ = some (.int .i64 hi)) ?_
                    have hS0 : wr.drew.cell? ⟨Z, 2, none⟩ = some (.slice pa pm pc) ∧ wr.drew.cell? ⟨w.heap.size, 2, none⟩ = some (.slice (some ⟨b, off, none⟩) c.trials.length tc) ∧ wr.drew.cell? ⟨b, off + k * 4, none⟩ = some (.bool false) ∧ wr.drew.cell? ⟨b, off + k * 4 + 1, none⟩ = some (.int .i64 num) ∧ wr.drew.cell? ⟨b, off + k * 4 + 2, none⟩ = some (.int .i64 lo) ∧ wr.drew.cell? ⟨b, off + k * 4 + 3, none⟩ = some (.int .i64 hi) := ⟨o2, j2, z0, z1, z2, z3⟩
                    have hD : Below wr.heap.size wr wr.drew := (Below.refl _ _).drew
                    generalize wr.drew = D at *
                    have hDs := hD.size
                    clear o0 o1 o2 j0 j1 j2 z0 z1 z2 z3
                    refine wpTill_take (i := 0) (v := .pointer (some ⟨Z, 2, none⟩)) rfl (by kernel_rfl) (by kernel_rfl) (by kernel_rfl) (by kernel_rfl) (fun _ _ _ h => h) (by rfl) ?_ hS0 ?_
                    · rintro w ⟨g0, g1, g2, g3, g4, g5⟩
                      go_simp
                    simp only [Act.put, List.setIfInBounds_toArray]
                    refine wpTill_take (i := 1) (v := .slice pa pm pc) rfl (by kernel_rfl) (by kernel_rfl) (by kernel_rfl) (by kernel_rfl) (fun _ _ _ h => h) (by rfl) ?_ hS0 ?_
                    · rintro w ⟨g0, g1, g2, g3, g4, g5⟩
                      go_simp
                    simp only [Act.put]
                    refine wpTill_take (i := 2) (v := .pointer (some ⟨w.heap.size, 2, none⟩)) rfl (by kernel_rfl) (by kernel_rfl) (by kernel_rfl) (by kernel_rfl) (fun _ _ _ h => h) (by rfl) ?_ hS0 ?_
                    · rintro w ⟨g0, g1, g2, g3, g4, g5⟩
                      go_simp
                    simp only [Act.put]
                    refine wpTill_take (i := 3) (v := .slice (some ⟨b, off, none⟩) c.trials.length tc) rfl (by kernel_rfl) (by kernel_rfl) (by kernel_rfl) (by kernel_rfl) (fun _ _ _ h => h) (by rfl) ?_ hS0 ?_
                    · rintro w ⟨g0, g1, g2, g3, g4, g5⟩
                      go_simp
                    simp only [Act.put]
                    refine wpTill_take (i := 4) (v := .int .i64 k) rfl (by kernel_rfl) (by kernel_rfl) (by kernel_rfl) (by kernel_rfl) (fun _ _ _ h => h) (by rfl) ?_ hS0 ?_
                    · rintro w ⟨g0, g1, g2, g3, g4, g5⟩
                      go_simp
                    simp only [Act.put]
                    refine wpTill_take (i := 5) (v := .pointer (some ⟨b, off + k * 4, none⟩)) rfl (by kernel_rfl) (by kernel_rfl) (by kernel_rfl) (by kernel_rfl) (fun _ _ _ h => h) (by rfl) ?_ hS0 ?_
                    · rintro w ⟨g0, g1, g2, g3, g4, g5⟩
                      go_simp
                    simp only [Act.put]
                    refine wpTill_take (i := 6) (v := .agg #[.bool false, .int .i64 num, .int .i64 lo, .int .i64 hi]) rfl (by kernel_rfl) (by kernel_rfl) (by kernel_rfl) (by kernel_rfl) (fun _ _ _ h => h) (by rfl) ?_ hS0 ?_
                    · rintro w ⟨g0, g1, g2, g3, g4, g5⟩
                      go_simp
                    simp only [Act.put]
                    have HSKH := hid (fun w2 hk => ⟨(World.cell?_of_block (w := D) (a := ⟨Z, 2, none⟩) (hk _ (by show Z < _; omega))).trans hS0.1, (World.cell?_of_block (w := D) (a := ⟨w.heap.size, 2, none⟩) (hk _ (by show w.heap.size < _; omega))).trans hS0.2.1, (World.cell?_of_block (w := D) (a := ⟨b, off + k * 4, none⟩) (hk _ (by show b < _; omega))).trans hS0.2.2.1, (World.cell?_of_block (w := D) (a := ⟨b, off + k * 4 + 1, none⟩) (hk _ (by show b < _; omega))).trans hS0.2.2.2.1, (World.cell?_of_block (w := D) (a := ⟨b, off + k * 4 + 2, none⟩) (hk _ (by show b < _; omega))).trans hS0.2.2.2.2.1, (World.cell?_of_block (w := D) (a := ⟨b, off + k * 4 + 3, none⟩) (hk _ (by show b < _; omega))).trans hS0.2.2.2.2.2⟩ : ∀ w2 : World, (∀ bb, bb < w29.heap.size → w2.heap[bb]? = D.heap[bb]?) → (w2.cell? ⟨Z, 2, none⟩ = some (.slice pa pm pc) ∧ w2.cell? ⟨w.heap.size, 2, none⟩ = some (.slice (some ⟨b, off, none⟩) c.trials.length tc) ∧ w2.cell? ⟨b, off + k * 4, none⟩ = some (.bool false) ∧ w2.cell? ⟨b, off + k * 4 + 1, none⟩ = some (.int .i64 num) ∧ w2.cell? ⟨b, off + k * 4 + 2, none⟩ = some (.int .i64 lo) ∧ w2.cell? ⟨b, off + k * 4 + 3, none⟩ = some (.int .i64 hi)))
                    clear hS0
                    have HDK := hid (fun bb hb => hD.block bb hb : ∀ bb, bb < wr.heap.size → D.heap[bb]? = wr.heap[bb]?)
                    refine wpTill_only (i := 7) rfl (by kernel_rfl) (by rfl) ?_
                    go_simp
                    have K6 := hid (fun bb hb => Below.heap_alloc _ _ _ (by omega) : ∀ bb, bb < w29.heap.size → (D.alloc (Obj.cells #[.bool false, .int .i64 num, .int .i64 lo, .int .i64 hi] 68)).heap[bb]? = D.heap[bb]?)
                    refine ⟨HSKH.out _ K6.out, ?_⟩
                    try simp only [Act.put, List.setIfInBounds_toArray, List.set_cons_zero, List.set_cons_succ]
                    have hown5 := (HOWN.out.below hD).below (below_alloc1 (Nat.le_refl _) (Obj.cells #[.bool false, .int .i64 num, .int .i64 lo, .int .i64 hi] 68))
                    have hsA : (D.alloc (Obj.cells #[.bool false, .int .i64 num, .int .i64 lo, .int .i64 hi] 68)).heap.size = D.heap.size + 1 := by simp
                    have hnew := cells_new D [.bool false, .int .i64 num, .int .i64 lo, .int .i64 hi] 68
                    refine wpTill_only (i := 8) rfl (by kernel_rfl) (by rfl) ?_
                    refine wp_append1 encT4 _ _ _ rfl w29.heap.size 68 _ 4 32 rtrials_under infoRTrial rfl (by omega) (fun _ => rfl) encT4_one (.slice pa pm pc) (heapT c.trials k) (by rfl) hown5 D.heap.size 1 ⟨false, num, lo, hi⟩ (by rfl) hnew (by have := HPM.out; omega) (by omega) (by omega) ?_
                    intro v6 w6 hown6 hgr6
                    have hs6 := hgr6.size
                    have K7 := hid (fun bb hb => (hgr6.block bb (by omega) (fun e => by have := HOB.out bb e.symm; omega)).trans (K6.out bb hb) : ∀ bb, bb < w29.heap.size → w6.heap[bb]? = D.heap[bb]?)
                    refine ⟨fun _ => HSKH.out _ K7.out, ?_⟩
                    simp only [Act.put, List.setIfInBounds_toArray]
                    obtain ⟨pa6, pc6, hv6, -, -⟩ := hown6.slLt (fun _ => rfl)
                    obtain ⟨pm6, hpm6⟩ : ∃ pm6, pm6 = (heapT c.trials k ++ [(⟨false, num, lo, hi⟩ : Tl)]).length := ⟨_, rfl⟩
                    rw [← hpm6] at hv6
                    clear hpm6
                    subst hv6
                    have HROW6 := hid ((K7.out Z (by omega)).trans ((HDK.out _ (by omega)).trans HROW.out))
                    have HCH6 := hid (show Chg (fun bb => bb = Z) w29 w6 from ⟨hgr6.os.trans (hD.os.trans HCH.out.os), hgr6.tape.trans (hD.tape.trans HCH.out.tape), hgr6.output.trans (hD.output.trans HCH.out.output), by omega, fun bb hb hne => (K7.out bb (by omega)).trans ((HDK.out bb (by omega)).trans (HCH.out.block bb hb hne))⟩)
                    have HOWN6 := hid hown6
                    clear hown6 hgr6 hown5 hnew
                    refine wpTill_only (i := 9) rfl (by kernel_rfl) (by rfl) ?_
                    go_simp
                    refine ⟨HSKH.out _ K7.out, ?_⟩
                    try simp only [Act.put, List.setIfInBounds_toArray, List.set_cons_zero, List.set_cons_succ]
                    have c60 := cell_of_row HROW6.out 2
                    have f60 := frozen_of_row HROW6.out 2
                    simp only [List.getElem?_toArray, List.getElem?_cons_zero, List.getElem?_cons_succ] at c60
                    refine wpTill_only (i := 10) rfl (by kernel_rfl) (by rfl) ?_
                    go_simp
                    refine wpTill_done (by kernel_rfl) ?_ _
                    have hch7 := HCH6.out.trans (setCell_chg (A := w6) (g := Z) (i := 2) (.slice pa6 pm6 pc6))
                    have hrow7 := row_set HROW6.out 2 (.slice pa6 pm6 pc6)
                    have hown7 := HOWN6.out.chg (setCell_chg (A := w6) (g := Z) (i := 2) (.slice pa6 pm6 pc6)) (fun bb hb => by omega)
                    have HX7 := hid (And.intro hch7 (And.intro hrow7 hown7))
                    clear hch7 hrow7 hown7 c60 f60
                    go_wp2_with fail
                    go_roundw
                    case rel => exact ⟨k + 1, _, by omega, by go_num, HX7.out.1, HX7.out.2.1, by rw [HT.out]; simpa using HX7.out.2.2⟩
                    case measure => simp [intOf]; omega
                · have hk2 : k = c.trials.length := by omega
                  subst hk2
                  have hHT : heapT c.trials c.trials.length = (blendC c x).trials := by unfold heapT; rw [List.take_length]; rfl
                  have HPM2 := hid (HPM.out.trans (congrArg List.length hHT))
                  have HCZ := hid (show CeV (Lt wr.heap.size) wr (.agg #[.slice ha c.heaps.length hc, .slice (some ⟨w28.heap.size, 0, none⟩) 1 1, .slice pa pm pc]) (blendC c x) by
                    obtain ⟨_, _, _, _, _, _, he, i1, -, -⟩ := (HCE.out wr HBr.out).open
                    cases he
                    have h3 := HOWN.out.slLt (fun _ => rfl)
                    rw [hHT] at h3
                    have hrb := row_chg HRB.out HCH.out (by omega)
                    have hxi := HX29.out.keep (w' := wr) ⟨HCH.out.size, fun b hb => HCH.out.block b (by have := hb.2; omega) (by have := hb.1; omega)⟩
                    refine ⟨_, _, _, rfl, i1.le (by have := HBr.out.size; omega), ?_, h3⟩
                    refine Lss.of (vs := [.slice xa x.length xcap]) (Sl.of_row (α := Value) (sz := 1) (enc := fun v => [v]) (S := Lt wr.heap.size) (t := 47) (l := [.slice xa x.length xcap]) (c := 1) hrb (by show w28.heap.size < _; omega) rfl (fun _ => rfl) (by simp)) rfl (fun j xv l hx hl => ?_)
                    match j, hx, hl with
                    | 0, hx, hl =>
                      simp only [blendC, List.getElem?_cons_zero, Option.some.injEq] at hx hl
                      subst hx; subst hl
                      exact hxi.mono fun b hb => by have := hb.2; show b < _; omega
                    | j + 1, hx, hl => simp at hx)
                  by_cases htm : pm = c.trials.length
                  · have hal : (blendC c x).trials.length = c.trials.length := by rw [← HPM2.out]; exact htm
                    have HGRA := hid (HFIN.out hal)
                    have hne : ((pm : Int) != (c.trials.length : Int)) = false := by simp [htm]
                    have hne2 : (pm != c.trials.length) = false := by simp [htm]
                    clear htm hal hHT
                    have hsr := HBr.out.size
                    go_wp2_with fail
                    refine (CellarL_any (blendC c x) _ wr.heap.size wr (Nat.le_refl _) HCZ.out HSMZ.out).mono ?_
                    rintro e w40 ⟨v40, rfl, hc40, hb40⟩
                    obtain ⟨_, _, _, _, _, _, rfl, -⟩ := id hc40.open
                    have HB40 := hid (below_after HBr.out hb40 (Nat.le_refl _))
                    have hs40 := HB40.out.size
                    clear hb40
                    go_wp2_with fail
                    refine (HGRA.out _ _ w40 (Nat.le_refl _) hc40).mono ?_
                    rintro e w41 ⟨rfl, hb41⟩
                    have HB41 := hid (below_after HB40.out hb41 (Nat.le_refl _))
                    have hs41 := HB41.out.size
                    have hd41 := hb41.size
                    clear hb41
                    clear hc40
                    go_wp2_with (go_at_call 20; refine (awake_any _).mono ?_; rintro e wz ⟨rfl, hbz⟩)
                    go_ret
                    exact ⟨rfl, hWb.trans ((below_after HB41.out hbz (Nat.le_refl _)).mono (by omega))⟩
                  · have hne : ((pm : Int) != (c.trials.length : Int)) = true := by simp; omega
                    have hne2 : (pm != c.trials.length) = true := by simp [htm]
                    clear htm hHT
                    go_wp2_with (go_at_call 20; refine (awake_any _).mono ?_; rintro e wz ⟨rfl, hbz⟩)
                    go_ret
                    exact ⟨rfl, hWb.trans ((below_after HBr.out hbz (Nat.le_refl _)).mono (by omega))⟩
end Go.Proofs.Ytjddcaimjofihaa
