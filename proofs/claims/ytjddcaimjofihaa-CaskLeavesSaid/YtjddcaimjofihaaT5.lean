/- Contracts of the reference's All, Can, First and Leave; no condition. -/
import Derived.Test.YtjddcaimjofihaaT2
import Derived.Test.YtjddcaimjofihaaP3
namespace Go.Proofs.Ytjddcaimjofihaa
open Go.RowKit Go.Shelf
set_option maxRecDepth 100000

set_option maxHeartbeats 4000000 in
theorem allRf_any (c : Ce) (hf : fault c = 0) (v : Value) (n : Nat) (w : World) (hn : n ≤ w.heap.size) (h : CeV (Lt n) w v c) :
    Calls Try.prog 31 #[v] w fun e w' => ∃ v', e = .returned v' ∧ Own w.heap.size 3 1 encI w' v' ((allR c).map fun n : Nat => (n : Int)) ∧ Below w.heap.size w w' := by
  have hg := (fault_good hf).1
  obtain ⟨⟨g1, g2, g3, g4⟩, g5, -⟩ := hg.facts
  obtain ⟨hm0, hm1, hm2⟩ := manyR_eq hf
  have h' := h
  obtain ⟨ha, hc, ka, kc, ta, tc, rfl, hp1, hp2, hp3⟩ := h.open
  have HOP := hid (And.intro hp1 (And.intro hp2 hp3))
  clear hp1 hp2 hp3
  obtain ⟨W, hW⟩ : ∃ W, W = w.alloc (Obj.cells #[.slice ha c.heaps.length hc, .slice ka c.casks.length kc, .slice ta c.trials.length tc] 26) := ⟨_, rfl⟩
  have hWs : W.heap.size = w.heap.size + 1 := by rw [hW]; simp
  have hWb : Below w.heap.size w W := by rw [hW]; exact below_alloc1 (Nat.le_refl _) _
  have hWr : W.heap[w.heap.size]? = some (.cells #[.slice ha c.heaps.length hc, .slice ka c.casks.length kc, .slice ta c.trials.length tc] 26 (0, 0)) := by rw [hW]; exact heap_new _ _
  have HBOX := hid (fun w1 (hb : Below W.heap.size W w1) => (hb.block w.heap.size (by omega)).trans hWr : ∀ w1, Below W.heap.size W w1 → w1.heap[w.heap.size]? = _)
  have HCE := hid (fun w1 (hb : Below W.heap.size W w1) => h'.below (hWb.trans (hb.mono (by omega)) |>.mono hn) : ∀ w1, Below W.heap.size W w1 → CeV (Lt _) w1 _ c)
  clear hWr h' h
  have H3 := HOP.out.2.2
  obtain ⟨_, _, he, -, hto⟩ := H3.open4
  cases he
  have HTO := hid hto
  obtain ⟨M, hM⟩ := Int.eq_ofNat_of_zero_le (show 0 ≤ manyR c by omega)
  have HM := hid (show (M : Int) = manyR c from hM.symm)
  have HR := hid (show ((allR c).map fun n : Nat => (n : Int)) = allN c M by rw [← allN_all, hM]; rfl)
  rw [hM] at hm1 hm2
  have HGD := hid hg
  have HG5 := hid g5
  have HLI := hid (fun k : Nat => fit_listed hg (nthL_listed c.heaps (good_size hg) k) : ∀ k : Nat, Fit c (nthL c.heaps k))
  clear hM hm0 hg g5 hf H3 hto HOP
  go_enter Try.func31, Try.ntmps31
  go_wp2
  rw [← hW]
  clear hW
  go_loopw [3, 4] (fun ov i wr => ∃ k : Nat, k ≤ M ∧ i = .int .i64 k ∧ Own W.heap.size 3 1 encI wr ov (allN c k) ∧ Below W.heap.size W wr) (fun _ i _ => M - (intOf i).toNat)
  case atStart => exact ⟨0, by omega, rfl, Own.nil, Below.refl _ _⟩
  case round =>
    obtain ⟨k, hk, rfl, hown, hb⟩ := hrel
    have HBr := hid hb
    have hbs := hb.size
    have hlen := allN_length c k
    obtain ⟨pa, pc, hv0, -, -⟩ := hown.slLt encI_length
    rw [hlen] at hv0
    subst hv0
    have HOWN := hid hown
    have HOB := hid hown.block
    have HLEN := hid hlen
    clear hb hown hlen
    have j0 := cell_of_row (HBOX.out wr HBr.out) 0
    have j1 := cell_of_row (HBOX.out wr HBr.out) 1
    have j2 := cell_of_row (HBOX.out wr HBr.out) 2
    simp only [List.getElem?_toArray, List.getElem?_cons_zero, List.getElem?_cons_succ] at j0 j1 j2
    go_wp2_with fail
    refine (manyR_hid c HM HG5.out (by omega) _ n wr (by omega) (HCE.out wr HBr.out)).mono ?_
    rintro e w1 ⟨rfl, hb1⟩
    have HB1 := hid (below_after HBr.out hb1 (Nat.le_refl _))
    have HD1 := hid hb1
    have hs1 := HB1.out.size
    have hd1 := hb1.size
    clear hb1 j0 j1 j2
    by_cases hlt : k < M
    · go_wp2
      obtain ⟨l, hl⟩ : ∃ l, l = nthL c.heaps (k : Int) := ⟨_, rfl⟩
      have HL := hid hl
      have HFIT := hid (show Fit c l by rw [hl]; exact HLI.out k)
      have HAN := hid (allN_succ c k)
      rw [← hl] at HAN
      clear hl
      go_loopw [5, 6] (fun bv i wr => ∃ j : Nat, j ≤ c.trials.length ∧ i = .int .i64 j ∧ bv = .int .i64 (rightsN c l j) ∧ Below w1.heap.size w1 wr) (fun _ i _ => c.trials.length - (intOf i).toNat)
      case atStart => exact ⟨0, by omega, rfl, by simp [rightsN, natOf], Below.refl _ _⟩
      case round =>
        obtain ⟨j, hj, rfl, rfl, hb2⟩ := hrel
        have HB2 := hid (below_after HB1.out hb2 (Nat.le_refl _))
        have HE2 := hid hb2
        have hs2 := HB2.out.size
        have he2 := hb2.size
        clear hb2
        by_cases hjt : j < c.trials.length
        · rcases HTO.out with hnil | ⟨b, off, rfl, hbn, hcc⟩
          · rw [hnil] at hjt; simp at hjt
          obtain ⟨y0, y1, y2, y3⟩ := hcc j hjt
          have hbn' : b < n := hbn
          have HAL := hid (hWb.trans (HB2.out.mono (by omega)))
          have z0 := (HAL.out.cell (p := ⟨b, off + j * 4, none⟩) (by show b < _; omega)).trans y0
          have z1 := (HAL.out.cell (p := ⟨b, off + j * 4 + 1, none⟩) (by show b < _; omega)).trans y1
          have z2 := (HAL.out.cell (p := ⟨b, off + j * 4 + 2, none⟩) (by show b < _; omega)).trans y2
          have z3 := (HAL.out.cell (p := ⟨b, off + j * 4 + 3, none⟩) (by show b < _; omega)).trans y3
          have HSU := hid (rightsN_succ c l j hjt)
          have HMEM := hid (List.getElem_mem hjt)
          have hlt2 := rightsN_lt c l j
          have hp32 : 2 ^ j ≤ 2 ^ 5 := Nat.pow_le_pow_right (by omega) (by omega)
          obtain ⟨rn, hrn⟩ : ∃ rn, rn = rightsN c l j := ⟨_, rfl⟩
          rw [← hrn] at HSU hlt2
          have HOR := hid (show bits BinOp.or IntKind.i64 (rn : Int) (wrap64 (2 ^ j)) = ((rn + 2 ^ j : Nat) : Int) from or_bitN ⟨rn, by omega⟩ ⟨j, by omega⟩ hlt2)
          rw [← hrn]
          have HRN := hid hrn
          have hwk : IntKind.u64.wrap (j : Int) = j := by unfold IntKind.wrap; simp [IntKind.bits, IntKind.signed]; omega
          clear hcc y0 y1 y2 y3 hlt2 hp32 hrn
          generalize c.trials[j] = t at *
          obtain ⟨ck, num, slo, shi⟩ := t
          obtain ⟨rb, hrb⟩ : ∃ rb, rb = rightT c l ⟨ck, num, ⟨slo, shi⟩⟩ := ⟨_, rfl⟩
          rw [← hrb] at HSU
          have HRB := hid hrb
          clear hrb
          simp only at z0 z1 z2 z3
          have j0 := cell_of_row (HBOX.out wr HB2.out) 0
          have j1 := cell_of_row (HBOX.out wr HB2.out) 1
          have j2 := cell_of_row (HBOX.out wr HB2.out) 2
          simp only [List.getElem?_toArray, List.getElem?_cons_zero, List.getElem?_cons_succ] at j0 j1 j2
          have hSS := hid (fun w' (h : Below wr.heap.size wr w') => ⟨(h.cell (p := ⟨w.heap.size, 0, none⟩) (by show w.heap.size < _; omega)).trans j0, (h.cell (p := ⟨w.heap.size, 1, none⟩) (by show w.heap.size < _; omega)).trans j1, (h.cell (p := ⟨w.heap.size, 2, none⟩) (by show w.heap.size < _; omega)).trans j2,
            (h.cell (p := ⟨b, off + j * 4, none⟩) (by show b < _; omega)).trans z0, (h.cell (p := ⟨b, off + j * 4 + 1, none⟩) (by show b < _; omega)).trans z1, (h.cell (p := ⟨b, off + j * 4 + 2, none⟩) (by show b < _; omega)).trans z2, (h.cell (p := ⟨b, off + j * 4 + 3, none⟩) (by show b < _; omega)).trans z3⟩ :
            ∀ w', Below wr.heap.size wr w' → w'.cell? ⟨w.heap.size, 0, none⟩ = some (.slice ha c.heaps.length hc) ∧ w'.cell? ⟨w.heap.size, 1, none⟩ = some (.slice ka c.casks.length kc) ∧ w'.cell? ⟨w.heap.size, 2, none⟩ = some (.slice (some ⟨b, off, none⟩) c.trials.length tc) ∧
              w'.cell? ⟨b, off + j * 4, none⟩ = some (.bool ck) ∧ w'.cell? ⟨b, off + j * 4 + 1, none⟩ = some (.int .i64 num) ∧ w'.cell? ⟨b, off + j * 4 + 2, none⟩ = some (.int .i64 slo) ∧ w'.cell? ⟨b, off + j * 4 + 3, none⟩ = some (.int .i64 shi))
          go_wp2
          refine wp_region_grow (by kernel_rfl) 99 (fun w' => Below wr.heap.size wr w') ?_ ?_
          · exact (Below.refl _ _).drew
          have HG := fun (a b : World) (h : Below wr.heap.size wr a) (k : Below a.heap.size a b) => (h.trans (k.mono h.size) : Below wr.heap.size wr b)
          clear z0 z1 z2 z3 j0 j1 j2
          refine wpG_take (i := 0) (v := .agg #[.slice ha c.heaps.length hc, .slice ka c.casks.length kc, .slice (some ⟨b, off, none⟩) c.trials.length tc]) rfl rfl (by kernel_rfl) (by kernel_rfl) (by kernel_rfl) (by kernel_rfl) (fun _ _ _ h => h) (by rfl) (fun w' hS' => grow_value ?_ hS') ?_
          · have ⟨s0, s1, s2, s3, s4, s5, s6⟩ := hSS.out _ hS'; go_simp
          try simp only [List.setIfInBounds_toArray, List.set_cons_zero, List.set_cons_succ]
          refine wpG_take (i := 1) (v := .agg #[.slice ha c.heaps.length hc, .slice ka c.casks.length kc, .slice (some ⟨b, off, none⟩) c.trials.length tc]) rfl rfl (by kernel_rfl) (by kernel_rfl) (by kernel_rfl) (by kernel_rfl) (fun _ _ _ h => h) (by rfl) (fun w' hS' => grow_value ?_ hS') ?_
          · have ⟨s0, s1, s2, s3, s4, s5, s6⟩ := hSS.out _ hS'; go_simp
          try simp only [List.setIfInBounds_toArray, List.set_cons_zero, List.set_cons_succ]
          refine wpG_take (i := 2) (v := .int .i64 k) rfl rfl (by kernel_rfl) (by kernel_rfl) (by kernel_rfl) (by kernel_rfl) (fun _ _ _ h => h) (by rfl) (fun w' hS' => grow_value ?_ hS') ?_
          · go_simp
          try simp only [List.setIfInBounds_toArray, List.set_cons_zero, List.set_cons_succ]
          refine wpG_take (i := 4) (v := .pointer (some ⟨w.heap.size, 2, none⟩)) rfl rfl (by kernel_rfl) (by kernel_rfl) (by kernel_rfl) (by kernel_rfl) (fun _ _ _ h => h) (by rfl) (fun w' hS' => grow_value ?_ hS') ?_
          · go_simp
          try simp only [List.setIfInBounds_toArray, List.set_cons_zero, List.set_cons_succ]
          refine wpG_take (i := 5) (v := .slice (some ⟨b, off, none⟩) c.trials.length tc) rfl rfl (by kernel_rfl) (by kernel_rfl) (by kernel_rfl) (by kernel_rfl) (fun _ _ _ h => h) (by rfl) (fun w' hS' => grow_value ?_ hS') ?_
          · have ⟨s0, s1, s2, s3, s4, s5, s6⟩ := hSS.out _ hS'; go_simp
          try simp only [List.setIfInBounds_toArray, List.set_cons_zero, List.set_cons_succ]
          refine wpG_take (i := 6) (v := .int .i64 j) rfl rfl (by kernel_rfl) (by kernel_rfl) (by kernel_rfl) (by kernel_rfl) (fun _ _ _ h => h) (by rfl) (fun w' hS' => grow_value ?_ hS') ?_
          · go_simp
          try simp only [List.setIfInBounds_toArray, List.set_cons_zero, List.set_cons_succ]
          refine wpG_take (i := 7) (v := .pointer (some ⟨b, off + j * 4, none⟩)) rfl rfl (by kernel_rfl) (by kernel_rfl) (by kernel_rfl) (by kernel_rfl) (fun _ _ _ h => h) (by rfl) (fun w' hS' => grow_value ?_ hS') ?_
          · go_simp
          try simp only [List.setIfInBounds_toArray, List.set_cons_zero, List.set_cons_succ]
          refine wpG_take (i := 8) (v := .agg #[.bool ck, .int .i64 num, .int .i64 slo, .int .i64 shi]) rfl rfl (by kernel_rfl) (by kernel_rfl) (by kernel_rfl) (by kernel_rfl) (fun _ _ _ h => h) (by rfl) (fun w' hS' => grow_value ?_ hS') ?_
          · have ⟨s0, s1, s2, s3, s4, s5, s6⟩ := hSS.out _ hS'; go_simp
          try simp only [List.setIfInBounds_toArray, List.set_cons_zero, List.set_cons_succ]
          refine wpG_only (i := 3) rfl (by rfl) (by kernel_rfl) (by rfl) (fun w5 hb5 hS5 => ?_)
          go_simp
          refine (nth_any c HG5.out (by omega) k (by omega) _ n w5 (by have := hS5.size; omega) (HCE.out w5 (HB2.out.trans (hS5.mono (by omega))))).mono ?_
          rintro e w6 ⟨v6, rfl, ho6, hb6⟩
          have hS6 : Below wr.heap.size wr w6 := hS5.trans (hb6.mono hS5.size)
          refine ⟨hS6, ?_⟩
          have hi6 : Ints (Lt w6.heap.size) w6 v6 l := by rw [HL.out]; exact ho6.slLt encI_length
          try simp only [List.setIfInBounds_toArray, List.set_cons_zero, List.set_cons_succ]
          refine wpG_only (i := 9) rfl (by rfl) (by kernel_rfl) (by rfl) (fun w7 hb7 hS7 => ?_)
          go_simp
          refine (rightR_hid c HGD.out l HFIT.out _ _ ⟨ck, num, ⟨slo, shi⟩⟩ HMEM.out HRB w6.heap.size w7 hb7.size ((HCE.out w7 (HB2.out.trans (hS7.mono (by omega)))).le (by have := hS6.size; omega)) (hi6.below hb7)).mono ?_
          rintro e w8 ⟨rfl, hb8⟩
          refine ⟨hS7.trans (hb8.mono hS7.size), ?_⟩
          try simp only [List.setIfInBounds_toArray, List.set_cons_zero, List.set_cons_succ]
          refine wpG_done (by kernel_rfl) (fun w9 hb9 hS9 => ?_) _
          have HE9 := hid (HE2.out.trans (hS9.mono (by omega)))
          clear hSS HG hb9 hS9 hb8 hS7 hb7 hi6 hS6 hb6 ho6 hS5 hb5
          cases rb with
          | false =>
            go_wp2
            go_roundw
            case rel => exact ⟨j + 1, by omega, by go_num, by rw [HSU.out]; simp, HE9.out⟩
            case measure => simp [intOf]; omega
          | true =>
            go_wp2
            go_roundw
            case rel => exact ⟨j + 1, by omega, by go_num, by rw [HSU.out, HOR.out]; simp, HE9.out⟩
            case measure => simp [intOf]; omega
        · have hjt' : j = c.trials.length := by omega
          have HJ := hid hjt'
          have j2 := cell_of_row (HBOX.out wr HB2.out) 2
          simp only [List.getElem?_toArray, List.getElem?_cons_zero, List.getElem?_cons_succ] at j2
          obtain ⟨z, hz⟩ : ∃ z : Int, z = (rightsN c l j : Int) := ⟨_, rfl⟩
          rw [← hz]
          have HZ := hid (show z = ((natOf (rightsL c l) : Nat) : Int) by rw [hz, hjt', rightsN_all])
          clear hz hjt'
          have hown2 := ((HOWN.out.below HD1.out).below HE2.out).below (below_alloc1 (Nat.le_refl _) (Obj.cells #[.int .i64 z] 3))
          have HOWN2 := hid hown2
          clear hown2
          go_wp2_with (at_builtin; refine wpList_append1 encI rfl _ _ 47 rfl W.heap.size 3 (.int .i64 0) 1 8 ints_under infoInt rfl (by decide) encI_length encI_one _ _ rfl HOWN2.out _ _ z rfl (cells_new _ [Value.int .i64 z] _) (by have := HLEN.out; omega) (by decide) (by simp; omega) ?_; intro v' w4 hown' hgrow)
          have HX := hid hown'
          have HGW := hid (HOWN2.out.grown hgrow (HB2.out.alloc (by omega) _) (Nat.le_refl _) (by simp; omega))
          clear hown' hgrow
          go_roundw
          case rel => exact ⟨k + 1, by omega, by go_num, by rw [HAN.out, ← HZ.out]; exact HX.out, HGW.out⟩
          case measure => simp [intOf]; omega
    · go_wp2
      go_ret
      obtain rfl : k = M := by omega
      refine ⟨_, rfl, ?_, hWb.trans (HB1.out.mono (by omega))⟩
      rw [HR.out]
      exact (HOWN.out.below HD1.out).lower (by omega)
end Go.Proofs.Ytjddcaimjofihaa
