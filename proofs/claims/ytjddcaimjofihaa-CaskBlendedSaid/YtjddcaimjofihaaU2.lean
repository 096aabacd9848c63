/- The contract of the statements' stocked; no condition. -/
import Derived.Test.YtjddcaimjofihaaU1
namespace Go.Proofs.Ytjddcaimjofihaa
open Go.RowKit Go.Shelf
set_option maxRecDepth 100000

/-- A stock by numbers. -/
def stockL (s : List Int) (k : Nat) : List Int := (s.take k).map fun x => x % 31
theorem stockL_succ (s : List Int) (k : Nat) (h : k < s.length) : stockL s (k + 1) = stockL s k ++ [s[k] % 31] := by
  rw [stockL, stockL, List.take_succ_eq_append_getElem h, List.map_append]; rfl
theorem stockL_length (s : List Int) (k : Nat) (h : k ≤ s.length) : (stockL s k).length = k := by simp [stockL]; omega
theorem stockL_bd (s : List Int) (k : Nat) : ∀ x ∈ stockL s k, 0 ≤ x ∧ x ≤ 30 := fun x hx => by
  obtain ⟨y, -, rfl⟩ := List.mem_map.1 hx
  omega

set_option maxHeartbeats 2000000 in
theorem stocked_any (c : Ce) (hhl : c.heaps.length ≤ 3) (s0 s1 s2 : Int) (hs0 : 0 ≤ s0 ∧ s0 ≤ 255) (hs1 : 0 ≤ s1 ∧ s1 ≤ 255) (hs2 : 0 ≤ s2 ∧ s2 ≤ 255) (v : Value) (n : Nat) (w : World) (_ : n ≤ w.heap.size) (h : CeV (Lt n) w v c) :
    Calls Try.prog 70 #[v, .agg #[.int .u8 s0, .int .u8 s1, .int .u8 s2]] w fun e w' => ∃ v', e = .returned v' ∧ Own w.heap.size 3 1 encI w' v' (stockL [s0, s1, s2] c.heaps.length) ∧ Below w.heap.size w w' := by
  obtain ⟨ha, hc, ka, kc, ta, tc, rfl, -, -, -⟩ := h.open
  clear h
  obtain ⟨W, hW⟩ : ∃ W, W = (w.alloc (Obj.cells #[.slice ha c.heaps.length hc, .slice ka c.casks.length kc, .slice ta c.trials.length tc] 26)).alloc (Obj.cells #[.int .u8 s0, .int .u8 s1, .int .u8 s2] 112) := ⟨_, rfl⟩
  have hWs : W.heap.size = w.heap.size + 2 := by rw [hW]; simp
  have hWb : Below w.heap.size w W := by rw [hW]; exact below_alloc2 (Nat.le_refl _) _ _
  have q1 : W.heap[w.heap.size + 1]? = some (.cells #[.int .u8 s0, .int .u8 s1, .int .u8 s2] 112 (0, 0)) := by rw [hW]; exact heap_new2 _ _ _
  have q0 : W.heap[w.heap.size]? = some (.cells #[.slice ha c.heaps.length hc, .slice ka c.casks.length kc, .slice ta c.trials.length tc] 26 (0, 0)) := by rw [hW, Below.heap_alloc _ _ _ (by simp)]; exact heap_new _ _
  have HQ0 := hid q0
  have HQ1 := hid q1
  have HSU := hid (stockL_succ [s0, s1, s2])
  have HLE := hid (stockL_length [s0, s1, s2])
  clear q0 q1
  go_enter Try.func70, Try.ntmps70
  go_wp2
  rw [← hW]
  clear hW
  go_loopw [5, 6] (fun ov i wr => ∃ k : Nat, k ≤ c.heaps.length ∧ i = .int .i64 k ∧ Own W.heap.size 3 1 encI wr ov (stockL [s0, s1, s2] k) ∧ Below W.heap.size W wr) (fun _ i _ => c.heaps.length - (intOf i).toNat)
  case atStart => exact ⟨0, by omega, rfl, Own.nil, Below.refl _ _⟩
  case round =>
    obtain ⟨k, hk, rfl, hown, hb⟩ := hrel
    have hbs := hb.size
    have HBr := hid hb
    have hlen := HLE.out k (by simp; omega)
    obtain ⟨pa, pc, hv0, -, -⟩ := hown.slLt encI_length
    rw [hlen] at hv0
    subst hv0
    have HLEN := hid hlen
    have HOWN := hid hown
    have r0 := (hb.block w.heap.size (by omega)).trans HQ0.out
    have r1 := (hb.block (w.heap.size + 1) (by omega)).trans HQ1.out
    have j0 := cell_of_row r0 0
    have k0 := cell_of_row r1 0
    have k1 := cell_of_row r1 1
    have k2 := cell_of_row r1 2
    simp only [List.getElem?_toArray, List.getElem?_cons_zero, List.getElem?_cons_succ] at j0 k0 k1 k2
    clear hb hown hlen r0 r1
    by_cases hlt : k < c.heaps.length
    · have H3 : ∀ (q : Int) (hq : 0 ≤ q ∧ q ≤ 255), IntKind.i64.wrap q = q := fun q hq => IntWalk.i64_in _ (by omega)
      rcases (by omega : k = 0 ∨ k = 1 ∨ k = 2) with rfl | rfl | rfl
      · have hw := H3 s0 hs0
        have hm : 0 ≤ s0 % 31 ∧ s0 % 31 ≤ 30 := by omega
        have HN := hid (HSU.out 0 (by simp))
        have HO2 := hid (HOWN.out.below (below_alloc1 (Nat.le_refl _) (Obj.cells #[.int .i64 (s0 % 31)] 3)))
        clear H3
        go_wp2_with (at_builtin; refine wpList_append1 encI rfl _ _ 47 rfl W.heap.size 3 (.int .i64 0) 1 8 ints_under infoInt rfl (by decide) encI_length encI_one _ _ rfl HO2.out _ _ (s0 % 31) rfl (cells_new _ [Value.int .i64 (s0 % 31)] _) (by have := HLEN.out; omega) (by decide) (by simp; omega) ?_; intro v' w1 hown' hgrow)
        have HX := hid hown'
        have HG := hid (HO2.out.grown hgrow (HBr.out.alloc (by omega) _) (Nat.le_refl _) (by simp; omega))
        clear hown' hgrow
        go_roundw
        case rel => exact ⟨0 + 1, by omega, by go_num, by rw [HN.out]; exact HX.out, HG.out⟩
        case measure => simp [intOf]; omega
      · have hw := H3 s1 hs1
        have hm : 0 ≤ s1 % 31 ∧ s1 % 31 ≤ 30 := by omega
        have HN := hid (HSU.out 1 (by simp))
        have HO2 := hid (HOWN.out.below (below_alloc1 (Nat.le_refl _) (Obj.cells #[.int .i64 (s1 % 31)] 3)))
        clear H3
        go_wp2_with (at_builtin; refine wpList_append1 encI rfl _ _ 47 rfl W.heap.size 3 (.int .i64 0) 1 8 ints_under infoInt rfl (by decide) encI_length encI_one _ _ rfl HO2.out _ _ (s1 % 31) rfl (cells_new _ [Value.int .i64 (s1 % 31)] _) (by have := HLEN.out; omega) (by decide) (by simp; omega) ?_; intro v' w1 hown' hgrow)
        have HX := hid hown'
        have HG := hid (HO2.out.grown hgrow (HBr.out.alloc (by omega) _) (Nat.le_refl _) (by simp; omega))
        clear hown' hgrow
        go_roundw
        case rel => exact ⟨1 + 1, by omega, by go_num, by rw [HN.out]; exact HX.out, HG.out⟩
        case measure => simp [intOf]; omega
      · have hw := H3 s2 hs2
        have hm : 0 ≤ s2 % 31 ∧ s2 % 31 ≤ 30 := by omega
        have HN := hid (HSU.out 2 (by simp))
        have HO2 := hid (HOWN.out.below (below_alloc1 (Nat.le_refl _) (Obj.cells #[.int .i64 (s2 % 31)] 3)))
        clear H3
        go_wp2_with (at_builtin; refine wpList_append1 encI rfl _ _ 47 rfl W.heap.size 3 (.int .i64 0) 1 8 ints_under infoInt rfl (by decide) encI_length encI_one _ _ rfl HO2.out _ _ (s2 % 31) rfl (cells_new _ [Value.int .i64 (s2 % 31)] _) (by have := HLEN.out; omega) (by decide) (by simp; omega) ?_; intro v' w1 hown' hgrow)
        have HX := hid hown'
        have HG := hid (HO2.out.grown hgrow (HBr.out.alloc (by omega) _) (Nat.le_refl _) (by simp; omega))
        clear hown' hgrow
        go_roundw
        case rel => exact ⟨2 + 1, by omega, by go_num, by rw [HN.out]; exact HX.out, HG.out⟩
        case measure => simp [intOf]; omega
    · have hke : k = c.heaps.length := by omega
      have HR := hid (show Own w.heap.size 3 1 encI wr (.slice pa k pc) (stockL [s0, s1, s2] c.heaps.length) by rw [← hke]; exact HOWN.out.lower (by omega))
      clear hke
      go_wp2
      go_ret
      exact ⟨_, rfl, HR.out, hWb.trans (HBr.out.mono (by omega))⟩
end Go.Proofs.Ytjddcaimjofihaa
