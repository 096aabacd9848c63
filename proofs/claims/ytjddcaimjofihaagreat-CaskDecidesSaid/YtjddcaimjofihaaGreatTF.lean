/- The contract of the statements' IsThings, at any list; no condition. -/
import Derived.Test.YtjddcaimjofihaaGreatTE
import Derived.Test.YtjddcaimjofihaaGreatP7
namespace Go.Proofs.YtjddcaimjofihaaGreat
open Go.RowKit Go.Shelf
set_option maxRecDepth 100000

/-- The bits of the first k of a rising list. -/
def topN (l : List Int) (k : Nat) : Nat := if k = 0 then 0 else (l.getD (k - 1) 0).toNat + 1
def PreOf (l : List Int) (k z : Nat) : Prop := bitsL z = l.take k ∧ z < 2 ^ topN l k
theorem PreOf.zero (l : List Int) : PreOf l 0 0 := ⟨by rw [List.take_zero]; decide +kernel, by simp [topN]⟩
theorem PreOf.next {l : List Int} {k z x : Nat} (h : PreOf l k z) (hk : k < l.length) (hx : l.getD k 0 = (x : Int)) (hup : 0 < k → l.getD (k - 1) 0 < (x : Int)) (h6 : x < 6) (h0 : 0 < k → 0 ≤ l.getD (k - 1) 0) :
    bits BinOp.or IntKind.i64 (z : Int) (wrap64 (2 ^ x)) = ((z + 2 ^ x : Nat) : Int) ∧ PreOf l (k + 1) (z + 2 ^ x) := by
  have ht : topN l k ≤ x := by
    unfold topN
    split
    · omega
    · have := hup (by omega); have := h0 (by omega); omega
  have hz : z < 2 ^ x := Nat.lt_of_lt_of_le h.2 (Nat.pow_le_pow_right (by omega) ht)
  have h64 : z < 64 := Nat.lt_of_lt_of_le hz (Nat.pow_le_pow_right (by omega) (show x ≤ 6 by omega) : 2 ^ x ≤ 2 ^ 6)
  obtain ⟨h1, h2⟩ := or_bitM ⟨z, h64⟩ ⟨x, h6⟩ hz
  refine ⟨h1, ?_, ?_⟩
  · have hxe : l[k] = (x : Int) := by rw [← hx, List.getD_eq_getElem?_getD, List.getElem?_eq_getElem hk]; rfl
    rw [List.take_succ_eq_append_getElem hk, hxe, ← h.1]; exact h2
  · have e : topN l (k + 1) = x + 1 := by unfold topN; rw [if_neg (by omega), Nat.add_sub_cancel, hx]; rfl
    rw [e, Nat.pow_succ]; omega
theorem PreOf.all {l : List Int} {z N : Nat} (h : PreOf l l.length z) (hr : RisesTo (N : Int) l l.length) : bitsL z = l ∧ z < 2 ^ N := by
  refine ⟨by rw [h.1, List.take_length], Nat.lt_of_lt_of_le h.2 (Nat.pow_le_pow_right (by omega) ?_)⟩
  unfold topN
  split
  · omega
  · have := hr (l.length - 1) (by omega); omega
theorem RisesTo.snoc {N : Int} {l : List Int} {k : Nat} (h : RisesTo N l k) (h1 : 0 ≤ l.getD k 0 ∧ l.getD k 0 < N ∧ (0 < k → l.getD (k - 1) 0 < l.getD k 0)) : RisesTo N l (k + 1) := fun j hj => by
  by_cases e : j = k
  · subst e; exact h1
  · exact h j (by omega)

set_option maxHeartbeats 4000000 in
theorem isThings_any (c : Ce) (hg : Good c) (l : List Int) (hll : l.length ≤ 100) {r : Bool} (H1 : RisesTo (c.heaps.length + c.casks.length) l l.length → r = true)
    (H0 : ∀ k, k < l.length → ¬ (0 ≤ l.getD k 0 ∧ l.getD k 0 < c.heaps.length + c.casks.length ∧ (0 < k → l.getD (k - 1) 0 < l.getD k 0)) → r = false) (v vl : Value) (n : Nat) (w : World) (hn : n ≤ w.heap.size) (h : CeV (Lt n) w v c) (hl : Ints (Lt n) w vl l) :
    Calls Tryz.prog 13 #[v, vl] w fun e w' => ∃ z : Nat, e = .returned (.tuple #[.int .i64 z, .bool r]) ∧ (r = true → bitsL z = l ∧ z < 2 ^ (c.heaps.length + c.casks.length)) ∧ Below w.heap.size w w' := by
  obtain ⟨la, lc, rfl, -, hlo⟩ := hl.open1
  have h' := h
  obtain ⟨ha, hc, ka, kc, ta, tc, rfl, hp1, hp2, hp3⟩ := h.open
  have HOP := hid (And.intro hp1 (And.intro hp2 hp3))
  clear hp1 hp2 hp3
  obtain ⟨W, hW⟩ : ∃ W, W = w.alloc (Obj.cells #[.slice ha c.heaps.length hc, .slice ka c.casks.length kc, .slice ta c.trials.length tc] 26) := ⟨_, rfl⟩
  have hWs : W.heap.size = w.heap.size + 1 := by rw [hW]; simp
  have hWb : Below w.heap.size w W := by rw [hW]; exact below_alloc1 (Nat.le_refl _) _
  have hWr : W.heap[w.heap.size]? = some (.cells #[.slice ha c.heaps.length hc, .slice ka c.casks.length kc, .slice ta c.trials.length tc] 26 (0, 0)) := by rw [hW]; exact heap_new _ _
  have HBOX := hid (fun w1 (hb : Below W.heap.size W w1) => (hb.block w.heap.size (by omega)).trans hWr : ∀ w1, Below W.heap.size W w1 → w1.heap[w.heap.size]? = _)
  have HCE := hid (fun w1 (hb : Below W.heap.size W w1) => h'.below (hWb.trans (hb.mono (by omega)) |>.mono hn) : ∀ w1, Below W.heap.size W w1 → CeV (Lt _) w1 _ c)
  clear hWr h' h
  obtain ⟨⟨g1, g2, g3, -⟩, -⟩ := hg.facts
  obtain ⟨N, hN⟩ : ∃ N, N = c.heaps.length + c.casks.length := ⟨_, rfl⟩
  have HH1 := hid (show RisesTo (N : Int) l l.length → r = true by rw [hN, Int.natCast_add]; exact H1)
  have HH0 := hid (show ∀ k, k < l.length → ¬ (0 ≤ l.getD k 0 ∧ l.getD k 0 < (N : Int) ∧ (0 < k → l.getD (k - 1) 0 < l.getD k 0)) → r = false by rw [hN, Int.natCast_add]; exact H0)
  rw [← hN]
  have HN := hid hN
  have hN6 : N ≤ 6 := by omega
  have HLO := hid hlo
  clear hl hlo H1 H0 HOP hN
  go_enter Tryz.func13, Tryz.ntmps13
  go_wp2
  rw [← hW]
  clear hW
  go_loopw [6, 7] (fun bv i wr => ∃ (k z : Nat), k ≤ l.length ∧ i = .int .i64 k ∧ bv = .int .i64 z ∧ Hid (PreOf l k z) ∧ Hid (RisesTo (N : Int) l k) ∧ Below W.heap.size W wr) (fun _ i _ => l.length - (intOf i).toNat)
  case atStart => exact ⟨0, 0, by omega, rfl, rfl, hid (PreOf.zero l), hid (fun j hj => by omega), Below.refl _ _⟩
  case round =>
    obtain ⟨k, z, hk, rfl, rfl, HP, HR, hb⟩ := hrel
    have HBr := hid hb
    have hsr := hb.size
    clear hb
    by_cases hlt : k < l.length
    · rcases HLO.out with hnil | ⟨b, off, rfl, hbn, hcc⟩
      · rw [hnil] at hlt; simp at hlt
      have hbn' : b < n := hbn
      have HAL := hid (hWb.trans (HBr.out.mono (by omega)))
      have y0 := (HAL.out.cell (p := ⟨b, off + k, none⟩) (by show b < _; omega)).trans (hcc k hlt)
      have hgd : l[k] = l.getD k 0 := by rw [List.getD_eq_getElem?_getD, List.getElem?_eq_getElem hlt]; rfl
      rw [hgd] at y0
      have HCC := hid hcc
      obtain ⟨xi, hxi⟩ : ∃ xi, xi = l.getD k 0 := ⟨_, rfl⟩
      rw [← hxi] at y0
      have HXI := hid hxi
      obtain ⟨ib, hib⟩ : ∃ ib, ib = within xi 0 ((N : Int) - 1) := ⟨_, rfl⟩
      have HIB := hid hib
      have hwr : IntKind.i64.wrap ((N : Int) - 1) = (N : Int) - 1 := IntWalk.i64_in _ (by omega)
      clear hgd hcc hxi hib
      obtain ⟨hgc, hgf⟩ := grew_cells wr
      have lb : b < wr.heap.size := by omega
      have lw : w.heap.size < wr.heap.size := by omega
      have HCg := hid (fun g => HCE.out _ (HBr.out.trans ((grew_below wr g).mono (by omega))) : ∀ g, CeV (Lt n) (World.grew wr g) _ c)
      cases ib with
      | false =>
        have HF := hid (HH0.out k hlt (fun hh => by
          have := HIB.out.symm
          rw [HXI.out] at this
          rw [within_iff.2 (by omega)] at this
          cases this))
        have j0 := cell_of_row (HBOX.out wr HBr.out) 0
        have j1 := cell_of_row (HBOX.out wr HBr.out) 1
        have j2 := cell_of_row (HBOX.out wr HBr.out) 2
        simp only [List.getElem?_toArray, List.getElem?_cons_zero, List.getElem?_cons_succ] at j0 j1 j2
        go_wp2
        refine wp_region_grew (by kernel_rfl) (by kernel_rfl) ?_
        repeat (go_big_quiet_step ((first | (go_at_call 39; exact grew_of (things_hidE c HN (by omega) (by omega) _ n _ (HCg.out _))) | (go_at_call 12; exact grew_same (inE_hid _ _ _ HIB _)))))
        refine wpQuiet_nil ?_
        rintro _ ⟨ex, rfl⟩
        have HE := hid (HBr.out.trans ((grew_below wr ex).mono hsr))
        go_wp2
        go_ret2
        obtain rfl := HF.out
        exact ⟨0, rfl, fun h => (by cases h), hWb.trans (HE.out.mono (by omega))⟩
      | true =>
        have hin := within_iff.1 HIB.out.symm
        obtain ⟨x, rfl⟩ := Int.eq_ofNat_of_zero_le hin.1
        have hx6 : x < 6 := by omega
        have hxN : x < N := by omega
        have hwx : IntKind.u64.wrap (x : Int) = x := by unfold IntKind.wrap; simp [IntKind.bits, IntKind.signed]; omega
        clear hin
        have j0 := cell_of_row (HBOX.out wr HBr.out) 0
        have j1 := cell_of_row (HBOX.out wr HBr.out) 1
        have j2 := cell_of_row (HBOX.out wr HBr.out) 2
        simp only [List.getElem?_toArray, List.getElem?_cons_zero, List.getElem?_cons_succ] at j0 j1 j2
        by_cases hz : k = 0
        · subst hz
          rw [Nat.add_zero] at y0
          have hd : decide ((0 : Int) < ((0 : Nat) : Int)) = false := rfl
          have HNX := hid (HP.out.next hlt HXI.out.symm (fun h => by omega) hx6 (fun h => by omega))
          have HR1 := hid (HR.out.snoc (by rw [← HXI.out]; omega))
          go_wp2
          refine wp_region_grew (by kernel_rfl) (by kernel_rfl) ?_
          repeat (go_big_quiet_step ((first | (go_at_call 39; exact grew_of (things_hidE c HN (by omega) (by omega) _ n _ (HCg.out _))) | (go_at_call 12; exact grew_same (inE_hid _ _ _ HIB _)))))
          refine wpQuiet_nil ?_
          rintro _ ⟨ex, rfl⟩
          have HE := hid (HBr.out.trans ((grew_below wr ex).mono hsr))
          go_wp2
          go_roundw
          case rel => exact ⟨1, _, by omega, by go_num, by rw [HNX.out.1], hid HNX.out.2, hid HR1.out, HE.out⟩
          case measure => simp [intOf]; omega
        · have hd : decide ((0 : Int) < (k : Int)) = true := decide_eq_true (by omega)
          have hdn : decide (0 < k) = true := decide_eq_true (by omega)
          have hkp : 1 ≤ k := by omega
          have hk1 : k - 1 < l.length := by omega
          have hgd1 : l[k - 1] = l.getD (k - 1) 0 := by rw [List.getD_eq_getElem?_getD, List.getElem?_eq_getElem hk1]; rfl
          have y1 := (HAL.out.cell (p := ⟨b, off + (k - 1), none⟩) (by show b < _; omega)).trans (HCC.out (k - 1) hk1)
          rw [hgd1] at y1
          obtain ⟨q0, q1, -⟩ := HR.out (k - 1) (by omega)
          obtain ⟨y, hy⟩ := Int.eq_ofNat_of_zero_le q0
          rw [hy] at y1
          have HY := hid hy
          have hwr2 : IntKind.i64.wrap ((k : Int) - 1) = (k : Int) - 1 := IntWalk.i64_in _ (by omega)
          clear hgd1 q0 q1 hy
          by_cases hup : y < x
          · have hle : decide ((x : Int) ≤ (y : Int)) = false := decide_eq_false (by omega)
            have hle2 : decide (x ≤ y) = false := decide_eq_false (by omega)
            have HNX := hid (HP.out.next hlt HXI.out.symm (fun _ => by rw [HY.out]; omega) hx6 (fun _ => by rw [HY.out]; omega))
            have HR1 := hid (HR.out.snoc (by rw [← HXI.out, HY.out]; omega))
            go_wp2
            refine wp_region_grew (by kernel_rfl) (by kernel_rfl) ?_
            repeat (go_big_quiet_step ((first | (go_at_call 39; exact grew_of (things_hidE c HN (by omega) (by omega) _ n _ (HCg.out _))) | (go_at_call 12; exact grew_same (inE_hid _ _ _ HIB _)))))
            refine wpQuiet_nil ?_
            rintro _ ⟨ex, rfl⟩
            have HE := hid (HBr.out.trans ((grew_below wr ex).mono hsr))
            go_wp2
            go_roundw
            case rel => exact ⟨k + 1, _, by omega, by go_num, by rw [HNX.out.1], hid HNX.out.2, hid HR1.out, HE.out⟩
            case measure => simp [intOf]; omega
          · have hle : decide ((x : Int) ≤ (y : Int)) = true := decide_eq_true (by omega)
            have hle2 : decide (x ≤ y) = true := decide_eq_true (by omega)
            have HF := hid (HH0.out k hlt (fun hh => by have := hh.2.2 (by omega); rw [← HXI.out, HY.out] at this; omega))
            go_wp2
            refine wp_region_grew (by kernel_rfl) (by kernel_rfl) ?_
            repeat (go_big_quiet_step ((first | (go_at_call 39; exact grew_of (things_hidE c HN (by omega) (by omega) _ n _ (HCg.out _))) | (go_at_call 12; exact grew_same (inE_hid _ _ _ HIB _)))))
            refine wpQuiet_nil ?_
            rintro _ ⟨ex, rfl⟩
            have HE := hid (HBr.out.trans ((grew_below wr ex).mono hsr))
            go_wp2
            go_ret2
            obtain rfl := HF.out
            exact ⟨0, rfl, fun h => (by cases h), hWb.trans (HE.out.mono (by omega))⟩
    · have hke : k = l.length := by omega
      subst hke
      have HT := hid (HP.out.all HR.out)
      have HF := hid (HH1.out HR.out)
      go_wp2
      go_ret2
      obtain rfl := HF.out
      exact ⟨z, rfl, fun _ => HT.out, hWb.trans (HBr.out.mono (by omega))⟩
end Go.Proofs.YtjddcaimjofihaaGreat
