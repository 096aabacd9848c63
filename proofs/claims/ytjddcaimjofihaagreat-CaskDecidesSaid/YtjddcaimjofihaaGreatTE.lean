/- The contract of the statements' IsThings, at a rising list; no condition. -/
import Derived.Test.YtjddcaimjofihaaGreatT3
import Derived.Test.YtjddcaimjofihaaGreatC1
namespace Go.Proofs.YtjddcaimjofihaaGreat
open Go.RowKit Go.Shelf
set_option maxRecDepth 100000

theorem inE_hid {b : Bool} (n lo hi : Int) (HB : Hid (b = within n lo hi)) (w : World) : Calls Tryz.prog 12 #[.int .i64 n, .int .i64 lo, .int .i64 hi] w fun e w' => e = .returned (.bool b) ∧ w = w' := by
  rw [HB.out]; exact inR_any n lo hi w
theorem things_hidE {N : Nat} (c : Ce) (HN : Hid (N = c.heaps.length + c.casks.length)) (h3 : c.heaps.length ≤ 1000) (h4 : c.casks.length ≤ 1000) (v : Value) (n : Nat) (w : World) (h : CeV (Lt n) w v c) :
    Calls Tryz.prog 39 #[v] w fun e w' => e = .returned (.int .i64 N) ∧ Below w.heap.size w w' := by
  have := things_any c h3 h4 v n w h
  rwa [← Int.natCast_add, ← HN.out] at this

set_option maxHeartbeats 4000000 in
theorem isThings_ok (c : Ce) (hg : Good c) (l : List Int) (hll : l.length ≤ 100) (hr : RisesTo (c.heaps.length + c.casks.length) l l.length) (v vl : Value) (n : Nat) (w : World) (hn : n ≤ w.heap.size) (h : CeV (Lt n) w v c) (hl : Ints (Lt n) w vl l) :
    Calls Tryz.prog 13 #[v, vl] w fun e w' => ∃ z : Int, e = .returned (.tuple #[.int .i64 z, .bool true]) ∧ Below w.heap.size w w' := by
  obtain ⟨la, lc, rfl, -, hlo⟩ := hl.open1
  have h' := h
  obtain ⟨ha, hc, ka, kc, ta, tc, rfl, hp1, hp2, hp3⟩ := h.open
  have HOP := hid (And.intro hp1 (And.intro hp2 hp3))
  clear hp1 hp2 hp3
  obtain ⟨W, hW⟩ : ∃ W, W = w.alloc (Obj.cells #[.slice ha c.heaps.length hc, .slice ka c.casks.length kc, .slice ta c.trials.length tc] 26) := ⟨_, rfl⟩
  have hWs : W.heap.size = w.heap.size + 1 := by rw [hW]; simp
  have hWb : Below w.heap.size w W := by rw [hW]; exact below_alloc1 (Nat.le_refl _) _
  have hWr : W.heap[w.heap.size]? = some (.cells #[.slice ha c.heaps.length hc, .slice ka c.casks.length kc, .slice ta c.trials.length tc] 26 (0, 0)) := by rw [hW]; exact heap_new _ _
  have HBOX := hid (fun w1 (hb : Below W.heap.size W w1) => (hb.block w.heap.size (by omega)).trans hWr : ∀ w1, Below W.heap.size W w1 → w1.heap[w.heap.size]? = _)
  have HCE := hid (fun w1 (hb : Below W.heap.size W w1) => h'.below (hWb.trans (hb.mono (by omega)) |>.mono hn) : ∀ w1, Below W.heap.size W w1 → CeV (Lt _) w1 _ c)
  clear hWr h' h
  obtain ⟨⟨g1, g2, g3, -⟩, -⟩ := hg.facts
  obtain ⟨N, hN⟩ : ∃ N, N = c.heaps.length + c.casks.length := ⟨_, rfl⟩
  have hr' : RisesTo (N : Int) l l.length := by rw [hN, Int.natCast_add]; exact hr
  have HN := hid hN
  have hN6 : N ≤ 6 := by omega
  have HR := hid hr'
  have HLO := hid hlo
  clear hl hlo hr hr' HOP hN
  go_enter Tryz.func13, Tryz.ntmps13
  go_wp2
  rw [← hW]
  clear hW
  go_loopw [6, 7] (fun bv i wr => ∃ (k : Nat) (z : Int), k ≤ l.length ∧ i = .int .i64 k ∧ bv = .int .i64 z ∧ Below W.heap.size W wr) (fun _ i _ => l.length - (intOf i).toNat)
  case atStart => exact ⟨0, 0, by omega, rfl, rfl, Below.refl _ _⟩
  case round =>
    obtain ⟨k, z, hk, rfl, rfl, hb⟩ := hrel
    have HBr := hid hb
    have hsr := hb.size
    clear hb
    by_cases hlt : k < l.length
    · rcases HLO.out with hnil | ⟨b, off, rfl, hbn, hcc⟩
      · rw [hnil] at hlt; simp at hlt
      have hbn' : b < n := hbn
      have HAL := hid (hWb.trans (HBr.out.mono (by omega)))
      have y0 := (HAL.out.cell (p := ⟨b, off + k, none⟩) (by show b < _; omega)).trans (hcc k hlt)
      have hgd : l[k] = l.getD k 0 := by rw [List.getD_eq_getElem?_getD, List.getElem?_eq_getElem hlt]; rfl
      obtain ⟨h0, h1, h2⟩ := HR.out k hlt
      rw [hgd] at y0
      obtain ⟨x, hx⟩ := Int.eq_ofNat_of_zero_le h0
      rw [hx] at y0 h1 h2
      have HIB := hid (show true = within (x : Int) 0 ((N : Int) - 1) by rw [eq_comm, within_iff]; omega)
      have hwr : IntKind.i64.wrap ((N : Int) - 1) = (N : Int) - 1 := IntWalk.i64_in _ (by omega)
      have hwx : IntKind.u64.wrap (x : Int) = x := by unfold IntKind.wrap; simp [IntKind.bits, IntKind.signed]; omega
      have hx6 : x < 6 := by omega
      have HCC := hid hcc
      have H2 := hid h2
      clear hgd hcc hx h2
      have j0 := cell_of_row (HBOX.out wr HBr.out) 0
      have j1 := cell_of_row (HBOX.out wr HBr.out) 1
      have j2 := cell_of_row (HBOX.out wr HBr.out) 2
      simp only [List.getElem?_toArray, List.getElem?_cons_zero, List.getElem?_cons_succ] at j0 j1 j2
      obtain ⟨hgc, hgf⟩ := grew_cells wr
      have lb : b < wr.heap.size := by omega
      have lw : w.heap.size < wr.heap.size := by omega
      have HCg := hid (fun g => HCE.out _ (HBr.out.trans ((grew_below wr g).mono (by omega))) : ∀ g, CeV (Lt n) (World.grew wr g) _ c)
      by_cases hz : k = 0
      · subst hz
        rw [Nat.add_zero] at y0
        have hd : decide ((0 : Int) < ((0 : Nat) : Int)) = false := rfl
        go_wp2
        refine wp_region_grew (by kernel_rfl) (by kernel_rfl) ?_
        repeat (go_big_quiet_step ((first | (go_at_call 39; exact grew_of (things_hidE c HN (by omega) (by omega) _ n _ (HCg.out _))) | (go_at_call 12; exact grew_same (inE_hid _ _ _ HIB _)))))
        refine wpQuiet_nil ?_
        rintro _ ⟨ex, rfl⟩
        have HE := hid (HBr.out.trans ((grew_below wr ex).mono hsr))
        go_wp2
        go_roundw
        case rel => exact ⟨1, _, by omega, by go_num, rfl, HE.out⟩
        case measure => simp [intOf]; omega
      · have hd : decide ((0 : Int) < (k : Int)) = true := decide_eq_true (by omega)
        have hdn : decide (0 < k) = true := decide_eq_true (by omega)
        have hkp : 1 ≤ k := by omega
        have hk1 : k - 1 < l.length := by omega
        obtain ⟨q0, q1, -⟩ := HR.out (k - 1) hk1
        obtain ⟨y, hy⟩ := Int.eq_ofNat_of_zero_le q0
        have hup := H2.out (by omega)
        rw [hy] at hup
        have hgd1 : l[k - 1] = (y : Int) := by rw [← hy, List.getD_eq_getElem?_getD, List.getElem?_eq_getElem hk1]; rfl
        have y1 := (HAL.out.cell (p := ⟨b, off + (k - 1), none⟩) (by show b < _; omega)).trans (HCC.out (k - 1) hk1)
        rw [hgd1] at y1
        have hle : decide ((x : Int) ≤ (y : Int)) = false := decide_eq_false (by omega)
        have hle2 : decide (x ≤ y) = false := decide_eq_false (by omega)
        have hwr2 : IntKind.i64.wrap ((k : Int) - 1) = (k : Int) - 1 := IntWalk.i64_in _ (by omega)
        clear hgd1 hy q0 q1
        go_wp2
        refine wp_region_grew (by kernel_rfl) (by kernel_rfl) ?_
        repeat (go_big_quiet_step ((first | (go_at_call 39; exact grew_of (things_hidE c HN (by omega) (by omega) _ n _ (HCg.out _))) | (go_at_call 12; exact grew_same (inE_hid _ _ _ HIB _)))))
        refine wpQuiet_nil ?_
        rintro _ ⟨ex, rfl⟩
        have HE := hid (HBr.out.trans ((grew_below wr ex).mono hsr))
        go_wp2
        go_roundw
        case rel => exact ⟨k + 1, _, by omega, by go_num, rfl, HE.out⟩
        case measure => simp [intOf]; omega
    · go_wp2
      go_ret2
      exact ⟨_, rfl, hWb.trans (HBr.out.mono (by omega))⟩
end Go.Proofs.YtjddcaimjofihaaGreat
