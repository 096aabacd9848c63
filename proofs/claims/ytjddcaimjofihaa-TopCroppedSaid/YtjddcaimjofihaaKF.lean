/- Contract of barrelled: its example's answer is true; no condition. -/
import Derived.Test.YtjddcaimjofihaaKE
import Derived.Test.YtjddcaimjofihaaB2
import Derived.Test.YtjddcaimjofihaaL0
namespace Go.Proofs.Ytjddcaimjofihaa
open Go.RowKit Go.Shelf Go.Maps
set_option maxRecDepth 100000

def exF : Fl := ⟨1, [⟨10, 10⟩, ⟨10, 10⟩], [0, 0], [20, 11], [], 1, 0, 0, []⟩
theorem exF_good : FewF exF := ⟨⟨by decide, by decide, by decide, by decide, by decide, by decide, by decide, by decide, by decide, by decide, by decide, by decide, by decide⟩, by decide⟩
theorem exF_crops : cropsF exF [10, 10] [0, 0] [0, 1] = [⟨10, 20, 200⟩, ⟨10, 11, 110⟩] := by decide
def exC : Ce := ⟨[⟨20, 20⟩, ⟨11, 11⟩], [[10, 10]], []⟩
theorem exC_fault : fault exC = 0 := by decide
theorem exC_mean : (exC.casks.map fun k => mean (pad3 [20, 11]) k) = [15] := by decide

theorem heap_push (w : World) (o : Obj) : (w.alloc o).heap = w.heap.push o := rfl
theorem intsR {w : World} {b n : Nat} {t : TypeId} (l : List Int) {cs : Array Value} (hr : w.heap[b]? = some (.cells cs t (0, 0))) (hb : b < n) (he : cs.toList = l.flatMap fun x => [Value.int .i64 x]) : Ints (Lt n) w (.slice (some ⟨b, 0, none⟩) l.length l.length) l := Sl.of_row hr hb he (fun _ => rfl) (Nat.le_refl _)
theorem rgsR {w : World} {b n : Nat} {t : TypeId} (l : List Rg) {cs : Array Value} (hr : w.heap[b]? = some (.cells cs t (0, 0))) (hb : b < n) (he : cs.toList = l.flatMap fun r : Rg => [Value.int .i64 r.lo, Value.int .i64 r.hi]) : Rgs (Lt n) w (.slice (some ⟨b, 0, none⟩) l.length l.length) l := Sl.of_row hr hb he (fun _ => rfl) (Nat.le_refl _)
theorem barrelled_any (w : World) : Calls Try.prog 50 #[] w fun e w' => e = .returned (.bool true) ∧ Below w.heap.size w w' := by
  obtain ⟨W, hW⟩ : ∃ W, W = (((((w.alloc (Obj.cells #[.int .i64 10, .int .i64 10, .int .i64 10, .int .i64 10] 149)).alloc (Obj.cells #[.int .i64 0, .int .i64 0] 3)).alloc (Obj.cells #[.int .i64 20, .int .i64 11] 3)).alloc (Obj.cells #[.int .i64 10, .int .i64 10] 3)).alloc (Obj.cells #[.int .i64 0, .int .i64 0] 3)).alloc (Obj.cells #[.int .i64 0, .int .i64 1] 3) := ⟨_, rfl⟩
  have hb : Below w.heap.size w W := by
    rw [hW]
    exact ((below_alloc2 (Nat.le_refl _) _ _).trans ((below_alloc2 (Nat.le_refl _) _ _).mono (by simp; omega))).trans ((below_alloc2 (Nat.le_refl _) _ _).mono (by simp; omega))
  have hsz : W.heap.size = w.heap.size + 6 := by rw [hW]; simp
  have r0 : W.heap[w.heap.size]? = some (.cells #[.int .i64 10, .int .i64 10, .int .i64 10, .int .i64 10] 149 (0, 0)) := by rw [hW]; simp only [heap_push, Array.getElem?_push, Array.size_push]; repeat (first | rw [if_pos trivial] | rw [if_neg (by omega)])
  have r1 : W.heap[w.heap.size + 1]? = some (.cells #[.int .i64 0, .int .i64 0] 3 (0, 0)) := by rw [hW]; simp only [heap_push, Array.getElem?_push, Array.size_push]; repeat (first | rw [if_pos trivial] | rw [if_neg (by omega)])
  have r2 : W.heap[w.heap.size + 1 + 1]? = some (.cells #[.int .i64 20, .int .i64 11] 3 (0, 0)) := by rw [hW]; simp only [heap_push, Array.getElem?_push, Array.size_push]; repeat (first | rw [if_pos trivial] | rw [if_neg (by omega)])
  have r3 : W.heap[w.heap.size + 1 + 1 + 1]? = some (.cells #[.int .i64 10, .int .i64 10] 3 (0, 0)) := by rw [hW]; simp only [heap_push, Array.getElem?_push, Array.size_push]; repeat (first | rw [if_pos trivial] | rw [if_neg (by omega)])
  have r4 : W.heap[w.heap.size + 1 + 1 + 1 + 1]? = some (.cells #[.int .i64 0, .int .i64 0] 3 (0, 0)) := by rw [hW]; simp only [heap_push, Array.getElem?_push, Array.size_push]; repeat (first | rw [if_pos trivial] | rw [if_neg (by omega)])
  have r5 : W.heap[w.heap.size + 1 + 1 + 1 + 1 + 1]? = some (.cells #[.int .i64 0, .int .i64 1] 3 (0, 0)) := by rw [hW]; simp only [heap_push, Array.getElem?_push, Array.size_push]; repeat (first | rw [if_pos trivial] | rw [if_neg (by omega)])
  have HF := hid (⟨_, _, _, _, _, rfl, rgsR [⟨10, 10⟩, ⟨10, 10⟩] r0 (by omega) rfl, intsR [0, 0] r1 (by omega) rfl, intsR [20, 11] r2 (by omega) rfl, Sl.nil, Sl.nil⟩ : FlV (Lt W.heap.size) W (.agg #[.int .i64 1, .slice (some ⟨w.heap.size, 0, none⟩) 2 2, .slice (some ⟨w.heap.size + 1, 0, none⟩) 2 2, .slice (some ⟨w.heap.size + 1 + 1, 0, none⟩) 2 2, .slice none 0 0, .int .i64 1, .int .i64 0, .int .i64 0, .slice none 0 0]) exF)
  have HG := hid (intsR [10, 10] r3 (by omega) rfl : Ints (Lt W.heap.size) W (.slice (some ⟨w.heap.size + 1 + 1 + 1, 0, none⟩) 2 2) [10, 10])
  have HWT := hid (intsR [0, 0] r4 (by omega) rfl : Ints (Lt W.heap.size) W (.slice (some ⟨w.heap.size + 1 + 1 + 1 + 1, 0, none⟩) 2 2) [0, 0])
  have HP := hid (intsR [0, 1] r5 (by omega) rfl : Ints (Lt W.heap.size) W (.slice (some ⟨w.heap.size + 1 + 1 + 1 + 1 + 1, 0, none⟩) 2 2) [0, 1])
  clear r0 r1 r2 r3 r4 r5 hsz
  go_enter Try.func50, Try.ntmps50
  go_wp2_with fail
  rw [← hW]
  clear hW
  refine (playK_ok exF exF_good [10, 10] [0, 0] [0, 1] rfl rfl rfl _ _ _ _ W.heap.size W (Nat.le_refl _) HF.out HG.out HWT.out HP.out).mono ?_
  rintro e w1 ⟨u, rfl, hcr, hb1⟩
  rw [exF_crops] at hcr
  obtain ⟨ca, cc, hu, -, hcc⟩ := hcr.open3
  simp only [List.length_cons, List.length_nil] at hu
  subst hu
  rcases hcc with hnil | ⟨cb, coff, rfl, hcb, hc⟩
  · simp at hnil
  have c0 := hc 0 (by decide)
  have c1 := hc 1 (by decide)
  have HB1 := hid (hb.trans (hb1.mono hb.size))
  have HC := hid (And.intro c0.2.2 c1.2.2)
  simp only [List.getElem_cons_zero, List.getElem_cons_succ, Nat.zero_mul, Nat.one_mul, Nat.add_zero] at c0 c1
  have hcb' : cb < w1.heap.size := hcb
  clear hc hcr hb1 HF HG HWT HP
  obtain ⟨V, hV⟩ : ∃ V, V = (((w1.alloc (Obj.cells #[.int .i64 20, .int .i64 20, .int .i64 11, .int .i64 11] 58)).alloc (Obj.cells #[.int .i64 10, .int .i64 10] 3)).alloc (Obj.cells #[.slice (some ⟨w1.heap.size + 1, 0, none⟩) 2 2] 47)).alloc (Obj.cells #[.int .i64 20, .int .i64 11] 3) := ⟨_, rfl⟩
  have hv : Below w1.heap.size w1 V := by
    rw [hV]
    exact (below_alloc2 (Nat.le_refl _) _ _).trans ((below_alloc2 (Nat.le_refl _) _ _).mono (by simp; omega))
  have hsz : V.heap.size = w1.heap.size + 4 := by rw [hV]; simp
  have r0 : V.heap[w1.heap.size]? = some (.cells #[.int .i64 20, .int .i64 20, .int .i64 11, .int .i64 11] 58 (0, 0)) := by rw [hV]; simp only [heap_push, Array.getElem?_push, Array.size_push]; repeat (first | rw [if_pos trivial] | rw [if_neg (by omega)])
  have r1 : V.heap[w1.heap.size + 1]? = some (.cells #[.int .i64 10, .int .i64 10] 3 (0, 0)) := by rw [hV]; simp only [heap_push, Array.getElem?_push, Array.size_push]; repeat (first | rw [if_pos trivial] | rw [if_neg (by omega)])
  have r2 : V.heap[w1.heap.size + 1 + 1]? = some (.cells #[.slice (some ⟨w1.heap.size + 1, 0, none⟩) 2 2] 47 (0, 0)) := by rw [hV]; simp only [heap_push, Array.getElem?_push, Array.size_push]; repeat (first | rw [if_pos trivial] | rw [if_neg (by omega)])
  have r3 : V.heap[w1.heap.size + 1 + 1 + 1]? = some (.cells #[.int .i64 20, .int .i64 11] 3 (0, 0)) := by rw [hV]; simp only [heap_push, Array.getElem?_push, Array.size_push]; repeat (first | rw [if_pos trivial] | rw [if_neg (by omega)])
  have hk := intsR [10, 10] r1 (show _ < V.heap.size by omega) rfl
  have hks : Lss (Lt V.heap.size) V (.slice (some ⟨w1.heap.size + 1 + 1, 0, none⟩) 1 1) [[10, 10]] :=
    Lss.of (vs := [.slice (some ⟨w1.heap.size + 1, 0, none⟩) 2 2]) (Sl.of_row (α := Value) (sz := 1) (enc := fun v : Value => [v]) (S := Lt V.heap.size) (l := [.slice (some ⟨w1.heap.size + 1, 0, none⟩) 2 2]) r2 (by show _ < _; omega) rfl (fun _ => rfl) (Nat.le_refl _)) rfl (fun j x l hx hl => by
      match j, hx, hl with
      | 0, hx, hl => cases hx; cases hl; exact hk
      | j + 1, hx, _ => simp at hx)
  have HCE := hid (⟨_, _, _, rfl, rgsR [⟨20, 20⟩, ⟨11, 11⟩] r0 (by omega) rfl, hks, Sl.nil⟩ : CeV (Lt V.heap.size) V (.agg #[.slice (some ⟨w1.heap.size, 0, none⟩) 2 2, .slice (some ⟨w1.heap.size + 1 + 1, 0, none⟩) 1 1, .slice none 0 0]) exC)
  have HS := hid (intsR [20, 11] r3 (show _ < V.heap.size by omega) rfl)
  clear r0 r1 r2 r3 hsz hk hks
  have d0 := (hv.cell (p := ⟨cb, coff + 2, none⟩) hcb').trans c0.2.2
  have d1 := (hv.cell (p := ⟨cb, coff + 3 + 2, none⟩) hcb').trans c1.2.2
  have hcV : cb < V.heap.size := Nat.lt_of_lt_of_le hcb' hv.size
  clear c0 c1
  go_wp2_with fail
  rw [← hV]
  clear hV
  refine (play_ok exC _ _ [20, 11] V.heap.size V (Nat.le_refl _) HCE.out HS.out (by decide) exC_fault rfl).mono ?_
  rintro e w2 ⟨u, rfl, hs, hb2⟩
  rw [exC_mean] at hs
  obtain ⟨sa, sc, hu, -, hsc⟩ := hs.open1
  simp only [List.length_cons, List.length_nil] at hu
  subst hu
  rcases hsc with hnil | ⟨sb, soff, rfl, hsb, hc⟩
  · simp at hnil
  have s0 := hc 0 (by decide)
  have e0 := (hb2.cell (p := ⟨cb, coff + 2, none⟩) hcV).trans d0
  have e1 := (hb2.cell (p := ⟨cb, coff + 3 + 2, none⟩) hcV).trans d1
  simp only [List.getElem_cons_zero, Nat.add_zero] at s0
  have HB := hid (HB1.out.trans ((hv.trans (hb2.mono hv.size)).mono HB1.out.size))
  clear d0 d1 hb2 hc hs HCE HS hcb hsb
  go_wp2_with fail
  go_ret
  exact ⟨rfl, HB.out⟩
end Go.Proofs.Ytjddcaimjofihaa
