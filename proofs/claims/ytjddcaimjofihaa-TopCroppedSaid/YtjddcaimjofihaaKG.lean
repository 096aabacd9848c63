/- The lists that TopCropped's loop makes, behind appends, literals and a store; no condition. -/
import Derived.Test.YtjddcaimjofihaaRJ
import Derived.Test.YtjddcaimjofihaaB4
namespace Go.Proofs.Ytjddcaimjofihaa
open Go.RowKit

/-- Two slices of numbers and one of ranges, the call's own; the cellar's row says hv for the last one. -/
structure LoopE (ws ss : List Int) (hs : List Rg) (wv sv ov hv : Value) (w4 w : World) : Prop where
  size : w4.heap.size + 1 ≤ w.heap.size
  ws : Own (w4.heap.size + 1) 3 1 encI w wv ws
  ss : Own (w4.heap.size + 1) 3 1 encI w sv ss
  ap : ∀ k, wv.ownBlock = some k → sv.ownBlock ≠ some k
  hs : Own (w4.heap.size + 1) 58 2 encR w ov hs
  row : w.heap[w4.heap.size]? = some (.cells #[hv, .slice none 0 0, .slice none 0 0] 35 (0, 0))
  bd : Below w4.heap.size w4 w

theorem LoopE.up {ws ss : List Int} {hs : List Rg} {wv sv ov hv : Value} {w4 w w' : World} (h : LoopE ws ss hs wv sv ov hv w4 w) (hb : Below w.heap.size w w') : LoopE ws ss hs wv sv ov hv w4 w' :=
  ⟨Nat.le_trans h.size hb.size, h.ws.below hb, h.ss.below hb, h.ap, h.hs.below hb, row_grow h.row hb, below_after h.bd hb (Nat.le_refl _)⟩

theorem types_apart : (3 : TypeId) ≠ 58 := by decide

/-- Behind an append to the first slice. -/
theorem LoopE.app1 {ws ss us : List Int} {hs : List Rg} {wv sv ov hv v : Value} {w4 w w' : World} (h : LoopE ws ss hs wv sv ov hv w4 w) (hg : w.grownBy w' wv.ownBlock)
    (ho : Own (w4.heap.size + 1) 3 1 encI w' v us) (hw : ∀ k, v.ownBlock = some k → wv.ownBlock = some k ∨ w.heap.size ≤ k) : LoopE us ss hs v sv ov hv w4 w' := by
  have hc := chg_grown hg
  have hs' := h.size
  refine ⟨Nat.le_trans h.size hg.size, ho, h.ss.chg_ne hc fun b hb hn => h.ap b hn hb, fun k hk hk' => ?_, h.hs.chg_ne hc fun b hb hn => h.ws.apart h.hs types_apart b hn hb, row_chg h.row hc fun hn => ?_, h.ws.grown hg h.bd (by omega) (by omega)⟩
  · rcases hw k hk with h1 | h1
    · exact h.ap k h1 hk'
    · have := (h.ss.block k hk').2
      omega
  · have := (h.ws.block _ hn).1
    omega
/-- Behind an append to the second slice. -/
theorem LoopE.app2 {ws ss us : List Int} {hs : List Rg} {wv sv ov hv v : Value} {w4 w w' : World} (h : LoopE ws ss hs wv sv ov hv w4 w) (hg : w.grownBy w' sv.ownBlock)
    (ho : Own (w4.heap.size + 1) 3 1 encI w' v us) (hw : ∀ k, v.ownBlock = some k → sv.ownBlock = some k ∨ w.heap.size ≤ k) : LoopE ws us hs wv v ov hv w4 w' := by
  have hc := chg_grown hg
  have hs' := h.size
  refine ⟨Nat.le_trans h.size hg.size, h.ws.chg_ne hc fun b hb hn => h.ap b hb hn, ho, fun k hk hk' => ?_, h.hs.chg_ne hc fun b hb hn => h.ss.apart h.hs types_apart b hn hb, row_chg h.row hc fun hn => ?_, h.ss.grown hg h.bd (by omega) (by omega)⟩
  · rcases hw k hk' with h1 | h1
    · exact h.ap k hk h1
    · have := (h.ws.block k hk).2
      omega
  · have := (h.ss.block _ hn).1
    omega
/-- Behind an append to the slice of ranges. -/
theorem LoopE.app3 {ws ss : List Int} {hs us : List Rg} {wv sv ov hv v : Value} {w4 w w' : World} (h : LoopE ws ss hs wv sv ov hv w4 w) (hg : w.grownBy w' ov.ownBlock)
    (ho : Own (w4.heap.size + 1) 58 2 encR w' v us) : LoopE ws ss us wv sv v hv w4 w' := by
  have hc := chg_grown hg
  have hs' := h.size
  refine ⟨Nat.le_trans h.size hg.size, h.ws.chg_ne hc fun b hb hn => h.ws.apart h.hs types_apart b hb hn, h.ss.chg_ne hc fun b hb hn => h.ss.apart h.hs types_apart b hb hn, h.ap, ho, row_chg h.row hc fun hn => ?_, h.hs.grown hg h.bd (by omega) (by omega)⟩
  have := (h.hs.block _ hn).1
  omega
/-- Behind the store to the cellar. -/
theorem LoopE.store {ws ss : List Int} {hs : List Rg} {wv sv ov hv : Value} {w4 w : World} (h : LoopE ws ss hs wv sv ov hv w4 w) : LoopE ws ss hs wv sv ov ov w4 (w.setCell ⟨w4.heap.size, 0, none⟩ ov) := by
  have hc := setCell_chg (A := w) (g := w4.heap.size) (i := 0) ov
  have hr := row_set h.row 0 ov
  simp only [List.setIfInBounds_toArray, List.set_cons_zero] at hr
  have hs' := h.size
  exact ⟨Nat.le_trans h.size hc.size, h.ws.chg hc fun b hb => by omega, h.ss.chg hc fun b hb => by omega, h.ap, h.hs.chg hc fun b hb => by omega, hr, h.bd.trans (hc.below (by omega) fun b hb e => by omega)⟩
/-- A literal's cell, behind an append to a slice that was there before it. -/
theorem cell_app {w w' : World} {p i : Nat} {v u : Value} (hg : w.grownBy w' v.ownBlock) (hp : p < w.heap.size) (hne : v.ownBlock ≠ some p) (h : w.cell? ⟨p, i, none⟩ = some u) : w'.cell? ⟨p, i, none⟩ = some u :=
  ((chg_grown hg).cell hp hne).trans h
/-- A literal of one cell. -/
def NewC (p : Nat) (u : Value) (w : World) : Prop := p < w.heap.size ∧ w.cell? ⟨p, 0, none⟩ = some u
theorem NewC.up {p : Nat} {u : Value} {w w' : World} (h : NewC p u w) (hb : Below w.heap.size w w') : NewC p u w' :=
  ⟨Nat.lt_of_lt_of_le h.1 hb.size, (hb.cell (p := ⟨p, 0, none⟩) h.1).trans h.2⟩
theorem NewC.app {p : Nat} {u v : Value} {w w' : World} (h : NewC p u w) (hne : v.ownBlock ≠ some p) (hg : w.grownBy w' v.ownBlock) : NewC p u w' :=
  ⟨Nat.lt_of_lt_of_le h.1 hg.size, cell_app hg h.1 hne h.2⟩
theorem NewC.new (w : World) (u : Value) (t : TypeId) : NewC w.heap.size u (w.alloc (.cells #[u] t)) :=
  ⟨by simp, cells_new w [u] t 0 u rfl⟩
theorem NewC.news {p : Nat} {y : Int} {w : World} (h : NewC p (.int .i64 y) w) : ∀ i u, (encI y)[i]? = some u → w.cell? ⟨p, i, none⟩ = some u := fun i u hu => by
  match i, hu with
  | 0, hu => cases hu; exact h.2
  | i + 1, hu => simp [encI] at hu
theorem LoopE.off1 {ws ss : List Int} {hs : List Rg} {wv sv ov hv : Value} {w4 w : World} (h : LoopE ws ss hs wv sv ov hv w4 w) : wv.ownBlock ≠ some w.heap.size := fun hk => by
  have := (h.ws.block _ hk).2
  omega
theorem wp_via4 {P : Program} {c : Code} {Q : Exit → Act → World → Prop} {a : Act} {w : World} {act : Value → Value → Value → Value → Act} (F : Value → Value → World → Prop)
    (h : c.wp P (Nrm fun a' w' => ∃ x0 x1 x2 x3, a' = act x0 x1 x2 x3 ∧ F x2 x3 w') a w) (hq : ∀ x0 x1 x2 x3 w', F x2 x3 w' → Q .normal (act x0 x1 x2 x3) w') : c.wp P Q a w :=
  Code.wp_mono (fun e a' w' hx => by
    cases e <;> first | exact hx.elim | skip
    obtain ⟨x0, x1, x2, x3, rfl, hf⟩ := hx
    exact hq _ _ _ _ _ hf) h
end Go.Proofs.Ytjddcaimjofihaa
