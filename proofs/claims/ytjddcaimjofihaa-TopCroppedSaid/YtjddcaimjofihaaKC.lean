/- Contract of package crop: what is left of a weight, with the map that remembers it; no condition. -/
import Derived.Test.YtjddcaimjofihaaKB
import Derived.Test.YtjddcaimjofihaaB7
import Derived.Test.YtjddcaimjofihaaRH
namespace Go.Proofs.Ytjddcaimjofihaa
open Go.RowKit Go.Shelf Go.Maps
set_option maxRecDepth 100000

theorem spot_law : Keyed Try.prog 201 := Keyed.of_law (deep_law_laid laidOut (m := 2) (by omega) (of_decide_eq_true (by kernel_rfl)) (by kernel_rfl) (by kernel_rfl))
theorem mapS_under : Try.prog.underlying 193 = some (.map 201 3) := by kernel_rfl
def klS (p : Int × Bool) : Lit := .string (keyBytes [.int .i64 p.1, .bool p.2])
def goodS (p : Int × Bool) : Prop := (Lit.int .i64 p.1).wf = true
theorem spot_type : Try.prog.keyType 201 = true := by kernel_rfl
theorem spot_cells : Try.prog.cellsOf 201 = 2 := by kernel_rfl
theorem bool_cells : Try.prog.cellsOf 4 = 1 := by kernel_rfl
theorem key_spot (a : Int) (b : Bool) (ha : (Lit.int .i64 a).wf = true) : keyOf Try.prog 201 (.agg #[.int .i64 a, .bool b]) = some (klS (a, b)) := by
  obtain ⟨d, hd⟩ := types_some
  have hf : (Value.agg #[.int .i64 a, .bool b]).formed Try.prog 201 = true := by
    simp [Value.formed, Try.underlying201, spot_cells]
  have hk : Try.prog.keyLits (d + 1 + 1) 201 [.int .i64 a, .bool b] = some [.int .i64 a, .bool b] := by
    simp [Program.keyLits, Try.underlying201, spot_cells, int_cells, bool_cells, ha]
  unfold keyOf
  simp only [Try.underlying201, spot_type, hf, hd, Value.cells, hk, Bool.and_self, if_true, Option.map_some, klS]
theorem klS_inj : ∀ a b : Int × Bool, goodS a → goodS b → klS a = klS b → a = b := fun a b ha hb h => by
  obtain ⟨a1, a2⟩ := a
  obtain ⟨b1, b2⟩ := b
  have h1 := spot_law.inj (key_spot a1 a2 ha) (h ▸ key_spot b1 b2 hb)
  injection h1 with h2
  simpa using h2
theorem klS_key (p : Int × Bool) : WideAt.IsKeyLit (klS p) := trivial
def ownS (w : World) (b k : Nat) (D : DataW Unit) : Prop := w.ownsMap Try.prog 201 (plainElem Try.prog 3) b k D
theorem ownS.below {w w' : World} {b k : Nat} {D : DataW Unit} (h : ownS w b k D) (hb : Below w.heap.size w w') : ownS w' b k D :=
  World.ownsMap.kept (row := none) h ⟨hb.os, hb.tape, hb.output, hb.size, fun k hk _ => hb.block k hk⟩ (by simp)

/-- What the map remembers is what is left of weights. -/
structure Known (trod : Int) (w : World) (bm k : Nat) : Prop where
  ex : ∃ (D : DataW Unit) (M : List ((Int × Bool) × Int)), ownS w bm k D ∧ Assoc klS goodS D M ∧ ∀ p ∈ M, p.2 = leftF trod p.1.1 p.1.2
theorem Known.below {trod : Int} {w w' : World} {bm k : Nat} (h : Known trod w bm k) (hb : Below w.heap.size w w') : Known trod w' bm k := by
  obtain ⟨D, M, h1, h2, h3⟩ := h.ex
  exact ⟨D, M, h1.below hb, h2, h3⟩

set_option maxHeartbeats 4000000 in
theorem leftK_any (trod x : Int) (wt : Bool) (ht : 0 ≤ trod ∧ trod ≤ 100) (hx : 0 ≤ x ∧ x ≤ 1000) (bw bm k0 : Nat) (hk0 : k0 ≤ 1000) (w : World) (h7 : w.cell? ⟨bw, 7, none⟩ = some (.int .i64 trod)) (h9 : w.cell? ⟨bw, 9, none⟩ = some (.map (some bm))) (hbw : bw < w.heap.size) (hne : bw ≠ bm) (hK : Known trod w bm k0) :
    Calls Try.prog 154 #[.pointer (some ⟨bw, 0, none⟩), .agg #[.int .i64 x, .bool wt]] w fun e w' => e = .returned (.int .i64 (leftF trod x wt)) ∧ Chg (fun b => b = bm) w w' ∧ Known trod w' bm (k0 + 1) := by
  obtain ⟨D, M, hown, hA, hM⟩ := hK.ex
  obtain ⟨W, hW⟩ : ∃ W, W = w.alloc (Obj.cells #[.int .i64 x, .bool wt] 201) := ⟨_, rfl⟩
  have hWb : Below w.heap.size w W := by rw [hW]; exact below_alloc1 (Nat.le_refl _) _
  have hWs : w.heap.size < W.heap.size := by rw [hW]; simp
  have q0 : W.heap[w.heap.size]? = some (.cells #[.int .i64 x, .bool wt] 201 (0, 0)) := by rw [hW]; exact heap_new _ _
  have r0 := cell_of_row q0 0
  have r1 := cell_of_row q0 1
  simp only [List.getElem?_toArray, List.getElem?_cons_zero, List.getElem?_cons_succ] at r0 r1
  have c7 := (hWb.cell (p := ⟨bw, 7, none⟩) hbw).trans h7
  have c9 := (hWb.cell (p := ⟨bw, 9, none⟩) hbw).trans h9
  have hbW : bw < W.heap.size := by omega
  have ownW : ownS W bm k0 D := hown.below hWb
  have hgood : goodS (x, wt) := wf_int x (by omega)
  have hbm : bm < w.heap.size := World.ownsMap.lt hown
  have HM := hid hM
  clear hK h7 h9 q0 hown hM
  have hhas : Maps.has D (klS (x, wt)) = (M.lookup (x, wt)).isSome := hA.has _ hgood
  obtain ⟨v, ps, hrun, hv⟩ := World.ownsMap.look_ok (show W.drew.ownsMap Try.prog 201 (plainElem Try.prog 3) bm k0 D from World.ownsMap.drew ownW) spot_law mapS_under (zeroInt _) (plainElem_int int_under (show (Lit.int .i64 0).wf = true by decide)) (key_spot x wt hgood)
  obtain ⟨c, rfl, hc, hwc⟩ := plainElem_int_inv int_under hv
  have hc1 := congrArg Prod.fst hc
  simp only at hc1
  cases hl : M.lookup (x, wt) with
  | some y =>
    have hyv : y = leftF trod x wt := HM.out _ (lookup_mem hl)
    have hval := hA.val _ _ hgood hl
    have hcy : c = y := by
      have := hc1.symm.trans hval
      injection this with h1
      injection h1
    rw [hhas, hl, hcy] at hrun
    replace hrun : (Instr.lookup 193 (.map (some bm)) (.agg #[.int .i64 x, .bool wt]) true).run Try.prog W.drew = .ok (.tuple #[.int .i64 y, .bool true]) W.drew := hrun
    have HY := hid hyv
    have HOW := hid ownW
    have HA := hid hA
    clear hl hyv hcy hval hc1 hc hwc hv hhas ownW hA
    go_enter Try.func154, Try.ntmps154
    go_wp2
    rw [← hW]
    clear hW
    go_region
    go_wp2
    go_ret
    exact ⟨ret_int HY.out, (chg_of_below hWb).trans (chg_of_below ((Below.refl _ _).drew)), ⟨D, M, (World.ownsMap.drew HOW.out).mono (by omega), HA.out, HM.out⟩⟩
  | none =>
    rw [hhas, hl] at hrun
    replace hrun : (Instr.lookup 193 (.map (some bm)) (.agg #[.int .i64 x, .bool wt]) true).run Try.prog W.drew = .ok (.tuple #[.int .i64 c, .bool false]) W.drew := hrun
    have HL := hid hl
    have HOW := hid ownW
    have HA := hid hA
    clear hl hc1 hc hwc hv hhas ownW hA
    have hbd := leftF_bd ht hx.1 wt
    obtain ⟨y, hy⟩ : ∃ y, y = leftF trod x wt := ⟨_, rfl⟩
    rw [← hy] at hbd
    have HY := hid hy
    obtain ⟨Wd, hWd⟩ : ∃ Wd, Wd = W.drew.drew := ⟨_, rfl⟩
    have hDb : Below W.heap.size W Wd := by rw [hWd]; exact ((Below.refl _ _).drew).drew
    obtain ⟨w7, hup, own7, hg7⟩ := World.ownsMap.update (show Wd.ownsMap Try.prog 201 (plainElem Try.prog 3) bm k0 D from HOW.out.below hDb) spot_law mapS_under (by unfold maxLen; omega) (key_spot x wt hgood) (plainElem_int int_under (wf_int y (by omega)))
    have H7 := hid (show Chg (fun b => b = bm) w w7 from (chg_of_below hWb).trans ((chg_of_below hDb).trans ((chg_grown hg7).mono fun b hb => by cases hb; rfl)))
    have HK := hid (show Known trod w7 bm (k0 + 1) from ⟨_, _, own7, Assoc.put_new HA.out klS_inj (x, wt) hgood (klS_key _) HL.out y, fun p hp => by
      rcases List.mem_append.1 hp with h | h
      · exact HM.out p h
      · simp only [List.mem_singleton] at h
        subst h
        exact HY.out⟩)
    replace hup : (Instr.mapUpdate 193 (.map (some bm)) (.agg #[.int .i64 x, .bool wt]) (.int .i64 y)).run Try.prog Wd = .ok () w7 := hup
    have e0 := (hDb.cell (p := ⟨w.heap.size, 0, none⟩) hWs).trans r0
    have e1 := (hDb.cell (p := ⟨w.heap.size, 1, none⟩) hWs).trans r1
    have e9 := (hDb.cell (p := ⟨bw, 9, none⟩) hbW).trans c9
    clear own7 hg7 hDb
    cases wt with
    | true =>
      have hxt : 0 ≤ x * trod ∧ x * trod ≤ 100000 := by
        have h1 := Int.mul_nonneg hx.1 ht.1
        have h2 : x * trod ≤ 1000 * 100 := Int.mul_le_mul hx.2 ht.2 (by omega) (by omega)
        omega
      obtain ⟨p, hp⟩ : ∃ p, p = x * trod := ⟨_, rfl⟩
      rw [← hp] at hxt
      have hyv : y = x - p / 100 := by rw [hy, hp]; rfl
      have hw1 : IntKind.i64.wrap (x * trod) = p := by rw [hp]; exact IntWalk.i64_in _ (by omega)
      have hd0 : 0 ≤ p / 100 := Int.ediv_nonneg hxt.1 (by omega)
      have hd1 : p / 100 ≤ p := Int.ediv_le_self 100 hxt.1
      have hw2 : IntKind.i64.wrap (p / 100) = p / 100 := IntWalk.i64_in _ (by omega)
      have hw4 : p.tdiv 100 = p / 100 := Int.tdiv_eq_ediv_of_nonneg hxt.1
      have hw3 : IntKind.i64.wrap (x - p / 100) = y := by rw [← hyv]; exact IntWalk.i64_in _ (by omega)
      have HP := hid hp
      clear hp hyv hy
      go_enter Try.func154, Try.ntmps154
      go_wp2
      rw [← hW]
      clear hW
      go_region
      go_wp2
      refine wp_region_ts (by kernel_rfl) [6] (fun w' => w' = Wd) ?_
      have hS0 : (fun w' => w' = Wd) Wd := rfl
      rw [← hWd]
      clear hWd hrun
      refine wpTs_pure (i := 0) (v := .pointer (some ⟨bw, 0, none⟩)) rfl rfl (by kernel_rfl) (by kernel_rfl) (by kernel_rfl) (fun _ _ _ h => h) (by rfl) (fun w' => ?_) ?_
      · go_simp
      try simp only [List.setIfInBounds_toArray, List.set_cons_zero, List.set_cons_succ]
      refine wpTs_pure (i := 1) (v := .pointer (some ⟨bw, 0, none⟩)) rfl rfl (by kernel_rfl) (by kernel_rfl) (by kernel_rfl) (fun _ _ _ h => h) (by rfl) (fun w' => ?_) ?_
      · go_simp
      try simp only [List.setIfInBounds_toArray, List.set_cons_zero, List.set_cons_succ]
      refine wpTs_pure (i := 2) (v := .pointer (some ⟨bw, 9, none⟩)) rfl rfl (by kernel_rfl) (by kernel_rfl) (by kernel_rfl) (fun _ _ _ h => h) (by rfl) (fun w' => ?_) ?_
      · go_simp
      try simp only [List.setIfInBounds_toArray, List.set_cons_zero, List.set_cons_succ]
      refine wpTs_take (i := 3) (v := .map (some bm)) rfl rfl (by kernel_rfl) (by kernel_rfl) (by kernel_rfl) (by kernel_rfl) (fun _ _ _ h => h) (by rfl) (fun w' hS' => ?_) hS0 ?_
      · replace hS' : w' = Wd := hS'; subst hS'; go_simp
      try simp only [List.setIfInBounds_toArray, List.set_cons_zero, List.set_cons_succ]
      refine wpTs_take (i := 4) (v := .agg #[.int .i64 x, .bool true]) rfl rfl (by kernel_rfl) (by kernel_rfl) (by kernel_rfl) (by kernel_rfl) (fun _ _ _ h => h) (by rfl) (fun w' hS' => ?_) hS0 ?_
      · replace hS' : w' = Wd := hS'; subst hS'; go_simp
      try simp only [List.setIfInBounds_toArray, List.set_cons_zero, List.set_cons_succ]
      refine wpTs_pure (i := 5) (v := .int .i64 y) rfl rfl (by kernel_rfl) (by kernel_rfl) (by kernel_rfl) (fun _ _ _ h => h) (by rfl) (fun w' => ?_) ?_
      · go_simp
      try simp only [List.setIfInBounds_toArray, List.set_cons_zero, List.set_cons_succ]
      refine wpTs_only (i := 6) rfl (by kernel_rfl) (by kernel_rfl) (by rfl) ?_
      go_simp
      refine wpTs_done (by kernel_rfl) ?_ _
      go_wp2
      go_ret
      exact ⟨ret_int HY.out, H7.out, HK.out⟩
    | false =>
      have hyv : y = x := by rw [hy]; rfl
      clear hy
      go_enter Try.func154, Try.ntmps154
      go_wp2
      rw [← hW]
      clear hW
      subst hyv
      go_region
      go_wp2
      refine wp_region_ts (by kernel_rfl) [6] (fun w' => w' = Wd) ?_
      have hS0 : (fun w' => w' = Wd) Wd := rfl
      rw [← hWd]
      clear hWd hrun
      refine wpTs_pure (i := 0) (v := .pointer (some ⟨bw, 0, none⟩)) rfl rfl (by kernel_rfl) (by kernel_rfl) (by kernel_rfl) (fun _ _ _ h => h) (by rfl) (fun w' => ?_) ?_
      · go_simp
      try simp only [List.setIfInBounds_toArray, List.set_cons_zero, List.set_cons_succ]
      refine wpTs_pure (i := 1) (v := .pointer (some ⟨bw, 0, none⟩)) rfl rfl (by kernel_rfl) (by kernel_rfl) (by kernel_rfl) (fun _ _ _ h => h) (by rfl) (fun w' => ?_) ?_
      · go_simp
      try simp only [List.setIfInBounds_toArray, List.set_cons_zero, List.set_cons_succ]
      refine wpTs_pure (i := 2) (v := .pointer (some ⟨bw, 9, none⟩)) rfl rfl (by kernel_rfl) (by kernel_rfl) (by kernel_rfl) (fun _ _ _ h => h) (by rfl) (fun w' => ?_) ?_
      · go_simp
      try simp only [List.setIfInBounds_toArray, List.set_cons_zero, List.set_cons_succ]
      refine wpTs_take (i := 3) (v := .map (some bm)) rfl rfl (by kernel_rfl) (by kernel_rfl) (by kernel_rfl) (by kernel_rfl) (fun _ _ _ h => h) (by rfl) (fun w' hS' => ?_) hS0 ?_
      · replace hS' : w' = Wd := hS'; subst hS'; go_simp
      try simp only [List.setIfInBounds_toArray, List.set_cons_zero, List.set_cons_succ]
      refine wpTs_take (i := 4) (v := .agg #[.int .i64 y, .bool false]) rfl rfl (by kernel_rfl) (by kernel_rfl) (by kernel_rfl) (by kernel_rfl) (fun _ _ _ h => h) (by rfl) (fun w' hS' => ?_) hS0 ?_
      · replace hS' : w' = Wd := hS'; subst hS'; go_simp
      try simp only [List.setIfInBounds_toArray, List.set_cons_zero, List.set_cons_succ]
      refine wpTs_pure (i := 5) (v := .int .i64 y) rfl rfl (by kernel_rfl) (by kernel_rfl) (by kernel_rfl) (fun _ _ _ h => h) (by rfl) (fun w' => ?_) ?_
      · go_simp
      try simp only [List.setIfInBounds_toArray, List.set_cons_zero, List.set_cons_succ]
      refine wpTs_only (i := 6) rfl (by kernel_rfl) (by kernel_rfl) (by rfl) ?_
      go_simp
      refine wpTs_done (by kernel_rfl) ?_ _
      go_wp2
      go_ret
      exact ⟨ret_int HY.out, H7.out, HK.out⟩
end Go.Proofs.Ytjddcaimjofihaa
