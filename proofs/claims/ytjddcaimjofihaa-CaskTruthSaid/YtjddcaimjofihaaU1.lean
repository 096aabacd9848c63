/- Contracts of the statements' small helpers: inside, in, word; no condition. -/
import Derived.Test.YtjddcaimjofihaaL2
import Derived.Test.YtjddcaimjofihaaRG
import Derived.Test.YtjddcaimjofihaaP4
namespace Go.Proofs.Ytjddcaimjofihaa
open Go.RowKit Go.Shelf
set_option maxRecDepth 100000

theorem inside_ok (a b : List Rg) (h : InB a b) (hal : a.length ≤ 1000) (va vb : Value) (n : Nat) (w : World) (hn : n ≤ w.heap.size) (ha : Rgs (Lt n) w va a) (hb : Rgs (Lt n) w vb b) :
    Calls Try.prog 43 #[va, vb] w fun e w' => e = .returned (.bool true) ∧ Below w.heap.size w w' := by
  obtain ⟨aa, ac, rfl, -, hoa⟩ := ha.open2
  obtain ⟨ba, bc, rfl, -, hob⟩ := hb.open2
  have HOA := hid hoa
  have HOB := hid hob
  have HL := hid h.1
  have HH := hid h.2
  have hc1 : ((a.length : Int) != (b.length : Int)) = false := by simp [h.1]
  have hc2 : ((a.length : Int) == (b.length : Int)) = true := by simp [h.1]
  clear h ha hb hoa hob
  go_enter Try.func43, Try.ntmps43
  go_wp2
  go_loopw [5] (fun i wr => ∃ k : Nat, k ≤ a.length ∧ i = .int .i64 k ∧ Below w.heap.size w wr) (fun i _ => a.length - (intOf i).toNat)
  case atStart => exact ⟨0, by omega, rfl, Below.refl _ _⟩
  case round =>
    obtain ⟨k, hk, rfl, hbr⟩ := hrel
    have HBr := hid hbr
    by_cases hlt : k < a.length
    · have hlt2 : k < b.length := by have := HL.out; omega
      rcases HOA.out with hnil | ⟨b1, o1, rfl, hb1, hc1'⟩
      · rw [hnil] at hlt; simp at hlt
      rcases HOB.out with hnil | ⟨b2, o2, rfl, hb2, hc2'⟩
      · rw [hnil] at hlt2; simp at hlt2
      obtain ⟨x0, x1⟩ := hc1' k hlt
      obtain ⟨y0, y1⟩ := hc2' k hlt2
      have hx := HH.out k hlt hlt2
      have hb1' : b1 < n := hb1
      have hb2' : b2 < n := hb2
      have z0 := (hbr.cell (p := ⟨b1, o1 + k * 2, none⟩) (by show b1 < _; omega)).trans x0
      have z1 := (hbr.cell (p := ⟨b1, o1 + k * 2 + 1, none⟩) (by show b1 < _; omega)).trans x1
      have z2 := (hbr.cell (p := ⟨b2, o2 + k * 2, none⟩) (by show b2 < _; omega)).trans y0
      have z3 := (hbr.cell (p := ⟨b2, o2 + k * 2 + 1, none⟩) (by show b2 < _; omega)).trans y1
      clear hc1' hc2' x0 x1 y0 y1 hbr
      generalize a[k] = p at *
      generalize b[k] = q at *
      obtain ⟨pl, ph⟩ := p
      obtain ⟨ql, qh⟩ := q
      simp only at hx z0 z1 z2 z3
      have hd1 : decide (pl < ql) = false := decide_eq_false (by omega)
      have hd2 : decide (qh < ph) = false := decide_eq_false (by omega)
      clear hx
      have hSS := hid (fun w' (h : Below wr.heap.size wr w') => ⟨(h.cell (p := ⟨b1, o1 + k * 2, none⟩) (by show b1 < _; have := HBr.out.size; omega)).trans z0, (h.cell (p := ⟨b1, o1 + k * 2 + 1, none⟩) (by show b1 < _; have := HBr.out.size; omega)).trans z1, (h.cell (p := ⟨b2, o2 + k * 2, none⟩) (by show b2 < _; have := HBr.out.size; omega)).trans z2, (h.cell (p := ⟨b2, o2 + k * 2 + 1, none⟩) (by show b2 < _; have := HBr.out.size; omega)).trans z3⟩ :
        ∀ w', Below wr.heap.size wr w' → w'.cell? ⟨b1, o1 + k * 2, none⟩ = some (.int .i64 pl) ∧ w'.cell? ⟨b1, o1 + k * 2 + 1, none⟩ = some (.int .i64 ph) ∧ w'.cell? ⟨b2, o2 + k * 2, none⟩ = some (.int .i64 ql) ∧ w'.cell? ⟨b2, o2 + k * 2 + 1, none⟩ = some (.int .i64 qh))
      go_wp2
      refine wp_region_grow (by kernel_rfl) 99 (fun w' => Below wr.heap.size wr w') ?_ ?_
      · exact (Below.refl _ _).drew
      have HG := fun (a b : World) (h : Below wr.heap.size wr a) (k : Below a.heap.size a b) => (h.trans (k.mono h.size) : Below wr.heap.size wr b)
      clear z0 z1 z2 z3
      refine wpG_take (i := 0) (v := .slice (some ⟨b1, o1, none⟩) a.length ac) rfl rfl (by kernel_rfl) (by kernel_rfl) (by kernel_rfl) (by kernel_rfl) (fun _ _ _ h => h) (by rfl) (fun w' hS' => grow_value ?_ hS') ?_
      · go_simp
      try simp only [List.setIfInBounds_toArray, List.set_cons_zero, List.set_cons_succ]
      refine wpG_take (i := 1) (v := .int .i64 k) rfl rfl (by kernel_rfl) (by kernel_rfl) (by kernel_rfl) (by kernel_rfl) (fun _ _ _ h => h) (by rfl) (fun w' hS' => grow_value ?_ hS') ?_
      · go_simp
      try simp only [List.setIfInBounds_toArray, List.set_cons_zero, List.set_cons_succ]
      refine wpG_take (i := 2) (v := .pointer (some ⟨b1, o1 + k * 2, none⟩)) rfl rfl (by kernel_rfl) (by kernel_rfl) (by kernel_rfl) (by kernel_rfl) (fun _ _ _ h => h) (by rfl) (fun w' hS' => grow_value ?_ hS') ?_
      · go_simp
      try simp only [List.setIfInBounds_toArray, List.set_cons_zero, List.set_cons_succ]
      refine wpG_take (i := 3) (v := .pointer (some ⟨b1, o1 + k * 2, none⟩)) rfl rfl (by kernel_rfl) (by kernel_rfl) (by kernel_rfl) (by kernel_rfl) (fun _ _ _ h => h) (by rfl) (fun w' hS' => grow_value ?_ hS') ?_
      · go_simp
      try simp only [List.setIfInBounds_toArray, List.set_cons_zero, List.set_cons_succ]
      refine wpG_take (i := 4) (v := .int .i64 pl) rfl rfl (by kernel_rfl) (by kernel_rfl) (by kernel_rfl) (by kernel_rfl) (fun _ _ _ h => h) (by rfl) (fun w' hS' => grow_value ?_ hS') ?_
      · have ⟨s0, s1, s2, s3⟩ := hSS.out _ hS'; go_simp
      try simp only [List.setIfInBounds_toArray, List.set_cons_zero, List.set_cons_succ]
      refine wpG_take (i := 5) (v := .slice (some ⟨b2, o2, none⟩) b.length bc) rfl rfl (by kernel_rfl) (by kernel_rfl) (by kernel_rfl) (by kernel_rfl) (fun _ _ _ h => h) (by rfl) (fun w' hS' => grow_value ?_ hS') ?_
      · go_simp
      try simp only [List.setIfInBounds_toArray, List.set_cons_zero, List.set_cons_succ]
      refine wpG_take (i := 6) (v := .int .i64 k) rfl rfl (by kernel_rfl) (by kernel_rfl) (by kernel_rfl) (by kernel_rfl) (fun _ _ _ h => h) (by rfl) (fun w' hS' => grow_value ?_ hS') ?_
      · go_simp
      try simp only [List.setIfInBounds_toArray, List.set_cons_zero, List.set_cons_succ]
      refine wpG_take (i := 7) (v := .pointer (some ⟨b2, o2 + k * 2, none⟩)) rfl rfl (by kernel_rfl) (by kernel_rfl) (by kernel_rfl) (by kernel_rfl) (fun _ _ _ h => h) (by rfl) (fun w' hS' => grow_value ?_ hS') ?_
      · go_simp
      try simp only [List.setIfInBounds_toArray, List.set_cons_zero, List.set_cons_succ]
      refine wpG_take (i := 8) (v := .pointer (some ⟨b2, o2 + k * 2, none⟩)) rfl rfl (by kernel_rfl) (by kernel_rfl) (by kernel_rfl) (by kernel_rfl) (fun _ _ _ h => h) (by rfl) (fun w' hS' => grow_value ?_ hS') ?_
      · go_simp
      try simp only [List.setIfInBounds_toArray, List.set_cons_zero, List.set_cons_succ]
      refine wpG_take (i := 9) (v := .int .i64 ql) rfl rfl (by kernel_rfl) (by kernel_rfl) (by kernel_rfl) (by kernel_rfl) (fun _ _ _ h => h) (by rfl) (fun w' hS' => grow_value ?_ hS') ?_
      · have ⟨s0, s1, s2, s3⟩ := hSS.out _ hS'; go_simp
      try simp only [List.setIfInBounds_toArray, List.set_cons_zero, List.set_cons_succ]
      refine wpG_take (i := 10) (v := .bool false) rfl rfl (by kernel_rfl) (by kernel_rfl) (by kernel_rfl) (by kernel_rfl) (fun _ _ _ h => h) (by rfl) (fun w' hS' => grow_value ?_ hS') ?_
      · go_simp
      try simp only [List.setIfInBounds_toArray, List.set_cons_zero, List.set_cons_succ]
      refine wpG_take (i := 11) (v := .bool false) rfl rfl (by kernel_rfl) (by kernel_rfl) (by kernel_rfl) (by kernel_rfl) (fun _ _ _ h => h) (by rfl) (fun w' hS' => grow_value ?_ hS') ?_
      · go_simp
      try simp only [List.setIfInBounds_toArray, List.set_cons_zero, List.set_cons_succ]
      refine wpG_take (i := 12) (v := .slice (some ⟨b1, o1, none⟩) a.length ac) rfl rfl (by kernel_rfl) (by kernel_rfl) (by kernel_rfl) (by kernel_rfl) (fun _ _ _ h => h) (by rfl) (fun w' hS' => grow_value ?_ hS') ?_
      · go_simp
      try simp only [List.setIfInBounds_toArray, List.set_cons_zero, List.set_cons_succ]
      refine wpG_take (i := 13) (v := .int .i64 k) rfl rfl (by kernel_rfl) (by kernel_rfl) (by kernel_rfl) (by kernel_rfl) (fun _ _ _ h => h) (by rfl) (fun w' hS' => grow_value ?_ hS') ?_
      · go_simp
      try simp only [List.setIfInBounds_toArray, List.set_cons_zero, List.set_cons_succ]
      refine wpG_take (i := 14) (v := .pointer (some ⟨b1, o1 + k * 2, none⟩)) rfl rfl (by kernel_rfl) (by kernel_rfl) (by kernel_rfl) (by kernel_rfl) (fun _ _ _ h => h) (by rfl) (fun w' hS' => grow_value ?_ hS') ?_
      · go_simp
      try simp only [List.setIfInBounds_toArray, List.set_cons_zero, List.set_cons_succ]
      refine wpG_take (i := 15) (v := .pointer (some ⟨b1, o1 + k * 2 + 1, none⟩)) rfl rfl (by kernel_rfl) (by kernel_rfl) (by kernel_rfl) (by kernel_rfl) (fun _ _ _ h => h) (by rfl) (fun w' hS' => grow_value ?_ hS') ?_
      · go_simp
      try simp only [List.setIfInBounds_toArray, List.set_cons_zero, List.set_cons_succ]
      refine wpG_take (i := 16) (v := .int .i64 ph) rfl rfl (by kernel_rfl) (by kernel_rfl) (by kernel_rfl) (by kernel_rfl) (fun _ _ _ h => h) (by rfl) (fun w' hS' => grow_value ?_ hS') ?_
      · have ⟨s0, s1, s2, s3⟩ := hSS.out _ hS'; go_simp
      try simp only [List.setIfInBounds_toArray, List.set_cons_zero, List.set_cons_succ]
      refine wpG_take (i := 17) (v := .slice (some ⟨b2, o2, none⟩) b.length bc) rfl rfl (by kernel_rfl) (by kernel_rfl) (by kernel_rfl) (by kernel_rfl) (fun _ _ _ h => h) (by rfl) (fun w' hS' => grow_value ?_ hS') ?_
      · go_simp
      try simp only [List.setIfInBounds_toArray, List.set_cons_zero, List.set_cons_succ]
      refine wpG_take (i := 18) (v := .int .i64 k) rfl rfl (by kernel_rfl) (by kernel_rfl) (by kernel_rfl) (by kernel_rfl) (fun _ _ _ h => h) (by rfl) (fun w' hS' => grow_value ?_ hS') ?_
      · go_simp
      try simp only [List.setIfInBounds_toArray, List.set_cons_zero, List.set_cons_succ]
      refine wpG_take (i := 19) (v := .pointer (some ⟨b2, o2 + k * 2, none⟩)) rfl rfl (by kernel_rfl) (by kernel_rfl) (by kernel_rfl) (by kernel_rfl) (fun _ _ _ h => h) (by rfl) (fun w' hS' => grow_value ?_ hS') ?_
      · go_simp
      try simp only [List.setIfInBounds_toArray, List.set_cons_zero, List.set_cons_succ]
      refine wpG_take (i := 20) (v := .pointer (some ⟨b2, o2 + k * 2 + 1, none⟩)) rfl rfl (by kernel_rfl) (by kernel_rfl) (by kernel_rfl) (by kernel_rfl) (fun _ _ _ h => h) (by rfl) (fun w' hS' => grow_value ?_ hS') ?_
      · go_simp
      try simp only [List.setIfInBounds_toArray, List.set_cons_zero, List.set_cons_succ]
      refine wpG_take (i := 21) (v := .int .i64 qh) rfl rfl (by kernel_rfl) (by kernel_rfl) (by kernel_rfl) (by kernel_rfl) (fun _ _ _ h => h) (by rfl) (fun w' hS' => grow_value ?_ hS') ?_
      · have ⟨s0, s1, s2, s3⟩ := hSS.out _ hS'; go_simp
      try simp only [List.setIfInBounds_toArray, List.set_cons_zero, List.set_cons_succ]
      refine wpG_take (i := 22) (v := .bool false) rfl rfl (by kernel_rfl) (by kernel_rfl) (by kernel_rfl) (by kernel_rfl) (fun _ _ _ h => h) (by rfl) (fun w' hS' => grow_value ?_ hS') ?_
      · go_simp
      try simp only [List.setIfInBounds_toArray, List.set_cons_zero, List.set_cons_succ]
      refine wpG_take (i := 23) (v := .bool false) rfl rfl (by kernel_rfl) (by kernel_rfl) (by kernel_rfl) (by kernel_rfl) (fun _ _ _ h => h) (by rfl) (fun w' hS' => grow_value ?_ hS') ?_
      · go_simp
      try simp only [List.setIfInBounds_toArray, List.set_cons_zero, List.set_cons_succ]
      refine wpG_done (by kernel_rfl) (fun w5 hq hbx => ?_) _
      have HR5 := hid (HBr.out.trans (hbx.mono HBr.out.size))
      clear hSS HG hq hbx
      go_wp2
      go_roundw
      case rel => exact ⟨k + 1, by omega, by go_num, HR5.out⟩
      case measure => simp [intOf]; omega
    · go_wp2
      go_ret
      exact ⟨rfl, HBr.out⟩
theorem inL_any (n lo hi : Int) (w : World) :
    Calls Try.prog 63 #[.int .i64 n, .agg #[.int .i64 lo, .int .i64 hi]] w fun e w' => e = .returned (.bool (decide (lo ≤ n) && decide (n ≤ hi))) ∧ Below w.heap.size w w' := by
  by_cases h1 : lo ≤ n <;> by_cases h2 : n ≤ hi
  all_goals
    go_enter Try.func63, Try.ntmps63
    go_wp2
    go_ret
    exact ⟨by simp [h1, h2], below_alloc1 (Nat.le_refl _) _⟩
end Go.Proofs.Ytjddcaimjofihaa
