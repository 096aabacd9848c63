/- The walk of the law CaskNames; no condition. -/
import Derived.Test.YtjddcaimjofihaaXCB
import Derived.Test.YtjddcaimjofihaaN1
import Derived.Test.YtjddcaimjofihaaRI
import Derived.Test.YtjddcaimjofihaaRH
import Derived.Deep.Cut
namespace Go.Proofs.Ytjddcaimjofihaa
open Go.RowKit Go.Shelf
set_option maxRecDepth 100000

set_option maxHeartbeats 32000000 in
theorem CaskNames_walk (w0 : World) : Calls Try.prog 18 #[] w0 (RetT w0) := by
  have HB0 := hid (Below.refl w0.heap.size w0)
  go_enter Try.func18, Try.ntmps18
  go_wp2_with fail
  refine (two_any [] _ w0.heap.size w0 (Nat.le_refl _) Sl.nil).mono ?_
  rintro e w1 ⟨v1, rfl, hc1, hb1⟩
  have HB1 := hid (below_after HB0.out hb1 (Nat.le_refl _))
  have hs1 := HB1.out.size
  have hd1 := hb1.size
  clear hb1
  obtain ⟨_, _, _, _, _, _, rfl, -⟩ := id hc1.open
  go_wp2_with fail
  refine (nBounds _ _ w1 (Nat.le_refl _) hc1).mono ?_
  rintro e w2 ⟨v2, u2, rfl, hi2, hj2, hb2⟩
  have HB2 := hid (below_after HB1.out hb2 (Nat.le_refl _))
  have hs2 := HB2.out.size
  have hd2 := hb2.size
  clear hb2
  obtain ⟨a2, k2, hv2, -, ho2⟩ := id (show Rgs _ _ _ _ from hi2).open2
  replace hv2 : v2 = .slice a2 2 k2 := hv2
  subst hv2
  obtain ⟨b2, d2, hu2, -, hp2⟩ := id (show Rgs _ _ _ _ from hj2).open2
  replace hu2 : u2 = .slice b2 2 d2 := hu2
  subst hu2
  rcases ho2 with hnil | ⟨g1, o1, rfl, hg1, hx1⟩
  · simp at hnil
  rcases hp2 with hnil | ⟨g2, o2, rfl, hg2, hx2⟩
  · simp at hnil
  have HCELL := hid (fun w' (hb : Below w2.heap.size w2 w') => ⟨⟨(hb.cell (p := ⟨g1, _, none⟩) hg1).trans (hx1 0 (by simp)).1, (hb.cell (p := ⟨g1, _, none⟩) hg1).trans (hx1 0 (by simp)).2, (hb.cell (p := ⟨g1, _, none⟩) hg1).trans (hx1 1 (by simp)).1, (hb.cell (p := ⟨g1, _, none⟩) hg1).trans (hx1 1 (by simp)).2⟩,
    (hb.cell (p := ⟨g2, _, none⟩) hg2).trans (hx2 0 (by simp)).1, (hb.cell (p := ⟨g2, _, none⟩) hg2).trans (hx2 0 (by simp)).2, (hb.cell (p := ⟨g2, _, none⟩) hg2).trans (hx2 1 (by simp)).1, (hb.cell (p := ⟨g2, _, none⟩) hg2).trans (hx2 1 (by simp)).2⟩ :
    ∀ w' : World, Below w2.heap.size w2 w' → (w'.cell? ⟨g1, o1, none⟩ = some (.int .i64 40) ∧ w'.cell? ⟨g1, o1 + 1, none⟩ = some (.int .i64 42) ∧ w'.cell? ⟨g1, o1 + 2, none⟩ = some (.int .i64 60) ∧ w'.cell? ⟨g1, o1 + 2 + 1, none⟩ = some (.int .i64 63)) ∧
      w'.cell? ⟨g2, o2, none⟩ = some (.int .i64 50) ∧ w'.cell? ⟨g2, o2 + 1, none⟩ = some (.int .i64 52) ∧ w'.cell? ⟨g2, o2 + 2, none⟩ = some (.int .i64 55) ∧ w'.cell? ⟨g2, o2 + 2 + 1, none⟩ = some (.int .i64 57))
  clear hi2 hj2 hx1 hx2 hg1 hg2 hc1
  have HA2 := hid (Below.refl w2.heap.size w2)
  go_wp2_with fail
  refine (two_any [] _ w2.heap.size w2 (Nat.le_refl _) Sl.nil).mono ?_
  rintro e w3 ⟨v3, rfl, hc3, hb3⟩
  have HB3 := hid (below_after HB2.out hb3 (Nat.le_refl _))
  have hs3 := HB3.out.size
  have hd3 := hb3.size
  have HA3 := hid (below_after HA2.out hb3 (Nat.le_refl _))
  have zHA3 := HA3.out.size
  clear hb3
  obtain ⟨_, _, _, _, _, _, rfl, -⟩ := id hc3.open
  go_wp2_with fail
  refine (nGraded 0 50 1 0 (by decide +kernel) (by decide +kernel) _ _ w3 (Nat.le_refl _) hc3).mono ?_
  rintro e w4 ⟨rfl, hb4⟩
  have HB4 := hid (below_after HB3.out hb4 (Nat.le_refl _))
  have hs4 := HB4.out.size
  have hd4 := hb4.size
  have HA4 := hid (below_after HA3.out hb4 (Nat.le_refl _))
  have zHA4 := HA4.out.size
  clear hb4
  clear hc3
  go_wp2_with fail
  refine (two_any [] _ w4.heap.size w4 (Nat.le_refl _) Sl.nil).mono ?_
  rintro e w5 ⟨v5, rfl, hc5, hb5⟩
  have HB5 := hid (below_after HB4.out hb5 (Nat.le_refl _))
  have hs5 := HB5.out.size
  have hd5 := hb5.size
  have HA5 := hid (below_after HA4.out hb5 (Nat.le_refl _))
  have zHA5 := HA5.out.size
  clear hb5
  obtain ⟨_, _, _, _, _, _, rfl, -⟩ := id hc5.open
  go_wp2_with fail
  refine (nGraded 0 53 2 0 (by decide +kernel) (by decide +kernel) _ _ w5 (Nat.le_refl _) hc5).mono ?_
  rintro e w6 ⟨rfl, hb6⟩
  have HB6 := hid (below_after HB5.out hb6 (Nat.le_refl _))
  have hs6 := HB6.out.size
  have hd6 := hb6.size
  have HA6 := hid (below_after HA5.out hb6 (Nat.le_refl _))
  have zHA6 := HA6.out.size
  clear hb6
  clear hc5
  go_wp2_with fail
  refine (two_any [] _ w6.heap.size w6 (Nat.le_refl _) Sl.nil).mono ?_
  rintro e w7 ⟨v7, rfl, hc7, hb7⟩
  have HB7 := hid (below_after HB6.out hb7 (Nat.le_refl _))
  have hs7 := HB7.out.size
  have hd7 := hb7.size
  have HA7 := hid (below_after HA6.out hb7 (Nat.le_refl _))
  have zHA7 := HA7.out.size
  clear hb7
  obtain ⟨_, _, _, _, _, _, rfl, -⟩ := id hc7.open
  go_wp2_with fail
  refine (nDecide 51 [2] (by decide +kernel) (by decide +kernel) _ _ w7 (Nat.le_refl _) hc7).mono ?_
  rintro e w8 ⟨v8, rfl, hi8, hb8⟩
  have HB8 := hid (below_after HB7.out hb8 (Nat.le_refl _))
  have hs8 := HB8.out.size
  have hd8 := hb8.size
  have HA8 := hid (below_after HA7.out hb8 (Nat.le_refl _))
  have zHA8 := HA8.out.size
  clear hb8
  obtain ⟨a8, c8, hv8, -, -⟩ := id hi8.open1
  replace hv8 : v8 = .slice a8 1 c8 := hv8
  subst hv8
  have HI8 := hid hi8
  have HQ8 := hid (Below.refl w8.heap.size w8)
  clear hi8 hc7
  go_wp2_with fail
  refine (two_any [] _ w8.heap.size w8 (Nat.le_refl _) Sl.nil).mono ?_
  rintro e w9 ⟨v9, rfl, hc9, hb9⟩
  have HB9 := hid (below_after HB8.out hb9 (Nat.le_refl _))
  have hs9 := HB9.out.size
  have hd9 := hb9.size
  have HA9 := hid (below_after HA8.out hb9 (Nat.le_refl _))
  have zHA9 := HA9.out.size
  have HQ9 := hid (below_after HQ8.out hb9 (Nat.le_refl _))
  have zHQ9 := HQ9.out.size
  clear hb9
  obtain ⟨_, _, _, _, _, _, rfl, -⟩ := id hc9.open
  go_wp2_with fail
  refine (nDecide 50 [] (by decide +kernel) (by decide +kernel) _ _ w9 (Nat.le_refl _) hc9).mono ?_
  rintro e w10 ⟨v10, rfl, hi10, hb10⟩
  have HB10 := hid (below_after HB9.out hb10 (Nat.le_refl _))
  have hs10 := HB10.out.size
  have hd10 := hb10.size
  have HA10 := hid (below_after HA9.out hb10 (Nat.le_refl _))
  have zHA10 := HA10.out.size
  have HQ10 := hid (below_after HQ9.out hb10 (Nat.le_refl _))
  have zHQ10 := HQ10.out.size
  clear hb10
  obtain ⟨a10, c10, hv10, -, -⟩ := id hi10.open1
  replace hv10 : v10 = .slice a10 0 c10 := hv10
  subst hv10
  clear hi10 hc9
  go_upto_region 6 with fail
  go_cut [191] from 51 to 190 (fun v wx => v = .bool false ∧ Below w10.heap.size w10 wx)
  case first =>
    refine wp_region_grow (by kernel_rfl) 999 (fun w' => Below w10.heap.size w10 w') ?_ ?_
    · exact (Below.refl _ _).drew
    have HG := fun (a b : World) (h : Below w10.heap.size w10 a) (k : Below a.heap.size a b) => (h.trans (k.mono h.size) : Below w10.heap.size w10 b)
    refine wpG_take (i := 0) (v := .int .i64 0) rfl rfl (by kernel_rfl) (by kernel_rfl) (by kernel_rfl) (by kernel_rfl) (fun _ _ _ h => h) (by rfl) (fun w' hS' => grow_value ?_ hS') ?_
    · go_simp
    try simp only [List.setIfInBounds_toArray, List.set_cons_zero, List.set_cons_succ]
    refine wpG_take (i := 1) (v := .bool false) rfl rfl (by kernel_rfl) (by kernel_rfl) (by kernel_rfl) (by kernel_rfl) (fun _ _ _ h => h) (by rfl) (fun w' hS' => grow_value ?_ hS') ?_
    · go_simp
    try simp only [List.setIfInBounds_toArray, List.set_cons_zero, List.set_cons_succ]
    refine wpG_take (i := 2) (v := .bool false) rfl rfl (by kernel_rfl) (by kernel_rfl) (by kernel_rfl) (by kernel_rfl) (fun _ _ _ h => h) (by rfl) (fun w' hS' => grow_value ?_ hS') ?_
    · go_simp
    try simp only [List.setIfInBounds_toArray, List.set_cons_zero, List.set_cons_succ]
    refine wpG_take (i := 3) (v := .slice (some ⟨g1, o1, none⟩) 2 k2) rfl rfl (by kernel_rfl) (by kernel_rfl) (by kernel_rfl) (by kernel_rfl) (fun _ _ _ h => h) (by rfl) (fun w' hS' => grow_value ?_ hS') ?_
    · go_simp
    try simp only [List.setIfInBounds_toArray, List.set_cons_zero, List.set_cons_succ]
    refine wpG_take (i := 4) (v := .int .i64 2) rfl rfl (by kernel_rfl) (by kernel_rfl) (by kernel_rfl) (by kernel_rfl) (fun _ _ _ h => h) (by rfl) (fun w' hS' => grow_value ?_ hS') ?_
    · go_simp
    try simp only [List.setIfInBounds_toArray, List.set_cons_zero, List.set_cons_succ]
    refine wpG_take (i := 5) (v := .bool false) rfl rfl (by kernel_rfl) (by kernel_rfl) (by kernel_rfl) (by kernel_rfl) (fun _ _ _ h => h) (by rfl) (fun w' hS' => grow_value ?_ hS') ?_
    · go_simp
    try simp only [List.setIfInBounds_toArray, List.set_cons_zero, List.set_cons_succ]
    refine wpG_take (i := 6) (v := .bool false) rfl rfl (by kernel_rfl) (by kernel_rfl) (by kernel_rfl) (by kernel_rfl) (fun _ _ _ h => h) (by rfl) (fun w' hS' => grow_value ?_ hS') ?_
    · go_simp
    try simp only [List.setIfInBounds_toArray, List.set_cons_zero, List.set_cons_succ]
    refine wpG_take (i := 7) (v := .bool false) rfl rfl (by kernel_rfl) (by kernel_rfl) (by kernel_rfl) (by kernel_rfl) (fun _ _ _ h => h) (by rfl) (fun w' hS' => grow_value ?_ hS') ?_
    · go_simp
    try simp only [List.setIfInBounds_toArray, List.set_cons_zero, List.set_cons_succ]
    refine wpG_take (i := 8) (v := .slice (some ⟨g1, o1, none⟩) 2 k2) rfl rfl (by kernel_rfl) (by kernel_rfl) (by kernel_rfl) (by kernel_rfl) (fun _ _ _ h => h) (by rfl) (fun w' hS' => grow_value ?_ hS') ?_
    · go_simp
    try simp only [List.setIfInBounds_toArray, List.set_cons_zero, List.set_cons_succ]
    refine wpG_take (i := 9) (v := .pointer (some ⟨g1, o1, none⟩)) rfl rfl (by kernel_rfl) (by kernel_rfl) (by kernel_rfl) (by kernel_rfl) (fun _ _ _ h => h) (by rfl) (fun w' hS' => grow_value ?_ hS') ?_
    · go_simp
    try simp only [List.setIfInBounds_toArray, List.set_cons_zero, List.set_cons_succ]
    refine wpG_take (i := 10) (v := .agg #[.int .i64 40, .int .i64 42]) rfl rfl (by kernel_rfl) (by kernel_rfl) (by kernel_rfl) (by kernel_rfl) (fun _ _ _ h => h) (by rfl) (fun w' hS' => grow_value ?_ hS') ?_
    · have ⟨⟨e0, e1, e2, e3⟩, e4, e5, e6, e7⟩ := HCELL.out _ (below_after HA10.out hS' (Nat.le_refl _)); go_simp
    try simp only [List.setIfInBounds_toArray, List.set_cons_zero, List.set_cons_succ]
    refine wpG_take (i := 11) (v := .agg #[.int .i64 40, .int .i64 42]) rfl rfl (by kernel_rfl) (by kernel_rfl) (by kernel_rfl) (by kernel_rfl) (fun _ _ _ h => h) (by rfl) (fun w' hS' => grow_make (f := 76) (args := #[.int .i64 40, .int .i64 42]) ?_ hS' HG ?_) ?_
    · have ⟨⟨e0, e1, e2, e3⟩, e4, e5, e6, e7⟩ := HCELL.out _ (below_after HA10.out hS' (Nat.le_refl _)); go_simp
    · have ⟨⟨e0, e1, e2, e3⟩, e4, e5, e6, e7⟩ := HCELL.out _ (below_after HA10.out hS' (Nat.le_refl _)); exact between_any _ _ _
    try simp only [List.setIfInBounds_toArray, List.set_cons_zero, List.set_cons_succ]
    refine wpG_take (i := 12) (v := .bool false) rfl rfl (by kernel_rfl) (by kernel_rfl) (by kernel_rfl) (by kernel_rfl) (fun _ _ _ h => h) (by rfl) (fun w' hS' => grow_value ?_ hS') ?_
    · go_simp
    try simp only [List.setIfInBounds_toArray, List.set_cons_zero, List.set_cons_succ]
    refine wpG_take (i := 13) (v := .bool false) rfl rfl (by kernel_rfl) (by kernel_rfl) (by kernel_rfl) (by kernel_rfl) (fun _ _ _ h => h) (by rfl) (fun w' hS' => grow_value ?_ hS') ?_
    · go_simp
    try simp only [List.setIfInBounds_toArray, List.set_cons_zero, List.set_cons_succ]
    refine wpG_take (i := 14) (v := .bool false) rfl rfl (by kernel_rfl) (by kernel_rfl) (by kernel_rfl) (by kernel_rfl) (fun _ _ _ h => h) (by rfl) (fun w' hS' => grow_value ?_ hS') ?_
    · go_simp
    try simp only [List.setIfInBounds_toArray, List.set_cons_zero, List.set_cons_succ]
    as_aux_lemma =>
      refine wpG_take (i := 15) (v := .slice (some ⟨g1, o1, none⟩) 2 k2) rfl rfl (by kernel_rfl) (by kernel_rfl) (by kernel_rfl) (by kernel_rfl) (fun _ _ _ h => h) (by rfl) (fun w' hS' => grow_value ?_ hS') ?_
      · go_simp
      try simp only [List.setIfInBounds_toArray, List.set_cons_zero, List.set_cons_succ]
      refine wpG_take (i := 16) (v := .pointer (some ⟨g1, o1 + 2, none⟩)) rfl rfl (by kernel_rfl) (by kernel_rfl) (by kernel_rfl) (by kernel_rfl) (fun _ _ _ h => h) (by rfl) (fun w' hS' => grow_value ?_ hS') ?_
      · go_simp
      try simp only [List.setIfInBounds_toArray, List.set_cons_zero, List.set_cons_succ]
      refine wpG_take (i := 17) (v := .agg #[.int .i64 60, .int .i64 63]) rfl rfl (by kernel_rfl) (by kernel_rfl) (by kernel_rfl) (by kernel_rfl) (fun _ _ _ h => h) (by rfl) (fun w' hS' => grow_value ?_ hS') ?_
      · have ⟨⟨e0, e1, e2, e3⟩, e4, e5, e6, e7⟩ := HCELL.out _ (below_after HA10.out hS' (Nat.le_refl _)); go_simp
      try simp only [List.setIfInBounds_toArray, List.set_cons_zero, List.set_cons_succ]
      refine wpG_take (i := 18) (v := .agg #[.int .i64 60, .int .i64 63]) rfl rfl (by kernel_rfl) (by kernel_rfl) (by kernel_rfl) (by kernel_rfl) (fun _ _ _ h => h) (by rfl) (fun w' hS' => grow_make (f := 76) (args := #[.int .i64 60, .int .i64 63]) ?_ hS' HG ?_) ?_
      · have ⟨⟨e0, e1, e2, e3⟩, e4, e5, e6, e7⟩ := HCELL.out _ (below_after HA10.out hS' (Nat.le_refl _)); go_simp
      · have ⟨⟨e0, e1, e2, e3⟩, e4, e5, e6, e7⟩ := HCELL.out _ (below_after HA10.out hS' (Nat.le_refl _)); exact between_any _ _ _
      try simp only [List.setIfInBounds_toArray, List.set_cons_zero, List.set_cons_succ]
      refine wpG_take (i := 19) (v := .bool false) rfl rfl (by kernel_rfl) (by kernel_rfl) (by kernel_rfl) (by kernel_rfl) (fun _ _ _ h => h) (by rfl) (fun w' hS' => grow_value ?_ hS') ?_
      · go_simp
      try simp only [List.setIfInBounds_toArray, List.set_cons_zero, List.set_cons_succ]
      refine wpG_take (i := 20) (v := .bool false) rfl rfl (by kernel_rfl) (by kernel_rfl) (by kernel_rfl) (by kernel_rfl) (fun _ _ _ h => h) (by rfl) (fun w' hS' => grow_value ?_ hS') ?_
      · go_simp
      try simp only [List.setIfInBounds_toArray, List.set_cons_zero, List.set_cons_succ]
      refine wpG_take (i := 21) (v := .bool false) rfl rfl (by kernel_rfl) (by kernel_rfl) (by kernel_rfl) (by kernel_rfl) (fun _ _ _ h => h) (by rfl) (fun w' hS' => grow_value ?_ hS') ?_
      · go_simp
      try simp only [List.setIfInBounds_toArray, List.set_cons_zero, List.set_cons_succ]
      refine wpG_take (i := 22) (v := .slice (some ⟨g2, o2, none⟩) 2 d2) rfl rfl (by kernel_rfl) (by kernel_rfl) (by kernel_rfl) (by kernel_rfl) (fun _ _ _ h => h) (by rfl) (fun w' hS' => grow_value ?_ hS') ?_
      · go_simp
      try simp only [List.setIfInBounds_toArray, List.set_cons_zero, List.set_cons_succ]
      refine wpG_take (i := 23) (v := .int .i64 2) rfl rfl (by kernel_rfl) (by kernel_rfl) (by kernel_rfl) (by kernel_rfl) (fun _ _ _ h => h) (by rfl) (fun w' hS' => grow_value ?_ hS') ?_
      · go_simp
      try simp only [List.setIfInBounds_toArray, List.set_cons_zero, List.set_cons_succ]
      refine wpG_take (i := 24) (v := .bool false) rfl rfl (by kernel_rfl) (by kernel_rfl) (by kernel_rfl) (by kernel_rfl) (fun _ _ _ h => h) (by rfl) (fun w' hS' => grow_value ?_ hS') ?_
      · go_simp
      try simp only [List.setIfInBounds_toArray, List.set_cons_zero, List.set_cons_succ]
      refine wpG_take (i := 25) (v := .bool false) rfl rfl (by kernel_rfl) (by kernel_rfl) (by kernel_rfl) (by kernel_rfl) (fun _ _ _ h => h) (by rfl) (fun w' hS' => grow_value ?_ hS') ?_
      · go_simp
      try simp only [List.setIfInBounds_toArray, List.set_cons_zero, List.set_cons_succ]
      refine wpG_take (i := 26) (v := .bool false) rfl rfl (by kernel_rfl) (by kernel_rfl) (by kernel_rfl) (by kernel_rfl) (fun _ _ _ h => h) (by rfl) (fun w' hS' => grow_value ?_ hS') ?_
      · go_simp
      try simp only [List.setIfInBounds_toArray, List.set_cons_zero, List.set_cons_succ]
      refine wpG_take (i := 27) (v := .slice (some ⟨g2, o2, none⟩) 2 d2) rfl rfl (by kernel_rfl) (by kernel_rfl) (by kernel_rfl) (by kernel_rfl) (fun _ _ _ h => h) (by rfl) (fun w' hS' => grow_value ?_ hS') ?_
      · go_simp
      try simp only [List.setIfInBounds_toArray, List.set_cons_zero, List.set_cons_succ]
      refine wpG_take (i := 28) (v := .pointer (some ⟨g2, o2, none⟩)) rfl rfl (by kernel_rfl) (by kernel_rfl) (by kernel_rfl) (by kernel_rfl) (fun _ _ _ h => h) (by rfl) (fun w' hS' => grow_value ?_ hS') ?_
      · go_simp
      try simp only [List.setIfInBounds_toArray, List.set_cons_zero, List.set_cons_succ]
      refine wpG_take (i := 29) (v := .agg #[.int .i64 50, .int .i64 52]) rfl rfl (by kernel_rfl) (by kernel_rfl) (by kernel_rfl) (by kernel_rfl) (fun _ _ _ h => h) (by rfl) (fun w' hS' => grow_value ?_ hS') ?_
      · have ⟨⟨e0, e1, e2, e3⟩, e4, e5, e6, e7⟩ := HCELL.out _ (below_after HA10.out hS' (Nat.le_refl _)); go_simp
      try simp only [List.setIfInBounds_toArray, List.set_cons_zero, List.set_cons_succ]
      refine wpG_take (i := 30) (v := .agg #[.int .i64 50, .int .i64 52]) rfl rfl (by kernel_rfl) (by kernel_rfl) (by kernel_rfl) (by kernel_rfl) (fun _ _ _ h => h) (by rfl) (fun w' hS' => grow_make (f := 76) (args := #[.int .i64 50, .int .i64 52]) ?_ hS' HG ?_) ?_
      · have ⟨⟨e0, e1, e2, e3⟩, e4, e5, e6, e7⟩ := HCELL.out _ (below_after HA10.out hS' (Nat.le_refl _)); go_simp
      · have ⟨⟨e0, e1, e2, e3⟩, e4, e5, e6, e7⟩ := HCELL.out _ (below_after HA10.out hS' (Nat.le_refl _)); exact between_any _ _ _
      try simp only [List.setIfInBounds_toArray, List.set_cons_zero, List.set_cons_succ]
      refine wpG_take (i := 31) (v := .bool false) rfl rfl (by kernel_rfl) (by kernel_rfl) (by kernel_rfl) (by kernel_rfl) (fun _ _ _ h => h) (by rfl) (fun w' hS' => grow_value ?_ hS') ?_
      · go_simp
      try simp only [List.setIfInBounds_toArray, List.set_cons_zero, List.set_cons_succ]
      refine wpG_take (i := 32) (v := .bool false) rfl rfl (by kernel_rfl) (by kernel_rfl) (by kernel_rfl) (by kernel_rfl) (fun _ _ _ h => h) (by rfl) (fun w' hS' => grow_value ?_ hS') ?_
      · go_simp
      try simp only [List.setIfInBounds_toArray, List.set_cons_zero, List.set_cons_succ]
      refine wpG_take (i := 33) (v := .bool false) rfl rfl (by kernel_rfl) (by kernel_rfl) (by kernel_rfl) (by kernel_rfl) (fun _ _ _ h => h) (by rfl) (fun w' hS' => grow_value ?_ hS') ?_
      · go_simp
      try simp only [List.setIfInBounds_toArray, List.set_cons_zero, List.set_cons_succ]
      as_aux_lemma =>
        refine wpG_take (i := 34) (v := .slice (some ⟨g2, o2, none⟩) 2 d2) rfl rfl (by kernel_rfl) (by kernel_rfl) (by kernel_rfl) (by kernel_rfl) (fun _ _ _ h => h) (by rfl) (fun w' hS' => grow_value ?_ hS') ?_
        · go_simp
        try simp only [List.setIfInBounds_toArray, List.set_cons_zero, List.set_cons_succ]
        refine wpG_take (i := 35) (v := .pointer (some ⟨g2, o2 + 2, none⟩)) rfl rfl (by kernel_rfl) (by kernel_rfl) (by kernel_rfl) (by kernel_rfl) (fun _ _ _ h => h) (by rfl) (fun w' hS' => grow_value ?_ hS') ?_
        · go_simp
        try simp only [List.setIfInBounds_toArray, List.set_cons_zero, List.set_cons_succ]
        refine wpG_take (i := 36) (v := .agg #[.int .i64 55, .int .i64 57]) rfl rfl (by kernel_rfl) (by kernel_rfl) (by kernel_rfl) (by kernel_rfl) (fun _ _ _ h => h) (by rfl) (fun w' hS' => grow_value ?_ hS') ?_
        · have ⟨⟨e0, e1, e2, e3⟩, e4, e5, e6, e7⟩ := HCELL.out _ (below_after HA10.out hS' (Nat.le_refl _)); go_simp
        try simp only [List.setIfInBounds_toArray, List.set_cons_zero, List.set_cons_succ]
        refine wpG_take (i := 37) (v := .agg #[.int .i64 55, .int .i64 57]) rfl rfl (by kernel_rfl) (by kernel_rfl) (by kernel_rfl) (by kernel_rfl) (fun _ _ _ h => h) (by rfl) (fun w' hS' => grow_make (f := 76) (args := #[.int .i64 55, .int .i64 57]) ?_ hS' HG ?_) ?_
        · have ⟨⟨e0, e1, e2, e3⟩, e4, e5, e6, e7⟩ := HCELL.out _ (below_after HA10.out hS' (Nat.le_refl _)); go_simp
        · have ⟨⟨e0, e1, e2, e3⟩, e4, e5, e6, e7⟩ := HCELL.out _ (below_after HA10.out hS' (Nat.le_refl _)); exact between_any _ _ _
        try simp only [List.setIfInBounds_toArray, List.set_cons_zero, List.set_cons_succ]
        refine wpG_take (i := 38) (v := .bool false) rfl rfl (by kernel_rfl) (by kernel_rfl) (by kernel_rfl) (by kernel_rfl) (fun _ _ _ h => h) (by rfl) (fun w' hS' => grow_value ?_ hS') ?_
        · go_simp
        try simp only [List.setIfInBounds_toArray, List.set_cons_zero, List.set_cons_succ]
        refine wpG_take (i := 39) (v := .bool false) rfl rfl (by kernel_rfl) (by kernel_rfl) (by kernel_rfl) (by kernel_rfl) (fun _ _ _ h => h) (by rfl) (fun w' hS' => grow_value ?_ hS') ?_
        · go_simp
        try simp only [List.setIfInBounds_toArray, List.set_cons_zero, List.set_cons_succ]
        refine wpG_take (i := 40) (v := .bool false) rfl rfl (by kernel_rfl) (by kernel_rfl) (by kernel_rfl) (by kernel_rfl) (fun _ _ _ h => h) (by rfl) (fun w' hS' => grow_value ?_ hS') ?_
        · go_simp
        try simp only [List.setIfInBounds_toArray, List.set_cons_zero, List.set_cons_succ]
        refine wpG_take (i := 41) (v := .int .i64 0) rfl rfl (by kernel_rfl) (by kernel_rfl) (by kernel_rfl) (by kernel_rfl) (fun _ _ _ h => h) (by rfl) (fun w' hS' => grow_value ?_ hS') ?_
        · go_simp
        try simp only [List.setIfInBounds_toArray, List.set_cons_zero, List.set_cons_succ]
        refine wpG_take (i := 42) (v := .bool false) rfl rfl (by kernel_rfl) (by kernel_rfl) (by kernel_rfl) (by kernel_rfl) (fun _ _ _ h => h) (by rfl) (fun w' hS' => grow_value ?_ hS') ?_
        · go_simp
        try simp only [List.setIfInBounds_toArray, List.set_cons_zero, List.set_cons_succ]
        refine wpG_take (i := 43) (v := .bool false) rfl rfl (by kernel_rfl) (by kernel_rfl) (by kernel_rfl) (by kernel_rfl) (fun _ _ _ h => h) (by rfl) (fun w' hS' => grow_value ?_ hS') ?_
        · go_simp
        try simp only [List.setIfInBounds_toArray, List.set_cons_zero, List.set_cons_succ]
        refine wpG_take (i := 44) (v := .bool false) rfl rfl (by kernel_rfl) (by kernel_rfl) (by kernel_rfl) (by kernel_rfl) (fun _ _ _ h => h) (by rfl) (fun w' hS' => grow_value ?_ hS') ?_
        · go_simp
        try simp only [List.setIfInBounds_toArray, List.set_cons_zero, List.set_cons_succ]
        refine wpG_take (i := 45) (v := .int .i64 1) rfl rfl (by kernel_rfl) (by kernel_rfl) (by kernel_rfl) (by kernel_rfl) (fun _ _ _ h => h) (by rfl) (fun w' hS' => grow_value ?_ hS') ?_
        · go_simp
        try simp only [List.setIfInBounds_toArray, List.set_cons_zero, List.set_cons_succ]
        refine wpG_take (i := 46) (v := .bool false) rfl rfl (by kernel_rfl) (by kernel_rfl) (by kernel_rfl) (by kernel_rfl) (fun _ _ _ h => h) (by rfl) (fun w' hS' => grow_value ?_ hS') ?_
        · go_simp
        try simp only [List.setIfInBounds_toArray, List.set_cons_zero, List.set_cons_succ]
        refine wpG_take (i := 47) (v := .bool false) rfl rfl (by kernel_rfl) (by kernel_rfl) (by kernel_rfl) (by kernel_rfl) (fun _ _ _ h => h) (by rfl) (fun w' hS' => grow_value ?_ hS') ?_
        · go_simp
        try simp only [List.setIfInBounds_toArray, List.set_cons_zero, List.set_cons_succ]
        refine wpG_take (i := 48) (v := .bool false) rfl rfl (by kernel_rfl) (by kernel_rfl) (by kernel_rfl) (by kernel_rfl) (fun _ _ _ h => h) (by rfl) (fun w' hS' => grow_value ?_ hS') ?_
        · go_simp
        try simp only [List.setIfInBounds_toArray, List.set_cons_zero, List.set_cons_succ]
        refine wpG_take (i := 49) (v := .int .i64 0) rfl rfl (by kernel_rfl) (by kernel_rfl) (by kernel_rfl) (by kernel_rfl) (fun _ _ _ h => h) (by rfl) (fun w' hS' => grow_value ?_ hS') ?_
        · go_simp
        try simp only [List.setIfInBounds_toArray, List.set_cons_zero, List.set_cons_succ]
        refine wpG_take (i := 50) (v := .bool false) rfl rfl (by kernel_rfl) (by kernel_rfl) (by kernel_rfl) (by kernel_rfl) (fun _ _ _ h => h) (by rfl) (fun w' hS' => grow_value ?_ hS') ?_
        · go_simp
        try simp only [List.setIfInBounds_toArray, List.set_cons_zero, List.set_cons_succ]
        refine wpG_take (i := 51) (v := .bool false) rfl rfl (by kernel_rfl) (by kernel_rfl) (by kernel_rfl) (by kernel_rfl) (fun _ _ _ h => h) (by rfl) (fun w' hS' => grow_value ?_ hS') ?_
        · go_simp
        try simp only [List.setIfInBounds_toArray, List.set_cons_zero, List.set_cons_succ]
        refine wpG_take (i := 52) (v := .bool false) rfl rfl (by kernel_rfl) (by kernel_rfl) (by kernel_rfl) (by kernel_rfl) (fun _ _ _ h => h) (by rfl) (fun w' hS' => grow_value ?_ hS') ?_
        · go_simp
        try simp only [List.setIfInBounds_toArray, List.set_cons_zero, List.set_cons_succ]
        as_aux_lemma =>
          refine wpG_take (i := 53) (v := .int .i64 2) rfl rfl (by kernel_rfl) (by kernel_rfl) (by kernel_rfl) (by kernel_rfl) (fun _ _ _ h => h) (by rfl) (fun w' hS' => grow_value ?_ hS') ?_
          · go_simp
          try simp only [List.setIfInBounds_toArray, List.set_cons_zero, List.set_cons_succ]
          refine wpG_take (i := 54) (v := .bool false) rfl rfl (by kernel_rfl) (by kernel_rfl) (by kernel_rfl) (by kernel_rfl) (fun _ _ _ h => h) (by rfl) (fun w' hS' => grow_value ?_ hS') ?_
          · go_simp
          try simp only [List.setIfInBounds_toArray, List.set_cons_zero, List.set_cons_succ]
          refine wpG_take (i := 55) (v := .bool false) rfl rfl (by kernel_rfl) (by kernel_rfl) (by kernel_rfl) (by kernel_rfl) (fun _ _ _ h => h) (by rfl) (fun w' hS' => grow_value ?_ hS') ?_
          · go_simp
          try simp only [List.setIfInBounds_toArray, List.set_cons_zero, List.set_cons_succ]
          refine wpG_take (i := 56) (v := .bool false) rfl rfl (by kernel_rfl) (by kernel_rfl) (by kernel_rfl) (by kernel_rfl) (fun _ _ _ h => h) (by rfl) (fun w' hS' => grow_value ?_ hS') ?_
          · go_simp
          try simp only [List.setIfInBounds_toArray, List.set_cons_zero, List.set_cons_succ]
          refine wpG_take (i := 57) (v := .int .i64 0) rfl rfl (by kernel_rfl) (by kernel_rfl) (by kernel_rfl) (by kernel_rfl) (fun _ _ _ h => h) (by rfl) (fun w' hS' => grow_value ?_ hS') ?_
          · go_simp
          try simp only [List.setIfInBounds_toArray, List.set_cons_zero, List.set_cons_succ]
          refine wpG_take (i := 58) (v := .bool false) rfl rfl (by kernel_rfl) (by kernel_rfl) (by kernel_rfl) (by kernel_rfl) (fun _ _ _ h => h) (by rfl) (fun w' hS' => grow_value ?_ hS') ?_
          · go_simp
          try simp only [List.setIfInBounds_toArray, List.set_cons_zero, List.set_cons_succ]
          refine wpG_take (i := 59) (v := .bool false) rfl rfl (by kernel_rfl) (by kernel_rfl) (by kernel_rfl) (by kernel_rfl) (fun _ _ _ h => h) (by rfl) (fun w' hS' => grow_value ?_ hS') ?_
          · go_simp
          try simp only [List.setIfInBounds_toArray, List.set_cons_zero, List.set_cons_succ]
          refine wpG_take (i := 60) (v := .bool false) rfl rfl (by kernel_rfl) (by kernel_rfl) (by kernel_rfl) (by kernel_rfl) (fun _ _ _ h => h) (by rfl) (fun w' hS' => grow_value ?_ hS') ?_
          · go_simp
          try simp only [List.setIfInBounds_toArray, List.set_cons_zero, List.set_cons_succ]
          refine wpG_take (i := 61) (v := .slice a8 1 c8) rfl rfl (by kernel_rfl) (by kernel_rfl) (by kernel_rfl) (by kernel_rfl) (fun _ _ _ h => h) (by rfl) (fun w' hS' => grow_value ?_ hS') ?_
          · go_simp
          try simp only [List.setIfInBounds_toArray, List.set_cons_zero, List.set_cons_succ]
          refine wpG_only (i := 62) rfl (by rfl) (by kernel_rfl) (by rfl) (fun wA hbA hSA => ?_)
          go_simp
          have hst := ints_lit wA [2] #[.int .i64 2] 3 rfl
          refine ⟨HG _ _ hSA (below_alloc1 (Nat.le_refl _) _), ?_⟩
          try simp only [List.setIfInBounds_toArray, List.set_cons_zero, List.set_cons_succ]
          refine wpG_only (i := 63) rfl (by rfl) (by kernel_rfl) (by rfl) (fun wC hbC hSC => ?_)
          go_simp
          refine (same_any [2] [2] _ _ wC.heap.size _ ((HI8.out.below (below_after HQ10.out hSC (Nat.le_refl _))).le (by have := HQ10.out.size; have := hSC.size; omega)) (st_ints _ _ _ _ hst hbC) (Nat.le_refl _) (by decide) (by decide)).mono ?_
          rw [show sameB [2] [2] = true from rfl]
          rintro e wD ⟨rfl, hbD⟩
          refine ⟨HG _ _ hSC hbD, ?_⟩
          clear hst hbA hSA hbC hSC hbD
          try simp only [List.setIfInBounds_toArray, List.set_cons_zero, List.set_cons_succ]
          as_aux_lemma =>
            refine wpG_take (i := 64) (v := .bool false) rfl rfl (by kernel_rfl) (by kernel_rfl) (by kernel_rfl) (by kernel_rfl) (fun _ _ _ h => h) (by rfl) (fun w' hS' => grow_value ?_ hS') ?_
            · go_simp
            try simp only [List.setIfInBounds_toArray, List.set_cons_zero, List.set_cons_succ]
            refine wpG_take (i := 65) (v := .bool false) rfl rfl (by kernel_rfl) (by kernel_rfl) (by kernel_rfl) (by kernel_rfl) (fun _ _ _ h => h) (by rfl) (fun w' hS' => grow_value ?_ hS') ?_
            · go_simp
            try simp only [List.setIfInBounds_toArray, List.set_cons_zero, List.set_cons_succ]
            refine wpG_take (i := 66) (v := .bool false) rfl rfl (by kernel_rfl) (by kernel_rfl) (by kernel_rfl) (by kernel_rfl) (fun _ _ _ h => h) (by rfl) (fun w' hS' => grow_value ?_ hS') ?_
            · go_simp
            try simp only [List.setIfInBounds_toArray, List.set_cons_zero, List.set_cons_succ]
            refine wpG_take (i := 67) (v := .int .i64 0) rfl rfl (by kernel_rfl) (by kernel_rfl) (by kernel_rfl) (by kernel_rfl) (fun _ _ _ h => h) (by rfl) (fun w' hS' => grow_value ?_ hS') ?_
            · go_simp
            try simp only [List.setIfInBounds_toArray, List.set_cons_zero, List.set_cons_succ]
            refine wpG_take (i := 68) (v := .bool false) rfl rfl (by kernel_rfl) (by kernel_rfl) (by kernel_rfl) (by kernel_rfl) (fun _ _ _ h => h) (by rfl) (fun w' hS' => grow_value ?_ hS') ?_
            · go_simp
            try simp only [List.setIfInBounds_toArray, List.set_cons_zero, List.set_cons_succ]
            refine wpG_take (i := 69) (v := .bool false) rfl rfl (by kernel_rfl) (by kernel_rfl) (by kernel_rfl) (by kernel_rfl) (fun _ _ _ h => h) (by rfl) (fun w' hS' => grow_value ?_ hS') ?_
            · go_simp
            try simp only [List.setIfInBounds_toArray, List.set_cons_zero, List.set_cons_succ]
            refine wpG_take (i := 70) (v := .bool false) rfl rfl (by kernel_rfl) (by kernel_rfl) (by kernel_rfl) (by kernel_rfl) (fun _ _ _ h => h) (by rfl) (fun w' hS' => grow_value ?_ hS') ?_
            · go_simp
            try simp only [List.setIfInBounds_toArray, List.set_cons_zero, List.set_cons_succ]
            refine wpG_take (i := 71) (v := .slice a10 0 c10) rfl rfl (by kernel_rfl) (by kernel_rfl) (by kernel_rfl) (by kernel_rfl) (fun _ _ _ h => h) (by rfl) (fun w' hS' => grow_value ?_ hS') ?_
            · go_simp
            try simp only [List.setIfInBounds_toArray, List.set_cons_zero, List.set_cons_succ]
            refine wpG_take (i := 72) (v := .int .i64 0) rfl rfl (by kernel_rfl) (by kernel_rfl) (by kernel_rfl) (by kernel_rfl) (fun _ _ _ h => h) (by rfl) (fun w' hS' => grow_value ?_ hS') ?_
            · go_simp
            try simp only [List.setIfInBounds_toArray, List.set_cons_zero, List.set_cons_succ]
            refine wpG_take (i := 73) (v := .bool false) rfl rfl (by kernel_rfl) (by kernel_rfl) (by kernel_rfl) (by kernel_rfl) (fun _ _ _ h => h) (by rfl) (fun w' hS' => grow_value ?_ hS') ?_
            · go_simp
            try simp only [List.setIfInBounds_toArray, List.set_cons_zero, List.set_cons_succ]
            refine wpG_take (i := 74) (v := .bool false) rfl rfl (by kernel_rfl) (by kernel_rfl) (by kernel_rfl) (by kernel_rfl) (fun _ _ _ h => h) (by rfl) (fun w' hS' => grow_value ?_ hS') ?_
            · go_simp
            try simp only [List.setIfInBounds_toArray, List.set_cons_zero, List.set_cons_succ]
            refine wpG_take (i := 75) (v := .bool false) rfl rfl (by kernel_rfl) (by kernel_rfl) (by kernel_rfl) (by kernel_rfl) (fun _ _ _ h => h) (by rfl) (fun w' hS' => grow_value ?_ hS') ?_
            · go_simp
            try simp only [List.setIfInBounds_toArray, List.set_cons_zero, List.set_cons_succ]
            clear HI8 HQ8 HQ9 HQ10 HCELL HA2 HA3 HA4 HA5 HA6 HA7 HA8 HA9 HA10
            -- a cellar and what is asked of it, in any order: number I (two), J (numbers L), N (the call), and the numbers behind
            refine wpG_take (i := 76) (v := .agg #[.bool true, .int .i64 0, .int .i64 52, .int .i64 52]) rfl rfl (by kernel_rfl) (by kernel_rfl) (by kernel_rfl) (by kernel_rfl) (fun _ _ _ h => h) (by rfl) (fun w' hS' => grow_make (f := 77) (args := #[]) ?_ hS' HG ?_) ?_
            · go_simp
            · exact first_any _
            try simp only [List.setIfInBounds_toArray, List.set_cons_zero, List.set_cons_succ]
            refine wpG_chain (i := 77) (j := 79) (k := 78) (Φ := fun u w' => Tls (Lt w'.heap.size) w' u [t1]) (Χ := fun u w' => CeV (Lt w'.heap.size) w' u (twoC [t1])) rfl rfl rfl rfl rfl rfl (by rfl) (by kernel_rfl) (by kernel_rfl) (by kernel_rfl) (by kernel_rfl) (by kernel_rfl) (by kernel_rfl) (by kernel_rfl) ⟨by rfl, fun w' hT => grow_valueE (v := .slice (some ⟨w'.heap.size, 0, none⟩) 1 1) (w' := w'.alloc (.cells #[.bool true, .int .i64 0, .int .i64 52, .int .i64 52] 125)) ?_ (below_alloc1 (Nat.le_refl _) _) (HG _ _ hT.2 (below_alloc1 (Nat.le_refl _) _)) (tls_lit w' [t1] #[.bool true, .int .i64 0, .int .i64 52, .int .i64 52] 125 rfl)⟩ ⟨by rfl, fun w' hT => grow_valueE (v := .slice (some ⟨w'.heap.size, 0, none⟩) 2 2) (w' := w'.alloc (.cells #[.int .i64 42, .int .i64 62] 3)) ?_ (below_alloc1 (Nat.le_refl _) _) (HG _ _ hT.2 (below_alloc1 (Nat.le_refl _) _)) (ints_lit w' [42, 62] #[.int .i64 42, .int .i64 62] 3 rfl)⟩ (fun u wU hbU hSU hpU => ⟨by rfl, fun w' hT => grow_callE (f := 75) (args := #[u]) ?_ (ye_two HG [t1] u hT.2 (st_tls _ _ _ _ hpU hT.1))⟩) (st_ints [42, 62]) (st_ce (twoC [t1])) (fun u77 v79 x78 wP77 hbP hSP hiP hcP => ?_)
            · go_simp
            · go_simp
            · simp only [Act.put, List.setIfInBounds_toArray]
              go_simp
            try simp only [List.setIfInBounds_toArray, List.set_cons_zero, List.set_cons_succ]
            refine wpG_only (i := 80) rfl (by rfl) (by kernel_rfl) (by rfl) (fun wI hbI hSI => ?_)
            go_simp
            refine (nTruth [t1] (by decide) [42, 62] (by decide) true (by decide +kernel) _ _ _ wI (Nat.le_refl _) (st_ce _ _ _ _ hcP hbI) (st_ints _ _ _ _ hiP hbI)).mono ?_
            rintro e w80 ⟨rfl, hb80⟩
            clear hbP hSP hcP hiP
            refine ⟨HG _ _ hSI hb80, ?_⟩
            clear hbI hSI hb80
            try simp only [List.setIfInBounds_toArray, List.set_cons_zero, List.set_cons_succ]
            as_aux_lemma =>
              refine wpG_take (i := 81) (v := .bool false) rfl rfl (by kernel_rfl) (by kernel_rfl) (by kernel_rfl) (by kernel_rfl) (fun _ _ _ h => h) (by rfl) (fun w' hS' => grow_value ?_ hS') ?_
              · go_simp
              try simp only [List.setIfInBounds_toArray, List.set_cons_zero, List.set_cons_succ]
              refine wpG_take (i := 82) (v := .bool false) rfl rfl (by kernel_rfl) (by kernel_rfl) (by kernel_rfl) (by kernel_rfl) (fun _ _ _ h => h) (by rfl) (fun w' hS' => grow_value ?_ hS') ?_
              · go_simp
              try simp only [List.setIfInBounds_toArray, List.set_cons_zero, List.set_cons_succ]
              refine wpG_take (i := 83) (v := .bool false) rfl rfl (by kernel_rfl) (by kernel_rfl) (by kernel_rfl) (by kernel_rfl) (fun _ _ _ h => h) (by rfl) (fun w' hS' => grow_value ?_ hS') ?_
              · go_simp
              try simp only [List.setIfInBounds_toArray, List.set_cons_zero, List.set_cons_succ]
              refine wpG_take (i := 84) (v := .agg #[.bool true, .int .i64 0, .int .i64 52, .int .i64 52]) rfl rfl (by kernel_rfl) (by kernel_rfl) (by kernel_rfl) (by kernel_rfl) (fun _ _ _ h => h) (by rfl) (fun w' hS' => grow_make (f := 77) (args := #[]) ?_ hS' HG ?_) ?_
              · go_simp
              · exact first_any _
              try simp only [List.setIfInBounds_toArray, List.set_cons_zero, List.set_cons_succ]
              refine wpG_chain (i := 85) (j := 87) (k := 86) (Φ := fun u w' => Tls (Lt w'.heap.size) w' u [t1]) (Χ := fun u w' => CeV (Lt w'.heap.size) w' u (twoC [t1])) rfl rfl rfl rfl rfl rfl (by rfl) (by kernel_rfl) (by kernel_rfl) (by kernel_rfl) (by kernel_rfl) (by kernel_rfl) (by kernel_rfl) (by kernel_rfl) ⟨by rfl, fun w' hT => grow_valueE (v := .slice (some ⟨w'.heap.size, 0, none⟩) 1 1) (w' := w'.alloc (.cells #[.bool true, .int .i64 0, .int .i64 52, .int .i64 52] 125)) ?_ (below_alloc1 (Nat.le_refl _) _) (HG _ _ hT.2 (below_alloc1 (Nat.le_refl _) _)) (tls_lit w' [t1] #[.bool true, .int .i64 0, .int .i64 52, .int .i64 52] 125 rfl)⟩ ⟨by rfl, fun w' hT => grow_valueE (v := .slice (some ⟨w'.heap.size, 0, none⟩) 2 2) (w' := w'.alloc (.cells #[.int .i64 41, .int .i64 62] 3)) ?_ (below_alloc1 (Nat.le_refl _) _) (HG _ _ hT.2 (below_alloc1 (Nat.le_refl _) _)) (ints_lit w' [41, 62] #[.int .i64 41, .int .i64 62] 3 rfl)⟩ (fun u wU hbU hSU hpU => ⟨by rfl, fun w' hT => grow_callE (f := 75) (args := #[u]) ?_ (ye_two HG [t1] u hT.2 (st_tls _ _ _ _ hpU hT.1))⟩) (st_ints [41, 62]) (st_ce (twoC [t1])) (fun u85 v87 x86 wP85 hbP hSP hiP hcP => ?_)
              · go_simp
              · go_simp
              · simp only [Act.put, List.setIfInBounds_toArray]
                go_simp
              try simp only [List.setIfInBounds_toArray, List.set_cons_zero, List.set_cons_succ]
              refine wpG_only (i := 88) rfl (by rfl) (by kernel_rfl) (by rfl) (fun wI hbI hSI => ?_)
              go_simp
              refine (nTruth [t1] (by decide) [41, 62] (by decide) false (by decide +kernel) _ _ _ wI (Nat.le_refl _) (st_ce _ _ _ _ hcP hbI) (st_ints _ _ _ _ hiP hbI)).mono ?_
              rintro e w88 ⟨rfl, hb88⟩
              clear hbP hSP hcP hiP
              refine ⟨HG _ _ hSI hb88, ?_⟩
              clear hbI hSI hb88
              try simp only [List.setIfInBounds_toArray, List.set_cons_zero, List.set_cons_succ]
              refine wpG_take (i := 89) (v := .bool false) rfl rfl (by kernel_rfl) (by kernel_rfl) (by kernel_rfl) (by kernel_rfl) (fun _ _ _ h => h) (by rfl) (fun w' hS' => grow_value ?_ hS') ?_
              · go_simp
              try simp only [List.setIfInBounds_toArray, List.set_cons_zero, List.set_cons_succ]
              refine wpG_take (i := 90) (v := .bool false) rfl rfl (by kernel_rfl) (by kernel_rfl) (by kernel_rfl) (by kernel_rfl) (fun _ _ _ h => h) (by rfl) (fun w' hS' => grow_value ?_ hS') ?_
              · go_simp
              try simp only [List.setIfInBounds_toArray, List.set_cons_zero, List.set_cons_succ]
              refine wpG_pair (i := 91) (j := 92) rfl rfl rfl rfl (by rfl) (by rfl) (by rfl) (by kernel_rfl) (by kernel_rfl) (by kernel_rfl) (by kernel_rfl) (by kernel_rfl) ⟨by rfl, fun w' hT => grow_callE (f := 75) (args := #[.slice none 0 0]) ?_ (ye_two HG [] _ hT.2 Sl.nil)⟩ ⟨by rfl, fun w' hT => grow_valueE (v := .slice (some ⟨w'.heap.size, 0, none⟩) 1 1) (w' := w'.alloc (.cells #[.int .i64 41] 3)) ?_ (below_alloc1 (Nat.le_refl _) _) (HG _ _ hT.2 (below_alloc1 (Nat.le_refl _) _)) (ints_lit w' [41] #[.int .i64 41] 3 rfl)⟩ (st_ce (twoC [])) (st_ints [41]) (fun u91 v92 wP91 hbP hSP hcP hiP => ?_)
              · go_simp
              · go_simp
              try simp only [List.setIfInBounds_toArray, List.set_cons_zero, List.set_cons_succ]
              refine wpG_only (i := 93) rfl (by rfl) (by kernel_rfl) (by rfl) (fun wI hbI hSI => ?_)
              go_simp
              refine (nTruth [] (by decide) [41] (by decide) false (by decide +kernel) _ _ _ wI (Nat.le_refl _) (st_ce _ _ _ _ hcP hbI) (st_ints _ _ _ _ hiP hbI)).mono ?_
              rintro e w93 ⟨rfl, hb93⟩
              clear hbP hSP hcP hiP
              refine ⟨HG _ _ hSI hb93, ?_⟩
              clear hbI hSI hb93
              try simp only [List.setIfInBounds_toArray, List.set_cons_zero, List.set_cons_succ]
              refine wpG_take (i := 94) (v := .bool false) rfl rfl (by kernel_rfl) (by kernel_rfl) (by kernel_rfl) (by kernel_rfl) (fun _ _ _ h => h) (by rfl) (fun w' hS' => grow_value ?_ hS') ?_
              · go_simp
              try simp only [List.setIfInBounds_toArray, List.set_cons_zero, List.set_cons_succ]
              refine wpG_take (i := 95) (v := .bool false) rfl rfl (by kernel_rfl) (by kernel_rfl) (by kernel_rfl) (by kernel_rfl) (fun _ _ _ h => h) (by rfl) (fun w' hS' => grow_value ?_ hS') ?_
              · go_simp
              try simp only [List.setIfInBounds_toArray, List.set_cons_zero, List.set_cons_succ]
              refine wpG_pair (i := 96) (j := 97) rfl rfl rfl rfl (by rfl) (by rfl) (by rfl) (by kernel_rfl) (by kernel_rfl) (by kernel_rfl) (by kernel_rfl) (by kernel_rfl) ⟨by rfl, fun w' hT => grow_callE (f := 75) (args := #[.slice none 0 0]) ?_ (ye_two HG [] _ hT.2 Sl.nil)⟩ ⟨by rfl, fun w' hT => grow_valueE (v := .slice (some ⟨w'.heap.size, 0, none⟩) 2 2) (w' := w'.alloc (.cells #[.int .i64 0, .int .i64 1] 3)) ?_ (below_alloc1 (Nat.le_refl _) _) (HG _ _ hT.2 (below_alloc1 (Nat.le_refl _) _)) (ints_lit w' [0, 1] #[.int .i64 0, .int .i64 1] 3 rfl)⟩ (st_ce (twoC [])) (st_ints [0, 1]) (fun u96 v97 wP96 hbP hSP hcP hiP => ?_)
              · go_simp
              · go_simp
              try simp only [List.setIfInBounds_toArray, List.set_cons_zero, List.set_cons_succ]
              refine wpG_only (i := 98) rfl (by rfl) (by kernel_rfl) (by rfl) (fun wI hbI hSI => ?_)
              go_simp
              refine (nPD1 _ _ _ wI (Nat.le_refl _) (st_ce _ _ _ _ hcP hbI) (st_ints _ _ _ _ hiP hbI)).mono ?_
              rintro e w98 ⟨rfl, hb98⟩
              clear hbP hSP hcP hiP
              refine ⟨HG _ _ hSI hb98, ?_⟩
              clear hbI hSI hb98
              try simp only [List.setIfInBounds_toArray, List.set_cons_zero, List.set_cons_succ]
              as_aux_lemma =>
                refine wpG_take (i := 99) (v := .bool false) rfl rfl (by kernel_rfl) (by kernel_rfl) (by kernel_rfl) (by kernel_rfl) (fun _ _ _ h => h) (by rfl) (fun w' hS' => grow_value ?_ hS') ?_
                · go_simp
                try simp only [List.setIfInBounds_toArray, List.set_cons_zero, List.set_cons_succ]
                refine wpG_take (i := 100) (v := .bool false) rfl rfl (by kernel_rfl) (by kernel_rfl) (by kernel_rfl) (by kernel_rfl) (fun _ _ _ h => h) (by rfl) (fun w' hS' => grow_value ?_ hS') ?_
                · go_simp
                try simp only [List.setIfInBounds_toArray, List.set_cons_zero, List.set_cons_succ]
                refine wpG_take (i := 101) (v := .bool false) rfl rfl (by kernel_rfl) (by kernel_rfl) (by kernel_rfl) (by kernel_rfl) (fun _ _ _ h => h) (by rfl) (fun w' hS' => grow_value ?_ hS') ?_
                · go_simp
                try simp only [List.setIfInBounds_toArray, List.set_cons_zero, List.set_cons_succ]
                refine wpG_pair (i := 102) (j := 103) rfl rfl rfl rfl (by rfl) (by rfl) (by rfl) (by kernel_rfl) (by kernel_rfl) (by kernel_rfl) (by kernel_rfl) (by kernel_rfl) ⟨by rfl, fun w' hT => grow_callE (f := 75) (args := #[.slice none 0 0]) ?_ (ye_two HG [] _ hT.2 Sl.nil)⟩ ⟨by rfl, fun w' hT => grow_valueE (v := .slice (some ⟨w'.heap.size, 0, none⟩) 1 1) (w' := w'.alloc (.cells #[.int .i64 0] 3)) ?_ (below_alloc1 (Nat.le_refl _) _) (HG _ _ hT.2 (below_alloc1 (Nat.le_refl _) _)) (ints_lit w' [0] #[.int .i64 0] 3 rfl)⟩ (st_ce (twoC [])) (st_ints [0]) (fun u102 v103 wP102 hbP hSP hcP hiP => ?_)
                · go_simp
                · go_simp
                try simp only [List.setIfInBounds_toArray, List.set_cons_zero, List.set_cons_succ]
                refine wpG_only (i := 104) rfl (by rfl) (by kernel_rfl) (by rfl) (fun wI hbI hSI => ?_)
                go_simp
                refine (nPD2 _ _ _ wI (Nat.le_refl _) (st_ce _ _ _ _ hcP hbI) (st_ints _ _ _ _ hiP hbI)).mono ?_
                rintro e w104 ⟨rfl, hb104⟩
                clear hbP hSP hcP hiP
                refine ⟨HG _ _ hSI hb104, ?_⟩
                clear hbI hSI hb104
                try simp only [List.setIfInBounds_toArray, List.set_cons_zero, List.set_cons_succ]
                refine wpG_take (i := 105) (v := .bool false) rfl rfl (by kernel_rfl) (by kernel_rfl) (by kernel_rfl) (by kernel_rfl) (fun _ _ _ h => h) (by rfl) (fun w' hS' => grow_value ?_ hS') ?_
                · go_simp
                try simp only [List.setIfInBounds_toArray, List.set_cons_zero, List.set_cons_succ]
                refine wpG_take (i := 106) (v := .bool false) rfl rfl (by kernel_rfl) (by kernel_rfl) (by kernel_rfl) (by kernel_rfl) (fun _ _ _ h => h) (by rfl) (fun w' hS' => grow_value ?_ hS') ?_
                · go_simp
                try simp only [List.setIfInBounds_toArray, List.set_cons_zero, List.set_cons_succ]
                refine wpG_pair (i := 107) (j := 108) rfl rfl rfl rfl (by rfl) (by rfl) (by rfl) (by kernel_rfl) (by kernel_rfl) (by kernel_rfl) (by kernel_rfl) (by kernel_rfl) ⟨by rfl, fun w' hT => grow_callE (f := 75) (args := #[.slice none 0 0]) ?_ (ye_two HG [] _ hT.2 Sl.nil)⟩ ⟨by rfl, fun w' hT => grow_valueE (v := .slice (some ⟨w'.heap.size, 0, none⟩) 2 2) (w' := w'.alloc (.cells #[.int .i64 2, .int .i64 4] 3)) ?_ (below_alloc1 (Nat.le_refl _) _) (HG _ _ hT.2 (below_alloc1 (Nat.le_refl _) _)) (ints_lit w' [2, 4] #[.int .i64 2, .int .i64 4] 3 rfl)⟩ (st_ce (twoC [])) (st_ints [2, 4]) (fun u107 v108 wP107 hbP hSP hcP hiP => ?_)
                · go_simp
                · go_simp
                try simp only [List.setIfInBounds_toArray, List.set_cons_zero, List.set_cons_succ]
                refine wpG_only (i := 109) rfl (by rfl) (by kernel_rfl) (by rfl) (fun wI hbI hSI => ?_)
                go_simp
                refine (nPD3 _ _ _ wI (Nat.le_refl _) (st_ce _ _ _ _ hcP hbI) (st_ints _ _ _ _ hiP hbI)).mono ?_
                rintro e w109 ⟨rfl, hb109⟩
                clear hbP hSP hcP hiP
                refine ⟨HG _ _ hSI hb109, ?_⟩
                clear hbI hSI hb109
                try simp only [List.setIfInBounds_toArray, List.set_cons_zero, List.set_cons_succ]
                refine wpG_take (i := 110) (v := .bool false) rfl rfl (by kernel_rfl) (by kernel_rfl) (by kernel_rfl) (by kernel_rfl) (fun _ _ _ h => h) (by rfl) (fun w' hS' => grow_value ?_ hS') ?_
                · go_simp
                try simp only [List.setIfInBounds_toArray, List.set_cons_zero, List.set_cons_succ]
                refine wpG_take (i := 111) (v := .bool false) rfl rfl (by kernel_rfl) (by kernel_rfl) (by kernel_rfl) (by kernel_rfl) (fun _ _ _ h => h) (by rfl) (fun w' hS' => grow_value ?_ hS') ?_
                · go_simp
                try simp only [List.setIfInBounds_toArray, List.set_cons_zero, List.set_cons_succ]
                refine wpG_pair (i := 112) (j := 113) rfl rfl rfl rfl (by rfl) (by rfl) (by rfl) (by kernel_rfl) (by kernel_rfl) (by kernel_rfl) (by kernel_rfl) (by kernel_rfl) ⟨by rfl, fun w' hT => grow_callE (f := 75) (args := #[.slice none 0 0]) ?_ (ye_two HG [] _ hT.2 Sl.nil)⟩ ⟨by rfl, fun w' hT => grow_valueE (v := .slice (some ⟨w'.heap.size, 0, none⟩) 1 1) (w' := w'.alloc (.cells #[.int .i64 2] 3)) ?_ (below_alloc1 (Nat.le_refl _) _) (HG _ _ hT.2 (below_alloc1 (Nat.le_refl _) _)) (ints_lit w' [2] #[.int .i64 2] 3 rfl)⟩ (st_ce (twoC [])) (st_ints [2]) (fun u112 v113 wP112 hbP hSP hcP hiP => ?_)
                · go_simp
                · go_simp
                try simp only [List.setIfInBounds_toArray, List.set_cons_zero, List.set_cons_succ]
                refine wpG_only (i := 114) rfl (by rfl) (by kernel_rfl) (by rfl) (fun wI hbI hSI => ?_)
                go_simp
                refine (nPDF _ _ _ wI (Nat.le_refl _) (st_ce _ _ _ _ hcP hbI) (st_ints _ _ _ _ hiP hbI)).mono ?_
                rintro e w114 ⟨rfl, hb114⟩
                clear hbP hSP hcP hiP
                refine ⟨HG _ _ hSI hb114, ?_⟩
                clear hbI hSI hb114
                try simp only [List.setIfInBounds_toArray, List.set_cons_zero, List.set_cons_succ]
                as_aux_lemma =>
                  refine wpG_take (i := 115) (v := .bool false) rfl rfl (by kernel_rfl) (by kernel_rfl) (by kernel_rfl) (by kernel_rfl) (fun _ _ _ h => h) (by rfl) (fun w' hS' => grow_value ?_ hS') ?_
                  · go_simp
                  try simp only [List.setIfInBounds_toArray, List.set_cons_zero, List.set_cons_succ]
                  refine wpG_take (i := 116) (v := .bool false) rfl rfl (by kernel_rfl) (by kernel_rfl) (by kernel_rfl) (by kernel_rfl) (fun _ _ _ h => h) (by rfl) (fun w' hS' => grow_value ?_ hS') ?_
                  · go_simp
                  try simp only [List.setIfInBounds_toArray, List.set_cons_zero, List.set_cons_succ]
                  refine wpG_tri (i := 117) (j := 118) (k := 119) rfl rfl rfl rfl rfl rfl (by rfl) (by kernel_rfl) (by kernel_rfl) (by kernel_rfl) (by kernel_rfl) (by kernel_rfl) (by kernel_rfl) (by kernel_rfl) (by kernel_rfl) (by kernel_rfl) ⟨by rfl, fun w' hT => grow_callE (f := 75) (args := #[.slice none 0 0]) ?_ (ye_two HG [] _ hT.2 Sl.nil)⟩ ⟨by rfl, fun w' hT => grow_valueE (v := .slice (some ⟨w'.heap.size, 0, none⟩) 2 2) (w' := w'.alloc (.cells #[.int .i64 10, .int .i64 10] 3)) ?_ (below_alloc1 (Nat.le_refl _) _) (HG _ _ hT.2 (below_alloc1 (Nat.le_refl _) _)) (ints_lit w' [10, 10] #[.int .i64 10, .int .i64 10] 3 rfl)⟩ ⟨by rfl, fun w' hT => grow_valueE (v := .slice (some ⟨w'.heap.size, 0, none⟩) 2 2) (w' := w'.alloc (.cells #[.int .i64 2, .int .i64 10] 3)) ?_ (below_alloc1 (Nat.le_refl _) _) (HG _ _ hT.2 (below_alloc1 (Nat.le_refl _) _)) (ints_lit w' [2, 10] #[.int .i64 2, .int .i64 10] 3 rfl)⟩ (st_ce (twoC [])) (st_ints [10, 10]) (st_ints [2, 10]) (fun u117 v118 x119 wP117 hbP hSP hcP hiP hjP => ?_)
                  · go_simp
                  · go_simp
                  · go_simp
                  try simp only [List.setIfInBounds_toArray, List.set_cons_zero, List.set_cons_succ]
                  refine wpG_only (i := 120) rfl (by rfl) (by kernel_rfl) (by rfl) (fun wI hbI hSI => ?_)
                  go_simp
                  refine (nPB1 _ _ _ _ wI (Nat.le_refl _) (st_ce _ _ _ _ hcP hbI) (st_ints _ _ _ _ hiP hbI) (st_ints _ _ _ _ hjP hbI)).mono ?_
                  rintro e w120 ⟨rfl, hb120⟩
                  clear hbP hSP hcP hiP hjP
                  refine ⟨HG _ _ hSI hb120, ?_⟩
                  clear hbI hSI hb120
                  try simp only [List.setIfInBounds_toArray, List.set_cons_zero, List.set_cons_succ]
                  refine wpG_take (i := 121) (v := .bool false) rfl rfl (by kernel_rfl) (by kernel_rfl) (by kernel_rfl) (by kernel_rfl) (fun _ _ _ h => h) (by rfl) (fun w' hS' => grow_value ?_ hS') ?_
                  · go_simp
                  try simp only [List.setIfInBounds_toArray, List.set_cons_zero, List.set_cons_succ]
                  refine wpG_take (i := 122) (v := .bool false) rfl rfl (by kernel_rfl) (by kernel_rfl) (by kernel_rfl) (by kernel_rfl) (fun _ _ _ h => h) (by rfl) (fun w' hS' => grow_value ?_ hS') ?_
                  · go_simp
                  try simp only [List.setIfInBounds_toArray, List.set_cons_zero, List.set_cons_succ]
                  refine wpG_take (i := 123) (v := .bool false) rfl rfl (by kernel_rfl) (by kernel_rfl) (by kernel_rfl) (by kernel_rfl) (fun _ _ _ h => h) (by rfl) (fun w' hS' => grow_value ?_ hS') ?_
                  · go_simp
                  try simp only [List.setIfInBounds_toArray, List.set_cons_zero, List.set_cons_succ]
                  refine wpG_tri (i := 124) (j := 125) (k := 126) rfl rfl rfl rfl rfl rfl (by rfl) (by kernel_rfl) (by kernel_rfl) (by kernel_rfl) (by kernel_rfl) (by kernel_rfl) (by kernel_rfl) (by kernel_rfl) (by kernel_rfl) (by kernel_rfl) ⟨by rfl, fun w' hT => grow_callE (f := 75) (args := #[.slice none 0 0]) ?_ (ye_two HG [] _ hT.2 Sl.nil)⟩ ⟨by rfl, fun w' hT => grow_valueE (v := .slice (some ⟨w'.heap.size, 0, none⟩) 2 2) (w' := w'.alloc (.cells #[.int .i64 10, .int .i64 10] 3)) ?_ (below_alloc1 (Nat.le_refl _) _) (HG _ _ hT.2 (below_alloc1 (Nat.le_refl _) _)) (ints_lit w' [10, 10] #[.int .i64 10, .int .i64 10] 3 rfl)⟩ ⟨by rfl, fun w' hT => grow_valueE (v := .slice (some ⟨w'.heap.size, 0, none⟩) 2 2) (w' := w'.alloc (.cells #[.int .i64 3, .int .i64 8] 3)) ?_ (below_alloc1 (Nat.le_refl _) _) (HG _ _ hT.2 (below_alloc1 (Nat.le_refl _) _)) (ints_lit w' [3, 8] #[.int .i64 3, .int .i64 8] 3 rfl)⟩ (st_ce (twoC [])) (st_ints [10, 10]) (st_ints [3, 8]) (fun u124 v125 x126 wP124 hbP hSP hcP hiP hjP => ?_)
                  · go_simp
                  · go_simp
                  · go_simp
                  try simp only [List.setIfInBounds_toArray, List.set_cons_zero, List.set_cons_succ]
                  refine wpG_only (i := 127) rfl (by rfl) (by kernel_rfl) (by rfl) (fun wI hbI hSI => ?_)
                  go_simp
                  refine (nPB2 _ _ _ _ wI (Nat.le_refl _) (st_ce _ _ _ _ hcP hbI) (st_ints _ _ _ _ hiP hbI) (st_ints _ _ _ _ hjP hbI)).mono ?_
                  rintro e w127 ⟨rfl, hb127⟩
                  clear hbP hSP hcP hiP hjP
                  refine ⟨HG _ _ hSI hb127, ?_⟩
                  clear hbI hSI hb127
                  try simp only [List.setIfInBounds_toArray, List.set_cons_zero, List.set_cons_succ]
                  as_aux_lemma =>
                    refine wpG_take (i := 128) (v := .bool false) rfl rfl (by kernel_rfl) (by kernel_rfl) (by kernel_rfl) (by kernel_rfl) (fun _ _ _ h => h) (by rfl) (fun w' hS' => grow_value ?_ hS') ?_
                    · go_simp
                    try simp only [List.setIfInBounds_toArray, List.set_cons_zero, List.set_cons_succ]
                    refine wpG_take (i := 129) (v := .bool false) rfl rfl (by kernel_rfl) (by kernel_rfl) (by kernel_rfl) (by kernel_rfl) (fun _ _ _ h => h) (by rfl) (fun w' hS' => grow_value ?_ hS') ?_
                    · go_simp
                    try simp only [List.setIfInBounds_toArray, List.set_cons_zero, List.set_cons_succ]
                    refine wpG_tri (i := 130) (j := 131) (k := 132) rfl rfl rfl rfl rfl rfl (by rfl) (by kernel_rfl) (by kernel_rfl) (by kernel_rfl) (by kernel_rfl) (by kernel_rfl) (by kernel_rfl) (by kernel_rfl) (by kernel_rfl) (by kernel_rfl) ⟨by rfl, fun w' hT => grow_callE (f := 75) (args := #[.slice none 0 0]) ?_ (ye_two HG [] _ hT.2 Sl.nil)⟩ ⟨by rfl, fun w' hT => grow_valueE (v := .slice (some ⟨w'.heap.size, 0, none⟩) 2 2) (w' := w'.alloc (.cells #[.int .i64 10, .int .i64 10] 3)) ?_ (below_alloc1 (Nat.le_refl _) _) (HG _ _ hT.2 (below_alloc1 (Nat.le_refl _) _)) (ints_lit w' [10, 10] #[.int .i64 10, .int .i64 10] 3 rfl)⟩ ⟨by rfl, fun w' hT => grow_valueE (v := .slice (some ⟨w'.heap.size, 0, none⟩) 2 2) (w' := w'.alloc (.cells #[.int .i64 1, .int .i64 11] 3)) ?_ (below_alloc1 (Nat.le_refl _) _) (HG _ _ hT.2 (below_alloc1 (Nat.le_refl _) _)) (ints_lit w' [1, 11] #[.int .i64 1, .int .i64 11] 3 rfl)⟩ (st_ce (twoC [])) (st_ints [10, 10]) (st_ints [1, 11]) (fun u130 v131 x132 wP130 hbP hSP hcP hiP hjP => ?_)
                    · go_simp
                    · go_simp
                    · go_simp
                    try simp only [List.setIfInBounds_toArray, List.set_cons_zero, List.set_cons_succ]
                    refine wpG_only (i := 133) rfl (by rfl) (by kernel_rfl) (by rfl) (fun wI hbI hSI => ?_)
                    go_simp
                    refine (nPB3 _ _ _ _ wI (Nat.le_refl _) (st_ce _ _ _ _ hcP hbI) (st_ints _ _ _ _ hiP hbI) (st_ints _ _ _ _ hjP hbI)).mono ?_
                    rintro e w133 ⟨rfl, hb133⟩
                    clear hbP hSP hcP hiP hjP
                    refine ⟨HG _ _ hSI hb133, ?_⟩
                    clear hbI hSI hb133
                    try simp only [List.setIfInBounds_toArray, List.set_cons_zero, List.set_cons_succ]
                    refine wpG_take (i := 134) (v := .bool false) rfl rfl (by kernel_rfl) (by kernel_rfl) (by kernel_rfl) (by kernel_rfl) (fun _ _ _ h => h) (by rfl) (fun w' hS' => grow_value ?_ hS') ?_
                    · go_simp
                    try simp only [List.setIfInBounds_toArray, List.set_cons_zero, List.set_cons_succ]
                    refine wpG_take (i := 135) (v := .bool false) rfl rfl (by kernel_rfl) (by kernel_rfl) (by kernel_rfl) (by kernel_rfl) (fun _ _ _ h => h) (by rfl) (fun w' hS' => grow_value ?_ hS') ?_
                    · go_simp
                    try simp only [List.setIfInBounds_toArray, List.set_cons_zero, List.set_cons_succ]
                    refine wpG_tri (i := 136) (j := 137) (k := 138) rfl rfl rfl rfl rfl rfl (by rfl) (by kernel_rfl) (by kernel_rfl) (by kernel_rfl) (by kernel_rfl) (by kernel_rfl) (by kernel_rfl) (by kernel_rfl) (by kernel_rfl) (by kernel_rfl) ⟨by rfl, fun w' hT => grow_callE (f := 75) (args := #[.slice none 0 0]) ?_ (ye_two HG [] _ hT.2 Sl.nil)⟩ ⟨by rfl, fun w' hT => grow_valueE (v := .slice (some ⟨w'.heap.size, 0, none⟩) 2 2) (w' := w'.alloc (.cells #[.int .i64 10, .int .i64 10] 3)) ?_ (below_alloc1 (Nat.le_refl _) _) (HG _ _ hT.2 (below_alloc1 (Nat.le_refl _) _)) (ints_lit w' [10, 10] #[.int .i64 10, .int .i64 10] 3 rfl)⟩ ⟨by rfl, fun w' hT => grow_valueE (v := .slice (some ⟨w'.heap.size, 0, none⟩) 2 2) (w' := w'.alloc (.cells #[.int .i64 0, .int .i64 0] 3)) ?_ (below_alloc1 (Nat.le_refl _) _) (HG _ _ hT.2 (below_alloc1 (Nat.le_refl _) _)) (ints_lit w' [0, 0] #[.int .i64 0, .int .i64 0] 3 rfl)⟩ (st_ce (twoC [])) (st_ints [10, 10]) (st_ints [0, 0]) (fun u136 v137 x138 wP136 hbP hSP hcP hiP hjP => ?_)
                    · go_simp
                    · go_simp
                    · go_simp
                    try simp only [List.setIfInBounds_toArray, List.set_cons_zero, List.set_cons_succ]
                    refine wpG_only (i := 139) rfl (by rfl) (by kernel_rfl) (by rfl) (fun wI hbI hSI => ?_)
                    go_simp
                    refine (nPBF _ _ _ _ wI (Nat.le_refl _) (st_ce _ _ _ _ hcP hbI) (st_ints _ _ _ _ hiP hbI) (st_ints _ _ _ _ hjP hbI)).mono ?_
                    rintro e w139 ⟨rfl, hb139⟩
                    clear hbP hSP hcP hiP hjP
                    refine ⟨HG _ _ hSI hb139, ?_⟩
                    clear hbI hSI hb139
                    try simp only [List.setIfInBounds_toArray, List.set_cons_zero, List.set_cons_succ]
                    refine wpG_take (i := 140) (v := .bool false) rfl rfl (by kernel_rfl) (by kernel_rfl) (by kernel_rfl) (by kernel_rfl) (fun _ _ _ h => h) (by rfl) (fun w' hS' => grow_value ?_ hS') ?_
                    · go_simp
                    try simp only [List.setIfInBounds_toArray, List.set_cons_zero, List.set_cons_succ]
                    refine wpG_done (by kernel_rfl) (fun wZ hqZ hbZ => ?_) _
                    (first | go_meet | (go_wp2_with fail; go_meet))
                    case rel => exact ⟨rfl, hbZ⟩

  case rest =>
    obtain ⟨rfl, hcb⟩ := hcut
    have HB11 := hid (below_after HB10.out hcb (Nat.le_refl _))
    rename_i K1 h1 K0 h0
    exact h0 _ _ (wp_cond_false rfl (wp_skip (h1 _ _ (CaskNames_rest w0 wc _ _ _ _ _ _ _ _ _ _ _ _ _ _ _ _ _ _ _ _ _ _ _ _ _ _ _ _ _ _ _ _ _ _ _ _ _ _ _ _ _ _ _ _ _ _ _ _ _ _ _ _ _ _ _ _ _ _ _ _ _ _ _ _ _ _ _ _ _ _ _ _ _ _ _ _ _ _ _ _ _ _ _ _ _ _ _ _ _ _ _ _ _ _ _ _ _ _ _ _ _ _ _ _ _ _ _ _ _ _ _ _ _ _ _ _ _ _ _ _ _ _ _ _ _ _ _ _ _ _ _ _ _ _ _ _ _ _ _ _ _ _ _ _ _ _ _ _ _ _ _ _ _ _ _ _ _ _ _ _ _ _ _ _ _ _ _ _ _ _ _ _ _ _ _ _ _ _ _ _ _ _ _ _ _ _ _ _ _ _ _ _ _ _ _ _ _ _ _ _ _ _ _ _ _ _ _ _ _ _ _ _ _ _ _ _ _ _ _ _ _ _ _ _ _ _ _ _ _ _ _ _ _ _ _ _ _ _ _ _ _ _ _ _ _ _ _ _ _ _ _ _ _ _ _ _ _ _ _ _ _ _ _ _ _ _ _ _ _ _ _ _ _ _ _ _ _ _ _ _ _ _ _ _ _ _ _ _ _ _ _ _ _ _ _ _ _ _ _ _ _ _ _ _ _ _ _ _ _ _ _ _ _ _ _ _ _ _ _ _ _ _ _ _ _ _ _ _ _ _ _ _ _ _ _ _ _ _ HB11))))
end Go.Proofs.Ytjddcaimjofihaa
