/- Contracts of the reference's Mean, Of, Right, IsListed, IsTruth, Before, Shorter, Full, Bits; no condition. -/
import Derived.Test.YtjddcaimjofihaaR0
import Derived.Test.YtjddcaimjofihaaL0
namespace Go.Proofs.Ytjddcaimjofihaa
open Go.RowKit Go.Shelf
set_option maxRecDepth 100000

set_option maxHeartbeats 1000000 in
theorem meanR_any (l ws : List Int) (vl vw : Value) (n : Nat) (w : World) (hn : n ≤ w.heap.size) (h : Ints (Lt n) w vl l) (g : Ints (Lt n) w vw ws) (hl : ws.length = l.length) (h3 : l.length ≤ 3) (hw : ∀ x ∈ ws, 0 ≤ x ∧ x ≤ 1000) (hs : ∀ x ∈ l, 0 ≤ x ∧ x ≤ 1000) (hpos : 0 < sumI ws) :
    Calls Try.prog 61 #[vl, vw] w fun e w' => e = .returned (.int .i64 (mean l ws)) ∧ Below w.heap.size w w' := by
  have hbd : ∀ k, 0 ≤ dot (ws.take k) l ∧ dot (ws.take k) l ≤ 3000000 := fun k => by
    have h1 := dot_bd (ws.take k) l (fun x hx => hw x (List.mem_of_mem_take hx)) hs
    have h2 : (ws.take k).length ≤ 3 := by rw [List.length_take]; omega
    have h3 : (1000000 : Int) * (ws.take k).length ≤ 3000000 := by omega
    omega
  have hsum := sumW_eq hw (by omega)
  have HM := hid (show mean l ws = dot ws l / sumI ws from rfl)
  have HBD := hid hbd
  have g' := g
  obtain ⟨pa, ca, rfl, -, oa⟩ := h.open1
  obtain ⟨pb, cb, rfl, -, ob⟩ := g.open1
  have HOA := hid oa
  have HOB := hid ob
  have HL := hid hl
  obtain ⟨sw, hsw⟩ : ∃ sw, sw = sumW ws := ⟨_, rfl⟩
  rw [← hsw] at hsum
  rw [← hsum] at HM hpos
  have HSW := hid hsw
  have HW := hid hw
  have HS := hid hs
  have HG := hid (fun w1 (hb : Below w.heap.size w w1) => sumR_hid ws HSW _ n w1 (g'.below (hb.mono hn)) (by omega) : ∀ w1, Below w.heap.size w w1 → Calls Try.prog 116 _ w1 _)
  clear oa ob hl hbd hsum hsw hw hs h g g'
  go_enter Try.func61, Try.ntmps61
  go_wp2
  go_loopw [5, 6] (fun s i wr => ∃ k : Nat, k ≤ l.length ∧ i = .int .i64 k ∧ s = .int .i64 (dot (ws.take k) l) ∧ Below w.heap.size w wr) (fun _ i _ => l.length - (intOf i).toNat)
  case atStart => exact ⟨0, by omega, rfl, by simp [dot], Below.refl _ _⟩
  case round =>
    obtain ⟨k, hk, rfl, rfl, hbw⟩ := hrel
    have hd := HBD.out k
    by_cases hlt : k < l.length
    · have hlt2 : k < ws.length := by have := HL.out; omega
      rcases HOA.out with hnil | ⟨ba, offa, rfl, hba, hca⟩
      · rw [hnil] at hlt; simp at hlt
      rcases HOB.out with hnil | ⟨bb, offb, rfl, hbb, hcb⟩
      · rw [hnil] at hlt2; simp at hlt2
      have y0 := hca k hlt
      have y1 := hcb k hlt2
      have hba' : ba < n := hba
      have hbb' : bb < n := hbb
      have z0 := (hbw.cell (p := ⟨ba, offa + k, none⟩) (by show ba < _; omega)).trans y0
      have z1 := (hbw.cell (p := ⟨bb, offb + k, none⟩) (by show bb < _; omega)).trans y1
      have HD := hid (show dot (ws.take (k + 1)) l = dot (ws.take k) l + ws[k] * l[k] by
        rw [dot_take ws l k hlt2 hlt, List.getD_eq_getElem?_getD, List.getElem?_eq_getElem hlt]; rfl)
      have hx := HW.out ws[k] (List.getElem_mem _)
      have hy := HS.out l[k] (List.getElem_mem _)
      clear hca hcb y0 y1
      generalize dot (ws.take k) l = d at *
      generalize ws[k] = x at *
      generalize l[k] = y at *
      have hmul : 0 ≤ x * y ∧ x * y ≤ 1000000 := by
        have h1 := Int.mul_nonneg hx.1 hy.1
        have h2 : x * y ≤ 1000 * 1000 := Int.mul_le_mul hx.2 hy.2 hy.1 (by omega)
        omega
      obtain ⟨p, hp⟩ : ∃ p, p = x * y := ⟨_, rfl⟩
      have hwr : IntKind.i64.wrap (x * y) = p := by rw [hp]; exact IntWalk.i64_in _ (by omega)
      rw [← hp] at hmul HD
      have HP := hid hp
      have hwr2 : IntKind.i64.wrap (d + p) = d + p := IntWalk.i64_in _ (by omega)
      clear hp hx hy
      go_wp2
      go_quiet (fail)
      go_wp2
      go_roundw
      case rel => exact ⟨k + 1, by omega, by go_num, by rw [HD.out], below_drewN hbw _⟩
      case measure => simp [intOf]; omega
    · have HT := hid (show ws.take k = ws from List.take_of_length_le (by have := HL.out; omega))
      have hwr : wrap64 (dot (ws.take k) l / sw) = dot (ws.take k) l / sw := by
        have h1 := Int.ediv_nonneg hd.1 (show 0 ≤ sw by omega)
        have h2 := Int.ediv_le_self sw hd.1
        unfold wrap64; omega
      go_wp2_with (go_at_call 116; refine (HG.out _ hbw).mono ?_; rintro e w1 ⟨rfl, rfl⟩)
      go_ret
      exact ⟨ret_int (by rw [HM.out, HT.out]), hbw⟩

/-- A list of strengths, one for each heap. -/
structure Fit (c : Ce) (l : List Int) : Prop where
  len : l.length = c.heaps.length
  bd : ∀ x ∈ l, 0 ≤ x ∧ x ≤ 1000
theorem fit_listed {c : Ce} (hg : Good c) {l : List Int} (h : listed c.heaps l = true) : Fit c l :=
  ⟨listed_length _ _ h, fun x hx => by have := listed_bd c.heaps l h hg.facts.2.1 x hx; omega⟩

set_option maxHeartbeats 1000000 in
theorem ofR_any (c : Ce) (hg : Good c) (l : List Int) (hf : Fit c l) (v vl : Value) (t : Int) (h0 : 0 ≤ t) (h1 : t < c.heaps.length + c.casks.length) (n : Nat) (w : World) (hn : n ≤ w.heap.size) (h : CeV (Lt n) w v c) (hl : Ints (Lt n) w vl l) :
    Calls Try.prog 38 #[v, vl, .int .i64 t] w fun e w' => e = .returned (.int .i64 (ofT c l t)) ∧ Below w.heap.size w w' := by
  obtain ⟨ha, hc, ka, kc, ta, tc, rfl, -, H2, -⟩ := h.open
  obtain ⟨_, _, he, -, ho⟩ := H2.open
  cases he
  have hl' := hl
  obtain ⟨pa, ca, rfl, -, oa⟩ := hl.open1
  obtain ⟨⟨g1, g2, g3, -⟩, -, g6, -⟩ := hg.facts
  have HO := hid ho
  have HOA := hid oa
  have HOF := hid (show ofT c l t = if (c.heaps.length : Int) ≤ t then mean l (c.casks.getD (t - c.heaps.length).toNat []) else l.getD t.toNat 0 from rfl)
  have G6 := hid g6
  have HF := hid hf
  have hlen := hf.len
  have HLEN := hid hlen
  obtain ⟨W, hW⟩ : ∃ W, W = w.alloc (Obj.cells #[.slice ha c.heaps.length hc, .slice ka c.casks.length kc, .slice ta c.trials.length tc] 26) := ⟨_, rfl⟩
  have hWs : W.heap.size = w.heap.size + 1 := by rw [hW]; simp
  have hWb : Below w.heap.size w W := by rw [hW]; exact below_alloc1 (Nat.le_refl _) _
  clear h H2 ho oa g6 hl hf hlen
  by_cases hlt : t < c.heaps.length
  · obtain ⟨k, rfl⟩ := Int.eq_ofNat_of_zero_le h0
    have hk : k < l.length := by have := HLEN.out; omega
    rcases HOA.out with hnil | ⟨ba, offa, rfl, hba, hca⟩
    · rw [hnil] at hk; simp at hk
    have y0 := hca k hk
    clear hca
    have hba' : ba < n := hba
    have HV := hid (show ofT c l (k : Int) = l[k] by rw [HOF.out, if_neg (by omega), Int.toNat_natCast, List.getD_eq_getElem?_getD, List.getElem?_eq_getElem hk]; rfl)
    generalize l[k] = x at *
    have lba : ba < w.heap.size := by omega
    clear HOF h1 hlt
    go_enter Try.func38, Try.ntmps38
    go_wp2
    rw [← hW]
    go_ret
    exact ⟨ret_int HV.out.symm, hWb⟩
  · have hkl : ¬ t < (l.length : Int) := by have := HLEN.out; omega
    have hsub : 0 ≤ t - (l.length : Int) := by omega
    obtain ⟨k, hk⟩ := Int.eq_ofNat_of_zero_le hsub
    have hkc : k < c.casks.length := by have := HLEN.out; omega
    rcases HO.out with hnil | ⟨b, off, rfl, hbn, hcc⟩
    · rw [hnil] at hkc; simp at hkc
    obtain ⟨xv, y0, hx⟩ := hcc k hkc
    clear hcc
    have hbn' : b < n := hbn
    obtain ⟨q1, q2, q3⟩ := G6.out c.casks[k] (List.getElem_mem _)
    have HV := hid (show ofT c l t = mean l c.casks[k] by
      rw [HOF.out, if_pos (by omega), List.getD_eq_getElem?_getD, show (t - (c.heaps.length : Int)).toNat = k by have := HLEN.out; omega, List.getElem?_eq_getElem hkc]; rfl)
    have z0 := (hWb.cell (p := ⟨b, off + k, none⟩) (by show b < _; omega)).trans y0
    have hWr : W.heap[w.heap.size]? = some (.cells #[.slice ha c.heaps.length hc, .slice (some ⟨b, off, none⟩) c.casks.length kc, .slice ta c.trials.length tc] 26 (0, 0)) := by rw [hW]; exact heap_new _ _
    have r1 := cell_of_row hWr 1
    simp only [List.getElem?_toArray, List.getElem?_cons_zero, List.getElem?_cons_succ] at r1
    have hxW := hx.below (hWb.mono hn)
    generalize c.casks[k] = ws at *
    have Q1 := hid q1
    have Q2 := hid q2
    clear q1 q2 hx hWr HOF
    have hcell : w.cell? ⟨b, off + (t.toNat - l.length), none⟩ = some xv := by rw [show t.toNat - l.length = k by omega]; exact y0
    have lb : b < w.heap.size := by omega
    have hlt2 : t - (l.length : Int) < c.casks.length := by omega
    have hwr : IntKind.i64.wrap (t - (l.length : Int)) = t - (l.length : Int) := IntWalk.i64_in _ (by have := HLEN.out; omega)
    obtain ⟨xa, xc, rfl, -, -⟩ := id hxW.open1
    have HK := hid hk
    clear hk z0 y0 r1
    go_enter Try.func38, Try.ntmps38
    go_wp2_with (go_at_call 61; rw [← hW]; refine (meanR_any l ws _ _ n _ (by omega) (hl'.below (hWb.mono hn)) hxW (by have := Q1.out; have := HLEN.out; omega) (by have := HLEN.out; omega) (fun x hx => by have := Q2.out x hx; omega) HF.out.bd q3).mono ?_; rintro e w1 ⟨rfl, hb1⟩)
    go_ret
    exact ⟨ret_int HV.out.symm, below_after hWb hb1 (Nat.le_refl _)⟩

set_option maxHeartbeats 1000000 in
theorem rightR_any (c : Ce) (hg : Good c) (l : List Int) (hf : Fit c l) (v vl : Value) (t : Tl) (ht : t ∈ c.trials) (n : Nat) (w : World) (hn : n ≤ w.heap.size) (h : CeV (Lt n) w v c) (hl : Ints (Lt n) w vl l) :
    Calls Try.prog 90 #[v, vl, .agg #[.bool t.cask, .int .i64 t.num, .int .i64 t.s.lo, .int .i64 t.s.hi]] w fun e w' => e = .returned (.bool (rightT c l t)) ∧ Below w.heap.size w w' := by
  have h' := h
  obtain ⟨ha, hc, ka, kc, ta, tc, rfl, -, -, -⟩ := h.open
  obtain ⟨tb0, tb1⟩ := thing_bd hg ht
  have tn : 0 ≤ t.num ∧ t.num ≤ 1000 := by
    obtain ⟨⟨-, q2, q3, -⟩, -, -, hh⟩ := hg.facts
    obtain ⟨h1, h2, h3, -⟩ := hh t ht
    cases hc : t.cask
    · have := h3 hc; omega
    · have := h2 hc; omega
  obtain ⟨⟨g1, g2, g3, -⟩, -⟩ := hg.facts
  have HR := hid (show rightT c l t = within (ofT c l (thing c.heaps.length t)) t.s.lo t.s.hi from rfl)
  have hl' := hl
  obtain ⟨pa, ca, rfl, -, -⟩ := hl.open1
  have HF := hid hf
  have HG := hid hg
  obtain ⟨ck, num, s⟩ := t
  obtain ⟨lo, hi⟩ := s
  simp only at tn
  obtain ⟨W, hW⟩ : ∃ W, W = (w.alloc (Obj.cells #[.slice ha c.heaps.length hc, .slice ka c.casks.length kc, .slice ta c.trials.length tc] 26)).alloc (Obj.cells #[.bool ck, .int .i64 num, .int .i64 lo, .int .i64 hi] 68) := ⟨_, rfl⟩
  have hWs : W.heap.size = w.heap.size + 2 := by rw [hW]; simp
  have hWb : Below w.heap.size w W := by rw [hW]; exact below_alloc2 (Nat.le_refl _) _ _
  have hW1 : W.heap[w.heap.size + 1]? = some (.cells #[.bool ck, .int .i64 num, .int .i64 lo, .int .i64 hi] 68 (0, 0)) := by rw [hW]; exact heap_new2 _ _ _
  have hW0 : W.heap[w.heap.size]? = some (.cells #[.slice ha c.heaps.length hc, .slice ka c.casks.length kc, .slice ta c.trials.length tc] 26 (0, 0)) := by rw [hW, Below.heap_alloc _ _ _ (by simp)]; exact heap_new _ _
  obtain ⟨hgc, hgf⟩ := grew_cells W
  have k0 := cell_of_row hW0 0
  have k1 := cell_of_row hW0 1
  have k2 := cell_of_row hW0 2
  have t0 := cell_of_row hW1 0
  have t1 := cell_of_row hW1 1
  have t2 := cell_of_row hW1 2
  have t3 := cell_of_row hW1 3
  simp only [List.getElem?_toArray, List.getElem?_cons_zero, List.getElem?_cons_succ] at k0 k1 k2 t0 t1 t2 t3
  have l4 : w.heap.size < W.heap.size := by omega
  have l5 : w.heap.size + 1 < W.heap.size := by omega
  have HN1 := hid (fun g => Nat.le_trans (by omega) (grew_below W g).size : ∀ g, n ≤ (World.grew W g).heap.size)
  have HGH := hid (fun g => (hWb.mono hn).trans ((grew_below W g).mono (by omega)) : ∀ g, Below n w (World.grew W g))
  clear hW0 hW1 h hl hf hg ht
  cases ck with
  | true =>
    have hth : thing c.heaps.length ⟨true, num, ⟨lo, hi⟩⟩ = num + c.heaps.length := by simp [thing]; omega
    rw [hth] at tb0 tb1 HR
    clear hth
    go_enter Try.func90, Try.ntmps90
    go_wp2
    rw [← hW]
    clear hW
    refine wp_region_grew (by kernel_rfl) (by kernel_rfl) ?_
    repeat (go_big_quiet_step ((first
      | (go_at_call 38; exact grew_of (ofR_any c HG.out l HF.out _ _ _ tb0 tb1 n _ (HN1.out _) (h'.below (HGH.out _)) (hl'.below (HGH.out _))))
      | (go_at_call 26; exact grew_same (inR_any _ _ _ _)))))
    refine wpQuiet_nil ?_
    rintro _ ⟨ex, rfl⟩
    go_wp2
    go_ret
    exact ⟨ret_bool HR.out.symm, hWb.trans ((grew_below W ex).mono hWb.size)⟩
  | false =>
    have hth : thing c.heaps.length ⟨false, num, ⟨lo, hi⟩⟩ = num := by simp [thing]
    rw [hth] at tb0 tb1 HR
    clear hth
    go_enter Try.func90, Try.ntmps90
    go_wp2
    rw [← hW]
    clear hW
    refine wp_region_grew (by kernel_rfl) (by kernel_rfl) ?_
    repeat (go_big_quiet_step ((first
      | (go_at_call 38; exact grew_of (ofR_any c HG.out l HF.out _ _ _ tb0 tb1 n _ (HN1.out _) (h'.below (HGH.out _)) (hl'.below (HGH.out _))))
      | (go_at_call 26; exact grew_same (inR_any _ _ _ _)))))
    refine wpQuiet_nil ?_
    rintro _ ⟨ex, rfl⟩
    go_wp2
    go_ret
    exact ⟨ret_bool HR.out.symm, hWb.trans ((grew_below W ex).mono hWb.size)⟩

theorem listed_nil_left (l : List Int) : listed [] l = (l.length == 0) := by cases l <;> rfl
theorem listed_nil_right (hs : List Rg) : listed hs [] = (hs.length == 0) := by cases hs <;> rfl

set_option maxHeartbeats 1000000 in
theorem isListed_any (c : Ce) (hhl : c.heaps.length ≤ 1000) (l : List Int) (hll : l.length ≤ 1000) (v vl : Value) (n : Nat) (w : World) (hn : n ≤ w.heap.size) (h : CeV (Lt n) w v c) (hl : Ints (Lt n) w vl l) :
    Calls Try.prog 60 #[v, vl] w fun e w' => e = .returned (.bool (listed c.heaps l)) ∧ Below w.heap.size w w' := by
  obtain ⟨ha, hc, ka, kc, ta, tc, rfl, H1, -, -⟩ := h.open
  obtain ⟨_, _, he, -, ho⟩ := H1.open2
  cases he
  obtain ⟨pa, ca, rfl, -, oa⟩ := hl.open1
  have HO := hid ho
  have HOA := hid oa
  obtain ⟨W, hW⟩ : ∃ W, W = w.alloc (Obj.cells #[.slice ha c.heaps.length hc, .slice ka c.casks.length kc, .slice ta c.trials.length tc] 26) := ⟨_, rfl⟩
  have hWs : W.heap.size = w.heap.size + 1 := by rw [hW]; simp
  have hWb : Below w.heap.size w W := by rw [hW]; exact below_alloc1 (Nat.le_refl _) _
  have hWr : W.heap[w.heap.size]? = some (.cells #[.slice ha c.heaps.length hc, .slice ka c.casks.length kc, .slice ta c.trials.length tc] 26 (0, 0)) := by rw [hW]; exact heap_new _ _
  have r0 := cell_of_row hWr 0
  simp only [List.getElem?_toArray, List.getElem?_cons_zero] at r0
  have HEQ := hid (show ((l.length : Int) == (c.heaps.length : Int)) = (l.length == c.heaps.length) by rw [Bool.eq_iff_iff]; simp only [beq_iff_eq]; omega)
  clear h H1 hl ho oa hWr
  go_enter Try.func60, Try.ntmps60
  go_wp2
  rw [← hW]
  clear hW
  go_loopw [5] (fun i wr => ∃ k : Nat, k ≤ l.length ∧ k ≤ c.heaps.length ∧ i = .int .i64 k ∧ Hid (listed (c.heaps.drop k) (l.drop k) = listed c.heaps l) ∧ Below W.heap.size W wr) (fun i _ => l.length - (intOf i).toNat)
  case atStart => exact ⟨0, by omega, by omega, rfl, hid rfl, Below.refl _ _⟩
  case round =>
    obtain ⟨k, hk, hk2, rfl, HI, hb⟩ := hrel
    have hbs := hb.size
    have j0 := (hb.cell (p := ⟨w.heap.size, 0, none⟩) (by show w.heap.size < _; omega)).trans r0
    by_cases hlt : k < l.length
    · by_cases hlt2 : k < c.heaps.length
      · rcases HOA.out with hnil | ⟨ba, offa, rfl, hba, hca⟩
        · rw [hnil] at hlt; simp at hlt
        rcases HO.out with hnil | ⟨bb, offb, rfl, hbb, hcb⟩
        · rw [hnil] at hlt2; simp at hlt2
        have y0 := hca k hlt
        obtain ⟨y1, y2⟩ := hcb k hlt2
        have hba' : ba < n := hba
        have hbb' : bb < n := hbb
        have z0 := (hb.cell (p := ⟨ba, offa + k, none⟩) (by show ba < _; omega)).trans ((hWb.cell (p := ⟨ba, offa + k, none⟩) (by show ba < _; omega)).trans y0)
        have z1 := (hb.cell (p := ⟨bb, offb + k * 2, none⟩) (by show bb < _; omega)).trans ((hWb.cell (p := ⟨bb, offb + k * 2, none⟩) (by show bb < _; omega)).trans y1)
        have z2 := (hb.cell (p := ⟨bb, offb + k * 2 + 1, none⟩) (by show bb < _; omega)).trans ((hWb.cell (p := ⟨bb, offb + k * 2 + 1, none⟩) (by show bb < _; omega)).trans y2)
        have HD := hid (show listed (c.heaps.drop k) (l.drop k) = (within l[k] c.heaps[k].lo c.heaps[k].hi && listed (c.heaps.drop (k + 1)) (l.drop (k + 1))) by rw [List.drop_eq_getElem_cons hlt, List.drop_eq_getElem_cons hlt2]; rfl)
        clear hca hcb y0 y1 y2
        generalize l[k] = x at *
        generalize c.heaps[k] = r at *
        obtain ⟨x0, hx0⟩ : ∃ x0, x0 = within x r.lo r.hi := ⟨_, rfl⟩
        rw [← hx0] at HD
        have HX := hid hx0
        clear hx0
        obtain ⟨hgc, hgf⟩ := grew_cells wr
        have lba : ba < wr.heap.size := by omega
        have lbb : bb < wr.heap.size := by omega
        have lw : w.heap.size < wr.heap.size := by omega
        cases x0 with
        | true =>
          go_wp2
          refine wp_region_grew (by kernel_rfl) (by kernel_rfl) ?_
          repeat (go_big_quiet_step ((go_at_call 26; exact grew_same (inR_hid _ _ _ HX _))))
          refine wpQuiet_nil ?_
          rintro _ ⟨ex, rfl⟩
          have hbE := hb.trans ((grew_below wr ex).mono hbs)
          go_wp2
          go_roundw
          case rel => exact ⟨k + 1, by omega, by omega, by go_num, hid (by rw [← HI.out, HD.out]; simp), hbE⟩
          case measure => simp [intOf]; omega
        | false =>
          go_wp2
          refine wp_region_grew (by kernel_rfl) (by kernel_rfl) ?_
          repeat (go_big_quiet_step ((go_at_call 26; exact grew_same (inR_hid _ _ _ HX _))))
          refine wpQuiet_nil ?_
          rintro _ ⟨ex, rfl⟩
          have hbE := hb.trans ((grew_below wr ex).mono hbs)
          go_wp2
          go_ret
          exact ⟨ret_bool (by rw [← HI.out, HD.out]; simp), hWb.trans (hbE.mono (by omega))⟩
      · have hE : c.heaps.length ≤ k := by omega
        have HF := hid (show listed c.heaps l = (l.length == c.heaps.length) by
          rw [← HI.out, List.drop_eq_nil_of_le hE, listed_nil_left, List.length_drop, Bool.eq_iff_iff, beq_iff_eq, beq_iff_eq]; omega)
        have d2 : decide ((k : Int) < (c.heaps.length : Int)) = false := decide_eq_false (by omega)
        have d3 : decide (k < c.heaps.length) = false := decide_eq_false (by omega)
        go_wp2
        go_ret
        exact ⟨ret_bool (by rw [HF.out, ← HEQ.out]), hWb.trans (hb.mono (by omega))⟩
    · have hE : l.length ≤ k := by omega
      have d1 : decide ((k : Int) < (l.length : Int)) = false := decide_eq_false (by omega)
      have d3 : decide (k < l.length) = false := decide_eq_false (by omega)
      have HF := hid (show listed c.heaps l = (l.length == c.heaps.length) by
        rw [← HI.out, List.drop_eq_nil_of_le hE, listed_nil_right, List.length_drop, Bool.eq_iff_iff, beq_iff_eq, beq_iff_eq]; omega)
      go_wp2
      go_ret
      exact ⟨ret_bool (by rw [HF.out, ← HEQ.out]), hWb.trans (hb.mono (by omega))⟩
theorem isListed_hid {b : Bool} (c : Ce) (hhl : c.heaps.length ≤ 1000) (l : List Int) (hll : l.length ≤ 1000) (HB : Hid (b = listed c.heaps l)) (v vl : Value) (n : Nat) (w : World) (hn : n ≤ w.heap.size) (h : CeV (Lt n) w v c) (hl : Ints (Lt n) w vl l) :
    Calls Try.prog 60 #[v, vl] w fun e w' => e = .returned (.bool b) ∧ Below w.heap.size w w' := by
  rw [HB.out]; exact isListed_any c hhl l hll v vl n w hn h hl
theorem rightR_hid {b : Bool} (c : Ce) (hg : Good c) (l : List Int) (hf : Fit c l) (v vl : Value) (t : Tl) (ht : t ∈ c.trials) (HB : Hid (b = rightT c l t)) (n : Nat) (w : World) (hn : n ≤ w.heap.size) (h : CeV (Lt n) w v c) (hl : Ints (Lt n) w vl l) :
    Calls Try.prog 90 #[v, vl, .agg #[.bool t.cask, .int .i64 t.num, .int .i64 t.s.lo, .int .i64 t.s.hi]] w fun e w' => e = .returned (.bool b) ∧ Below w.heap.size w w' := by
  rw [HB.out]; exact rightR_any c hg l hf v vl t ht n w hn h hl

theorem right_all (c : Ce) (l : List Int) : right c l [] = c.trials.all (rightT c l) := by
  rw [Bool.eq_iff_iff, right_nil_iff, List.all_eq_true]
theorem isTruthR_all (c : Ce) (l : List Int) : isTruthR c l = (listed c.heaps l && c.trials.all (rightT c l)) := by rw [isTruthR, right_all]

set_option maxHeartbeats 1000000 in
theorem isTruth_any (c : Ce) (hg : Good c) (l : List Int) (hll : l.length ≤ 1000) (v vl : Value) (n : Nat) (w : World) (hn : n ≤ w.heap.size) (h : CeV (Lt n) w v c) (hl : Ints (Lt n) w vl l) :
    Calls Try.prog 59 #[v, vl] w fun e w' => e = .returned (.bool (isTruthR c l)) ∧ Below w.heap.size w w' := by
  have h' := h
  obtain ⟨ha, hc, ka, kc, ta, tc, rfl, -, -, H3⟩ := h.open
  obtain ⟨_, _, he, -, ho⟩ := H3.open4
  cases he
  have hl' := hl
  obtain ⟨pa, ca, rfl, -, -⟩ := hl.open1
  obtain ⟨⟨g1, g2, g3, g4⟩, -⟩ := hg.facts
  have HO := hid ho
  have HG := hid hg
  have HT := hid (isTruthR_all c l)
  have HFIT := hid (fun h => fit_listed hg (l := l) h)
  obtain ⟨W, hW⟩ : ∃ W, W = w.alloc (Obj.cells #[.slice ha c.heaps.length hc, .slice ka c.casks.length kc, .slice ta c.trials.length tc] 26) := ⟨_, rfl⟩
  have hWs : W.heap.size = w.heap.size + 1 := by rw [hW]; simp
  have hWb : Below w.heap.size w W := by rw [hW]; exact below_alloc1 (Nat.le_refl _) _
  have hWr : W.heap[w.heap.size]? = some (.cells #[.slice ha c.heaps.length hc, .slice ka c.casks.length kc, .slice ta c.trials.length tc] 26 (0, 0)) := by rw [hW]; exact heap_new _ _
  have HBOX := hid (fun w1 (hb : Below W.heap.size W w1) => (hb.block w.heap.size (by omega)).trans hWr : ∀ w1, Below W.heap.size W w1 → w1.heap[w.heap.size]? = _)
  obtain ⟨b, hb0⟩ : ∃ b, b = listed c.heaps l := ⟨_, rfl⟩
  rw [← hb0] at HT
  have HB0 := hid hb0
  clear hb0 H3 ho h hl hg hWr
  cases b with
  | false =>
    go_enter Try.func59, Try.ntmps59
    go_wp2_with (go_at_call 60; rw [← hW]; refine (isListed_hid c (by omega) l hll HB0 _ _ n _ (by omega) (h'.below (hWb.mono hn)) (hl'.below (hWb.mono hn))).mono ?_; rintro e w1 ⟨rfl, hb1⟩)
    go_ret
    exact ⟨ret_bool (by rw [HT.out]; rfl), below_after hWb hb1 (Nat.le_refl _)⟩
  | true =>
    have HF := hid (HFIT.out HB0.out.symm)
    go_enter Try.func59, Try.ntmps59
    go_wp2_with (go_at_call 60; rw [← hW]; refine (isListed_hid c (by omega) l hll HB0 _ _ n _ (by omega) (h'.below (hWb.mono hn)) (hl'.below (hWb.mono hn))).mono ?_; rintro e w1 ⟨rfl, hb1⟩)
    clear hW
    go_loopw [5] (fun i wr => ∃ k : Nat, k ≤ c.trials.length ∧ i = .int .i64 k ∧ Hid ((c.trials.drop k).all (rightT c l) = c.trials.all (rightT c l)) ∧ Below W.heap.size W wr) (fun i _ => c.trials.length - (intOf i).toNat)
    case atStart => exact ⟨0, by omega, rfl, hid rfl, hb1⟩
    case round =>
      clear hb1
      obtain ⟨k, hk, rfl, HI, hb⟩ := hrel
      have hbs := hb.size
      have j0 := cell_of_row (HBOX.out wr hb) 0
      have j1 := cell_of_row (HBOX.out wr hb) 1
      have j2 := cell_of_row (HBOX.out wr hb) 2
      simp only [List.getElem?_toArray, List.getElem?_cons_zero, List.getElem?_cons_succ] at j0 j1 j2
      by_cases hlt : k < c.trials.length
      · rcases HO.out with hnil | ⟨bb, off, rfl, hbb, hcc⟩
        · rw [hnil] at hlt; simp at hlt
        obtain ⟨y0, y1, y2, y3⟩ := hcc k hlt
        clear hcc
        have hbb' : bb < n := hbb
        have hbW := hWb.trans (hb.mono (by omega))
        have z0 := (hbW.cell (p := ⟨bb, off + k * 4, none⟩) (by show bb < _; omega)).trans y0
        have z1 := (hbW.cell (p := ⟨bb, off + k * 4 + 1, none⟩) (by show bb < _; omega)).trans y1
        have z2 := (hbW.cell (p := ⟨bb, off + k * 4 + 2, none⟩) (by show bb < _; omega)).trans y2
        have z3 := (hbW.cell (p := ⟨bb, off + k * 4 + 3, none⟩) (by show bb < _; omega)).trans y3
        have HD := hid (show (c.trials.drop k).all (rightT c l) = (rightT c l c.trials[k] && (c.trials.drop (k + 1)).all (rightT c l)) by rw [List.drop_eq_getElem_cons hlt, List.all_cons])
        have HMEM := hid (List.getElem_mem hlt)
        clear y0 y1 y2 y3
        generalize c.trials[k] = t at *
        obtain ⟨x0, hx0⟩ : ∃ x0, x0 = rightT c l t := ⟨_, rfl⟩
        rw [← hx0] at HD
        have HX := hid hx0
        clear hx0
        obtain ⟨hgc, hgf⟩ := grew_cells wr
        have lbb : bb < wr.heap.size := by omega
        have lw : w.heap.size < wr.heap.size := by omega
        have HN1 := hid (fun g => Nat.le_trans (by omega) (grew_below wr g).size : ∀ g, n ≤ (World.grew wr g).heap.size)
        have HGH := hid (fun g => (hbW.mono hn).trans ((grew_below wr g).mono (by omega)) : ∀ g, Below n w (World.grew wr g))
        clear hbW
        cases x0 with
        | true =>
          go_wp2
          refine wp_region_grew (by kernel_rfl) (by kernel_rfl) ?_
          repeat (go_big_quiet_step ((go_at_call 90; exact grew_of (rightR_hid c HG.out l HF.out _ _ t HMEM.out HX n _ (HN1.out _) (h'.below (HGH.out _)) (hl'.below (HGH.out _))))))
          refine wpQuiet_nil ?_
          rintro _ ⟨ex, rfl⟩
          have hbE := hb.trans ((grew_below wr ex).mono hbs)
          go_wp2
          go_roundw
          case rel => exact ⟨k + 1, by omega, by go_num, hid (by rw [← HI.out, HD.out]; simp), hbE⟩
          case measure => simp [intOf]; omega
        | false =>
          go_wp2
          refine wp_region_grew (by kernel_rfl) (by kernel_rfl) ?_
          repeat (go_big_quiet_step ((go_at_call 90; exact grew_of (rightR_hid c HG.out l HF.out _ _ t HMEM.out HX n _ (HN1.out _) (h'.below (HGH.out _)) (hl'.below (HGH.out _))))))
          refine wpQuiet_nil ?_
          rintro _ ⟨ex, rfl⟩
          have hbE := hb.trans ((grew_below wr ex).mono hbs)
          go_wp2
          go_ret
          exact ⟨ret_bool (by rw [HT.out, ← HI.out, HD.out]; simp), hWb.trans (hbE.mono (by omega))⟩
      · have HA := hid (show c.trials.all (rightT c l) = true by rw [← HI.out, List.drop_eq_nil_of_le (by omega)]; rfl)
        go_wp2
        go_ret
        exact ⟨ret_bool (by rw [HT.out, HA.out]; rfl), hWb.trans (hb.mono (by omega))⟩
end Go.Proofs.Ytjddcaimjofihaa

namespace Go.Proofs.Ytjddcaimjofihaa
open Go.RowKit Go.Shelf
set_option maxRecDepth 100000

set_option maxHeartbeats 1000000 in
theorem before_any (a b : List Int) (va vb : Value) (n : Nat) (w : World) (h : Ints (Lt n) w va a) (g : Ints (Lt n) w vb b) (hn : n ≤ w.heap.size) (ha : a.length ≤ 1000) (hb : b.length ≤ 1000) :
    Calls Try.prog 71 #[va, vb] w fun e w' => e = .returned (.bool (beforeB a b)) ∧ Below w.heap.size w w' := by
  obtain ⟨pa, ca, rfl, -, oa⟩ := h.open1
  obtain ⟨pb, cb, rfl, -, ob⟩ := g.open1
  clear h g
  have HOA := hid oa
  have HOB := hid ob
  clear oa ob
  go_enter Try.func71, Try.ntmps71
  go_wp2
  go_loopw [5] (fun i wr => ∃ k : Nat, k ≤ a.length ∧ k ≤ b.length ∧ i = .int .i64 k ∧ Hid (beforeB (a.drop k) (b.drop k) = beforeB a b) ∧ Below w.heap.size w wr) (fun i _ => a.length - (intOf i).toNat)
  case atStart => exact ⟨0, by omega, by omega, rfl, hid rfl, Below.refl _ _⟩
  case round =>
    obtain ⟨k, hk, hk2, rfl, HI, hbw⟩ := hrel
    by_cases hlt : k < a.length
    · by_cases hlt2 : k < b.length
      · rcases HOA.out with hnil | ⟨ba, offa, rfl, hba, hca⟩
        · rw [hnil] at hlt; simp at hlt
        rcases HOB.out with hnil | ⟨bb, offb, rfl, hbb, hcb⟩
        · rw [hnil] at hlt2; simp at hlt2
        have y0 := hca k hlt
        have y1 := hcb k hlt2
        have hba' : ba < n := hba
        have hbb' : bb < n := hbb
        have z0 := (hbw.cell (p := ⟨ba, offa + k, none⟩) (by show ba < _; omega)).trans y0
        have z1 := (hbw.cell (p := ⟨bb, offb + k, none⟩) (by show bb < _; omega)).trans y1
        have HD := hid (show beforeB (a.drop k) (b.drop k) = if a[k] = b[k] then beforeB (a.drop (k + 1)) (b.drop (k + 1)) else decide (a[k] < b[k]) by rw [List.drop_eq_getElem_cons hlt, List.drop_eq_getElem_cons hlt2]; rfl)
        clear hca hcb y0 y1
        generalize a[k] = x at *
        generalize b[k] = y at *
        by_cases hxy : x = y
        · have e1 : (x == y) = true := by simp [hxy]
          have e2 : (x != y) = false := by simp [hxy]
          have HE1 := hid hxy
          clear hxy
          go_wp2
          go_quiet (fail)
          go_wp2
          go_roundw
          case rel => exact ⟨k + 1, by omega, by omega, by go_num, hid (by rw [← HI.out, HD.out, if_pos HE1.out]), below_drewN hbw _⟩
          case measure => simp [intOf]; omega
        · have e1 : (x == y) = false := by simp [hxy]
          have e2 : (x != y) = true := by simp [hxy]
          have HE1 := hid hxy
          clear hxy
          go_wp2
          go_quiet (fail)
          go_wp2
          go_quiet (fail)
          go_wp2
          go_ret
          exact ⟨ret_bool (by rw [← HI.out, HD.out, if_neg HE1.out]), below_drewN (below_drewN hbw _) _⟩
      · have hE : b.length ≤ k := by omega
        have HF := hid (show beforeB a b = false by rw [← HI.out, List.drop_eq_nil_of_le hE, List.drop_eq_getElem_cons hlt]; rfl)
        have d2 : decide ((k : Int) < (b.length : Int)) = false := decide_eq_false (by omega)
        have d3 : decide ((a.length : Int) < (b.length : Int)) = false := decide_eq_false (by omega)
        go_wp2
        go_ret
        exact ⟨ret_bool (by rw [HF.out]; simp; omega), hbw⟩
    · have hE : a.length ≤ k := by omega
      have d1 : decide ((k : Int) < (a.length : Int)) = false := decide_eq_false (by omega)
      have HF := hid (show beforeB a b = decide (a.length < b.length) by
        rw [← HI.out, List.drop_eq_nil_of_le hE]
        cases hd : b.drop k with
        | nil => have := congrArg List.length hd; simp at this; simp [beforeB]; try omega
        | cons y l => have := congrArg List.length hd; simp at this; simp [beforeB]; try omega)
      go_wp2
      go_ret
      exact ⟨ret_bool (by rw [HF.out]), hbw⟩

theorem bitsFrom_snoc (bs : List Bool) (b : Bool) : ∀ k, bitsFrom (bs ++ [b]) k = bitsFrom bs k ++ if b then [((k + bs.length : Nat) : Int)] else [] := by
  induction bs with
  | nil => intro k; cases b <;> simp [bitsFrom]
  | cons x bs ih =>
    intro k
    simp only [List.cons_append, bitsFrom, ih, List.length_cons]
    rw [show k + 1 + bs.length = k + (bs.length + 1) by omega]
    cases x <;> simp
theorem before_hid {x : Bool} (a b : List Int) (HB : Hid (x = beforeB a b)) (va vb : Value) (n : Nat) (w : World) (h : Ints (Lt n) w va a) (g : Ints (Lt n) w vb b) (hn : n ≤ w.heap.size) (ha : a.length ≤ 1000) (hb : b.length ≤ 1000) :
    Calls Try.prog 71 #[va, vb] w fun e w' => e = .returned (.bool x) ∧ Below w.heap.size w w' := by
  rw [HB.out]; exact before_any a b va vb n w h g hn ha hb
theorem shorter_any (a b : List Int) (va vb : Value) (n : Nat) (w : World) (h : Ints (Lt n) w va a) (g : Ints (Lt n) w vb b) (hn : n ≤ w.heap.size) (ha : a.length ≤ 1000) (hb : b.length ≤ 1000) :
    Calls Try.prog 46 #[va, vb] w fun e w' => e = .returned (.bool (shorterB a b)) ∧ Below w.heap.size w w' := by
  have h' := h
  have g' := g
  obtain ⟨pa, ca, rfl, -, -⟩ := h.open1
  obtain ⟨pb, cb, rfl, -, -⟩ := g.open1
  have HS := hid (show shorterB a b = (decide (a.length < b.length) || (a.length == b.length && beforeB a b)) from rfl)
  obtain ⟨x, hx⟩ : ∃ x, x = beforeB a b := ⟨_, rfl⟩
  rw [← hx] at HS
  have HX := hid hx
  clear hx h g
  by_cases hlt : a.length < b.length
  · have d1 : decide (a.length < b.length) = true := decide_eq_true hlt
    have HL := hid hlt
    clear hlt
    go_enter Try.func46, Try.ntmps46
    go_wp2
    go_ret
    exact ⟨ret_bool (by rw [HS.out]; simp [HL.out]), Below.refl _ _⟩
  · have d1 : decide (a.length < b.length) = false := decide_eq_false hlt
    by_cases he : a.length = b.length
    · have d2 : ((a.length : Int) == (b.length : Int)) = true := by simp [he]
      have d3 : (a.length == b.length) = true := by simp [he]
      have HE := hid he
      have HL := hid hlt
      clear he hlt
      go_enter Try.func46, Try.ntmps46
      go_wp2_with (go_at_call 71; refine (before_hid a b HX _ _ n _ h' g' hn ha hb).mono ?_; rintro e w1 ⟨rfl, hb1⟩)
      go_ret
      exact ⟨ret_bool (by rw [HS.out]; simp [HE.out]), hb1⟩
    · have d2 : ((a.length : Int) == (b.length : Int)) = false := by rw [beq_eq_false_iff_ne]; omega
      have d3 : (a.length == b.length) = false := by rw [beq_eq_false_iff_ne]; omega
      have HE := hid he
      have HL := hid hlt
      clear he hlt
      go_enter Try.func46, Try.ntmps46
      go_wp2
      go_ret
      exact ⟨ret_bool (by rw [HS.out]; simp [HE.out, HL.out]), Below.refl _ _⟩
theorem full_any (c : Ce) (v : Value) (n : Nat) (w : World) (h : CeV (Lt n) w v c) (hl : c.trials.length ≤ 5) :
    Calls Try.prog 45 #[v] w fun e w' => e = .returned (.int .i64 ((2 : Int) ^ c.trials.length - 1)) ∧ Below w.heap.size w w' := by
  obtain ⟨ha, hc, ka, kc, ta, tc, rfl, -, -, -⟩ := h.open
  generalize c.trials.length = m at *
  have : m = 0 ∨ m = 1 ∨ m = 2 ∨ m = 3 ∨ m = 4 ∨ m = 5 := by omega
  rcases this with rfl | rfl | rfl | rfl | rfl | rfl
  all_goals
    go_enter Try.func45, Try.ntmps45
    go_wp2
    go_ret
    exact ⟨ret_int (by decide), below_alloc1 (Nat.le_refl _) _⟩
theorem bits_rest (b k : Nat) (hk : k ≤ 10) (hz : ∀ i, k ≤ i → b.testBit i = false) : bitsFrom ((digitsB b).take k) 0 = bitsL b := by
  have hlen : (digitsB b).length = 10 := by simp [digitsB]
  have : ∀ d, k + d ≤ 10 → bitsFrom ((digitsB b).take (k + d)) 0 = bitsFrom ((digitsB b).take k) 0 := by
    intro d
    induction d with
    | zero => intro _; rfl
    | succ d ih =>
      intro h
      rw [show k + (d + 1) = (k + d) + 1 by omega, List.take_succ_eq_append_getElem (by omega), bitsFrom_snoc, ih (by omega)]
      have : (digitsB b)[k + d]'(by omega) = false := by simp [digitsB]; exact hz _ (by omega)
      rw [this]; simp
  have h := this (10 - k) (by omega)
  rw [show k + (10 - k) = 10 by omega, List.take_of_length_le (by omega)] at h
  exact h.symm
/-- The bits of a number below a place. -/
theorem bits_any (b : Nat) (hb : b < 1024) (w : World) :
    Calls Try.prog 47 #[.int .i64 b] w fun e w' => ∃ v', e = .returned v' ∧ Own w.heap.size 3 1 encI w' v' (bitsL b) ∧ Below w.heap.size w w' := by
  have hstep : ∀ k, k < 10 → bitsFrom ((digitsB b).take (k + 1)) 0 = bitsFrom ((digitsB b).take k) 0 ++ if b.testBit k then [(k : Int)] else [] := fun k hk => by
    have hlen : (digitsB b).length = 10 := by simp [digitsB]
    rw [List.take_succ_eq_append_getElem (by omega), bitsFrom_snoc, List.length_take, Nat.min_eq_left (by omega), Nat.zero_add]
    simp [digitsB]
  have hbit : ∀ k, (b : Int) / 2 ^ k % 2 = 1 ↔ b.testBit k = true := fun k => by
    rw [Nat.testBit_eq_decide_div_mod_eq, decide_eq_true_eq]
    rw [show ((2 : Int) ^ k) = ((2 ^ k : Nat) : Int) by simp, ← Int.natCast_ediv]
    omega
  have HSTEP := hid hstep
  have HBIT := hid hbit
  clear hstep hbit
  go_enter Try.func47, Try.ntmps47
  go_wp2
  go_loopw [3, 4] (fun s i wr => ∃ k : Nat, k ≤ 10 ∧ i = .int .i64 k ∧ Own w.heap.size 3 1 encI wr s (bitsFrom ((digitsB b).take k) 0) ∧ Below w.heap.size w wr) (fun _ i _ => 10 - (intOf i).toNat)
  case atStart => exact ⟨0, by omega, rfl, Own.nil, Below.refl _ _⟩
  case round =>
    obtain ⟨k, hk, rfl, hown, hbw⟩ := hrel
    have hbs := hbw.size
    have hwk : IntKind.u64.wrap (k : Int) = k := by unfold IntKind.wrap; simp [IntKind.bits, IntKind.signed]; omega
    have hd0 : 0 ≤ (b : Int) / 2 ^ k := Int.ediv_nonneg (by omega) (Int.pow_nonneg (by decide))
    obtain ⟨pa, pc, hv0, -, -⟩ := hown.slLt encI_length
    obtain ⟨pm, hpm⟩ : ∃ pm, pm = (bitsFrom ((digitsB b).take k) 0).length := ⟨_, rfl⟩
    rw [← hpm] at hv0
    have hlen2 : (bitsFrom ((digitsB b).take k) 0).length ≤ k := by
      have h1 := (bitsFrom_rises ((digitsB b).take k) 0).length
      have h2 : ((digitsB b).take k).length ≤ k := List.length_take_le _ _
      rcases h1 with h1 | h1
      · rw [h1]; simp
      · omega
    have HLEN := hid hlen2
    clear hpm hlen2
    subst hv0
    have HOWN := hid hown
    clear hown
    by_cases hpos : 0 < (b : Int) / 2 ^ k
    · have hk10 : k < 10 := by
        rcases Nat.lt_or_ge k 10 with h | h
        · exact h
        · have : k = 10 := by omega
          subst this
          omega
      have HS := hid (HSTEP.out k hk10)
      by_cases hbit : b.testBit k = true
      · have hb1 : ((b : Int) / 2 ^ k % 2 == 1) = true := by rw [beq_iff_eq]; exact (HBIT.out k).2 hbit
        have HBT := hid hbit
        clear hbit
        go_wp2_with (at_builtin; refine wpList_append1 encI rfl (.tmp 18) (.tmp 20) 47 rfl w.heap.size 3 (.int .i64 0) 1 8 ints_under infoInt rfl (by decide) encI_length encI_one _ _ rfl (HOWN.out.below (below_alloc1 (Nat.le_refl _) _)) _ _ (k : Int) rfl (cells_new _ [Value.int .i64 (k : Int)] _) (by have := HLEN.out; omega) (by decide) (by simp; omega) ?_; intro v' w1 hown' hgrow)
        have HX := hid hown'
        have HG := hid ((HOWN.out.below (below_alloc1 (Nat.le_refl _) _)).grown hgrow (hbw.alloc (by omega) _) (Nat.le_refl _) (by simp; omega))
        clear hown' hgrow
        go_roundw
        case rel => exact ⟨k + 1, by omega, by go_num, by rw [HS.out, HBT.out]; exact HX.out, HG.out⟩
        case measure => simp [intOf]; omega
      · have hb1 : ((b : Int) / 2 ^ k % 2 == 1) = false := by rw [beq_eq_false_iff_ne]; exact fun h => hbit ((HBIT.out k).1 h)
        have HBT := hid (show b.testBit k = false by simpa using hbit)
        clear hbit
        go_wp2
        go_roundw
        case rel => exact ⟨k + 1, by omega, by go_num, by rw [HS.out, HBT.out]; simpa using HOWN.out, hbw⟩
        case measure => simp [intOf]; omega
    · have HE := hid (show bitsFrom ((digitsB b).take k) 0 = bitsL b by
        have hz : ∀ i, k ≤ i → b.testBit i = false := fun i hi => by
          have hlt : b < 2 ^ k := by
            have h1 : (b : Int) / ((2 ^ k : Nat) : Int) ≤ 0 := by simpa using hpos
            have h2 : b / 2 ^ k = 0 := Nat.le_zero.1 (Int.ofNat_le.1 (by rw [Int.natCast_ediv]; exact h1))
            rcases Nat.lt_or_ge b (2 ^ k) with h | h
            · exact h
            · have := Nat.div_pos h (Nat.pow_pos (by omega)); omega
          exact testBit_high hlt hi
        exact (bits_rest b k hk hz))
      go_wp2
      go_ret
      exact ⟨_, rfl, by rw [← HE.out]; exact HOWN.out, hbw⟩
end Go.Proofs.Ytjddcaimjofihaa
