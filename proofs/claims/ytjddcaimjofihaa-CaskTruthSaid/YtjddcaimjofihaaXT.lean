/- The walk of the law CaskTruth; no condition. -/
import Derived.Test.YtjddcaimjofihaaXG
import Derived.Test.YtjddcaimjofihaaU3
namespace Go.Proofs.Ytjddcaimjofihaa
open Go.RowKit Go.Shelf
set_option maxRecDepth 100000

def GradedT (c : Ce) (k g p : Int) : Prop := ∀ (vc : Value) (n : Nat) (w : World), n ≤ w.heap.size → CeV (Lt n) w vc c → Calls Try.prog 23 #[vc, .int .i64 k, .int .i64 g] w (RetTwo p 0 w)
/-- What is so of a cellar in one of its truths. -/
structure TruthIs (x : Ce) (t : List Int) (g : Int) (P : List Int) (A B : List Rg) : Prop where
  play : ∀ (vc vl : Value) (n : Nat) (w : World), n ≤ w.heap.size → CeV (Lt n) w vc x → Ints (Lt n) w vl t → Calls Try.prog 42 #[vc, vl] w (RetInts P 0 w)
  bounds : ∀ (vc : Value) (n : Nat) (w : World), n ≤ w.heap.size → CeV (Lt n) w vc x → Calls Try.prog 21 #[vc] w (RetBounds A B 0 w)
  leave : ∀ (vc : Value) (n : Nat) (w : World), n ≤ w.heap.size → CeV (Lt n) w vc x → Calls Try.prog 30 #[vc] w (RetInts [] 0 w)
  first : ∀ (vc : Value) (n : Nat) (w : World), n ≤ w.heap.size → CeV (Lt n) w vc x → Calls Try.prog 29 #[vc] w (RetTwo 0 7 w)
  prove : ∀ (vc vl : Value) (n : Nat) (w : World), n ≤ w.heap.size → CeV (Lt n) w vc x → Ints (Lt n) w vl t → Calls Try.prog 58 #[vc, vl] w (RetB true w)
  lenP : P.length = x.casks.length
  lenA : A.length = x.heaps.length
  lenB : B.length = x.casks.length
  inA : ∀ (i : Nat) (h : i < A.length) (h' : i < t.length), A[i].lo ≤ t[i] ∧ t[i] ≤ A[i].hi
  inB : ∀ (i : Nat) (h : i < B.length) (h' : i < P.length), B[i].lo ≤ P[i] ∧ P[i] ≤ B[i].hi
  graded : ∀ (i : Nat) (h : i < P.length), ∃ v, GradedT x i g v ∧ ((v = 1 ∧ g ≤ P[i]) ∨ (v = 2 ∧ P[i] < g) ∨ v = 3)
theorem truth_is {x : Ce} (hf : fault x = 0) (hsm : Small x) {t : List Int} (hli : listed x.heaps t = true) (hr : ∀ y ∈ x.trials, rightT x t y = true) {g : Int} (hg : 0 ≤ g ∧ g ≤ 100) :
    TruthIs x t g (x.casks.map fun k => mean (pad3 t) k) (heapB x) (caskB x) := by
  have hgd := (fault_good hf).1
  obtain ⟨⟨g1, g2, g3, g4⟩, -⟩ := hgd.facts
  have ht : t ∈ truthsOf x [] := truth_in hgd hli hr
  have hT : truthsOf x [] ≠ [] := ne_nil_of ht
  have hae : askErr x true = 0 := by unfold askErr; simp [hf, hT]
  have htl := listed_length _ _ hli
  have hl0 := leave_nil hf hT
  have hfn := first_right hgd hli hr
  have hpv : proveTruth x t = true := by rw [proveTruth, hf, hli, (mem_truthsOf.1 ht).2]; rfl
  refine ⟨fun vc vl n w hn hc hl => play_ok x vc vl t n w hn hc hl (by omega) hf hli, fun vc n w hn hc => Bounds_ok x vc n w hn hc hsm hae, fun vc n w hn hc => ?_, fun vc n w hn hc => ?_, fun vc vl n w hn hc hl => ?_, by simp, by simp [heapB], by simp [caskB], fun i h h' => ?_, fun i h h' => ?_, fun i h => ?_⟩
  · have := Leave_ok x vc n w hn hc hf _ (leaveOf_eq hf)
    rwa [hl0] at this
  · have := First_ok x vc n w hn hc hf
    rwa [hfn] at this
  · have := proveTruth_any x vc vl t n w hn hc hsm hl (by omega)
    rwa [hpv] at this
  · have hi : i < x.heaps.length := by simpa [heapB] using h
    have hb := bnd_in ht (i : Int)
    rw [ofT_pad3 hgd htl (by omega) (by omega), ofT_heap x t i hi, List.getD_eq_getElem?_getD, List.getElem?_eq_getElem h'] at hb
    simpa [heapB] using hb
  · have hi : i < x.casks.length := by simpa [caskB] using h
    have hb := bnd_in ht ((x.heaps.length : Int) + i)
    rw [ofT_cask x _ _ (by omega), Int.toNat_natCast, List.getD_eq_getElem?_getD, List.getElem?_eq_getElem hi] at hb
    simpa [caskB] using hb
  · have hi : i < x.casks.length := by simpa using h
    obtain ⟨q1, q2, q3, q4⟩ := graded_truth ht (i : Int) g
    rw [ofT_cask x _ _ (by omega), Int.toNat_natCast, List.getD_eq_getElem?_getD, List.getElem?_eq_getElem hi] at q1 q2
    refine ⟨gradedV x i g, fun vc n w hn hc => graded_some hf hT ⟨by omega, by omega⟩ hg hsm vc n w hn hc, ?_⟩
    simp only [List.getElem_map]
    by_cases e1 : gradedV x i g = 1
    · exact .inl ⟨e1, by simpa using q1 e1⟩
    · by_cases e2 : gradedV x i g = 2
      · exact .inr (.inl ⟨e2, by simpa using q2 e2⟩)
      · exact .inr (.inr (by omega))
theorem in_true (n lo hi : Int) (h : Hid (lo ≤ n ∧ n ≤ hi)) (w : World) :
    Calls Try.prog 63 #[.int .i64 n, .agg #[.int .i64 lo, .int .i64 hi]] w fun e w' => e = .returned (.bool true) ∧ Below w.heap.size w w' := by
  have := inL_any n lo hi w
  rwa [decide_eq_true h.out.1, decide_eq_true h.out.2] at this
theorem inT_hid {b : Bool} (n lo hi : Int) (HB : Hid (b = within n lo hi)) (w : World) : Calls Try.prog 26 #[.int .i64 n, .int .i64 lo, .int .i64 hi] w fun e w' => e = .returned (.bool b) ∧ w = w' := inR_hid n lo hi HB w

set_option maxHeartbeats 16000000 in
theorem CaskTruth_walk (c : Ce) (v : Value) {w : World} (h : CeV (Lt w.heap.size) w v c) (a : Int) (ha0 : 0 ≤ a ∧ a ≤ 65535) (ws : List Int) (vw : Value) (iw : Words (Lt w.heap.size) w vw ws) (hw : ∀ x ∈ ws, 0 ≤ x ∧ x ≤ 65535) (gr : Int) (hgr : 0 ≤ gr ∧ gr ≤ 255) :
    Calls Try.prog 13 #[v, .int .u16 a, vw, .int .u8 gr] w (RetT w) := by
  have iw' := iw
  obtain ⟨wa, wc0, rfl, -, -⟩ := iw.open1
  have h' := h
  obtain ⟨ha, hc, ka, kc, ta, tc, rfl, hp1, hp2, hp3⟩ := h.open
  have HOP := hid (And.intro hp1 (And.intro hp2 hp3))
  clear hp1 hp2 hp3
  obtain ⟨W, hW⟩ : ∃ W, W = w.alloc (Obj.cells #[.slice ha c.heaps.length hc, .slice ka c.casks.length kc, .slice ta c.trials.length tc] 26) := ⟨_, rfl⟩
  have hWs : W.heap.size = w.heap.size + 1 := by rw [hW]; simp
  have hWb : Below w.heap.size w W := by rw [hW]; exact below_alloc1 (Nat.le_refl _) _
  have hWr : W.heap[w.heap.size]? = some (.cells #[.slice ha c.heaps.length hc, .slice ka c.casks.length kc, .slice ta c.trials.length tc] 26 (0, 0)) := by rw [hW]; exact heap_new _ _
  have HBOX := hid (fun w1 (hb : Below W.heap.size W w1) => (hb.block w.heap.size (by omega)).trans hWr : ∀ w1, Below W.heap.size W w1 → w1.heap[w.heap.size]? = _)
  have HCE := hid (fun w1 (hb : Below W.heap.size W w1) => h'.below (hWb.trans (hb.mono (by omega)) |>.mono (Nat.le_refl _)) : ∀ w1, Below W.heap.size W w1 → CeV (Lt _) w1 _ c)
  clear hWr h' h
  have HWS := hid (fun w1 (hb : Below W.heap.size W w1) => iw'.below (hWb.trans (hb.mono (by omega))) : ∀ w1, Below W.heap.size W w1 → Words (Lt w.heap.size) w1 _ ws)
  have HW0 := hid hw
  obtain ⟨rb, hrb⟩ : ∃ rb, rb = readyB c := ⟨_, rfl⟩
  have HRB := hid hrb
  clear hrb iw iw' hw
  cases rb with
  | false =>
    go_enter Try.func13, Try.ntmps13
    go_wp2_with fail
    rw [← hW]
    clear hW
    refine (ready_hid c HRB _ w.heap.size W (by omega) (HCE.out W (Below.refl _ _))).mono ?_
    rintro e w1 ⟨rfl, hb1⟩
    have HB1 := hid hb1
    have hs1 := hb1.size
    clear hb1
    go_wp2_with (go_at_call 20; refine (awake_any _).mono ?_; rintro e wz ⟨rfl, hbz⟩)
    go_ret
    exact ⟨rfl, hWb.trans ((below_after HB1.out hbz (Nat.le_refl _)).mono (by omega))⟩
  | true =>
    have hf := ready_fault HRB.out.symm
    have hsm := thin_small (ready_thin HRB.out.symm)
    have hgood := (fault_good hf).1
    obtain ⟨⟨g1, g2, g3, g4⟩, gr', -⟩ := hgood.facts
    have HF := hid hf
    have hli : listed c.heaps (nthL c.heaps (a % manyR c)) = true := nthL_listed _ (good_size hgood) _
    obtain ⟨t, ht⟩ : ∃ t, t = nthL c.heaps (a % manyR c) := ⟨_, rfl⟩
    rw [← ht] at hli
    obtain ⟨ts, hts⟩ : ∃ ts, ts = triesL c t ws (wordN ws 0 % 6).toNat := ⟨_, rfl⟩
    have hw6 := wordN_bd HW0.out 0
    have htl : ts.length ≤ 5 := by rw [hts, triesL_length]; omega
    have hok : ∀ y ∈ ts, trialB c y = true ∧ rightT c t y = true := by rw [hts]; exact triesL_ok hgood hli HW0.out _
    have hfx := tried_fault hf (fun y hy => (hok y hy).1) htl
    have hsx : Small (triedC c ts) := ⟨hsm.heaps, hsm.casks, by show ts.length ≤ 1000; omega, hsm.cask⟩
    have hG : 0 ≤ gr % 101 ∧ gr % 101 ≤ 100 := by omega
    have hTI := truth_is hfx hsx (t := t) hli (fun y hy => (hok y hy).2) hG
    have HTR := hid (fun w1 hb => by have := tried_any c hf a ha0 ws HW0.out _ _ w.heap.size w1 (by have := hb.size; omega) (HCE.out w1 hb) (HWS.out w1 hb); rw [← ht, ← hts] at this; exact this : ∀ w1, Below W.heap.size W w1 → Calls Try.prog 62 #[_, .int .u16 a, _] w1 (RetTried c t ts w1))
    obtain ⟨x, hx⟩ : ∃ x, x = triedC c ts := ⟨_, rfl⟩
    have hxh : x.heaps.length = c.heaps.length := by rw [hx]; rfl
    have hxk : x.casks.length = c.casks.length := by rw [hx]; rfl
    rw [← hx] at hTI hsx
    obtain ⟨P, hP⟩ : ∃ P, P = x.casks.map fun k => mean (pad3 t) k := ⟨_, rfl⟩
    obtain ⟨A, hA⟩ : ∃ A, A = heapB x := ⟨_, rfl⟩
    obtain ⟨B, hB⟩ : ∃ B, B = caskB x := ⟨_, rfl⟩
    rw [← hP, ← hA, ← hB] at hTI
    have HTI := hid hTI
    have HSX := hid hsx
    have HX := hid hx
    have htl2 := listed_length _ _ hli
    have hx3 : x.heaps.length ≤ 3 ∧ x.casks.length ≤ 3 := by omega
    have HTL := hid (show t.length = x.heaps.length by omega)
    have ht3 : t.length ≤ 3 := by omega
    have hPc : P.length ≤ 3 ∧ A.length ≤ 3 ∧ B.length ≤ 3 := by have := hTI.lenP; have := hTI.lenA; have := hTI.lenB; omega
    clear hf hsm hgood gr' hli ht hts hw6 htl hok hfx hsx hTI hx hP hA hB htl2 hxh hxk
    go_enter Try.func13, Try.ntmps13
    go_wp2_with fail
    rw [← hW]
    clear hW
    refine (ready_hid c HRB _ w.heap.size W (by omega) (HCE.out W (Below.refl _ _))).mono ?_
    rintro e w1 ⟨rfl, hb1⟩
    have HB1 := hid hb1
    have hs1 := hb1.size
    clear hb1
    have j0 := cell_of_row (HBOX.out w1 HB1.out) 0
    have j1 := cell_of_row (HBOX.out w1 HB1.out) 1
    have j2 := cell_of_row (HBOX.out w1 HB1.out) 2
    simp only [List.getElem?_toArray, List.getElem?_cons_zero, List.getElem?_cons_succ] at j0 j1 j2
    go_wp2_with fail
    refine (HTR.out w1 HB1.out).mono ?_
    rintro e w2 ⟨v2, tv2, rfl, hc2, hi2, hb2⟩
    have HB2 := hid (below_after HB1.out hb2 (Nat.le_refl _))
    have hs2 := HB2.out.size
    have hd2 := hb2.size
    clear hb2 j0 j1 j2
    rw [← HX.out] at hc2
    obtain ⟨xa, xc, xka, xkc, xta, xtc, rfl, -⟩ := id hc2.open
    obtain ⟨ta2, tc2, rfl, -, hto⟩ := id hi2.open1
    go_wp2_with fail
    obtain ⟨X, hX⟩ : ∃ X, X = w2.heap.size := ⟨_, rfl⟩
    obtain ⟨w3, hw3⟩ : ∃ w', w' = w2.alloc (Obj.cells #[.slice xa x.heaps.length xc, .slice xka x.casks.length xkc, .slice xta x.trials.length xtc] 26) := ⟨_, rfl⟩
    have hs3 : w3.heap.size = X + 1 := by rw [hw3, hX]; simp
    have hr3 : w3.heap[X]? = some (.cells #[.slice xa x.heaps.length xc, .slice xka x.casks.length xkc, .slice xta x.trials.length xtc] 26 (0, 0)) := by rw [hw3, hX]; exact heap_new _ _
    have hb3 : Below w2.heap.size w2 w3 := by rw [hw3]; exact below_alloc1 (Nat.le_refl _) _
    have HB3 := hid (below_after HB2.out hb3 (Nat.le_refl _))
    have HF3 := hid (Below.refl w3.heap.size w3)
    have HXB := hid (fun w' (hb : Below w3.heap.size w3 w') => row_grow hr3 hb : ∀ w', Below w3.heap.size w3 w' → w'.heap[X]? = _)
    have hcx := (hc2.below hb3).le (m := w3.heap.size) (by omega)
    have HXC := hid (fun w' (hb : Below w3.heap.size w3 w') => hcx.below hb : ∀ w', Below w3.heap.size w3 w' → CeV (Lt w3.heap.size) w' _ x)
    have HI3 := hid ((hi2.below hb3).le (m := w3.heap.size) (by omega))
    have hX2 : X ≤ w2.heap.size ∧ w2.heap.size ≤ X := by omega
    rw [← hw3, ← hX]
    clear hw3 hX hr3 hb3 hc2 hi2 hcx hto
    have zHF3 := Nat.le_refl w3.heap.size
    refine (CellarL_any x _ w3.heap.size w3 (by omega) (HXC.out w3 HF3.out) HSX.out).mono ?_
    rintro e w4 ⟨v4, rfl, hc4, hb4⟩
    have HB4 := hid (below_after HB3.out hb4 (Nat.le_refl _))
    have hs4 := HB4.out.size
    have hd4 := hb4.size
    have HF4 := hid (below_after HF3.out hb4 (Nat.le_refl _))
    have zHF4 := HF4.out.size
    clear hb4
    obtain ⟨_, _, _, _, _, _, rfl, -⟩ := id hc4.open
    go_wp2_with fail
    refine (list_any t _ w3.heap.size w4 (by omega) (HI3.out.below HF4.out) (by omega)).mono ?_
    rintro e w5 ⟨v5, rfl, ho5, hb5⟩
    have HB5 := hid (below_after HB4.out hb5 (Nat.le_refl _))
    have hs5 := HB5.out.size
    have hd5 := hb5.size
    have HF5 := hid (below_after HF4.out hb5 (Nat.le_refl _))
    have zHF5 := HF5.out.size
    have HI_5 := hid hb5
    clear hb5
    have hi5 : Ints (Lt w5.heap.size) w5 v5 t := ho5.slLt encI_length
    obtain ⟨_, _, rfl, -, -⟩ := id hi5.open1
    have hc5 := (hc4.below HI_5.out).le hd5
    clear ho5 hc4
    go_wp2_with fail
    refine (HTI.out.play _ _ _ w5 (Nat.le_refl _) hc5 hi5).mono ?_
    rintro e w6 ⟨v6, rfl, hi6, hb6⟩
    have HB6 := hid (below_after HB5.out hb6 (Nat.le_refl _))
    have hs6 := HB6.out.size
    have hd6 := hb6.size
    have HF6 := hid (below_after HF5.out hb6 (Nat.le_refl _))
    have zHF6 := HF6.out.size
    clear hb6
    obtain ⟨pa6, pc6, rfl, -, hpo⟩ := id hi6.open1
    have HPO := hid hpo
    have HP6 := hid (Below.refl w6.heap.size w6)
    clear hc5 hi5 hi6 hpo
    have x0 := cell_of_row (HXB.out w6 HF6.out) 0
    have x1 := cell_of_row (HXB.out w6 HF6.out) 1
    have x2 := cell_of_row (HXB.out w6 HF6.out) 2
    simp only [List.getElem?_toArray, List.getElem?_cons_zero, List.getElem?_cons_succ] at x0 x1 x2
    go_wp2_with fail
    refine (CellarL_any x _ w3.heap.size w6 (by omega) (HXC.out w6 HF6.out) HSX.out).mono ?_
    rintro e w7 ⟨v7, rfl, hc7, hb7⟩
    have HB7 := hid (below_after HB6.out hb7 (Nat.le_refl _))
    have hs7 := HB7.out.size
    have hd7 := hb7.size
    have HF7 := hid (below_after HF6.out hb7 (Nat.le_refl _))
    have zHF7 := HF7.out.size
    have HP7 := hid (below_after HP6.out hb7 (Nat.le_refl _))
    have zHP7 := HP7.out.size
    clear hb7
    clear x0 x1 x2
    obtain ⟨_, _, _, _, _, _, rfl, -⟩ := id hc7.open
    go_wp2_with fail
    refine (HTI.out.bounds _ _ w7 (Nat.le_refl _) hc7).mono ?_
    rintro e w8 ⟨v8, u8, rfl, hx8, hy8, hb8⟩
    have HB8 := hid (below_after HB7.out hb8 (Nat.le_refl _))
    have hs8 := HB8.out.size
    have hd8 := hb8.size
    have HF8 := hid (below_after HF7.out hb8 (Nat.le_refl _))
    have zHF8 := HF8.out.size
    have HP8 := hid (below_after HP7.out hb8 (Nat.le_refl _))
    have zHP8 := HP8.out.size
    clear hb8
    obtain ⟨aa8, ac8, rfl, -, hao⟩ := id hx8.open2
    obtain ⟨ba8, bc8, rfl, -, hbo⟩ := id hy8.open2
    have HAO := hid hao
    have HBO := hid hbo
    have HQ8 := hid (Below.refl w8.heap.size w8)
    clear hc7 hx8 hy8 hao hbo
    have x0 := cell_of_row (HXB.out w8 HF8.out) 0
    have x1 := cell_of_row (HXB.out w8 HF8.out) 1
    have x2 := cell_of_row (HXB.out w8 HF8.out) 2
    simp only [List.getElem?_toArray, List.getElem?_cons_zero, List.getElem?_cons_succ] at x0 x1 x2
    go_wp2_with fail
    refine (CellarL_any x _ w3.heap.size w8 (by omega) (HXC.out w8 HF8.out) HSX.out).mono ?_
    rintro e w9 ⟨v9, rfl, hc9, hb9⟩
    have HB9 := hid (below_after HB8.out hb9 (Nat.le_refl _))
    have hs9 := HB9.out.size
    have hd9 := hb9.size
    have HF9 := hid (below_after HF8.out hb9 (Nat.le_refl _))
    have zHF9 := HF9.out.size
    have HP9 := hid (below_after HP8.out hb9 (Nat.le_refl _))
    have zHP9 := HP9.out.size
    have HQ9 := hid (below_after HQ8.out hb9 (Nat.le_refl _))
    have zHQ9 := HQ9.out.size
    clear hb9
    clear x0 x1 x2
    obtain ⟨_, _, _, _, _, _, rfl, -⟩ := id hc9.open
    go_wp2_with fail
    refine (HTI.out.leave _ _ w9 (Nat.le_refl _) hc9).mono ?_
    rintro e w10 ⟨v10, rfl, hi10, hb10⟩
    have HB10 := hid (below_after HB9.out hb10 (Nat.le_refl _))
    have hs10 := HB10.out.size
    have hd10 := hb10.size
    have HF10 := hid (below_after HF9.out hb10 (Nat.le_refl _))
    have zHF10 := HF10.out.size
    have HP10 := hid (below_after HP9.out hb10 (Nat.le_refl _))
    have zHP10 := HP10.out.size
    have HQ10 := hid (below_after HQ9.out hb10 (Nat.le_refl _))
    have zHQ10 := HQ10.out.size
    clear hb10
    obtain ⟨_, _, rfl, -, -⟩ := id hi10.open1
    clear hc9 hi10
    have x0 := cell_of_row (HXB.out w10 HF10.out) 0
    have x1 := cell_of_row (HXB.out w10 HF10.out) 1
    have x2 := cell_of_row (HXB.out w10 HF10.out) 2
    simp only [List.getElem?_toArray, List.getElem?_cons_zero, List.getElem?_cons_succ] at x0 x1 x2
    go_wp2_with fail
    refine (CellarL_any x _ w3.heap.size w10 (by omega) (HXC.out w10 HF10.out) HSX.out).mono ?_
    rintro e w11 ⟨v11, rfl, hc11, hb11⟩
    have HB11 := hid (below_after HB10.out hb11 (Nat.le_refl _))
    have hs11 := HB11.out.size
    have hd11 := hb11.size
    have HF11 := hid (below_after HF10.out hb11 (Nat.le_refl _))
    have zHF11 := HF11.out.size
    have HP11 := hid (below_after HP10.out hb11 (Nat.le_refl _))
    have zHP11 := HP11.out.size
    have HQ11 := hid (below_after HQ10.out hb11 (Nat.le_refl _))
    have zHQ11 := HQ11.out.size
    clear hb11
    clear x0 x1 x2
    obtain ⟨_, _, _, _, _, _, rfl, -⟩ := id hc11.open
    go_wp2_with fail
    refine (HTI.out.first _ _ w11 (Nat.le_refl _) hc11).mono ?_
    rintro e w12 ⟨rfl, hb12⟩
    have HB12 := hid (below_after HB11.out hb12 (Nat.le_refl _))
    have hs12 := HB12.out.size
    have hd12 := hb12.size
    have HF12 := hid (below_after HF11.out hb12 (Nat.le_refl _))
    have zHF12 := HF12.out.size
    have HP12 := hid (below_after HP11.out hb12 (Nat.le_refl _))
    have zHP12 := HP12.out.size
    have HQ12 := hid (below_after HQ11.out hb12 (Nat.le_refl _))
    have zHQ12 := HQ12.out.size
    clear hb12
    clear hc11
    have hn1 : ((P.length : Int) != (x.casks.length : Int)) = false := by rw [HTI.out.lenP]; simp
    have hn2 : ((A.length : Int) != (x.heaps.length : Int)) = false := by rw [HTI.out.lenA]; simp
    have hn3 : ((B.length : Int) != (x.casks.length : Int)) = false := by rw [HTI.out.lenB]; simp
    have hm1 : (P.length != x.casks.length) = false := by rw [HTI.out.lenP]; simp
    have hm2 : (A.length != x.heaps.length) = false := by rw [HTI.out.lenA]; simp
    have hm3 : (B.length != x.casks.length) = false := by rw [HTI.out.lenB]; simp
    have x0 := cell_of_row (HXB.out w12 HF12.out) 0
    have x1 := cell_of_row (HXB.out w12 HF12.out) 1
    have x2 := cell_of_row (HXB.out w12 HF12.out) 2
    simp only [List.getElem?_toArray, List.getElem?_cons_zero, List.getElem?_cons_succ] at x0 x1 x2
    go_wp2_with fail
    refine (CellarL_any x _ w3.heap.size w12 (by omega) (HXC.out w12 HF12.out) HSX.out).mono ?_
    rintro e w13 ⟨v13, rfl, hc13, hb13⟩
    have HB13 := hid (below_after HB12.out hb13 (Nat.le_refl _))
    have hs13 := HB13.out.size
    have hd13 := hb13.size
    have HF13 := hid (below_after HF12.out hb13 (Nat.le_refl _))
    have zHF13 := HF13.out.size
    have HP13 := hid (below_after HP12.out hb13 (Nat.le_refl _))
    have zHP13 := HP13.out.size
    have HQ13 := hid (below_after HQ12.out hb13 (Nat.le_refl _))
    have zHQ13 := HQ13.out.size
    clear hb13
    clear x0 x1 x2
    obtain ⟨_, _, _, _, _, _, rfl, -⟩ := id hc13.open
    go_wp2_with fail
    refine (list_any t _ w3.heap.size w13 (by omega) (HI3.out.below HF13.out) (by omega)).mono ?_
    rintro e w14 ⟨v14, rfl, ho14, hb14⟩
    have HB14 := hid (below_after HB13.out hb14 (Nat.le_refl _))
    have hs14 := HB14.out.size
    have hd14 := hb14.size
    have HF14 := hid (below_after HF13.out hb14 (Nat.le_refl _))
    have zHF14 := HF14.out.size
    have HP14 := hid (below_after HP13.out hb14 (Nat.le_refl _))
    have zHP14 := HP14.out.size
    have HQ14 := hid (below_after HQ13.out hb14 (Nat.le_refl _))
    have zHQ14 := HQ14.out.size
    have HI_14 := hid hb14
    clear hb14
    have hi14 : Ints (Lt w14.heap.size) w14 v14 t := ho14.slLt encI_length
    obtain ⟨_, _, rfl, -, -⟩ := id hi14.open1
    have hc14 := (hc13.below HI_14.out).le hd14
    clear ho14 hc13
    go_wp2_with fail
    refine (HTI.out.prove _ _ _ w14 (Nat.le_refl _) hc14 hi14).mono ?_
    rintro e w15 ⟨rfl, hb15⟩
    have HB15 := hid (below_after HB14.out hb15 (Nat.le_refl _))
    have hs15 := HB15.out.size
    have hd15 := hb15.size
    have HF15 := hid (below_after HF14.out hb15 (Nat.le_refl _))
    have zHF15 := HF15.out.size
    have HP15 := hid (below_after HP14.out hb15 (Nat.le_refl _))
    have zHP15 := HP15.out.size
    have HQ15 := hid (below_after HQ14.out hb15 (Nat.le_refl _))
    have zHQ15 := HQ15.out.size
    clear hb15
    clear hc14 hi14
    go_wp2
    have hwg : IntKind.i64.wrap gr = gr := IntWalk.i64_in _ (by omega)
    clear hn1 hn2 hn3 hm1 hm2 hm3
    go_loopw [20] (fun i wr => ∃ k : Nat, k ≤ A.length ∧ i = .int .i64 k ∧ Below w15.heap.size w15 wr) (fun i _ => A.length - (intOf i).toNat)
    case atStart => exact ⟨0, by omega, rfl, Below.refl _ _⟩
    case round =>
      obtain ⟨k, hk, rfl, hbr⟩ := hrel
      have HBr := hid (below_after HB15.out hbr (Nat.le_refl _))
      have HFr := hid (below_after HF15.out hbr (Nat.le_refl _))
      have HPr := hid (below_after HP15.out hbr (Nat.le_refl _))
      have HQr := hid (below_after HQ15.out hbr (Nat.le_refl _))
      have HRr := hid hbr
      have hsr := HBr.out.size
      have zHFr := HFr.out.size
      have zHPr := HPr.out.size
      have zHQr := HQr.out.size
      clear hbr
      by_cases hlt : k < A.length
      · have hltt : k < t.length := by have := HTL.out; have := HTI.out.lenA; omega
        rcases HAO.out with hnil | ⟨bA, offA, rfl, hbA, hcA⟩
        · rw [hnil] at hlt; simp at hlt
        obtain ⟨_, _, he3, -, ho3⟩ := HI3.out.open1
        cases he3
        rcases ho3 with hnil | ⟨bt, offt, rfl, hbt, hct⟩
        · rw [hnil] at hltt; simp at hltt
        obtain ⟨y0, y1⟩ := hcA k hlt
        have y2 := hct k hltt
        have hbA' : bA < w8.heap.size := hbA
        have hbt' : bt < w3.heap.size := hbt
        have HIN := hid (HTI.out.inA k hlt hltt)
        have z0 := (HQr.out.cell (p := ⟨bA, offA + k * 2, none⟩) hbA').trans y0
        have z1 := (HQr.out.cell (p := ⟨bA, offA + k * 2 + 1, none⟩) hbA').trans y1
        have z2 := (HFr.out.cell (p := ⟨bt, offt + k, none⟩) hbt').trans y2
        clear y0 y1 y2 hcA hct
        generalize A[k] = rr at *
        generalize t[k] = tk at *
        obtain ⟨rlo, rhi⟩ := rr
        simp only at z0 z1 HIN
        have hSS := hid (fun w' (h : Below wr.heap.size wr w') => ⟨(h.cell (p := ⟨bA, offA + k * 2, none⟩) (by show bA < _; omega)).trans z0, (h.cell (p := ⟨bA, offA + k * 2 + 1, none⟩) (by show bA < _; omega)).trans z1, (h.cell (p := ⟨bt, offt + k, none⟩) (by show bt < _; omega)).trans z2⟩ :
          ∀ w', Below wr.heap.size wr w' → w'.cell? ⟨bA, offA + k * 2, none⟩ = some (.int .i64 rlo) ∧ w'.cell? ⟨bA, offA + k * 2 + 1, none⟩ = some (.int .i64 rhi) ∧ w'.cell? ⟨bt, offt + k, none⟩ = some (.int .i64 tk))
        go_wp2
        refine wp_region_grow (by kernel_rfl) 99 (fun w' => Below wr.heap.size wr w') ?_ ?_
        · exact (Below.refl _ _).drew
        have HG := fun (a b : World) (h : Below wr.heap.size wr a) (k : Below a.heap.size a b) => (h.trans (k.mono h.size) : Below wr.heap.size wr b)
        clear z0 z1 z2
        refine wpG_take (i := 0) (v := .slice (some ⟨bt, offt, none⟩) t.length tc2) rfl rfl (by kernel_rfl) (by kernel_rfl) (by kernel_rfl) (by kernel_rfl) (fun _ _ _ h => h) (by rfl) (fun w' hS' => grow_value ?_ hS') ?_
        · go_simp
        try simp only [List.setIfInBounds_toArray, List.set_cons_zero, List.set_cons_succ]
        refine wpG_take (i := 1) (v := .int .i64 k) rfl rfl (by kernel_rfl) (by kernel_rfl) (by kernel_rfl) (by kernel_rfl) (fun _ _ _ h => h) (by rfl) (fun w' hS' => grow_value ?_ hS') ?_
        · go_simp
        try simp only [List.setIfInBounds_toArray, List.set_cons_zero, List.set_cons_succ]
        refine wpG_take (i := 2) (v := .pointer (some ⟨bt, offt + k, none⟩)) rfl rfl (by kernel_rfl) (by kernel_rfl) (by kernel_rfl) (by kernel_rfl) (fun _ _ _ h => h) (by rfl) (fun w' hS' => grow_value ?_ hS') ?_
        · go_simp
        try simp only [List.setIfInBounds_toArray, List.set_cons_zero, List.set_cons_succ]
        refine wpG_take (i := 3) (v := .int .i64 tk) rfl rfl (by kernel_rfl) (by kernel_rfl) (by kernel_rfl) (by kernel_rfl) (fun _ _ _ h => h) (by rfl) (fun w' hS' => grow_value ?_ hS') ?_
        · have ⟨s0, s1, s2⟩ := hSS.out _ hS'; go_simp
        try simp only [List.setIfInBounds_toArray, List.set_cons_zero, List.set_cons_succ]
        refine wpG_take (i := 4) (v := .slice (some ⟨bA, offA, none⟩) A.length ac8) rfl rfl (by kernel_rfl) (by kernel_rfl) (by kernel_rfl) (by kernel_rfl) (fun _ _ _ h => h) (by rfl) (fun w' hS' => grow_value ?_ hS') ?_
        · go_simp
        try simp only [List.setIfInBounds_toArray, List.set_cons_zero, List.set_cons_succ]
        refine wpG_take (i := 5) (v := .int .i64 k) rfl rfl (by kernel_rfl) (by kernel_rfl) (by kernel_rfl) (by kernel_rfl) (fun _ _ _ h => h) (by rfl) (fun w' hS' => grow_value ?_ hS') ?_
        · go_simp
        try simp only [List.setIfInBounds_toArray, List.set_cons_zero, List.set_cons_succ]
        refine wpG_take (i := 6) (v := .pointer (some ⟨bA, offA + k * 2, none⟩)) rfl rfl (by kernel_rfl) (by kernel_rfl) (by kernel_rfl) (by kernel_rfl) (fun _ _ _ h => h) (by rfl) (fun w' hS' => grow_value ?_ hS') ?_
        · go_simp
        try simp only [List.setIfInBounds_toArray, List.set_cons_zero, List.set_cons_succ]
        refine wpG_take (i := 7) (v := .agg #[.int .i64 rlo, .int .i64 rhi]) rfl rfl (by kernel_rfl) (by kernel_rfl) (by kernel_rfl) (by kernel_rfl) (fun _ _ _ h => h) (by rfl) (fun w' hS' => grow_value ?_ hS') ?_
        · have ⟨s0, s1, s2⟩ := hSS.out _ hS'; go_simp
        try simp only [List.setIfInBounds_toArray, List.set_cons_zero, List.set_cons_succ]
        refine wpG_take (i := 8) (v := .bool true) rfl rfl (by kernel_rfl) (by kernel_rfl) (by kernel_rfl) (by kernel_rfl) (fun _ _ _ h => h) (by rfl) (fun w' hS' => grow_make (f := 63) (args := #[.int .i64 tk, .agg #[.int .i64 rlo, .int .i64 rhi]]) ?_ hS' HG ?_) ?_
        · have ⟨s0, s1, s2⟩ := hSS.out _ hS'; go_simp
        · have ⟨s0, s1, s2⟩ := hSS.out _ hS'; exact in_true tk rlo rhi HIN _
        try simp only [List.setIfInBounds_toArray, List.set_cons_zero, List.set_cons_succ]
        refine wpG_take (i := 9) (v := .bool false) rfl rfl (by kernel_rfl) (by kernel_rfl) (by kernel_rfl) (by kernel_rfl) (fun _ _ _ h => h) (by rfl) (fun w' hS' => grow_value ?_ hS') ?_
        · go_simp
        try simp only [List.setIfInBounds_toArray, List.set_cons_zero, List.set_cons_succ]
        refine wpG_done (by kernel_rfl) (fun w16 hq hbx => ?_) _
        have HR16 := hid (below_after HRr.out hbx (Nat.le_refl _))
        clear hSS HG hq hbx
        go_wp2
        go_roundw
        case rel => exact ⟨k + 1, by omega, by go_num, HR16.out⟩
        case measure => simp [intOf]; omega
      · have HB16 := HBr
        obtain ⟨w16, hw16⟩ : ∃ w', w' = wr := ⟨_, rfl⟩
        have HB16 := hid (show Below W.heap.size W w16 by rw [hw16]; exact HBr.out)
        have HF16 := hid (show Below w3.heap.size w3 w16 by rw [hw16]; exact HFr.out)
        have HP16 := hid (show Below w6.heap.size w6 w16 by rw [hw16]; exact HPr.out)
        have HQ16 := hid (show Below w8.heap.size w8 w16 by rw [hw16]; exact HQr.out)
        have hs16 := HB16.out.size
        have zHF16 := HF16.out.size
        have zHP16 := HP16.out.size
        have zHQ16 := HQ16.out.size
        rw [← hw16]
        clear hw16 HBr HFr HPr HQr HRr hsr zHFr zHPr zHQr
        have hd1 : decide ((k : Int) < (A.length : Int)) = false := decide_eq_false (by omega)
        have hd2 : decide (k < A.length) = false := decide_eq_false hlt
        go_wp2
        go_loopw [22] (fun i wr => ∃ k : Nat, k ≤ B.length ∧ i = .int .i64 k ∧ Below w16.heap.size w16 wr) (fun i _ => B.length - (intOf i).toNat)
        case atStart => exact ⟨0, by omega, rfl, Below.refl _ _⟩
        case round =>
          clear hd1 hd2 hlt hk
          obtain ⟨k, hk, rfl, hbr⟩ := hrel
          have HBr := hid (below_after HB16.out hbr (Nat.le_refl _))
          have HFr := hid (below_after HF16.out hbr (Nat.le_refl _))
          have HPr := hid (below_after HP16.out hbr (Nat.le_refl _))
          have HQr := hid (below_after HQ16.out hbr (Nat.le_refl _))
          have HRr := hid hbr
          have hsr := HBr.out.size
          have zHFr := HFr.out.size
          have zHPr := HPr.out.size
          have zHQr := HQr.out.size
          have zHRr := HRr.out.size
          clear hbr
          by_cases hlt : k < B.length
          · have hltp : k < P.length := by have := HTI.out.lenP; have := HTI.out.lenB; omega
            rcases HBO.out with hnil | ⟨bB, offB, rfl, hbB, hcB⟩
            · rw [hnil] at hlt; simp at hlt
            rcases HPO.out with hnil | ⟨bP, offP, rfl, hbP, hcP⟩
            · rw [hnil] at hltp; simp at hltp
            obtain ⟨y0, y1⟩ := hcB k hlt
            have y2 := hcP k hltp
            have hbB' : bB < w8.heap.size := hbB
            have hbP' : bP < w6.heap.size := hbP
            have HIN := hid (HTI.out.inB k hlt hltp)
            obtain ⟨vd, hgv, hvd⟩ := HTI.out.graded k hltp
            have HGV := hid hgv
            have YY := hid (And.intro y0 (And.intro y1 y2))
            clear y0 y1 y2 hcB hcP hgv
            generalize B[k] = rr at *
            generalize P[k] = pk at *
            obtain ⟨rlo, rhi⟩ := rr
            have x0 := cell_of_row (HXB.out wr HFr.out) 0
            have x1 := cell_of_row (HXB.out wr HFr.out) 1
            have x2 := cell_of_row (HXB.out wr HFr.out) 2
            simp only [List.getElem?_toArray, List.getElem?_cons_zero, List.getElem?_cons_succ] at x0 x1 x2
            go_wp2_with fail
            refine (CellarL_any x _ w3.heap.size wr (by omega) (HXC.out wr HFr.out) HSX.out).mono ?_
            rintro e w20 ⟨v20, rfl, hc20, hb20⟩
            have HB20 := hid (below_after HBr.out hb20 (Nat.le_refl _))
            have hs20 := HB20.out.size
            have hd20 := hb20.size
            have HF20 := hid (below_after HFr.out hb20 (Nat.le_refl _))
            have zHF20 := HF20.out.size
            have HP20 := hid (below_after HPr.out hb20 (Nat.le_refl _))
            have zHP20 := HP20.out.size
            have HQ20 := hid (below_after HQr.out hb20 (Nat.le_refl _))
            have zHQ20 := HQ20.out.size
            have HR20 := hid (below_after HRr.out hb20 (Nat.le_refl _))
            have zHR20 := HR20.out.size
            clear hb20
            clear x0 x1 x2
            obtain ⟨_, _, _, _, _, _, rfl, -⟩ := id hc20.open
            go_wp2_with fail
            refine (HGV.out _ _ w20 (Nat.le_refl _) hc20).mono ?_
            rintro e w21 ⟨rfl, hb21⟩
            have HB21 := hid (below_after HB20.out hb21 (Nat.le_refl _))
            have hs21 := HB21.out.size
            have hd21 := hb21.size
            have HF21 := hid (below_after HF20.out hb21 (Nat.le_refl _))
            have zHF21 := HF21.out.size
            have HP21 := hid (below_after HP20.out hb21 (Nat.le_refl _))
            have zHP21 := HP21.out.size
            have HQ21 := hid (below_after HQ20.out hb21 (Nat.le_refl _))
            have zHQ21 := HQ21.out.size
            have HR21 := hid (below_after HR20.out hb21 (Nat.le_refl _))
            have zHR21 := HR21.out.size
            clear hb21
            clear hc20
            have z0 := (HQ21.out.cell (p := ⟨bB, offB + k * 2, none⟩) hbB').trans YY.out.1
            have z1 := (HQ21.out.cell (p := ⟨bB, offB + k * 2 + 1, none⟩) hbB').trans YY.out.2.1
            have z2 := (HP21.out.cell (p := ⟨bP, offP + k, none⟩) hbP').trans YY.out.2.2
            try simp only at z0 z1 HIN
            have hSS := hid (fun w' (h : Below w21.heap.size w21 w') => ⟨(h.cell (p := ⟨bB, offB + k * 2, none⟩) (by show bB < _; omega)).trans z0, (h.cell (p := ⟨bB, offB + k * 2 + 1, none⟩) (by show bB < _; omega)).trans z1, (h.cell (p := ⟨bP, offP + k, none⟩) (by show bP < _; omega)).trans z2⟩ :
              ∀ w', Below w21.heap.size w21 w' → w'.cell? ⟨bB, offB + k * 2, none⟩ = some (.int .i64 rlo) ∧ w'.cell? ⟨bB, offB + k * 2 + 1, none⟩ = some (.int .i64 rhi) ∧ w'.cell? ⟨bP, offP + k, none⟩ = some (.int .i64 pk))
            clear z0 z1 z2 YY
            rcases hvd with ⟨rfl, hge⟩ | ⟨rfl, hlt2⟩ | rfl
            · have hdg : decide (pk < gr % 101) = false := decide_eq_false (by omega)
              have HV13 := hid (show true = within 1 1 3 by decide)
              go_wp2
              refine wp_region_grow (by kernel_rfl) 99 (fun w' => Below w21.heap.size w21 w') ?_ ?_
              · exact (Below.refl _ _).drew
              have HG := fun (a b : World) (h : Below w21.heap.size w21 a) (k : Below a.heap.size a b) => (h.trans (k.mono h.size) : Below w21.heap.size w21 b)
              refine wpG_take (i := 0) (v := .slice (some ⟨bP, offP, none⟩) P.length pc6) rfl rfl (by kernel_rfl) (by kernel_rfl) (by kernel_rfl) (by kernel_rfl) (fun _ _ _ h => h) (by rfl) (fun w' hS' => grow_value ?_ hS') ?_
              · go_simp
              try simp only [List.setIfInBounds_toArray, List.set_cons_zero, List.set_cons_succ]
              refine wpG_take (i := 1) (v := .int .i64 k) rfl rfl (by kernel_rfl) (by kernel_rfl) (by kernel_rfl) (by kernel_rfl) (fun _ _ _ h => h) (by rfl) (fun w' hS' => grow_value ?_ hS') ?_
              · go_simp
              try simp only [List.setIfInBounds_toArray, List.set_cons_zero, List.set_cons_succ]
              refine wpG_take (i := 2) (v := .pointer (some ⟨bP, offP + k, none⟩)) rfl rfl (by kernel_rfl) (by kernel_rfl) (by kernel_rfl) (by kernel_rfl) (fun _ _ _ h => h) (by rfl) (fun w' hS' => grow_value ?_ hS') ?_
              · go_simp
              try simp only [List.setIfInBounds_toArray, List.set_cons_zero, List.set_cons_succ]
              refine wpG_take (i := 3) (v := .int .i64 pk) rfl rfl (by kernel_rfl) (by kernel_rfl) (by kernel_rfl) (by kernel_rfl) (fun _ _ _ h => h) (by rfl) (fun w' hS' => grow_value ?_ hS') ?_
              · have ⟨s0, s1, s2⟩ := hSS.out _ hS'; go_simp
              try simp only [List.setIfInBounds_toArray, List.set_cons_zero, List.set_cons_succ]
              refine wpG_take (i := 4) (v := .slice (some ⟨bB, offB, none⟩) B.length bc8) rfl rfl (by kernel_rfl) (by kernel_rfl) (by kernel_rfl) (by kernel_rfl) (fun _ _ _ h => h) (by rfl) (fun w' hS' => grow_value ?_ hS') ?_
              · go_simp
              try simp only [List.setIfInBounds_toArray, List.set_cons_zero, List.set_cons_succ]
              refine wpG_take (i := 5) (v := .int .i64 k) rfl rfl (by kernel_rfl) (by kernel_rfl) (by kernel_rfl) (by kernel_rfl) (fun _ _ _ h => h) (by rfl) (fun w' hS' => grow_value ?_ hS') ?_
              · go_simp
              try simp only [List.setIfInBounds_toArray, List.set_cons_zero, List.set_cons_succ]
              refine wpG_take (i := 6) (v := .pointer (some ⟨bB, offB + k * 2, none⟩)) rfl rfl (by kernel_rfl) (by kernel_rfl) (by kernel_rfl) (by kernel_rfl) (fun _ _ _ h => h) (by rfl) (fun w' hS' => grow_value ?_ hS') ?_
              · go_simp
              try simp only [List.setIfInBounds_toArray, List.set_cons_zero, List.set_cons_succ]
              refine wpG_take (i := 7) (v := .agg #[.int .i64 rlo, .int .i64 rhi]) rfl rfl (by kernel_rfl) (by kernel_rfl) (by kernel_rfl) (by kernel_rfl) (fun _ _ _ h => h) (by rfl) (fun w' hS' => grow_value ?_ hS') ?_
              · have ⟨s0, s1, s2⟩ := hSS.out _ hS'; go_simp
              try simp only [List.setIfInBounds_toArray, List.set_cons_zero, List.set_cons_succ]
              refine wpG_take (i := 8) (v := .bool true) rfl rfl (by kernel_rfl) (by kernel_rfl) (by kernel_rfl) (by kernel_rfl) (fun _ _ _ h => h) (by rfl) (fun w' hS' => grow_make (f := 63) (args := #[.int .i64 pk, .agg #[.int .i64 rlo, .int .i64 rhi]]) ?_ hS' HG ?_) ?_
              · have ⟨s0, s1, s2⟩ := hSS.out _ hS'; go_simp
              · have ⟨s0, s1, s2⟩ := hSS.out _ hS'; exact in_true pk rlo rhi HIN _
              try simp only [List.setIfInBounds_toArray, List.set_cons_zero, List.set_cons_succ]
              refine wpG_take (i := 9) (v := .bool false) rfl rfl (by kernel_rfl) (by kernel_rfl) (by kernel_rfl) (by kernel_rfl) (fun _ _ _ h => h) (by rfl) (fun w' hS' => grow_value ?_ hS') ?_
              · go_simp
              try simp only [List.setIfInBounds_toArray, List.set_cons_zero, List.set_cons_succ]
              refine wpG_take (i := 10) (v := .bool false) rfl rfl (by kernel_rfl) (by kernel_rfl) (by kernel_rfl) (by kernel_rfl) (fun _ _ _ h => h) (by rfl) (fun w' hS' => grow_value ?_ hS') ?_
              · go_simp
              try simp only [List.setIfInBounds_toArray, List.set_cons_zero, List.set_cons_succ]
              refine wpG_take (i := 11) (v := .int .i64 0) rfl rfl (by kernel_rfl) (by kernel_rfl) (by kernel_rfl) (by kernel_rfl) (fun _ _ _ h => h) (by rfl) (fun w' hS' => grow_value ?_ hS') ?_
              · go_simp
              try simp only [List.setIfInBounds_toArray, List.set_cons_zero, List.set_cons_succ]
              refine wpG_take (i := 12) (v := .bool false) rfl rfl (by kernel_rfl) (by kernel_rfl) (by kernel_rfl) (by kernel_rfl) (fun _ _ _ h => h) (by rfl) (fun w' hS' => grow_value ?_ hS') ?_
              · go_simp
              try simp only [List.setIfInBounds_toArray, List.set_cons_zero, List.set_cons_succ]
              refine wpG_take (i := 13) (v := .bool false) rfl rfl (by kernel_rfl) (by kernel_rfl) (by kernel_rfl) (by kernel_rfl) (fun _ _ _ h => h) (by rfl) (fun w' hS' => grow_value ?_ hS') ?_
              · go_simp
              try simp only [List.setIfInBounds_toArray, List.set_cons_zero, List.set_cons_succ]
              refine wpG_take (i := 14) (v := .bool false) rfl rfl (by kernel_rfl) (by kernel_rfl) (by kernel_rfl) (by kernel_rfl) (fun _ _ _ h => h) (by rfl) (fun w' hS' => grow_value ?_ hS') ?_
              · go_simp
              try simp only [List.setIfInBounds_toArray, List.set_cons_zero, List.set_cons_succ]
              refine wpG_take (i := 15) (v := .int .i64 1) rfl rfl (by kernel_rfl) (by kernel_rfl) (by kernel_rfl) (by kernel_rfl) (fun _ _ _ h => h) (by rfl) (fun w' hS' => grow_value ?_ hS') ?_
              · go_simp
              try simp only [List.setIfInBounds_toArray, List.set_cons_zero, List.set_cons_succ]
              refine wpG_take (i := 16) (v := .bool true) rfl rfl (by kernel_rfl) (by kernel_rfl) (by kernel_rfl) (by kernel_rfl) (fun _ _ _ h => h) (by rfl) (fun w' hS' => grow_keep (f := 26) (args := #[.int .i64 1, .int .i64 1, .int .i64 3]) ?_ hS' ?_) ?_
              · have ⟨s0, s1, s2⟩ := hSS.out _ hS'; go_simp
              · have ⟨s0, s1, s2⟩ := hSS.out _ hS'; exact inT_hid 1 1 3 HV13 _
              try simp only [List.setIfInBounds_toArray, List.set_cons_zero, List.set_cons_succ]
              refine wpG_take (i := 17) (v := .bool false) rfl rfl (by kernel_rfl) (by kernel_rfl) (by kernel_rfl) (by kernel_rfl) (fun _ _ _ h => h) (by rfl) (fun w' hS' => grow_value ?_ hS') ?_
              · go_simp
              try simp only [List.setIfInBounds_toArray, List.set_cons_zero, List.set_cons_succ]
              refine wpG_take (i := 18) (v := .bool false) rfl rfl (by kernel_rfl) (by kernel_rfl) (by kernel_rfl) (by kernel_rfl) (fun _ _ _ h => h) (by rfl) (fun w' hS' => grow_value ?_ hS') ?_
              · go_simp
              try simp only [List.setIfInBounds_toArray, List.set_cons_zero, List.set_cons_succ]
              refine wpG_take (i := 19) (v := .bool false) rfl rfl (by kernel_rfl) (by kernel_rfl) (by kernel_rfl) (by kernel_rfl) (fun _ _ _ h => h) (by rfl) (fun w' hS' => grow_value ?_ hS') ?_
              · go_simp
              try simp only [List.setIfInBounds_toArray, List.set_cons_zero, List.set_cons_succ]
              refine wpG_take (i := 20) (v := .int .i64 1) rfl rfl (by kernel_rfl) (by kernel_rfl) (by kernel_rfl) (by kernel_rfl) (fun _ _ _ h => h) (by rfl) (fun w' hS' => grow_value ?_ hS') ?_
              · go_simp
              try simp only [List.setIfInBounds_toArray, List.set_cons_zero, List.set_cons_succ]
              refine wpG_take (i := 21) (v := .bool true) rfl rfl (by kernel_rfl) (by kernel_rfl) (by kernel_rfl) (by kernel_rfl) (fun _ _ _ h => h) (by rfl) (fun w' hS' => grow_value ?_ hS') ?_
              · go_simp
              try simp only [List.setIfInBounds_toArray, List.set_cons_zero, List.set_cons_succ]
              refine wpG_take (i := 22) (v := .bool true) rfl rfl (by kernel_rfl) (by kernel_rfl) (by kernel_rfl) (by kernel_rfl) (fun _ _ _ h => h) (by rfl) (fun w' hS' => grow_value ?_ hS') ?_
              · go_simp
              try simp only [List.setIfInBounds_toArray, List.set_cons_zero, List.set_cons_succ]
              refine wpG_take (i := 23) (v := .slice (some ⟨bP, offP, none⟩) P.length pc6) rfl rfl (by kernel_rfl) (by kernel_rfl) (by kernel_rfl) (by kernel_rfl) (fun _ _ _ h => h) (by rfl) (fun w' hS' => grow_value ?_ hS') ?_
              · go_simp
              try simp only [List.setIfInBounds_toArray, List.set_cons_zero, List.set_cons_succ]
              refine wpG_take (i := 24) (v := .int .i64 k) rfl rfl (by kernel_rfl) (by kernel_rfl) (by kernel_rfl) (by kernel_rfl) (fun _ _ _ h => h) (by rfl) (fun w' hS' => grow_value ?_ hS') ?_
              · go_simp
              try simp only [List.setIfInBounds_toArray, List.set_cons_zero, List.set_cons_succ]
              refine wpG_take (i := 25) (v := .pointer (some ⟨bP, offP + k, none⟩)) rfl rfl (by kernel_rfl) (by kernel_rfl) (by kernel_rfl) (by kernel_rfl) (fun _ _ _ h => h) (by rfl) (fun w' hS' => grow_value ?_ hS') ?_
              · go_simp
              try simp only [List.setIfInBounds_toArray, List.set_cons_zero, List.set_cons_succ]
              refine wpG_take (i := 26) (v := .int .i64 pk) rfl rfl (by kernel_rfl) (by kernel_rfl) (by kernel_rfl) (by kernel_rfl) (fun _ _ _ h => h) (by rfl) (fun w' hS' => grow_value ?_ hS') ?_
              · have ⟨s0, s1, s2⟩ := hSS.out _ hS'; go_simp
              try simp only [List.setIfInBounds_toArray, List.set_cons_zero, List.set_cons_succ]
              refine wpG_take (i := 27) (v := .int .i64 (gr % 101)) rfl rfl (by kernel_rfl) (by kernel_rfl) (by kernel_rfl) (by kernel_rfl) (fun _ _ _ h => h) (by rfl) (fun w' hS' => grow_value ?_ hS') ?_
              · go_simp
              try simp only [List.setIfInBounds_toArray, List.set_cons_zero, List.set_cons_succ]
              refine wpG_take (i := 28) (v := .bool false) rfl rfl (by kernel_rfl) (by kernel_rfl) (by kernel_rfl) (by kernel_rfl) (fun _ _ _ h => h) (by rfl) (fun w' hS' => grow_value ?_ hS') ?_
              · go_simp
              try simp only [List.setIfInBounds_toArray, List.set_cons_zero, List.set_cons_succ]
              refine wpG_take (i := 29) (v := .bool false) rfl rfl (by kernel_rfl) (by kernel_rfl) (by kernel_rfl) (by kernel_rfl) (fun _ _ _ h => h) (by rfl) (fun w' hS' => grow_value ?_ hS') ?_
              · go_simp
              try simp only [List.setIfInBounds_toArray, List.set_cons_zero, List.set_cons_succ]
              refine wpG_take (i := 30) (v := .bool false) rfl rfl (by kernel_rfl) (by kernel_rfl) (by kernel_rfl) (by kernel_rfl) (fun _ _ _ h => h) (by rfl) (fun w' hS' => grow_value ?_ hS') ?_
              · go_simp
              try simp only [List.setIfInBounds_toArray, List.set_cons_zero, List.set_cons_succ]
              refine wpG_take (i := 31) (v := .bool false) rfl rfl (by kernel_rfl) (by kernel_rfl) (by kernel_rfl) (by kernel_rfl) (fun _ _ _ h => h) (by rfl) (fun w' hS' => grow_value ?_ hS') ?_
              · go_simp
              try simp only [List.setIfInBounds_toArray, List.set_cons_zero, List.set_cons_succ]
              refine wpG_take (i := 32) (v := .int .i64 1) rfl rfl (by kernel_rfl) (by kernel_rfl) (by kernel_rfl) (by kernel_rfl) (fun _ _ _ h => h) (by rfl) (fun w' hS' => grow_value ?_ hS') ?_
              · go_simp
              try simp only [List.setIfInBounds_toArray, List.set_cons_zero, List.set_cons_succ]
              refine wpG_take (i := 33) (v := .bool false) rfl rfl (by kernel_rfl) (by kernel_rfl) (by kernel_rfl) (by kernel_rfl) (fun _ _ _ h => h) (by rfl) (fun w' hS' => grow_value ?_ hS') ?_
              · go_simp
              try simp only [List.setIfInBounds_toArray, List.set_cons_zero, List.set_cons_succ]
              refine wpG_take (i := 34) (v := .bool false) rfl rfl (by kernel_rfl) (by kernel_rfl) (by kernel_rfl) (by kernel_rfl) (fun _ _ _ h => h) (by rfl) (fun w' hS' => grow_value ?_ hS') ?_
              · go_simp
              try simp only [List.setIfInBounds_toArray, List.set_cons_zero, List.set_cons_succ]
              refine wpG_skip (i := 35) rfl rfl (by kernel_rfl) (by kernel_rfl) (by kernel_rfl) (by kernel_rfl) (fun _ _ _ h => h) (by rfl) ?_
              try simp only [List.setIfInBounds_toArray, List.set_cons_zero, List.set_cons_succ]
              refine wpG_skip (i := 36) rfl rfl (by kernel_rfl) (by kernel_rfl) (by kernel_rfl) (by kernel_rfl) (fun _ _ _ h => h) (by rfl) ?_
              try simp only [List.setIfInBounds_toArray, List.set_cons_zero, List.set_cons_succ]
              refine wpG_skip (i := 37) rfl rfl (by kernel_rfl) (by kernel_rfl) (by kernel_rfl) (by kernel_rfl) (fun _ _ _ h => h) (by rfl) ?_
              try simp only [List.setIfInBounds_toArray, List.set_cons_zero, List.set_cons_succ]
              refine wpG_skip (i := 38) rfl rfl (by kernel_rfl) (by kernel_rfl) (by kernel_rfl) (by kernel_rfl) (fun _ _ _ h => h) (by rfl) ?_
              try simp only [List.setIfInBounds_toArray, List.set_cons_zero, List.set_cons_succ]
              refine wpG_skip (i := 39) rfl rfl (by kernel_rfl) (by kernel_rfl) (by kernel_rfl) (by kernel_rfl) (fun _ _ _ h => h) (by rfl) ?_
              try simp only [List.setIfInBounds_toArray, List.set_cons_zero, List.set_cons_succ]
              refine wpG_skip (i := 40) rfl rfl (by kernel_rfl) (by kernel_rfl) (by kernel_rfl) (by kernel_rfl) (fun _ _ _ h => h) (by rfl) ?_
              try simp only [List.setIfInBounds_toArray, List.set_cons_zero, List.set_cons_succ]
              refine wpG_take (i := 41) (v := .bool false) rfl rfl (by kernel_rfl) (by kernel_rfl) (by kernel_rfl) (by kernel_rfl) (fun _ _ _ h => h) (by rfl) (fun w' hS' => grow_value ?_ hS') ?_
              · go_simp
              try simp only [List.setIfInBounds_toArray, List.set_cons_zero, List.set_cons_succ]
              refine wpG_take (i := 42) (v := .bool false) rfl rfl (by kernel_rfl) (by kernel_rfl) (by kernel_rfl) (by kernel_rfl) (fun _ _ _ h => h) (by rfl) (fun w' hS' => grow_value ?_ hS') ?_
              · go_simp
              try simp only [List.setIfInBounds_toArray, List.set_cons_zero, List.set_cons_succ]
              refine wpG_done (by kernel_rfl) (fun w22 hq hbx => ?_) _
              have HR22 := hid (below_after HR21.out hbx (Nat.le_refl _))
              clear hSS HG hq hbx
              go_wp2
              go_roundw
              case rel => exact ⟨k + 1, by omega, by go_num, HR22.out⟩
              case measure => simp [intOf]; omega
            · have hdg : decide (gr % 101 ≤ pk) = false := decide_eq_false (by omega)
              have HV13 := hid (show true = within 2 1 3 by decide)
              go_wp2
              refine wp_region_grow (by kernel_rfl) 99 (fun w' => Below w21.heap.size w21 w') ?_ ?_
              · exact (Below.refl _ _).drew
              have HG := fun (a b : World) (h : Below w21.heap.size w21 a) (k : Below a.heap.size a b) => (h.trans (k.mono h.size) : Below w21.heap.size w21 b)
              refine wpG_take (i := 0) (v := .slice (some ⟨bP, offP, none⟩) P.length pc6) rfl rfl (by kernel_rfl) (by kernel_rfl) (by kernel_rfl) (by kernel_rfl) (fun _ _ _ h => h) (by rfl) (fun w' hS' => grow_value ?_ hS') ?_
              · go_simp
              try simp only [List.setIfInBounds_toArray, List.set_cons_zero, List.set_cons_succ]
              refine wpG_take (i := 1) (v := .int .i64 k) rfl rfl (by kernel_rfl) (by kernel_rfl) (by kernel_rfl) (by kernel_rfl) (fun _ _ _ h => h) (by rfl) (fun w' hS' => grow_value ?_ hS') ?_
              · go_simp
              try simp only [List.setIfInBounds_toArray, List.set_cons_zero, List.set_cons_succ]
              refine wpG_take (i := 2) (v := .pointer (some ⟨bP, offP + k, none⟩)) rfl rfl (by kernel_rfl) (by kernel_rfl) (by kernel_rfl) (by kernel_rfl) (fun _ _ _ h => h) (by rfl) (fun w' hS' => grow_value ?_ hS') ?_
              · go_simp
              try simp only [List.setIfInBounds_toArray, List.set_cons_zero, List.set_cons_succ]
              refine wpG_take (i := 3) (v := .int .i64 pk) rfl rfl (by kernel_rfl) (by kernel_rfl) (by kernel_rfl) (by kernel_rfl) (fun _ _ _ h => h) (by rfl) (fun w' hS' => grow_value ?_ hS') ?_
              · have ⟨s0, s1, s2⟩ := hSS.out _ hS'; go_simp
              try simp only [List.setIfInBounds_toArray, List.set_cons_zero, List.set_cons_succ]
              refine wpG_take (i := 4) (v := .slice (some ⟨bB, offB, none⟩) B.length bc8) rfl rfl (by kernel_rfl) (by kernel_rfl) (by kernel_rfl) (by kernel_rfl) (fun _ _ _ h => h) (by rfl) (fun w' hS' => grow_value ?_ hS') ?_
              · go_simp
              try simp only [List.setIfInBounds_toArray, List.set_cons_zero, List.set_cons_succ]
              refine wpG_take (i := 5) (v := .int .i64 k) rfl rfl (by kernel_rfl) (by kernel_rfl) (by kernel_rfl) (by kernel_rfl) (fun _ _ _ h => h) (by rfl) (fun w' hS' => grow_value ?_ hS') ?_
              · go_simp
              try simp only [List.setIfInBounds_toArray, List.set_cons_zero, List.set_cons_succ]
              refine wpG_take (i := 6) (v := .pointer (some ⟨bB, offB + k * 2, none⟩)) rfl rfl (by kernel_rfl) (by kernel_rfl) (by kernel_rfl) (by kernel_rfl) (fun _ _ _ h => h) (by rfl) (fun w' hS' => grow_value ?_ hS') ?_
              · go_simp
              try simp only [List.setIfInBounds_toArray, List.set_cons_zero, List.set_cons_succ]
              refine wpG_take (i := 7) (v := .agg #[.int .i64 rlo, .int .i64 rhi]) rfl rfl (by kernel_rfl) (by kernel_rfl) (by kernel_rfl) (by kernel_rfl) (fun _ _ _ h => h) (by rfl) (fun w' hS' => grow_value ?_ hS') ?_
              · have ⟨s0, s1, s2⟩ := hSS.out _ hS'; go_simp
              try simp only [List.setIfInBounds_toArray, List.set_cons_zero, List.set_cons_succ]
              refine wpG_take (i := 8) (v := .bool true) rfl rfl (by kernel_rfl) (by kernel_rfl) (by kernel_rfl) (by kernel_rfl) (fun _ _ _ h => h) (by rfl) (fun w' hS' => grow_make (f := 63) (args := #[.int .i64 pk, .agg #[.int .i64 rlo, .int .i64 rhi]]) ?_ hS' HG ?_) ?_
              · have ⟨s0, s1, s2⟩ := hSS.out _ hS'; go_simp
              · have ⟨s0, s1, s2⟩ := hSS.out _ hS'; exact in_true pk rlo rhi HIN _
              try simp only [List.setIfInBounds_toArray, List.set_cons_zero, List.set_cons_succ]
              refine wpG_take (i := 9) (v := .bool false) rfl rfl (by kernel_rfl) (by kernel_rfl) (by kernel_rfl) (by kernel_rfl) (fun _ _ _ h => h) (by rfl) (fun w' hS' => grow_value ?_ hS') ?_
              · go_simp
              try simp only [List.setIfInBounds_toArray, List.set_cons_zero, List.set_cons_succ]
              refine wpG_take (i := 10) (v := .bool false) rfl rfl (by kernel_rfl) (by kernel_rfl) (by kernel_rfl) (by kernel_rfl) (fun _ _ _ h => h) (by rfl) (fun w' hS' => grow_value ?_ hS') ?_
              · go_simp
              try simp only [List.setIfInBounds_toArray, List.set_cons_zero, List.set_cons_succ]
              refine wpG_take (i := 11) (v := .int .i64 0) rfl rfl (by kernel_rfl) (by kernel_rfl) (by kernel_rfl) (by kernel_rfl) (fun _ _ _ h => h) (by rfl) (fun w' hS' => grow_value ?_ hS') ?_
              · go_simp
              try simp only [List.setIfInBounds_toArray, List.set_cons_zero, List.set_cons_succ]
              refine wpG_take (i := 12) (v := .bool false) rfl rfl (by kernel_rfl) (by kernel_rfl) (by kernel_rfl) (by kernel_rfl) (fun _ _ _ h => h) (by rfl) (fun w' hS' => grow_value ?_ hS') ?_
              · go_simp
              try simp only [List.setIfInBounds_toArray, List.set_cons_zero, List.set_cons_succ]
              refine wpG_take (i := 13) (v := .bool false) rfl rfl (by kernel_rfl) (by kernel_rfl) (by kernel_rfl) (by kernel_rfl) (fun _ _ _ h => h) (by rfl) (fun w' hS' => grow_value ?_ hS') ?_
              · go_simp
              try simp only [List.setIfInBounds_toArray, List.set_cons_zero, List.set_cons_succ]
              refine wpG_take (i := 14) (v := .bool false) rfl rfl (by kernel_rfl) (by kernel_rfl) (by kernel_rfl) (by kernel_rfl) (fun _ _ _ h => h) (by rfl) (fun w' hS' => grow_value ?_ hS') ?_
              · go_simp
              try simp only [List.setIfInBounds_toArray, List.set_cons_zero, List.set_cons_succ]
              refine wpG_take (i := 15) (v := .int .i64 2) rfl rfl (by kernel_rfl) (by kernel_rfl) (by kernel_rfl) (by kernel_rfl) (fun _ _ _ h => h) (by rfl) (fun w' hS' => grow_value ?_ hS') ?_
              · go_simp
              try simp only [List.setIfInBounds_toArray, List.set_cons_zero, List.set_cons_succ]
              refine wpG_take (i := 16) (v := .bool true) rfl rfl (by kernel_rfl) (by kernel_rfl) (by kernel_rfl) (by kernel_rfl) (fun _ _ _ h => h) (by rfl) (fun w' hS' => grow_keep (f := 26) (args := #[.int .i64 2, .int .i64 1, .int .i64 3]) ?_ hS' ?_) ?_
              · have ⟨s0, s1, s2⟩ := hSS.out _ hS'; go_simp
              · have ⟨s0, s1, s2⟩ := hSS.out _ hS'; exact inT_hid 2 1 3 HV13 _
              try simp only [List.setIfInBounds_toArray, List.set_cons_zero, List.set_cons_succ]
              refine wpG_take (i := 17) (v := .bool false) rfl rfl (by kernel_rfl) (by kernel_rfl) (by kernel_rfl) (by kernel_rfl) (fun _ _ _ h => h) (by rfl) (fun w' hS' => grow_value ?_ hS') ?_
              · go_simp
              try simp only [List.setIfInBounds_toArray, List.set_cons_zero, List.set_cons_succ]
              refine wpG_take (i := 18) (v := .bool false) rfl rfl (by kernel_rfl) (by kernel_rfl) (by kernel_rfl) (by kernel_rfl) (fun _ _ _ h => h) (by rfl) (fun w' hS' => grow_value ?_ hS') ?_
              · go_simp
              try simp only [List.setIfInBounds_toArray, List.set_cons_zero, List.set_cons_succ]
              refine wpG_take (i := 19) (v := .bool false) rfl rfl (by kernel_rfl) (by kernel_rfl) (by kernel_rfl) (by kernel_rfl) (fun _ _ _ h => h) (by rfl) (fun w' hS' => grow_value ?_ hS') ?_
              · go_simp
              try simp only [List.setIfInBounds_toArray, List.set_cons_zero, List.set_cons_succ]
              refine wpG_take (i := 20) (v := .int .i64 2) rfl rfl (by kernel_rfl) (by kernel_rfl) (by kernel_rfl) (by kernel_rfl) (fun _ _ _ h => h) (by rfl) (fun w' hS' => grow_value ?_ hS') ?_
              · go_simp
              try simp only [List.setIfInBounds_toArray, List.set_cons_zero, List.set_cons_succ]
              refine wpG_take (i := 21) (v := .bool false) rfl rfl (by kernel_rfl) (by kernel_rfl) (by kernel_rfl) (by kernel_rfl) (fun _ _ _ h => h) (by rfl) (fun w' hS' => grow_value ?_ hS') ?_
              · go_simp
              try simp only [List.setIfInBounds_toArray, List.set_cons_zero, List.set_cons_succ]
              refine wpG_take (i := 22) (v := .bool false) rfl rfl (by kernel_rfl) (by kernel_rfl) (by kernel_rfl) (by kernel_rfl) (fun _ _ _ h => h) (by rfl) (fun w' hS' => grow_value ?_ hS') ?_
              · go_simp
              try simp only [List.setIfInBounds_toArray, List.set_cons_zero, List.set_cons_succ]
              refine wpG_skip (i := 23) rfl rfl (by kernel_rfl) (by kernel_rfl) (by kernel_rfl) (by kernel_rfl) (fun _ _ _ h => h) (by rfl) ?_
              try simp only [List.setIfInBounds_toArray, List.set_cons_zero, List.set_cons_succ]
              refine wpG_skip (i := 24) rfl rfl (by kernel_rfl) (by kernel_rfl) (by kernel_rfl) (by kernel_rfl) (fun _ _ _ h => h) (by rfl) ?_
              try simp only [List.setIfInBounds_toArray, List.set_cons_zero, List.set_cons_succ]
              refine wpG_skip (i := 25) rfl rfl (by kernel_rfl) (by kernel_rfl) (by kernel_rfl) (by kernel_rfl) (fun _ _ _ h => h) (by rfl) ?_
              try simp only [List.setIfInBounds_toArray, List.set_cons_zero, List.set_cons_succ]
              refine wpG_skip (i := 26) rfl rfl (by kernel_rfl) (by kernel_rfl) (by kernel_rfl) (by kernel_rfl) (fun _ _ _ h => h) (by rfl) ?_
              try simp only [List.setIfInBounds_toArray, List.set_cons_zero, List.set_cons_succ]
              refine wpG_skip (i := 27) rfl rfl (by kernel_rfl) (by kernel_rfl) (by kernel_rfl) (by kernel_rfl) (fun _ _ _ h => h) (by rfl) ?_
              try simp only [List.setIfInBounds_toArray, List.set_cons_zero, List.set_cons_succ]
              refine wpG_skip (i := 28) rfl rfl (by kernel_rfl) (by kernel_rfl) (by kernel_rfl) (by kernel_rfl) (fun _ _ _ h => h) (by rfl) ?_
              try simp only [List.setIfInBounds_toArray, List.set_cons_zero, List.set_cons_succ]
              refine wpG_take (i := 29) (v := .bool false) rfl rfl (by kernel_rfl) (by kernel_rfl) (by kernel_rfl) (by kernel_rfl) (fun _ _ _ h => h) (by rfl) (fun w' hS' => grow_value ?_ hS') ?_
              · go_simp
              try simp only [List.setIfInBounds_toArray, List.set_cons_zero, List.set_cons_succ]
              refine wpG_take (i := 30) (v := .bool false) rfl rfl (by kernel_rfl) (by kernel_rfl) (by kernel_rfl) (by kernel_rfl) (fun _ _ _ h => h) (by rfl) (fun w' hS' => grow_value ?_ hS') ?_
              · go_simp
              try simp only [List.setIfInBounds_toArray, List.set_cons_zero, List.set_cons_succ]
              refine wpG_take (i := 31) (v := .bool false) rfl rfl (by kernel_rfl) (by kernel_rfl) (by kernel_rfl) (by kernel_rfl) (fun _ _ _ h => h) (by rfl) (fun w' hS' => grow_value ?_ hS') ?_
              · go_simp
              try simp only [List.setIfInBounds_toArray, List.set_cons_zero, List.set_cons_succ]
              refine wpG_take (i := 32) (v := .int .i64 2) rfl rfl (by kernel_rfl) (by kernel_rfl) (by kernel_rfl) (by kernel_rfl) (fun _ _ _ h => h) (by rfl) (fun w' hS' => grow_value ?_ hS') ?_
              · go_simp
              try simp only [List.setIfInBounds_toArray, List.set_cons_zero, List.set_cons_succ]
              refine wpG_take (i := 33) (v := .bool true) rfl rfl (by kernel_rfl) (by kernel_rfl) (by kernel_rfl) (by kernel_rfl) (fun _ _ _ h => h) (by rfl) (fun w' hS' => grow_value ?_ hS') ?_
              · go_simp
              try simp only [List.setIfInBounds_toArray, List.set_cons_zero, List.set_cons_succ]
              refine wpG_take (i := 34) (v := .bool true) rfl rfl (by kernel_rfl) (by kernel_rfl) (by kernel_rfl) (by kernel_rfl) (fun _ _ _ h => h) (by rfl) (fun w' hS' => grow_value ?_ hS') ?_
              · go_simp
              try simp only [List.setIfInBounds_toArray, List.set_cons_zero, List.set_cons_succ]
              refine wpG_take (i := 35) (v := .slice (some ⟨bP, offP, none⟩) P.length pc6) rfl rfl (by kernel_rfl) (by kernel_rfl) (by kernel_rfl) (by kernel_rfl) (fun _ _ _ h => h) (by rfl) (fun w' hS' => grow_value ?_ hS') ?_
              · go_simp
              try simp only [List.setIfInBounds_toArray, List.set_cons_zero, List.set_cons_succ]
              refine wpG_take (i := 36) (v := .int .i64 k) rfl rfl (by kernel_rfl) (by kernel_rfl) (by kernel_rfl) (by kernel_rfl) (fun _ _ _ h => h) (by rfl) (fun w' hS' => grow_value ?_ hS') ?_
              · go_simp
              try simp only [List.setIfInBounds_toArray, List.set_cons_zero, List.set_cons_succ]
              refine wpG_take (i := 37) (v := .pointer (some ⟨bP, offP + k, none⟩)) rfl rfl (by kernel_rfl) (by kernel_rfl) (by kernel_rfl) (by kernel_rfl) (fun _ _ _ h => h) (by rfl) (fun w' hS' => grow_value ?_ hS') ?_
              · go_simp
              try simp only [List.setIfInBounds_toArray, List.set_cons_zero, List.set_cons_succ]
              refine wpG_take (i := 38) (v := .int .i64 pk) rfl rfl (by kernel_rfl) (by kernel_rfl) (by kernel_rfl) (by kernel_rfl) (fun _ _ _ h => h) (by rfl) (fun w' hS' => grow_value ?_ hS') ?_
              · have ⟨s0, s1, s2⟩ := hSS.out _ hS'; go_simp
              try simp only [List.setIfInBounds_toArray, List.set_cons_zero, List.set_cons_succ]
              refine wpG_take (i := 39) (v := .int .i64 (gr % 101)) rfl rfl (by kernel_rfl) (by kernel_rfl) (by kernel_rfl) (by kernel_rfl) (fun _ _ _ h => h) (by rfl) (fun w' hS' => grow_value ?_ hS') ?_
              · go_simp
              try simp only [List.setIfInBounds_toArray, List.set_cons_zero, List.set_cons_succ]
              refine wpG_take (i := 40) (v := .bool false) rfl rfl (by kernel_rfl) (by kernel_rfl) (by kernel_rfl) (by kernel_rfl) (fun _ _ _ h => h) (by rfl) (fun w' hS' => grow_value ?_ hS') ?_
              · go_simp
              try simp only [List.setIfInBounds_toArray, List.set_cons_zero, List.set_cons_succ]
              refine wpG_take (i := 41) (v := .bool false) rfl rfl (by kernel_rfl) (by kernel_rfl) (by kernel_rfl) (by kernel_rfl) (fun _ _ _ h => h) (by rfl) (fun w' hS' => grow_value ?_ hS') ?_
              · go_simp
              try simp only [List.setIfInBounds_toArray, List.set_cons_zero, List.set_cons_succ]
              refine wpG_take (i := 42) (v := .bool false) rfl rfl (by kernel_rfl) (by kernel_rfl) (by kernel_rfl) (by kernel_rfl) (fun _ _ _ h => h) (by rfl) (fun w' hS' => grow_value ?_ hS') ?_
              · go_simp
              try simp only [List.setIfInBounds_toArray, List.set_cons_zero, List.set_cons_succ]
              refine wpG_done (by kernel_rfl) (fun w22 hq hbx => ?_) _
              have HR22 := hid (below_after HR21.out hbx (Nat.le_refl _))
              clear hSS HG hq hbx
              go_wp2
              go_roundw
              case rel => exact ⟨k + 1, by omega, by go_num, HR22.out⟩
              case measure => simp [intOf]; omega
            · skip
              have HV13 := hid (show true = within 3 1 3 by decide)
              go_wp2
              refine wp_region_grow (by kernel_rfl) 99 (fun w' => Below w21.heap.size w21 w') ?_ ?_
              · exact (Below.refl _ _).drew
              have HG := fun (a b : World) (h : Below w21.heap.size w21 a) (k : Below a.heap.size a b) => (h.trans (k.mono h.size) : Below w21.heap.size w21 b)
              refine wpG_take (i := 0) (v := .slice (some ⟨bP, offP, none⟩) P.length pc6) rfl rfl (by kernel_rfl) (by kernel_rfl) (by kernel_rfl) (by kernel_rfl) (fun _ _ _ h => h) (by rfl) (fun w' hS' => grow_value ?_ hS') ?_
              · go_simp
              try simp only [List.setIfInBounds_toArray, List.set_cons_zero, List.set_cons_succ]
              refine wpG_take (i := 1) (v := .int .i64 k) rfl rfl (by kernel_rfl) (by kernel_rfl) (by kernel_rfl) (by kernel_rfl) (fun _ _ _ h => h) (by rfl) (fun w' hS' => grow_value ?_ hS') ?_
              · go_simp
              try simp only [List.setIfInBounds_toArray, List.set_cons_zero, List.set_cons_succ]
              refine wpG_take (i := 2) (v := .pointer (some ⟨bP, offP + k, none⟩)) rfl rfl (by kernel_rfl) (by kernel_rfl) (by kernel_rfl) (by kernel_rfl) (fun _ _ _ h => h) (by rfl) (fun w' hS' => grow_value ?_ hS') ?_
              · go_simp
              try simp only [List.setIfInBounds_toArray, List.set_cons_zero, List.set_cons_succ]
              refine wpG_take (i := 3) (v := .int .i64 pk) rfl rfl (by kernel_rfl) (by kernel_rfl) (by kernel_rfl) (by kernel_rfl) (fun _ _ _ h => h) (by rfl) (fun w' hS' => grow_value ?_ hS') ?_
              · have ⟨s0, s1, s2⟩ := hSS.out _ hS'; go_simp
              try simp only [List.setIfInBounds_toArray, List.set_cons_zero, List.set_cons_succ]
              refine wpG_take (i := 4) (v := .slice (some ⟨bB, offB, none⟩) B.length bc8) rfl rfl (by kernel_rfl) (by kernel_rfl) (by kernel_rfl) (by kernel_rfl) (fun _ _ _ h => h) (by rfl) (fun w' hS' => grow_value ?_ hS') ?_
              · go_simp
              try simp only [List.setIfInBounds_toArray, List.set_cons_zero, List.set_cons_succ]
              refine wpG_take (i := 5) (v := .int .i64 k) rfl rfl (by kernel_rfl) (by kernel_rfl) (by kernel_rfl) (by kernel_rfl) (fun _ _ _ h => h) (by rfl) (fun w' hS' => grow_value ?_ hS') ?_
              · go_simp
              try simp only [List.setIfInBounds_toArray, List.set_cons_zero, List.set_cons_succ]
              refine wpG_take (i := 6) (v := .pointer (some ⟨bB, offB + k * 2, none⟩)) rfl rfl (by kernel_rfl) (by kernel_rfl) (by kernel_rfl) (by kernel_rfl) (fun _ _ _ h => h) (by rfl) (fun w' hS' => grow_value ?_ hS') ?_
              · go_simp
              try simp only [List.setIfInBounds_toArray, List.set_cons_zero, List.set_cons_succ]
              refine wpG_take (i := 7) (v := .agg #[.int .i64 rlo, .int .i64 rhi]) rfl rfl (by kernel_rfl) (by kernel_rfl) (by kernel_rfl) (by kernel_rfl) (fun _ _ _ h => h) (by rfl) (fun w' hS' => grow_value ?_ hS') ?_
              · have ⟨s0, s1, s2⟩ := hSS.out _ hS'; go_simp
              try simp only [List.setIfInBounds_toArray, List.set_cons_zero, List.set_cons_succ]
              refine wpG_take (i := 8) (v := .bool true) rfl rfl (by kernel_rfl) (by kernel_rfl) (by kernel_rfl) (by kernel_rfl) (fun _ _ _ h => h) (by rfl) (fun w' hS' => grow_make (f := 63) (args := #[.int .i64 pk, .agg #[.int .i64 rlo, .int .i64 rhi]]) ?_ hS' HG ?_) ?_
              · have ⟨s0, s1, s2⟩ := hSS.out _ hS'; go_simp
              · have ⟨s0, s1, s2⟩ := hSS.out _ hS'; exact in_true pk rlo rhi HIN _
              try simp only [List.setIfInBounds_toArray, List.set_cons_zero, List.set_cons_succ]
              refine wpG_take (i := 9) (v := .bool false) rfl rfl (by kernel_rfl) (by kernel_rfl) (by kernel_rfl) (by kernel_rfl) (fun _ _ _ h => h) (by rfl) (fun w' hS' => grow_value ?_ hS') ?_
              · go_simp
              try simp only [List.setIfInBounds_toArray, List.set_cons_zero, List.set_cons_succ]
              refine wpG_take (i := 10) (v := .bool false) rfl rfl (by kernel_rfl) (by kernel_rfl) (by kernel_rfl) (by kernel_rfl) (fun _ _ _ h => h) (by rfl) (fun w' hS' => grow_value ?_ hS') ?_
              · go_simp
              try simp only [List.setIfInBounds_toArray, List.set_cons_zero, List.set_cons_succ]
              refine wpG_take (i := 11) (v := .int .i64 0) rfl rfl (by kernel_rfl) (by kernel_rfl) (by kernel_rfl) (by kernel_rfl) (fun _ _ _ h => h) (by rfl) (fun w' hS' => grow_value ?_ hS') ?_
              · go_simp
              try simp only [List.setIfInBounds_toArray, List.set_cons_zero, List.set_cons_succ]
              refine wpG_take (i := 12) (v := .bool false) rfl rfl (by kernel_rfl) (by kernel_rfl) (by kernel_rfl) (by kernel_rfl) (fun _ _ _ h => h) (by rfl) (fun w' hS' => grow_value ?_ hS') ?_
              · go_simp
              try simp only [List.setIfInBounds_toArray, List.set_cons_zero, List.set_cons_succ]
              refine wpG_take (i := 13) (v := .bool false) rfl rfl (by kernel_rfl) (by kernel_rfl) (by kernel_rfl) (by kernel_rfl) (fun _ _ _ h => h) (by rfl) (fun w' hS' => grow_value ?_ hS') ?_
              · go_simp
              try simp only [List.setIfInBounds_toArray, List.set_cons_zero, List.set_cons_succ]
              refine wpG_take (i := 14) (v := .bool false) rfl rfl (by kernel_rfl) (by kernel_rfl) (by kernel_rfl) (by kernel_rfl) (fun _ _ _ h => h) (by rfl) (fun w' hS' => grow_value ?_ hS') ?_
              · go_simp
              try simp only [List.setIfInBounds_toArray, List.set_cons_zero, List.set_cons_succ]
              refine wpG_take (i := 15) (v := .int .i64 3) rfl rfl (by kernel_rfl) (by kernel_rfl) (by kernel_rfl) (by kernel_rfl) (fun _ _ _ h => h) (by rfl) (fun w' hS' => grow_value ?_ hS') ?_
              · go_simp
              try simp only [List.setIfInBounds_toArray, List.set_cons_zero, List.set_cons_succ]
              refine wpG_take (i := 16) (v := .bool true) rfl rfl (by kernel_rfl) (by kernel_rfl) (by kernel_rfl) (by kernel_rfl) (fun _ _ _ h => h) (by rfl) (fun w' hS' => grow_keep (f := 26) (args := #[.int .i64 3, .int .i64 1, .int .i64 3]) ?_ hS' ?_) ?_
              · have ⟨s0, s1, s2⟩ := hSS.out _ hS'; go_simp
              · have ⟨s0, s1, s2⟩ := hSS.out _ hS'; exact inT_hid 3 1 3 HV13 _
              try simp only [List.setIfInBounds_toArray, List.set_cons_zero, List.set_cons_succ]
              refine wpG_take (i := 17) (v := .bool false) rfl rfl (by kernel_rfl) (by kernel_rfl) (by kernel_rfl) (by kernel_rfl) (fun _ _ _ h => h) (by rfl) (fun w' hS' => grow_value ?_ hS') ?_
              · go_simp
              try simp only [List.setIfInBounds_toArray, List.set_cons_zero, List.set_cons_succ]
              refine wpG_take (i := 18) (v := .bool false) rfl rfl (by kernel_rfl) (by kernel_rfl) (by kernel_rfl) (by kernel_rfl) (fun _ _ _ h => h) (by rfl) (fun w' hS' => grow_value ?_ hS') ?_
              · go_simp
              try simp only [List.setIfInBounds_toArray, List.set_cons_zero, List.set_cons_succ]
              refine wpG_take (i := 19) (v := .bool false) rfl rfl (by kernel_rfl) (by kernel_rfl) (by kernel_rfl) (by kernel_rfl) (fun _ _ _ h => h) (by rfl) (fun w' hS' => grow_value ?_ hS') ?_
              · go_simp
              try simp only [List.setIfInBounds_toArray, List.set_cons_zero, List.set_cons_succ]
              refine wpG_take (i := 20) (v := .int .i64 3) rfl rfl (by kernel_rfl) (by kernel_rfl) (by kernel_rfl) (by kernel_rfl) (fun _ _ _ h => h) (by rfl) (fun w' hS' => grow_value ?_ hS') ?_
              · go_simp
              try simp only [List.setIfInBounds_toArray, List.set_cons_zero, List.set_cons_succ]
              refine wpG_take (i := 21) (v := .bool false) rfl rfl (by kernel_rfl) (by kernel_rfl) (by kernel_rfl) (by kernel_rfl) (fun _ _ _ h => h) (by rfl) (fun w' hS' => grow_value ?_ hS') ?_
              · go_simp
              try simp only [List.setIfInBounds_toArray, List.set_cons_zero, List.set_cons_succ]
              refine wpG_take (i := 22) (v := .bool false) rfl rfl (by kernel_rfl) (by kernel_rfl) (by kernel_rfl) (by kernel_rfl) (fun _ _ _ h => h) (by rfl) (fun w' hS' => grow_value ?_ hS') ?_
              · go_simp
              try simp only [List.setIfInBounds_toArray, List.set_cons_zero, List.set_cons_succ]
              refine wpG_skip (i := 23) rfl rfl (by kernel_rfl) (by kernel_rfl) (by kernel_rfl) (by kernel_rfl) (fun _ _ _ h => h) (by rfl) ?_
              try simp only [List.setIfInBounds_toArray, List.set_cons_zero, List.set_cons_succ]
              refine wpG_skip (i := 24) rfl rfl (by kernel_rfl) (by kernel_rfl) (by kernel_rfl) (by kernel_rfl) (fun _ _ _ h => h) (by rfl) ?_
              try simp only [List.setIfInBounds_toArray, List.set_cons_zero, List.set_cons_succ]
              refine wpG_skip (i := 25) rfl rfl (by kernel_rfl) (by kernel_rfl) (by kernel_rfl) (by kernel_rfl) (fun _ _ _ h => h) (by rfl) ?_
              try simp only [List.setIfInBounds_toArray, List.set_cons_zero, List.set_cons_succ]
              refine wpG_skip (i := 26) rfl rfl (by kernel_rfl) (by kernel_rfl) (by kernel_rfl) (by kernel_rfl) (fun _ _ _ h => h) (by rfl) ?_
              try simp only [List.setIfInBounds_toArray, List.set_cons_zero, List.set_cons_succ]
              refine wpG_skip (i := 27) rfl rfl (by kernel_rfl) (by kernel_rfl) (by kernel_rfl) (by kernel_rfl) (fun _ _ _ h => h) (by rfl) ?_
              try simp only [List.setIfInBounds_toArray, List.set_cons_zero, List.set_cons_succ]
              refine wpG_skip (i := 28) rfl rfl (by kernel_rfl) (by kernel_rfl) (by kernel_rfl) (by kernel_rfl) (fun _ _ _ h => h) (by rfl) ?_
              try simp only [List.setIfInBounds_toArray, List.set_cons_zero, List.set_cons_succ]
              refine wpG_take (i := 29) (v := .bool false) rfl rfl (by kernel_rfl) (by kernel_rfl) (by kernel_rfl) (by kernel_rfl) (fun _ _ _ h => h) (by rfl) (fun w' hS' => grow_value ?_ hS') ?_
              · go_simp
              try simp only [List.setIfInBounds_toArray, List.set_cons_zero, List.set_cons_succ]
              refine wpG_take (i := 30) (v := .bool false) rfl rfl (by kernel_rfl) (by kernel_rfl) (by kernel_rfl) (by kernel_rfl) (fun _ _ _ h => h) (by rfl) (fun w' hS' => grow_value ?_ hS') ?_
              · go_simp
              try simp only [List.setIfInBounds_toArray, List.set_cons_zero, List.set_cons_succ]
              refine wpG_take (i := 31) (v := .bool false) rfl rfl (by kernel_rfl) (by kernel_rfl) (by kernel_rfl) (by kernel_rfl) (fun _ _ _ h => h) (by rfl) (fun w' hS' => grow_value ?_ hS') ?_
              · go_simp
              try simp only [List.setIfInBounds_toArray, List.set_cons_zero, List.set_cons_succ]
              refine wpG_take (i := 32) (v := .int .i64 3) rfl rfl (by kernel_rfl) (by kernel_rfl) (by kernel_rfl) (by kernel_rfl) (fun _ _ _ h => h) (by rfl) (fun w' hS' => grow_value ?_ hS') ?_
              · go_simp
              try simp only [List.setIfInBounds_toArray, List.set_cons_zero, List.set_cons_succ]
              refine wpG_take (i := 33) (v := .bool false) rfl rfl (by kernel_rfl) (by kernel_rfl) (by kernel_rfl) (by kernel_rfl) (fun _ _ _ h => h) (by rfl) (fun w' hS' => grow_value ?_ hS') ?_
              · go_simp
              try simp only [List.setIfInBounds_toArray, List.set_cons_zero, List.set_cons_succ]
              refine wpG_take (i := 34) (v := .bool false) rfl rfl (by kernel_rfl) (by kernel_rfl) (by kernel_rfl) (by kernel_rfl) (fun _ _ _ h => h) (by rfl) (fun w' hS' => grow_value ?_ hS') ?_
              · go_simp
              try simp only [List.setIfInBounds_toArray, List.set_cons_zero, List.set_cons_succ]
              refine wpG_skip (i := 35) rfl rfl (by kernel_rfl) (by kernel_rfl) (by kernel_rfl) (by kernel_rfl) (fun _ _ _ h => h) (by rfl) ?_
              try simp only [List.setIfInBounds_toArray, List.set_cons_zero, List.set_cons_succ]
              refine wpG_skip (i := 36) rfl rfl (by kernel_rfl) (by kernel_rfl) (by kernel_rfl) (by kernel_rfl) (fun _ _ _ h => h) (by rfl) ?_
              try simp only [List.setIfInBounds_toArray, List.set_cons_zero, List.set_cons_succ]
              refine wpG_skip (i := 37) rfl rfl (by kernel_rfl) (by kernel_rfl) (by kernel_rfl) (by kernel_rfl) (fun _ _ _ h => h) (by rfl) ?_
              try simp only [List.setIfInBounds_toArray, List.set_cons_zero, List.set_cons_succ]
              refine wpG_skip (i := 38) rfl rfl (by kernel_rfl) (by kernel_rfl) (by kernel_rfl) (by kernel_rfl) (fun _ _ _ h => h) (by rfl) ?_
              try simp only [List.setIfInBounds_toArray, List.set_cons_zero, List.set_cons_succ]
              refine wpG_skip (i := 39) rfl rfl (by kernel_rfl) (by kernel_rfl) (by kernel_rfl) (by kernel_rfl) (fun _ _ _ h => h) (by rfl) ?_
              try simp only [List.setIfInBounds_toArray, List.set_cons_zero, List.set_cons_succ]
              refine wpG_skip (i := 40) rfl rfl (by kernel_rfl) (by kernel_rfl) (by kernel_rfl) (by kernel_rfl) (fun _ _ _ h => h) (by rfl) ?_
              try simp only [List.setIfInBounds_toArray, List.set_cons_zero, List.set_cons_succ]
              refine wpG_take (i := 41) (v := .bool false) rfl rfl (by kernel_rfl) (by kernel_rfl) (by kernel_rfl) (by kernel_rfl) (fun _ _ _ h => h) (by rfl) (fun w' hS' => grow_value ?_ hS') ?_
              · go_simp
              try simp only [List.setIfInBounds_toArray, List.set_cons_zero, List.set_cons_succ]
              refine wpG_take (i := 42) (v := .bool false) rfl rfl (by kernel_rfl) (by kernel_rfl) (by kernel_rfl) (by kernel_rfl) (fun _ _ _ h => h) (by rfl) (fun w' hS' => grow_value ?_ hS') ?_
              · go_simp
              try simp only [List.setIfInBounds_toArray, List.set_cons_zero, List.set_cons_succ]
              refine wpG_done (by kernel_rfl) (fun w22 hq hbx => ?_) _
              have HR22 := hid (below_after HR21.out hbx (Nat.le_refl _))
              clear hSS HG hq hbx
              go_wp2
              go_roundw
              case rel => exact ⟨k + 1, by omega, by go_num, HR22.out⟩
              case measure => simp [intOf]; omega
          · have hd1 : decide ((k : Int) < (B.length : Int)) = false := decide_eq_false (by omega)
            have hd2 : decide (k < B.length) = false := decide_eq_false hlt
            go_wp2_with (go_at_call 20; refine (awake_any _).mono ?_; rintro e wz ⟨rfl, hbz⟩)
            go_ret
            exact ⟨rfl, hWb.trans ((below_after HBr.out hbz (Nat.le_refl _)).mono (by omega))⟩
end Go.Proofs.Ytjddcaimjofihaa
