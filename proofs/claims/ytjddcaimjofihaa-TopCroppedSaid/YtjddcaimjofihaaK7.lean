/- Contracts of package crop: ranges, weeks, tests of all elements; no condition. -/
import Derived.Test.YtjddcaimjofihaaK1
import Derived.Test.YtjddcaimjofihaaK6
namespace Go.Proofs.Ytjddcaimjofihaa
open Go.RowKit Go.Shelf
set_option maxRecDepth 100000

theorem withinK_any (n lo hi : Int) (w : World) :
    Calls Try.prog 152 #[.int .i64 n, .int .i64 lo, .int .i64 hi] w fun e w' => e = .returned (.bool (within n lo hi)) ∧ w = w' := by
  by_cases h1 : lo ≤ n <;> by_cases h2 : n ≤ hi
  all_goals
    have hr : within n lo hi = (decide (lo ≤ n) && decide (n ≤ hi)) := rfl
    simp only [h1, h2, decide_true, decide_false, Bool.and_true, Bool.and_false] at hr
    have HR := hid hr
    clear hr
    go_enter Try.func152, Try.ntmps152
    go_wp2
    go_ret
    rw [HR.out]
    exact ⟨by simp, rfl⟩
theorem withinK_yes {n lo hi : Int} (h : lo ≤ n ∧ n ≤ hi) (w : World) :
    Calls Try.prog 152 #[.int .i64 n, .int .i64 lo, .int .i64 hi] w fun e w' => e = .returned (.bool true) ∧ w = w' := by
  have := withinK_any n lo hi w
  rw [within_iff.2 h] at this
  exact this
theorem wetK_yes {x : Int} (h : 0 ≤ x ∧ x ≤ 2) (w : World) :
    Calls Try.prog 144 #[.int .i64 x] w fun e w' => e = .returned (.bool true) ∧ w = w' := by
  go_enter Try.func144, Try.ntmps144
  go_wp2_with fail
  refine (withinK_yes h _).mono ?_
  rintro e w' ⟨rfl, rfl⟩
  go_wp2
  go_ret
  exact ⟨rfl, rfl⟩
theorem minimumK_any (a b : Int) (blk cap : Nat) (w : World) (h0 : w.cell? ⟨blk, 0, none⟩ = some (.int .i64 a)) (h1 : w.cell? ⟨blk, 1, none⟩ = some (.int .i64 b)) :
    Calls Try.prog 147 #[.slice (some ⟨blk, 0, none⟩) 2 cap] w fun e w' => e = .returned (.int .i64 (min a b)) ∧ w = w' := by
  have H0 := hid h0
  have H1 := hid h1
  go_enter Try.func147, Try.ntmps147
  go_wp2_with (go_at_call 162; refine (Min_any a b _ _ _ H0.out H1.out).mono ?_; rintro e w' ⟨rfl, rfl⟩)
  go_ret
  exact ⟨rfl, rfl⟩
theorem ofK_yes {lo hi m : Int} (h : 0 ≤ lo ∧ lo ≤ hi ∧ hi ≤ m) (w : World) :
    Calls Try.prog 173 #[.agg #[.int .i64 lo, .int .i64 hi], .int .i64 m] w fun e w' => e = .returned (.bool true) ∧ Below w.heap.size w w' := by
  obtain ⟨h1, h2, h3⟩ := h
  have d1 : decide (0 ≤ lo) = true := decide_eq_true h1
  have d2 : decide (lo ≤ hi) = true := decide_eq_true h2
  have d3 : decide (hi ≤ m) = true := decide_eq_true h3
  go_enter Try.func173, Try.ntmps173
  go_wp2
  go_ret
  exact ⟨ret_bool (by simp [d3]), below_alloc1 (Nat.le_refl _) _⟩
theorem hasK_yes {lo hi n : Int} (h : lo ≤ n ∧ n ≤ hi) (w : World) :
    Calls Try.prog 150 #[.agg #[.int .i64 lo, .int .i64 hi], .int .i64 n] w fun e w' => e = .returned (.bool true) ∧ Below w.heap.size w w' := by
  go_enter Try.func150, Try.ntmps150
  go_wp2_with fail
  refine (withinK_yes h _).mono ?_
  rintro e w' ⟨rfl, rfl⟩
  go_wp2
  go_ret
  exact ⟨rfl, below_alloc1 (Nat.le_refl _) _⟩
theorem sizeK_any (lo hi : Int) (w : World) (h : 0 ≤ lo ∧ lo ≤ hi ∧ hi ≤ 100) :
    Calls Try.prog 148 #[.agg #[.int .i64 lo, .int .i64 hi]] w fun e w' => e = .returned (.int .i64 (size ⟨lo, hi⟩)) ∧ Below w.heap.size w w' := by
  have HR := hid (show size ⟨lo, hi⟩ = hi - lo + 1 from rfl)
  go_enter Try.func148, Try.ntmps148
  go_wp2
  go_ret
  rw [HR.out]
  exact ⟨rfl, below_alloc1 (Nat.le_refl _) _⟩
theorem growthK_yes {lo hi : Int} (h : 0 ≤ lo ∧ lo ≤ hi ∧ hi ≤ 50) (w : World) :
    Calls Try.prog 142 #[.agg #[.int .i64 lo, .int .i64 hi]] w fun e w' => e = .returned (.bool true) ∧ Below w.heap.size w w' := by
  go_enter Try.func142, Try.ntmps142
  go_wp2_with fail
  refine (ofK_yes h _).mono ?_
  rintro e w' ⟨rfl, hb⟩
  go_wp2
  go_ret
  exact ⟨rfl, below_after (below_alloc1 (Nat.le_refl _) _) hb (Nat.le_refl _)⟩

theorem weekK_yes (f : Fl) {x : Int} (hx : 0 ≤ x ∧ x ≤ f.last) (v : Value) (n : Nat) (w : World) (h : FlV (Lt n) w v f) :
    Calls Try.prog 172 #[v, .int .i64 x] w fun e w' => e = .returned (.bool true) ∧ Below w.heap.size w w' := by
  obtain ⟨ga, gc, wa, wc, ba, bc, ca, cc, la, lc, rfl, hp1, hp2, hp3, hp4, hp5⟩ := h.open
  clear hp1 hp2 hp3 hp4 hp5 h
  go_enter Try.func172, Try.ntmps172
  go_wp2_with fail
  refine (withinK_yes hx _).mono ?_
  rintro e w' ⟨rfl, rfl⟩
  go_wp2
  go_ret
  exact ⟨rfl, below_alloc1 (Nat.le_refl _) _⟩
theorem weeksK_any (f : Fl) (hf : 0 ≤ f.last ∧ f.last ≤ 9) (v : Value) (n : Nat) (w : World) (h : FlV (Lt n) w v f) :
    Calls Try.prog 139 #[v] w fun e w' => e = .returned (.int .i64 (f.last + 1)) ∧ Below w.heap.size w w' := by
  obtain ⟨ga, gc, wa, wc, ba, bc, ca, cc, la, lc, rfl, hp1, hp2, hp3, hp4, hp5⟩ := h.open
  clear hp1 hp2 hp3 hp4 hp5 h
  have hwr : IntKind.i64.wrap (f.last + 1) = f.last + 1 := IntWalk.i64_in _ (by omega)
  go_enter Try.func139, Try.ntmps139
  go_wp2
  go_ret
  exact ⟨rfl, below_alloc1 (Nat.le_refl _) _⟩
theorem numbersK_yes (f : Fl) (hg : GoodF f) (v : Value) (n : Nat) (w : World) (h : FlV (Lt n) w v f) :
    Calls Try.prog 138 #[v] w fun e w' => e = .returned (.bool true) ∧ Below w.heap.size w w' := by
  obtain ⟨ga, gc, wa, wc, ba, bc, ca, cc, la, lc, rfl, hp1, hp2, hp3, hp4, hp5⟩ := h.open
  clear hp1 hp2 hp3 hp4 hp5 h
  have HR := hid hg.ripe
  have HL := hid hg.late
  have HT := hid hg.trod
  have h0 := hg.last.1
  have d0 : decide (0 ≤ f.last) = true := decide_eq_true h0
  clear hg
  go_enter Try.func138, Try.ntmps138
  go_wp2_with fail
  refine (withinK_yes HR.out _).mono ?_
  rintro e w' ⟨rfl, rfl⟩
  go_wp2_with fail
  refine (withinK_yes HL.out _).mono ?_
  rintro e w' ⟨rfl, rfl⟩
  go_wp2_with fail
  refine (withinK_yes HT.out _).mono ?_
  rintro e w' ⟨rfl, rfl⟩
  go_wp2
  go_ret
  exact ⟨rfl, below_alloc1 (Nat.le_refl _) _⟩
theorem lookK_yes (f : Fl) {l : Lk} (hl : 0 ≤ l.week ∧ l.week ≤ f.last ∧ 0 ≤ l.w.lo ∧ l.w.lo ≤ l.w.hi ∧ l.w.hi ≤ 1000) (v : Value) (n : Nat) (w : World) (hn : n ≤ w.heap.size) (h : FlV (Lt n) w v f) :
    Calls Try.prog 137 #[v, .agg #[.int .i64 l.week, .int .i64 l.w.lo, .int .i64 l.w.hi]] w fun e w' => e = .returned (.bool true) ∧ Below w.heap.size w w' := by
  have h' := h
  obtain ⟨ga, gc, wa, wc, ba, bc, ca, cc, la, lc, rfl, hp1, hp2, hp3, hp4, hp5⟩ := h.open
  have HF := hid (fun o1 o2 => h'.below ((below_alloc2 (Nat.le_refl _) o1 o2).mono hn))
  clear hp1 hp2 hp3 hp4 hp5 h h'
  obtain ⟨wk, ⟨lo, hi⟩⟩ := l
  simp only at hl
  go_enter Try.func137, Try.ntmps137
  go_wp2_with fail
  refine (weekK_yes f ⟨hl.1, hl.2.1⟩ _ n _ (HF.out _ _)).mono ?_
  rintro e w2 ⟨rfl, hb2⟩
  obtain ⟨hc2, hf2⟩ := bcell hb2
  have hs2 := hb2.size
  simp only [World.size_alloc] at hs2
  go_wp2_with fail
  refine (ofK_yes hl.2.2 _).mono ?_
  rintro e w3 ⟨rfl, hb3⟩
  go_wp2
  go_ret
  exact ⟨rfl, below_after (below_after (below_alloc2 (Nat.le_refl _) _ _) hb2 (Nat.le_refl _)) hb3 (Nat.le_refl _)⟩

/-! ### Tests of all elements, where each passes: the test may change some blocks -/

theorem all1I_pass (g : Nat) (first cap : Array Value) (eg : ∀ args w, (callFunc g args).run Try.prog w = .ok (.enter g args) w) (x : Int) (pb : Nat) (w : World) (hpb : pb < w.heap.size) (hp : w.cell? ⟨pb, 0, none⟩ = some (.func (.func g) first cap)) (Φ : World → Prop)
    (hc : Calls Try.prog g (first.push (.int .i64 x) ++ cap) w fun e w' => e = .returned (.bool true) ∧ Φ w') :
    Calls Try.prog 178 #[(.int .i64 x), .pointer (some ⟨pb, 0, none⟩)] w fun e w' => e = .returned (.bool false) ∧ Φ w' := by
  have HC := hid hc
  clear hc
  go_enter Try.func178, Try.ntmps178
  go_wp2_with fail
  refine (HC.out).mono ?_
  rintro e w' ⟨rfl, hf⟩
  have HF := hid hf
  clear hf
  go_wp2
  go_ret
  exact ⟨rfl, HF.out⟩

set_option maxHeartbeats 1000000 in
theorem IndexFuncI_pass (g : Nat) (first cap : Array Value) (eg : ∀ args w, (callFunc g args).run Try.prog w = .ok (.enter g args) w) (l : List Int) (v : Value) (n pb : Nat) (w : World) (hn : n ≤ w.heap.size) (h : Ints (Lt n) w v l) (hll : l.length ≤ 1000) (hpb : pb < w.heap.size)
    (hp : w.cell? ⟨pb, 0, none⟩ = some (.func (.func g) first cap)) (T : Nat → Prop) (hT : ∀ b, T b → n ≤ b ∧ b ≠ pb) (J : Nat → World → Prop) (hJ : J 0 w) (hJs : ∀ k a b, J k a → Below a.heap.size a b → J k b)
    (hstep : ∀ k (hk : k < l.length) w', Chg T w w' → J k w' → Calls Try.prog g (first.push (.int .i64 l[k]) ++ cap) w' fun e w'' => e = .returned (.bool true) ∧ Chg T w' w'' ∧ J (k + 1) w'') :
    Calls Try.prog 189 #[v, .func (.func 178) #[] #[.pointer (some ⟨pb, 0, none⟩)]] w fun e w' => e = .returned (.int .i64 (-1)) ∧ Chg T w w' ∧ J l.length w' := by
  obtain ⟨a, lcap, rfl, hcap, ho⟩ := h.open1
  have HP := hid hp
  have HT := hid hT
  have HS := hid hstep
  have HJS := hid hJs
  have HJ0 := hid hJ
  have HO := hid ho
  clear hp hT hstep hJs hJ ho h
  go_enter Try.func189, Try.ntmps189
  go_wp2
  go_loopw [8] (fun i wr => ∃ k : Nat, k ≤ l.length ∧ i = .int .i64 k ∧ Hid (J k wr) ∧ Chg T w wr) (fun i _ => l.length - (intOf i).toNat)
  case atStart => exact ⟨0, by omega, rfl, HJ0, Chg.refl _ _⟩
  case round =>
    obtain ⟨k, hk, rfl, HJ, hch⟩ := hrel
    have hsz := hch.size
    have HK := hid (fun b o hT hb => hch.cell hb hT : ∀ b o, ¬ T b → b < w.heap.size → wr.cell? ⟨b, o, none⟩ = w.cell? ⟨b, o, none⟩)
    have HPr := hid ((HK.out pb 0 (fun h => (HT.out _ h).2 rfl) hpb).trans HP.out)
    have HCH := hid hch
    clear hch
    by_cases hlt : k < l.length
    · rcases HO.out with hnil | ⟨b, off, rfl, hbn, hc⟩
      · rw [hnil] at hlt; simp at hlt
      have hbl : b < n := hbn
      have hbw : b < w.heap.size := by omega
      have hbT : ¬ T b := fun h => by have := (HT.out _ h).1; omega
      have c0 := (HK.out b _ hbT hbw).trans (hc k hlt)
      have HST := hid (fun w' h1 h2 => HS.out k hlt w' h1 h2 : ∀ w', Chg T w w' → J k w' → Calls Try.prog g (first.push (.int .i64 l[k]) ++ cap) w' fun e w'' => e = .returned (.bool true) ∧ Chg T w' w'' ∧ J (k + 1) w'')
      clear hc
      generalize l[k] = x at *
      go_wp2_with fail
      refine (all1I_pass g first cap eg x pb wr (by omega) HPr.out (fun w' => Chg T wr w' ∧ J (k + 1) w') (HST.out wr HCH.out HJ.out)).mono ?_
      rintro e w2 ⟨rfl, hc2, hj2⟩
      have HC2 := hid (HCH.out.trans hc2)
      have HJ2 := hid hj2
      clear hc2 hj2
      go_wp2
      go_roundw
      case rel => exact ⟨k + 1, by omega, by go_num, HJ2, HC2.out⟩
      case measure => simp [intOf]; omega
    · have hke : k = l.length := by omega
      subst hke
      go_wp2
      go_ret
      exact ⟨rfl, HCH.out, HJ.out⟩

theorem allI_pass (g : Nat) (first cap : Array Value) (eg : ∀ args w, (callFunc g args).run Try.prog w = .ok (.enter g args) w) (l : List Int) (v : Value) (n : Nat) (w : World) (hn : n ≤ w.heap.size) (h : Ints (Lt n) w v l) (hll : l.length ≤ 1000)
    (T : Nat → Prop) (hT : ∀ b, T b → n ≤ b ∧ b < w.heap.size) (J : Nat → World → Prop) (hJ : J 0 w) (hJs : ∀ k a b, J k a → Below a.heap.size a b → J k b)
    (hstep : ∀ k (hk : k < l.length) w', Chg T w w' → J k w' → Calls Try.prog g (first.push (.int .i64 l[k]) ++ cap) w' fun e w'' => e = .returned (.bool true) ∧ Chg T w' w'' ∧ J (k + 1) w'') :
    Calls Try.prog 143 #[v, .func (.func g) first cap] w fun e w' => e = .returned (.bool true) ∧ Chg T w w' ∧ J l.length w' := by
  obtain ⟨W, hW⟩ : ∃ W, W = w.alloc (.cells #[.func (.func g) first cap] 132) := ⟨_, rfl⟩
  have hWb : Below w.heap.size w W := by rw [hW]; exact below_alloc1 (Nat.le_refl _) _
  have hWs : w.heap.size < W.heap.size := by rw [hW]; simp
  have hp : W.cell? ⟨w.heap.size, 0, none⟩ = some (.func (.func g) first cap) := by rw [hW]; exact cell_of_row (heap_new _ _) 0
  have HI := hid (IndexFuncI_pass g first cap eg l v n w.heap.size W (by omega) (h.below (hWb.mono hn)) hll hWs hp T (fun b hb => ⟨(hT b hb).1, by have := (hT b hb).2; omega⟩) J (hJs _ _ _ hJ hWb) hJs
    (fun k hk w' h1 h2 => hstep k hk w' ((chg_of_below hWb).trans h1) h2))
  obtain ⟨a, lcap, rfl, -, -⟩ := h.open1
  have HB := hid hWb
  have HW := hid hW
  clear hW hWb hWs hp hstep hJ hJs hT h
  have HCF := hid (show Calls Try.prog 177 #[.slice a l.length lcap, .func (.func 178) #[] #[.pointer (some ⟨w.heap.size, 0, none⟩)]] W fun e w' => e = .returned (.bool false) ∧ Chg T W w' ∧ J l.length w' by
    go_enter Try.func177, Try.ntmps177
    go_wp2_with fail
    refine HI.out.mono ?_
    rintro e w2 ⟨rfl, hc2, hj2⟩
    have HC2 := hid hc2
    have HJ2 := hid hj2
    clear hc2 hj2
    go_wp2
    go_ret
    exact ⟨rfl, HC2.out, HJ2.out⟩)
  go_enter Try.func143, Try.ntmps143
  go_wp2_with fail
  rw [← HW.out]
  refine HCF.out.mono ?_
  rintro e w2 ⟨rfl, hc2, hj2⟩
  have HC2 := hid hc2
  have HJ2 := hid hj2
  clear hc2 hj2
  go_wp2
  go_ret
  exact ⟨rfl, (chg_of_below HB.out).trans HC2.out, HJ2.out⟩

theorem all1R_pass (g : Nat) (first cap : Array Value) (eg : ∀ args w, (callFunc g args).run Try.prog w = .ok (.enter g args) w) (x : Rg) (pb : Nat) (w : World) (hpb : pb < w.heap.size) (hp : w.cell? ⟨pb, 0, none⟩ = some (.func (.func g) first cap)) (Φ : World → Prop)
    (hc : ∀ o, Calls Try.prog g (first.push (.agg #[.int .i64 x.lo, .int .i64 x.hi]) ++ cap) (w.alloc o) fun e w' => e = .returned (.bool true) ∧ Φ w') :
    Calls Try.prog 176 #[(.agg #[.int .i64 x.lo, .int .i64 x.hi]), .pointer (some ⟨pb, 0, none⟩)] w fun e w' => e = .returned (.bool false) ∧ Φ w' := by
  have HC := hid hc
  clear hc
  go_enter Try.func176, Try.ntmps176
  go_wp2_with fail
  refine (HC.out _).mono ?_
  rintro e w' ⟨rfl, hf⟩
  have HF := hid hf
  clear hf
  go_wp2
  go_ret
  exact ⟨rfl, HF.out⟩

set_option maxHeartbeats 1000000 in
theorem IndexFuncR_pass (g : Nat) (first cap : Array Value) (eg : ∀ args w, (callFunc g args).run Try.prog w = .ok (.enter g args) w) (l : List Rg) (v : Value) (n pb : Nat) (w : World) (hn : n ≤ w.heap.size) (h : Rgs (Lt n) w v l) (hll : l.length ≤ 1000) (hpb : pb < w.heap.size)
    (hp : w.cell? ⟨pb, 0, none⟩ = some (.func (.func g) first cap)) (T : Nat → Prop) (hT : ∀ b, T b → n ≤ b ∧ b ≠ pb) (J : Nat → World → Prop) (hJ : J 0 w) (hJs : ∀ k a b, J k a → Below a.heap.size a b → J k b)
    (hstep : ∀ k (hk : k < l.length) w', Chg T w w' → J k w' → Calls Try.prog g (first.push (.agg #[.int .i64 l[k].lo, .int .i64 l[k].hi]) ++ cap) w' fun e w'' => e = .returned (.bool true) ∧ Chg T w' w'' ∧ J (k + 1) w'') :
    Calls Try.prog 188 #[v, .func (.func 176) #[] #[.pointer (some ⟨pb, 0, none⟩)]] w fun e w' => e = .returned (.int .i64 (-1)) ∧ Chg T w w' ∧ J l.length w' := by
  obtain ⟨a, lcap, rfl, hcap, ho⟩ := h.open2
  have HP := hid hp
  have HT := hid hT
  have HS := hid hstep
  have HJS := hid hJs
  have HJ0 := hid hJ
  have HO := hid ho
  clear hp hT hstep hJs hJ ho h
  go_enter Try.func188, Try.ntmps188
  go_wp2
  go_loopw [8] (fun i wr => ∃ k : Nat, k ≤ l.length ∧ i = .int .i64 k ∧ Hid (J k wr) ∧ Chg T w wr) (fun i _ => l.length - (intOf i).toNat)
  case atStart => exact ⟨0, by omega, rfl, HJ0, Chg.refl _ _⟩
  case round =>
    obtain ⟨k, hk, rfl, HJ, hch⟩ := hrel
    have hsz := hch.size
    have HK := hid (fun b o hT hb => hch.cell hb hT : ∀ b o, ¬ T b → b < w.heap.size → wr.cell? ⟨b, o, none⟩ = w.cell? ⟨b, o, none⟩)
    have HPr := hid ((HK.out pb 0 (fun h => (HT.out _ h).2 rfl) hpb).trans HP.out)
    have HCH := hid hch
    clear hch
    by_cases hlt : k < l.length
    · rcases HO.out with hnil | ⟨b, off, rfl, hbn, hc⟩
      · rw [hnil] at hlt; simp at hlt
      have hbl : b < n := hbn
      have hbw : b < w.heap.size := by omega
      have hbT : ¬ T b := fun h => by have := (HT.out _ h).1; omega
      have c0 := (HK.out b _ hbT hbw).trans (hc k hlt).1
      have c1 := (HK.out b _ hbT hbw).trans (hc k hlt).2
      have HST := hid (fun w' h1 h2 => HS.out k hlt w' h1 h2 : ∀ w', Chg T w w' → J k w' → Calls Try.prog g (first.push (.agg #[.int .i64 l[k].lo, .int .i64 l[k].hi]) ++ cap) w' fun e w'' => e = .returned (.bool true) ∧ Chg T w' w'' ∧ J (k + 1) w'')
      clear hc
      generalize l[k] = x at *
      go_wp2_with fail
      refine (all1R_pass g first cap eg x pb wr (by omega) HPr.out (fun w' => Chg T wr w' ∧ J (k + 1) w') (fun o => (HST.out (wr.alloc o) (HCH.out.trans (chg_alloc _ _)) (HJS.out _ _ _ HJ.out (below_alloc1 (Nat.le_refl _) o))).mono fun _ _ ⟨h1, h2, h3⟩ => ⟨h1, (chg_alloc wr o).trans h2, h3⟩)).mono ?_
      rintro e w2 ⟨rfl, hc2, hj2⟩
      have HC2 := hid (HCH.out.trans hc2)
      have HJ2 := hid hj2
      clear hc2 hj2
      go_wp2
      go_roundw
      case rel => exact ⟨k + 1, by omega, by go_num, HJ2, HC2.out⟩
      case measure => simp [intOf]; omega
    · have hke : k = l.length := by omega
      subst hke
      go_wp2
      go_ret
      exact ⟨rfl, HCH.out, HJ.out⟩

theorem allR_pass (g : Nat) (first cap : Array Value) (eg : ∀ args w, (callFunc g args).run Try.prog w = .ok (.enter g args) w) (l : List Rg) (v : Value) (n : Nat) (w : World) (hn : n ≤ w.heap.size) (h : Rgs (Lt n) w v l) (hll : l.length ≤ 1000)
    (T : Nat → Prop) (hT : ∀ b, T b → n ≤ b ∧ b < w.heap.size) (J : Nat → World → Prop) (hJ : J 0 w) (hJs : ∀ k a b, J k a → Below a.heap.size a b → J k b)
    (hstep : ∀ k (hk : k < l.length) w', Chg T w w' → J k w' → Calls Try.prog g (first.push (.agg #[.int .i64 l[k].lo, .int .i64 l[k].hi]) ++ cap) w' fun e w'' => e = .returned (.bool true) ∧ Chg T w' w'' ∧ J (k + 1) w'') :
    Calls Try.prog 141 #[v, .func (.func g) first cap] w fun e w' => e = .returned (.bool true) ∧ Chg T w w' ∧ J l.length w' := by
  obtain ⟨W, hW⟩ : ∃ W, W = w.alloc (.cells #[.func (.func g) first cap] 188) := ⟨_, rfl⟩
  have hWb : Below w.heap.size w W := by rw [hW]; exact below_alloc1 (Nat.le_refl _) _
  have hWs : w.heap.size < W.heap.size := by rw [hW]; simp
  have hp : W.cell? ⟨w.heap.size, 0, none⟩ = some (.func (.func g) first cap) := by rw [hW]; exact cell_of_row (heap_new _ _) 0
  have HI := hid (IndexFuncR_pass g first cap eg l v n w.heap.size W (by omega) (h.below (hWb.mono hn)) hll hWs hp T (fun b hb => ⟨(hT b hb).1, by have := (hT b hb).2; omega⟩) J (hJs _ _ _ hJ hWb) hJs
    (fun k hk w' h1 h2 => hstep k hk w' ((chg_of_below hWb).trans h1) h2))
  obtain ⟨a, lcap, rfl, -, -⟩ := h.open2
  have HB := hid hWb
  have HW := hid hW
  clear hW hWb hWs hp hstep hJ hJs hT h
  have HCF := hid (show Calls Try.prog 175 #[.slice a l.length lcap, .func (.func 176) #[] #[.pointer (some ⟨w.heap.size, 0, none⟩)]] W fun e w' => e = .returned (.bool false) ∧ Chg T W w' ∧ J l.length w' by
    go_enter Try.func175, Try.ntmps175
    go_wp2_with fail
    refine HI.out.mono ?_
    rintro e w2 ⟨rfl, hc2, hj2⟩
    have HC2 := hid hc2
    have HJ2 := hid hj2
    clear hc2 hj2
    go_wp2
    go_ret
    exact ⟨rfl, HC2.out, HJ2.out⟩)
  go_enter Try.func141, Try.ntmps141
  go_wp2_with fail
  rw [← HW.out]
  refine HCF.out.mono ?_
  rintro e w2 ⟨rfl, hc2, hj2⟩
  have HC2 := hid hc2
  have HJ2 := hid hj2
  clear hc2 hj2
  go_wp2
  go_ret
  exact ⟨rfl, (chg_of_below HB.out).trans HC2.out, HJ2.out⟩

theorem all1L_pass (g : Nat) (first cap : Array Value) (eg : ∀ args w, (callFunc g args).run Try.prog w = .ok (.enter g args) w) (x : Lk) (pb : Nat) (w : World) (hpb : pb < w.heap.size) (hp : w.cell? ⟨pb, 0, none⟩ = some (.func (.func g) first cap)) (Φ : World → Prop)
    (hc : ∀ o, Calls Try.prog g (first.push (.agg #[.int .i64 x.week, .int .i64 x.w.lo, .int .i64 x.w.hi]) ++ cap) (w.alloc o) fun e w' => e = .returned (.bool true) ∧ Φ w') :
    Calls Try.prog 180 #[(.agg #[.int .i64 x.week, .int .i64 x.w.lo, .int .i64 x.w.hi]), .pointer (some ⟨pb, 0, none⟩)] w fun e w' => e = .returned (.bool false) ∧ Φ w' := by
  have HC := hid hc
  clear hc
  go_enter Try.func180, Try.ntmps180
  go_wp2_with fail
  refine (HC.out _).mono ?_
  rintro e w' ⟨rfl, hf⟩
  have HF := hid hf
  clear hf
  go_wp2
  go_ret
  exact ⟨rfl, HF.out⟩

set_option maxHeartbeats 1000000 in
theorem IndexFuncL_pass (g : Nat) (first cap : Array Value) (eg : ∀ args w, (callFunc g args).run Try.prog w = .ok (.enter g args) w) (l : List Lk) (v : Value) (n pb : Nat) (w : World) (hn : n ≤ w.heap.size) (h : Lks (Lt n) w v l) (hll : l.length ≤ 1000) (hpb : pb < w.heap.size)
    (hp : w.cell? ⟨pb, 0, none⟩ = some (.func (.func g) first cap)) (T : Nat → Prop) (hT : ∀ b, T b → n ≤ b ∧ b ≠ pb) (J : Nat → World → Prop) (hJ : J 0 w) (hJs : ∀ k a b, J k a → Below a.heap.size a b → J k b)
    (hstep : ∀ k (hk : k < l.length) w', Chg T w w' → J k w' → Calls Try.prog g (first.push (.agg #[.int .i64 l[k].week, .int .i64 l[k].w.lo, .int .i64 l[k].w.hi]) ++ cap) w' fun e w'' => e = .returned (.bool true) ∧ Chg T w' w'' ∧ J (k + 1) w'') :
    Calls Try.prog 190 #[v, .func (.func 180) #[] #[.pointer (some ⟨pb, 0, none⟩)]] w fun e w' => e = .returned (.int .i64 (-1)) ∧ Chg T w w' ∧ J l.length w' := by
  obtain ⟨a, lcap, rfl, hcap, ho⟩ := h.open3
  have HP := hid hp
  have HT := hid hT
  have HS := hid hstep
  have HJS := hid hJs
  have HJ0 := hid hJ
  have HO := hid ho
  clear hp hT hstep hJs hJ ho h
  go_enter Try.func190, Try.ntmps190
  go_wp2
  go_loopw [8] (fun i wr => ∃ k : Nat, k ≤ l.length ∧ i = .int .i64 k ∧ Hid (J k wr) ∧ Chg T w wr) (fun i _ => l.length - (intOf i).toNat)
  case atStart => exact ⟨0, by omega, rfl, HJ0, Chg.refl _ _⟩
  case round =>
    obtain ⟨k, hk, rfl, HJ, hch⟩ := hrel
    have hsz := hch.size
    have HK := hid (fun b o hT hb => hch.cell hb hT : ∀ b o, ¬ T b → b < w.heap.size → wr.cell? ⟨b, o, none⟩ = w.cell? ⟨b, o, none⟩)
    have HPr := hid ((HK.out pb 0 (fun h => (HT.out _ h).2 rfl) hpb).trans HP.out)
    have HCH := hid hch
    clear hch
    by_cases hlt : k < l.length
    · rcases HO.out with hnil | ⟨b, off, rfl, hbn, hc⟩
      · rw [hnil] at hlt; simp at hlt
      have hbl : b < n := hbn
      have hbw : b < w.heap.size := by omega
      have hbT : ¬ T b := fun h => by have := (HT.out _ h).1; omega
      have c0 := (HK.out b _ hbT hbw).trans (hc k hlt).1
      have c1 := (HK.out b _ hbT hbw).trans (hc k hlt).2.1
      have c2 := (HK.out b _ hbT hbw).trans (hc k hlt).2.2
      have HST := hid (fun w' h1 h2 => HS.out k hlt w' h1 h2 : ∀ w', Chg T w w' → J k w' → Calls Try.prog g (first.push (.agg #[.int .i64 l[k].week, .int .i64 l[k].w.lo, .int .i64 l[k].w.hi]) ++ cap) w' fun e w'' => e = .returned (.bool true) ∧ Chg T w' w'' ∧ J (k + 1) w'')
      clear hc
      generalize l[k] = x at *
      go_wp2_with fail
      refine (all1L_pass g first cap eg x pb wr (by omega) HPr.out (fun w' => Chg T wr w' ∧ J (k + 1) w') (fun o => (HST.out (wr.alloc o) (HCH.out.trans (chg_alloc _ _)) (HJS.out _ _ _ HJ.out (below_alloc1 (Nat.le_refl _) o))).mono fun _ _ ⟨h1, h2, h3⟩ => ⟨h1, (chg_alloc wr o).trans h2, h3⟩)).mono ?_
      rintro e w2 ⟨rfl, hc2, hj2⟩
      have HC2 := hid (HCH.out.trans hc2)
      have HJ2 := hid hj2
      clear hc2 hj2
      go_wp2
      go_roundw
      case rel => exact ⟨k + 1, by omega, by go_num, HJ2, HC2.out⟩
      case measure => simp [intOf]; omega
    · have hke : k = l.length := by omega
      subst hke
      go_wp2
      go_ret
      exact ⟨rfl, HCH.out, HJ.out⟩

theorem allL_pass (g : Nat) (first cap : Array Value) (eg : ∀ args w, (callFunc g args).run Try.prog w = .ok (.enter g args) w) (l : List Lk) (v : Value) (n : Nat) (w : World) (hn : n ≤ w.heap.size) (h : Lks (Lt n) w v l) (hll : l.length ≤ 1000)
    (T : Nat → Prop) (hT : ∀ b, T b → n ≤ b ∧ b < w.heap.size) (J : Nat → World → Prop) (hJ : J 0 w) (hJs : ∀ k a b, J k a → Below a.heap.size a b → J k b)
    (hstep : ∀ k (hk : k < l.length) w', Chg T w w' → J k w' → Calls Try.prog g (first.push (.agg #[.int .i64 l[k].week, .int .i64 l[k].w.lo, .int .i64 l[k].w.hi]) ++ cap) w' fun e w'' => e = .returned (.bool true) ∧ Chg T w' w'' ∧ J (k + 1) w'') :
    Calls Try.prog 145 #[v, .func (.func g) first cap] w fun e w' => e = .returned (.bool true) ∧ Chg T w w' ∧ J l.length w' := by
  obtain ⟨W, hW⟩ : ∃ W, W = w.alloc (.cells #[.func (.func g) first cap] 186) := ⟨_, rfl⟩
  have hWb : Below w.heap.size w W := by rw [hW]; exact below_alloc1 (Nat.le_refl _) _
  have hWs : w.heap.size < W.heap.size := by rw [hW]; simp
  have hp : W.cell? ⟨w.heap.size, 0, none⟩ = some (.func (.func g) first cap) := by rw [hW]; exact cell_of_row (heap_new _ _) 0
  have HI := hid (IndexFuncL_pass g first cap eg l v n w.heap.size W (by omega) (h.below (hWb.mono hn)) hll hWs hp T (fun b hb => ⟨(hT b hb).1, by have := (hT b hb).2; omega⟩) J (hJs _ _ _ hJ hWb) hJs
    (fun k hk w' h1 h2 => hstep k hk w' ((chg_of_below hWb).trans h1) h2))
  obtain ⟨a, lcap, rfl, -, -⟩ := h.open3
  have HB := hid hWb
  have HW := hid hW
  clear hW hWb hWs hp hstep hJ hJs hT h
  have HCF := hid (show Calls Try.prog 179 #[.slice a l.length lcap, .func (.func 180) #[] #[.pointer (some ⟨w.heap.size, 0, none⟩)]] W fun e w' => e = .returned (.bool false) ∧ Chg T W w' ∧ J l.length w' by
    go_enter Try.func179, Try.ntmps179
    go_wp2_with fail
    refine HI.out.mono ?_
    rintro e w2 ⟨rfl, hc2, hj2⟩
    have HC2 := hid hc2
    have HJ2 := hid hj2
    clear hc2 hj2
    go_wp2
    go_ret
    exact ⟨rfl, HC2.out, HJ2.out⟩)
  go_enter Try.func145, Try.ntmps145
  go_wp2_with fail
  rw [← HW.out]
  refine HCF.out.mono ?_
  rintro e w2 ⟨rfl, hc2, hj2⟩
  have HC2 := hid hc2
  have HJ2 := hid hj2
  clear hc2 hj2
  go_wp2
  go_ret
  exact ⟨rfl, (chg_of_below HB.out).trans HC2.out, HJ2.out⟩
end Go.Proofs.Ytjddcaimjofihaa
