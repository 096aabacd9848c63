/- Contracts of package cask: ranges, weights, sums, tests of all elements, CheckCellar; no condition. -/
import Derived.Test.YtjddcaimjofihaaProg
import Derived.Test.YtjddcaimjofihaaB0
import Derived.Deep.RegionHeld3
import Derived.RegionTactic
namespace Go.Proofs.Ytjddcaimjofihaa
open Go.RowKit
set_option maxRecDepth 100000

theorem within_any (n lo hi : Int) (w : World) :
    Calls Try.prog 85 #[.int .i64 n, .int .i64 lo, .int .i64 hi] w fun e w' => e = .returned (.bool (within n lo hi)) ∧ w = w' := by
  by_cases h1 : lo ≤ n <;> by_cases h2 : n ≤ hi
  all_goals
    have hr : within n lo hi = (decide (lo ≤ n) && decide (n ≤ hi)) := rfl
    simp only [h1, h2, decide_true, decide_false, Bool.and_true, Bool.and_false] at hr
    have HR := hid hr
    clear hr
    go_enter Try.func85, Try.ntmps85
    go_wp2
    go_ret
    rw [HR.out]
    exact ⟨by simp, rfl⟩

theorem strong_any (lo hi : Int) (w : World) :
    Calls Try.prog 110 #[.agg #[.int .i64 lo, .int .i64 hi]] w fun e w' => e = .returned (.bool (strong ⟨lo, hi⟩)) ∧ Below w.heap.size w w' := by
  have hr : strong ⟨lo, hi⟩ = (decide (0 ≤ lo) && decide (lo ≤ hi) && decide (hi ≤ 100)) := rfl
  have HR := hid hr
  clear hr
  by_cases h1 : 0 ≤ lo <;> by_cases h2 : lo ≤ hi
  all_goals
    go_enter Try.func110, Try.ntmps110
    go_wp2
    go_ret
    rw [HR.out]
    exact ⟨by simp; omega, below_alloc1 (Nat.le_refl _) _⟩

theorem size_any (lo hi : Int) (w : World) (h : 0 ≤ lo ∧ lo ≤ hi ∧ hi ≤ 100) :
    Calls Try.prog 114 #[.agg #[.int .i64 lo, .int .i64 hi]] w fun e w' => e = .returned (.int .i64 (size ⟨lo, hi⟩)) ∧ Below w.heap.size w w' := by
  have HR := hid (show size ⟨lo, hi⟩ = hi - lo + 1 from rfl)
  go_enter Try.func114, Try.ntmps114
  go_wp2
  go_ret
  rw [HR.out]
  exact ⟨rfl, below_alloc1 (Nat.le_refl _) _⟩

theorem has_any (lo hi n : Int) (w : World) :
    Calls Try.prog 136 #[.agg #[.int .i64 lo, .int .i64 hi], .int .i64 n] w fun e w' => e = .returned (.bool (has ⟨lo, hi⟩ n)) ∧ Below w.heap.size w w' := by
  have HR := hid (show has ⟨lo, hi⟩ n = within n lo hi from rfl)
  go_enter Try.func136, Try.ntmps136
  go_wp2_with (go_at_call 85; refine (within_any _ _ _ _).mono ?_; rintro e w' ⟨rfl, rfl⟩)
  go_ret
  rw [HR.out]
  exact ⟨rfl, below_alloc1 (Nat.le_refl _) _⟩

theorem isW_any (n : Int) (w : World) :
    Calls Try.prog 167 #[.int .i64 n] w fun e w' => e = .returned (.bool (isW n)) ∧ w = w' := by
  have HR := hid (show isW n = within n 0 30 from rfl)
  go_enter Try.func167, Try.ntmps167
  go_wp2_with (go_at_call 85; refine (within_any _ _ _ _).mono ?_; rintro e w' ⟨rfl, rfl⟩)
  go_ret
  rw [HR.out]
  exact ⟨rfl, rfl⟩

theorem graded_any (n : Int) (w : World) :
    Calls Try.prog 86 #[.int .i64 n] w fun e w' => e = .returned (.bool (within n 0 100)) ∧ w = w' := by
  go_enter Try.func86, Try.ntmps86
  go_wp2_with (go_at_call 85; refine (within_any _ _ _ _).mono ?_; rintro e w' ⟨rfl, rfl⟩)
  go_ret
  exact ⟨rfl, rfl⟩

theorem take_sum (l : List Int) (k : Nat) (h : k < l.length) : sumI (l.take (k + 1)) = sumI (l.take k) + l[k] := by
  rw [List.take_succ_eq_append_getElem h, sumI_snoc]

/-- The sum of weights. -/
theorem sum_any (l : List Int) (v : Value) (n : Nat) (w : World) (h : Ints (Lt n) w v l) (hl : l.length ≤ 1000) (hb : ∀ x ∈ l, 0 ≤ x ∧ x ≤ 1000) :
    Calls Try.prog 122 #[v] w fun e w' => e = .returned (.int .i64 (sumI l)) ∧ w = w' := by
  obtain ⟨a, cap, rfl, hcap, ho⟩ := h.open1
  have hb1 : ∀ k, 0 ≤ sumI (l.take k) ∧ sumI (l.take k) ≤ 1000 * l.length := fun k => by
    refine ⟨sumI_nonneg fun x hx => (hb x (List.mem_of_mem_take hx)).1, ?_⟩
    have := sumI_le (l := l.take k) (m := 1000) fun x hx => (hb x (List.mem_of_mem_take hx)).2
    simp only [List.length_take] at this
    omega
  go_enter Try.func122, Try.ntmps122
  go_wp2
  go_loop [2, 7] (fun s i => ∃ k : Nat, k ≤ l.length ∧ i = .int .i64 k ∧ s = .int .i64 (sumI (l.take k))) (fun _ i => l.length - (intOf i).toNat)
  case atStart => exact ⟨0, by omega, rfl, rfl⟩
  case round =>
    obtain ⟨k, hk, rfl, rfl⟩ := hrel
    obtain ⟨g1, g2⟩ := hb1 k
    by_cases hlt : k < l.length
    · rcases ho with rfl | ⟨b, off, rfl, -, hc⟩
      · simp at hlt
      have c0 := hc k hlt
      obtain ⟨b1, b2⟩ := hb l[k] (List.getElem_mem _)
      have HT := hid (take_sum l k hlt)
      clear hc
      generalize l[k] = x at *
      go_wp2
      go_round
      case rel => exact ⟨k + 1, by omega, by go_num, by rw [HT.out]⟩
      case measure => simp [intOf]; omega
    · go_wp2
      go_ret
      have : k = l.length := by omega
      subst this
      exact ⟨ret_int (by rw [List.take_length]), rfl⟩


theorem Min_any (a b : Int) (blk cap : Nat) (w : World) (h0 : w.cell? ⟨blk, 0, none⟩ = some (.int .i64 a)) (h1 : w.cell? ⟨blk, 1, none⟩ = some (.int .i64 b)) :
    Calls Try.prog 162 #[.slice (some ⟨blk, 0, none⟩) 2 cap] w fun e w' => e = .returned (.int .i64 (min a b)) ∧ w = w' := by
  go_enter Try.func162, Try.ntmps162
  go_wp2
  go_loop [3, 4] (fun m i => ∃ (k : Nat) (x : Int), i = .int .i64 k ∧ m = .int .i64 x ∧ (k = 1 ∧ x = a ∨ k = 2 ∧ x = min a b)) (fun _ i => 2 - (intOf i).toNat)
  case atStart => exact ⟨1, a, rfl, rfl, .inl ⟨rfl, rfl⟩⟩
  case round =>
    obtain ⟨k, x, rfl, rfl, hk⟩ := hrel
    rcases hk with ⟨rfl, rfl⟩ | ⟨rfl, hx⟩
    · go_wp2
      go_round
      case rel => exact ⟨2, min x b, by go_num, by rw [Int.min_def]; split <;> split <;> (try rfl) <;> (congr 1; omega), .inr ⟨rfl, rfl⟩⟩
      case measure => simp [intOf]
    · have HX := hid hx
      clear hx
      go_wp2
      go_ret
      exact ⟨ret_int HX.out, rfl⟩

theorem minimum_any (a b : Int) (blk cap : Nat) (w : World) (h0 : w.cell? ⟨blk, 0, none⟩ = some (.int .i64 a)) (h1 : w.cell? ⟨blk, 1, none⟩ = some (.int .i64 b)) :
    Calls Try.prog 113 #[.slice (some ⟨blk, 0, none⟩) 2 cap] w fun e w' => e = .returned (.int .i64 (min a b)) ∧ w = w' := by
  have H0 := hid h0
  have H1 := hid h1
  go_enter Try.func113, Try.ntmps113
  go_wp2_with (go_at_call 162; refine (Min_any a b _ _ _ H0.out H1.out).mono ?_; rintro e w' ⟨rfl, rfl⟩)
  go_ret
  exact ⟨rfl, rfl⟩

theorem minimum_hid {m : Int} (a b : Int) (HM : Hid (m = min a b)) (blk cap : Nat) (w : World) (h0 : w.cell? ⟨blk, 0, none⟩ = some (.int .i64 a)) (h1 : w.cell? ⟨blk, 1, none⟩ = some (.int .i64 b)) :
    Calls Try.prog 113 #[.slice (some ⟨blk, 0, none⟩) 2 cap] w fun e w' => e = .returned (.int .i64 m) ∧ w = w' := by
  rw [HM.out]; exact minimum_any a b blk cap w h0 h1

theorem wider_up (lo hi n m : Int) (HM : Hid (m = min lo n)) (hmx : hi < n) (w : World) :
    Calls Try.prog 131 #[.agg #[.int .i64 lo, .int .i64 hi], .int .i64 n] w fun e w' => e = .returned (.agg #[.int .i64 m, .int .i64 n]) ∧ Below w.heap.size w w' := by
  go_enter Try.func131, Try.ntmps131
  go_wp2
  go_region_held3 (fun w' => w'.cell? ⟨w.heap.size, 0, none⟩ = some (.int .i64 lo) ∧ w'.cell? ⟨w.heap.size, 1, none⟩ = some (.int .i64 hi)) (go_keep)
    (first | (go_at_call 113; refine (minimum_hid lo n HM _ _ _ (by go_simp) (by go_simp)).mono ?_; rintro e w' ⟨rfl, rfl⟩))
  all_goals go_wp2
  all_goals exact bodyPost_ret (v := .agg #[.int .i64 m, .int .i64 n]) (by simp [results, Try.results131, go_sem]) rfl ⟨rfl, (below_alloc3 (Nat.le_refl _) _ _ _).drew⟩

theorem wider_in (lo hi n m : Int) (HM : Hid (m = min lo n)) (hmx : ¬ hi < n) (w : World) :
    Calls Try.prog 131 #[.agg #[.int .i64 lo, .int .i64 hi], .int .i64 n] w fun e w' => e = .returned (.agg #[.int .i64 m, .int .i64 hi]) ∧ Below w.heap.size w w' := by
  go_enter Try.func131, Try.ntmps131
  go_wp2
  go_region_held3 (fun w' => w'.cell? ⟨w.heap.size, 0, none⟩ = some (.int .i64 lo) ∧ w'.cell? ⟨w.heap.size, 1, none⟩ = some (.int .i64 hi)) (go_keep)
    (first | (go_at_call 113; refine (minimum_hid lo n HM _ _ _ (by go_simp) (by go_simp)).mono ?_; rintro e w' ⟨rfl, rfl⟩))
  all_goals go_wp2
  all_goals exact bodyPost_ret (v := .agg #[.int .i64 m, .int .i64 hi]) (by simp [results, Try.results131, go_sem]) rfl ⟨rfl, (below_alloc3 (Nat.le_refl _) _ _ _).drew⟩

theorem wider_any (lo hi n : Int) (w : World) :
    Calls Try.prog 131 #[.agg #[.int .i64 lo, .int .i64 hi], .int .i64 n] w fun e w' => e = .returned (.agg #[.int .i64 (wider ⟨lo, hi⟩ n).lo, .int .i64 (wider ⟨lo, hi⟩ n).hi]) ∧ Below w.heap.size w w' := by
  by_cases hmx : hi < n
  · rw [show wider ⟨lo, hi⟩ n = ⟨min lo n, n⟩ by simp only [wider]; congr 1; omega]
    exact wider_up lo hi n _ (hid rfl) hmx w
  · rw [show wider ⟨lo, hi⟩ n = ⟨min lo n, hi⟩ by simp only [wider]; congr 1; omega]
    exact wider_in lo hi n _ (hid rfl) hmx w

end Go.Proofs.Ytjddcaimjofihaa

namespace Go.Proofs.Ytjddcaimjofihaa
open Go.RowKit
set_option maxRecDepth 100000

theorem all1I_any  (x : Int) (pb : Nat) (w : World)  (_ : pb < w.heap.size) (hp : w.cell? ⟨pb, 0, none⟩ = some (.func (.func 167) #[] #[])) :
    Calls Try.prog 187 #[.int .i64 x, .pointer (some ⟨pb, 0, none⟩)] w fun e w' => e = .returned (.bool (!isW x)) ∧ Below w.heap.size w w' := by
  go_enter Try.func187, Try.ntmps187
  go_wp2_with (go_at_call 167; refine (isW_any _ _).mono ?_; rintro e w' ⟨rfl, rfl⟩)
  go_ret
  exact ⟨rfl, Below.refl _ _⟩

theorem IndexFuncI_any  (l : List Int) (v : Value) (n pb : Nat) (w : World) (hn : n ≤ w.heap.size) (h : Ints (Lt n) w v l) (hll : l.length ≤ 1000)  (hpb : pb < w.heap.size) (hp : w.cell? ⟨pb, 0, none⟩ = some (.func (.func 167) #[] #[])) :
    Calls Try.prog 189 #[v, .func (.func 187) #[] #[.pointer (some ⟨pb, 0, none⟩)]] w fun e w' => e = .returned (.int .i64 (idxF (fun x => !isW x) l 0)) ∧ Below w.heap.size w w' := by
  obtain ⟨a, cap, rfl, hcap, ho⟩ := h.open1
  have HP := hid hp
  clear hp
  go_enter Try.func189, Try.ntmps189
  go_wp2
  go_loopw [8] (fun i wr => ∃ k : Nat, k ≤ l.length ∧ i = .int .i64 k ∧ Hid (idxF (fun x => !isW x) (l.drop k) k = idxF (fun x => !isW x) l 0) ∧ Below w.heap.size w wr) (fun i _ => l.length - (intOf i).toNat)
  case atStart => exact ⟨0, by omega, rfl, hid rfl, Below.refl _ _⟩
  case round =>
    obtain ⟨k, hk, rfl, HI, hb⟩ := hrel
    have hcc := (bcell hb).1
    have HPr := hid ((hcc pb 0 hpb).trans HP.out)
    by_cases hlt : k < l.length
    · have HD := hid (List.drop_eq_getElem_cons hlt)
      rcases ho with rfl | ⟨b, off, rfl, hbn, hc⟩
      · simp at hlt
      have hbw : b < w.heap.size := Nat.lt_of_lt_of_le hbn hn
      have c0 := (hcc b _ hbw).trans (hc k hlt)
      generalize l[k] = x at *
      clear hc
      have hpx : ∃ px, px = isW x := ⟨_, rfl⟩
      obtain ⟨px, hpx⟩ := hpx
      have HPX := hid hpx
      clear hpx hcap hcc
      cases px with
      | true =>
        go_wp2_with (go_at_call 187; refine (all1I_any x pb _  (Nat.lt_of_lt_of_le hpb hb.size) HPr.out).mono ?_; rw [← HPX.out]; rintro e w' ⟨rfl, hb2⟩)
        go_roundw
        case rel => exact ⟨k + 1, by omega, by go_num, hid (by have := HI.out; rw [HD.out, idxF, ← HPX.out] at this; simpa using this), below_after hb hb2 (Nat.le_refl _)⟩
        case measure => simp [intOf]; omega
      | false =>
        go_wp2_with (go_at_call 187; refine (all1I_any x pb _  (Nat.lt_of_lt_of_le hpb hb.size) HPr.out).mono ?_; rw [← HPX.out]; rintro e w' ⟨rfl, hb2⟩)
        go_ret
        exact ⟨ret_int (by have := HI.out; rw [HD.out, idxF, ← HPX.out] at this; simpa using this), below_after hb hb2 (Nat.le_refl _)⟩
    · have HE := hid (show l.drop k = [] from List.drop_eq_nil_of_le (by omega))
      go_wp2
      go_ret
      exact ⟨ret_int (by have := HI.out; rw [HE.out, idxF] at this; exact this), hb⟩

theorem ContainsFuncI_any  (l : List Int) (v : Value) (n pb : Nat) (w : World) (hn : n ≤ w.heap.size) (h : Ints (Lt n) w v l) (hll : l.length ≤ 1000)  (hpb : pb < w.heap.size) (hp : w.cell? ⟨pb, 0, none⟩ = some (.func (.func 167) #[] #[])) :
    Calls Try.prog 177 #[v, .func (.func 187) #[] #[.pointer (some ⟨pb, 0, none⟩)]] w fun e w' => e = .returned (.bool (l.any fun x => !isW x)) ∧ Below w.heap.size w w' := by
  have HR := hid (idxF_any (fun x => !isW x) l 0 (by omega))
  have HP := hid hp
  clear hp
  go_enter Try.func177, Try.ntmps177
  go_wp2_with (go_at_call 189; refine (IndexFuncI_any  l v n pb _ hn h hll  hpb HP.out).mono ?_; generalize hi : idxF (fun x => !isW x) l 0 = i; rintro e w' ⟨rfl, hb2⟩; rw [hi] at HR; clear hi)
  go_ret
  exact ⟨ret_bool HR.out, hb2⟩

theorem allI_any  (l : List Int) (v : Value) (n : Nat) (w : World) (hn : n ≤ w.heap.size) (h : Ints (Lt n) w v l) (hll : l.length ≤ 1000)  :
    Calls Try.prog 166 #[v, .func (.func 167) #[] #[]] w fun e w' => e = .returned (.bool (l.all fun x => isW x)) ∧ Below w.heap.size w w' := by
  have HR := hid (not_any_not (fun x => isW x) l)
  go_enter Try.func166, Try.ntmps166
  go_wp2_with (go_at_call 177; refine (ContainsFuncI_any  l v n w.heap.size _ (by simp; omega) (h.below (below_alloc1 hn _)) hll  (by simp) (by go_simp)).mono ?_; generalize hi : (l.any fun x => !isW x) = i; rintro e w' ⟨rfl, hb2⟩; rw [hi] at HR; clear hi)
  go_ret
  exact ⟨ret_bool HR.out, below_after (below_alloc1 (Nat.le_refl _) _) hb2 (Nat.le_refl _)⟩

theorem all1R_any  (x : Rg) (pb : Nat) (w : World)  (hpb : pb < w.heap.size) (hp : w.cell? ⟨pb, 0, none⟩ = some (.func (.func 110) #[] #[])) :
    Calls Try.prog 157 #[.agg #[.int .i64 x.lo, .int .i64 x.hi], .pointer (some ⟨pb, 0, none⟩)] w fun e w' => e = .returned (.bool (!strong x)) ∧ Below w.heap.size w w' := by
  go_enter Try.func157, Try.ntmps157
  go_wp2_with (go_at_call 110; refine (strong_any _ _ _).mono ?_; rintro e w' ⟨rfl, hb2⟩)
  go_ret
  exact ⟨rfl, below_after (below_alloc1 (Nat.le_refl _) _) hb2 (Nat.le_refl _)⟩

theorem IndexFuncR_any  (l : List Rg) (v : Value) (n pb : Nat) (w : World) (hn : n ≤ w.heap.size) (h : Rgs (Lt n) w v l) (hll : l.length ≤ 1000)  (hpb : pb < w.heap.size) (hp : w.cell? ⟨pb, 0, none⟩ = some (.func (.func 110) #[] #[])) :
    Calls Try.prog 183 #[v, .func (.func 157) #[] #[.pointer (some ⟨pb, 0, none⟩)]] w fun e w' => e = .returned (.int .i64 (idxF (fun x => !strong x) l 0)) ∧ Below w.heap.size w w' := by
  obtain ⟨a, cap, rfl, hcap, ho⟩ := h.open2
  have HP := hid hp
  clear hp
  go_enter Try.func183, Try.ntmps183
  go_wp2
  go_loopw [8] (fun i wr => ∃ k : Nat, k ≤ l.length ∧ i = .int .i64 k ∧ Hid (idxF (fun x => !strong x) (l.drop k) k = idxF (fun x => !strong x) l 0) ∧ Below w.heap.size w wr) (fun i _ => l.length - (intOf i).toNat)
  case atStart => exact ⟨0, by omega, rfl, hid rfl, Below.refl _ _⟩
  case round =>
    obtain ⟨k, hk, rfl, HI, hb⟩ := hrel
    have hcc := (bcell hb).1
    have HPr := hid ((hcc pb 0 hpb).trans HP.out)
    by_cases hlt : k < l.length
    · have HD := hid (List.drop_eq_getElem_cons hlt)
      rcases ho with rfl | ⟨b, off, rfl, hbn, hc⟩
      · simp at hlt
      have hbw : b < w.heap.size := Nat.lt_of_lt_of_le hbn hn
      obtain ⟨c0, c1⟩ := hc k hlt
      replace c0 := (hcc b _ hbw).trans c0
      replace c1 := (hcc b _ hbw).trans c1
      generalize l[k] = x at *
      clear hc
      have hpx : ∃ px, px = strong x := ⟨_, rfl⟩
      obtain ⟨px, hpx⟩ := hpx
      have HPX := hid hpx
      clear hpx hcap hcc
      cases px with
      | true =>
        go_wp2_with (go_at_call 157; refine (all1R_any x pb _  (Nat.lt_of_lt_of_le hpb hb.size) HPr.out).mono ?_; rw [← HPX.out]; rintro e w' ⟨rfl, hb2⟩)
        go_roundw
        case rel => exact ⟨k + 1, by omega, by go_num, hid (by have := HI.out; rw [HD.out, idxF, ← HPX.out] at this; simpa using this), below_after hb hb2 (Nat.le_refl _)⟩
        case measure => simp [intOf]; omega
      | false =>
        go_wp2_with (go_at_call 157; refine (all1R_any x pb _  (Nat.lt_of_lt_of_le hpb hb.size) HPr.out).mono ?_; rw [← HPX.out]; rintro e w' ⟨rfl, hb2⟩)
        go_ret
        exact ⟨ret_int (by have := HI.out; rw [HD.out, idxF, ← HPX.out] at this; simpa using this), below_after hb hb2 (Nat.le_refl _)⟩
    · have HE := hid (show l.drop k = [] from List.drop_eq_nil_of_le (by omega))
      go_wp2
      go_ret
      exact ⟨ret_int (by have := HI.out; rw [HE.out, idxF] at this; exact this), hb⟩

theorem ContainsFuncR_any  (l : List Rg) (v : Value) (n pb : Nat) (w : World) (hn : n ≤ w.heap.size) (h : Rgs (Lt n) w v l) (hll : l.length ≤ 1000)  (hpb : pb < w.heap.size) (hp : w.cell? ⟨pb, 0, none⟩ = some (.func (.func 110) #[] #[])) :
    Calls Try.prog 156 #[v, .func (.func 157) #[] #[.pointer (some ⟨pb, 0, none⟩)]] w fun e w' => e = .returned (.bool (l.any fun x => !strong x)) ∧ Below w.heap.size w w' := by
  have HR := hid (idxF_any (fun x => !strong x) l 0 (by omega))
  have HP := hid hp
  clear hp
  go_enter Try.func156, Try.ntmps156
  go_wp2_with (go_at_call 183; refine (IndexFuncR_any  l v n pb _ hn h hll  hpb HP.out).mono ?_; generalize hi : idxF (fun x => !strong x) l 0 = i; rintro e w' ⟨rfl, hb2⟩; rw [hi] at HR; clear hi)
  go_ret
  exact ⟨ret_bool HR.out, hb2⟩

theorem allR_any  (l : List Rg) (v : Value) (n : Nat) (w : World) (hn : n ≤ w.heap.size) (h : Rgs (Lt n) w v l) (hll : l.length ≤ 1000)  :
    Calls Try.prog 109 #[v, .func (.func 110) #[] #[]] w fun e w' => e = .returned (.bool (l.all fun x => strong x)) ∧ Below w.heap.size w w' := by
  have HR := hid (not_any_not (fun x => strong x) l)
  go_enter Try.func109, Try.ntmps109
  go_wp2_with (go_at_call 156; refine (ContainsFuncR_any  l v n w.heap.size _ (by simp; omega) (h.below (below_alloc1 hn _)) hll  (by simp) (by go_simp)).mono ?_; generalize hi : (l.any fun x => !strong x) = i; rintro e w' ⟨rfl, hb2⟩; rw [hi] at HR; clear hi)
  go_ret
  exact ⟨ret_bool HR.out, below_after (below_alloc1 (Nat.le_refl _) _) hb2 (Nat.le_refl _)⟩

end Go.Proofs.Ytjddcaimjofihaa

namespace Go.Proofs.Ytjddcaimjofihaa
open Go.RowKit
set_option maxRecDepth 100000

theorem weights_any (hl : Nat) (ha : Option Addr) (hcap : Nat) (kv tv : Value) (l : List Int) (v : Value) (n : Nat) (w : World) (_ : hl ≤ 1000) (hn : n ≤ w.heap.size) (h : Ints (Lt n) w v l) (hlen : l.length ≤ 1000) :
    Calls Try.prog 121 #[.agg #[.slice ha hl hcap, kv, tv], v] w fun e w' => e = .returned (.bool (weightsB hl l)) ∧ Below w.heap.size w w' := by
  obtain ⟨a, cap, rfl, hcap', -⟩ := h.open1
  by_cases hk : l.length = hl
  · have HR := hid (show weightsB hl l = l.all isW by simp [weightsB, hk])
    have hk1 : ((l.length : Int) == (hl : Int)) = true := by simp [hk]
    have HK := hid hk
    clear hk
    go_enter Try.func121, Try.ntmps121
    go_wp2_with (go_at_call 166; refine (allI_any l _ n _ (by simp; omega) (h.below (below_alloc1 hn _)) hlen).mono ?_; rintro e w' ⟨rfl, hb2⟩)
    go_ret
    exact ⟨ret_bool HR.out.symm, below_after (below_alloc1 (Nat.le_refl _) _) hb2 (Nat.le_refl _)⟩
  · have HR := hid (show weightsB hl l = false by simp [weightsB, hk])
    have hk1 : ((l.length : Int) == (hl : Int)) = false := by simp; omega
    clear hk
    go_enter Try.func121, Try.ntmps121
    go_wp2
    go_ret
    exact ⟨ret_bool HR.out.symm, below_alloc1 (Nat.le_refl _) _⟩

theorem isW_bd {l : List Int} {k : Nat} (h : weightsB k l = true) : ∀ x ∈ l, 0 ≤ x ∧ x ≤ 1000 := by
  intro x hx
  have := List.all_eq_true.1 (Bool.and_eq_true_iff.1 h).2 x hx
  have := within_iff.1 this
  omega

theorem isCask_any (hl : Nat) (ha : Option Addr) (hcap : Nat) (kv tv : Value) (l : List Int) (v : Value) (n : Nat) (w : World) (hhl : hl ≤ 1000) (hn : n ≤ w.heap.size) (h : Ints (Lt n) w v l) (hlen : l.length ≤ 1000) :
    Calls Try.prog 108 #[.agg #[.slice ha hl hcap, kv, tv], v] w fun e w' => e = .returned (.bool (isCask hl l)) ∧ Below w.heap.size w w' := by
  obtain ⟨wb, hwb⟩ : ∃ wb, wb = weightsB hl l := ⟨_, rfl⟩
  have HR := hid (show isCask hl l = (wb && decide (0 < sumI l)) by rw [hwb]; rfl)
  have HW := hid hwb
  clear hwb
  cases wb
  · go_enter Try.func108, Try.ntmps108
    go_wp2_with (go_at_call 121; refine (weights_any hl ha hcap kv tv l v n _ hhl (by simp; omega) (h.below (below_alloc1 hn _)) hlen).mono ?_; rw [← HW.out]; rintro e w' ⟨rfl, hb2⟩)
    go_ret
    exact ⟨ret_bool (by rw [HR.out]; rfl), below_after (below_alloc1 (Nat.le_refl _) _) hb2 (Nat.le_refl _)⟩
  · have hbd := hid (isW_bd HW.out.symm)
    go_enter Try.func108, Try.ntmps108
    go_wp2_with (first
      | (go_at_call 121; refine (weights_any hl ha hcap kv tv l v n _ hhl (by simp; omega) (h.below (below_alloc1 hn _)) hlen).mono ?_; rw [← HW.out]; rintro e w' ⟨rfl, hb2⟩; have hb3 := below_after (below_alloc1 hn _) hb2 hn)
      | (go_at_call 122; refine (sum_any l v n _ (h.below hb3) hlen hbd.out).mono ?_; rintro e w' ⟨rfl, rfl⟩))
    go_ret
    exact ⟨ret_bool (by rw [HR.out]; rfl), below_after (below_alloc1 (Nat.le_refl _) _) hb2 (Nat.le_refl _)⟩

theorem thing_any (hl : Nat) (ha : Option Addr) (hcap : Nat) (kv tv : Value) (t : Tl) (w : World) (hhl : hl ≤ 1000) (ht : 0 ≤ t.num ∧ t.num ≤ 1000) :
    Calls Try.prog 164 #[.agg #[.slice ha hl hcap, kv, tv], .agg #[.bool t.cask, .int .i64 t.num, .int .i64 t.s.lo, .int .i64 t.s.hi]] w fun e w' => e = .returned (.int .i64 (thing hl t)) ∧ Below w.heap.size w w' := by
  obtain ⟨hc1, hc2⟩ := ht
  obtain ⟨ck, nm, ⟨lo, hi⟩⟩ := t
  cases ck
  · go_enter Try.func164, Try.ntmps164
    go_wp2
    go_ret
    exact ⟨ret_int (by simp [thing]), below_alloc2 (Nat.le_refl _) _ _⟩
  · simp only at hc1 hc2
    go_enter Try.func164, Try.ntmps164
    go_wp2
    go_ret
    exact ⟨ret_int (by simp [thing]), below_alloc2 (Nat.le_refl _) _ _⟩

theorem isThing_any (hl kl : Nat) (ha ka : Option Addr) (hcap kcap : Nat) (tv : Value) (t : Int) (w : World) (hhl : hl ≤ 1000) (hkl : kl ≤ 1000) :
    Calls Try.prog 127 #[.agg #[.slice ha hl hcap, .slice ka kl kcap, tv], .int .i64 t] w fun e w' => e = .returned (.bool (within t 0 (hl + kl - 1))) ∧ Below w.heap.size w w' := by
  go_enter Try.func127, Try.ntmps127
  go_wp2_with (go_at_call 85; refine (within_any _ _ _ _).mono ?_; rintro e w' ⟨rfl, rfl⟩)
  go_ret
  exact ⟨rfl, below_alloc1 (Nat.le_refl _) _⟩

theorem trial_any (c : Ce) (ha ka : Option Addr) (hcap kcap : Nat) (tv : Value) (t : Tl) (w : World) (hhl : c.heaps.length ≤ 1000) (hkl : c.casks.length ≤ 1000) :
    Calls Try.prog 107 #[.agg #[.slice ha c.heaps.length hcap, .slice ka c.casks.length kcap, tv], .agg #[.bool t.cask, .int .i64 t.num, .int .i64 t.s.lo, .int .i64 t.s.hi]] w fun e w' => e = .returned (.bool (trialB c t)) ∧ Below w.heap.size w w' := by
  obtain ⟨ck, nm, s⟩ := t
  cases ck
  · obtain ⟨wb, hwb⟩ : ∃ wb, wb = within nm 0 ((c.heaps.length : Int) - 1) := ⟨_, rfl⟩
    have HR := hid (show trialB c ⟨false, nm, s⟩ = (wb && strong s) by rw [hwb]; rfl)
    generalize c.heaps.length = hl at *
    generalize c.casks.length = kl at *
    have HW := hid hwb
    clear hwb
    cases wb
    all_goals
      go_enter Try.func107, Try.ntmps107
      go_wp2_with (first
        | (go_at_call 85; refine (within_any _ _ _ _).mono ?_; rw [← HW.out]; rintro e w' ⟨rfl, rfl⟩)
        | (go_at_call 110; refine (strong_any _ _ _).mono ?_; rintro e w' ⟨rfl, hb2⟩))
      go_ret
      first
        | exact ⟨ret_bool (by rw [HR.out]; rfl), below_alloc2 (Nat.le_refl _) _ _⟩
        | exact ⟨ret_bool (by rw [HR.out]; rfl), below_after (below_alloc2 (Nat.le_refl _) _ _) hb2 (Nat.le_refl _)⟩
  · obtain ⟨wb, hwb⟩ : ∃ wb, wb = within nm 0 ((c.casks.length : Int) - 1) := ⟨_, rfl⟩
    have HR := hid (show trialB c ⟨true, nm, s⟩ = (wb && strong s) by rw [hwb]; rfl)
    generalize c.heaps.length = hl at *
    generalize c.casks.length = kl at *
    have HW := hid hwb
    clear hwb
    cases wb
    all_goals
      go_enter Try.func107, Try.ntmps107
      go_wp2_with (first
        | (go_at_call 85; refine (within_any _ _ _ _).mono ?_; rw [← HW.out]; rintro e w' ⟨rfl, rfl⟩)
        | (go_at_call 110; refine (strong_any _ _ _).mono ?_; rintro e w' ⟨rfl, hb2⟩))
      go_ret
      first
        | exact ⟨ret_bool (by rw [HR.out]; rfl), below_alloc2 (Nat.le_refl _) _ _⟩
        | exact ⟨ret_bool (by rw [HR.out]; rfl), below_after (below_alloc2 (Nat.le_refl _) _ _) hb2 (Nat.le_refl _)⟩

theorem all1L_any (hl : Nat) (ha : Option Addr) (hca : Nat) (kv tv : Value) (hhl : hl ≤ 1000) (x : List Int) (xv : Value) (n : Nat) (pb : Nat) (w : World) (hn : n ≤ w.heap.size) (hx : Ints (Lt n) w xv x) (hxl : x.length ≤ 1000) (_ : pb < w.heap.size) (hp : w.cell? ⟨pb, 0, none⟩ = some (.func (.func 108) #[.agg #[.slice ha hl hca, kv, tv]] #[])) :
    Calls Try.prog 159 #[xv, .pointer (some ⟨pb, 0, none⟩)] w fun e w' => e = .returned (.bool (!isCask hl x)) ∧ Below w.heap.size w w' := by
  obtain ⟨xa, xc, rfl, -, -⟩ := hx.open1
  go_enter Try.func159, Try.ntmps159
  go_wp2_with (go_at_call 108; refine (isCask_any hl ha hca kv tv x _ n _ hhl hn hx hxl).mono ?_; rintro e w' ⟨rfl, hb2⟩)
  go_ret
  exact ⟨rfl, hb2⟩

theorem IndexFuncL_any (hl : Nat) (ha : Option Addr) (hca : Nat) (kv tv : Value) (hhl : hl ≤ 1000) (l : List (List Int)) (v : Value) (n pb : Nat) (w : World) (hn : n ≤ w.heap.size) (h : Lss (Lt n) w v l) (hll : l.length ≤ 1000) (hls : ∀ x ∈ l, x.length ≤ 1000) (hpb : pb < w.heap.size) (hp : w.cell? ⟨pb, 0, none⟩ = some (.func (.func 108) #[.agg #[.slice ha hl hca, kv, tv]] #[])) :
    Calls Try.prog 184 #[v, .func (.func 159) #[] #[.pointer (some ⟨pb, 0, none⟩)]] w fun e w' => e = .returned (.int .i64 (idxF (fun x => !isCask hl x) l 0)) ∧ Below w.heap.size w w' := by
  obtain ⟨a, cap, rfl, hcap, ho⟩ := h.open
  have HP := hid hp
  clear hp
  go_enter Try.func184, Try.ntmps184
  go_wp2
  go_loopw [8] (fun i wr => ∃ k : Nat, k ≤ l.length ∧ i = .int .i64 k ∧ Hid (idxF (fun x => !isCask hl x) (l.drop k) k = idxF (fun x => !isCask hl x) l 0) ∧ Below w.heap.size w wr) (fun i _ => l.length - (intOf i).toNat)
  case atStart => exact ⟨0, by omega, rfl, hid rfl, Below.refl _ _⟩
  case round =>
    obtain ⟨k, hk, rfl, HI, hb⟩ := hrel
    have hcc := (bcell hb).1
    have HPr := hid ((hcc pb 0 hpb).trans HP.out)
    by_cases hlt : k < l.length
    · have HD := hid (List.drop_eq_getElem_cons hlt)
      rcases ho with rfl | ⟨b, off, rfl, hbn, hc⟩
      · simp at hlt
      have hbw : b < w.heap.size := Nat.lt_of_lt_of_le hbn hn
      obtain ⟨xv, c0, hx0⟩ := hc k hlt
      replace c0 := (hcc b _ hbw).trans c0
      have hxl := hls l[k] (List.getElem_mem _)
      generalize l[k] = x at *
      clear hc
      have hpx : ∃ px, px = isCask hl x := ⟨_, rfl⟩
      obtain ⟨px, hpx⟩ := hpx
      have HPX := hid hpx
      clear hpx hcap hcc
      cases px with
      | true =>
        go_wp2_with (go_at_call 159; refine (all1L_any hl ha hca kv tv hhl x xv n pb _ (Nat.le_trans hn hb.size) (hx0.below (hb.mono hn)) hxl (Nat.lt_of_lt_of_le hpb hb.size) HPr.out).mono ?_; rw [← HPX.out]; rintro e w' ⟨rfl, hb2⟩)
        go_roundw
        case rel => exact ⟨k + 1, by omega, by go_num, hid (by have := HI.out; rw [HD.out, idxF, ← HPX.out] at this; simpa using this), below_after hb hb2 (Nat.le_refl _)⟩
        case measure => simp [intOf]; omega
      | false =>
        go_wp2_with (go_at_call 159; refine (all1L_any hl ha hca kv tv hhl x xv n pb _ (Nat.le_trans hn hb.size) (hx0.below (hb.mono hn)) hxl (Nat.lt_of_lt_of_le hpb hb.size) HPr.out).mono ?_; rw [← HPX.out]; rintro e w' ⟨rfl, hb2⟩)
        go_ret
        exact ⟨ret_int (by have := HI.out; rw [HD.out, idxF, ← HPX.out] at this; simpa using this), below_after hb hb2 (Nat.le_refl _)⟩
    · have HE := hid (show l.drop k = [] from List.drop_eq_nil_of_le (by omega))
      go_wp2
      go_ret
      exact ⟨ret_int (by have := HI.out; rw [HE.out, idxF] at this; exact this), hb⟩

theorem ContainsFuncL_any (hl : Nat) (ha : Option Addr) (hca : Nat) (kv tv : Value) (hhl : hl ≤ 1000) (l : List (List Int)) (v : Value) (n pb : Nat) (w : World) (hn : n ≤ w.heap.size) (h : Lss (Lt n) w v l) (hll : l.length ≤ 1000) (hls : ∀ x ∈ l, x.length ≤ 1000) (hpb : pb < w.heap.size) (hp : w.cell? ⟨pb, 0, none⟩ = some (.func (.func 108) #[.agg #[.slice ha hl hca, kv, tv]] #[])) :
    Calls Try.prog 158 #[v, .func (.func 159) #[] #[.pointer (some ⟨pb, 0, none⟩)]] w fun e w' => e = .returned (.bool (l.any fun x => !isCask hl x)) ∧ Below w.heap.size w w' := by
  have HR := hid (idxF_any (fun x => !isCask hl x) l 0 (by omega))
  have HP := hid hp
  clear hp
  go_enter Try.func158, Try.ntmps158
  go_wp2_with (go_at_call 184; refine (IndexFuncL_any hl ha hca kv tv hhl l v n pb _ hn h hll hls hpb HP.out).mono ?_; generalize hi : idxF (fun x => !isCask hl x) l 0 = i; rintro e w' ⟨rfl, hb2⟩; rw [hi] at HR; clear hi)
  go_ret
  exact ⟨ret_bool HR.out, hb2⟩

theorem allL_any (hl : Nat) (ha : Option Addr) (hca : Nat) (kv tv : Value) (hhl : hl ≤ 1000) (l : List (List Int)) (v : Value) (n : Nat) (w : World) (hn : n ≤ w.heap.size) (h : Lss (Lt n) w v l) (hll : l.length ≤ 1000) (hls : ∀ x ∈ l, x.length ≤ 1000) :
    Calls Try.prog 111 #[v, .func (.func 108) #[.agg #[.slice ha hl hca, kv, tv]] #[]] w fun e w' => e = .returned (.bool (l.all fun x => isCask hl x)) ∧ Below w.heap.size w w' := by
  have HR := hid (not_any_not (fun x => isCask hl x) l)
  go_enter Try.func111, Try.ntmps111
  go_wp2_with (go_at_call 158; refine (ContainsFuncL_any hl ha hca kv tv hhl l v n w.heap.size _ (by simp; omega) (h.below (below_alloc1 hn _)) hll hls (by simp) (by go_simp)).mono ?_; generalize hi : (l.any fun x => !isCask hl x) = i; rintro e w' ⟨rfl, hb2⟩; rw [hi] at HR; clear hi)
  go_ret
  exact ⟨ret_bool HR.out, below_after (below_alloc1 (Nat.le_refl _) _) hb2 (Nat.le_refl _)⟩

theorem all1T_any (c : Ce) (ha ka : Option Addr) (hca kca : Nat) (tv : Value) (hhl : c.heaps.length ≤ 1000) (hkl : c.casks.length ≤ 1000) (x : Tl) (pb : Nat) (w : World)  (hpb : pb < w.heap.size) (hp : w.cell? ⟨pb, 0, none⟩ = some (.func (.func 107) #[.agg #[.slice ha c.heaps.length hca, .slice ka c.casks.length kca, tv]] #[])) :
    Calls Try.prog 161 #[.agg #[.bool x.cask, .int .i64 x.num, .int .i64 x.s.lo, .int .i64 x.s.hi], .pointer (some ⟨pb, 0, none⟩)] w fun e w' => e = .returned (.bool (!trialB c x)) ∧ Below w.heap.size w w' := by
  go_enter Try.func161, Try.ntmps161
  go_wp2_with (go_at_call 107; refine (trial_any c ha ka hca kca tv x _ hhl hkl).mono ?_; rintro e w' ⟨rfl, hb2⟩)
  go_ret
  exact ⟨rfl, below_after (below_alloc1 (Nat.le_refl _) _) hb2 (Nat.le_refl _)⟩

theorem IndexFuncT_any (c : Ce) (ha ka : Option Addr) (hca kca : Nat) (tv : Value) (hhl : c.heaps.length ≤ 1000) (hkl : c.casks.length ≤ 1000) (l : List Tl) (v : Value) (n pb : Nat) (w : World) (hn : n ≤ w.heap.size) (h : Tls (Lt n) w v l) (hll : l.length ≤ 1000)  (hpb : pb < w.heap.size) (hp : w.cell? ⟨pb, 0, none⟩ = some (.func (.func 107) #[.agg #[.slice ha c.heaps.length hca, .slice ka c.casks.length kca, tv]] #[])) :
    Calls Try.prog 185 #[v, .func (.func 161) #[] #[.pointer (some ⟨pb, 0, none⟩)]] w fun e w' => e = .returned (.int .i64 (idxF (fun x => !trialB c x) l 0)) ∧ Below w.heap.size w w' := by
  obtain ⟨a, cap, rfl, hcap, ho⟩ := h.open4
  have HP := hid hp
  clear hp
  go_enter Try.func185, Try.ntmps185
  go_wp2
  go_loopw [8] (fun i wr => ∃ k : Nat, k ≤ l.length ∧ i = .int .i64 k ∧ Hid (idxF (fun x => !trialB c x) (l.drop k) k = idxF (fun x => !trialB c x) l 0) ∧ Below w.heap.size w wr) (fun i _ => l.length - (intOf i).toNat)
  case atStart => exact ⟨0, by omega, rfl, hid rfl, Below.refl _ _⟩
  case round =>
    obtain ⟨k, hk, rfl, HI, hb⟩ := hrel
    have hcc := (bcell hb).1
    have HPr := hid ((hcc pb 0 hpb).trans HP.out)
    by_cases hlt : k < l.length
    · have HD := hid (List.drop_eq_getElem_cons hlt)
      rcases ho with rfl | ⟨b, off, rfl, hbn, hc⟩
      · simp at hlt
      have hbw : b < w.heap.size := Nat.lt_of_lt_of_le hbn hn
      obtain ⟨c0, c1, c2, c3⟩ := hc k hlt
      replace c0 := (hcc b _ hbw).trans c0
      replace c1 := (hcc b _ hbw).trans c1
      replace c2 := (hcc b _ hbw).trans c2
      replace c3 := (hcc b _ hbw).trans c3
      generalize l[k] = x at *
      clear hc
      have hpx : ∃ px, px = trialB c x := ⟨_, rfl⟩
      obtain ⟨px, hpx⟩ := hpx
      have HPX := hid hpx
      clear hpx hcap hcc
      cases px with
      | true =>
        go_wp2_with (go_at_call 161; refine (all1T_any c ha ka hca kca tv hhl hkl x pb _  (Nat.lt_of_lt_of_le hpb hb.size) HPr.out).mono ?_; rw [← HPX.out]; rintro e w' ⟨rfl, hb2⟩)
        go_roundw
        case rel => exact ⟨k + 1, by omega, by go_num, hid (by have := HI.out; rw [HD.out, idxF, ← HPX.out] at this; simpa using this), below_after hb hb2 (Nat.le_refl _)⟩
        case measure => simp [intOf]; omega
      | false =>
        go_wp2_with (go_at_call 161; refine (all1T_any c ha ka hca kca tv hhl hkl x pb _  (Nat.lt_of_lt_of_le hpb hb.size) HPr.out).mono ?_; rw [← HPX.out]; rintro e w' ⟨rfl, hb2⟩)
        go_ret
        exact ⟨ret_int (by have := HI.out; rw [HD.out, idxF, ← HPX.out] at this; simpa using this), below_after hb hb2 (Nat.le_refl _)⟩
    · have HE := hid (show l.drop k = [] from List.drop_eq_nil_of_le (by omega))
      go_wp2
      go_ret
      exact ⟨ret_int (by have := HI.out; rw [HE.out, idxF] at this; exact this), hb⟩

theorem ContainsFuncT_any (c : Ce) (ha ka : Option Addr) (hca kca : Nat) (tv : Value) (hhl : c.heaps.length ≤ 1000) (hkl : c.casks.length ≤ 1000) (l : List Tl) (v : Value) (n pb : Nat) (w : World) (hn : n ≤ w.heap.size) (h : Tls (Lt n) w v l) (hll : l.length ≤ 1000)  (hpb : pb < w.heap.size) (hp : w.cell? ⟨pb, 0, none⟩ = some (.func (.func 107) #[.agg #[.slice ha c.heaps.length hca, .slice ka c.casks.length kca, tv]] #[])) :
    Calls Try.prog 160 #[v, .func (.func 161) #[] #[.pointer (some ⟨pb, 0, none⟩)]] w fun e w' => e = .returned (.bool (l.any fun x => !trialB c x)) ∧ Below w.heap.size w w' := by
  have HR := hid (idxF_any (fun x => !trialB c x) l 0 (by omega))
  have HP := hid hp
  clear hp
  go_enter Try.func160, Try.ntmps160
  go_wp2_with (go_at_call 185; refine (IndexFuncT_any c ha ka hca kca tv hhl hkl l v n pb _ hn h hll  hpb HP.out).mono ?_; generalize hi : idxF (fun x => !trialB c x) l 0 = i; rintro e w' ⟨rfl, hb2⟩; rw [hi] at HR; clear hi)
  go_ret
  exact ⟨ret_bool HR.out, hb2⟩

theorem allT_any (c : Ce) (ha ka : Option Addr) (hca kca : Nat) (tv : Value) (hhl : c.heaps.length ≤ 1000) (hkl : c.casks.length ≤ 1000) (l : List Tl) (v : Value) (n : Nat) (w : World) (hn : n ≤ w.heap.size) (h : Tls (Lt n) w v l) (hll : l.length ≤ 1000)  :
    Calls Try.prog 112 #[v, .func (.func 107) #[.agg #[.slice ha c.heaps.length hca, .slice ka c.casks.length kca, tv]] #[]] w fun e w' => e = .returned (.bool (l.all fun x => trialB c x)) ∧ Below w.heap.size w w' := by
  have HR := hid (not_any_not (fun x => trialB c x) l)
  go_enter Try.func112, Try.ntmps112
  go_wp2_with (go_at_call 160; refine (ContainsFuncT_any c ha ka hca kca tv hhl hkl l v n w.heap.size _ (by simp; omega) (h.below (below_alloc1 hn _)) hll  (by simp) (by go_simp)).mono ?_; generalize hi : (l.any fun x => !trialB c x) = i; rintro e w' ⟨rfl, hb2⟩; rw [hi] at HR; clear hi)
  go_ret
  exact ⟨ret_bool HR.out, below_after (below_alloc1 (Nat.le_refl _) _) hb2 (Nat.le_refl _)⟩

end Go.Proofs.Ytjddcaimjofihaa

namespace Go.Proofs.Ytjddcaimjofihaa
open Go.RowKit
set_option maxRecDepth 100000

structure Small (c : Ce) : Prop where
  heaps : c.heaps.length ≤ 1000
  casks : c.casks.length ≤ 1000
  trials : c.trials.length ≤ 1000
  cask : ∀ l ∈ c.casks, l.length ≤ 1000

theorem check_sizes (c : Ce) (v : Value) (n : Nat) (w : World) (_ : n ≤ w.heap.size) (h : CeV (Lt n) w v c) (hsm : Small c) (hs : sizes c = true) :
    Calls Try.prog 57 #[v] w fun e w' => e = .returned (.int .i64 3) ∧ Below w.heap.size w w' := by
  obtain ⟨ha, hc, ka, kc, ta, tc, rfl, -, -, -⟩ := h.open
  obtain ⟨s1, s2, s3, -⟩ := hsm
  have hmf : ∀ (fn : Fn) (first cap : Array Value) (w : World), (Instr.makeFunc fn first cap).run Try.prog w = .ok (.func fn first cap) w := fun _ _ _ _ => rfl
  simp only [sizes, Bool.or_eq_true, decide_eq_true_eq] at hs
  generalize c.heaps.length = hl at *
  generalize c.casks.length = kl at *
  generalize c.trials.length = tl at *
  have hs' : (3 < hl) ∨ (¬ 3 < hl ∧ 3 < kl) ∨ (¬ 3 < hl ∧ ¬ 3 < kl ∧ 5 < tl) := by omega
  clear hs
  rcases hs' with h1 | ⟨h1, h2⟩ | ⟨h1, h2, h3⟩
  all_goals
    go_enter Try.func57, Try.ntmps57
    go_wp2
    go_region
    go_wp2
    go_ret
    exact ⟨rfl, (below_alloc1 (Nat.le_refl _) _).drew⟩

theorem manyTo_bd (l : List Rg) (hr : ∀ r ∈ l, 0 ≤ size r) : ∀ m, 0 ≤ m → m ≤ 2001 → 0 ≤ manyTo 2001 l m ∧ manyTo 2001 l m ≤ 2001 := by
  induction l with
  | nil => intro m h1 h2; exact ⟨h1, h2⟩
  | cons r l ih =>
    intro m h1 h2
    have h0 := hr r (by simp)
    have := Int.mul_nonneg h1 h0
    exact ih (fun r hr' => hr r (by simp [hr'])) _ (by omega) (by omega)

set_option maxHeartbeats 1000000 in
theorem check_parts (c : Ce) (v : Value) (n : Nat) (w : World) (hn : n ≤ w.heap.size) (h : CeV (Lt n) w v c) (hsm : Small c) (hs : sizes c = false) (hp : partsOk c = false) :
    Calls Try.prog 57 #[v] w fun e w' => e = .returned (.int .i64 1) ∧ Below w.heap.size w w' := by
  obtain ⟨ha, hc, ka, kc, ta, tc, rfl, H1, H2, H3⟩ := h.open
  obtain ⟨s1, s2, s3, s4⟩ := hsm
  have hmf : ∀ (fn : Fn) (first cap : Array Value) (w : World), (Instr.makeFunc fn first cap).run Try.prog w = .ok (.func fn first cap) w := fun _ _ _ _ => rfl
  simp only [sizes, Bool.or_eq_false_iff, decide_eq_false_iff_not] at hs
  obtain ⟨⟨hs1, hs2⟩, hs3⟩ := hs
  have S4 := hid s4
  clear s4
  obtain ⟨x0, hx0⟩ : ∃ x0, x0 = (c.heaps.length == 0) := ⟨_, rfl⟩
  obtain ⟨x1, hx1⟩ : ∃ x1, x1 = c.heaps.all strong := ⟨_, rfl⟩
  obtain ⟨x2, hx2⟩ : ∃ x2, x2 = c.casks.all (isCask c.heaps.length) := ⟨_, rfl⟩
  obtain ⟨x3, hx3⟩ : ∃ x3, x3 = c.trials.all (trialB c) := ⟨_, rfl⟩
  rw [partsOk, ← hx0, ← hx1, ← hx2, ← hx3] at hp
  have hz : ((c.heaps.length : Int) == 0) = x0 := by rw [hx0]; rw [Bool.eq_iff_iff]; simp
  have X1 := hid hx1
  have X2 := hid hx2
  have X3 := hid hx3
  clear hx0 hx1 hx2 hx3
  have hb1 := fun o => (below_alloc1 hn o).drew
  have hcase : (x0 = true) ∨ (x0 = false ∧ x1 = false) ∨ (x0 = false ∧ x1 = true ∧ x2 = false) ∨ (x0 = false ∧ x1 = true ∧ x2 = true ∧ x3 = false) := by
    revert hp; cases x0 <;> cases x1 <;> cases x2 <;> cases x3 <;> simp
  clear hp
  rcases hcase with rfl | ⟨rfl, rfl⟩ | ⟨rfl, rfl, rfl⟩ | ⟨rfl, rfl, rfl, rfl⟩
  all_goals
    go_enter Try.func57, Try.ntmps57
    go_wp2
    go_region
    go_wp2_with (first
      | (go_at_call 109; refine (allR_any c.heaps _ n _ (by simp; omega) (H1.below (hb1 _)) s1).mono ?_; rw [← X1.out]; rintro e w2 ⟨rfl, hb2⟩; have hb3 := below_after (hb1 _) hb2 hn; obtain ⟨hc2, hf2⟩ := bcell hb2; have hz2 : w.heap.size < w2.heap.size := (by have := hb2.size; simp at this; omega))
      | (go_at_call 111; refine (allL_any c.heaps.length ha hc (.slice ka c.casks.length kc) (.slice ta c.trials.length tc) s1 c.casks _ n _ (by omega) (H2.below hb3) s2 S4.out).mono ?_; rw [← X2.out]; rintro e w3 ⟨rfl, hb4⟩; have hb5 := below_after hb3 hb4 hn; obtain ⟨hc4, hf4⟩ := bcell hb4; have hz4 : w.heap.size < w3.heap.size := (by have := hb4.size; omega))
      | (go_at_call 112; refine (allT_any c ha ka hc kc (.slice ta c.trials.length tc) s1 s2 c.trials _ n _ (by omega) (H3.below hb5) s3).mono ?_; rw [← X3.out]; rintro e w4 ⟨rfl, hb6⟩))
    go_ret
    first
      | exact ⟨rfl, (below_alloc1 (Nat.le_refl _) _).drew⟩
      | exact ⟨rfl, below_after (below_alloc1 (Nat.le_refl _) _).drew hb2 (Nat.le_refl _)⟩
      | exact ⟨rfl, below_after (below_after (below_alloc1 (Nat.le_refl _) _).drew hb2 (Nat.le_refl _)) hb4 (Nat.le_refl _)⟩
      | exact ⟨rfl, below_after (below_after (below_after (below_alloc1 (Nat.le_refl _) _).drew hb2 (Nat.le_refl _)) hb4 (Nat.le_refl _)) hb6 (Nat.le_refl _)⟩

theorem below_alloc_tail {W a b : World} {o o' : Obj} (h : Below W.heap.size W a) (h2 : Below (a.alloc o).heap.size (a.alloc o) b) : Below W.heap.size W (b.alloc o') :=
  (below_after (h.alloc h.size o) h2 (Nat.le_refl _)).alloc (Nat.le_trans h.size (Nat.le_trans (by simp) h2.size)) o'

set_option maxHeartbeats 1000000 in
theorem check_many (c : Ce) (v : Value) (n : Nat) (w : World) (hn : n ≤ w.heap.size) (h : CeV (Lt n) w v c) (hsm : Small c) (hs : sizes c = false) (hp : partsOk c = true) :
    Calls Try.prog 57 #[v] w fun e w' => e = .returned (.int .i64 (fault c)) ∧ Below w.heap.size w w' := by
  have HF := hid (show fault c = if 2000 < manyTo 2001 c.heaps 1 then 3 else 0 by simp [fault, hs, hp])
  obtain ⟨ha, hc, ka, kc, ta, tc, rfl, H1, H2, H3⟩ := h.open
  obtain ⟨s1, s2, s3, s4⟩ := hsm
  have hmf : ∀ (fn : Fn) (first cap : Array Value) (w : World), (Instr.makeFunc fn first cap).run Try.prog w = .ok (.func fn first cap) w := fun _ _ _ _ => rfl
  simp only [sizes, Bool.or_eq_false_iff, decide_eq_false_iff_not] at hs
  obtain ⟨⟨hs1, hs2⟩, hs3⟩ := hs
  have S4 := hid s4
  clear s4
  simp only [partsOk, Bool.and_eq_true] at hp
  obtain ⟨⟨⟨p0, p1⟩, p2⟩, p3⟩ := hp
  have hz : ((c.heaps.length : Int) == 0) = false := by simpa using p0
  have X1 := hid p1.symm
  have X2 := hid p2.symm
  have X3 := hid p3.symm
  have hstr : ∀ r ∈ c.heaps, 0 ≤ r.lo ∧ r.lo ≤ r.hi ∧ r.hi ≤ 100 := fun r hr => strong_iff.1 (List.all_eq_true.1 p1 r hr)
  have HS := hid hstr
  clear p0 p1 p2 p3 hstr
  have hb1 := fun o => (below_alloc1 hn o).drew
  go_enter Try.func57, Try.ntmps57
  go_wp2
  go_region
  go_wp2_with (first
    | (go_at_call 109; refine (allR_any c.heaps _ n _ (by simp; omega) (H1.below (hb1 _)) s1).mono ?_; rw [← X1.out]; rintro e w2 ⟨rfl, hb2⟩; have hb3 := below_after (hb1 _) hb2 hn; have hb3' := below_after (below_alloc1 (Nat.le_refl _) _).drew hb2 (Nat.le_refl _); obtain ⟨hc2, hf2⟩ := bcell hb2; have hz2 : w.heap.size < w2.heap.size := (by have := hb2.size; simp at this; omega))
    | (go_at_call 111; refine (allL_any c.heaps.length ha hc (.slice ka c.casks.length kc) (.slice ta c.trials.length tc) s1 c.casks _ n _ (by omega) (H2.below hb3) s2 S4.out).mono ?_; rw [← X2.out]; rintro e w3 ⟨rfl, hb4⟩; have hb5 := below_after hb3 hb4 hn; have hb5' := below_after hb3' hb4 (Nat.le_refl _); obtain ⟨hc4, hf4⟩ := bcell hb4; have hz4 : w.heap.size < w3.heap.size := (by have := hb4.size; omega))
    | (go_at_call 112; refine (allT_any c ha ka hc kc (.slice ta c.trials.length tc) s1 s2 c.trials _ n _ (by omega) (H3.below hb5) s3).mono ?_; rw [← X3.out]; rintro e w4 ⟨rfl, hb6⟩; have hb7 := below_after hb5 hb6 hn; have hb7' := below_after hb5' hb6 (Nat.le_refl _); obtain ⟨hc6, hf6⟩ := bcell hb6; have hz6 : w.heap.size < w4.heap.size := (by have := hb6.size; omega)))
  clear H2 H3 hb1 hb2 hb3 hb3' hb4 hb5 hb5' hb6
  have H4 := H1.below hb7
  obtain ⟨a, cap, he, -, ho⟩ := H4.open2
  cases he
  clear hc2 hf2 hc4 hf4 hc6 hf6 H1 H4
  go_loopw [5, 57] (fun m i wr => ∃ (k : Nat) (x : Int), k ≤ c.heaps.length ∧ i = .int .i64 k ∧ m = .int .i64 x ∧ 0 ≤ x ∧ x ≤ 2001 ∧ Hid (manyTo 2001 (c.heaps.drop k) x = manyTo 2001 c.heaps 1) ∧ Below w4.heap.size w4 wr) (fun _ i _ => c.heaps.length - (intOf i).toNat)
  case atStart => exact ⟨0, 1, by omega, rfl, rfl, by omega, by omega, hid rfl, Below.refl _ _⟩
  case round =>
    obtain ⟨k, x, hk, rfl, rfl, h0, h1, HM, hb⟩ := hrel
    by_cases hlt : k < c.heaps.length
    · have HD := hid (List.drop_eq_getElem_cons hlt)
      rcases ho with hnil | ⟨b, off, rfl, hbn, hcc⟩
      · rw [hnil] at hlt; simp at hlt
      have hbw : b < w4.heap.size := Nat.lt_of_lt_of_le hbn (Nat.le_trans hn hb7.size)
      obtain ⟨c0, c1⟩ := hcc k hlt
      replace c0 := ((bcell hb).1 b _ hbw).trans c0
      replace c1 := ((bcell hb).1 b _ hbw).trans c1
      obtain ⟨r0, r1, r2⟩ := HS.out c.heaps[k] (List.getElem_mem _)
      generalize c.heaps[k] = r at *
      clear hcc
      have hbr : b < wr.heap.size := Nat.lt_of_lt_of_le hbw hb.size
      have hml : 0 ≤ x * (r.hi - r.lo + 1) := Int.mul_nonneg h0 (by omega)
      have hmu : x * (r.hi - r.lo + 1) ≤ 202101 := by
        have := Int.mul_le_mul h1 (show r.hi - r.lo + 1 ≤ 101 by omega) (by omega) (by omega); omega
      have HN := hid (show manyTo 2001 (r :: c.heaps.drop (k + 1)) x = manyTo 2001 (c.heaps.drop (k + 1)) (min (x * (r.hi - r.lo + 1)) 2001) from rfl)
      go_wp2_with (first
        | (go_at_call 114; refine (size_any _ _ _ ⟨r0, r1, r2⟩).mono ?_; rw [show size ⟨r.lo, r.hi⟩ = r.hi - r.lo + 1 from rfl]; rintro e w5 ⟨rfl, hb8⟩)
        | (go_at_call 113; refine (minimum_any (x * (r.hi - r.lo + 1)) 2001 _ _ _ (by go_simp) (by go_simp)).mono ?_; generalize hy : min (x * (r.hi - r.lo + 1)) 2001 = y; rintro e w6 ⟨rfl, rfl⟩; have HY := hid hy; clear hy))
      have hy := HY.out
      go_roundw
      case rel => exact ⟨k + 1, y, by omega, by go_num, rfl, by omega, by omega, hid (by rw [← hy, ← HN.out, ← HD.out]; exact HM.out), below_alloc_tail hb hb8⟩
      case measure => simp [intOf]; omega
    · have HE := hid (show c.heaps.drop k = [] from List.drop_eq_nil_of_le (by omega))
      have HX := hid (show manyTo 2001 c.heaps 1 = x by rw [← HM.out, HE.out]; rfl)
      by_cases hx : 2000 < x
      · go_wp2
        go_ret
        exact ⟨ret_int (by rw [HF.out, HX.out, if_pos hx]), below_after hb7' hb (Nat.le_refl _)⟩
      · go_wp2
        go_ret
        exact ⟨ret_int (by rw [HF.out, HX.out, if_neg (by omega)]), below_after hb7' hb (Nat.le_refl _)⟩

/-- CheckCellar returns the error of a cellar. -/
theorem check_any (c : Ce) (v : Value) (n : Nat) (w : World) (hn : n ≤ w.heap.size) (h : CeV (Lt n) w v c) (hsm : Small c) :
    Calls Try.prog 57 #[v] w fun e w' => e = .returned (.int .i64 (fault c)) ∧ Below w.heap.size w w' := by
  cases hs : sizes c
  · cases hp : partsOk c
    · rw [show fault c = 1 by simp [fault, hs, hp]]
      exact check_parts c v n w hn h hsm hs hp
    · exact check_many c v n w hn h hsm hs hp
  · rw [show fault c = 3 by simp [fault, hs]]
    exact check_sizes c v n w hn h hsm hs

end Go.Proofs.Ytjddcaimjofihaa
