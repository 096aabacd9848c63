/- Plain laws of the statements on both ends, means, wider ranges, truths and one more trial; no condition. -/
import Derived.Test.YtjddcaimjofihaaB9
namespace Go.Proofs.Ytjddcaimjofihaa

/-! ### Both ends -/
theorem bnd_isR {c : Ce} (hf : fault c = 0) (hT : truthsOf c [] ≠ []) {k : Int} (h0 : 0 ≤ k) (h1 : k < c.heaps.length + c.casks.length) : IsBnd (fun s => ofT c s k) (truthsR c) (bnd c k (truthsOf c [])) := by
  obtain ⟨hg, -⟩ := fault_good hf
  rw [bndR_eq hf hT h0 h1]
  refine bndR_is c k (fun e => hT ((truthsR_nil hf).1 e)) fun s hs => ?_
  have hs := (mem_truthsR hf).1 hs
  rw [← ofT_pad3 hg (truth_length hs) h0 h1]
  exact truth_bd hg hs h0 h1
def lowB (c : Ce) (k : Int) (r : Rg) (L : List (List Int)) : Bool := L.any fun l => ofT c l k == r.lo
def highB (c : Ce) (k : Int) (r : Rg) (L : List (List Int)) : Bool := L.any fun l => ofT c l k == r.hi
theorem ends_met {c : Ce} (hf : fault c = 0) (hT : truthsOf c [] ≠ []) {k : Int} (h0 : 0 ≤ k) (h1 : k < c.heaps.length + c.casks.length) :
    lowB c k (bnd c k (truthsOf c [])) (truthsR c) = true ∧ highB c k (bnd c k (truthsOf c [])) (truthsR c) = true := by
  have h := bnd_isR hf hT h0 h1
  obtain ⟨s, hs, e⟩ := h.low
  obtain ⟨u, hu, d⟩ := h.high
  exact ⟨List.any_eq_true.2 ⟨s, hs, by simpa using e⟩, List.any_eq_true.2 ⟨u, hu, by simpa using d⟩⟩

/-! ### Means -/
theorem dot_low (lo : Int) : ∀ (ws s : List Int), ws.length ≤ s.length → (∀ (i : Nat) (x y : Int), ws[i]? = some x → s[i]? = some y → 0 ≤ x ∧ (0 < x → lo ≤ y)) → lo * sumI ws ≤ dot ws s
  | [], s, _, _ => by cases s <;> simp [sumI, dot]
  | x :: ws, [], h, _ => by simp at h
  | x :: ws, y :: s, h, H => by
    have ih := dot_low lo ws s (by simpa using h) fun i a b ha hb => H (i + 1) a b (by simpa using ha) (by simpa using hb)
    obtain ⟨h0, h1⟩ := H 0 x y rfl rfl
    simp only [sumI, dot, Int.mul_add]
    have : lo * x ≤ x * y := by
      rcases Int.lt_or_eq_of_le h0 with h0 | h0
      · rw [Int.mul_comm lo x]; exact Int.mul_le_mul_of_nonneg_left (h1 h0) (by omega)
      · rw [← h0]; simp
    omega
theorem dot_high (hi : Int) : ∀ (ws s : List Int), ws.length ≤ s.length → (∀ (i : Nat) (x y : Int), ws[i]? = some x → s[i]? = some y → 0 ≤ x ∧ (0 < x → y ≤ hi)) → dot ws s ≤ hi * sumI ws
  | [], s, _, _ => by cases s <;> simp [sumI, dot]
  | x :: ws, [], h, _ => by simp at h
  | x :: ws, y :: s, h, H => by
    have ih := dot_high hi ws s (by simpa using h) fun i a b ha hb => H (i + 1) a b (by simpa using ha) (by simpa using hb)
    obtain ⟨h0, h1⟩ := H 0 x y rfl rfl
    simp only [sumI, dot, Int.mul_add]
    have : x * y ≤ hi * x := by
      rcases Int.lt_or_eq_of_le h0 with h0 | h0
      · rw [Int.mul_comm hi x]; exact Int.mul_le_mul_of_nonneg_left (h1 h0) (by omega)
      · rw [← h0]; simp
    omega
theorem mean_low {lo : Int} {ws s : List Int} (hl : ws.length ≤ s.length) (hp : 0 < sumI ws) (H : ∀ (i : Nat) (x y : Int), ws[i]? = some x → s[i]? = some y → 0 ≤ x ∧ (0 < x → lo ≤ y)) : lo ≤ mean s ws := by
  rw [mean, Int.le_ediv_iff_mul_le hp]
  exact dot_low lo ws s hl H
theorem mean_high {hi : Int} {ws s : List Int} (hl : ws.length ≤ s.length) (hp : 0 < sumI ws) (H : ∀ (i : Nat) (x y : Int), ws[i]? = some x → s[i]? = some y → 0 ≤ x ∧ (0 < x → y ≤ hi)) : mean s ws ≤ hi := by
  have h1 : mean s ws < hi + 1 := by
    rw [mean]
    refine Int.ediv_lt_of_lt_mul hp ?_
    have := dot_high hi ws s hl H
    rw [Int.add_mul]; omega
  omega
/-- The minimum of the strengths of which there is something, and the maximum. -/
def lowF : Int → List Int → List Int → Int
  | lo, w :: ws, s :: ss => lowF (if 0 < w then min lo s else lo) ws ss
  | lo, _, _ => lo
def highF : Int → List Int → List Int → Int
  | hi, w :: ws, s :: ss => highF (if 0 < w then max hi s else hi) ws ss
  | hi, _, _ => hi
theorem lowF_spec : ∀ (ws ss : List Int) (lo : Int), lowF lo ws ss ≤ lo ∧ ∀ (i : Nat) (x y : Int), ws[i]? = some x → ss[i]? = some y → 0 < x → lowF lo ws ss ≤ y
  | [], ss, lo => by cases ss <;> exact ⟨by simp [lowF], fun i x y h => by simp at h⟩
  | w :: ws, [], lo => ⟨by simp [lowF], fun i x y _ h => by simp at h⟩
  | w :: ws, s :: ss, lo => by
    obtain ⟨h1, h2⟩ := lowF_spec ws ss (if 0 < w then min lo s else lo)
    simp only [lowF]
    refine ⟨?_, fun i x y hx hy hp => ?_⟩
    · have : (if 0 < w then min lo s else lo) ≤ lo := by split <;> omega
      omega
    · cases i with
      | zero =>
        simp only [List.getElem?_cons_zero, Option.some.injEq] at hx hy
        subst hx; subst hy
        rw [if_pos hp] at h1 ⊢
        omega
      | succ i => exact h2 i x y (by simpa using hx) (by simpa using hy) hp
theorem highF_spec : ∀ (ws ss : List Int) (hi : Int), hi ≤ highF hi ws ss ∧ ∀ (i : Nat) (x y : Int), ws[i]? = some x → ss[i]? = some y → 0 < x → y ≤ highF hi ws ss
  | [], ss, hi => by cases ss <;> exact ⟨by simp [highF], fun i x y h => by simp at h⟩
  | w :: ws, [], hi => ⟨by simp [highF], fun i x y _ h => by simp at h⟩
  | w :: ws, s :: ss, hi => by
    obtain ⟨h1, h2⟩ := highF_spec ws ss (if 0 < w then max hi s else hi)
    simp only [highF]
    refine ⟨?_, fun i x y hx hy hp => ?_⟩
    · have : hi ≤ (if 0 < w then max hi s else hi) := by split <;> omega
      omega
    · cases i with
      | zero =>
        simp only [List.getElem?_cons_zero, Option.some.injEq] at hx hy
        subst hx; subst hy
        rw [if_pos hp] at h1 ⊢
        omega
      | succ i => exact h2 i x y (by simpa using hx) (by simpa using hy) hp
theorem dot_set : ∀ (ws s : List Int) (h : Nat) (x y v : Int), ws[h]? = some x → s[h]? = some y → dot (ws.set h v) s = dot ws s + (v - x) * y
  | [], _, h, x, y, v, hx, _ => by simp at hx
  | _ :: _, [], h, x, y, v, _, hy => by simp at hy
  | w :: ws, s :: ss, 0, x, y, v, hx, hy => by
    simp only [List.getElem?_cons_zero, Option.some.injEq] at hx hy
    subst hx; subst hy
    simp only [List.set_cons_zero, dot, Int.sub_mul]; omega
  | w :: ws, s :: ss, h + 1, x, y, v, hx, hy => by
    simp only [List.set_cons_succ, dot]
    rw [dot_set ws ss h x y v (by simpa using hx) (by simpa using hy)]; omega
theorem sum_set : ∀ (ws : List Int) (h : Nat) (x v : Int), ws[h]? = some x → sumI (ws.set h v) = sumI ws + (v - x)
  | [], h, x, v, hx => by simp at hx
  | w :: ws, 0, x, v, hx => by
    simp only [List.getElem?_cons_zero, Option.some.injEq] at hx
    subst hx
    simp only [List.set_cons_zero, sumI]; omega
  | w :: ws, h + 1, x, v, hx => by
    simp only [List.set_cons_succ, sumI]
    rw [sum_set ws h x v (by simpa using hx)]; omega
theorem mean_more {ws s : List Int} {h : Nat} {x y v : Int} (hx : ws[h]? = some x) (hy : s[h]? = some y) (hp : 0 < sumI ws) (hv : x ≤ v) :
    (mean s ws ≤ y → mean s ws ≤ mean s (ws.set h v)) ∧ (y ≤ mean s ws → mean s (ws.set h v) ≤ mean s ws) := by
  have hS : 0 < sumI (ws.set h v) := by rw [sum_set ws h x v hx]; omega
  obtain ⟨e, rfl⟩ : ∃ e, v = x + e := ⟨v - x, by omega⟩
  have he : 0 ≤ e := by omega
  have h1 : dot ws s / sumI ws * sumI ws ≤ dot ws s := Int.ediv_mul_le _ (by omega)
  have h2 : dot ws s < (dot ws s / sumI ws + 1) * sumI ws := Int.lt_ediv_add_one_mul_self _ hp
  constructor
  · intro hm
    rw [mean, mean, Int.le_ediv_iff_mul_le hS, dot_set ws s h x y _ hx hy, sum_set ws h x _ hx]
    rw [mean] at hm
    have h3 := Int.mul_le_mul_of_nonneg_right hm he
    generalize dot ws s / sumI ws = m at *
    rw [show x + e - x = e by omega, Int.mul_add, Int.mul_comm e y]
    omega
  · intro hm
    have : mean s (ws.set h (x + e)) < mean s ws + 1 := by
      rw [mean, mean]
      refine Int.ediv_lt_of_lt_mul hS ?_
      rw [dot_set ws s h x y _ hx hy, sum_set ws h x _ hx]
      rw [mean] at hm
      have h3 := Int.mul_le_mul_of_nonneg_right hm he
      generalize dot ws s / sumI ws = m at *
      rw [show x + e - x = e by omega, Int.mul_add, Int.mul_comm e y]
      rw [Int.add_mul m 1 e]
      omega
    omega
theorem dot_twice : ∀ (ws s : List Int), dot (ws.map fun x => x * 2) s = 2 * dot ws s
  | [], s => by cases s <;> simp [dot]
  | _ :: _, [] => by simp [dot]
  | w :: ws, s :: ss => by
    simp only [List.map_cons, dot, dot_twice ws ss, Int.mul_add]
    rw [Int.mul_comm w 2, Int.mul_assoc]
theorem sum_twice (ws : List Int) : sumI (ws.map fun x => x * 2) = 2 * sumI ws := by
  induction ws with
  | nil => rfl
  | cons w ws ih => simp only [List.map_cons, sumI, ih]; omega
theorem mean_twice (ws s : List Int) : mean s (ws.map fun x => x * 2) = mean s ws := by
  rw [mean, mean, dot_twice, sum_twice, Int.mul_ediv_mul_of_pos _ _ (by omega)]
/-- The mean is between the strengths. -/
theorem mean_in {lo hi : Int} {ws s : List Int} (hl : ws.length ≤ s.length) (hp : 0 < sumI ws) (hw : ∀ x ∈ ws, 0 ≤ x) (hs : ∀ y ∈ s, lo ≤ y ∧ y ≤ hi) : lo ≤ mean s ws ∧ mean s ws ≤ hi :=
  ⟨mean_low hl hp fun _ _ _ hx hy => ⟨hw _ (List.mem_of_getElem? hx), fun _ => (hs _ (List.mem_of_getElem? hy)).1⟩,
   mean_high hl hp fun _ _ _ hx hy => ⟨hw _ (List.mem_of_getElem? hx), fun _ => (hs _ (List.mem_of_getElem? hy)).2⟩⟩
theorem ofT_100 {c : Ce} (hg : Good c) {l : List Int} (hl : listed c.heaps l = true) {k : Int} (_ : 0 ≤ k) (h1 : k < c.heaps.length + c.casks.length) : 0 ≤ ofT c l k ∧ ofT c l k ≤ 100 := by
  obtain ⟨-, g5, g6, -⟩ := hg.facts
  have hb := listed_bd c.heaps l hl g5
  unfold ofT
  split
  · next hle =>
    have hk : (k - c.heaps.length).toNat < c.casks.length := by omega
    rw [List.getD_eq_getElem?_getD, List.getElem?_eq_getElem hk]
    obtain ⟨q1, q2, q3⟩ := g6 _ (List.getElem_mem hk)
    exact mean_in (by have := listed_length _ _ hl; simp only [Option.getD_some]; omega) q3 (fun x hx => (q2 x hx).1) hb
  · rw [List.getD_eq_getElem?_getD]
    cases e : l[k.toNat]? with
    | none => simp
    | some y => exact hb y (List.mem_of_getElem? e)

/-! ### Wider ranges -/
structure Wid (c x : Ce) : Prop where
  heaps : x.heaps.length = c.heaps.length
  casks : x.casks = c.casks
  many : x.trials.length = c.trials.length
  listed : ∀ s, listed c.heaps s = true → listed x.heaps s = true
  trials : ∀ (j : Nat) (u : Tl), x.trials[j]? = some u → ∃ t, c.trials[j]? = some t ∧ u.cask = t.cask ∧ u.num = t.num ∧ u.s.lo ≤ t.s.lo ∧ t.s.hi ≤ u.s.hi
theorem ofT_same {c x : Ce} (h1 : x.heaps.length = c.heaps.length) (h2 : x.casks = c.casks) (s : List Int) (k : Int) : ofT x s k = ofT c s k := by
  unfold ofT; rw [h1, h2]
theorem thing_same {u t : Tl} (h1 : u.cask = t.cask) (h2 : u.num = t.num) (k : Nat) : thing k u = thing k t := by unfold thing; rw [h1, h2]
theorem Wid.truths {c x : Ce} (h : Wid c x) {out l : List Int} (hl : l ∈ truthsOf c out) : l ∈ truthsOf x out := by
  obtain ⟨h1, h2⟩ := mem_truthsOf.1 hl
  refine mem_truthsOf.2 ⟨h.listed l h1, right_iff.2 fun j u hu => ?_⟩
  obtain ⟨t, ht, e1, e2, e3, e4⟩ := h.trials j u hu
  rcases right_iff.1 h2 j t ht with h3 | h3
  · exact .inl h3
  · refine .inr ?_
    rw [rightT, has_iff] at h3 ⊢
    rw [ofT_same h.heaps h.casks, h.heaps, thing_same e1 e2]
    omega
theorem possible_of {c : Ce} {out l : List Int} (hl : l ∈ truthsOf c out) : possible c out = true := by
  unfold possible
  cases e : truthsOf c out with
  | nil => rw [e] at hl; simp at hl
  | cons a b => rfl
theorem possible_mem {c : Ce} {out : List Int} (h : possible c out = true) : ∃ l, l ∈ truthsOf c out := by
  unfold possible at h
  cases e : truthsOf c out with
  | nil => rw [e] at h; simp at h
  | cons a b => exact ⟨a, by simp⟩
theorem Wid.leave {c x : Ce} (h : Wid c x) (hf : fault c = 0) (hx : fault x = 0) : (leaveR x).length ≤ (leaveR c).length := by
  have a := leaveR_fewest hf
  have b := leaveR_fewest hx
  rw [h.many] at b
  obtain ⟨l, hl⟩ := possible_mem a.pass
  have := b.least _ a.rises (possible_of (h.truths hl))
  have := (not_or.1 (shorterB_false.1 this)).1
  omega
theorem ne_nil_of {α : Type} {l : List α} {x : α} (h : x ∈ l) : l ≠ [] := by rintro rfl; simp at h
/-- With more truths no bounds are narrower. -/
theorem bnd_more {c x : Ce} (h1 : x.heaps.length = c.heaps.length) (h2 : x.casks = c.casks) (hs : ∀ l, l ∈ truthsOf c [] → l ∈ truthsOf x []) (hT : truthsOf c [] ≠ []) (k : Int) :
    (bnd x k (truthsOf x [])).lo ≤ (bnd c k (truthsOf c [])).lo ∧ (bnd c k (truthsOf c [])).hi ≤ (bnd x k (truthsOf x [])).hi := by
  obtain ⟨l, hl⟩ := List.exists_mem_of_ne_nil _ hT
  have a := bnd_is c k hT
  have b := bnd_is x k (ne_nil_of (hs l hl))
  obtain ⟨s, m1, e1⟩ := a.low
  obtain ⟨u, m2, e2⟩ := a.high
  have i1 := b.inside s (hs s m1)
  have i2 := b.inside u (hs u m2)
  simp only [ofT_same h1 h2] at i1 i2
  omega
theorem bnd_le {c : Ce} (hT : truthsOf c [] ≠ []) (k : Int) : (bnd c k (truthsOf c [])).lo ≤ (bnd c k (truthsOf c [])).hi := by
  have a := bnd_is c k hT
  obtain ⟨s, m1, e1⟩ := a.low
  have := a.inside s m1
  omega
theorem listed_set : ∀ (hs : List Rg) (i : Nat) (r q : Rg) (s : List Int), hs[i]? = some r → q.lo ≤ r.lo → r.hi ≤ q.hi → listed hs s = true → listed (hs.set i q) s = true
  | [], i, r, q, s, h, _, _, _ => by simp at h
  | a :: hs, i, r, q, [], _, _, _, h => by simp [listed] at h
  | a :: hs, 0, r, q, x :: s, h, h1, h2, h3 => by
    simp only [List.getElem?_cons_zero, Option.some.injEq] at h
    subst h
    simp only [List.set_cons_zero, listed, Bool.and_eq_true, has_iff] at h3 ⊢
    exact ⟨by omega, h3.2⟩
  | a :: hs, i + 1, r, q, x :: s, h, h1, h2, h3 => by
    simp only [List.set_cons_succ, listed, Bool.and_eq_true] at h3 ⊢
    exact ⟨h3.1, listed_set hs i r q s (by simpa using h) h1 h2 h3.2⟩
theorem wid_heap {c : Ce} {i : Nat} {r q : Rg} (h : c.heaps[i]? = some r) (h1 : q.lo ≤ r.lo) (h2 : r.hi ≤ q.hi) : Wid c { c with heaps := c.heaps.set i q } :=
  ⟨by simp, rfl, rfl, fun s hs => listed_set _ i r q s h h1 h2 hs, fun j u hu => ⟨u, hu, rfl, rfl, Int.le_refl _, Int.le_refl _⟩⟩
theorem wid_trial {c : Ce} {i : Nat} {t : Tl} {q : Rg} (h : c.trials[i]? = some t) (h1 : q.lo ≤ t.s.lo) (h2 : t.s.hi ≤ q.hi) : Wid c { c with trials := c.trials.set i { t with s := q } } := by
  refine ⟨rfl, rfl, by simp, fun s hs => hs, fun j u hu => ?_⟩
  simp only at hu
  rw [List.getElem?_set] at hu
  split at hu
  · next e =>
    subst e
    split at hu
    · cases hu; exact ⟨t, h, rfl, rfl, h1, h2⟩
    · cases hu
  · exact ⟨u, hu, rfl, rfl, Int.le_refl _, Int.le_refl _⟩

/-! ### Trials that are right in some truth -/
theorem truth_in {c : Ce} (hg : Good c) {t : List Int} (ht : listed c.heaps t = true) (hr : ∀ y ∈ c.trials, rightT c t y = true) : t ∈ truthsOf c [] :=
  mem_truthsOf.2 ⟨ht, by rw [right_pad3 hg (listed_length _ _ ht)]; exact right_nil_iff.2 hr⟩
theorem firstFrom_none {c : Ce} : ∀ (ks : List Nat), (∀ k ∈ ks, possible (upTo c (k + 1)) [] = true) → firstFrom c ks = none
  | [], _ => rfl
  | k :: ks, h => by
    rw [firstFrom, if_pos (h k (by simp))]
    exact firstFrom_none ks fun j hj => h j (by simp [hj])
theorem first_right {c : Ce} (hg : Good c) {t : List Int} (ht : listed c.heaps t = true) (hr : ∀ y ∈ c.trials, rightT c t y = true) : firstOf c = none :=
  firstFrom_none _ fun k _ => possible_of (truth_in (upTo_good hg (k + 1)) (t := t) ht fun y hy => hr y (List.mem_of_mem_take hy))
theorem shorter_nil (t : List Int) : shorterB t [] = false := by cases t <;> simp [shorterB, beforeB]
theorem leave_nil {c : Ce} (hf : fault c = 0) (h : truthsOf c [] ≠ []) : leaveR c = [] := by
  have a := leaveR_fewest hf
  obtain ⟨l, hl⟩ := List.exists_mem_of_ne_nil _ h
  exact a.unique ⟨trivial, possible_of hl, fun t _ _ => shorter_nil t⟩
theorem nil_leave {c : Ce} (hf : fault c = 0) (h : leaveR c = []) : truthsOf c [] ≠ [] := by
  have a := (leaveR_fewest hf).pass
  rw [h] at a
  obtain ⟨l, hl⟩ := possible_mem a
  exact ne_nil_of hl
theorem bnd_in {c : Ce} {l : List Int} (hl : l ∈ truthsOf c []) (k : Int) : (bnd c k (truthsOf c [])).lo ≤ ofT c (pad3 l) k ∧ ofT c (pad3 l) k ≤ (bnd c k (truthsOf c [])).hi :=
  (bnd_is c k (ne_nil_of hl)).inside l hl

/-! ### One more trial -/
theorem Rising.snoc {n : Nat} : ∀ {fr : Nat} {l : List Int}, Rising n fr l → fr ≤ n → Rising (n + 1) fr (l ++ [(n : Int)])
  | fr, [], _, h => ⟨n, rfl, h, by omega, trivial⟩
  | fr, x :: l, ⟨k, h1, h2, h3, h4⟩, _ => ⟨k, h1, h2, by omega, h4.snoc (by omega)⟩
theorem Rising.below {n : Nat} : ∀ {fr : Nat} {l : List Int}, Rising (n + 1) fr l → Rising n fr (l.filter fun x => decide (x < (n : Int)))
  | fr, [], _ => trivial
  | fr, x :: l, ⟨k, h1, h2, h3, h4⟩ => by
    subst h1
    have ih := h4.below
    by_cases h : k < n
    · rw [List.filter_cons_of_pos (by simpa using h)]
      exact ⟨k, rfl, h2, h, ih⟩
    · rw [List.filter_cons_of_neg (by simpa using h)]
      exact ih.mono (by omega)
def moreC (c : Ce) (m : Tl) : Ce := { c with trials := c.trials ++ [m] }
theorem more_truths {c : Ce} {m : Tl} {l : List Int} (hl : l ∈ truthsOf (moreC c m) []) : l ∈ truthsOf c [] := by
  obtain ⟨h1, h2⟩ := mem_truthsOf.1 hl
  exact mem_truthsOf.2 ⟨h1, right_nil_iff.2 fun t ht => right_nil_iff.1 h2 t (by simp [moreC, ht])⟩
theorem more_leave {c : Ce} {m : Tl} (hf : fault c = 0) (hx : fault (moreC c m) = 0) : (leaveR c).length ≤ (leaveR (moreC c m)).length ∧ (leaveR (moreC c m)).length ≤ (leaveR c).length + 1 := by
  have a := leaveR_fewest hf
  have b := leaveR_fewest hx
  have hn : (moreC c m).trials.length = c.trials.length + 1 := by simp [moreC]
  rw [hn] at b
  constructor
  · obtain ⟨l, hl⟩ := possible_mem b.pass
    obtain ⟨h1, h2⟩ := mem_truthsOf.1 hl
    have : possible c ((leaveR (moreC c m)).filter fun x => decide (x < (c.trials.length : Int))) = true := by
      refine possible_of (l := l) (mem_truthsOf.2 ⟨h1, right_iff.2 fun j t ht => ?_⟩)
      have hj := (List.getElem?_eq_some_iff.1 ht).1
      rcases right_iff.1 h2 j t (by simp only [moreC]; rw [List.getElem?_append_left hj]; exact ht) with h3 | h3
      · exact .inl (List.mem_filter.2 ⟨h3, by simpa using hj⟩)
      · exact .inr h3
    have := a.least _ b.rises.below this
    have := (not_or.1 (shorterB_false.1 this)).1
    have := List.length_filter_le (fun x => decide (x < (c.trials.length : Int))) (leaveR (moreC c m))
    omega
  · obtain ⟨l, hl⟩ := possible_mem a.pass
    obtain ⟨h1, h2⟩ := mem_truthsOf.1 hl
    have : possible (moreC c m) (leaveR c ++ [(c.trials.length : Int)]) = true := by
      refine possible_of (l := l) (mem_truthsOf.2 ⟨h1, right_iff.2 fun j t ht => ?_⟩)
      by_cases hj : j < c.trials.length
      · rcases right_iff.1 h2 j t (by simp only [moreC] at ht; rw [List.getElem?_append_left hj] at ht; exact ht) with h3 | h3
        · exact .inl (by simp [h3])
        · exact .inr h3
      · have := (List.getElem?_eq_some_iff.1 ht).1
        rw [hn] at this
        obtain rfl : j = c.trials.length := by omega
        exact .inl (by simp)
    have := b.least _ (a.rises.snoc (by omega)) this
    have := (not_or.1 (shorterB_false.1 this)).1
    rw [List.length_append, List.length_singleton] at this
    omega
theorem gradesOf_same {c x : Ce} (h : x.casks = c.casks) (s : List Int) (g : Int) : gradesOf x s g = gradesOf c s g := by unfold gradesOf gradesL; rw [h]
theorem decides_fewer {c x : Ce} (h1 : x.heaps.length = c.heaps.length) (h2 : x.casks = c.casks) {T U : List (List Int)} (hs : ∀ l ∈ U, l ∈ T) {g : Int} {ts : List Int} (h : decidesP c g ts T) : decidesP x g ts U := by
  intro s hs' u hu' he
  rw [gradesOf_same h2, gradesOf_same h2]
  exact h s (hs s hs') u (hs u hu') fun t ht => by have := he t ht; rwa [ofT_same h1 h2, ofT_same h1 h2] at this
theorem graded_keep {c x : Ce} (h1 : x.heaps.length = c.heaps.length) (h2 : x.casks = c.casks) (hs : ∀ l, l ∈ truthsOf x [] → l ∈ truthsOf c []) (hT : truthsOf x [] ≠ []) (k g : Int) (hp : gradedV c k g ≠ 3) : gradedV x k g = gradedV c k g := by
  obtain ⟨a1, a2⟩ := bnd_more h1.symm h2.symm hs hT (c.heaps.length + k)
  have a3 := bnd_le hT (c.heaps.length + k)
  unfold gradedV at hp ⊢
  rw [h1]
  generalize bnd x (c.heaps.length + k) (truthsOf x []) = r at *
  generalize bnd c (c.heaps.length + k) (truthsOf c []) = q at *
  by_cases e1 : g ≤ q.lo
  · rw [if_pos e1, if_pos (by omega)]
  · rw [if_neg e1] at hp ⊢
    by_cases e2 : q.hi < g
    · rw [if_pos e2, if_neg (by omega), if_pos (by omega)]
    · rw [if_neg e2] at hp; exact absurd rfl hp
theorem blend_fewer {T U : List (List Int)} (hs : ∀ l ∈ U, l ∈ T) {st : List Int} {wt g : Int} {ws : List Int} (h : isBlendR T st wt g ws = true) : isBlendR U st wt g ws = true := by
  obtain ⟨h1, h2, h3⟩ := isBlendR_iff.1 h
  exact isBlendR_iff.2 ⟨h1, h2, fun s hs' => h3 s (hs s hs')⟩
end Go.Proofs.Ytjddcaimjofihaa
