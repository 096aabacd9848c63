/- Plain laws: lists, truths by numbers, bounds, sets that can be left out, blends, what decides; no condition. -/
import Derived.Test.YtjddcaimjofihaaB8
namespace Go.Proofs.Ytjddcaimjofihaa

/-- Whether a list is lexicographically before another one. -/
def beforeB : List Int → List Int → Bool
  | [], b => !b.isEmpty
  | _ :: _, [] => false
  | x :: a, y :: b => if x = y then beforeB a b else decide (x < y)
def shorterB (a b : List Int) : Bool := decide (a.length < b.length) || (a.length == b.length && beforeB a b)

theorem beforeB_irrefl (a : List Int) : beforeB a a = false := by
  induction a with
  | nil => rfl
  | cons x a ih => simp [beforeB, ih]
theorem beforeB_total : ∀ (a b : List Int), beforeB a b = false → beforeB b a = false → a = b
  | [], [], _, _ => rfl
  | [], _ :: _, h, _ => by simp [beforeB] at h
  | _ :: _, [], _, h => by simp [beforeB] at h
  | x :: a, y :: b, h1, h2 => by
    by_cases e : x = y
    · subst e
      simp only [beforeB, if_true] at h1 h2
      rw [beforeB_total a b h1 h2]
    · have e' : ¬ y = x := fun h => e h.symm
      simp only [beforeB, if_neg e, if_neg e', decide_eq_false_iff_not] at h1 h2
      omega
theorem beforeB_trans : ∀ (a b c : List Int), beforeB a b = true → beforeB b c = true → beforeB a c = true
  | [], [], _, h, _ => by simp [beforeB] at h
  | [], _ :: _, [], _, h => by simp [beforeB] at h
  | [], _ :: _, _ :: _, _, _ => rfl
  | _ :: _, [], _, h, _ => by simp [beforeB] at h
  | _ :: _, _ :: _, [], _, h => by simp [beforeB] at h
  | x :: a, y :: b, z :: c, h1, h2 => by
    simp only [beforeB] at h1 h2 ⊢
    by_cases e1 : x = y
    · subst e1
      rw [if_pos rfl] at h1
      by_cases e2 : x = z
      · subst e2
        rw [if_pos rfl] at h2 ⊢
        exact beforeB_trans a b c h1 h2
      · rw [if_neg e2] at h2 ⊢; exact h2
    · rw [if_neg e1] at h1
      have h1 := of_decide_eq_true h1
      by_cases e2 : y = z
      · subst e2
        rw [if_neg e1]; exact decide_eq_true h1
      · rw [if_neg e2] at h2
        have h2 := of_decide_eq_true h2
        rw [if_neg (by omega)]
        exact decide_eq_true (by omega)
theorem beforeB_asymm {a b : List Int} (h : beforeB a b = true) : beforeB b a = false := by
  cases e : beforeB b a
  · rfl
  · have := beforeB_trans a b a h e
    rw [beforeB_irrefl] at this
    cases this
theorem beforeB_append (l a b : List Int) : beforeB (l ++ a) (l ++ b) = beforeB a b := by
  induction l with
  | nil => rfl
  | cons x l ih => simp [beforeB, ih]
theorem shorterB_iff {a b : List Int} : shorterB a b = true ↔ a.length < b.length ∨ (a.length = b.length ∧ beforeB a b = true) := by
  simp [shorterB]
theorem shorterB_false {a b : List Int} : shorterB a b = false ↔ ¬ (a.length < b.length ∨ (a.length = b.length ∧ beforeB a b = true)) := by
  rw [← shorterB_iff]; simp
theorem shorterB_irrefl (a : List Int) : shorterB a a = false := by simp [shorterB, beforeB_irrefl]
theorem shorterB_total {a b : List Int} (h1 : shorterB a b = false) (h2 : shorterB b a = false) : a = b := by
  rw [shorterB_false] at h1 h2
  have hl : a.length = b.length := by omega
  refine beforeB_total a b ?_ ?_
  · cases e : beforeB a b
    · rfl
    · exact absurd (.inr ⟨hl, e⟩) h1
  · cases e : beforeB b a
    · rfl
    · exact absurd (.inr ⟨hl.symm, e⟩) h2
theorem shorterB_trans {a b c : List Int} (h1 : shorterB a b = true) (h2 : shorterB b c = true) : shorterB a c = true := by
  rw [shorterB_iff] at h1 h2 ⊢
  rcases h1 with h1 | ⟨h1, g1⟩ <;> rcases h2 with h2 | ⟨h2, g2⟩
  · left; omega
  · left; omega
  · left; omega
  · right; exact ⟨h1.trans h2, beforeB_trans a b c g1 g2⟩

/-- A rising list of numbers from fr on, below n. -/
def Rising (n : Nat) : Nat → List Int → Prop
  | _, [] => True
  | fr, x :: l => ∃ k : Nat, x = (k : Int) ∧ fr ≤ k ∧ k < n ∧ Rising n (k + 1) l
theorem Rising.mono {n : Nat} : ∀ {fr fr' : Nat} {l : List Int}, Rising n fr l → fr' ≤ fr → Rising n fr' l
  | _, _, [], _, _ => trivial
  | _, _, _ :: _, ⟨k, h1, h2, h3, h4⟩, h => ⟨k, h1, by omega, h3, h4⟩
theorem Rising.le {n m : Nat} (hm : n ≤ m) : ∀ {fr : Nat} {l : List Int}, Rising n fr l → Rising m fr l
  | _, [], _ => trivial
  | _, _ :: _, ⟨k, h1, h2, h3, h4⟩ => ⟨k, h1, h2, by omega, Rising.le hm h4⟩
theorem Rising.length {n : Nat} : ∀ {fr : Nat} {l : List Int}, Rising n fr l → l = [] ∨ l.length + fr ≤ n
  | _, [], _ => .inl rfl
  | fr, _ :: l, ⟨k, _, h2, h3, h4⟩ => by
    right
    rcases Rising.length h4 with rfl | h
    · simp; omega
    · simp only [List.length_cons]; omega
theorem Rising.mem {n : Nat} : ∀ {fr : Nat} {l : List Int}, Rising n fr l → ∀ x ∈ l, (fr : Int) ≤ x ∧ x < n
  | _, [], _, x, hx => by simp at hx
  | fr, y :: l, ⟨k, h1, h2, h3, h4⟩, x, hx => by
    rcases List.mem_cons.1 hx with rfl | hx
    · omega
    · have := Rising.mem h4 x hx
      omega

theorem findSome_some {α : Type} (f : Nat → Option α) (m : Nat) (r : α) (h : (List.range m).findSome? f = some r) : ∃ j, j < m ∧ f j = some r ∧ ∀ i, i < j → f i = none := by
  induction m with
  | zero => simp at h
  | succ m ih =>
    rw [List.range_succ, List.findSome?_append] at h
    cases e : (List.range m).findSome? f with
    | some x =>
      rw [e] at h
      simp at h
      subst h
      obtain ⟨j, hj, h1, h2⟩ := ih e
      exact ⟨j, by omega, h1, h2⟩
    | none =>
      rw [e] at h
      simp at h
      rw [List.findSome?_eq_none_iff] at e
      exact ⟨m, by omega, h, fun i hi => e i (by simpa using hi)⟩
theorem findSome_none {α : Type} (f : Nat → Option α) (m : Nat) (h : (List.range m).findSome? f = none) : ∀ i, i < m → f i = none := by
  rw [List.findSome?_eq_none_iff] at h
  exact fun i hi => h i (by simpa using hi)

theorem addS_spec (p : List Int → Bool) (n : Nat) : ∀ (m : Nat) (l : List Int) (fr : Nat),
    (∀ r, addS p n m l fr = some r → ∃ t, r = l ++ t ∧ t.length = m ∧ Rising n fr t ∧ p r = true ∧ ∀ t', t'.length = m → Rising n fr t' → p (l ++ t') = true → beforeB t' t = false) ∧
    (addS p n m l fr = none → ∀ t', t'.length = m → Rising n fr t' → p (l ++ t') = false) := by
  intro m
  induction m with
  | zero =>
    intro l fr
    refine ⟨fun r h => ?_, fun h t' hl _ => ?_⟩
    · simp only [addS, leafS] at h
      split at h
      · next hp =>
        cases h
        exact ⟨[], by simp, rfl, trivial, hp, fun t' hl _ _ => by rw [List.eq_nil_of_length_eq_zero hl]; rfl⟩
      · cases h
    · rw [List.eq_nil_of_length_eq_zero hl, List.append_nil]
      simp only [addS, leafS] at h
      split at h
      · cases h
      · next hp => simpa using hp
  | succ m ih =>
    intro l fr
    rw [addS_succ]
    refine ⟨fun r h => ?_, fun h t' hl hr => ?_⟩
    · obtain ⟨j, hj, h1, h2⟩ := findSome_some _ _ _ h
      obtain ⟨t, rfl, ht, hrt, hp, hmin⟩ := (ih (l ++ [((fr + j : Nat) : Int)]) (fr + j + 1)).1 r h1
      refine ⟨((fr + j : Nat) : Int) :: t, by simp, by simp [ht], ⟨fr + j, rfl, by omega, by omega, hrt⟩, hp, fun t' hl hr hp' => ?_⟩
      cases t' with
      | nil => simp at hl
      | cons y t' =>
        obtain ⟨k, rfl, hk1, hk2, hk3⟩ := hr
        simp only [List.length_cons, Nat.add_right_cancel_iff] at hl
        simp only [beforeB]
        by_cases e : k = fr + j
        · subst e
          rw [if_pos rfl]
          exact hmin t' hl hk3 (by simpa using hp')
        · rw [if_neg (by omega)]
          by_cases hlt : k < fr + j
          · have hx := (ih (l ++ [((fr + (k - fr) : Nat) : Int)]) (fr + (k - fr) + 1)).2 (h2 (k - fr) (by omega)) t' hl (by rw [show fr + (k - fr) + 1 = k + 1 by omega]; exact hk3)
            rw [show fr + (k - fr) = k by omega] at hx
            rw [List.append_assoc] at hx
            simp only [List.singleton_append] at hx
            rw [hx] at hp'
            cases hp'
          · simp; omega
    · cases t' with
      | nil => simp at hl
      | cons y t' =>
        obtain ⟨k, rfl, hk1, hk2, hk3⟩ := hr
        simp only [List.length_cons, Nat.add_right_cancel_iff] at hl
        have hlen := hk3.length
        have hkm : k + m < n := by
          rcases hlen with rfl | hlen
          · simp at hl; omega
          · omega
        have hx := (ih (l ++ [((fr + (k - fr) : Nat) : Int)]) (fr + (k - fr) + 1)).2 (findSome_none _ _ h (k - fr) (by omega)) t' hl (by rw [show fr + (k - fr) + 1 = k + 1 by omega]; exact hk3)
        rw [show fr + (k - fr) = k by omega, List.append_assoc] at hx
        simpa using hx

/-- The shortest rising list that passes, the first of several. -/
structure Fewest (p : List Int → Bool) (n : Nat) (r : List Int) : Prop where
  rises : Rising n 0 r
  pass : p r = true
  least : ∀ t, Rising n 0 t → p t = true → shorterB t r = false

theorem Fewest.unique {p : List Int → Bool} {n : Nat} {r r' : List Int} (h : Fewest p n r) (h' : Fewest p n r') : r = r' :=
  shorterB_total (h'.least r h.rises h.pass) (h.least r' h'.rises h'.pass)

theorem shortestS_spec {p : List Int → Bool} {n : Nat} {r : List Int} (h : shortestS p n = some r) : Fewest p n r := by
  obtain ⟨m, hm, h1, h2⟩ := findSome_some _ _ _ h
  obtain ⟨t, ht, hl, hr, hp, hmin⟩ := (addS_spec p n m [] 0).1 r h1
  simp only [List.nil_append] at ht hmin
  subst ht
  refine ⟨hr, hp, fun t ht hpt => shorterB_false.2 ?_⟩
  rintro (hlt | ⟨he, hb⟩)
  · have := (addS_spec p n t.length [] 0).2 (h2 _ (by omega)) t rfl ht
    simp only [List.nil_append] at this
    rw [hpt] at this
    cases this
  · have := hmin t (by omega) ht hpt
    rw [hb] at this
    cases this
theorem shortestS_some {p : List Int → Bool} {n : Nat} {t : List Int} (ht : Rising n 0 t) (hp : p t = true) : ∃ r, shortestS p n = some r := by
  cases h : shortestS p n with
  | some r => exact ⟨r, rfl⟩
  | none =>
    have hl := ht.length
    have hlt : t.length < n + 1 := by
      rcases hl with rfl | hl
      · simp
      · omega
    have := findSome_none _ _ h t.length hlt
    have := (addS_spec p n t.length [] 0).2 this t rfl ht
    simp only [List.nil_append] at this
    rw [hp] at this
    cases this

/-! ### Bits -/
/-- The numbers of bits that are set, from k on. -/
def bitsFrom : List Bool → Nat → List Int
  | [], _ => []
  | b :: bs, k => if b then (k : Int) :: bitsFrom bs (k + 1) else bitsFrom bs (k + 1)
theorem bitsFrom_rises (bs : List Bool) : ∀ k, Rising (k + bs.length) k (bitsFrom bs k) := by
  induction bs with
  | nil => intro k; trivial
  | cons b bs ih =>
    intro k
    have h := ih (k + 1)
    rw [show k + 1 + bs.length = k + (b :: bs).length by simp; omega] at h
    cases b
    · exact h.mono (by omega)
    · exact ⟨k, rfl, by omega, by simp, h⟩
theorem mem_bitsFrom (bs : List Bool) : ∀ (k i : Nat), ((i : Int) ∈ bitsFrom bs k) ↔ (k ≤ i ∧ bs[i - k]? = some true) := by
  induction bs with
  | nil => intro k i; simp [bitsFrom]
  | cons b bs ih =>
    intro k i
    have h := ih (k + 1) i
    by_cases e : i = k
    · subst e
      have h' : ((i : Int) ∈ bitsFrom bs (i + 1)) ↔ False := by rw [h]; constructor <;> (intro hh; first | omega | cases hh)
      cases b <;> simp [bitsFrom, h']
    · have hi : ¬ (i : Int) = k := by omega
      have hx : ((i : Int) ∈ bitsFrom (b :: bs) k) ↔ ((i : Int) ∈ bitsFrom bs (k + 1)) := by
        cases b <;> simp [bitsFrom, hi]
      rw [hx, h]
      constructor
      · rintro ⟨h1, h2⟩
        refine ⟨by omega, ?_⟩
        rw [show i - k = (i - (k + 1)) + 1 by omega]
        simpa using h2
      · rintro ⟨h1, h2⟩
        refine ⟨by omega, ?_⟩
        rw [show i - k = (i - (k + 1)) + 1 by omega] at h2
        simpa using h2
/-- Each rising list is that of some bits. -/
theorem rises_bits (n : Nat) : ∀ (d k : Nat) (l : List Int), k + d = n → Rising n k l → ∃ bs : List Bool, bs.length = d ∧ bitsFrom bs k = l := by
  intro d
  induction d with
  | zero =>
    intro k l hk hl
    rcases hl.length with rfl | h
    · exact ⟨[], rfl, rfl⟩
    · exact ⟨[], rfl, by rw [List.eq_nil_of_length_eq_zero (show l.length = 0 by omega)]; rfl⟩
  | succ d ih =>
    intro k l hk hl
    cases l with
    | nil =>
      obtain ⟨bs, h1, h2⟩ := ih (k + 1) [] (by omega) trivial
      exact ⟨false :: bs, by simp [h1], by simpa [bitsFrom] using h2⟩
    | cons x l =>
      obtain ⟨j, rfl, h1, h2, h3⟩ := hl
      by_cases e : j = k
      · subst e
        obtain ⟨bs, g1, g2⟩ := ih (j + 1) l (by omega) h3
        exact ⟨true :: bs, by simp [g1], by simp [bitsFrom, g2]⟩
      · obtain ⟨bs, g1, g2⟩ := ih (k + 1) ((j : Int) :: l) (by omega) ⟨j, rfl, by omega, h2, h3⟩
        exact ⟨false :: bs, by simp [g1], by simpa [bitsFrom] using g2⟩
end Go.Proofs.Ytjddcaimjofihaa

namespace Go.Proofs.Ytjddcaimjofihaa

/-! ### Truths by their numbers -/
def prodS : List Rg → Int
  | [] => 1
  | r :: l => size r * prodS l
theorem prodS_pos {hs : List Rg} (h : ∀ r ∈ hs, 1 ≤ size r) : 1 ≤ prodS hs := by
  induction hs with
  | nil => simp [prodS]
  | cons r hs ih =>
    have h1 := h r (by simp)
    have h2 := ih fun x hx => h x (by simp [hx])
    simp only [prodS]
    have := Int.mul_le_mul h1 h2 (by omega) (by omega)
    omega
theorem manyTo_eq (m : Int) (hm : 1 ≤ m) (hs : List Rg) (h : ∀ r ∈ hs, 1 ≤ size r) : ∀ n : Int, 1 ≤ n → n ≤ m → manyTo m hs n = min (n * prodS hs) m := by
  induction hs with
  | nil => intro n h1 h2; simp only [manyTo, prodS]; omega
  | cons r hs ih =>
    intro n h1 h2
    have hr := h r (by simp)
    have hp := prodS_pos (hs := hs) fun x hx => h x (by simp [hx])
    have hns : 1 ≤ n * size r := by have := Int.mul_le_mul h1 hr (by omega) (by omega); omega
    have ih := ih (fun x hx => h x (by simp [hx])) (min (n * size r) m) (by omega) (by omega)
    simp only [manyTo, prodS]
    rw [ih, ← Int.mul_assoc]
    generalize n * size r = a at *
    generalize prodS hs = b at *
    clear ih
    by_cases hle : a ≤ m
    · rw [Int.min_eq_left hle]
    · rw [Int.min_eq_right (show m ≤ a by omega)]
      have h3 : m ≤ m * b := by have := Int.mul_le_mul (Int.le_refl m) hp (by omega) (by omega); omega
      have h4 : m * b ≤ a * b := Int.mul_le_mul (by omega) (Int.le_refl b) (by omega) (by omega)
      omega
def nthL : List Rg → Int → List Int
  | [], _ => []
  | r :: hs, n => (r.lo + n % size r) :: nthL hs (n / size r)
theorem nthL_length (hs : List Rg) : ∀ n, (nthL hs n).length = hs.length := by
  induction hs with
  | nil => intro n; rfl
  | cons r hs ih => intro n; simp [nthL, ih]
theorem nthL_listed (hs : List Rg) (h : ∀ r ∈ hs, 1 ≤ size r) : ∀ n : Int, listed hs (nthL hs n) = true := by
  induction hs with
  | nil => intro n; rfl
  | cons r hs ih =>
    intro n
    have hr := h r (by simp)
    simp only [nthL, listed_cons, Bool.and_eq_true, has_iff]
    have h1 := Int.emod_nonneg n (show size r ≠ 0 by omega)
    have h2 := Int.emod_lt_of_pos n (show 0 < size r by omega)
    exact ⟨by simp only [size] at *; omega, ih (fun x hx => h x (by simp [hx])) _⟩
theorem nthL_onto (hs : List Rg) (h : ∀ r ∈ hs, 1 ≤ size r) : ∀ l, listed hs l = true → ∃ n : Int, 0 ≤ n ∧ n < prodS hs ∧ nthL hs n = l := by
  induction hs with
  | nil =>
    intro l hl
    cases l with
    | nil => exact ⟨0, by omega, by simp [prodS], rfl⟩
    | cons x l => simp [listed] at hl
  | cons r hs ih =>
    intro l hl
    cases l with
    | nil => simp [listed] at hl
    | cons x l =>
      have hr := h r (by simp)
      simp only [listed_cons, Bool.and_eq_true, has_iff] at hl
      obtain ⟨m, h1, h2, h3⟩ := ih (fun y hy => h y (by simp [hy])) l hl.2
      have hx : 0 ≤ x - r.lo ∧ x - r.lo < size r := by simp only [size]; omega
      refine ⟨m * size r + (x - r.lo), ?_, ?_, ?_⟩
      · have := Int.mul_nonneg h1 (show 0 ≤ size r by omega); omega
      · simp only [prodS]
        have h4 : (m + 1) * size r ≤ prodS hs * size r := Int.mul_le_mul (by omega) (Int.le_refl _) (by omega) (by have := prodS_pos (hs := hs) fun y hy => h y (by simp [hy]); omega)
        rw [Int.add_mul] at h4
        rw [Int.mul_comm (size r)]
        omega
      · simp only [nthL]
        have e1 : (m * size r + (x - r.lo)) % size r = x - r.lo := by
          rw [Int.add_comm, Int.add_mul_emod_self_right]
          exact Int.emod_eq_of_lt hx.1 hx.2
        have e2 : (m * size r + (x - r.lo)) / size r = m := by
          rw [Int.add_comm, Int.add_mul_ediv_right _ _ (by omega), Int.ediv_eq_zero_of_lt hx.1 hx.2]
          omega
        rw [e1, e2, h3, show r.lo + (x - r.lo) = x by omega]

/-- How many truths there are without trials, as the reference counts them. -/
def manyR (c : Ce) : Int := manyTo 3000 c.heaps 1
theorem good_size {c : Ce} (hg : Good c) : ∀ r ∈ c.heaps, 1 ≤ size r := fun r hr => by
  have := hg.facts.2.1 r hr
  simp only [size]; omega
theorem manyR_over {c : Ce} (hg : Good c) : (2000 < manyR c) ↔ 2000 < manyTo 2001 c.heaps 1 := by
  rw [manyR, manyTo_eq 3000 (by omega) _ (good_size hg) 1 (by omega) (by omega), manyTo_eq 2001 (by omega) _ (good_size hg) 1 (by omega) (by omega)]
  omega
theorem manyR_eq {c : Ce} (hf : fault c = 0) : manyR c = prodS c.heaps ∧ manyR c ≤ 2000 ∧ 1 ≤ manyR c := by
  obtain ⟨hg, hm⟩ := fault_good hf
  have h1 := prodS_pos (good_size hg)
  rw [manyTo_eq 2001 (by omega) _ (good_size hg) 1 (by omega) (by omega)] at hm
  rw [manyR, manyTo_eq 3000 (by omega) _ (good_size hg) 1 (by omega) (by omega)]
  omega

/-! ### Lists that are not filled up to three -/
theorem ofT_pad3 {c : Ce} (hg : Good c) {l : List Int} (hl : l.length = c.heaps.length) {t : Int} (_ : 0 ≤ t) (h1 : t < c.heaps.length + c.casks.length) : ofT c (pad3 l) t = ofT c l t := by
  obtain ⟨⟨g1, g2, g3, g4⟩, -, g6, -⟩ := hg.facts
  unfold ofT
  split
  · have hk : (t - c.heaps.length).toNat < c.casks.length := by omega
    rw [List.getD_eq_getElem?_getD, List.getElem?_eq_getElem hk, Option.getD_some]
    exact mean_pad3 _ _ (by have := (g6 _ (List.getElem_mem hk)).1; omega) (by omega)
  · have ht : t.toNat < 3 := by omega
    have : t.toNat = 0 ∨ t.toNat = 1 ∨ t.toNat = 2 := by omega
    rcases this with e | e | e <;> rw [e] <;> rfl
theorem rightFrom_pad3 {c : Ce} (hg : Good c) {l : List Int} (hl : l.length = c.heaps.length) (out : List Int) : ∀ (ts : List Tl), (∀ t ∈ ts, t ∈ c.trials) → ∀ i, rightFrom c (pad3 l) out ts i = rightFrom c l out ts i := by
  intro ts
  induction ts with
  | nil => intro _ i; rfl
  | cons t ts ih =>
    intro h i
    have hb := thing_bd hg (h t (by simp))
    simp only [rightFrom]
    rw [ofT_pad3 hg hl hb.1 hb.2, ih (fun x hx => h x (by simp [hx]))]
theorem right_pad3 {c : Ce} (hg : Good c) {l : List Int} (hl : l.length = c.heaps.length) (out : List Int) : right c (pad3 l) out = right c l out := rightFrom_pad3 hg hl out c.trials (fun _ h => h) 0

/-- Whether a trial is right in a truth. -/
def rightT (c : Ce) (l : List Int) (t : Tl) : Bool := has t.s (ofT c l (thing c.heaps.length t))
theorem rightFrom_iff (c : Ce) (l out : List Int) : ∀ (ts : List Tl) (i : Nat), rightFrom c l out ts i = true ↔ ∀ (j : Nat) (t : Tl), ts[j]? = some t → ((i + j : Nat) : Int) ∈ out ∨ rightT c l t = true := by
  intro ts
  induction ts with
  | nil => intro i; simp [rightFrom]
  | cons t ts ih =>
    intro i
    simp only [rightFrom, Bool.and_eq_true, Bool.or_eq_true, List.contains_iff_mem, ih (i + 1)]
    constructor
    · rintro ⟨h1, h2⟩ j x hj
      cases j with
      | zero => simp at hj; subst hj; exact h1
      | succ j => have := h2 j x (by simpa using hj); rwa [show i + 1 + j = i + (j + 1) by omega] at this
    · intro h
      exact ⟨h 0 t rfl, fun j x hj => by have := h (j + 1) x (by simpa using hj); rwa [show i + (j + 1) = i + 1 + j by omega] at this⟩
theorem right_iff {c : Ce} {l out : List Int} : right c l out = true ↔ ∀ (j : Nat) (t : Tl), c.trials[j]? = some t → (j : Int) ∈ out ∨ rightT c l t = true := by
  have := rightFrom_iff c l out c.trials 0
  simp only [Nat.zero_add] at this
  exact this
theorem right_nil_iff {c : Ce} {l : List Int} : right c l [] = true ↔ ∀ t ∈ c.trials, rightT c l t = true := by
  rw [right_iff]
  constructor
  · intro h t ht
    obtain ⟨j, hj⟩ := List.getElem?_of_mem ht
    have := h j t hj
    simpa using this
  · intro h j t hj
    exact .inr (h t (List.mem_of_getElem? hj))

/-- The truths of a cellar in the reference's order. -/
def isTruthR (c : Ce) (l : List Int) : Bool := listed c.heaps l && right c l []
def truthsR (c : Ce) : List (List Int) := ((List.range (manyR c).toNat).map fun n : Nat => nthL c.heaps n).filter (isTruthR c)
theorem mem_truthsR {c : Ce} (hf : fault c = 0) {l : List Int} : l ∈ truthsR c ↔ l ∈ truthsOf c [] := by
  obtain ⟨hg, -⟩ := fault_good hf
  have hm := manyR_eq hf
  rw [mem_truthsOf, truthsR, List.mem_filter, isTruthR, Bool.and_eq_true]
  constructor
  · rintro ⟨-, h1, h2⟩
    exact ⟨h1, by rw [right_pad3 hg (listed_length _ _ h1)]; exact h2⟩
  · rintro ⟨h1, h2⟩
    refine ⟨?_, h1, by rw [right_pad3 hg (listed_length _ _ h1)] at h2; exact h2⟩
    obtain ⟨n, a, b, e⟩ := nthL_onto _ (good_size hg) l h1
    rw [List.mem_map]
    exact ⟨n.toNat, by rw [List.mem_range]; omega, by rw [Int.toNat_of_nonneg a]; exact e⟩
theorem truthsR_nil {c : Ce} (hf : fault c = 0) : truthsR c = [] ↔ truthsOf c [] = [] := by
  constructor
  · intro h
    cases e : truthsOf c [] with
    | nil => rfl
    | cons x T =>
      have : x ∈ truthsR c := (mem_truthsR hf).2 (by rw [e]; simp)
      rw [h] at this; cases this
  · intro h
    cases e : truthsR c with
    | nil => rfl
    | cons x T =>
      have : x ∈ truthsOf c [] := (mem_truthsR hf).1 (by rw [e]; simp)
      rw [h] at this; cases this
theorem truth_length {c : Ce} {l out : List Int} (h : l ∈ truthsOf c out) : l.length = c.heaps.length := listed_length _ _ (mem_truthsOf.1 h).1

/-! ### Bounds -/
theorem fold_wider (f : List Int → Int) (T : List (List Int)) : ∀ r : Rg, (T.foldl (fun r s => wider r (f s)) r).lo ≤ r.lo ∧ r.hi ≤ (T.foldl (fun r s => wider r (f s)) r).hi ∧
    (∀ s ∈ T, (T.foldl (fun r s => wider r (f s)) r).lo ≤ f s ∧ f s ≤ (T.foldl (fun r s => wider r (f s)) r).hi) ∧
    ((T.foldl (fun r s => wider r (f s)) r).lo = r.lo ∨ ∃ s ∈ T, f s = (T.foldl (fun r s => wider r (f s)) r).lo) ∧
    ((T.foldl (fun r s => wider r (f s)) r).hi = r.hi ∨ ∃ s ∈ T, f s = (T.foldl (fun r s => wider r (f s)) r).hi) := by
  induction T with
  | nil => intro r; simp
  | cons s T ih =>
    intro r
    obtain ⟨h1, h2, h3, h4, h5⟩ := ih (wider r (f s))
    simp only [List.foldl_cons]
    generalize T.foldl (fun r s => wider r (f s)) (wider r (f s)) = b at *
    simp only [wider] at h1 h2 h4 h5
    have q1 : b.lo ≤ r.lo ∧ r.hi ≤ b.hi ∧ b.lo ≤ f s ∧ f s ≤ b.hi := by clear h3 h4 h5; omega
    refine ⟨q1.1, q1.2.1, fun t ht => ?_, ?_, ?_⟩
    · rcases List.mem_cons.1 ht with rfl | ht
      · exact q1.2.2
      · exact h3 t ht
    · clear h5
      rcases h4 with h4 | ⟨t, ht, e⟩
      · by_cases hle : r.lo ≤ f s
        · left; omega
        · right; exact ⟨s, by simp, by omega⟩
      · exact .inr ⟨t, by simp [ht], e⟩
    · clear h4
      rcases h5 with h5 | ⟨t, ht, e⟩
      · by_cases hle : f s ≤ r.hi
        · left; omega
        · right; exact ⟨s, by simp, by omega⟩
      · exact .inr ⟨t, by simp [ht], e⟩
/-- The bounds of numbers. -/
structure IsBnd (f : List Int → Int) (T : List (List Int)) (r : Rg) : Prop where
  inside : ∀ s ∈ T, r.lo ≤ f s ∧ f s ≤ r.hi
  low : ∃ s ∈ T, f s = r.lo
  high : ∃ s ∈ T, f s = r.hi
theorem IsBnd.unique {f g : List Int → Int} {T U : List (List Int)} {r q : Rg} (h : IsBnd f T r) (k : IsBnd g U q) (hm : ∀ s, s ∈ T ↔ s ∈ U) (hf : ∀ s ∈ T, f s = g s) : r = q := by
  obtain ⟨s1, m1, e1⟩ := h.low
  obtain ⟨s2, m2, e2⟩ := h.high
  obtain ⟨s3, m3, e3⟩ := k.low
  obtain ⟨s4, m4, e4⟩ := k.high
  have a1 := k.inside s1 ((hm s1).1 m1)
  have a2 := k.inside s2 ((hm s2).1 m2)
  have a3 := h.inside s3 ((hm s3).2 m3)
  have a4 := h.inside s4 ((hm s4).2 m4)
  rw [hf s1 m1] at e1
  rw [hf s2 m2] at e2
  rw [hf s3 ((hm s3).2 m3)] at a3
  rw [hf s4 ((hm s4).2 m4)] at a4
  have : r.lo = q.lo := by omega
  have : r.hi = q.hi := by omega
  cases r; cases q; simp_all
theorem bnd_is (c : Ce) (k : Int) {T : List (List Int)} (hT : T ≠ []) : IsBnd (fun s => ofT c (pad3 s) k) T (bnd c k T) := by
  obtain ⟨h1, h2, h3, h4, h5⟩ := fold_wider (fun s => ofT c (pad3 s) k) T ⟨ofT c (pad3 (T.headD [])) k, ofT c (pad3 (T.headD [])) k⟩
  have hh : T.headD [] ∈ T := by cases T with | nil => exact absurd rfl hT | cons x T => simp
  refine ⟨h3, ?_, ?_⟩
  · rcases h4 with h4 | h4
    · exact ⟨_, hh, h4.symm⟩
    · exact h4
  · rcases h5 with h5 | h5
    · exact ⟨_, hh, h5.symm⟩
    · exact h5
/-- The reference's bounds. -/
def bndR (c : Ce) (k : Int) (T : List (List Int)) : Rg := T.foldl (fun r s => wider r (ofT c s k)) ⟨1099511627776, -1099511627776⟩
theorem bndR_is (c : Ce) (k : Int) {T : List (List Int)} (hT : T ≠ []) (hb : ∀ s ∈ T, 0 ≤ ofT c s k ∧ ofT c s k ≤ 3000000) : IsBnd (fun s => ofT c s k) T (bndR c k T) := by
  obtain ⟨h1, h2, h3, h4, h5⟩ := fold_wider (fun s => ofT c s k) T ⟨1099511627776, -1099511627776⟩
  obtain ⟨s, T', rfl⟩ : ∃ s T', T = s :: T' := by cases T with | nil => exact absurd rfl hT | cons x T => exact ⟨x, T, rfl⟩
  have g1 := h3 s (by simp)
  have g2 := hb s (by simp)
  simp only at h1 h2 h4 h5 g1
  refine ⟨h3, ?_, ?_⟩
  · rcases h4 with h4 | h4
    · rw [h4] at g1; omega
    · exact h4
  · rcases h5 with h5 | h5
    · rw [h5] at g1; omega
    · exact h5
theorem truth_bd {c : Ce} (hg : Good c) {out l : List Int} (h : l ∈ truthsOf c out) {k : Int} (h0 : 0 ≤ k) (h1 : k < c.heaps.length + c.casks.length) : 0 ≤ ofT c (pad3 l) k ∧ ofT c (pad3 l) k ≤ 3000000 :=
  ofT_bd hg (truths_fits hg out l h) h0 h1
theorem bndR_eq {c : Ce} (hf : fault c = 0) (hT : truthsOf c [] ≠ []) {k : Int} (h0 : 0 ≤ k) (h1 : k < c.heaps.length + c.casks.length) : bnd c k (truthsOf c []) = bndR c k (truthsR c) := by
  obtain ⟨hg, -⟩ := fault_good hf
  have he : ∀ s ∈ truthsOf c [], ofT c (pad3 s) k = ofT c s k := fun s hs => ofT_pad3 hg (truth_length hs) h0 h1
  refine (bnd_is c k hT).unique (bndR_is c k (fun e => hT ((truthsR_nil hf).1 e)) fun s hs => ?_) (fun s => (mem_truthsR hf).symm) he
  have hs := (mem_truthsR hf).1 hs
  rw [← he s hs]
  exact truth_bd hg hs h0 h1
end Go.Proofs.Ytjddcaimjofihaa

namespace Go.Proofs.Ytjddcaimjofihaa

/-! ### Numbers by their bits -/
def digitsB (b : Nat) : List Bool := (List.range 10).map b.testBit
/-- The numbers of the bits that are set, in increasing order. -/
def bitsL (b : Nat) : List Int := bitsFrom (digitsB b) 0
theorem testBit_high {b i : Nat} {n : Nat} (hb : b < 2 ^ n) (hi : n ≤ i) : b.testBit i = false :=
  Nat.testBit_lt_two_pow (Nat.lt_of_lt_of_le hb (Nat.pow_le_pow_right (by omega) hi))
theorem mem_bitsL {b : Nat} (hb : b < 1024) (i : Nat) : ((i : Int) ∈ bitsL b) ↔ b.testBit i = true := by
  rw [bitsL, mem_bitsFrom]
  simp only [Nat.zero_le, true_and, Nat.sub_zero, digitsB]
  by_cases h : i < 10
  · rw [List.getElem?_map, List.getElem?_range h]; simp
  · rw [List.getElem?_eq_none (by simp; omega), testBit_high (n := 10) (by omega) (by omega)]; simp
theorem Rising.lower {n m : Nat} : ∀ {fr : Nat} {l : List Int}, Rising n fr l → (∀ x ∈ l, x < (m : Int)) → Rising m fr l
  | _, [], _, _ => trivial
  | _, x :: l, ⟨k, h1, h2, h3, h4⟩, h => ⟨k, h1, h2, by have := h x (by simp); omega, h4.lower fun y hy => h y (by simp [hy])⟩
theorem Rising.ext {n m : Nat} : ∀ {fr gr : Nat} {l k : List Int}, Rising n fr l → Rising m gr k → (∀ i : Nat, (i : Int) ∈ l ↔ (i : Int) ∈ k) → l = k
  | _, _, [], [], _, _, _ => rfl
  | _, _, [], y :: k, _, ⟨j, h1, _⟩, h => by have := (h j).2 (by simp [h1]); simp at this
  | _, _, x :: l, [], ⟨j, h1, _⟩, _, h => by have := (h j).1 (by simp [h1]); simp at this
  | _, _, x :: l, y :: k, ⟨i, a1, a2, a3, a4⟩, ⟨j, b1, b2, b3, b4⟩, h => by
    subst a1; subst b1
    have h1 : i = j := by
      have p := (h i).1 (by simp)
      have q := (h j).2 (by simp)
      rcases List.mem_cons.1 p with p | p <;> rcases List.mem_cons.1 q with q | q
      · omega
      · omega
      · omega
      · have := (b4.mem _ p).1; have := (a4.mem _ q).1; omega
    subst h1
    have := Rising.ext a4 b4 fun z => by
      have hz := h z
      simp only [List.mem_cons] at hz
      constructor
      · intro hm
        rcases hz.1 (.inr hm) with e | e
        · have := (a4.mem _ hm).1; omega
        · exact e
      · intro hm
        rcases hz.2 (.inr hm) with e | e
        · have := (b4.mem _ hm).1; omega
        · exact e
    rw [this]
theorem bitsL_rises {b n : Nat} (hn : n ≤ 10) (hb : b < 2 ^ n) : Rising n 0 (bitsL b) := by
  have h := bitsFrom_rises (digitsB b) 0
  refine Rising.lower h fun x hx => ?_
  have hx0 := (Rising.mem h x hx).1
  obtain ⟨i, rfl⟩ := Int.eq_ofNat_of_zero_le hx0
  have h1024 : b < 1024 := Nat.lt_of_lt_of_le hb (Nat.pow_le_pow_right (by omega) hn : 2 ^ n ≤ 2 ^ 10)
  have := (mem_bitsL h1024 i).1 hx
  by_cases hlt : i < n
  · omega
  · rw [testBit_high hb (by omega)] at this; cases this

def natOf : List Bool → Nat
  | [] => 0
  | b :: bs => (if b then 1 else 0) + 2 * natOf bs
theorem natOf_lt (bs : List Bool) : natOf bs < 2 ^ bs.length := by
  induction bs with
  | nil => simp [natOf]
  | cons b bs ih => simp only [natOf, List.length_cons, Nat.pow_succ]; cases b <;> simp <;> omega
theorem gbits_nat (bs : List Bool) : gbits bs = (natOf bs : Int) := by
  induction bs with
  | nil => rfl
  | cons b bs ih => simp only [gbits, natOf, ih]; cases b <;> simp
theorem testBit_natOf (bs : List Bool) : ∀ i, (natOf bs).testBit i = bs[i]?.getD false := by
  induction bs with
  | nil => intro i; simp [natOf]
  | cons b bs ih =>
    intro i
    cases i with
    | zero =>
      simp only [natOf, Nat.testBit_zero, List.getElem?_cons_zero, Option.getD_some]
      cases b <;> simp <;> omega
    | succ i =>
      rw [Nat.testBit_succ, List.getElem?_cons_succ, ← ih i]
      congr 1
      simp only [natOf]
      cases b <;> simp <;> omega
theorem rises_bitsL {n : Nat} (hn : n ≤ 10) {l : List Int} (hl : Rising n 0 l) : ∃ b, b < 2 ^ n ∧ bitsL b = l := by
  obtain ⟨bs, h1, h2⟩ := rises_bits n n 0 l (by omega) hl
  have hlt : natOf bs < 2 ^ n := by rw [← h1]; exact natOf_lt bs
  refine ⟨natOf bs, hlt, Rising.ext (bitsL_rises hn hlt) hl fun i => ?_⟩
  rw [mem_bitsL (Nat.lt_of_lt_of_le hlt (Nat.pow_le_pow_right (by omega) hn : 2 ^ n ≤ 2 ^ 10)), testBit_natOf, ← h2, mem_bitsFrom]
  simp only [Nat.zero_le, true_and, Nat.sub_zero]
  cases bs[i]? with
  | none => simp
  | some b => simp

/-- The shortest list of several, by bits: as the reference goes through them. -/
def bestR (p : Nat → Bool) (init : List Int) (N : Nat) : List Int := (List.range N).foldl (fun best b => if shorterB (bitsL b) best && p b then bitsL b else best) init
theorem bestR_succ (p : Nat → Bool) (init : List Int) (N : Nat) : bestR p init (N + 1) = if shorterB (bitsL N) (bestR p init N) && p N then bitsL N else bestR p init N := by
  unfold bestR
  rw [List.range_succ, List.foldl_append]
  rfl
theorem bestR_spec (p : Nat → Bool) (P : List Int → Bool) (init : List Int) (n : Nat) (hi : P init = true) (hr : Rising n 0 init) (hn : n ≤ 10) : ∀ N, N ≤ 2 ^ n → (∀ b, b < N → p b = P (bitsL b)) →
    P (bestR p init N) = true ∧ Rising n 0 (bestR p init N) ∧ shorterB init (bestR p init N) = false ∧ ∀ b, b < N → P (bitsL b) = true → shorterB (bitsL b) (bestR p init N) = false := by
  intro N
  induction N with
  | zero => intro _ _; exact ⟨hi, hr, shorterB_irrefl _, fun b hb => by omega⟩
  | succ N ih =>
    intro hN hp
    obtain ⟨h1, h2, h3, h4⟩ := ih (by omega) fun b hb => hp b (by omega)
    rw [bestR_succ, hp N (by omega)]
    generalize bestR p init N = r at *
    by_cases hc : (shorterB (bitsL N) r && P (bitsL N)) = true
    · rw [if_pos hc]
      simp only [Bool.and_eq_true] at hc
      have hf : ∀ x, shorterB x r = false → shorterB x (bitsL N) = false := fun x hx => by
        cases e : shorterB x (bitsL N)
        · rfl
        · rw [shorterB_trans e hc.1] at hx; cases hx
      refine ⟨hc.2, bitsL_rises hn (by omega), hf _ h3, fun b hb hpb => ?_⟩
      by_cases e : b = N
      · subst e; exact shorterB_irrefl _
      · exact hf _ (h4 b (by omega) hpb)
    · rw [if_neg hc]
      refine ⟨h1, h2, h3, fun b hb hpb => ?_⟩
      by_cases e : b = N
      · subst e
        cases e2 : shorterB (bitsL b) r
        · rfl
        · rw [e2, hpb] at hc; exact absurd rfl hc
      · exact h4 b (by omega) hpb
theorem bestR_fewest (p : Nat → Bool) (P : List Int → Bool) (n : Nat) (hn : n ≤ 10) (hp : ∀ b, b < 2 ^ n → p b = P (bitsL b)) (hfull : P (bitsL (2 ^ n - 1)) = true) : Fewest P n (bestR p (bitsL (2 ^ n - 1)) (2 ^ n)) := by
  have hpos : 0 < 2 ^ n := Nat.pow_pos (by omega)
  obtain ⟨h1, h2, h3, h4⟩ := bestR_spec p P (bitsL (2 ^ n - 1)) n hfull (bitsL_rises hn (by omega)) hn (2 ^ n) (Nat.le_refl _) hp
  refine ⟨h2, h1, fun t ht hpt => ?_⟩
  obtain ⟨b, hb, rfl⟩ := rises_bitsL hn ht
  exact h4 b hb hpt

/-! ### Trials that are right together -/
def rightsL (c : Ce) (l : List Int) : List Bool := c.trials.map (rightT c l)
/-- For each truth without trials which trials are right, by bits. -/
def allR (c : Ce) : List Nat := (List.range (manyR c).toNat).map fun n : Nat => natOf (rightsL c (nthL c.heaps n))
def canR (all : List Nat) (t : Nat) : Bool := all.any fun a => (a &&& t) == t
theorem and_eq_iff (a t : Nat) : (a &&& t) = t ↔ ∀ i, t.testBit i = true → a.testBit i = true := by
  constructor
  · intro h i hi
    rw [← h, Nat.testBit_and, Bool.and_eq_true] at hi
    exact hi.1
  · intro h
    refine Nat.eq_of_testBit_eq fun i => ?_
    rw [Nat.testBit_and]
    cases e : t.testBit i
    · simp
    · rw [h i e]; rfl
theorem canR_iff {c : Ce} (hf : fault c = 0) (t : Nat) : canR (allR c) t = true ↔ ∃ l, listed c.heaps l = true ∧ ∀ i, t.testBit i = true → ∃ x, c.trials[i]? = some x ∧ rightT c l x = true := by
  obtain ⟨hg, -⟩ := fault_good hf
  have hm := manyR_eq hf
  simp only [canR, List.any_eq_true, beq_iff_eq, allR, List.mem_map, List.mem_range]
  have hone : ∀ (l : List Int) (i : Nat), (natOf (rightsL c l)).testBit i = true ↔ ∃ x, c.trials[i]? = some x ∧ rightT c l x = true := fun l i => by
    rw [testBit_natOf, rightsL, List.getElem?_map]
    cases c.trials[i]? with
    | none => simp
    | some x => simp
  constructor
  · rintro ⟨a, ⟨n, hn, rfl⟩, ha⟩
    refine ⟨nthL c.heaps n, nthL_listed _ (good_size hg) _, fun i hi => (hone _ i).1 ((and_eq_iff _ _).1 ha i hi)⟩
  · rintro ⟨l, hl, h⟩
    obtain ⟨n, a, b, e⟩ := nthL_onto _ (good_size hg) l hl
    refine ⟨_, ⟨n.toNat, by omega, rfl⟩, (and_eq_iff _ _).2 fun i hi => ?_⟩
    rw [Int.toNat_of_nonneg a, e]
    exact (hone l i).2 (h i hi)
theorem possible_iff {c : Ce} (hg : Good c) {out : List Int} : possible c out = true ↔ ∃ l, listed c.heaps l = true ∧ right c l out = true := by
  simp only [possible, Bool.not_eq_true']
  constructor
  · intro h
    cases e : truthsOf c out with
    | nil => rw [e] at h; cases h
    | cons x T =>
      have hx : x ∈ truthsOf c out := by rw [e]; simp
      have h1 := mem_truthsOf.1 hx
      exact ⟨x, h1.1, by rw [← right_pad3 hg (truth_length hx)]; exact h1.2⟩
  · rintro ⟨l, h1, h2⟩
    have : l ∈ truthsOf c out := mem_truthsOf.2 ⟨h1, by rw [right_pad3 hg (listed_length _ _ h1)]; exact h2⟩
    cases e : truthsOf c out with
    | nil => rw [e] at this; cases this
    | cons x T => rfl
theorem listed_some {c : Ce} (hg : Good c) : ∃ l, listed c.heaps l = true := ⟨_, nthL_listed _ (good_size hg) 0⟩

theorem testBit_ones (n i : Nat) : (2 ^ n - 1).testBit i = decide (i < n) := Nat.testBit_two_pow_sub_one n i
/-- The trials that are not left out, by bits. -/
def keptN (n b : Nat) : Nat := natOf ((List.range n).map fun i => !b.testBit i)
theorem testBit_keptN (n b i : Nat) : (keptN n b).testBit i = (decide (i < n) && !b.testBit i) := by
  rw [keptN, testBit_natOf]
  by_cases h : i < n
  · rw [List.getElem?_map, List.getElem?_range h]; simp [h]
  · rw [List.getElem?_eq_none (by simp; omega)]; simp [h]
theorem leave_can {c : Ce} (hf : fault c = 0) (b : Nat) (hb : b < 2 ^ c.trials.length) : canR (allR c) (keptN c.trials.length b) = possible c (bitsL b) := by
  obtain ⟨hg, -⟩ := fault_good hf
  have h5 := hg.facts.1.2.2.2
  have h1024 : b < 1024 := Nat.lt_of_lt_of_le hb (Nat.pow_le_pow_right (by omega) (by omega) : 2 ^ c.trials.length ≤ 2 ^ 10)
  rw [Bool.eq_iff_iff, canR_iff hf, possible_iff hg]
  constructor
  · rintro ⟨l, h1, h2⟩
    refine ⟨l, h1, right_iff.2 fun j t hj => ?_⟩
    by_cases e : b.testBit j = true
    · exact .inl ((mem_bitsL h1024 j).2 e)
    · obtain ⟨x, hx, hr⟩ := h2 j (by rw [testBit_keptN]; have := (List.getElem?_eq_some_iff.1 hj).1; simp [this, e])
      rw [hj] at hx; cases hx
      exact .inr hr
  · rintro ⟨l, h1, h2⟩
    refine ⟨l, h1, fun i hi => ?_⟩
    rw [testBit_keptN, Bool.and_eq_true, decide_eq_true_eq] at hi
    refine ⟨c.trials[i]'hi.1, List.getElem?_eq_getElem hi.1, ?_⟩
    rcases right_iff.1 h2 i _ (List.getElem?_eq_getElem hi.1) with h | h
    · rw [mem_bitsL h1024] at h; rw [h] at hi; simp at hi
    · exact h
theorem possible_full {c : Ce} (hf : fault c = 0) : possible c (bitsL (2 ^ c.trials.length - 1)) = true := by
  obtain ⟨hg, -⟩ := fault_good hf
  have h5 := hg.facts.1.2.2.2
  have hpos : 0 < 2 ^ c.trials.length := Nat.pow_pos (by omega)
  have hle : (2 : Nat) ^ c.trials.length ≤ 2 ^ 10 := Nat.pow_le_pow_right (by omega) (by omega)
  obtain ⟨l, hl⟩ := listed_some hg
  refine (possible_iff hg).2 ⟨l, hl, right_iff.2 fun j t hj => .inl ?_⟩
  rw [mem_bitsL (by omega), testBit_ones]
  simpa using (List.getElem?_eq_some_iff.1 hj).1
/-- The reference's smallest set. -/
def leaveR (c : Ce) : List Int := bestR (fun b => canR (allR c) (keptN c.trials.length b)) (bitsL (2 ^ c.trials.length - 1)) (2 ^ c.trials.length)
theorem leaveR_fewest {c : Ce} (hf : fault c = 0) : Fewest (possible c) c.trials.length (leaveR c) := by
  obtain ⟨hg, -⟩ := fault_good hf
  have h5 := hg.facts.1.2.2.2
  exact bestR_fewest _ _ _ (by omega) (fun b hb => leave_can hf b hb) (possible_full hf)
theorem leaveOf_eq {c : Ce} (hf : fault c = 0) : leaveOf c = some (leaveR c) := by
  have h := leaveR_fewest hf
  obtain ⟨r, hr⟩ := shortestS_some h.rises h.pass
  rw [leaveOf, hr, (shortestS_spec hr).unique h]

/-- The reference's first wrong trial. -/
def firstFromR (all : List Nat) : List Nat → Option Nat
  | [] => none
  | k :: ks => if canR all (2 ^ (k + 1) - 1) then firstFromR all ks else some k
def firstR (c : Ce) : Option Nat := firstFromR (allR c) (List.range c.trials.length)
theorem upTo_right (c : Ce) (k : Nat) (l : List Int) (t : Tl) : rightT (upTo c k) l t = rightT c l t := rfl
theorem upTo_can {c : Ce} (hf : fault c = 0) {k : Nat} (hk : k < c.trials.length) : possible (upTo c (k + 1)) [] = canR (allR c) (2 ^ (k + 1) - 1) := by
  obtain ⟨hg, -⟩ := fault_good hf
  rw [Bool.eq_iff_iff, canR_iff hf, possible_iff (upTo_good hg (k + 1))]
  refine exists_congr fun l => and_congr Iff.rfl ?_
  rw [right_iff]
  constructor
  · intro h i hi
    rw [testBit_ones, decide_eq_true_eq] at hi
    refine ⟨c.trials[i]'(by omega), List.getElem?_eq_getElem _, ?_⟩
    have := h i (c.trials[i]'(by omega)) (by simp only [upTo]; rw [List.getElem?_take, if_pos hi, List.getElem?_eq_getElem])
    simpa [upTo_right] using this
  · intro h j t hj
    simp only [upTo] at hj
    rw [List.getElem?_take] at hj
    split at hj
    · next hlt =>
      obtain ⟨x, hx, hr⟩ := h j (by rw [testBit_ones]; simpa using hlt)
      rw [hj] at hx; cases hx
      exact .inr hr
    · cases hj
theorem firstOf_eq {c : Ce} (hf : fault c = 0) : firstOf c = firstR c := by
  have : ∀ ks : List Nat, (∀ k ∈ ks, k < c.trials.length) → firstFrom c ks = firstFromR (allR c) ks := by
    intro ks
    induction ks with
    | nil => intro _; rfl
    | cons k ks ih =>
      intro h
      simp only [firstFrom, firstFromR]
      rw [upTo_can hf (h k (by simp)), ih fun x hx => h x (by simp [hx])]
  exact this _ fun k hk => by simpa using hk
end Go.Proofs.Ytjddcaimjofihaa

namespace Go.Proofs.Ytjddcaimjofihaa

/-! ### Grades -/
/-- The reference's verdict: how many truths have the grade. -/
def manyG (c : Ce) (T : List (List Int)) (k g : Int) : Nat := (T.filter fun l => decide (g ≤ mean l (c.casks.getD k.toNat []))).length
def gradedR (c : Ce) (T : List (List Int)) (k g : Int) : Int := if manyG c T k g = T.length then 1 else if manyG c T k g = 0 then 2 else 3
theorem ofT_cask (c : Ce) (l : List Int) (k : Int) (hk : 0 ≤ k) : ofT c l (c.heaps.length + k) = mean l (c.casks.getD k.toNat []) := by
  unfold ofT
  rw [if_pos (by omega), show (((c.heaps.length : Int) + k) - c.heaps.length).toNat = k.toNat by omega]
theorem filter_all_len {α : Type} (p : α → Bool) (l : List α) : (l.filter p).length = l.length ↔ ∀ x ∈ l, p x = true := List.length_filter_eq_length_iff
theorem filter_none_len {α : Type} (p : α → Bool) (l : List α) : (l.filter p).length = 0 ↔ ∀ x ∈ l, ¬ p x = true := by
  rw [List.length_eq_zero_iff, List.filter_eq_nil_iff]
theorem gradedR_eq {c : Ce} (hf : fault c = 0) (hT : truthsOf c [] ≠ []) {k : Int} (h0 : 0 ≤ k) (h1 : k < c.casks.length) (g : Int) : gradedV c k g = gradedR c (truthsR c) k g := by
  have hT' : truthsR c ≠ [] := fun e => hT ((truthsR_nil hf).1 e)
  have hb := bndR_is c (c.heaps.length + k) hT' fun s hs => by
    obtain ⟨hg, -⟩ := fault_good hf
    have hs := (mem_truthsR hf).1 hs
    rw [← ofT_pad3 hg (truth_length hs) (by omega) (by omega)]
    exact truth_bd hg hs (by omega) (by omega)
  rw [gradedV, bndR_eq hf hT (by omega) (by omega), gradedR]
  generalize bndR c (c.heaps.length + k) (truthsR c) = r at *
  obtain ⟨s1, m1, e1⟩ := hb.low
  obtain ⟨s2, m2, e2⟩ := hb.high
  have hin := hb.inside
  simp only [ofT_cask c _ k h0] at e1 e2 hin
  have ha : manyG c (truthsR c) k g = (truthsR c).length ↔ g ≤ r.lo := by
    rw [manyG, filter_all_len]
    constructor
    · intro h; have := of_decide_eq_true (h s1 m1); omega
    · intro h x hx; have := hin x hx; exact decide_eq_true (by omega)
  have hz : manyG c (truthsR c) k g = 0 ↔ r.hi < g := by
    rw [manyG, filter_none_len]
    constructor
    · intro h; have := h s2 m2; simp only [decide_eq_true_eq] at this; omega
    · intro h x hx; have := hin x hx; simp only [decide_eq_true_eq]; omega
  by_cases hc : g ≤ r.lo
  · rw [if_pos hc, if_pos (ha.2 hc)]
  · rw [if_neg hc, if_neg (fun e => hc (ha.1 e))]
    by_cases hd : r.hi < g
    · rw [if_pos hd, if_pos (hz.2 hd)]
    · rw [if_neg hd, if_neg (fun e => hd (hz.1 e))]

/-! ### Blends -/
theorem leastOf_iff (T : List (List Int)) (ws : List Int) (g : Int) (hg : g ≤ 100) : g ≤ leastOf T ws ↔ ∀ s ∈ T, g ≤ mean (pad3 s) ws := by
  have : ∀ (T : List (List Int)) (n : Int), g ≤ T.foldl (fun n s => min n (mean (pad3 s) ws)) n ↔ g ≤ n ∧ ∀ s ∈ T, g ≤ mean (pad3 s) ws := by
    intro T
    induction T with
    | nil => intro n; simp
    | cons s T ih =>
      intro n
      rw [List.foldl_cons, ih]
      simp only [List.mem_cons, forall_eq_or_imp, ← and_assoc]
      refine and_congr ?_ Iff.rfl
      omega
  rw [leastOf, this]
  exact ⟨fun h => h.2, fun h => ⟨hg, h⟩⟩
/-- Lists of weights from 0 to those of a stock. -/
def inStock : List Int → List Int → Bool
  | [], [] => true
  | x :: st, w :: ws => within w 0 x && inStock st ws
  | _, _ => false
theorem inStock_length : ∀ {st ws : List Int}, inStock st ws = true → ws.length = st.length
  | [], [], _ => rfl
  | [], _ :: _, h => by simp [inStock] at h
  | _ :: _, [], h => by simp [inStock] at h
  | x :: st, w :: ws, h => by simp only [inStock, Bool.and_eq_true] at h; simp [inStock_length h.2]
theorem inStock_nonneg : ∀ {st ws : List Int}, inStock st ws = true → ∀ x ∈ ws, 0 ≤ x
  | [], [], _, x, hx => by simp at hx
  | [], _ :: _, h, _, _ => by simp [inStock] at h
  | _ :: _, [], h, _, _ => by simp [inStock] at h
  | y :: st, w :: ws, h, x, hx => by
    simp only [inStock, Bool.and_eq_true, within_iff] at h
    rcases List.mem_cons.1 hx with rfl | hx
    · exact h.1.1
    · exact inStock_nonneg h.2 x hx
/-- The lexicographically first list of weights that is good. -/
structure Best (P : List Int → Prop) (r : List Int) : Prop where
  good : P r
  first : ∀ t, P t → beforeB t r = false
theorem Best.unique {P : List Int → Prop} {r q : List Int} (h : Best P r) (k : Best P q) : r = q := beforeB_total r q (k.first r h.good) (h.first q k.good)
theorem findSome_some' {α : Type} (f : Nat → Option α) (m : Nat) (i : Nat) (hi : i < m) (hs : (f i).isSome = true) : ∃ r, (List.range m).findSome? f = some r := by
  cases h : (List.range m).findSome? f with
  | some r => exact ⟨r, rfl⟩
  | none => have := findSome_none f m h i hi; rw [this] at hs; cases hs
theorem pickB_spec (ok : List Int → Bool) : ∀ (xs : List Int) (left : Int) (pre : List Int),
    (∀ r, pickB ok xs left pre = some r → ∃ t, r = pre ++ t ∧ inStock xs t = true ∧ sumI t = left ∧ ok r = true ∧ ∀ t', inStock xs t' = true → sumI t' = left → ok (pre ++ t') = true → beforeB t' t = false) ∧
    (pickB ok xs left pre = none → ∀ t', inStock xs t' = true → sumI t' = left → ok (pre ++ t') = false) := by
  intro xs
  induction xs with
  | nil =>
    intro left pre
    refine ⟨fun r h => ?_, fun h t' ht hs => ?_⟩
    · simp only [pickB] at h
      split at h
      · next hp =>
        cases h
        exact ⟨[], by simp, rfl, by simp [sumI, hp.1], hp.2, fun t' ht _ _ => by rw [List.eq_nil_of_length_eq_zero (inStock_length ht)]; rfl⟩
      · cases h
    · have := List.eq_nil_of_length_eq_zero (inStock_length ht)
      subst this
      simp only [sumI] at hs
      rw [List.append_nil]
      simp only [pickB] at h
      split at h
      · cases h
      · next hp =>
        cases e : ok pre
        · rfl
        · exact absurd ⟨hs.symm, e⟩ hp
  | cons x xs ih =>
    intro left pre
    rw [pickB_cons]
    refine ⟨fun r h => ?_, fun h t' ht hs => ?_⟩
    · obtain ⟨j, hj, h1, h2⟩ := findSome_some _ _ _ h
      obtain ⟨t, rfl, hin, hsum, hok, hmin⟩ := (ih (left - j) (pre ++ [(j : Int)])).1 r h1
      have hjx : (j : Int) ≤ x ∧ (j : Int) ≤ left := by omega
      refine ⟨(j : Int) :: t, by simp, by simp only [inStock, Bool.and_eq_true, within_iff]; exact ⟨by omega, hin⟩, by simp only [sumI]; omega, hok, fun t' ht hs hp => ?_⟩
      cases t' with
      | nil => simp [inStock] at ht
      | cons y t' =>
        simp only [inStock, Bool.and_eq_true, within_iff] at ht
        simp only [sumI] at hs
        have hn := sumI_nonneg (inStock_nonneg ht.2)
        obtain ⟨i, rfl⟩ := Int.eq_ofNat_of_zero_le ht.1.1
        simp only [beforeB]
        by_cases e : i = j
        · subst e
          rw [if_pos rfl]
          exact hmin t' ht.2 (by omega) (by simpa using hp)
        · rw [if_neg (by omega)]
          by_cases hlt : i < j
          · have hx := (ih (left - i) (pre ++ [(i : Int)])).2 (h2 i hlt) t' ht.2 (by omega)
            rw [List.append_assoc] at hx
            simp only [List.singleton_append] at hx
            rw [hx] at hp; cases hp
          · simp; omega
    · cases t' with
      | nil => simp [inStock] at ht
      | cons y t' =>
        simp only [inStock, Bool.and_eq_true, within_iff] at ht
        simp only [sumI] at hs
        have hn := sumI_nonneg (inStock_nonneg ht.2)
        obtain ⟨i, rfl⟩ := Int.eq_ofNat_of_zero_le ht.1.1
        have hx := (ih (left - i) (pre ++ [(i : Int)])).2 (findSome_none _ _ h i (by omega)) t' ht.2 (by omega)
        rw [List.append_assoc] at hx
        simpa using hx
/-- Whether a list is a blend, in the reference's words. -/
def isBlendR (T : List (List Int)) (st : List Int) (wt g : Int) (ws : List Int) : Bool := inStock st ws && decide (sumI ws = wt) && T.all fun s => decide (g ≤ mean s ws)
theorem isBlendR_iff {T : List (List Int)} {st : List Int} {wt g : Int} {ws : List Int} : isBlendR T st wt g ws = true ↔ inStock st ws = true ∧ sumI ws = wt ∧ ∀ s ∈ T, g ≤ mean s ws := by
  simp only [isBlendR, Bool.and_eq_true, decide_eq_true_eq, List.all_eq_true, and_assoc]
theorem okB_iff {c : Ce} (hf : fault c = 0) {g : Int} (hg : g ≤ 100) {ws : List Int} (hw : ws.length = c.heaps.length) : okB (truthsOf c []) g ws = true ↔ ∀ s ∈ truthsR c, g ≤ mean s ws := by
  obtain ⟨hgd, -⟩ := fault_good hf
  obtain ⟨⟨g1, g2, -⟩, -⟩ := hgd.facts
  rw [okB, decide_eq_true_eq, leastOf_iff _ _ _ hg]
  constructor
  · intro h s hs
    have hs' := (mem_truthsR hf).1 hs
    have hl := truth_length hs'
    have := h s hs'
    rwa [mean_pad3 ws s (by omega) (by omega)] at this
  · intro h s hs
    have hl := truth_length hs
    rw [mean_pad3 ws s (by omega) (by omega)]
    exact h s ((mem_truthsR hf).2 hs)
theorem pick_best {c : Ce} (hf : fault c = 0) {g wt : Int} (hg : g ≤ 100) {st : List Int} (hst : st.length = c.heaps.length) :
    (∀ r, pickB (okB (truthsOf c []) g) st wt [] = some r → Best (fun ws => isBlendR (truthsR c) st wt g ws = true) r) ∧
    (pickB (okB (truthsOf c []) g) st wt [] = none → ∀ ws, isBlendR (truthsR c) st wt g ws = false) := by
  obtain ⟨h1, h2⟩ := pickB_spec (okB (truthsOf c []) g) st wt []
  refine ⟨fun r hr => ?_, fun hn ws => ?_⟩
  · obtain ⟨t, ht, a1, a2, a3, a4⟩ := h1 r hr
    simp only [List.nil_append] at ht a4
    subst ht
    refine ⟨isBlendR_iff.2 ⟨a1, a2, (okB_iff hf hg ((inStock_length a1).trans hst)).1 a3⟩, fun t ht => ?_⟩
    obtain ⟨b1, b2, b3⟩ := isBlendR_iff.1 ht
    exact a4 t b1 b2 ((okB_iff hf hg ((inStock_length b1).trans hst)).2 b3)
  · cases e : isBlendR (truthsR c) st wt g ws
    · rfl
    · obtain ⟨b1, b2, b3⟩ := isBlendR_iff.1 e
      have := h2 hn ws b1 b2
      simp only [List.nil_append] at this
      rw [(okB_iff hf hg ((inStock_length b1).trans hst)).2 b3] at this
      cases this

/-! ### What things show, as one number -/
/-- The numbers that have been given are 1, 2, .., and no pair has two. -/
structure Tally (M : List ((Int × Int) × Int)) : Prop where
  vals : ∀ (i : Nat) (p : (Int × Int) × Int), M[i]? = some p → p.2 = (i : Int) + 1
  keys : ∀ (i j : Nat) (p q : (Int × Int) × Int), M[i]? = some p → M[j]? = some q → p.1 = q.1 → i = j
theorem Tally.nil : Tally [] := ⟨fun i p h => by simp at h, fun i j p q h => by simp at h⟩
theorem lookup_at {M : List ((Int × Int) × Int)} {k : Int × Int} {v : Int} (h : M.lookup k = some v) : ∃ i : Nat, M[i]? = some (k, v) := List.getElem?_of_mem (lookup_mem h)
theorem lookup_not {M : List ((Int × Int) × Int)} {k : Int × Int} (h : M.lookup k = none) : ∀ (i : Nat) (p : (Int × Int) × Int), M[i]? = some p → p.1 ≠ k := by
  induction M with
  | nil => intro i p hp; simp at hp
  | cons q M ih =>
    obtain ⟨a, b⟩ := q
    simp only [List.lookup] at h
    cases e : k == a with
    | true => rw [e] at h; cases h
    | false =>
      rw [e] at h
      intro i p hp
      cases i with
      | zero => simp at hp; subst hp; intro he; simp at he; subst he; simp at e
      | succ i => exact ih h i p (by simpa using hp)
theorem Tally.snoc {M : List ((Int × Int) × Int)} (h : Tally M) {k : Int × Int} (hk : M.lookup k = none) : Tally (M ++ [(k, (M.length : Int) + 1)]) := by
  have hat : ∀ (i : Nat) (p : (Int × Int) × Int), (M ++ [(k, (M.length : Int) + 1)])[i]? = some p → M[i]? = some p ∨ (i = M.length ∧ p = (k, (M.length : Int) + 1)) := fun i p hp => by
    by_cases hi : i < M.length
    · rw [List.getElem?_append_left hi] at hp; exact .inl hp
    · rw [List.getElem?_append_right (by omega)] at hp
      have := (List.getElem?_eq_some_iff.1 hp).1
      simp at this
      have hi' : i = M.length := by omega
      subst hi'
      simp at hp
      exact .inr ⟨rfl, hp.symm⟩
  constructor
  · intro i p hp
    rcases hat i p hp with hp | ⟨rfl, rfl⟩
    · exact h.vals i p hp
    · rfl
  · intro i j p q hp hq he
    rcases hat i p hp with hp | ⟨rfl, rfl⟩ <;> rcases hat j q hq with hq | ⟨rfl, rfl⟩
    · exact h.keys i j p q hp hq he
    · exact absurd he (lookup_not hk i p hp)
    · exact absurd he.symm (lookup_not hk j q hq)
    · rfl
/-- The way from a number through what is shown to another one. -/
def Way (M : List ((Int × Int) × Int)) : Int → List Int → Int → Prop
  | n, [], m => n = m
  | n, x :: xs, m => ∃ v, ((n, x), v) ∈ M ∧ Way M v xs m
theorem Way.mono {M M' : List ((Int × Int) × Int)} (h : ∀ p ∈ M, p ∈ M') : ∀ {xs : List Int} {n m : Int}, Way M n xs m → Way M' n xs m
  | [], _, _, hw => hw
  | _ :: _, _, _, ⟨v, h1, h2⟩ => ⟨v, h _ h1, h2.mono h⟩
theorem Way.same {M : List ((Int × Int) × Int)} (hM : Tally M) : ∀ {xs ys : List Int} {n k m : Int}, Way M n xs m → Way M k ys m → xs.length = ys.length → (xs = ys ∧ n = k) := by
  intro xs
  induction xs with
  | nil =>
    intro ys n k m h1 h2 hl
    have := List.eq_nil_of_length_eq_zero hl.symm
    subst this
    exact ⟨rfl, h1.trans h2.symm⟩
  | cons x xs ih =>
    intro ys n k m h1 h2 hl
    cases ys with
    | nil => simp at hl
    | cons y ys =>
      obtain ⟨v, a1, a2⟩ := h1
      obtain ⟨u, b1, b2⟩ := h2
      obtain ⟨e1, e2⟩ := ih a2 b2 (by simpa using hl)
      subst e1; subst e2
      obtain ⟨i, hi⟩ := List.getElem?_of_mem a1
      obtain ⟨j, hj⟩ := List.getElem?_of_mem b1
      have p := hM.vals i _ hi
      have q := hM.vals j _ hj
      simp only at p q
      have hij : i = j := by omega
      subst hij
      rw [hi] at hj
      simp only [Option.some.injEq, Prod.mk.injEq] at hj
      exact ⟨by rw [hj.1.2], hj.1.1⟩
theorem Way.det {M : List ((Int × Int) × Int)} (hM : Tally M) : ∀ {xs : List Int} {n m k : Int}, Way M n xs m → Way M n xs k → m = k := by
  intro xs
  induction xs with
  | nil => intro n m k h1 h2; exact h1.symm.trans h2
  | cons x xs ih =>
    intro n m k h1 h2
    obtain ⟨v, a1, a2⟩ := h1
    obtain ⟨u, b1, b2⟩ := h2
    obtain ⟨i, hi⟩ := List.getElem?_of_mem a1
    obtain ⟨j, hj⟩ := List.getElem?_of_mem b1
    have := hM.keys i j _ _ hi hj rfl
    subst this
    rw [hi] at hj
    simp only [Option.some.injEq, Prod.mk.injEq, true_and] at hj
    subst hj
    exact ih a2 b2
theorem classS_way (xs : List Int) : ∀ (M : List ((Int × Int) × Int)) (n : Int), Tally M → Tally (classS M n xs).1 ∧ (∀ p ∈ M, p ∈ (classS M n xs).1) ∧ Way (classS M n xs).1 n xs (classS M n xs).2 := by
  induction xs with
  | nil => intro M n h; exact ⟨h, fun p hp => hp, rfl⟩
  | cons x xs ih =>
    intro M n h
    unfold classS
    split
    · next v hv =>
      obtain ⟨h1, h2, h3⟩ := ih M v h
      exact ⟨h1, h2, v, h2 _ (lookup_mem hv), h3⟩
    · next hv =>
      obtain ⟨h1, h2, h3⟩ := ih (M ++ [((n, x), (M.length : Int) + 1)]) ((M.length : Int) + 1) (h.snoc hv)
      exact ⟨h1, fun p hp => h2 p (by simp [hp]), _, h2 _ (by simp), h3⟩

/-- Whether two truths that agree in things agree in which casks are of a grade. -/
def decidesP (c : Ce) (g : Int) (ts : List Int) (T : List (List Int)) : Prop := ∀ s ∈ T, ∀ u ∈ T, (∀ t ∈ ts, ofT c (pad3 s) t = ofT c (pad3 u) t) → gradesOf c (pad3 s) g = gradesOf c (pad3 u) g
def showsL (c : Ce) (ts : List Int) (s : List Int) : List Int := ts.map (ofT c (pad3 s))
theorem shows_eq {c : Ce} {ts s u : List Int} : showsL c ts s = showsL c ts u ↔ ∀ t ∈ ts, ofT c (pad3 s) t = ofT c (pad3 u) t := by
  simp only [showsL, List.map_inj_left]
/-- What decides has noted behind some truths. -/
structure Noted (c : Ce) (g : Int) (ts : List Int) (U : List (List Int)) (M1 : List ((Int × Int) × Int)) (M2 : List (Int × Int)) : Prop where
  tally : Tally M1
  way : ∀ u ∈ U, ∃ n, Way M1 0 (showsL c ts u) n ∧ M2.lookup n = some (gradesOf c (pad3 u) g)
  from_ : ∀ n b, M2.lookup n = some b → ∃ u ∈ U, Way M1 0 (showsL c ts u) n ∧ b = gradesOf c (pad3 u) g
theorem decS_iff (c : Ce) (g : Int) (ts : List Int) (T : List (List Int)) : ∀ (U : List (List Int)) (M1 : List ((Int × Int) × Int)) (M2 : List (Int × Int)), Noted c g ts U M1 M2 →
    (decS c g ts T M1 M2 = true ↔ ∀ s ∈ T, ∀ u, u ∈ U ∨ u ∈ T → showsL c ts s = showsL c ts u → gradesOf c (pad3 s) g = gradesOf c (pad3 u) g) := by
  induction T with
  | nil => intro U M1 M2 _; simp [decS]
  | cons s T ih =>
    intro U M1 M2 hN
    have hcl := classS_way (showsL c ts s) M1 0 hN.tally
    unfold decS
    change (match M2.lookup (classS M1 0 (showsL c ts s)).2 with | some old => if old = gradesOf c (pad3 s) g then decS c g ts T (classS M1 0 (showsL c ts s)).1 M2 else false | none => decS c g ts T (classS M1 0 (showsL c ts s)).1 (M2 ++ [((classS M1 0 (showsL c ts s)).2, gradesOf c (pad3 s) g)])) = true ↔ _
    obtain ⟨N1, hN1⟩ : ∃ N1, N1 = (classS M1 0 (showsL c ts s)).1 := ⟨_, rfl⟩
    obtain ⟨n, hn⟩ : ∃ n, n = (classS M1 0 (showsL c ts s)).2 := ⟨_, rfl⟩
    rw [← hN1, ← hn] at hcl ⊢
    obtain ⟨t1, t2, t3⟩ := hcl
    have hlen : ∀ u, (showsL c ts s).length = (showsL c ts u).length := fun u => by simp [showsL]
    cases hl : M2.lookup n with
    | some old =>
      obtain ⟨u, hu, hwu, hou⟩ := hN.from_ n old hl
      have hsu : showsL c ts s = showsL c ts u := (Way.same t1 t3 (hwu.mono t2) (hlen u)).1
      simp only
      by_cases he : old = gradesOf c (pad3 s) g
      · rw [if_pos he]
        have hN' : Noted c g ts (s :: U) N1 M2 := ⟨t1, fun x hx => by
          rcases List.mem_cons.1 hx with rfl | hx
          · exact ⟨n, t3, by rw [hl, he]⟩
          · obtain ⟨m, a, b⟩ := hN.way x hx; exact ⟨m, a.mono t2, b⟩, fun m b hb => by
          obtain ⟨x, hx, a, e⟩ := hN.from_ m b hb; exact ⟨x, by simp [hx], a.mono t2, e⟩⟩
        rw [ih _ _ _ hN']
        constructor
        · intro h x hx y hy hxy
          have key : ∀ z, z ∈ U ∨ z ∈ T → showsL c ts s = showsL c ts z → gradesOf c (pad3 s) g = gradesOf c (pad3 z) g := fun z hz hsz => by
            rcases hz with hz | hz
            · obtain ⟨m, a, b⟩ := hN.way z hz
              rw [← hsz] at a
              have := Way.det t1 (a.mono t2) t3
              subst this
              rw [hl] at b; cases b; exact he.symm
            · exact (h z hz s (by simp) hsz.symm).symm
          rcases List.mem_cons.1 hx with rfl | hx2
          · rcases hy with hy | hy
            · exact key y (.inl hy) hxy
            · rcases List.mem_cons.1 hy with rfl | hy2
              · rfl
              · exact key y (.inr hy2) hxy
          · rcases hy with hy | hy
            · exact h x hx2 y (.inl (by simp [hy])) hxy
            · rcases List.mem_cons.1 hy with e | hy2
              · exact h x hx2 y (.inl (by simp [e])) hxy
              · exact h x hx2 y (.inr hy2) hxy
        · intro h x hx y hy hxy
          refine h x (by simp [hx]) y ?_ hxy
          rcases hy with hy | hy
          · rcases List.mem_cons.1 hy with rfl | hy
            · right; simp
            · exact .inl hy
          · right; simp [hy]
      · rw [if_neg he]
        refine ⟨fun h => (by cases h), fun h => ?_⟩
        exact absurd (hou.trans (h s (by simp) u (.inl hu) hsu).symm) he
    | none =>
      have hN' : Noted c g ts (s :: U) N1 (M2 ++ [(n, gradesOf c (pad3 s) g)]) := ⟨t1, fun x hx => by
          rcases List.mem_cons.1 hx with rfl | hx
          · exact ⟨n, t3, by rw [lookup_snoc, hl]; simp⟩
          · obtain ⟨m, a, b⟩ := hN.way x hx
            exact ⟨m, a.mono t2, by rw [lookup_snoc, b]; rfl⟩, fun m b hb => by
          rw [lookup_snoc] at hb
          cases hm : M2.lookup m with
          | some y =>
            rw [hm] at hb
            simp at hb
            subst hb
            obtain ⟨x, hx, a, e⟩ := hN.from_ m _ hm
            exact ⟨x, by simp [hx], a.mono t2, e⟩
          | none =>
            rw [hm] at hb
            simp only [Option.none_or] at hb
            split at hb
            · next hmn =>
              cases hb
              have : m = n := by simpa using hmn
              subst this
              exact ⟨s, by simp, t3, rfl⟩
            · cases hb⟩
      simp only
      rw [ih _ _ _ hN']
      constructor
      · intro h x hx y hy hxy
        have key : ∀ z, z ∈ U ∨ z ∈ T → showsL c ts s = showsL c ts z → gradesOf c (pad3 s) g = gradesOf c (pad3 z) g := fun z hz hsz => by
          rcases hz with hz | hz
          · obtain ⟨m, a, b⟩ := hN.way z hz
            rw [← hsz] at a
            have := Way.det t1 (a.mono t2) t3
            subst this
            rw [hl] at b; cases b
          · exact (h z hz s (by simp) hsz.symm).symm
        rcases List.mem_cons.1 hx with rfl | hx2
        · rcases hy with hy | hy
          · exact key y (.inl hy) hxy
          · rcases List.mem_cons.1 hy with rfl | hy2
            · rfl
            · exact key y (.inr hy2) hxy
        · rcases hy with hy | hy
          · exact h x hx2 y (.inl (by simp [hy])) hxy
          · rcases List.mem_cons.1 hy with e | hy2
            · exact h x hx2 y (.inl (by simp [e])) hxy
            · exact h x hx2 y (.inr hy2) hxy
      · intro h x hx y hy hxy
        refine h x (by simp [hx]) y ?_ hxy
        rcases hy with hy | hy
        · rcases List.mem_cons.1 hy with rfl | hy
          · right; simp
          · exact .inl hy
        · right; simp [hy]
theorem decS_spec (c : Ce) (g : Int) (ts : List Int) (T : List (List Int)) : decS c g ts T [] [] = true ↔ decidesP c g ts T := by
  rw [decS_iff c g ts T [] [] [] ⟨Tally.nil, fun u hu => by simp at hu, fun n b hb => by simp at hb⟩]
  simp only [List.not_mem_nil, false_or, shows_eq, decidesP]
end Go.Proofs.Ytjddcaimjofihaa
