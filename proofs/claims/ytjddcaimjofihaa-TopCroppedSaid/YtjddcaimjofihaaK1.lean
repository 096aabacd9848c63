/- The plain functions of a field of package crop, and how it lies in memory; no condition. -/
import Derived.Test.YtjddcaimjofihaaProg
import Derived.Test.YtjddcaimjofihaaB9
namespace Go.Proofs.Ytjddcaimjofihaa
open Go.RowKit
set_option maxRecDepth 100000

structure Lk where
  week : Int
  w : Rg
deriving DecidableEq, Repr
instance : Inhabited Lk := ⟨⟨0, ⟨0, 0⟩⟩⟩
structure Fl where
  last : Int
  growth : List Rg
  wet : List Int
  base : List Int
  crops : List Int
  ripe : Int
  late : Int
  trod : Int
  looks : List Lk
deriving Repr
instance : Inhabited Fl := ⟨⟨0, [], [], [], [], 0, 0, 0, []⟩⟩

abbrev Lks := Sl 3 (fun l : Lk => [Value.int .i64 l.week, Value.int .i64 l.w.lo, Value.int .i64 l.w.hi])
def FlV (S : Nat → Prop) (w : World) (v : Value) (f : Fl) : Prop :=
  ∃ gv wv bv cv lv, v = .agg #[.int .i64 f.last, gv, wv, bv, cv, .int .i64 f.ripe, .int .i64 f.late, .int .i64 f.trod, lv] ∧ Rgs S w gv f.growth ∧ Ints S w wv f.wet ∧ Ints S w bv f.base ∧ Ints S w cv f.crops ∧ Lks S w lv f.looks
theorem FlV.keep {S : Nat → Prop} {w w' : World} {v : Value} {f : Fl} (h : FlV S w v f) (k : Keep S w w') : FlV S w' v f := by
  obtain ⟨gv, wv, bv, cv, lv, rfl, h1, h2, h3, h4, h5⟩ := h
  exact ⟨gv, wv, bv, cv, lv, rfl, h1.keep k, h2.keep k, h3.keep k, h4.keep k, h5.keep k⟩
theorem FlV.mono {S S' : Nat → Prop} {w : World} {v : Value} {f : Fl} (h : FlV S w v f) (k : ∀ b, S b → S' b) : FlV S' w v f := by
  obtain ⟨gv, wv, bv, cv, lv, rfl, h1, h2, h3, h4, h5⟩ := h
  exact ⟨gv, wv, bv, cv, lv, rfl, h1.mono k, h2.mono k, h3.mono k, h4.mono k, h5.mono k⟩
theorem FlV.below {n : Nat} {w w' : World} {v : Value} {f : Fl} (h : FlV (Lt n) w v f) (k : Below n w w') : FlV (Lt n) w' v f := h.keep (below_keep k)
theorem FlV.le {n m : Nat} {w : World} {v : Value} {f : Fl} (h : FlV (Lt n) w v f) (hn : n ≤ m) : FlV (Lt m) w v f := h.mono fun _ hb => Nat.lt_of_lt_of_le hb hn
/-- A field, opened. -/
theorem FlV.open {S : Nat → Prop} {w : World} {v : Value} {f : Fl} (h : FlV S w v f) : ∃ ga gc wa wc ba bc ca cc la lc,
    v = .agg #[.int .i64 f.last, .slice ga f.growth.length gc, .slice wa f.wet.length wc, .slice ba f.base.length bc, .slice ca f.crops.length cc, .int .i64 f.ripe, .int .i64 f.late, .int .i64 f.trod, .slice la f.looks.length lc] ∧
    Rgs S w (.slice ga f.growth.length gc) f.growth ∧ Ints S w (.slice wa f.wet.length wc) f.wet ∧ Ints S w (.slice ba f.base.length bc) f.base ∧ Ints S w (.slice ca f.crops.length cc) f.crops ∧ Lks S w (.slice la f.looks.length lc) f.looks := by
  obtain ⟨gv, wv, bv, cv, lv, rfl, h1, h2, h3, h4, h5⟩ := h
  obtain ⟨ga, gc, rfl, -, -⟩ := h1.at
  obtain ⟨wa, wc, rfl, -, -⟩ := h2.at
  obtain ⟨ba, bc, rfl, -, -⟩ := h3.at
  obtain ⟨ca, cc, rfl, -, -⟩ := h4.at
  obtain ⟨la, lc, rfl, -, -⟩ := h5.at
  exact ⟨ga, gc, wa, wc, ba, bc, ca, cc, la, lc, rfl, h1, h2, h3, h4, h5⟩

/-- Whether a list rises, from a number on, up to the last week. -/
def planFrom (last : Int) : Int → List Int → Bool
  | _, [] => true
  | lo, x :: l => within x lo last && planFrom last (x + 1) l
/-- Whether a list is a plan for a field with such a last week and so many strengths. -/
def planB (last : Int) (many : Nat) (l : List Int) : Bool := decide (l.length ≤ many) && planFrom last 0 l
theorem planFrom_mem {last : Int} : ∀ {l : List Int} {lo : Int}, planFrom last lo l = true → ∀ x ∈ l, lo ≤ x ∧ x ≤ last
  | [], _, _, x, hx => by simp at hx
  | y :: l, lo, h, x, hx => by
    simp only [planFrom, Bool.and_eq_true] at h
    have h1 := within_iff.1 h.1
    rcases List.mem_cons.1 hx with rfl | hx
    · exact h1
    · have := planFrom_mem h.2 x hx; omega
theorem planB_iff {last : Int} {many : Nat} {l : List Int} : planB last many l = true ↔ l.length ≤ many ∧ planFrom last 0 l = true := by simp [planB]
/-- Whether a list falls, from a number on, and stays at least 0. -/
def fallFrom : Int → List Int → Bool
  | _, [] => true
  | hi, x :: l => within x 0 hi && fallFrom x l
theorem fallFrom_mem : ∀ {l : List Int} {hi : Int}, fallFrom hi l = true → ∀ x ∈ l, 0 ≤ x ∧ x ≤ hi
  | [], _, _, x, hx => by simp at hx
  | y :: l, hi, h, x, hx => by
    simp only [fallFrom, Bool.and_eq_true] at h
    have h1 := within_iff.1 h.1
    rcases List.mem_cons.1 hx with rfl | hx
    · exact h1
    · have := fallFrom_mem h.2 x hx; omega

/-- How many numbers there are for a Wet. -/
def waysF (x : Int) : Int := 1 + x / 2
/-- How many truths there are without looks, but no more than m: the reference's way. -/
def manyF : List Rg → List Int → Int → Int
  | r :: g, x :: w, n => manyF g w (min 3000 (n * size r * waysF x))
  | _, _, n => n

/-- What a valid field is (all but how many truths it has). -/
structure GoodF (f : Fl) : Prop where
  last : 0 ≤ f.last ∧ f.last ≤ 9
  growthL : (f.growth.length : Int) = f.last + 1
  wetL : (f.wet.length : Int) = f.last + 1
  baseL : 1 ≤ f.base.length ∧ f.base.length ≤ 3
  looksL : f.looks.length ≤ 5
  ripe : 1 ≤ f.ripe ∧ f.ripe ≤ 10
  late : 0 ≤ f.late ∧ f.late ≤ 50
  trod : 0 ≤ f.trod ∧ f.trod ≤ 100
  crops : planB f.last f.base.length f.crops = true
  growth : ∀ r ∈ f.growth, 0 ≤ r.lo ∧ r.lo ≤ r.hi ∧ r.hi ≤ 50
  wet : ∀ x ∈ f.wet, 0 ≤ x ∧ x ≤ 2
  base : fallFrom 200 f.base = true
  looks : ∀ l ∈ f.looks, 0 ≤ l.week ∧ l.week ≤ f.last ∧ 0 ≤ l.w.lo ∧ l.w.lo ≤ l.w.hi ∧ l.w.hi ≤ 1000

/-- The range of a Wet. -/
def wetR (x : Int) : Rg := if x = 2 then ⟨0, 1⟩ else ⟨x, x⟩
def rangesF (f : Fl) : List Rg := f.growth ++ f.wet.map wetR
theorem waysF_size {x : Int} (h : 0 ≤ x ∧ x ≤ 2) : waysF x = size (wetR x) := by
  have : x = 0 ∨ x = 1 ∨ x = 2 := by omega
  rcases this with rfl | rfl | rfl <;> rfl

theorem prodS_append (a b : List Rg) : prodS (a ++ b) = prodS a * prodS b := by
  induction a with
  | nil => simp [prodS]
  | cons r a ih => simp only [List.cons_append, prodS, ih, Int.mul_assoc]
theorem manyF_eq : ∀ (g : List Rg) (w : List Int), g.length = w.length → (∀ r ∈ g, 1 ≤ size r) → (∀ x ∈ w, 0 ≤ x ∧ x ≤ 2) → ∀ n : Int, 1 ≤ n → n ≤ 3000 → manyF g w n = min 3000 (n * (prodS g * prodS (w.map wetR)))
  | [], [], _, _, _, n, h1, h2 => by simp only [manyF, prodS, List.map_nil]; omega
  | [], _ :: _, h, _, _, _, _, _ => by simp at h
  | _ :: _, [], h, _, _, _, _, _ => by simp at h
  | r :: g, x :: w, h, hg, hw, n, h1, h2 => by
    have hr := hg r (by simp)
    have hx := hw x (by simp)
    have hs : 1 ≤ size (wetR x) := by rw [← waysF_size hx]; simp only [waysF]; omega
    have hgs : ∀ r ∈ g, 1 ≤ size r := fun r hr => hg r (by simp [hr])
    have hws : ∀ x ∈ w, 0 ≤ x ∧ x ≤ 2 := fun x hx => hw x (by simp [hx])
    have hp1 := prodS_pos hgs
    have hp2 := prodS_pos (hs := w.map wetR) fun r hr => by
      obtain ⟨y, hy, rfl⟩ := List.mem_map.1 hr
      rw [← waysF_size (hws y hy)]; simp only [waysF]; have := hws y hy; omega
    rw [manyF, waysF_size hx]
    have hA : 1 ≤ n * size r * size (wetR x) := by
      have := Int.mul_le_mul h1 hr (by omega) (by omega)
      have := Int.mul_le_mul (a := 1) (b := 1) (c := n * size r) (d := size (wetR x)) (by omega) hs (by omega) (by omega)
      omega
    rw [manyF_eq g w (by simpa using h) hgs hws _ (by omega) (by omega)]
    simp only [List.map_cons, prodS]
    obtain ⟨P, hP⟩ : ∃ P, P = prodS g * prodS (w.map wetR) := ⟨_, rfl⟩
    have hP1 : 1 ≤ P := by rw [hP]; have := Int.mul_le_mul hp1 hp2 (by omega) (by omega); omega
    have e : n * (size r * prodS g * (size (wetR x) * prodS (w.map wetR))) = n * size r * size (wetR x) * P := by
      rw [hP]
      simp only [Int.mul_assoc, Int.mul_left_comm, Int.mul_comm]
    rw [e, ← hP]
    obtain ⟨A, hA'⟩ : ∃ A, A = n * size r * size (wetR x) := ⟨_, rfl⟩
    rw [← hA'] at hA ⊢
    rcases Int.le_total A 3000 with hle | hge
    · rw [Int.min_eq_right hle]
    · rw [Int.min_eq_left hge]
      have h3 : 3000 ≤ 3000 * P := by have := Int.mul_le_mul (Int.le_refl (3000 : Int)) hP1 (by omega) (by omega); omega
      have h4 : 3000 ≤ A * P := by have := Int.mul_le_mul hge hP1 (by omega) (by omega); omega
      rw [Int.min_eq_left h3, Int.min_eq_left h4]

theorem GoodF.sizes {f : Fl} (h : GoodF f) : ∀ r ∈ f.growth, 1 ≤ size r := fun r hr => by have := h.growth r hr; simp only [size]; omega
theorem GoodF.wsizes {f : Fl} (h : GoodF f) : ∀ r ∈ f.wet.map wetR, 1 ≤ size r := fun r hr => by
  obtain ⟨y, hy, rfl⟩ := List.mem_map.1 hr
  rw [← waysF_size (h.wet y hy)]; simp only [waysF]; have := h.wet y hy; omega
theorem GoodF.rsizes {f : Fl} (h : GoodF f) : ∀ r ∈ rangesF f, 1 ≤ size r := fun r hr => by
  rcases List.mem_append.1 hr with hr | hr
  · exact h.sizes r hr
  · exact h.wsizes r hr
theorem GoodF.ranges {f : Fl} (h : GoodF f) : ∀ r ∈ rangesF f, 0 ≤ r.lo ∧ r.lo ≤ r.hi ∧ r.hi ≤ 100 := fun r hr => by
  rcases List.mem_append.1 hr with hr | hr
  · have := h.growth r hr; omega
  · obtain ⟨y, hy, rfl⟩ := List.mem_map.1 hr
    have := h.wet y hy
    simp only [wetR]; split <;> simp <;> omega
/-- A field with few truths by the reference's count has few by the program's. -/
theorem many_few {f : Fl} (h : GoodF f) (hm : manyF f.growth f.wet 1 ≤ 2000) : manyTo 2001 (rangesF f) 1 ≤ 2000 := by
  have hl : f.growth.length = f.wet.length := by have := h.growthL; have := h.wetL; omega
  rw [manyF_eq _ _ hl h.sizes h.wet 1 (by omega) (by omega)] at hm
  rw [manyTo_eq 2001 (by omega) _ h.rsizes 1 (by omega) (by omega), rangesF, prodS_append]
  omega
theorem manyF_pos {f : Fl} (h : GoodF f) : 1 ≤ manyF f.growth f.wet 1 ∧ manyF f.growth f.wet 1 ≤ 3000 := by
  have hl : f.growth.length = f.wet.length := by have := h.growthL; have := h.wetL; omega
  rw [manyF_eq _ _ hl h.sizes h.wet 1 (by omega) (by omega)]
  have hq := prodS_pos h.sizes
  have := Int.mul_le_mul hq (prodS_pos h.wsizes) (by omega) (by omega)
  omega

/-- The truth with a number, by the reference: what grows in the weeks, and whether they are wet. -/
def restF (r : Rg) (x n : Int) : Int := if x = 2 then n / size r / 2 else n / size r
def nthG : List Rg → List Int → Int → List Int
  | r :: g, x :: w, n => (r.lo + n % size r) :: nthG g w (restF r x n)
  | _, _, _ => []
def nthW : List Rg → List Int → Int → List Int
  | r :: g, x :: w, n => (if x = 2 then n / size r % 2 else x) :: nthW g w (restF r x n)
  | _, _, _ => []
theorem nthG_listed : ∀ (g : List Rg) (w : List Int), g.length = w.length → (∀ r ∈ g, 1 ≤ size r) → ∀ n, listed g (nthG g w n) = true
  | [], [], _, _, n => rfl
  | [], _ :: _, h, _, _ => by simp at h
  | _ :: _, [], h, _, _ => by simp at h
  | r :: g, x :: w, h, hg, n => by
    have hr := hg r (by simp)
    rw [nthG, listed_cons, nthG_listed g w (by simpa using h) (fun r hr => hg r (by simp [hr])), Bool.and_true, has_iff]
    have h1 := Int.emod_nonneg n (show size r ≠ 0 by omega)
    have h2 := Int.emod_lt_of_pos n (show 0 < size r by omega)
    simp only [size] at h1 h2 hr ⊢
    omega
theorem nthW_listed : ∀ (g : List Rg) (w : List Int), g.length = w.length → (∀ x ∈ w, 0 ≤ x ∧ x ≤ 2) → ∀ n, listed (w.map wetR) (nthW g w n) = true
  | [], [], _, _, n => rfl
  | [], _ :: _, h, _, _ => by simp at h
  | _ :: _, [], h, _, _ => by simp at h
  | r :: g, x :: w, h, hw, n => by
    rw [nthW, List.map_cons, listed_cons, nthW_listed g w (by simpa using h) (fun x hx => hw x (by simp [hx])), Bool.and_true, has_iff]
    have hx := hw x (by simp)
    simp only [wetR]
    split <;> simp <;> omega
theorem nthG_length (g : List Rg) (w : List Int) (h : g.length = w.length) (hs : ∀ r ∈ g, 1 ≤ size r) (n : Int) : (nthG g w n).length = g.length := listed_length _ _ (nthG_listed g w h hs n)
theorem nthW_length (g : List Rg) (w : List Int) (h : g.length = w.length) (hw : ∀ x ∈ w, 0 ≤ x ∧ x ≤ 2) (n : Int) : (nthW g w n).length = w.length := by
  rw [listed_length _ _ (nthW_listed g w h hw n), List.length_map]
theorem listed_append : ∀ (a b : List Rg) (l m : List Int), listed a l = true → listed b m = true → listed (a ++ b) (l ++ m) = true
  | [], b, [], m, _, h => h
  | [], _, _ :: _, _, h, _ => by simp [listed] at h
  | _ :: _, _, [], _, h, _ => by simp [listed] at h
  | r :: a, b, x :: l, m, h, k => by
    simp only [listed, List.cons_append, Bool.and_eq_true] at h ⊢
    exact ⟨h.1, listed_append a b l m h.2 k⟩

def RetTwoL (a b : List Int) (w : World) (e : Ending) (w' : World) : Prop := ∃ u v, e = .returned (.agg #[u, v]) ∧ Ints (Lt w'.heap.size) w' u a ∧ Ints (Lt w'.heap.size) w' v b ∧ Below w.heap.size w w'

/-! ### The crops of a plan -/
/-- What is left of a weight. -/
def leftF (trod n : Int) (wet : Bool) : Int := if wet then n - n * trod / 100 else n
theorem leftF_bd {trod n : Int} (ht : 0 ≤ trod ∧ trod ≤ 100) (hn : 0 ≤ n) (wet : Bool) : 0 ≤ leftF trod n wet ∧ leftF trod n wet ≤ n := by
  unfold leftF
  split
  · have h1 : 0 ≤ n * trod / 100 := Int.ediv_nonneg (Int.mul_nonneg hn ht.1) (by omega)
    have h2 : n * trod / 100 ≤ n := by
      have := Int.mul_le_mul (Int.le_refl n) ht.2 (by omega) hn
      omega
    omega
  · omega
/-- The weights on the field of all weeks: the weeks from i on, with so much on it. -/
def standF (plan : List Int) : List Int → Int → Int → List Int
  | [], _, _ => []
  | g :: l, i, n => (n + g) :: standF plan l (i + 1) (if plan.contains i then 0 else n + g)
/-- The strength of a crop of a plan. -/
def strongF (f : Fl) (plan : List Int) (i : Nat) : Int :=
  max 0 (f.base.getD i 0 - f.late * max 0 (plan.getD i 0 - (if i = 0 then -1 else plan.getD (i - 1) 0) - f.ripe))
theorem standF_length (plan l : List Int) : ∀ i n, (standF plan l i n).length = l.length := by
  induction l with
  | nil => intro i n; rfl
  | cons g l ih => intro i n; simp [standF, ih]
theorem standF_bd (plan l : List Int) (h : ∀ x ∈ l, 0 ≤ x ∧ x ≤ 50) : ∀ i n m : Int, 0 ≤ n → n ≤ m → ∀ x ∈ standF plan l i n, 0 ≤ x ∧ x ≤ m + 50 * l.length := by
  induction l with
  | nil => intro i n m _ _ x hx; simp [standF] at hx
  | cons g l ih =>
    intro i n m h0 h1 x hx
    have hg := h g (by simp)
    simp only [standF, List.mem_cons, List.length_cons] at hx ⊢
    rcases hx with rfl | hx
    · omega
    · have := ih (fun y hy => h y (by simp [hy])) (i + 1) (if plan.contains i then 0 else n + g) (m + 50) (by split <;> omega) (by split <;> omega) x hx
      omega

/-- A crop: its weight, its strength, its worth. -/
structure Cr where
  weight : Int
  strength : Int
  worth : Int
deriving DecidableEq, Repr
instance : Inhabited Cr := ⟨⟨0, 0, 0⟩⟩
abbrev Crs := Sl 3 (fun c : Cr => [Value.int .i64 c.weight, Value.int .i64 c.strength, Value.int .i64 c.worth])
def cropF (f : Fl) (growth wet plan : List Int) (i : Nat) : Cr :=
  let n := leftF f.trod ((standF plan growth 0 0).getD (plan.getD i 0).toNat 0) (decide (0 < wet.getD (plan.getD i 0).toNat 0))
  ⟨n, strongF f plan i, n * strongF f plan i⟩
def cropsF (f : Fl) (growth wet plan : List Int) : List Cr := (List.range plan.length).map (cropF f growth wet plan)
theorem cropsF_length (f : Fl) (growth wet plan : List Int) : (cropsF f growth wet plan).length = plan.length := by simp [cropsF]
theorem cropF_bd {f : Fl} (hg : GoodF f) {growth : List Int} (h : ∀ x ∈ growth, 0 ≤ x ∧ x ≤ 50) (hl : growth.length ≤ 10) (wet plan : List Int) (i : Nat) :
    0 ≤ (cropF f growth wet plan i).weight ∧ (cropF f growth wet plan i).weight ≤ 500 ∧ 0 ≤ (cropF f growth wet plan i).strength ∧ (cropF f growth wet plan i).worth = (cropF f growth wet plan i).weight * (cropF f growth wet plan i).strength := by
  have hs : 0 ≤ (standF plan growth 0 0).getD (plan.getD i 0).toNat 0 ∧ (standF plan growth 0 0).getD (plan.getD i 0).toNat 0 ≤ 500 := by
    rw [List.getD_eq_getElem?_getD]
    cases e : (standF plan growth 0 0)[(plan.getD i 0).toNat]? with
    | none => simp
    | some y =>
      have := standF_bd plan growth h 0 0 0 (by omega) (by omega) y (List.mem_of_getElem? e)
      simp only [Option.getD_some]
      omega
  have := leftF_bd hg.trod hs.1 (decide (0 < wet.getD (plan.getD i 0).toNat 0))
  refine ⟨this.1, by show leftF _ _ _ ≤ _; omega, ?_, rfl⟩
  show 0 ≤ strongF f plan i
  simp only [strongF]; omega
end Go.Proofs.Ytjddcaimjofihaa
