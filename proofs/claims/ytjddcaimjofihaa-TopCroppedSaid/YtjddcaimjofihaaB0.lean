/- The plain functions of a cellar; worlds that only grow; how a cellar lies in memory; ranges over functions; regions that draw their order; no condition. -/
import Derived.WalkKit
import Derived.BigQuiet
import Derived.Laws.CopyOwn
import Derived.OwnWalk
import Derived.RangeFuncRecord
import Derived.RangeFuncSeq
import Derived.RangeFuncLeaves
import Derived.OrdersHeld
import Derived.OrdersIn
import Derived.RangeFuncCalls
import Derived.Deep.Quiet
import Derived.RegionTactic
namespace Go.Proofs.Ytjddcaimjofihaa

structure Rg where
  lo : Int
  hi : Int
deriving DecidableEq, Repr
instance : Inhabited Rg := ⟨⟨0, 0⟩⟩
structure Tl where
  cask : Bool
  num : Int
  s : Rg
deriving DecidableEq, Repr
instance : Inhabited Tl := ⟨⟨false, 0, ⟨0, 0⟩⟩⟩
structure Ce where
  heaps : List Rg
  casks : List (List Int)
  trials : List Tl
deriving DecidableEq, Repr
instance : Inhabited Ce := ⟨⟨[], [], []⟩⟩

def within (n lo hi : Int) : Bool := decide (lo ≤ n) && decide (n ≤ hi)
theorem within_iff {n lo hi : Int} : within n lo hi = true ↔ lo ≤ n ∧ n ≤ hi := by simp [within]
def strong (r : Rg) : Bool := decide (0 ≤ r.lo) && decide (r.lo ≤ r.hi) && decide (r.hi ≤ 100)
theorem strong_iff {r : Rg} : strong r = true ↔ 0 ≤ r.lo ∧ r.lo ≤ r.hi ∧ r.hi ≤ 100 := by simp [strong, and_assoc]
def has (r : Rg) (n : Int) : Bool := within n r.lo r.hi
theorem has_iff {r : Rg} {n : Int} : has r n = true ↔ r.lo ≤ n ∧ n ≤ r.hi := within_iff
def wider (r : Rg) (n : Int) : Rg := ⟨min r.lo n, max r.hi n⟩
def size (r : Rg) : Int := r.hi - r.lo + 1
def isW (n : Int) : Bool := within n 0 30
def sumI : List Int → Int
  | [] => 0
  | x :: l => x + sumI l
theorem sumI_append (a b : List Int) : sumI (a ++ b) = sumI a + sumI b := by
  induction a with
  | nil => simp [sumI]
  | cons x l ih => simp [sumI, ih]; omega
theorem sumI_snoc (a : List Int) (x : Int) : sumI (a ++ [x]) = sumI a + x := by rw [sumI_append]; simp [sumI]
theorem sumI_nonneg {l : List Int} (h : ∀ x ∈ l, 0 ≤ x) : 0 ≤ sumI l := by
  induction l with
  | nil => simp [sumI]
  | cons x l ih => have := h x (by simp); have := ih fun y hy => h y (by simp [hy]); simp [sumI]; omega
theorem sumI_le {l : List Int} {m : Int} (h : ∀ x ∈ l, x ≤ m) : sumI l ≤ m * l.length := by
  induction l with
  | nil => simp [sumI]
  | cons x l ih => have := h x (by simp); have := ih fun y hy => h y (by simp [hy]); simp only [sumI, List.length_cons, Int.natCast_add, Int.mul_add]; omega
def weightsB (k : Nat) (l : List Int) : Bool := (l.length == k) && l.all isW
def isCask (k : Nat) (l : List Int) : Bool := weightsB k l && decide (0 < sumI l)
def thing (k : Nat) (t : Tl) : Int := if t.cask then k + t.num else t.num
def trialB (c : Ce) (t : Tl) : Bool := within t.num 0 ((if t.cask then c.casks.length else c.heaps.length : Nat) - 1) && strong t.s
/-- How many truths there are without trials, but no more than m. -/
def manyTo (m : Int) : List Rg → Int → Int
  | [], n => n
  | r :: l, n => manyTo m l (min (n * size r) m)
def sizes (c : Ce) : Bool := decide (3 < c.heaps.length) || decide (3 < c.casks.length) || decide (5 < c.trials.length)
def partsOk (c : Ce) : Bool := !(c.heaps.length == 0) && c.heaps.all strong && c.casks.all (isCask c.heaps.length) && c.trials.all (trialB c)
def fault (c : Ce) : Int := if sizes c then 3 else if partsOk c then (if 2000 < manyTo 2001 c.heaps 1 then 3 else 0) else 1

/-- The index of the first element that passes, from k on; -1 if there is none. -/
def idxF {α : Type} (p : α → Bool) : List α → Int → Int
  | [], _ => -1
  | x :: l, k => if p x then k else idxF p l (k + 1)
theorem idxF_any {α : Type} (p : α → Bool) (l : List α) : ∀ k : Int, 0 ≤ k → decide (0 ≤ idxF p l k) = l.any p := by
  induction l with
  | nil => intro k hk; simp [idxF]
  | cons x l ih =>
    intro k hk
    rw [idxF, List.any_cons]
    by_cases h : p x
    · simp [h, hk]
    · simp only [h, Bool.false_eq_true, if_false, Bool.false_or]; exact ih (k + 1) (by omega)
theorem not_any_not {α : Type} (p : α → Bool) (l : List α) : (!l.any fun x => !p x) = l.all p := by
  induction l with
  | nil => rfl
  | cons x l ih => simp [List.any_cons, List.all_cons, ← ih]

/-! ### Truths -/
def dot : List Int → List Int → Int
  | w :: ws, s :: ss => w * s + dot ws ss
  | _, _ => 0
def mean (s ws : List Int) : Int := dot ws s / sumI ws
/-- The strength of a thing: s has one strength for each heap (and perhaps more). -/
def ofT (c : Ce) (s : List Int) (t : Int) : Int := if (c.heaps.length : Int) ≤ t then mean s (c.casks.getD (t - c.heaps.length).toNat []) else s.getD t.toNat 0
def rightFrom (c : Ce) (s out : List Int) : List Tl → Nat → Bool
  | [], _ => true
  | t :: l, i => (out.contains (i : Int) || has t.s (ofT c s (thing c.heaps.length t))) && rightFrom c s out l (i + 1)
def right (c : Ce) (s out : List Int) : Bool := rightFrom c s out c.trials 0

/-- Whether a list has one number of each range. -/
def listed : List Rg → List Int → Bool
  | [], [] => true
  | r :: hs, x :: l => has r x && listed hs l
  | _, _ => false
theorem listed_length : ∀ (hs : List Rg) (l : List Int), listed hs l = true → l.length = hs.length
  | [], [], _ => rfl
  | [], _ :: _, h => by simp [listed] at h
  | _ :: _, [], h => by simp [listed] at h
  | r :: hs, x :: l, h => by simp only [listed, Bool.and_eq_true] at h; simp [listed_length hs l h.2]
theorem listed_ne : ∀ (hs : List Rg) (l : List Int), l.length ≠ hs.length → listed hs l = false := fun hs l h => by
  cases e : listed hs l
  · rfl
  · exact absurd (listed_length hs l e) h
theorem listed_cons (r : Rg) (hs : List Rg) (x : Int) (l : List Int) : listed (r :: hs) (x :: l) = (has r x && listed hs l) := rfl

end Go.Proofs.Ytjddcaimjofihaa

namespace Go.Proofs.Ytjddcaimjofihaa

def pad3 (l : List Int) : List Int := [l.getD 0 0, l.getD 1 0, l.getD 2 0]
theorem dot_pad3 (ws l : List Int) (h : ws.length ≤ l.length) (h3 : l.length ≤ 3) : dot ws (pad3 l) = dot ws l := by
  match ws, l, h, h3 with
  | [], [], _, _ => rfl
  | [], _ :: _, _, _ => rfl
  | [a], [x], _, _ => rfl
  | [a], [x, y], _, _ => rfl
  | [a], [x, y, z], _, _ => rfl
  | [a, b], [x, y], _, _ => rfl
  | [a, b], [x, y, z], _, _ => rfl
  | [a, b, c], [x, y, z], _, _ => rfl
  | _ :: _ :: _ :: _ :: _, l, h, h3 => exact absurd h (by simp only [List.length_cons]; omega)
theorem mean_pad3 (ws l : List Int) (h : ws.length ≤ l.length) (h3 : l.length ≤ 3) : mean (pad3 l) ws = mean l ws := by rw [mean, mean, dot_pad3 ws l h h3]
theorem listed_bd (hs : List Rg) (l : List Int) (h : listed hs l = true) (hr : ∀ r ∈ hs, 0 ≤ r.lo ∧ r.lo ≤ r.hi ∧ r.hi ≤ 100) : ∀ x ∈ l, 0 ≤ x ∧ x ≤ 100 := by
  induction hs generalizing l with
  | nil => cases l with
    | nil => intro x hx; simp at hx
    | cons y l => simp [listed] at h
  | cons r hs ih => cases l with
    | nil => intro x hx; simp at hx
    | cons y l =>
      simp only [listed, Bool.and_eq_true] at h
      have h1 := has_iff.1 h.1
      have h2 := hr r (by simp)
      intro x hx
      rcases List.mem_cons.1 hx with rfl | hx
      · omega
      · exact ih l h.2 (fun r hr' => hr r (by simp [hr'])) x hx
theorem pad3_bd (l : List Int) (h : ∀ x ∈ l, 0 ≤ x ∧ x ≤ 100) : ∀ x ∈ pad3 l, 0 ≤ x ∧ x ≤ 1000 := by
  have hg : ∀ i, 0 ≤ l.getD i 0 ∧ l.getD i 0 ≤ 100 := fun i => by
    rw [List.getD_eq_getElem?_getD]
    cases e : l[i]? with
    | none => simp
    | some y => exact h y (List.mem_of_getElem? e)
  intro x hx
  simp only [pad3, List.mem_cons, List.not_mem_nil, or_false] at hx
  rcases hx with rfl | rfl | rfl
  · have := hg 0; omega
  · have := hg 1; omega
  · have := hg 2; omega

/-- The numbers of a range, rising. -/
def rangeList (r : Rg) : List Int := (List.range (size r).toNat).map fun j : Nat => r.lo + j
/-- All lists with one number of each range, in lexicographic order. -/
def comps : List Rg → List (List Int)
  | [] => [[]]
  | r :: hs => (rangeList r).flatMap fun x => (comps hs).map (x :: ·)
def truthsFrom (c : Ce) (out p : List Int) (hs : List Rg) : List (List Int) := ((comps hs).map (p ++ ·)).filter fun t => right c (pad3 t) out
/-- The truths of a cellar without some trials. -/
def truthsOf (c : Ce) (out : List Int) : List (List Int) := truthsFrom c out [] c.heaps

theorem truthsFrom_nil (c : Ce) (out p : List Int) : truthsFrom c out p [] = if right c (pad3 p) out then [p] else [] := by
  simp [truthsFrom, comps, List.filter_cons]
theorem truthsFrom_cons (c : Ce) (out p : List Int) (r : Rg) (hs : List Rg) : truthsFrom c out p (r :: hs) = (rangeList r).flatMap fun x => truthsFrom c out (p ++ [x]) hs := by
  simp only [truthsFrom, comps]
  rw [List.map_flatMap, List.filter_flatMap]
  congr 1
  funext x
  rw [List.map_map]
  congr 1
  apply List.map_congr_left
  intro t _
  simp
theorem rangeList_length (r : Rg) : (rangeList r).length = (size r).toNat := by simp [rangeList]
theorem rangeList_get (r : Rg) (j : Nat) (h : j < (rangeList r).length) : (rangeList r)[j] = r.lo + j := by simp [rangeList]
theorem mem_rangeList {r : Rg} {x : Int} : x ∈ rangeList r ↔ r.lo ≤ x ∧ x ≤ r.hi := by
  simp only [rangeList, List.mem_map, List.mem_range, size]
  constructor
  · rintro ⟨j, hj, rfl⟩; omega
  · rintro ⟨h1, h2⟩; exact ⟨(x - r.lo).toNat, by omega, by omega⟩
theorem mem_comps (hs : List Rg) : ∀ l, l ∈ comps hs ↔ listed hs l = true := by
  induction hs with
  | nil => intro l; cases l <;> simp [comps, listed]
  | cons r hs ih =>
    intro l
    simp only [comps, List.mem_flatMap, List.mem_map]
    cases l with
    | nil => simp [listed]
    | cons x l =>
      simp only [listed, Bool.and_eq_true, has_iff]
      constructor
      · rintro ⟨y, hy, t, ht, he⟩
        cases he
        exact ⟨mem_rangeList.1 hy, (ih _).1 ht⟩
      · rintro ⟨h1, h2⟩; exact ⟨x, mem_rangeList.2 h1, l, (ih _).2 h2, rfl⟩
theorem mem_truthsOf {c : Ce} {out l : List Int} : l ∈ truthsOf c out ↔ listed c.heaps l = true ∧ right c (pad3 l) out = true := by
  simp only [truthsOf, truthsFrom, List.nil_append, List.map_id', List.mem_filter, mem_comps]

end Go.Proofs.Ytjddcaimjofihaa

namespace Go.Proofs.Ytjddcaimjofihaa
open Go.RowKit

theorem bcell {W w1 : World} {n : Nat} (hb : Below n W w1) : (∀ b o, b < n → w1.cell? ⟨b, o, none⟩ = W.cell? ⟨b, o, none⟩) ∧ (∀ b o, b < n → w1.frozen? ⟨b, o, none⟩ = W.frozen? ⟨b, o, none⟩) :=
  ⟨fun b o h => hb.cell (p := ⟨b, o, none⟩) h, fun b o h => hb.frozen (p := ⟨b, o, none⟩) h⟩

theorem below_alloc1 {n : Nat} {w : World} (h : n ≤ w.heap.size) (o : Obj) : Below n w (w.alloc o) := (Below.refl _ _).alloc h o
theorem below_alloc2 {n : Nat} {w : World} (h : n ≤ w.heap.size) (o o' : Obj) : Below n w ((w.alloc o).alloc o') := (below_alloc1 h o).alloc (by simp; omega) o'
theorem below_alloc3 {n : Nat} {w : World} (h : n ≤ w.heap.size) (o o' o'' : Obj) : Below n w (((w.alloc o).alloc o').alloc o'') := (below_alloc2 h o o').alloc (by simp; omega) o''
theorem below_alloc4 {n : Nat} {w : World} (h : n ≤ w.heap.size) (o o' o'' o3 : Obj) : Below n w ((((w.alloc o).alloc o').alloc o'').alloc o3) := (below_alloc3 h o o' o'').alloc (by simp; omega) o3

/-- What a contract of a function that only makes memory ends in, put behind what was made before. -/
theorem below_after {n : Nat} {w w1 w2 : World} (h : Below n w w1) (h2 : Below w1.heap.size w1 w2) (hn : n ≤ w.heap.size) : Below n w w2 :=
  h.trans (h2.mono (Nat.le_trans hn h.size))

/-- A fact kept from the walk. -/
theorem hid {p : Prop} (h : p) : Hid p := h
theorem heap_new (w : World) (o : Obj) : (w.alloc o).heap[w.heap.size]? = some o := by
  show (w.heap.push o)[w.heap.size]? = some o
  simp
theorem heap_new2 (w : World) (o o' : Obj) : ((w.alloc o).alloc o').heap[w.heap.size + 1]? = some o' := by
  have := heap_new (w.alloc o) o'
  rwa [World.size_alloc] at this
theorem row_set {w : World} {g : Nat} {cs : Array Value} {t : TypeId} {f : Nat × Nat} (h : w.heap[g]? = some (.cells cs t f)) (i : Nat) (v : Value) : (w.setCell ⟨g, i, none⟩ v).heap[g]? = some (.cells (cs.setIfInBounds i v) t f) := by
  simp [World.setCell, Array.getElem?_modify, h]
theorem row_set3 {w : World} {g : Nat} {x y z : Value} {t : TypeId} {f : Nat × Nat} (h : w.heap[g]? = some (.cells #[x, y, z] t f)) (a b c : Value) :
    (((w.setCell ⟨g, 0, none⟩ a).setCell ⟨g, 1, none⟩ b).setCell ⟨g, 2, none⟩ c).heap[g]? = some (.cells #[a, b, c] t f) :=
  row_set (row_set (row_set h 0 a) 1 b) 2 c
theorem below_set3 {n : Nat} {w0 w : World} {g : Nat} (h : Below n w0 w) (hg : n ≤ g) (a b c : Value) : Below n w0 (((w.setCell ⟨g, 0, none⟩ a).setCell ⟨g, 1, none⟩ b).setCell ⟨g, 2, none⟩ c) :=
  ((h.setCell (p := ⟨g, 0, none⟩) hg a).setCell (p := ⟨g, 1, none⟩) hg b).setCell (p := ⟨g, 2, none⟩) hg c
theorem cell_of_row {w : World} {g : Nat} {cs : Array Value} {t : TypeId} (h : w.heap[g]? = some (.cells cs t (0, 0))) (i : Nat) : w.cell? ⟨g, i, none⟩ = cs[i]? := by simp [World.cell?, h]
theorem frozen_of_row {w : World} {g : Nat} {cs : Array Value} {t : TypeId} (h : w.heap[g]? = some (.cells cs t (0, 0))) (i : Nat) : w.frozen? ⟨g, i, none⟩ = false := by
  simp only [World.frozen?, h]; simp
theorem ret_int {k : IntKind} {a b : Int} (h : a = b) : Ending.returned (.int k a) = .returned (.int k b) := by rw [h]
theorem ret_bool {a b : Bool} (h : a = b) : Ending.returned (.bool a) = .returned (.bool b) := by rw [h]

/-! ### The blocks below a number -/
def Lt (n : Nat) : Nat → Prop := fun b => b < n

/-- The world keeps the blocks of a set. -/
structure Keep (S : Nat → Prop) (w w' : World) : Prop where
  size : w.heap.size ≤ w'.heap.size
  block : ∀ b, S b → w'.heap[b]? = w.heap[b]?

theorem Keep.refl (S : Nat → Prop) (w : World) : Keep S w w := ⟨Nat.le_refl _, fun _ _ => rfl⟩
theorem Keep.trans {S : Nat → Prop} {a b c : World} (h : Keep S a b) (k : Keep S b c) : Keep S a c := ⟨Nat.le_trans h.size k.size, fun i hi => (k.block i hi).trans (h.block i hi)⟩
theorem Keep.mono {S S' : Nat → Prop} {w w' : World} (h : Keep S w w') (hs : ∀ b, S' b → S b) : Keep S' w w' := ⟨h.size, fun b hb => h.block b (hs b hb)⟩
theorem below_keep {n : Nat} {w w' : World} (h : Below n w w') : Keep (Lt n) w w' := ⟨h.size, h.block⟩
theorem Keep.cell {S : Nat → Prop} {w w' : World} (h : Keep S w w') {p : Addr} (hp : S p.block) : w'.cell? p = w.cell? p := World.cell?_of_block (w := w) (h.block p.block hp)

/-! ### Slices -/
/-- The value v is a slice whose elements are those of l, each of sz cells, in a block of S. -/
def Sl {α : Type} (sz : Nat) (enc : α → List Value) (S : Nat → Prop) (w : World) (v : Value) (l : List α) : Prop :=
  ∃ a cap, v = .slice a l.length cap ∧ l.length ≤ cap ∧ (l = [] ∨ ∃ b off, a = some ⟨b, off, none⟩ ∧ S b ∧
    ∀ j x, l[j]? = some x → ∀ i c, (enc x)[i]? = some c → w.cell? ⟨b, off + j * sz + i, none⟩ = some c)

theorem Sl.keep {α : Type} {sz : Nat} {enc : α → List Value} {S : Nat → Prop} {w w' : World} {v : Value} {l : List α} (h : Sl sz enc S w v l) (k : Keep S w w') : Sl sz enc S w' v l := by
  obtain ⟨a, cap, hv, hcap, h⟩ := h
  refine ⟨a, cap, hv, hcap, ?_⟩
  rcases h with h | ⟨b, off, ha, hb, hc⟩
  · exact .inl h
  · exact .inr ⟨b, off, ha, hb, fun j x hx i c hi => (k.cell (p := ⟨b, _, none⟩) hb).trans (hc j x hx i c hi)⟩
theorem Sl.mono {α : Type} {sz : Nat} {enc : α → List Value} {S S' : Nat → Prop} {w : World} {v : Value} {l : List α} (h : Sl sz enc S w v l) (hs : ∀ b, S b → S' b) : Sl sz enc S' w v l := by
  obtain ⟨a, cap, hv, hcap, h⟩ := h
  refine ⟨a, cap, hv, hcap, ?_⟩
  rcases h with h | ⟨b, off, ha, hb, hc⟩
  · exact .inl h
  · exact .inr ⟨b, off, ha, hs b hb, hc⟩
theorem Sl.nil {α : Type} {sz : Nat} {enc : α → List Value} {S : Nat → Prop} {w : World} : Sl sz enc S w (.slice none 0 0) ([] : List α) := ⟨none, 0, rfl, Nat.le_refl _, .inl rfl⟩
/-- An element's cells. -/
theorem Sl.at {α : Type} {sz : Nat} {enc : α → List Value} {S : Nat → Prop} {w : World} {v : Value} {l : List α} (h : Sl sz enc S w v l) : ∃ a cap, v = .slice a l.length cap ∧ l.length ≤ cap ∧
    (l = [] ∨ ∃ b off, a = some ⟨b, off, none⟩ ∧ S b ∧ ∀ j (hj : j < l.length), ∀ i c, (enc l[j])[i]? = some c → w.cell? ⟨b, off + j * sz + i, none⟩ = some c) := by
  obtain ⟨a, cap, hv, hcap, h⟩ := h
  refine ⟨a, cap, hv, hcap, ?_⟩
  rcases h with h | ⟨b, off, ha, hb, hc⟩
  · exact .inl h
  · exact .inr ⟨b, off, ha, hb, fun j hj i c hi => hc j _ (List.getElem?_eq_getElem hj) i c hi⟩
theorem Sl.below {α : Type} {sz : Nat} {enc : α → List Value} {n : Nat} {w w' : World} {v : Value} {l : List α} (h : Sl sz enc (Lt n) w v l) (k : Below n w w') : Sl sz enc (Lt n) w' v l := h.keep (below_keep k)
theorem Sl.le {α : Type} {sz : Nat} {enc : α → List Value} {n m : Nat} {w : World} {v : Value} {l : List α} (h : Sl sz enc (Lt n) w v l) (hn : n ≤ m) : Sl sz enc (Lt m) w v l := h.mono fun _ hb => Nat.lt_of_lt_of_le hb hn

/-- A slice of one-cell elements, opened: its value, and its cells. -/
theorem Sl.open1 {α : Type} {e1 : α → Value} {S : Nat → Prop} {w : World} {v : Value} {l : List α} (h : Sl 1 (fun x => [e1 x]) S w v l) : ∃ a cap, v = .slice a l.length cap ∧ l.length ≤ cap ∧
    (l = [] ∨ ∃ b off, a = some ⟨b, off, none⟩ ∧ S b ∧ ∀ j (hj : j < l.length), w.cell? ⟨b, off + j, none⟩ = some (e1 l[j])) := by
  obtain ⟨a, cap, hv, hcap, h⟩ := h.at
  refine ⟨a, cap, hv, hcap, ?_⟩
  rcases h with h | ⟨b, off, ha, hb, hc⟩
  · exact .inl h
  · exact .inr ⟨b, off, ha, hb, fun j hj => by simpa using hc j hj 0 _ rfl⟩
theorem Sl.open2 {α : Type} {e1 e2 : α → Value} {S : Nat → Prop} {w : World} {v : Value} {l : List α} (h : Sl 2 (fun x => [e1 x, e2 x]) S w v l) : ∃ a cap, v = .slice a l.length cap ∧ l.length ≤ cap ∧
    (l = [] ∨ ∃ b off, a = some ⟨b, off, none⟩ ∧ S b ∧ ∀ j (hj : j < l.length), w.cell? ⟨b, off + j * 2, none⟩ = some (e1 l[j]) ∧ w.cell? ⟨b, off + j * 2 + 1, none⟩ = some (e2 l[j])) := by
  obtain ⟨a, cap, hv, hcap, h⟩ := h.at
  refine ⟨a, cap, hv, hcap, ?_⟩
  rcases h with h | ⟨b, off, ha, hb, hc⟩
  · exact .inl h
  · exact .inr ⟨b, off, ha, hb, fun j hj => ⟨by simpa using hc j hj 0 _ rfl, hc j hj 1 _ rfl⟩⟩
theorem Sl.open3 {α : Type} {e1 e2 e3 : α → Value} {S : Nat → Prop} {w : World} {v : Value} {l : List α} (h : Sl 3 (fun x => [e1 x, e2 x, e3 x]) S w v l) : ∃ a cap, v = .slice a l.length cap ∧ l.length ≤ cap ∧
    (l = [] ∨ ∃ b off, a = some ⟨b, off, none⟩ ∧ S b ∧ ∀ j (hj : j < l.length), w.cell? ⟨b, off + j * 3, none⟩ = some (e1 l[j]) ∧ w.cell? ⟨b, off + j * 3 + 1, none⟩ = some (e2 l[j]) ∧ w.cell? ⟨b, off + j * 3 + 2, none⟩ = some (e3 l[j])) := by
  obtain ⟨a, cap, hv, hcap, h⟩ := h.at
  refine ⟨a, cap, hv, hcap, ?_⟩
  rcases h with h | ⟨b, off, ha, hb, hc⟩
  · exact .inl h
  · exact .inr ⟨b, off, ha, hb, fun j hj => ⟨by simpa using hc j hj 0 _ rfl, hc j hj 1 _ rfl, hc j hj 2 _ rfl⟩⟩
theorem Sl.open4 {α : Type} {e1 e2 e3 e4 : α → Value} {S : Nat → Prop} {w : World} {v : Value} {l : List α} (h : Sl 4 (fun x => [e1 x, e2 x, e3 x, e4 x]) S w v l) : ∃ a cap, v = .slice a l.length cap ∧ l.length ≤ cap ∧
    (l = [] ∨ ∃ b off, a = some ⟨b, off, none⟩ ∧ S b ∧ ∀ j (hj : j < l.length), w.cell? ⟨b, off + j * 4, none⟩ = some (e1 l[j]) ∧ w.cell? ⟨b, off + j * 4 + 1, none⟩ = some (e2 l[j]) ∧ w.cell? ⟨b, off + j * 4 + 2, none⟩ = some (e3 l[j]) ∧ w.cell? ⟨b, off + j * 4 + 3, none⟩ = some (e4 l[j])) := by
  obtain ⟨a, cap, hv, hcap, h⟩ := h.at
  refine ⟨a, cap, hv, hcap, ?_⟩
  rcases h with h | ⟨b, off, ha, hb, hc⟩
  · exact .inl h
  · exact .inr ⟨b, off, ha, hb, fun j hj => ⟨by simpa using hc j hj 0 _ rfl, hc j hj 1 _ rfl, hc j hj 2 _ rfl, hc j hj 3 _ rfl⟩⟩

/-- The integers of a list. -/
abbrev Ints := Sl 1 (fun n : Int => [Value.int .i64 n])

/-! ### Regions that draw their order, and make memory by their calls alone -/
/-- A world that grew out of W. -/
structure Grew (W : World) where
  world : World
  below : Below W.heap.size W world
instance grewNonempty (W : World) : Nonempty (Grew W) := ⟨⟨W, Below.refl _ _⟩⟩
/-- That world: a function of its own, so that the walk sees through it by rules. -/
def World.grew (W : World) (g : Grew W) : World := g.world
theorem grew_below (W : World) (g : Grew W) : Below W.heap.size W (World.grew W g) := g.below
theorem grew_cells (W : World) : (∀ g b o, b < W.heap.size → (World.grew W g).cell? ⟨b, o, none⟩ = W.cell? ⟨b, o, none⟩) ∧ (∀ g b o, b < W.heap.size → (World.grew W g).frozen? ⟨b, o, none⟩ = W.frozen? ⟨b, o, none⟩) :=
  ⟨fun g b o h => (grew_below W g).cell (p := ⟨b, o, none⟩) h, fun g b o h => (grew_below W g).frozen (p := ⟨b, o, none⟩) h⟩

theorem wp_region_grew {P : Program} {id : Nat} {Q : Exit → Act → World → Prop} {a : Act} {w : World} {l : List Oper} (hm : P.follows .mixedOrders = true) (hB : Region.lexB .any l.toArray = true)
    (h : wpQuiet P l.toArray (fun w' => ∃ g, w' = World.grew w g) (fun a' => ∀ w', (∃ g, w' = World.grew w g) → Q .normal a' w') l a) : (Code.region id l.toArray true).wp P Q a w :=
  wp_region_quiet (C := fun w' => ∃ g, w' = World.grew w g) hm hB ⟨⟨{ w with drawn := w.drawn + 1 }, (Below.refl _ w).drew⟩, rfl⟩ (by simpa using h)

theorem grew_of {P : Program} {f : FuncId} {args : Array Value} {W : World} {g : Grew W} {v : Value}
    (h : Calls P f args (World.grew W g) fun e w' => e = .returned v ∧ Below (World.grew W g).heap.size (World.grew W g) w') : Calls P f args (World.grew W g) fun e w'' => e = .returned v ∧ ∃ g', w'' = World.grew W g' :=
  h.mono fun _ w'' ⟨he, hb⟩ => ⟨he, ⟨w'', (grew_below W g).trans (hb.mono (grew_below W g).size)⟩, rfl⟩
theorem grew_same {P : Program} {f : FuncId} {args : Array Value} {W : World} {g : Grew W} {v : Value}
    (h : Calls P f args (World.grew W g) fun e w' => e = .returned v ∧ World.grew W g = w') : Calls P f args (World.grew W g) fun e w'' => e = .returned v ∧ ∃ g', w'' = World.grew W g' :=
  h.mono fun _ _ ⟨he, hb⟩ => ⟨he, g, hb.symm⟩

end Go.Proofs.Ytjddcaimjofihaa

namespace Go.Proofs.Ytjddcaimjofihaa
open Go.RowKit

abbrev Rgs := Sl 2 (fun r : Rg => [Value.int .i64 r.lo, Value.int .i64 r.hi])
abbrev Tls := Sl 4 (fun t : Tl => [Value.bool t.cask, Value.int .i64 t.num, Value.int .i64 t.s.lo, Value.int .i64 t.s.hi])
abbrev Vals := Sl 1 (fun v : Value => [v])
def Lss (S : Nat → Prop) (w : World) (v : Value) (ls : List (List Int)) : Prop :=
  ∃ vs : List Value, vs.length = ls.length ∧ Vals S w v vs ∧ ∀ (j : Nat) (x : Value) (l : List Int), vs[j]? = some x → ls[j]? = some l → Ints S w x l
def CeV (S : Nat → Prop) (w : World) (v : Value) (c : Ce) : Prop :=
  ∃ hv kv tv, v = .agg #[hv, kv, tv] ∧ Rgs S w hv c.heaps ∧ Lss S w kv c.casks ∧ Tls S w tv c.trials

theorem Lss.keep {S : Nat → Prop} {w w' : World} {v : Value} {l : List (List Int)} (h : Lss S w v l) (k : Keep S w w') : Lss S w' v l := by
  obtain ⟨vs, h1, h2, h3⟩ := h
  exact ⟨vs, h1, h2.keep k, fun j x l hx hl => (h3 j x l hx hl).keep k⟩
theorem Lss.mono {S S' : Nat → Prop} {w : World} {v : Value} {l : List (List Int)} (h : Lss S w v l) (k : ∀ b, S b → S' b) : Lss S' w v l := by
  obtain ⟨vs, h1, h2, h3⟩ := h
  exact ⟨vs, h1, h2.mono k, fun j x l hx hl => (h3 j x l hx hl).mono k⟩
theorem CeV.keep {S : Nat → Prop} {w w' : World} {v : Value} {c : Ce} (h : CeV S w v c) (k : Keep S w w') : CeV S w' v c := by
  obtain ⟨hv, kv, tv, rfl, h1, h2, h3⟩ := h
  exact ⟨hv, kv, tv, rfl, h1.keep k, h2.keep k, h3.keep k⟩
theorem CeV.mono {S S' : Nat → Prop} {w : World} {v : Value} {c : Ce} (h : CeV S w v c) (k : ∀ b, S b → S' b) : CeV S' w v c := by
  obtain ⟨hv, kv, tv, rfl, h1, h2, h3⟩ := h
  exact ⟨hv, kv, tv, rfl, h1.mono k, h2.mono k, h3.mono k⟩
theorem Lss.below {n : Nat} {w w' : World} {v : Value} {l : List (List Int)} (h : Lss (Lt n) w v l) (k : Below n w w') : Lss (Lt n) w' v l := h.keep (below_keep k)
theorem CeV.below {n : Nat} {w w' : World} {v : Value} {c : Ce} (h : CeV (Lt n) w v c) (k : Below n w w') : CeV (Lt n) w' v c := h.keep (below_keep k)
theorem Lss.le {n m : Nat} {w : World} {v : Value} {l : List (List Int)} (h : Lss (Lt n) w v l) (hn : n ≤ m) : Lss (Lt m) w v l := h.mono fun _ hb => Nat.lt_of_lt_of_le hb hn
theorem CeV.le {n m : Nat} {w : World} {v : Value} {c : Ce} (h : CeV (Lt n) w v c) (hn : n ≤ m) : CeV (Lt m) w v c := h.mono fun _ hb => Nat.lt_of_lt_of_le hb hn

/-- A slice of slices, opened: its value, its cells, and what each of them is. -/
theorem Lss.open {S : Nat → Prop} {w : World} {v : Value} {ls : List (List Int)} (h : Lss S w v ls) : ∃ a cap, v = .slice a ls.length cap ∧ ls.length ≤ cap ∧
    (ls = [] ∨ ∃ b off, a = some ⟨b, off, none⟩ ∧ S b ∧ ∀ j (hj : j < ls.length), ∃ x, w.cell? ⟨b, off + j, none⟩ = some x ∧ Ints S w x ls[j]) := by
  obtain ⟨vs, h1, h2, h3⟩ := h
  obtain ⟨a, cap, rfl, hcap, ho⟩ := h2.open1
  refine ⟨a, cap, by rw [h1], by omega, ?_⟩
  rcases ho with rfl | ⟨b, off, rfl, hb, hc⟩
  · left; exact List.length_eq_zero_iff.1 (by simpa using h1.symm)
  · exact .inr ⟨b, off, rfl, hb, fun j hj => ⟨vs[j]'(by omega), hc j (by omega), h3 j _ _ (List.getElem?_eq_getElem (by omega)) (List.getElem?_eq_getElem hj)⟩⟩

/-- A cellar, opened. -/
theorem CeV.open {S : Nat → Prop} {w : World} {v : Value} {c : Ce} (h : CeV S w v c) : ∃ ha hc ka kc ta tc, v = .agg #[.slice ha c.heaps.length hc, .slice ka c.casks.length kc, .slice ta c.trials.length tc] ∧
    Rgs S w (.slice ha c.heaps.length hc) c.heaps ∧ Lss S w (.slice ka c.casks.length kc) c.casks ∧ Tls S w (.slice ta c.trials.length tc) c.trials := by
  obtain ⟨hv, kv, tv, rfl, h1, h2, h3⟩ := h
  obtain ⟨ha, hc, rfl, -, -⟩ := h1.at
  obtain ⟨ka, kc, rfl, -, -⟩ := h2.open
  obtain ⟨ta, tc, rfl, -, -⟩ := h3.at
  exact ⟨ha, hc, ka, kc, ta, tc, rfl, h1, h2, h3⟩

end Go.Proofs.Ytjddcaimjofihaa

namespace Go.Proofs.Ytjddcaimjofihaa
open Go.RowKit

/-- The value v is a slice of the call's own, in a block from base on; its elements are those of l. -/
def Own {α : Type} (base : Nat) (e : TypeId) (sz : Nat) (enc : α → List Value) (w : World) (v : Value) (l : List α) : Prop := w.ownsRow base e sz v l.length (l.flatMap enc)

theorem Own.nil {α : Type} {base : Nat} {e : TypeId} {sz : Nat} {enc : α → List Value} {w : World} : Own base e sz enc w (.slice none 0 0) ([] : List α) := World.ownsRow_nil w base e sz

theorem flat_length {α : Type} (sz : Nat) (enc : α → List Value) (h : ∀ y, (enc y).length = sz) (l : List α) : (l.flatMap enc).length = l.length * sz := by
  induction l with
  | nil => simp
  | cons x l ih => rw [List.flatMap_cons, List.length_append, ih, h, List.length_cons, Nat.add_mul]; omega

theorem flat_at {α : Type} (sz : Nat) (enc : α → List Value) (h : ∀ y, (enc y).length = sz) (l : List α) : ∀ (j : Nat) (x : α), l[j]? = some x → ∀ i c, (enc x)[i]? = some c → (l.flatMap enc)[j * sz + i]? = some c := by
  induction l with
  | nil => intro j x hx; simp at hx
  | cons y l ih =>
    intro j x hx i c hc
    rw [List.flatMap_cons]
    cases j with
    | zero =>
      simp only [List.getElem?_cons_zero, Option.some.injEq] at hx
      subst hx
      rw [Nat.zero_mul, Nat.zero_add, List.getElem?_append_left (List.getElem?_eq_some_iff.1 hc).1]
      exact hc
    | succ j =>
      simp only [List.getElem?_cons_succ] at hx
      rw [List.getElem?_append_right (by rw [h, Nat.add_mul]; omega), h, show (j + 1) * sz + i - sz = j * sz + i by rw [Nat.add_mul]; omega]
      exact ih j x hx i c hc

theorem Own.sl {α : Type} {base : Nat} {e : TypeId} {sz : Nat} {enc : α → List Value} {w : World} {v : Value} {l : List α} (h : Own base e sz enc w v l) (henc : ∀ y, (enc y).length = sz) :
    Sl sz enc (fun b => base ≤ b ∧ b < w.heap.size) w v l := by
  have hcells := fun g hg => World.ownsRow.cells (g := g) h hg
  obtain ⟨-, h2⟩ := h
  rcases h2 with ⟨rfl, h0⟩ | ⟨g, cap, cur, rfl, hg, hh, hc, -⟩
  · exact ⟨none, 0, by rw [h0], by omega, .inl (List.eq_nil_of_length_eq_zero h0)⟩
  · refine ⟨_, cap, rfl, hc, .inr ⟨g, 0, rfl, ⟨hg, (Array.getElem?_eq_some_iff.1 hh).1⟩, fun j x hx i c hi => ?_⟩⟩
    have := hcells g rfl (j * sz + i) c (flat_at sz enc henc l j x hx i c hi)
    unfold Addr.add at this
    split at this
    · next h0 => rw [Nat.zero_add, h0]; exact this
    · simpa [Nat.add_assoc] using this

theorem Own.slLt {α : Type} {base : Nat} {e : TypeId} {sz : Nat} {enc : α → List Value} {w : World} {v : Value} {l : List α} (h : Own base e sz enc w v l) (henc : ∀ y, (enc y).length = sz) :
    Sl sz enc (Lt w.heap.size) w v l := (h.sl henc).mono fun _ hb => hb.2

theorem Own.below {α : Type} {base : Nat} {e : TypeId} {sz : Nat} {enc : α → List Value} {w w' : World} {v : Value} {l : List α} (h : Own base e sz enc w v l) (hb : Below w.heap.size w w') : Own base e sz enc w' v l := by
  obtain ⟨h1, h2⟩ := h
  refine ⟨h1, ?_⟩
  rcases h2 with h2 | ⟨g, cap, cur, hv, hg, hh, r⟩
  · exact Or.inl h2
  · exact Or.inr ⟨g, cap, cur, hv, hg, by rw [hb.block g (Array.getElem?_eq_some_iff.1 hh).1]; exact hh, r⟩

theorem Own.block {α : Type} {base : Nat} {e : TypeId} {sz : Nat} {enc : α → List Value} {w : World} {v : Value} {l : List α} (h : Own base e sz enc w v l) : ∀ k, v.ownBlock = some k → base ≤ k ∧ k < w.heap.size := World.ownsRow.lt h

/-- Behind an append: what was kept below base is kept. -/
theorem Own.grown {α : Type} {base B : Nat} {e : TypeId} {sz : Nat} {enc : α → List Value} {w0 w w' : World} {v : Value} {l : List α} (h : Own base e sz enc w v l) (hg : w.grownBy w' v.ownBlock) (hb : Below B w0 w) (hB : B ≤ base) (hs : B ≤ w.heap.size) : Below B w0 w' :=
  hb.grown hg hs fun k hk => Nat.le_trans hB (h.block k hk).1

theorem cells_new (w : World) (cs : List Value) (t : TypeId) : ∀ i u, cs[i]? = some u → (w.alloc (.cells cs.toArray t)).cell? ⟨w.heap.size, i, none⟩ = some u := by
  intro i u hu
  rw [cell_of_row (heap_new w _) i]
  simpa using hu

/-- append(s, y), the slice s the call's own. -/
theorem wpList_append1 {P : Program} {ops : Array Oper} {rest : List Oper} {o : Oper} {a : Act} {Q : Exit → Act → World → Prop} {w : World} {α : Type} (enc : α → List Value) (hgd : o.guard = none) (s x : Operand) (t : TypeId)
    (ho : o.op = .call { callee := .builtin .append, args := #[s, x], argTypes := #[t, t] }) (base : Nat) (e : TypeId) (z : Value) (sz bytes : Nat)
    (ht : P.underlying t = some (.slice e)) (hinfo : (P.info? e).map (fun i => (i.zero, i.size, i.bytes)) = some (some z, sz, bytes)) (hzs : z.cells.size = sz) (hsz : 0 < sz)
    (henc : ∀ y, (enc y).length = sz) (henc1 : ∀ y, ∀ u ∈ enc y, u.oneCell' = true) (v : Value) (l : List α) (hs : a.eval s = v) (hown : Own base e sz enc w v l)
    (g c : Nat) (y : α) (hx : a.eval x = .slice (some ⟨g, 0, none⟩) 1 c) (hnews : ∀ i u, (enc y)[i]? = some u → w.cell? ⟨g, i, none⟩ = some u)
    (hlen : l.length + 1 ≤ 1000000) (hby : bytes ≤ 1000) (hbase : base ≤ w.heap.size)
    (h : ∀ v' w', Own base e sz enc w' v' (l ++ [y]) → w.grownBy w' v.ownBlock → wpList P ops Q rest (a.put o.dst v') w') : wpList P ops Q (o :: rest) a w := by
  obtain ⟨i, hi, hz0, hz1, hz2⟩ := info_parts hinfo
  refine wpList_append_own w hgd s x t ho base e i z sz bytes ht hi hz0 hz1 hz2 hzs hsz v l.length (l.flatMap enc) hs hown ⟨g, 0, none⟩ 1 c (enc y) hx (by rw [henc]; omega) ?_ (henc1 y) (by unfold maxLen; omega) ?_ hbase fun v' w' h1 h2 _ => h v' w' ?_ h2
  · intro j u hu
    have := hnews j u hu
    unfold Addr.add
    split
    · next h0 => rw [h0] at this; exact this
    · simpa using this
  · have := Nat.mul_le_mul hlen hby; omega
  · unfold Own
    rw [List.flatMap_append, List.length_append]
    simpa using h1

end Go.Proofs.Ytjddcaimjofihaa

namespace Go.Proofs.Ytjddcaimjofihaa
open Go.RowKit

/-- Only blocks of T, and new ones, have turned. -/
structure Chg (T : Nat → Prop) (A B : World) : Prop where
  os : B.os = A.os
  tape : B.tape = A.tape
  output : B.output = A.output
  size : A.heap.size ≤ B.heap.size
  block : ∀ b, b < A.heap.size → ¬ T b → B.heap[b]? = A.heap[b]?

theorem Chg.refl (T : Nat → Prop) (A : World) : Chg T A A := ⟨rfl, rfl, rfl, Nat.le_refl _, fun _ _ _ => rfl⟩
theorem Chg.trans {T : Nat → Prop} {A B C : World} (h : Chg T A B) (k : Chg T B C) : Chg T A C :=
  ⟨k.os.trans h.os, k.tape.trans h.tape, k.output.trans h.output, Nat.le_trans h.size k.size, fun b hb ht => (k.block b (Nat.lt_of_lt_of_le hb h.size) ht).trans (h.block b hb ht)⟩
theorem Chg.mono {T T' : Nat → Prop} {A B : World} (h : Chg T A B) (ht : ∀ b, T b → T' b) : Chg T' A B := ⟨h.os, h.tape, h.output, h.size, fun b hb hn => h.block b hb fun e => hn (ht b e)⟩
theorem chg_of_below {T : Nat → Prop} {A B : World} (h : Below A.heap.size A B) : Chg T A B := ⟨h.os, h.tape, h.output, h.size, fun b hb _ => h.block b hb⟩
theorem chg_alloc {T : Nat → Prop} (A : World) (o : Obj) : Chg T A (A.alloc o) := chg_of_below (below_alloc1 (Nat.le_refl _) o)
theorem chg_setCell {T : Nat → Prop} (A : World) {p : Addr} (hp : T p.block) (v : Value) : Chg T A (A.setCell p v) :=
  ⟨rfl, rfl, rfl, by simp [World.setCell], fun b _ hn => Below.heap_setCell _ _ _ _ (fun e => hn (e ▸ hp))⟩
theorem chg_putObj {T : Nat → Prop} (A : World) {l : Nat} (hl : T l) (o : Obj) : Chg T A (A.putObj l o) :=
  ⟨rfl, rfl, rfl, by simp, fun b _ hn => World.putObj_heap_other (fun e => hn (e ▸ hl))⟩
theorem Chg.below {T : Nat → Prop} {n : Nat} {A B : World} (h : Chg T A B) (hn : n ≤ A.heap.size) (ht : ∀ b, b < n → ¬ T b) : Below n A B :=
  ⟨h.os, h.tape, h.output, h.size, fun b hb => h.block b (Nat.lt_of_lt_of_le hb hn) (ht b hb)⟩

/-- What a round must leave as it lay: the blocks of S. -/
structure Kept (S : Nat → Prop) (A B : World) : Prop where
  os : B.os = A.os
  tape : B.tape = A.tape
  output : B.output = A.output
  size : A.heap.size ≤ B.heap.size
  block : ∀ b, S b → B.heap[b]? = A.heap[b]?
theorem Kept.refl (S : Nat → Prop) (A : World) : Kept S A A := ⟨rfl, rfl, rfl, Nat.le_refl _, fun _ _ => rfl⟩
theorem Kept.trans {S : Nat → Prop} {A B C : World} (h : Kept S A B) (k : Kept S B C) : Kept S A C :=
  ⟨k.os.trans h.os, k.tape.trans h.tape, k.output.trans h.output, Nat.le_trans h.size k.size, fun b hb => (k.block b hb).trans (h.block b hb)⟩
theorem Kept.mono {S S' : Nat → Prop} {A B : World} (h : Kept S A B) (hs : ∀ b, S' b → S b) : Kept S' A B := ⟨h.os, h.tape, h.output, h.size, fun b hb => h.block b (hs b hb)⟩
theorem kept_putObj {S : Nat → Prop} (A : World) {l : Nat} (hl : ¬ S l) (o : Obj) : Kept S A (A.putObj l o) :=
  ⟨rfl, rfl, rfl, by simp, fun b hb => World.putObj_heap_other (fun e => hl (e ▸ hb))⟩

/-- The iterator function gf with what it has captured, where the loop begins in the world w: it hands the elements of xs to yield, in their order, till yield says no. It makes K blocks of its own as it begins, and writes to these alone; it reads blocks of S, and its own. -/
def Iter {α : Type} (P : Program) (gf : Nat) (lb : Array Value) (encs : α → Array Value) (K : Nat) (S : Nat → Prop) (xs : List α) (w : World) : Prop :=
  ∀ (l : Nat) (J Jx : List α → World → Prop) (W : World), Kept S w W → w.heap.size ≤ W.heap.size →
    (∀ pre A B, J pre A → Chg (fun b => W.heap.size ≤ b ∧ b < W.heap.size + K) A B → J pre B) →
    (∀ pre A B, Jx pre A → Chg (fun b => W.heap.size ≤ b ∧ b < W.heap.size + K) A B → Jx pre B) →
    (∀ pre x W1, J pre W1 → pre ++ [x] <+: xs → YieldAt Fence.wide 0 P l (encs x) W1 fun e W' =>
      (e = .returned (.bool true) ∧ J (pre ++ [x]) W' ∧ Kept (fun b => S b ∨ (W.heap.size ≤ b ∧ b < W.heap.size + K)) W1 W') ∨ (e = .returned (.bool false) ∧ Jx (pre ++ [x]) W')) →
    (∀ A, Chg (fun b => W.heap.size ≤ b ∧ b < W.heap.size + K) W A → W.heap.size + K ≤ A.heap.size → J [] A) →
    CallsIn Fence.wide 0 P gf (#[.func (.yield l) #[] #[]] ++ lb) W fun e W' => (∃ v, e = .returned v) ∧ (J xs W' ∨ ∃ q, q <+: xs ∧ Jx q W')

/-- How the body of a round may be left. -/
def iterPost {α : Type} (S : Nat → Prop) (I : List α → World → Prop) (Ix : Code → List α → World → Prop) (xs : List α) (W : World) : Exit → Act → World → Prop
  | .normal, _, W' => Kept S W W' ∧ I xs W'
  | .ret, _, W' => Kept S W W' ∧ Ix .ret xs W'
  | .exit id, _, W' => Kept S W W' ∧ Ix (.exit id) xs W'
  | _, _, _ => False

/-- 'for .. := range seq { .. }'. -/
theorem wpIn_iter {P : Program} {α : Type} {g : Operand} {ps : Array Tmp} {assign body : Code} {Q : Exit → Act → World → Prop} {a : Act} {w : World} {gf : Nat} {lb : Array Value} {encs : α → Array Value} {K : Nat} {S : Nat → Prop} {xs : List α}
    (hg : a.eval g = .func (.func gf) #[] lb) (eg : ∀ args w, (callFunc gf args).run P w = .ok (.enter gf args) w) (hseq : Iter P gf lb encs K S xs w) (hps : ∀ x, (encs x).size = ps.size) (hS : ∀ b, S b → b < w.heap.size)
    (I : List α → World → Prop) (Ix : Code → List α → World → Prop)
    (hI : ∀ pre A B, I pre A → Chg (fun b => w.heap.size ≤ b ∧ b < w.heap.size + 2 + K) A B → I pre B)
    (hIx : ∀ c pre A B, Ix c pre A → Chg (fun b => w.heap.size ≤ b ∧ b < w.heap.size + 2 + K) A B → Ix c pre B)
    (h0 : ∀ A, Chg (fun b => w.heap.size ≤ b ∧ b < w.heap.size + 2 + K) w A → w.heap.size + 2 + K ≤ A.heap.size → I [] A)
    (hround : ∀ (l : Nat) (pre : List α) (x : α) (W : World), I pre W → pre ++ [x] <+: xs → l = w.heap.size + 1 → l < W.heap.size →
      assign.wpIn (Fence.wide.inRound l) 0 P (Exit.then (fun a₁ W1 => Kept (fun b => S b ∨ (w.heap.size ≤ b ∧ b < w.heap.size + 2 + K)) W W1 ∧
          ∀ W2, Chg (fun b => b = l) W1 W2 → W2.heap.size = W1.heap.size → body.wpIn (Fence.wide.inRound l) 0 P (iterPost (fun b => S b ∨ (w.heap.size ≤ b ∧ b < w.heap.size + 2 + K)) I Ix (pre ++ [x]) W2) a₁ W2) (fun _ _ _ => False))
        { tmps := (ps.zip (encs x)).foldl (fun t (p, v) => t.setIfInBounds p v) a.tmps, defers := [] } W)
    (hdone : ∀ (W : World), I xs W → W.heap[w.heap.size]? = some (.deferred (some [])) → Q .normal { a with defers := { target := .collected w.heap.size, args := #[] } :: a.defers } W)
    (hstop : ∀ (c : Code) (q : List α) (W : World), q <+: xs → Ix c q W → W.heap[w.heap.size]? = some (.deferred (some [])) → c.wpIn Fence.wide 0 P Q { a with defers := { target := .collected w.heap.size, args := #[] } :: a.defers } W) :
    (Code.rangeFunc g ps assign body).wpIn Fence.wide 0 P Q a w := by
  refine wpIn_rangeFunc ?_
  intro fn hfn
  rw [show Fence.wide.round = none from rfl]
  obtain ⟨rec, hrec⟩ : ∃ rec : LoopState → Option Code → Loop, rec = fun st pe => { state := st, pending := pe, fn, tmps := a.tmps, params := ps, assign, body, defers := w.heap.size } := ⟨_, rfl⟩
  obtain ⟨W1, hW1⟩ : ∃ W1, (w.alloc (.deferred (some []))).alloc (.loop (rec .ready none)) = W1 := ⟨_, rfl⟩
  have hs1 : W1.heap.size = w.heap.size + 2 := by rw [← hW1]; simp
  have hb1 : Below w.heap.size w W1 := by rw [← hW1]; exact below_alloc2 (Nat.le_refl _) _ _
  have hL1 : W1.heap[w.heap.size + 1]? = some (.loop (rec .ready none)) := by rw [← hW1]; exact heap_new2 _ _ _
  have hK1 : W1.heap[w.heap.size]? = some (.deferred (some [])) := by
    rw [← hW1]; exact (Below.heap_alloc _ _ _ (by simp)).trans (heap_new w _)
  refine ⟨w.heap.size + 1, [{ target := .collected w.heap.size, args := #[] }], W1, { target := .fn (.func gf) lb, args := #[.func (.yield (w.heap.size + 1)) #[] #[]] }, W1, gf,
    #[.func (.yield (w.heap.size + 1)) #[] #[]] ++ lb, W1, ?_, ?_, ?_, ?_, fun h => by simp [Fence.wide] at h, ?_⟩
  · rw [← hW1, hrec]; exact run_enterLoop_outer _ _ _ _ _
  · simp only [resolve, hg]
    simp [go_sem]
  · intro f' _; trivial
  · simp [invoke, go_sem, eg]
  · have hT : ∀ b, (W1.heap.size ≤ b ∧ b < W1.heap.size + K) → (w.heap.size ≤ b ∧ b < w.heap.size + 2 + K) := fun b hb => by omega
    have hl : ∀ {A B : World} {k : Nat} {o : Obj}, k < w.heap.size + 2 → A.heap[k]? = some o → Chg (fun b => W1.heap.size ≤ b ∧ b < W1.heap.size + K) A B → B.heap[k]? = some o := fun hk hA hc =>
      (hc.block _ (Array.getElem?_eq_some_iff.1 hA).1 (by omega)).trans hA
    refine (hseq (w.heap.size + 1)
      (fun pre W => I pre W ∧ W.heap[w.heap.size + 1]? = some (.loop (rec .ready none)) ∧ W.heap[w.heap.size]? = some (.deferred (some [])))
      (fun pre W => ∃ c, Ix c pre W ∧ W.heap[w.heap.size + 1]? = some (.loop (rec .done (some c))) ∧ W.heap[w.heap.size]? = some (.deferred (some [])))
      W1 ⟨hb1.os, hb1.tape, hb1.output, hb1.size, fun b hb => hb1.block b (hS b hb)⟩ hb1.size
      (fun pre A B ⟨h1, h2, h3⟩ hc => ⟨hI pre A B h1 (hc.mono hT), hl (by omega) h2 hc, hl (by omega) h3 hc⟩)
      (fun pre A B ⟨c, h1, h2, h3⟩ hc => ⟨c, hIx c pre A B h1 (hc.mono hT), hl (by omega) h2 hc, hl (by omega) h3 hc⟩)
      ?_ ?_).mono ?_
    · -- one round
      rintro pre x W ⟨hi, hlr, hk⟩ hx
      have hlt : w.heap.size + 1 < W.heap.size := (Array.getElem?_eq_some_iff.1 hlr).1
      have hy := run_yield (P := P) (args := encs x) hlr (by rw [hrec]; exact hps x)
      rw [hrec] at hy
      refine ⟨fn, _, assign, body, hy, roundIn_of_wpIn hfn (wpIn_mono (hround _ pre x W hi hx rfl hlt) ?_)⟩
      clear hy
      rintro e a' Wa hp
      cases e with
      | normal =>
        obtain ⟨hka, hbody⟩ := hp
        have hla : Wa.heap[w.heap.size + 1]? = some (.loop (rec .ready none)) := (hka.block _ (.inr (by omega))).trans hlr
        have hkka : Wa.heap[w.heap.size]? = some (.deferred (some [])) := (hka.block _ (.inr (by omega))).trans hk
        have hlta : w.heap.size + 1 < Wa.heap.size := (Array.getElem?_eq_some_iff.1 hla).1
        refine ⟨_, run_beginRound hla (by rw [hrec]), ?_⟩
        have hl2 : (Wa.putObj (w.heap.size + 1) (.loop { rec .ready none with state := .busy })).heap[w.heap.size + 1]? = some (.loop { rec .ready none with state := .busy }) := World.putObj_heap_same hlta
        have hk2 : (Wa.putObj (w.heap.size + 1) (.loop { rec .ready none with state := .busy })).heap[w.heap.size]? = some (.deferred (some [])) := (World.putObj_heap_other (by omega)).trans hkka
        refine wpIn_mono (hbody (Wa.putObj (w.heap.size + 1) (.loop { rec .ready none with state := .busy })) (chg_putObj (T := fun b => b = w.heap.size + 1) _ rfl _) (by simp)) ?_
        generalize hWb : Wa.putObj (w.heap.size + 1) (.loop { rec .ready none with state := .busy }) = Wb at *
        have hkab : Kept (fun b => S b ∨ (W1.heap.size ≤ b ∧ b < W1.heap.size + K)) Wa Wb := by rw [← hWb]; exact kept_putObj _ (fun h => by rcases h with h | h; exact absurd (hS _ h) (by omega); omega) _
        have fin : ∀ (jump : Option Code) (W3 : World), Kept (fun b => S b ∨ (w.heap.size ≤ b ∧ b < w.heap.size + 2 + K)) Wb W3 →
            (Instr.endRound (w.heap.size + 1) jump).run P W3 = .ok (.bool jump.isNone) (W3.putObj (w.heap.size + 1) (.loop (rec (if jump.isNone then .ready else .done) jump))) ∧
            (W3.putObj (w.heap.size + 1) (.loop (rec (if jump.isNone then .ready else .done) jump))).heap[w.heap.size + 1]? = some (.loop (rec (if jump.isNone then .ready else .done) jump)) ∧
            (W3.putObj (w.heap.size + 1) (.loop (rec (if jump.isNone then .ready else .done) jump))).heap[w.heap.size]? = some (.deferred (some [])) ∧
            Chg (fun b => w.heap.size ≤ b ∧ b < w.heap.size + 2 + K) W3 (W3.putObj (w.heap.size + 1) (.loop (rec (if jump.isNone then .ready else .done) jump))) ∧
            Kept (fun b => S b ∨ (W1.heap.size ≤ b ∧ b < W1.heap.size + K)) W (W3.putObj (w.heap.size + 1) (.loop (rec (if jump.isNone then .ready else .done) jump))) := fun jump W3 hk3 => by
          have hl3 : W3.heap[w.heap.size + 1]? = some (.loop { rec .ready none with state := .busy }) := (hk3.block _ (.inr (by omega))).trans hl2
          have := run_endRound (P := P) jump hl3
          rw [hrec] at this ⊢
          refine ⟨this, World.putObj_heap_same (Array.getElem?_eq_some_iff.1 hl3).1, (World.putObj_heap_other (by omega)).trans ((hk3.block _ (.inr (by omega))).trans hk2), chg_putObj _ (by omega) _, ?_⟩
          refine ((hka.mono fun b hb => hb.imp id (fun h => by omega)).trans hkab).trans ((hk3.mono fun b hb => hb.imp id (fun h => by omega)).trans (kept_putObj _ (fun h => ?_) _))
          rcases h with h | h
          · exact absurd (hS _ h) (by omega)
          · omega
        rintro e a3 W3 hp
        cases e with
        | normal =>
          obtain ⟨hk3, hi3⟩ := hp
          obtain ⟨hr, hl4, hk4, hc4, hkk4⟩ := fin none W3 hk3
          exact ⟨_, _, hr, .inl ⟨rfl, ⟨hI _ _ _ hi3 hc4, hl4, hk4⟩, hkk4⟩⟩
        | ret =>
          obtain ⟨hk3, hi3⟩ := hp
          obtain ⟨hr, hl4, hk4, hc4, -⟩ := fin (some .ret) W3 hk3
          exact ⟨_, _, hr, .inr ⟨rfl, .ret, hIx _ _ _ _ hi3 hc4, hl4, hk4⟩⟩
        | exit id =>
          obtain ⟨hk3, hi3⟩ := hp
          obtain ⟨hr, hl4, hk4, hc4, -⟩ := fin (some (.exit id)) W3 hk3
          exact ⟨_, _, hr, .inr ⟨rfl, .exit id, hIx _ _ _ _ hi3 hc4, hl4, hk4⟩⟩
        | goto t => exact hp.elim
        | panic ch => exact hp.elim
        | outgrown => exact hp.elim
      | ret => exact hp
      | exit id => exact hp
      | goto t => exact hp
      | panic ch => exact hp
      | outgrown => exact hp
    · -- it begins
      intro A hc hs
      refine ⟨h0 A ((chg_of_below hb1).trans (hc.mono hT)) (by omega), hl (by omega) hL1 hc, hl (by omega) hK1 hc⟩
    · -- it has ended
      rintro e W2 ⟨⟨v, rfl⟩, (⟨hi, hlr, hk⟩ | ⟨q, hq, c, hi, hlr, hk⟩)⟩
      · exact ⟨none, _, by have := run_endLoop (P := P) hlr (by rw [hrec]; simp); rw [hrec] at this; exact this, hdone _ (hI _ _ _ hi (chg_putObj _ (by omega) _)) ((World.putObj_heap_other (by omega)).trans hk)⟩
      · exact ⟨some c, _, by have := run_endLoop (P := P) hlr (by rw [hrec]; simp); rw [hrec] at this; exact this, hstop c q _ hq (hIx _ _ _ _ hi (chg_putObj _ (by omega) _)) ((World.putObj_heap_other (by omega)).trans hk)⟩

/-- A function that holds such a loop returns. -/
theorem bodyPostM_mark {P : Program} {fn : Func} {R : Ending → World → Prop} {tmps : Array Value} {D : Nat} {W : World} {v : Value} (hD : W.heap[D]? = some (.deferred (some [])))
    (hr : (results fn tmps).run P (W.putObj D (.deferred none)) = .ok v (W.putObj D (.deferred none))) (hR : R (.returned v) (W.putObj D (.deferred none))) :
    bodyPostM Fence.wide 0 P fn R .ret { tmps := tmps, defers := [{ target := .collected D, args := #[] }] } W := by
  show LeavesInM _ _ _ _ _ _ _ _ _
  refine ⟨by simp, .inl ⟨D, _, rfl, run_takeDeferred hD, ?_⟩⟩
  exact ⟨v, hr, hR⟩
theorem below_putObj {n : Nat} {w0 W : World} (h : Below n w0 W) {D : Nat} (hD : n ≤ D) (o : Obj) : Below n w0 (W.putObj D o) :=
  h.trans ⟨rfl, rfl, rfl, by simp, fun b hb => World.putObj_heap_other (by omega)⟩

end Go.Proofs.Ytjddcaimjofihaa

namespace Go.Proofs.Ytjddcaimjofihaa
open Go.RowKit

theorem rowsIn_round {l : Nat} {P : Program} {row : String} {args : Array Value} {w : World} {R : Value → World → Prop} (h : Rows P row args w R) : RowsIn (Fence.wide.inRound l) 0 P row args w R :=
  fun c cs _ => let ⟨v, w', r, s⟩ := h c cs; ⟨v, w', r, stepsIn_wide.2 s⟩

/-- No operation of a region defers. -/
def noDefer (ops : Array Oper) : Prop := ∀ (j : Nat) (o : Oper) c, ops[j]? = some o → o.op ≠ Op.defer c

theorem wpOpIn_round {l : Nat} {P : Program} {ops : Array Oper} {Q : Exit → Act → World → Prop} (hq : ¬ LetsOut Q) (hnd : noDefer ops) {i : Nat} {K : Act → World → Prop} {a : Act} {w : World} (h : wpOp P ops Q i K a w) :
    wpOpIn (Fence.wide.inRound l) 0 P ops Q i K a w := by
  unfold wpOpIn
  unfold wpOp at h
  cases ho : ops[i]? with
  | none => simp only [ho] at h ⊢; exact h
  | some o =>
    simp only [ho] at h ⊢
    split
    · rename_i hw
      simp only [hw, if_true] at h
      rcases h with h | ⟨-, h⟩
      · refine ⟨fun _ _ => trivial, ?_⟩
        rw [Oper.semAt_eq _ _ _ (fun c => hnd i o c ho)]
        unfold Oper.wp at h
        generalize (execOp a.eval o).run P w = r at h ⊢
        cases r with
        | ok x w' =>
          cases x <;> simp only [Oper.upon] at h <;> simp only [Oper.uponIn]
          case value => exact h
          case skip => exact h
          case defer => exact h
          case enter f args => exact ⟨fun h => by simp [Fence.wide] at h, CallsIn.inRound l (callsIn_wide.2 h)⟩
          case row row args => exact ⟨fun h => by simp [Fence.wide] at h, rowsIn_round h⟩
        | halt x w' => cases x <;> simp only [Oper.upon] at h <;> simp only [Oper.uponIn]; exact h
      · exact absurd h hq
    · rename_i hw
      simp only [hw] at h
      exact ⟨fun _ _ => trivial, h⟩

theorem wpAnyIn_round {l : Nat} {P : Program} {md : Region.Mode} {ops : Array Oper} {Q : Exit → Act → World → Prop} (hq : ¬ LetsOut Q) (hnd : noDefer ops) : ∀ (fuel : Nat) (listed : Array Bool) (a : Act) (w : World),
    wpAny P md ops Q fuel listed a w → wpAnyIn (Fence.wide.inRound l) 0 P md ops Q fuel listed a w
  | 0, _, _, _, h => h
  | fuel + 1, _, _, _, h => ⟨h.1, fun i hi => wpOpIn_mono (fun a' w' h' => wpAnyIn_round hq hnd fuel _ a' w' h') (wpOpIn_round hq hnd (h.2 i hi))⟩

theorem wpIn_region_round {l : Nat} {P : Program} {id : Nat} {ops : Array Oper} {Q : Exit → Act → World → Prop} {a : Act} {w : World} (hm : P.follows .mixedOrders = true) (hq : ¬ LetsOut Q) (hnd : noDefer ops)
    (h : ∀ D, D = w.drew → wpAny P .any ops Q ops.size (Array.replicate ops.size false) a D) : (Code.region id ops true).wpIn (Fence.wide.inRound l) 0 P Q a w :=
  wpIn_region_any hm (wpAnyIn_round hq hnd _ _ _ _ (h _ rfl))

theorem noDefer_of {ops : Array Oper} (h : (ops.all fun o => match o.op with | .defer _ => false | _ => true) = true) : noDefer ops := fun j o c ho he => by
  have := Array.all_eq_true'.1 h o (Array.mem_of_getElem? ho)
  rw [he] at this
  cases this

/-- A region that only reads, in a round, with no call. -/
theorem wpIn_round_quiet {P : Program} {l : Nat} {id : Nat} {Q : Exit → Act → World → Prop} {a : Act} {w : World} {ops : List Oper} (hm : P.follows .mixedOrders = true) (hB : Region.lexB .any ops.toArray = true) (hq : ¬ LetsOut Q) (hnd : noDefer ops.toArray)
    (h : wpQuiet P ops.toArray (fun w' => ∃ n, w' = w.drewN n) (fun a' => ∀ w', (∃ n, w' = w.drewN n) → Q .normal a' w') ops a) : (Code.region id ops.toArray true).wpIn (Fence.wide.inRound l) 0 P Q a w := by
  refine wpIn_region_round hm hq hnd fun D hD => ?_
  subst hD
  simp only [Region.lexB, Bool.and_eq_true] at hB
  refine wpAny_of_quiet (C := fun w' => ∃ n, w' = w.drewN n) (Q := fun a' => ∀ w', (∃ n, w' = w.drewN n) → Q .normal a' w') (fun _ w' hw' h => h w' hw') _ _ _ _ ⟨1, rfl⟩ ?_
  have := wpAnyQ_lex (C := fun w' => ∃ n, w' = w.drewN n) (md := .any) hB.1 ops 0 (Array.replicate ops.toArray.size false) a (by simp) (by simpa using hB.2) h
  simpa using this

/-- A region that only reads, in a round. -/
theorem wpIn_round_grew {P : Program} {l : Nat} {id : Nat} {Q : Exit → Act → World → Prop} {a : Act} {w : World} {ops : List Oper} (hm : P.follows .mixedOrders = true) (hB : Region.lexB .any ops.toArray = true) (hq : ¬ LetsOut Q) (hnd : noDefer ops.toArray)
    (h : wpQuiet P ops.toArray (fun w' => ∃ g, w' = World.grew w g) (fun a' => ∀ w', (∃ g, w' = World.grew w g) → Q .normal a' w') ops a) : (Code.region id ops.toArray true).wpIn (Fence.wide.inRound l) 0 P Q a w := by
  refine wpIn_region_round hm hq hnd fun D hD => ?_
  subst hD
  simp only [Region.lexB, Bool.and_eq_true] at hB
  refine wpAny_of_quiet (C := fun w' => ∃ g, w' = World.grew w g) (Q := fun a' => ∀ w', (∃ g, w' = World.grew w g) → Q .normal a' w') (fun _ w' hw' h => h w' hw') _ _ _ _ ⟨⟨{ w with drawn := w.drawn + 1 }, (Below.refl _ w).drew⟩, rfl⟩ ?_
  have := wpAnyQ_lex (C := fun w' => ∃ g, w' = World.grew w g) (md := .any) hB.1 ops 0 (Array.replicate ops.toArray.size false) a (by simp) (by simpa using hB.2) h
  simpa using this

section
variable {P : Program} {ops : Array Oper} {Q : Exit → Act → World → Prop} {md : Region.Mode} {S : World → Prop} {z : Nat}

/-- Whatever order is picked from here on; S holds behind every operation but number z. -/
def wpTill (P : Program) (md : Region.Mode) (ops : Array Oper) (Q : Exit → Act → World → Prop) (S : World → Prop) (z : Nat) : Nat → Array Bool → Act → World → Prop
  | 0, listed, a, w => Region.ready md ops listed = [] ∧ Q .normal a w
  | fuel + 1, listed, a, w =>
    (Region.ready md ops listed = [] → Q .normal a w) ∧
    ∀ i ∈ Region.ready md ops listed, wpOp P ops Q i (fun a' w' => (i ≠ z → S w') ∧ wpTill P md ops Q S z fuel (listed.setIfInBounds i true) a' w') a w

theorem wpAny_of_till : ∀ (fuel : Nat) (listed : Array Bool) (a : Act) (w : World), wpTill P md ops Q S z fuel listed a w → wpAny P md ops Q fuel listed a w
  | 0, _, _, _, h => h
  | fuel + 1, _, _, _, h => ⟨h.1, fun i hi => wpOp_mono (fun a' w' h' => wpAny_of_till fuel _ a' w' h'.2) (h.2 i hi)⟩

/-- Number z waits for number i. -/
def waits (md : Region.Mode) (ops : Array Oper) (z i : Nat) : Bool := ((ops[z]?).map (·.after.any fun e => Region.binds md e && e.on == i)).getD false

theorem wpTill_first {i : Nat} {oi : Oper} {v : Value} (hi : ops[i]? = some oi) (hz : waits md ops z i = true) (hsel : ∀ (j : Nat) (o : Oper) cs b, ops[j]? = some o → o.op ≠ .select cs b)
    (hQ : ∀ c a w, Q (.panic c) (a.put oi.dst v) w → Q (.panic c) a w) :
    ∀ (fuel : Nat) (listed : Array Bool) (a : Act) (w : World),
      (∀ j oj, ops[j]? = some oj → j ≠ i → listed.getD j true = false → (∀ e ∈ oj.after, Region.binds md e = true → e.on ≠ i) → oi.apart ops oj = true) →
      i ∈ Region.ready md ops listed → YieldsIf P ops S oi v a → S w →
      wpTill P md ops Q S z fuel (listed.setIfInBounds i true) (a.put oi.dst v) w → wpTill P md ops Q S z (fuel + 1) listed a w := by
  intro fuel
  induction fuel with
  | zero =>
    intro listed a w _ hr hy hS H
    refine ⟨fun h => (by rw [h] at hr; cases hr), fun j hj => ?_⟩
    by_cases hji : j = i
    · subst hji; exact hy.wpOp hi hS ⟨fun _ => hS, H⟩
    · have := ready_mono hj hji
      rw [H.1] at this
      cases this
  | succ fuel ih =>
    intro listed a w hfree hr hy hS H
    refine ⟨fun h => (by rw [h] at hr; cases hr), fun j hj => ?_⟩
    by_cases hji : j = i
    · subst hji; exact hy.wpOp hi hS ⟨fun _ => hS, H⟩
    · obtain ⟨hjun, oj, hoj, hall⟩ := mem_ready.1 hj
      have hnot : ∀ e ∈ oj.after, Region.binds md e = true → e.on ≠ i := fun e he hb heq => by
        have h1 := hall e he hb
        have h0 := (mem_ready.1 hr).1
        rw [heq] at h1
        rcases Nat.lt_or_ge i listed.size with h' | h'
        · simp [h'] at h0 h1; rw [h0] at h1; cases h1
        · simp [Array.getElem?_eq_none h'] at h1
      have hjz : j ≠ z := fun h => by
        subst h
        simp only [waits, hoj, Option.map_some, Option.getD_some, Array.any_eq_true', Bool.and_eq_true, beq_iff_eq] at hz
        obtain ⟨e, he, hb, heq⟩ := hz
        exact hnot e he hb heq
      have h2 := wpOp_putIf hoj (hfree j oj hoj hji hjun hnot) (fun cs b => hsel i oi cs b hi) (fun cs b => hsel j oj cs b hoj) hQ hy (H.2 j (ready_mono hj hji))
      refine wpOp_mono (fun a' w' h3 => ⟨fun _ => h3.2.1 hjz, ih (listed.setIfInBounds j true) a' w' (fun k ok hk hki hun hno => hfree k ok hk hki ?_ hno) (ready_mono hr (Ne.symm hji)) h3.1 (h3.2.1 hjz) ?_⟩) h2
      · by_cases hjk : j = k
        · subst hjk; exact hjun
        · rw [getD_set_ne true hjk] at hun; exact hun
      · rw [Array.setIfInBounds_comm _ _ hji]
        exact h3.2.2

/-- Take number i first. -/
theorem wpTill_take {i : Nat} {oi : Oper} {v : Value} {fuel : Nat} {listed : Array Bool} {a : Act} {w : World} (hi : ops[i]? = some oi) (hz : waits md ops z i = true)
    (hs : Region.noSelect ops = true) (hf : Region.free md ops listed i = true) (hr : (Region.ready md ops listed).contains i = true)
    (hQ : ∀ c a w, Q (.panic c) (a.put oi.dst v) w → Q (.panic c) a w) (hw : Region.wanted oi (yielded ops a.tmps) = true) (hy : ∀ w, S w → (execOp a.eval oi).run P w = .ok (.value v) w) (hS : S w)
    (h : wpTill P md ops Q S z fuel (listed.setIfInBounds i true) (a.put oi.dst v) w) : wpTill P md ops Q S z (fuel + 1) listed a w :=
  wpTill_first hi hz (Region.noSelect_spec hs) hQ fuel listed a w (Region.free_spec hi hf) (by simpa using hr) (.inl ⟨hw, hy⟩) hS h

/-- Only number i may come up. -/
theorem wpTill_only {i : Nat} {oi : Oper} {fuel : Nat} {listed : Array Bool} {a : Act} {w : World} (hi : ops[i]? = some oi) (hr : Region.ready md ops listed = [i]) (hw : Region.wanted oi (yielded ops a.tmps) = true)
    (h : oi.wp P a w (fun a' w' => (i ≠ z → S w') ∧ wpTill P md ops Q S z fuel (listed.setIfInBounds i true) a' w') Q) : wpTill P md ops Q S z (fuel + 1) listed a w := by
  refine ⟨fun h0 => absurd (hr.symm.trans h0) (by simp), fun j hj => ?_⟩
  rw [hr] at hj
  obtain rfl := List.mem_singleton.1 hj
  unfold wpOp
  simp only [hi, hw, if_true]
  exact Or.inl h

/-- The beginning, outside a round. -/
theorem wp_region_till {id : Nat} {a : Act} {w : World} (hm : P.follows .mixedOrders = true) (z : Nat) (S : World → Prop) (h : wpTill P .any ops Q S z ops.size (Array.replicate ops.size false) a w.drew) : (Code.region id ops true).wp P Q a w :=
  wp_region_any hm (wpAny_of_till _ _ _ _ h)

theorem wpTill_done {listed : Array Bool} {a : Act} {w : World} (hr : Region.ready md ops listed = []) (h : Q .normal a w) : ∀ fuel, wpTill P md ops Q S z fuel listed a w
  | 0 => ⟨hr, h⟩
  | _ + 1 => ⟨fun _ => h, by rw [hr]; simp⟩

end
end Go.Proofs.Ytjddcaimjofihaa
