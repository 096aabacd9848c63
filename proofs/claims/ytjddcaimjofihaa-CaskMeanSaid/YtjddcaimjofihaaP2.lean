/- Plain laws of the statements on blends and on the fewest things; no condition. -/
import Derived.Test.YtjddcaimjofihaaP1
namespace Go.Proofs.Ytjddcaimjofihaa

/-! ### The best blend -/
theorem beforeB_false_of {a b : List Int} (h : beforeB a b = true) : beforeB b a = false := beforeB_asymm h
theorem inStock_more : ∀ (st st' ws : List Int), st.length = st'.length → (∀ (i : Nat) (x y : Int), st[i]? = some x → st'[i]? = some y → x ≤ y) → inStock st ws = true → inStock st' ws = true
  | [], [], ws, _, _, h => h
  | [], _ :: _, _, h, _, _ => by simp at h
  | _ :: _, [], _, h, _, _ => by simp at h
  | x :: st, y :: st', [], _, _, h => by simp [inStock] at h
  | x :: st, y :: st', w :: ws, hl, H, h => by
    simp only [inStock, Bool.and_eq_true] at h ⊢
    have h0 := H 0 x y rfl rfl
    have h1 := within_iff.1 h.1
    exact ⟨within_iff.2 (by omega), inStock_more st st' ws (by simpa using hl) (fun i a b ha hb => H (i + 1) a b (by simpa using ha) (by simpa using hb)) h.2⟩
theorem blend_stock {T : List (List Int)} {st st' : List Int} {wt g g' : Int} {ws : List Int} (hl : st.length = st'.length) (H : ∀ (i : Nat) (x y : Int), st[i]? = some x → st'[i]? = some y → x ≤ y) (hg : g' ≤ g) (h : isBlendR T st wt g ws = true) : isBlendR T st' wt g' ws = true := by
  obtain ⟨h1, h2, h3⟩ := isBlendR_iff.1 h
  exact isBlendR_iff.2 ⟨inStock_more st st' ws hl H h1, h2, fun s hs => by have := h3 s hs; omega⟩
/-- The cellar with one cask of a blend, and no trials of casks. -/
def blendC (c : Ce) (ws : List Int) : Ce := { c with casks := [ws], trials := c.trials.filter fun t => !t.cask }
theorem blendC_trials {c : Ce} {ws : List Int} (h : (blendC c ws).trials.length = c.trials.length) : (blendC c ws).trials = c.trials := by
  have : ∀ l : List Tl, (l.filter fun t => !t.cask).length = l.length → (l.filter fun t => !t.cask) = l := fun l hl => List.filter_eq_self.2 ((filter_all_len _ l).1 hl)
  exact this _ h

/-! ### The fewest things are tried -/
/-- A thing that is tried exactly in a truth. -/
def exactT (c : Ce) (t : List Int) (k : Int) : Tl := ⟨decide ((c.heaps.length : Int) ≤ k), if (c.heaps.length : Int) ≤ k then k - c.heaps.length else k, ⟨ofT c t k, ofT c t k⟩⟩
def exactC (c : Ce) (t ts : List Int) : Ce := { c with trials := c.trials ++ ts.map (exactT c t) }
theorem exact_thing (c : Ce) (t : List Int) (k : Int) : thing c.heaps.length (exactT c t k) = k := by
  unfold thing exactT
  by_cases h : (c.heaps.length : Int) ≤ k
  · simp only [h, decide_true, if_true]; omega
  · simp only [h, decide_false, if_false]; simp
theorem exact_fault {c : Ce} (hf : fault c = 0) {t : List Int} (ht : t ∈ truthsOf c []) {ts : List Int} (hts : ∀ k ∈ ts, 0 ≤ k ∧ k < c.heaps.length + c.casks.length) (hl : c.trials.length + ts.length ≤ 5) : fault (exactC c t ts) = 0 := by
  obtain ⟨hg, hm⟩ := fault_good hf
  obtain ⟨⟨g1, g2, g3, g4⟩, -⟩ := hg.facts
  have hli := (mem_truthsOf.1 ht).1
  have hs : sizes (exactC c t ts) = false := by
    unfold sizes exactC
    simp
    omega
  have hp : partsOk (exactC c t ts) = true := by
    have h0 := hg.ok
    simp only [partsOk, Bool.and_eq_true] at h0
    simp only [partsOk, exactC, List.all_append, Bool.and_eq_true]
    refine ⟨h0.1, h0.2, ?_⟩
    rw [List.all_eq_true]
    intro y hy
    obtain ⟨k, hk, rfl⟩ := List.mem_map.1 hy
    obtain ⟨a1, a2⟩ := hts k hk
    obtain ⟨b1, b2⟩ := ofT_100 hg hli a1 a2
    simp only [trialB, Bool.and_eq_true]
    refine ⟨within_iff.2 ?_, strong_iff.2 ⟨b1, Int.le_refl _, b2⟩⟩
    unfold exactT
    by_cases h : (c.heaps.length : Int) ≤ k
    · simp only [h, decide_true, if_true]; omega
    · simp only [h, decide_false, if_false]; simp; omega
  unfold fault
  rw [hs, hp]
  simp only [Bool.false_eq_true, if_false, if_true]
  rw [if_neg (by have : (exactC c t ts).heaps = c.heaps := rfl; rw [this]; omega)]
theorem gbits_at (a b : List Bool) (hl : a.length = b.length) (h : gbits a = gbits b) (i : Nat) : a[i]? = b[i]? := by rw [gbits_inj a b hl h]
theorem exact_graded {c : Ce} (hf : fault c = 0) {t : List Int} (ht : t ∈ truthsOf c []) {ts : List Int} (hts : ∀ k ∈ ts, 0 ≤ k ∧ k < c.heaps.length + c.casks.length) {g : Int} (hd : decidesP c g ts (truthsOf c [])) {i : Int} (h0 : 0 ≤ i) (h1 : i < c.casks.length) :
    truthsOf (exactC c t ts) [] ≠ [] ∧ (gradedV (exactC c t ts) i g = 1 ∨ gradedV (exactC c t ts) i g = 2) := by
  obtain ⟨hg, hm⟩ := fault_good hf
  have hsub : ∀ l, l ∈ truthsOf (exactC c t ts) [] → l ∈ truthsOf c [] ∧ ∀ k ∈ ts, ofT c (pad3 l) k = ofT c t k := by
    intro l hl
    obtain ⟨h2, h3⟩ := mem_truthsOf.1 hl
    have h4 := right_nil_iff.1 h3
    refine ⟨mem_truthsOf.2 ⟨h2, right_nil_iff.2 fun y hy => h4 y (by simp [exactC, hy])⟩, fun k hk => ?_⟩
    have h5 := h4 (exactT c t k) (by simp only [exactC]; exact List.mem_append_right _ (List.mem_map_of_mem hk))
    rw [rightT, has_iff] at h5
    have e1 : ofT (exactC c t ts) (pad3 l) (thing (exactC c t ts).heaps.length (exactT c t k)) = ofT c (pad3 l) k := by
      rw [show (exactC c t ts).heaps = c.heaps from rfl, exact_thing]; exact ofT_same rfl rfl _ _
    rw [e1] at h5
    have e2 : (exactT c t k).s = ⟨ofT c t k, ofT c t k⟩ := rfl
    rw [e2] at h5
    simp only at h5
    omega
  have htl := truth_length ht
  have hin : t ∈ truthsOf (exactC c t ts) [] := by
    obtain ⟨h2, h3⟩ := mem_truthsOf.1 ht
    have h4 := right_nil_iff.1 h3
    refine mem_truthsOf.2 ⟨h2, right_nil_iff.2 fun y hy => ?_⟩
    simp only [exactC, List.mem_append, List.mem_map] at hy
    rcases hy with hy | ⟨k, hk, rfl⟩
    · exact h4 y hy
    · rw [rightT, has_iff]
      have e1 : ofT (exactC c t ts) (pad3 t) (thing (exactC c t ts).heaps.length (exactT c t k)) = ofT c (pad3 t) k := by
        rw [show (exactC c t ts).heaps = c.heaps from rfl, exact_thing]; exact ofT_same rfl rfl _ _
      rw [e1, ofT_pad3 hg htl (hts k hk).1 (hts k hk).2]
      exact ⟨Int.le_refl _, Int.le_refl _⟩
  refine ⟨ne_nil_of hin, ?_⟩
  have hiN : i.toNat < c.casks.length := by omega
  have key : ∀ l, l ∈ truthsOf (exactC c t ts) [] → (g ≤ ofT c (pad3 l) (c.heaps.length + i) ↔ g ≤ ofT c (pad3 t) (c.heaps.length + i)) := by
    intro l hl
    obtain ⟨h2, h3⟩ := hsub l hl
    have h4 := hd l h2 t ht fun k hk => by rw [h3 k hk, ofT_pad3 hg htl (hts k hk).1 (hts k hk).2]
    have h5 := gbits_at _ _ (by simp [gradesL]) h4 i.toNat
    simp only [gradesL, List.getElem?_map, List.getElem?_eq_getElem hiN, Option.map_some, Option.some.injEq, decide_eq_decide] at h5
    rw [ofT_cask c _ i h0, ofT_cask c _ i h0, List.getD_eq_getElem?_getD, List.getElem?_eq_getElem hiN]
    exact h5
  have hb := bnd_is (exactC c t ts) (c.heaps.length + i) (ne_nil_of hin)
  unfold gradedV
  rw [show (exactC c t ts).heaps = c.heaps from rfl]
  generalize bnd (exactC c t ts) (c.heaps.length + i) (truthsOf (exactC c t ts) []) = r at *
  obtain ⟨s, m1, e1⟩ := hb.low
  obtain ⟨u, m2, e2⟩ := hb.high
  have e1' : ofT c (pad3 s) (c.heaps.length + i) = r.lo := e1
  have e2' : ofT c (pad3 u) (c.heaps.length + i) = r.hi := e2
  have k1 := key s m1
  have k2 := key u m2
  rw [e1'] at k1
  rw [e2'] at k2
  by_cases h : g ≤ r.lo
  · rw [if_pos h]; exact .inl rfl
  · rw [if_neg h, if_pos (by by_cases h9 : g ≤ r.hi; exact absurd (k1.2 (k2.1 h9)) h; omega)]; exact .inr rfl
/-- The fewest things that decide, as the program finds them. -/
theorem decide_full (c : Ce) (g : Int) : Rising (c.heaps.length + c.casks.length) 0 (bitsFrom (List.replicate (c.heaps.length + c.casks.length) true) 0) ∧ decP c g (bitsFrom (List.replicate (c.heaps.length + c.casks.length) true) 0) = true := by
  constructor
  · have := bitsFrom_rises (List.replicate (c.heaps.length + c.casks.length) true) 0
    simpa using this
  · refine (decS_spec c g _ (truthsOf c [])).2 fun s _ u _ he => ?_
    unfold gradesOf gradesL
    refine congrArg gbits (List.map_congr_left fun k hk => ?_)
    obtain ⟨i, hi, rfl⟩ := List.getElem_of_mem hk
    have h1 := he (((c.heaps.length + i : Nat) : Int)) ((mem_bitsFrom _ _ _).2 ⟨by omega, by rw [List.getElem?_replicate]; rw [if_pos (by omega)]⟩)
    rw [show ((c.heaps.length + i : Nat) : Int) = (c.heaps.length : Int) + (i : Int) by omega, ofT_cask c _ _ (by omega), ofT_cask c _ _ (by omega), Int.toNat_natCast, List.getD_eq_getElem?_getD, List.getElem?_eq_getElem hi] at h1
    simp only [Option.getD_some] at h1
    rw [h1]
theorem decide_some (c : Ce) (g : Int) : ∃ r, shortestS (decP c g) (c.heaps.length + c.casks.length) = some r ∧ Fewest (decP c g) (c.heaps.length + c.casks.length) r := by
  obtain ⟨h1, h2⟩ := decide_full c g
  obtain ⟨r, hr⟩ := shortestS_some h1 h2
  exact ⟨r, hr, shortestS_spec hr⟩
theorem decide_more {c x : Ce} (h1 : x.heaps.length = c.heaps.length) (h2 : x.casks = c.casks) (hs : ∀ l, l ∈ truthsOf x [] → l ∈ truthsOf c []) {g : Int} {u v : List Int}
    (hu : Fewest (decP c g) (c.heaps.length + c.casks.length) u) (hv : Fewest (decP x g) (x.heaps.length + x.casks.length) v) : v.length ≤ u.length := by
  rw [h1, h2] at hv
  have hp : decP x g u = true := (decS_spec x g u (truthsOf x [])).2 (decides_fewer h1 h2 hs ((decS_spec c g u (truthsOf c [])).1 hu.pass))
  have := hv.least _ hu.rises hp
  have := (not_or.1 (shorterB_false.1 this)).1
  omega
end Go.Proofs.Ytjddcaimjofihaa
