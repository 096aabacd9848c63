/- Regions that draw their order, where two operations may come up; slices of the call's own behind appends to others; no condition. -/
import Derived.Test.YtjddcaimjofihaaRG
import Derived.Test.YtjddcaimjofihaaL2
namespace Go.Proofs.Ytjddcaimjofihaa
open Go.RowKit

section
variable {P : Program} {md : Region.Mode} {ops : Array Oper} {Q : Exit → Act → World → Prop} {S : World → Prop}
theorem wpG_op {i : Nat} {oi : Oper} {z fuel : Nat} {listed : Array Bool} {a : Act} {w' : World} (hi : ops[i]? = some oi) (hz : (i == z) = false) (hw : Region.wanted oi (yielded ops a.tmps) = true)
    (h1 : oi.wp P a w' (fun a' w'' => S w'' ∧ wpG P md ops Q S z fuel (listed.setIfInBounds i true) a' w'') Q) :
    wpOp P ops Q i (fun a' w'' => (i = z → Region.ready md ops (listed.setIfInBounds i true) = [] ∧ Q .normal a' w'') ∧ (i ≠ z → S w'' ∧ wpG P md ops Q S z fuel (listed.setIfInBounds i true) a' w'')) a w' := by
  have hne : i ≠ z := by simpa using hz
  unfold wpOp
  simp only [hi, hw, if_true]
  refine .inl ?_
  unfold Oper.wp at *
  generalize (execOp a.eval oi).run P w' = r at *
  cases r with
  | ok n w2 =>
    cases n <;> simp only [Oper.upon] at h1 ⊢
    case value u => exact ⟨fun e => absurd e hne, fun _ => h1⟩
    case skip => exact ⟨fun e => absurd e hne, fun _ => h1⟩
    case defer d => exact ⟨fun e => absurd e hne, fun _ => h1⟩
    case enter f args =>
      refine Calls.mono h1 fun e w'' he => ?_
      cases e with
      | returned u => exact ⟨fun e => absurd e hne, fun _ => he⟩
      | panicked c => exact he
      | outgrown => exact he
    case row row args => exact Rows.mono h1 fun u w'' he => ⟨fun e => absurd e hne, fun _ => he⟩
  | halt x w2 =>
    cases x <;> simp only [Oper.upon] at h1 ⊢
    case panic u => exact h1
/-- Number i or number j may come up. -/
theorem wpG_fork {i j : Nat} {oi oj : Oper} {z fuel : Nat} {listed : Array Bool} {a : Act} {w : World} (hi : ops[i]? = some oi) (hj : ops[j]? = some oj) (hzi : (i == z) = false) (hzj : (j == z) = false) (hr : Region.ready md ops listed = [i, j])
    (hwi : Region.wanted oi (yielded ops a.tmps) = true) (hwj : Region.wanted oj (yielded ops a.tmps) = true)
    (h1 : ∀ w', Below w.heap.size w w' → S w' → oi.wp P a w' (fun a' w'' => S w'' ∧ wpG P md ops Q S z fuel (listed.setIfInBounds i true) a' w'') Q)
    (h2 : ∀ w', Below w.heap.size w w' → S w' → oj.wp P a w' (fun a' w'' => S w'' ∧ wpG P md ops Q S z fuel (listed.setIfInBounds j true) a' w'') Q) : wpG P md ops Q S z (fuel + 1) listed a w := by
  intro w' hb hS
  rw [hr]
  refine ⟨fun h0 => absurd h0 (by simp), fun k hk => ?_⟩
  rcases (by simpa using hk : k = i ∨ k = j) with rfl | rfl
  · exact wpG_op hi hzi hwi (h1 w' hb hS)
  · exact wpG_op hj hzj hwj (h2 w' hb hS)
end

section
variable {P : Program} {ops : Array Oper} {Q : Exit → Act → World → Prop} {md : Region.Mode} {S : World → Prop} {zs : List Nat}
/-- Whatever order is picked from here on; S holds behind every operation but some. -/
def wpTs (P : Program) (md : Region.Mode) (ops : Array Oper) (Q : Exit → Act → World → Prop) (S : World → Prop) (zs : List Nat) : Nat → Array Bool → Act → World → Prop
  | 0, listed, a, w => Region.ready md ops listed = [] ∧ Q .normal a w
  | fuel + 1, listed, a, w =>
    (Region.ready md ops listed = [] → Q .normal a w) ∧
    ∀ i ∈ Region.ready md ops listed, wpOp P ops Q i (fun a' w' => (i ∉ zs → S w → S w') ∧ wpTs P md ops Q S zs fuel (listed.setIfInBounds i true) a' w') a w
theorem wpAny_of_ts : ∀ (fuel : Nat) (listed : Array Bool) (a : Act) (w : World), wpTs P md ops Q S zs fuel listed a w → wpAny P md ops Q fuel listed a w
  | 0, _, _, _, h => h
  | fuel + 1, _, _, _, h => ⟨h.1, fun i hi => wpOp_mono (fun a' w' h' => wpAny_of_ts fuel _ a' w' h'.2) (h.2 i hi)⟩
theorem wpTs_first {i : Nat} {oi : Oper} {v : Value} (hi : ops[i]? = some oi) (hz : zs.all (fun z => waits md ops z i) = true) (hsel : ∀ (j : Nat) (o : Oper) cs b, ops[j]? = some o → o.op ≠ .select cs b)
    (hQ : ∀ c a w, Q (.panic c) (a.put oi.dst v) w → Q (.panic c) a w) :
    ∀ (fuel : Nat) (listed : Array Bool) (a : Act) (w : World),
      (∀ j oj, ops[j]? = some oj → j ≠ i → listed.getD j true = false → (∀ e ∈ oj.after, Region.binds md e = true → e.on ≠ i) → oi.apart ops oj = true) →
      i ∈ Region.ready md ops listed → YieldsIf P ops S oi v a → S w →
      wpTs P md ops Q S zs fuel (listed.setIfInBounds i true) (a.put oi.dst v) w → wpTs P md ops Q S zs (fuel + 1) listed a w := by
  intro fuel
  induction fuel with
  | zero =>
    intro listed a w _ hr hy hS H
    refine ⟨fun h => (by rw [h] at hr; cases hr), fun j hj => ?_⟩
    by_cases hji : j = i
    · subst hji; exact hy.wpOp hi hS ⟨fun _ _ => hS, H⟩
    · have := ready_mono hj hji
      rw [H.1] at this
      cases this
  | succ fuel ih =>
    intro listed a w hfree hr hy hS H
    refine ⟨fun h => (by rw [h] at hr; cases hr), fun j hj => ?_⟩
    by_cases hji : j = i
    · subst hji; exact hy.wpOp hi hS ⟨fun _ _ => hS, H⟩
    · obtain ⟨hjun, oj, hoj, hall⟩ := mem_ready.1 hj
      have hnot : ∀ e ∈ oj.after, Region.binds md e = true → e.on ≠ i := fun e he hb heq => by
        have h1 := hall e he hb
        have h0 := (mem_ready.1 hr).1
        rw [heq] at h1
        rcases Nat.lt_or_ge i listed.size with h' | h'
        · simp [h'] at h0 h1; rw [h0] at h1; cases h1
        · simp [Array.getElem?_eq_none h'] at h1
      have hjz : j ∉ zs := fun h => by
        have hz := List.all_eq_true.1 hz j h
        simp only [waits, hoj, Option.map_some, Option.getD_some, Array.any_eq_true', Bool.and_eq_true, beq_iff_eq] at hz
        obtain ⟨e, he, hb, heq⟩ := hz
        exact hnot e he hb heq
      have h2 := wpOp_putIf hoj (hfree j oj hoj hji hjun hnot) (fun cs b => hsel i oi cs b hi) (fun cs b => hsel j oj cs b hoj) hQ hy (H.2 j (ready_mono hj hji))
      refine wpOp_mono (fun a' w' h3 => ⟨h3.2.1, ih (listed.setIfInBounds j true) a' w' (fun k ok hk hki hun hno => hfree k ok hk hki ?_ hno) (ready_mono hr (Ne.symm hji)) h3.1 (h3.2.1 hjz hS) ?_⟩) h2
      · by_cases hjk : j = k
        · subst hjk; exact hjun
        · rw [getD_set_ne true hjk] at hun; exact hun
      · rw [Array.setIfInBounds_comm _ _ hji]
        exact h3.2.2
theorem wpTs_ahead {i : Nat} {oi : Oper} {v : Value} (hi : ops[i]? = some oi) (hsel : ∀ (j : Nat) (o : Oper) cs b, ops[j]? = some o → o.op ≠ .select cs b)
    (hQ : ∀ c a w, Q (.panic c) (a.put oi.dst v) w → Q (.panic c) a w) :
    ∀ (fuel : Nat) (listed : Array Bool) (a : Act) (w : World),
      (∀ j oj, ops[j]? = some oj → j ≠ i → listed.getD j true = false → (∀ e ∈ oj.after, Region.binds md e = true → e.on ≠ i) → oi.apart ops oj = true) →
      i ∈ Region.ready md ops listed → YieldsIf P ops (fun _ => True) oi v a →
      wpTs P md ops Q S zs fuel (listed.setIfInBounds i true) (a.put oi.dst v) w → wpTs P md ops Q S zs (fuel + 1) listed a w := by
  intro fuel
  induction fuel with
  | zero =>
    intro listed a w _ hr hy H
    refine ⟨fun h => (by rw [h] at hr; cases hr), fun j hj => ?_⟩
    by_cases hji : j = i
    · subst hji; exact hy.wpOp hi trivial ⟨fun _ h => h, H⟩
    · have := ready_mono hj hji
      rw [H.1] at this
      cases this
  | succ fuel ih =>
    intro listed a w hfree hr hy H
    refine ⟨fun h => (by rw [h] at hr; cases hr), fun j hj => ?_⟩
    by_cases hji : j = i
    · subst hji; exact hy.wpOp hi trivial ⟨fun _ h => h, H⟩
    · obtain ⟨hjun, oj, hoj, hall⟩ := mem_ready.1 hj
      have hnot : ∀ e ∈ oj.after, Region.binds md e = true → e.on ≠ i := fun e he hb heq => by
        have h1 := hall e he hb
        have h0 := (mem_ready.1 hr).1
        rw [heq] at h1
        rcases Nat.lt_or_ge i listed.size with h' | h'
        · simp [h'] at h0 h1; rw [h0] at h1; cases h1
        · simp [Array.getElem?_eq_none h'] at h1
      have h2 := wpOp_putIf hoj (hfree j oj hoj hji hjun hnot) (fun cs b => hsel i oi cs b hi) (fun cs b => hsel j oj cs b hoj) hQ hy (H.2 j (ready_mono hj hji))
      refine wpOp_mono (fun a' w' h3 => ⟨h3.2.1, ih (listed.setIfInBounds j true) a' w' (fun k ok hk hki hun hno => hfree k ok hk hki ?_ hno) (ready_mono hr (Ne.symm hji)) h3.1 ?_⟩) h2
      · by_cases hjk : j = k
        · subst hjk; exact hjun
        · rw [getD_set_ne true hjk] at hun; exact hun
      · rw [Array.setIfInBounds_comm _ _ hji]
        exact h3.2.2
/-- One that reads no memory. -/
theorem wpTs_pure {i d : Nat} {oi : Oper} {v : Value} {fuel : Nat} {listed : Array Bool} {a : Act} {w : World} (hi : ops[i]? = some oi) (hd : oi.dst = some d)
    (hs : Region.noSelect ops = true) (hf : Region.free md ops listed i = true) (hr : (Region.ready md ops listed).contains i = true)
    (hQ : ∀ c a w, Q (.panic c) (a.put oi.dst v) w → Q (.panic c) a w) (hw : Region.wanted oi (yielded ops a.tmps) = true) (hy : ∀ w, (execOp a.eval oi).run P w = .ok (.value v) w)
    (h : wpTs P md ops Q S zs fuel (listed.setIfInBounds i true) { tmps := a.tmps.setIfInBounds d v, defers := a.defers } w) : wpTs P md ops Q S zs (fuel + 1) listed a w :=
  wpTs_ahead hi (Region.noSelect_spec hs) hQ fuel listed a w (Region.free_spec hi hf) (by simpa using hr) (.inl ⟨hw, fun w _ => hy w⟩) (by rw [hd]; exact h)
theorem wpTs_take {i d : Nat} {oi : Oper} {v : Value} {fuel : Nat} {listed : Array Bool} {a : Act} {w : World} (hi : ops[i]? = some oi) (hd : oi.dst = some d) (hz : zs.all (fun z => waits md ops z i) = true)
    (hs : Region.noSelect ops = true) (hf : Region.free md ops listed i = true) (hr : (Region.ready md ops listed).contains i = true)
    (hQ : ∀ c a w, Q (.panic c) (a.put oi.dst v) w → Q (.panic c) a w) (hw : Region.wanted oi (yielded ops a.tmps) = true) (hy : ∀ w, S w → (execOp a.eval oi).run P w = .ok (.value v) w) (hS : S w)
    (h : wpTs P md ops Q S zs fuel (listed.setIfInBounds i true) { tmps := a.tmps.setIfInBounds d v, defers := a.defers } w) : wpTs P md ops Q S zs (fuel + 1) listed a w :=
  wpTs_first hi hz (Region.noSelect_spec hs) hQ fuel listed a w (Region.free_spec hi hf) (by simpa using hr) (.inl ⟨hw, hy⟩) hS (by rw [hd]; exact h)
theorem wpTs_only {i : Nat} {oi : Oper} {fuel : Nat} {listed : Array Bool} {a : Act} {w : World} (hi : ops[i]? = some oi) (hr : Region.ready md ops listed = [i]) (hz : zs.contains i = true) (hw : Region.wanted oi (yielded ops a.tmps) = true)
    (h : oi.wp P a w (fun a' w' => wpTs P md ops Q S zs fuel (listed.setIfInBounds i true) a' w') Q) : wpTs P md ops Q S zs (fuel + 1) listed a w := by
  refine ⟨fun h0 => absurd (hr.symm.trans h0) (by simp), fun j hj => ?_⟩
  rw [hr] at hj
  obtain rfl := List.mem_singleton.1 hj
  unfold wpOp
  simp only [hi, hw, if_true]
  refine Or.inl ?_
  have hz' : j ∈ zs := by simpa using hz
  unfold Oper.wp at *
  generalize (execOp a.eval oi).run P w = r at *
  cases r with
  | ok n w2 =>
    cases n <;> simp only [Oper.upon] at h ⊢
    case value u => exact ⟨fun e _ => absurd hz' e, h⟩
    case skip => exact ⟨fun e _ => absurd hz' e, h⟩
    case defer d => exact ⟨fun e _ => absurd hz' e, h⟩
    case enter f args =>
      refine Calls.mono h fun e w'' he => ?_
      cases e with
      | returned u => exact ⟨fun e _ => absurd hz' e, he⟩
      | panicked c => exact he
      | outgrown => exact he
    case row row args => exact Rows.mono h fun u w'' he => ⟨fun e _ => absurd hz' e, he⟩
  | halt x w2 =>
    cases x <;> simp only [Oper.upon] at h ⊢
    case panic u => exact h
theorem wp_region_ts {id : Nat} {a : Act} {w : World} (hm : P.follows .mixedOrders = true) (zs : List Nat) (S : World → Prop) (h : wpTs P .any ops Q S zs ops.size (Array.replicate ops.size false) a w.drew) : (Code.region id ops true).wp P Q a w :=
  wp_region_any hm (wpAny_of_ts _ _ _ _ h)
theorem wpTs_done {listed : Array Bool} {a : Act} {w : World} (hr : Region.ready md ops listed = []) (h : Q .normal a w) : ∀ fuel, wpTs P md ops Q S zs fuel listed a w
  | 0 => ⟨hr, h⟩
  | _ + 1 => ⟨fun _ => h, by rw [hr]; simp⟩
end
/-- What a region leaves behind, as one post for all its orders. -/
def Nrm (Φ : Act → World → Prop) (e : Exit) (a : Act) (w : World) : Prop := match e with | .normal => Φ a w | _ => False
theorem wp_via {P : Program} {c : Code} {Q : Exit → Act → World → Prop} {a : Act} {w : World} {act : Nat → Nat → Nat → Nat → Option Addr → Option Addr → Act} (F : Nat → Nat → Nat → Nat → Option Addr → Option Addr → World → Prop)
    (h : c.wp P (Nrm fun a' w' => ∃ p0 p1 k0 k1 a0 a1, a' = act p0 p1 k0 k1 a0 a1 ∧ F p0 p1 k0 k1 a0 a1 w') a w) (hq : ∀ p0 p1 k0 k1 a0 a1 w', F p0 p1 k0 k1 a0 a1 w' → Q .normal (act p0 p1 k0 k1 a0 a1) w') : c.wp P Q a w :=
  Code.wp_mono (fun e a' w' hx => by
    cases e <;> first | exact hx.elim | skip
    obtain ⟨p0, p1, k0, k1, a0, a1, rfl, hf⟩ := hx
    exact hq _ _ _ _ _ _ _ hf) h
/-- A slice of the call's own stays if the change is in other blocks. -/
theorem Own.chg_ne {α : Type} {base : Nat} {e : TypeId} {sz : Nat} {enc : α → List Value} {A B : World} {v : Value} {l : List α} {T : Nat → Prop} (h : Own base e sz enc A v l) (hc : Chg T A B) (hT : ∀ b, v.ownBlock = some b → ¬ T b) : Own base e sz enc B v l := by
  obtain ⟨h1, h2⟩ := h
  refine ⟨h1, ?_⟩
  rcases h2 with h2 | ⟨g, cap, cur, rfl, hb, hh, h3⟩
  · exact .inl h2
  · exact .inr ⟨g, cap, cur, rfl, hb, (hc.block g (Array.getElem?_eq_some_iff.1 hh).1 (hT g rfl)).trans hh, h3⟩
/-- A slice with something in it does not lie in a row with nothing in it. -/
theorem Own.avoid {α : Type} {base : Nat} {e : TypeId} {sz : Nat} {enc : α → List Value} {w : World} {v : Value} {l : List α} (h : Own base e sz enc w v l) (henc : ∀ y, (enc y).length = sz) (hsz : 0 < sz) (hl : l ≠ []) {p : Nat} {t : TypeId} {f : Nat × Nat} (hp : w.heap[p]? = some (.cells #[] t f)) : ∀ b, v.ownBlock = some b → b ≠ p := by
  rintro b hb rfl
  obtain ⟨y, hy⟩ : ∃ y, l[0]? = some y := ⟨_, List.getElem?_eq_getElem (List.length_pos_iff.2 hl)⟩
  obtain ⟨u, hu⟩ : ∃ u, (enc y)[0]? = some u := ⟨_, List.getElem?_eq_getElem (by rw [henc]; exact hsz)⟩
  obtain ⟨a, cap, rfl, -, hor⟩ := h.slLt henc
  rcases hor with h0 | ⟨b', off, rfl, -, hcc⟩
  · exact hl h0
  · have h1 := hcc 0 y hy 0 u hu
    have hbb : b' = b := by
      rcases h.2 with ⟨h2, -⟩ | ⟨g, cap', cur, h2, -⟩
      · cases h2
      · cases h2; simp only [Value.ownBlock, Option.some.injEq] at hb; exact hb
    subst hbb
    simp [World.cell?, hp] at h1
/-- The slice of its own lies in a block from base on. -/
theorem Own.slIn {α : Type} {base : Nat} {e : TypeId} {sz : Nat} {enc : α → List Value} {w : World} {v : Value} {l : List α} (h : Own base e sz enc w v l) (henc : ∀ y, (enc y).length = sz) : Sl sz enc (fun b => base ≤ b ∧ b < w.heap.size) w v l := h.sl henc
/-- A row with nothing in it, behind X. -/
def EmpR (X p : Nat) (e : TypeId) (w : World) : Prop := X < p ∧ w.heap[p]? = some (.cells #[] e (0, 0))
theorem EmpR.grow {X p : Nat} {e : TypeId} {w w' : World} (h : EmpR X p e w) (hb : Below w.heap.size w w') : EmpR X p e w' := ⟨h.1, (hb.block p (Array.getElem?_eq_some_iff.1 h.2).1).trans h.2⟩
theorem EmpR.chg {X p : Nat} {e : TypeId} {w w' : World} {T : Nat → Prop} (h : EmpR X p e w) (hc : Chg T w w') (hT : ¬ T p) : EmpR X p e w' := ⟨h.1, (hc.block p (Array.getElem?_eq_some_iff.1 h.2).1 hT).trans h.2⟩
theorem EmpR.lt {X p : Nat} {e : TypeId} {w : World} (h : EmpR X p e w) : p < w.heap.size := (Array.getElem?_eq_some_iff.1 h.2).1
theorem EmpR.own {α : Type} {X p : Nat} {e : TypeId} {sz : Nat} {enc : α → List Value} {w : World} (h : EmpR X p e w) : Own (X + 1) e sz enc w (.slice (some ⟨p, 0, none⟩) 0 0) ([] : List α) :=
  ⟨by simp, .inr ⟨p, 0, #[], rfl, h.1, h.2, Nat.le_refl _, by unfold maxLen; omega, by simp, by simp⟩⟩
theorem EmpR.new {X : Nat} (w : World) (e : TypeId) (h : X < w.heap.size) : EmpR X w.heap.size e (w.alloc (.cells #[] e)) := ⟨h, heap_new _ _⟩
theorem EmpR.block {X p : Nat} {e : TypeId} {w : World} (_ : EmpR X p e w) : ∀ b, Value.ownBlock (.slice (some ⟨p, 0, none⟩) 0 0) = some b → b = p := fun b hb => by simpa [Value.ownBlock] using hb.symm
theorem chg_emp {A B : World} {p : Nat} (h : A.grownBy B (Value.ownBlock (.slice (some ⟨p, 0, none⟩) 0 0))) : Chg (fun b => b = p) A B := (chg_grown h).mono fun b hb => by simpa [Value.ownBlock] using hb.symm
theorem row_chg {A B : World} {T : Nat → Prop} {x : Nat} {o : Obj} (h : A.heap[x]? = some o) (hc : Chg T A B) (hT : ¬ T x) : B.heap[x]? = some o := (hc.block x (Array.getElem?_eq_some_iff.1 h).1 hT).trans h
theorem row_below {A B : World} {n x : Nat} {o : Obj} (h : A.heap[x]? = some o) (hc : Below n A B) (hx : x < n) : B.heap[x]? = some o := (hc.block x hx).trans h
theorem row_grow {A B : World} {x : Nat} {o : Obj} (h : A.heap[x]? = some o) (hc : Below A.heap.size A B) : B.heap[x]? = some o := row_below h hc (Array.getElem?_eq_some_iff.1 h).1
/-- Slices of two types lie in two blocks. -/
theorem Own.apart {α β : Type} {base base' : Nat} {e e' : TypeId} {sz sz' : Nat} {enc : α → List Value} {enc' : β → List Value} {w : World} {v v' : Value} {l : List α} {l' : List β} (h : Own base e sz enc w v l) (h' : Own base' e' sz' enc' w v' l') (hne : e ≠ e') : ∀ b, v.ownBlock = some b → v'.ownBlock ≠ some b := by
  intro b hb hb'
  rcases h.2 with ⟨rfl, -⟩ | ⟨g, cap, cur, rfl, -, hh, -⟩
  · simp [Value.ownBlock] at hb
  · rcases h'.2 with ⟨rfl, -⟩ | ⟨g', cap', cur', rfl, -, hh', -⟩
    · simp [Value.ownBlock] at hb'
    · simp only [Value.ownBlock, Option.some.injEq] at hb hb'
      subst hb; subst hb'
      rw [hh] at hh'
      simp only [Option.some.injEq, Obj.cells.injEq] at hh'
      exact hne hh'.2.1
theorem rranges_under : Try.prog.underlying 22 = some (.slice 66) := by kernel_rfl
theorem infoRRange : (Try.prog.info? 66).map (fun i => (i.zero, i.size, i.bytes)) = some (some (.agg #[.int .i64 0, .int .i64 0]), 2, 16) := by kernel_rfl
end Go.Proofs.Ytjddcaimjofihaa
