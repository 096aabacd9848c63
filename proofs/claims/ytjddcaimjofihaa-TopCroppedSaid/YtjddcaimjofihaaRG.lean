/- Regions that draw their order: an operation that yields one value and only makes memory, a call too, is taken first; no condition. -/
import Derived.Test.YtjddcaimjofihaaB0
namespace Go.Proofs.Ytjddcaimjofihaa
open Go.RowKit

section
variable {P : Program} {md : Region.Mode} {ops : Array Oper} {Q : Exit → Act → World → Prop} {S : World → Prop}

/-- What an operation does in a world: it yields v, makes memory at most, and leaves S. -/
def GrowRun (P : Program) (S : World → Prop) (v : Value) (w : World) : Result Next → Prop
  | .ok (.value u) w' => u = v ∧ Below w.heap.size w w' ∧ S w'
  | .ok (.enter f args) w' => Calls P f args w' fun e w'' => e = .returned v ∧ Below w.heap.size w w'' ∧ S w''
  | _ => False

/-- It does so in every world that meets S, or it is not wanted. -/
def YG (P : Program) (ops : Array Oper) (S : World → Prop) (o : Oper) (v : Value) (a : Act) : Prop :=
  (Region.wanted o (yielded ops a.tmps) = true ∧ ∀ w, S w → GrowRun P S v w ((execOp a.eval o).run P w)) ∨ (Region.wanted o (yielded ops a.tmps) = false ∧ v = undef)

theorem YG.of_same {o : Oper} {v : Value} {a a' : Act} (hy : YG P ops S o v a) (he : execOp a'.eval o = execOp a.eval o) (hw : Region.wanted o (yielded ops a'.tmps) = Region.wanted o (yielded ops a.tmps)) : YG P ops S o v a' := by
  unfold YG at *
  rw [he, hw]
  exact hy

/-- What comes up next is met in whatever world that has grown. Behind number z, which waits for all others, nothing is left. -/
def wpG (P : Program) (md : Region.Mode) (ops : Array Oper) (Q : Exit → Act → World → Prop) (S : World → Prop) (z : Nat) : Nat → Array Bool → Act → World → Prop
  | 0, listed, a, w => Region.ready md ops listed = [] ∧ ∀ w', Below w.heap.size w w' → S w' → Q .normal a w'
  | fuel + 1, listed, a, w => ∀ w', Below w.heap.size w w' → S w' → (Region.ready md ops listed = [] → Q .normal a w') ∧
    ∀ i ∈ Region.ready md ops listed, wpOp P ops Q i (fun a' w'' => (i = z → Region.ready md ops (listed.setIfInBounds i true) = [] ∧ Q .normal a' w'') ∧ (i ≠ z → S w'' ∧ wpG P md ops Q S z fuel (listed.setIfInBounds i true) a' w'')) a w'
/-- Number z waits for number i, or there is no number z. -/
def waitsZ (md : Region.Mode) (ops : Array Oper) (z i : Nat) : Bool := ((ops[z]?).map (·.after.any fun e => Region.binds md e && e.on == i)).getD true
theorem waitsZ_ne {z i j : Nat} {listed : Array Bool} (hz : waitsZ md ops z i = true) (hi : i ∈ Region.ready md ops listed) (hj : j ∈ Region.ready md ops listed) : j ≠ z := by
  rintro rfl
  obtain ⟨_, oj, hoj, hall⟩ := mem_ready.1 hj
  unfold waitsZ at hz
  rw [hoj] at hz
  simp only [Option.map_some, Option.getD_some, Array.any_eq_true] at hz
  obtain ⟨k, hk, he⟩ := hz
  simp only [Bool.and_eq_true, beq_iff_eq] at he
  have h1 := hall _ (Array.getElem_mem hk) he.1
  have h0 := (mem_ready.1 hi).1
  rw [he.2] at h1
  rcases Nat.lt_or_ge i listed.size with h' | h'
  · simp [h'] at h0 h1; rw [h0] at h1; cases h1
  · simp [Array.getElem?_eq_none h'] at h1

theorem wpG_grow {z : Nat} : ∀ {fuel : Nat} {listed : Array Bool} {a : Act} {w w1 : World}, wpG P md ops Q S z fuel listed a w → Below w.heap.size w w1 → wpG P md ops Q S z fuel listed a w1
  | 0, _, _, _, _, h, hb => ⟨h.1, fun w' h1 h2 => h.2 w' (hb.trans (h1.mono hb.size)) h2⟩
  | _ + 1, _, _, _, _, h, hb => fun w' h1 h2 => h w' (hb.trans (h1.mono hb.size)) h2

theorem wpAny_end {fuel : Nat} {listed : Array Bool} {a : Act} {w : World} (h : Region.ready md ops listed = []) (hq : Q .normal a w) : wpAny P md ops Q fuel listed a w := by
  cases fuel with
  | zero => exact ⟨h, hq⟩
  | succ fuel => exact ⟨fun _ => hq, by rw [h]; simp⟩
theorem wpAny_of_grow {z : Nat} : ∀ (fuel : Nat) (listed : Array Bool) (a : Act) (w : World), S w → wpG P md ops Q S z fuel listed a w → wpAny P md ops Q fuel listed a w
  | 0, _, _, w, hS, h => ⟨h.1, h.2 w (Below.refl _ _) hS⟩
  | fuel + 1, _, _, w, hS, h => ⟨(h w (Below.refl _ _) hS).1, fun i hi => wpOp_mono (fun a' w' h' => by
      by_cases e : i = z
      · exact wpAny_end (h'.1 e).1 (h'.1 e).2
      · exact wpAny_of_grow fuel _ a' w' (h'.2 e).1 (h'.2 e).2) ((h w (Below.refl _ _) hS).2 i hi)⟩

/-- Another operation, apart from this one, may come up ahead of it. -/
theorem wpOp_apart {j : Nat} {oi oj : Oper} {v : Value} (hj : ops[j]? = some oj) (hap : oi.apart ops oj = true) (hsi : ∀ cs b, oi.op ≠ .select cs b) (hsj : ∀ cs b, oj.op ≠ .select cs b)
    (hQ : ∀ c a w, Q (.panic c) (a.put oi.dst v) w → Q (.panic c) a w) {K : Act → World → Prop} {a : Act} {w : World}
    (hy : YG P ops S oi v a) (h : wpOp P ops Q j K (a.put oi.dst v) w) : wpOp P ops Q j (fun a' w' => YG P ops S oi v a' ∧ K (a'.put oi.dst v) w') a w := by
  obtain ⟨h1, h2, h3⟩ := Oper.apart_spec hap
  have keep : ∀ (b : Act), YG P ops S oi v b → ∀ u, YG P ops S oi v (b.put oj.dst u) := fun b hb u => hb.of_same (execOp_put oi hsi b oj.dst u h3) (wanted_put oi b oj.dst u h3)
  have keepD : ∀ d, YG P ops S oi v { a with defers := d :: a.defers } := fun d => hy.of_same rfl rfl
  have done : ∀ (u : Value) (w' : World), K ((a.put oi.dst v).put oj.dst u) w' → YG P ops S oi v (a.put oj.dst u) ∧ K ((a.put oj.dst u).put oi.dst v) w' := fun u w' hk => ⟨keep a hy u, by rw [← Act.put_comm a v u h2]; exact hk⟩
  unfold wpOp at *
  simp only [hj] at *
  rw [wanted_put oj a oi.dst v h1] at h
  by_cases hw : Region.wanted oj (yielded ops a.tmps) = true
  · simp only [hw, if_true] at h ⊢
    rcases h with h | ⟨hasks, hlets⟩
    · refine .inl ?_
      unfold Oper.wp at *
      rw [execOp_put oj hsj a oi.dst v h1] at h
      generalize (execOp a.eval oj).run P w = r at *
      cases r with
      | ok n w' =>
        cases n <;> simp only [Oper.upon] at h ⊢
        case value u => exact done u w' h
        case skip => exact done _ w' h
        case defer d => exact ⟨keep _ (keepD d) _, by rw [← Act.put_comm _ v undef h2, ← Act.put_defers]; exact h⟩
        case enter f args =>
          refine Calls.mono h fun e w'' he => ?_
          cases e with
          | returned u => exact done u w'' he
          | panicked c => exact hQ _ _ _ he
          | outgrown => exact he
        case row row args => exact Rows.mono h fun u w'' he => done u w'' he
      | halt x w' =>
        cases x <;> simp only [Oper.upon] at h ⊢
        case panic u => exact hQ _ _ _ h
    · exact .inr ⟨by unfold Oper.asks at *; rw [execOp_put oj hsj a oi.dst v h1] at hasks; exact hasks, hlets⟩
  · simp only [hw] at h ⊢
    exact done _ w h

theorem YG.wpOp {i : Nat} {o : Oper} {v : Value} {a : Act} (hi : ops[i]? = some o) (hy : YG P ops S o v a) {K : Act → World → Prop} {w : World} (hS : S w) (h : ∀ w', Below w.heap.size w w' → S w' → K (a.put o.dst v) w') : wpOp P ops Q i K a w := by
  unfold Go.wpOp
  simp only [hi]
  rcases hy with ⟨hw, hv⟩ | ⟨hw, rfl⟩
  · simp only [hw, if_true]
    refine .inl ?_
    have hv := hv w hS
    unfold Oper.wp
    generalize (execOp a.eval o).run P w = r at *
    cases r with
    | ok n w' =>
      cases n <;> simp only [GrowRun] at hv
      case value u =>
        obtain ⟨rfl, hb, hs⟩ := hv
        exact h w' hb hs
      case enter f args =>
        refine Calls.mono hv fun e w'' he => ?_
        obtain ⟨rfl, hb, hs⟩ := he
        exact h w'' hb hs
    | halt x w' => simp only [GrowRun] at hv
  · simp only [hw, Bool.false_eq_true, if_false]
    exact h w (Below.refl _ _) hS

theorem wpG_first {z i : Nat} {oi : Oper} {v : Value} (hi : ops[i]? = some oi) (hz : waitsZ md ops z i = true) (hsel : ∀ (j : Nat) (o : Oper) cs b, ops[j]? = some o → o.op ≠ .select cs b) (hQ : ∀ c a w, Q (.panic c) (a.put oi.dst v) w → Q (.panic c) a w) :
    ∀ (fuel : Nat) (listed : Array Bool) (a : Act) (w : World),
      (∀ j oj, ops[j]? = some oj → j ≠ i → listed.getD j true = false → (∀ e ∈ oj.after, Region.binds md e = true → e.on ≠ i) → oi.apart ops oj = true) →
      i ∈ Region.ready md ops listed → YG P ops S oi v a →
      wpG P md ops Q S z fuel (listed.setIfInBounds i true) (a.put oi.dst v) w → wpG P md ops Q S z (fuel + 1) listed a w := by
  intro fuel
  induction fuel with
  | zero =>
    intro listed a w _ hr hy H w' hb hS
    refine ⟨fun h => (by rw [h] at hr; cases hr), fun j hj => ?_⟩
    have hne := waitsZ_ne hz hr hj
    by_cases hji : j = i
    · subst hji; exact hy.wpOp hi hS fun w2 hb2 hS2 => ⟨fun e => absurd e hne, fun _ => ⟨hS2, wpG_grow H (hb.trans (hb2.mono hb.size))⟩⟩
    · have := ready_mono hj hji
      rw [H.1] at this
      cases this
  | succ fuel ih =>
    intro listed a w hfree hr hy H w' hb hS
    refine ⟨fun h => (by rw [h] at hr; cases hr), fun j hj => ?_⟩
    have hne := waitsZ_ne hz hr hj
    by_cases hji : j = i
    · subst hji; exact hy.wpOp hi hS fun w2 hb2 hS2 => ⟨fun e => absurd e hne, fun _ => ⟨hS2, wpG_grow H (hb.trans (hb2.mono hb.size))⟩⟩
    · have h1 := (H w' hb hS).2 j (ready_mono hj hji)
      obtain ⟨hjun, oj, hoj, hall⟩ := mem_ready.1 hj
      have hnot : ∀ e ∈ oj.after, Region.binds md e = true → e.on ≠ i := fun e he hbd heq => by
        have h1 := hall e he hbd
        have h0 := (mem_ready.1 hr).1
        rw [heq] at h1
        rcases Nat.lt_or_ge i listed.size with h' | h'
        · simp [h'] at h0 h1; rw [h0] at h1; cases h1
        · simp [Array.getElem?_eq_none h'] at h1
      have h2 := wpOp_apart hoj (hfree j oj hoj hji hjun hnot) (fun cs b => hsel i oi cs b hi) (fun cs b => hsel j oj cs b hoj) hQ hy h1
      have hfree' : ∀ k ok, ops[k]? = some ok → k ≠ i → (listed.setIfInBounds j true).getD k true = false → (∀ e ∈ ok.after, Region.binds md e = true → e.on ≠ i) → oi.apart ops ok = true := fun k ok hk hki hun hno => by
        refine hfree k ok hk hki ?_ hno
        by_cases hjk : j = k
        · subst hjk; exact hjun
        · rw [getD_set_ne true hjk] at hun; exact hun
      refine wpOp_mono (fun a' w' h3 => ⟨fun e => absurd e hne, fun _ => ⟨(h3.2.2 hne).1, ih (listed.setIfInBounds j true) a' w' hfree' (ready_mono hr (Ne.symm hji)) h3.1 ?_⟩⟩) h2
      rw [Array.setIfInBounds_comm _ _ hji]
      exact (h3.2.2 hne).2

theorem grow_value {r : Result Next} {v : Value} {w : World} (h : r = .ok (.value v) w) (hS : S w) : GrowRun P S v w r := by
  subst h; exact ⟨rfl, Below.refl _ _, hS⟩
theorem grow_call {r : Result Next} {v : Value} {w : World} {f : FuncId} {args : Array Value} (h : r = .ok (.enter f args) w) (hc : Calls P f args w fun e w' => e = .returned v ∧ Below w.heap.size w w' ∧ S w') : GrowRun P S v w r := by
  subst h; exact hc
/-- A call that makes memory, where S is kept. -/
theorem grow_make {r : Result Next} {v : Value} {w : World} {f : FuncId} {args : Array Value} (h : r = .ok (.enter f args) w) (hS : S w) (HG : ∀ a b, S a → Below a.heap.size a b → S b) (hc : Calls P f args w fun e w' => e = .returned v ∧ Below w.heap.size w w') : GrowRun P S v w r :=
  grow_call h (hc.mono fun _ w' ⟨he, hb⟩ => ⟨he, hb, HG w w' hS hb⟩)
theorem grow_keep {r : Result Next} {v : Value} {w : World} {f : FuncId} {args : Array Value} (h : r = .ok (.enter f args) w) (hS : S w) (hc : Calls P f args w fun e w' => e = .returned v ∧ w = w') : GrowRun P S v w r :=
  grow_call h (hc.mono fun _ _ ⟨he, hb⟩ => ⟨he, hb ▸ Below.refl _ _, hb ▸ hS⟩)

/-- Take number i first: it yields v and makes memory at most, in every world that meets S. -/
theorem wpG_take {i : Nat} {oi : Oper} {z d : Nat} {v : Value} {fuel : Nat} {listed : Array Bool} {a : Act} {w : World} (hi : ops[i]? = some oi) (hd : oi.dst = some d) (hz : waitsZ md ops z i = true)
    (hs : Region.noSelect ops = true) (hf : Region.free md ops listed i = true) (hr : (Region.ready md ops listed).contains i = true)
    (hQ : ∀ c a w, Q (.panic c) (a.put oi.dst v) w → Q (.panic c) a w) (hw : Region.wanted oi (yielded ops a.tmps) = true) (hy : ∀ w, S w → GrowRun P S v w ((execOp a.eval oi).run P w))
    (h : wpG P md ops Q S z fuel (listed.setIfInBounds i true) { tmps := a.tmps.setIfInBounds d v, defers := a.defers } w) : wpG P md ops Q S z (fuel + 1) listed a w :=
  wpG_first hi hz (Region.noSelect_spec hs) hQ fuel listed a w (Region.free_spec hi hf) (by simpa using hr) (.inl ⟨hw, hy⟩) (by rw [hd]; exact h)
/-- Its guard says no. -/
theorem wpG_skip {i : Nat} {oi : Oper} {z d : Nat} {fuel : Nat} {listed : Array Bool} {a : Act} {w : World} (hi : ops[i]? = some oi) (hd : oi.dst = some d) (hz : waitsZ md ops z i = true)
    (hs : Region.noSelect ops = true) (hf : Region.free md ops listed i = true) (hr : (Region.ready md ops listed).contains i = true)
    (hQ : ∀ c a w, Q (.panic c) (a.put oi.dst undef) w → Q (.panic c) a w) (hw : Region.wanted oi (yielded ops a.tmps) = false)
    (h : wpG P md ops Q S z fuel (listed.setIfInBounds i true) { tmps := a.tmps.setIfInBounds d undef, defers := a.defers } w) : wpG P md ops Q S z (fuel + 1) listed a w :=
  wpG_first hi hz (Region.noSelect_spec hs) hQ fuel listed a w (Region.free_spec hi hf) (by simpa using hr) (.inr ⟨hw, rfl⟩) (by rw [hd]; exact h)
/-- Number i alone may come up. -/
theorem wpG_only {i : Nat} {oi : Oper} {z fuel : Nat} {listed : Array Bool} {a : Act} {w : World} (hi : ops[i]? = some oi) (hz : (i == z) = false) (hr : Region.ready md ops listed = [i]) (hw : Region.wanted oi (yielded ops a.tmps) = true)
    (h : ∀ w', Below w.heap.size w w' → S w' → oi.wp P a w' (fun a' w'' => S w'' ∧ wpG P md ops Q S z fuel (listed.setIfInBounds i true) a' w'') Q) : wpG P md ops Q S z (fuel + 1) listed a w := by
  intro w' hb hS
  rw [hr]
  refine ⟨fun h0 => absurd h0 (by simp), fun j hj => ?_⟩
  obtain rfl := List.mem_singleton.1 hj
  have hne : j ≠ z := by simpa using hz
  unfold wpOp
  simp only [hi, hw, if_true]
  refine .inl ?_
  have h1 := h w' hb hS
  unfold Oper.wp at *
  generalize (execOp a.eval oi).run P w' = r at *
  cases r with
  | ok n w2 =>
    cases n <;> simp only [Oper.upon] at h1 ⊢
    case value u => exact ⟨fun e => absurd e hne, fun _ => h1⟩
    case skip => exact ⟨fun e => absurd e hne, fun _ => h1⟩
    case defer d => exact ⟨fun e => absurd e hne, fun _ => h1⟩
    case enter f args =>
      refine Calls.mono h1 fun e w'' he => ?_
      cases e with
      | returned u => exact ⟨fun e => absurd e hne, fun _ => he⟩
      | panicked c => exact he
      | outgrown => exact he
    case row row args => exact Rows.mono h1 fun u w'' he => ⟨fun e => absurd e hne, fun _ => he⟩
  | halt x w2 =>
    cases x <;> simp only [Oper.upon] at h1 ⊢
    case panic u => exact h1
/-- The last one. -/
theorem wpG_last {oi : Oper} {z fuel : Nat} {listed : Array Bool} {a : Act} {w : World} (hi : ops[z]? = some oi) (hr : Region.ready md ops listed = [z]) (he : Region.ready md ops (listed.setIfInBounds z true) = []) (hw : Region.wanted oi (yielded ops a.tmps) = true)
    (h : ∀ w', Below w.heap.size w w' → S w' → oi.wp P a w' (fun a' w'' => Q .normal a' w'') Q) : wpG P md ops Q S z (fuel + 1) listed a w := by
  intro w' hb hS
  rw [hr]
  refine ⟨fun h0 => absurd h0 (by simp), fun j hj => ?_⟩
  obtain rfl := List.mem_singleton.1 hj
  unfold wpOp
  simp only [hi, hw, if_true]
  refine .inl ?_
  have h1 := h w' hb hS
  unfold Oper.wp at *
  generalize (execOp a.eval oi).run P w' = r at *
  cases r with
  | ok n w2 =>
    cases n <;> simp only [Oper.upon] at h1 ⊢
    case value u => exact ⟨fun _ => ⟨he, h1⟩, fun e => absurd rfl e⟩
    case skip => exact ⟨fun _ => ⟨he, h1⟩, fun e => absurd rfl e⟩
    case defer d => exact ⟨fun _ => ⟨he, h1⟩, fun e => absurd rfl e⟩
    case enter f args =>
      refine Calls.mono h1 fun e w'' hx => ?_
      cases e with
      | returned u => exact ⟨fun _ => ⟨he, hx⟩, fun e => absurd rfl e⟩
      | panicked c => exact hx
      | outgrown => exact hx
    case row row args => exact Rows.mono h1 fun u w'' hx => ⟨fun _ => ⟨he, hx⟩, fun e => absurd rfl e⟩
  | halt x w2 =>
    cases x <;> simp only [Oper.upon] at h1 ⊢
    case panic u => exact h1
theorem wpG_done {z : Nat} {listed : Array Bool} {a : Act} {w : World} (hr : Region.ready md ops listed = []) (h : ∀ w', Below w.heap.size w w' → S w' → Q .normal a w') : ∀ fuel, wpG P md ops Q S z fuel listed a w
  | 0 => ⟨hr, h⟩
  | _ + 1 => fun w' hb hS => ⟨fun _ => h w' hb hS, by rw [hr]; simp⟩
/-- The beginning. -/
theorem wp_region_grow {id : Nat} {a : Act} {w : World} (hm : P.follows .mixedOrders = true) (z : Nat) (S : World → Prop) (hS : S w.drew)
    (h : wpG P .any ops Q S z ops.size (Array.replicate ops.size false) a w.drew) : (Code.region id ops true).wp P Q a w :=
  wp_region_any hm (wpAny_of_grow _ _ _ _ hS h)
end
theorem chg_grown {A B : World} {row : Option Nat} (h : A.grownBy B row) : Chg (fun b => row = some b) A B := ⟨h.os, h.tape, h.output, h.size, fun b hb hn => h.block b hb (fun e => hn e.symm)⟩
theorem Chg.cell {T : Nat → Prop} {A B : World} (h : Chg T A B) {b o : Nat} (hb : b < A.heap.size) (hT : ¬ T b) : B.cell? ⟨b, o, none⟩ = A.cell? ⟨b, o, none⟩ := World.cell?_of_block (a := ⟨b, o, none⟩) (h.block b hb hT)
theorem chg_grow {T : Nat → Prop} (D : World) : ∀ a b : World, Chg T D a → Below a.heap.size a b → Chg T D b := fun _ _ h k => h.trans (chg_of_below k)
theorem below_grow (D : World) : ∀ a b : World, Below D.heap.size D a → Below a.heap.size a b → Below D.heap.size D b := fun _ _ h k => below_after h k (Nat.le_refl _)
end Go.Proofs.Ytjddcaimjofihaa
