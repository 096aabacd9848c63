/- Regions that draw their order: two or three operations that make memory may come up in any order; what they yield meets a predicate that later worlds keep; no condition. -/
import Derived.Test.YtjddcaimjofihaaRG
namespace Go.Proofs.Ytjddcaimjofihaa
open Go.RowKit

section
variable {P : Program} {md : Region.Mode} {ops : Array Oper} {Q : Exit → Act → World → Prop} {S : World → Prop}

/-- What an operation does in a world: what it yields meets Φ, it makes memory at most, and leaves S. -/
def GrowRunE (P : Program) (S : World → Prop) (Φ : Value → World → Prop) (w : World) : Result Next → Prop
  | .ok (.value u) w' => Below w.heap.size w w' ∧ S w' ∧ Φ u w'
  | .ok (.enter f args) w' => Calls P f args w' fun e w'' => ∃ u, e = .returned u ∧ Below w.heap.size w w'' ∧ S w'' ∧ Φ u w''
  | _ => False
/-- It does so in every world that meets T. -/
def YE (P : Program) (ops : Array Oper) (S T : World → Prop) (o : Oper) (a : Act) (Φ : Value → World → Prop) : Prop :=
  Region.wanted o (yielded ops a.tmps) = true ∧ ∀ w, T w → GrowRunE P S Φ w ((execOp a.eval o).run P w)
theorem YE.put {T : World → Prop} {Φ : Value → World → Prop} {oi oj : Oper} {a : Act} (hap : oi.apart ops oj = true) (hsi : ∀ cs b, oi.op ≠ .select cs b) (hy : YE P ops S T oi a Φ) (u : Value) : YE P ops S T oi (a.put oj.dst u) Φ := by
  obtain ⟨-, -, h3⟩ := Oper.apart_spec hap
  unfold YE at *
  rw [execOp_put oi hsi a oj.dst u h3, wanted_put oi a oj.dst u h3]
  exact hy
theorem YE.sub {T T' : World → Prop} {Φ : Value → World → Prop} {oi : Oper} {a : Act} (hy : YE P ops S T oi a Φ) (h : ∀ w, T' w → T w) : YE P ops S T' oi a Φ := ⟨hy.1, fun w hw => hy.2 w (h w hw)⟩
theorem YE.wpOp {T : World → Prop} {Φ : Value → World → Prop} {i : Nat} {o : Oper} {a : Act} (hi : ops[i]? = some o) (hy : YE P ops S T o a Φ) {K : Act → World → Prop} {w : World} (hT : T w) (h : ∀ u w', Below w.heap.size w w' → S w' → Φ u w' → K (a.put o.dst u) w') : wpOp P ops Q i K a w := by
  unfold Go.wpOp
  obtain ⟨hw, hv⟩ := hy
  simp only [hi, hw, if_true]
  refine .inl ?_
  have hv := hv w hT
  unfold Oper.wp
  generalize (execOp a.eval o).run P w = r at *
  cases r with
  | ok n w' =>
    cases n <;> simp only [GrowRunE] at hv
    case value u => exact h u w' hv.1 hv.2.1 hv.2.2
    case enter f args =>
      refine Calls.mono hv fun e w'' he => ?_
      obtain ⟨u, rfl, hb, hs, hp⟩ := he
      exact h u w'' hb hs hp
  | halt x w' => simp only [GrowRunE] at hv
theorem grow_valueE {Φ : Value → World → Prop} {r : Result Next} {v : Value} {w w' : World} (h : r = .ok (.value v) w') (hb : Below w.heap.size w w') (hS : S w') (hv : Φ v w') : GrowRunE P S Φ w r := by
  subst h; exact ⟨hb, hS, hv⟩
theorem grow_callE {Φ : Value → World → Prop} {r : Result Next} {w : World} {f : FuncId} {args : Array Value} (h : r = .ok (.enter f args) w) (hc : Calls P f args w fun e w' => ∃ u, e = .returned u ∧ Below w.heap.size w w' ∧ S w' ∧ Φ u w') : GrowRunE P S Φ w r := by
  subst h; exact hc

/-- Numbers i and j may come up, in any order, and nothing else ahead of both. -/
theorem wpG_pair {i j di dj : Nat} {oi oj : Oper} {z fuel : Nat} {listed : Array Bool} {a : Act} {w : World} {Φ Ψ : Value → World → Prop} (hi : ops[i]? = some oi) (hj : ops[j]? = some oj) (hdi : oi.dst = some di) (hdj : oj.dst = some dj)
    (hzi : (i == z) = false) (hzj : (j == z) = false) (hij : (i == j) = false) (hs : Region.noSelect ops = true) (hap : (oi.apart ops oj && oj.apart ops oi) = true)
    (hr : Region.ready md ops listed = [i, j]) (hr1 : Region.ready md ops (listed.setIfInBounds i true) = [j]) (hr2 : Region.ready md ops (listed.setIfInBounds j true) = [i])
    (hy1 : YE P ops S (fun w' => Below w.heap.size w w' ∧ S w') oi a Φ) (hy2 : YE P ops S (fun w' => Below w.heap.size w w' ∧ S w') oj a Ψ)
    (hst1 : ∀ u a b, Φ u a → Below a.heap.size a b → Φ u b) (hst2 : ∀ u a b, Ψ u a → Below a.heap.size a b → Ψ u b)
    (h : ∀ u v w', Below w.heap.size w w' → S w' → Φ u w' → Ψ v w' → wpG P md ops Q S z fuel ((listed.setIfInBounds i true).setIfInBounds j true) { tmps := (a.tmps.setIfInBounds di u).setIfInBounds dj v, defers := a.defers } w') :
    wpG P md ops Q S z (fuel + 1 + 1) listed a w := by
  have hni : i ≠ z := by simpa using hzi
  have hnj : j ≠ z := by simpa using hzj
  have hnij : i ≠ j := by simpa using hij
  obtain ⟨ha1, ha2⟩ : oi.apart ops oj = true ∧ oj.apart ops oi = true := by simpa using hap
  have hsi := Region.noSelect_spec hs i oi
  have hsj := Region.noSelect_spec hs j oj
  have hcomm := (Oper.apart_spec ha1).2.1
  intro w' hb hS
  rw [hr]
  refine ⟨fun h0 => absurd h0 (by simp), fun k hk => ?_⟩
  rcases (by simpa using hk : k = i ∨ k = j) with rfl | rfl
  · refine YE.wpOp hi hy1 ⟨hb, hS⟩ fun u w1 hb1 hS1 hp1 => ⟨fun e => absurd e hni, fun _ => ⟨hS1, fun w2 hb2 hS2 => ?_⟩⟩
    rw [hr1]
    refine ⟨fun h0 => absurd h0 (by simp), fun q hq => ?_⟩
    obtain rfl := List.mem_singleton.1 hq
    have hb12 : Below w.heap.size w w2 := below_after (below_after hb hb1 (Nat.le_refl _)) hb2 (Nat.le_refl _)
    refine YE.wpOp hj (hy2.put ha2 (fun cs b => hsj cs b hj) u) ⟨hb12, hS2⟩ fun v w3 hb3 hS3 hp3 => ⟨fun e => absurd e hnj, fun _ => ⟨hS3, ?_⟩⟩
    have := h u v w3 (below_after hb12 hb3 (Nat.le_refl _)) hS3 (hst1 u w1 w3 hp1 (below_after hb2 hb3 (Nat.le_refl _))) hp3
    rw [hdi, hdj]
    exact this
  · refine YE.wpOp hj hy2 ⟨hb, hS⟩ fun v w1 hb1 hS1 hp1 => ⟨fun e => absurd e hnj, fun _ => ⟨hS1, fun w2 hb2 hS2 => ?_⟩⟩
    rw [hr2]
    refine ⟨fun h0 => absurd h0 (by simp), fun q hq => ?_⟩
    obtain rfl := List.mem_singleton.1 hq
    have hb12 : Below w.heap.size w w2 := below_after (below_after hb hb1 (Nat.le_refl _)) hb2 (Nat.le_refl _)
    refine YE.wpOp hi (hy1.put ha1 (fun cs b => hsi cs b hi) v) ⟨hb12, hS2⟩ fun u w3 hb3 hS3 hp3 => ⟨fun e => absurd e hni, fun _ => ⟨hS3, ?_⟩⟩
    have := h u v w3 (below_after hb12 hb3 (Nat.le_refl _)) hS3 hp3 (hst2 v w1 w3 hp1 (below_after hb2 hb3 (Nat.le_refl _)))
    rw [← Act.put_comm a u v hcomm, hdi, hdj, Array.setIfInBounds_comm _ _ (Ne.symm hnij)]
    exact this
/-- What YE asks, in a world that has grown. -/
theorem YE.later {w w1 : World} {Φ : Value → World → Prop} {oi : Oper} {a : Act} (hy : YE P ops S (fun w' => Below w.heap.size w w' ∧ S w') oi a Φ) (hb : Below w.heap.size w w1) : YE P ops S (fun w' => Below w1.heap.size w1 w' ∧ S w') oi a Φ :=
  hy.sub fun _ h => ⟨below_after hb h.1 (Nat.le_refl _), h.2⟩
/-- Numbers i, j and k may come up, in any order, and nothing else ahead of all. -/
theorem wpG_tri {i j k di dj dk : Nat} {oi oj ok : Oper} {z fuel : Nat} {listed : Array Bool} {a : Act} {w : World} {Φ Ψ Χ : Value → World → Prop} (hi : ops[i]? = some oi) (hj : ops[j]? = some oj) (hk : ops[k]? = some ok) (hdi : oi.dst = some di) (hdj : oj.dst = some dj) (hdk : ok.dst = some dk)
    (hz : ((i == z) || (j == z) || (k == z) || (i == j) || (i == k) || (j == k)) = false) (hs : Region.noSelect ops = true) (hap : (oi.apart ops oj && oj.apart ops oi && oi.apart ops ok && ok.apart ops oi && oj.apart ops ok && ok.apart ops oj) = true)
    (hr : Region.ready md ops listed = [i, j, k])
    (hr1 : Region.ready md ops (listed.setIfInBounds i true) = [j, k]) (hr2 : Region.ready md ops (listed.setIfInBounds j true) = [i, k]) (hr3 : Region.ready md ops (listed.setIfInBounds k true) = [i, j])
    (hr12 : Region.ready md ops ((listed.setIfInBounds i true).setIfInBounds j true) = [k]) (hr13 : Region.ready md ops ((listed.setIfInBounds i true).setIfInBounds k true) = [j]) (hr23 : Region.ready md ops ((listed.setIfInBounds j true).setIfInBounds k true) = [i])
    (hy1 : YE P ops S (fun w' => Below w.heap.size w w' ∧ S w') oi a Φ) (hy2 : YE P ops S (fun w' => Below w.heap.size w w' ∧ S w') oj a Ψ) (hy3 : YE P ops S (fun w' => Below w.heap.size w w' ∧ S w') ok a Χ)
    (hst1 : ∀ u a b, Φ u a → Below a.heap.size a b → Φ u b) (hst2 : ∀ u a b, Ψ u a → Below a.heap.size a b → Ψ u b) (hst3 : ∀ u a b, Χ u a → Below a.heap.size a b → Χ u b)
    (h : ∀ u v x w', Below w.heap.size w w' → S w' → Φ u w' → Ψ v w' → Χ x w' → wpG P md ops Q S z fuel (((listed.setIfInBounds i true).setIfInBounds j true).setIfInBounds k true) { tmps := ((a.tmps.setIfInBounds di u).setIfInBounds dj v).setIfInBounds dk x, defers := a.defers } w') :
    wpG P md ops Q S z (fuel + 1 + 1 + 1) listed a w := by
  simp only [Bool.or_eq_false_iff] at hz
  obtain ⟨⟨⟨⟨⟨zi, zj⟩, zk⟩, nij⟩, nik⟩, njk⟩ := hz
  simp only [Bool.and_eq_true] at hap
  obtain ⟨⟨⟨⟨⟨aij, aji⟩, aik⟩, aki⟩, ajk⟩, akj⟩ := hap
  have hni : i ≠ z := by simpa using zi
  have hnj : j ≠ z := by simpa using zj
  have hnk : k ≠ z := by simpa using zk
  have hnij : i ≠ j := by simpa using nij
  have hnik : i ≠ k := by simpa using nik
  have hnjk : j ≠ k := by simpa using njk
  have hsi := fun cs b => Region.noSelect_spec hs i oi cs b hi
  have hsj := fun cs b => Region.noSelect_spec hs j oj cs b hj
  have hsk := fun cs b => Region.noSelect_spec hs k ok cs b hk
  have cij := (Oper.apart_spec aij).2.1
  have cik := (Oper.apart_spec aik).2.1
  have cjk := (Oper.apart_spec ajk).2.1
  intro w' hb hS
  rw [hr]
  refine ⟨fun h0 => absurd h0 (by simp), fun q hq => ?_⟩
  rcases (by simpa using hq : q = i ∨ q = j ∨ q = k) with rfl | rfl | rfl
  · refine YE.wpOp hi hy1 ⟨hb, hS⟩ fun u w1 hb1 hS1 hp1 => ⟨fun e => absurd e hni, fun _ => ⟨hS1, ?_⟩⟩
    have hb01 := below_after hb hb1 (Nat.le_refl _)
    refine wpG_pair hj hk hdj hdk zj zk njk hs (by rw [ajk, akj]; rfl) hr1 hr12 hr13 ((hy2.put aji hsj u).later hb01) ((hy3.put aki hsk u).later hb01) hst2 hst3 fun v x w2 hb2 hS2 hp2 hp3 => ?_
    have := h u v x w2 (below_after hb01 hb2 (Nat.le_refl _)) hS2 (hst1 u w1 w2 hp1 hb2) hp2 hp3
    rw [hdi]
    exact this
  · refine YE.wpOp hj hy2 ⟨hb, hS⟩ fun v w1 hb1 hS1 hp1 => ⟨fun e => absurd e hnj, fun _ => ⟨hS1, ?_⟩⟩
    have hb01 := below_after hb hb1 (Nat.le_refl _)
    refine wpG_pair hi hk hdi hdk zi zk nik hs (by rw [aik, aki]; rfl) hr2 (by rw [Array.setIfInBounds_comm _ _ (Ne.symm hnij)]; exact hr12) hr23 ((hy1.put aij hsi v).later hb01) ((hy3.put akj hsk v).later hb01) hst1 hst3 fun u x w2 hb2 hS2 hp2 hp3 => ?_
    have := h u v x w2 (below_after hb01 hb2 (Nat.le_refl _)) hS2 hp2 (hst2 v w1 w2 hp1 hb2) hp3
    have e := congrArg Act.tmps (Act.put_comm a u v cij)
    rw [hdi, hdj] at e
    have e : (a.tmps.setIfInBounds di u).setIfInBounds dj v = (a.tmps.setIfInBounds dj v).setIfInBounds di u := e
    rw [hdj, Array.setIfInBounds_comm _ _ (Ne.symm hnij)]
    show wpG P md ops Q S z fuel _ { tmps := ((a.tmps.setIfInBounds dj v).setIfInBounds di u).setIfInBounds dk x, defers := a.defers } w2
    rw [← e]
    exact this
  · refine YE.wpOp hk hy3 ⟨hb, hS⟩ fun x w1 hb1 hS1 hp1 => ⟨fun e => absurd e hnk, fun _ => ⟨hS1, ?_⟩⟩
    have hb01 := below_after hb hb1 (Nat.le_refl _)
    refine wpG_pair hi hj hdi hdj zi zj nij hs (by rw [aij, aji]; rfl) hr3 (by rw [Array.setIfInBounds_comm _ _ (Ne.symm hnik)]; exact hr13) (by rw [Array.setIfInBounds_comm _ _ (Ne.symm hnjk)]; exact hr23) ((hy1.put aik hsi x).later hb01) ((hy2.put ajk hsj x).later hb01) hst1 hst2 fun u v w2 hb2 hS2 hp2 hp3 => ?_
    have := h u v x w2 (below_after hb01 hb2 (Nat.le_refl _)) hS2 hp2 hp3 (hst3 x w1 w2 hp1 hb2)
    have e1 := congrArg Act.tmps (Act.put_comm a u x cik)
    rw [hdi, hdk] at e1
    have e1 : (a.tmps.setIfInBounds di u).setIfInBounds dk x = (a.tmps.setIfInBounds dk x).setIfInBounds di u := e1
    have e2 := congrArg Act.tmps (Act.put_comm (a.put oi.dst u) v x cjk)
    rw [hdi, hdj, hdk] at e2
    have e2 : ((a.tmps.setIfInBounds di u).setIfInBounds dj v).setIfInBounds dk x = ((a.tmps.setIfInBounds di u).setIfInBounds dk x).setIfInBounds dj v := e2
    rw [hdk, Array.setIfInBounds_comm _ _ (Ne.symm hnik), Array.setIfInBounds_comm _ _ (Ne.symm hnjk)]
    show wpG P md ops Q S z fuel _ { tmps := ((a.tmps.setIfInBounds dk x).setIfInBounds di u).setIfInBounds dj v, defers := a.defers } w2
    rw [← e1, ← e2]
    exact this

/-- Number i, then number k; number j ahead of them, between them, or behind them. -/
theorem wpG_chain {i j k di dj dk : Nat} {oi oj ok : Oper} {z fuel : Nat} {listed : Array Bool} {a : Act} {w : World} {Φ Ψ : Value → World → Prop} {Χ : Value → World → Prop} (hi : ops[i]? = some oi) (hj : ops[j]? = some oj) (hk : ops[k]? = some ok) (hdi : oi.dst = some di) (hdj : oj.dst = some dj) (hdk : ok.dst = some dk)
    (hz : ((i == z) || (j == z) || (k == z) || (i == j) || (i == k) || (j == k)) = false) (hs : Region.noSelect ops = true) (hap : (oi.apart ops oj && oj.apart ops oi && oj.apart ops ok && ok.apart ops oj) = true)
    (hr : Region.ready md ops listed = [i, j]) (hr1 : Region.ready md ops (listed.setIfInBounds i true) = [k, j]) (hr2 : Region.ready md ops (listed.setIfInBounds j true) = [i])
    (hr12 : Region.ready md ops ((listed.setIfInBounds i true).setIfInBounds j true) = [k]) (hr13 : Region.ready md ops ((listed.setIfInBounds i true).setIfInBounds k true) = [j])
    (hy1 : YE P ops S (fun w' => Below w.heap.size w w' ∧ S w') oi a Φ) (hy2 : YE P ops S (fun w' => Below w.heap.size w w' ∧ S w') oj a Ψ) (hy3 : ∀ u w1, Below w.heap.size w w1 → S w1 → Φ u w1 → YE P ops S (fun w' => Below w1.heap.size w1 w' ∧ S w') ok (a.put oi.dst u) Χ)
    (hst2 : ∀ u a b, Ψ u a → Below a.heap.size a b → Ψ u b) (hst3 : ∀ u a b, Χ u a → Below a.heap.size a b → Χ u b)
    (h : ∀ u v x w', Below w.heap.size w w' → S w' → Ψ v w' → Χ x w' → wpG P md ops Q S z fuel (((listed.setIfInBounds i true).setIfInBounds k true).setIfInBounds j true) { tmps := ((a.tmps.setIfInBounds di u).setIfInBounds dk x).setIfInBounds dj v, defers := a.defers } w') :
    wpG P md ops Q S z (fuel + 1 + 1 + 1) listed a w := by
  simp only [Bool.or_eq_false_iff] at hz
  obtain ⟨⟨⟨⟨⟨zi, zj⟩, zk⟩, nij⟩, nik⟩, njk⟩ := hz
  simp only [Bool.and_eq_true] at hap
  obtain ⟨⟨⟨aij, aji⟩, ajk⟩, akj⟩ := hap
  have hni : i ≠ z := by simpa using zi
  have hnj : j ≠ z := by simpa using zj
  have hnk : k ≠ z := by simpa using zk
  have hnij : i ≠ j := by simpa using nij
  have hnjk : j ≠ k := by simpa using njk
  have nkj : (k == j) = false := by simpa using Ne.symm hnjk
  have hsi := fun cs b => Region.noSelect_spec hs i oi cs b hi
  have hsj := fun cs b => Region.noSelect_spec hs j oj cs b hj
  have hsk := fun cs b => Region.noSelect_spec hs k ok cs b hk
  have cij := (Oper.apart_spec aij).2.1
  have ckj := (Oper.apart_spec akj).2.1
  have hr21 : Region.ready md ops ((listed.setIfInBounds j true).setIfInBounds i true) = [k] := by rw [Array.setIfInBounds_comm _ _ (Ne.symm hnij)]; exact hr12
  intro w' hb hS
  rw [hr]
  refine ⟨fun h0 => absurd h0 (by simp), fun q hq => ?_⟩
  rcases (by simpa using hq : q = i ∨ q = j) with rfl | rfl
  · refine YE.wpOp hi hy1 ⟨hb, hS⟩ fun u w1 hb1 hS1 hp1 => ⟨fun e => absurd e hni, fun _ => ⟨hS1, ?_⟩⟩
    have hb01 := below_after hb hb1 (Nat.le_refl _)
    refine wpG_pair hk hj hdk hdj zk zj nkj hs (by rw [ajk, akj]; rfl) hr1 hr13 hr12 (hy3 u w1 hb01 hS1 hp1) ((hy2.put aji hsj u).later hb01) hst3 hst2 fun x v w2 hb2 hS2 hp2 hp3 => ?_
    have := h u v x w2 (below_after hb01 hb2 (Nat.le_refl _)) hS2 hp3 hp2
    rw [hdi]
    exact this
  · refine YE.wpOp hj hy2 ⟨hb, hS⟩ fun v w1 hb1 hS1 hp1 => ⟨fun e => absurd e hnj, fun _ => ⟨hS1, fun w2 hb2 hS2 => ?_⟩⟩
    rw [hr2]
    refine ⟨fun h0 => absurd h0 (by simp), fun q hq => ?_⟩
    obtain rfl := List.mem_singleton.1 hq
    have hb02 := below_after (below_after hb hb1 (Nat.le_refl _)) hb2 (Nat.le_refl _)
    refine YE.wpOp hi (hy1.put aij hsi v) ⟨hb02, hS2⟩ fun u w3 hb3 hS3 hp3 => ⟨fun e => absurd e hni, fun _ => ⟨hS3, fun w4 hb4 hS4 => ?_⟩⟩
    rw [hr21]
    refine ⟨fun h0 => absurd h0 (by simp), fun p hp => ?_⟩
    obtain rfl := List.mem_singleton.1 hp
    have hb03 := below_after hb02 hb3 (Nat.le_refl _)
    have hy := (hy3 u w3 hb03 hS3 hp3).put akj hsk v
    rw [Act.put_comm a u v cij] at hy
    refine YE.wpOp hk hy ⟨hb4, hS4⟩ fun x w5 hb5 hS5 hp5 => ⟨fun e => absurd e hnk, fun _ => ⟨hS5, ?_⟩⟩
    have := h u v x w5 (below_after (below_after hb03 hb4 (Nat.le_refl _)) hb5 (Nat.le_refl _)) hS5 (hst2 v w1 w5 hp1 (below_after (below_after (below_after hb2 hb3 (Nat.le_refl _)) hb4 (Nat.le_refl _)) hb5 (Nat.le_refl _))) hp5
    have e1 := congrArg Act.tmps (Act.put_comm a u v cij)
    rw [hdi, hdj] at e1
    have e1 : (a.tmps.setIfInBounds di u).setIfInBounds dj v = (a.tmps.setIfInBounds dj v).setIfInBounds di u := e1
    have e2 := congrArg Act.tmps (Act.put_comm (a.put oi.dst u) x v ckj)
    rw [hdi, hdj, hdk] at e2
    have e2 : ((a.tmps.setIfInBounds di u).setIfInBounds dk x).setIfInBounds dj v = ((a.tmps.setIfInBounds di u).setIfInBounds dj v).setIfInBounds dk x := e2
    rw [hdi, hdj, hdk, Array.setIfInBounds_comm _ _ (Ne.symm hnij), Array.setIfInBounds_comm _ _ hnjk]
    show wpG P md ops Q S z fuel _ { tmps := ((a.tmps.setIfInBounds dj v).setIfInBounds di u).setIfInBounds dk x, defers := a.defers } w5
    rw [← e1, ← e2]
    exact this
end
end Go.Proofs.Ytjddcaimjofihaa
