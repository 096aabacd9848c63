/- Regions that draw their order: some operations that make memory, in whatever order they may come up; no condition. -/
import Derived.Test.YtjddcaimjofihaaRI
import Derived.Test.YtjddcaimjofihaaRJ
namespace Go.Proofs.Ytjddcaimjofihaa
open Go.RowKit

/-- An operation: its number, where it writes, what it is, what it yields. -/
structure Ent where
  i : Nat
  d : Nat
  o : Oper
  Φ : Value → World → Prop
def stepE (u : Nat → Value) (s : Array Bool × Act) (e : Ent) : Array Bool × Act := (s.1.setIfInBounds e.i true, s.2.put (some e.d) (u e.i))
def finE (es : List Ent) (u : Nat → Value) (s : Array Bool × Act) : Array Bool × Act := es.foldl (stepE u) s
def AllE (p : Ent → Prop) : List Ent → Prop
  | [] => True
  | e :: l => p e ∧ AllE p l
theorem AllE.mem {p : Ent → Prop} : ∀ {l : List Ent}, AllE p l → ∀ e ∈ l, p e
  | [], _, _, h => by simp at h
  | x :: l, h, e, he => by
    rcases List.mem_cons.1 he with rfl | he
    · exact h.1
    · exact h.2.mem e he
theorem AllE.of {p : Ent → Prop} : ∀ {l : List Ent}, (∀ e ∈ l, p e) → AllE p l
  | [], _ => trivial
  | x :: l, h => ⟨h x (by simp), AllE.of fun e he => h e (by simp [he])⟩
/-- Whatever is picked, it is one of the numbers, until none is left. -/
def meetsE (md : Region.Mode) (ops : Array Oper) : Nat → List Nat → Array Bool → Bool
  | 0, rem, _ => rem.isEmpty
  | n + 1, rem, listed => !(Region.ready md ops listed).isEmpty && (Region.ready md ops listed).all fun i => rem.contains i && meetsE md ops n (rem.filter (· != i)) (listed.setIfInBounds i true)
/-- No two of them look at one another. -/
def apartE (ops : Array Oper) (es : List Ent) : Bool := es.all fun e => es.all fun x => e.i == x.i || (e.o.apart ops x.o && e.d != x.d)
theorem stepE_comm (u : Nat → Value) (s : Array Bool × Act) (e x : Ent) (hi : e.i ≠ x.i) (hd : e.d ≠ x.d) : stepE u (stepE u s e) x = stepE u (stepE u s x) e := by
  simp only [stepE, Act.put]
  rw [Array.setIfInBounds_comm _ _ hi, Array.setIfInBounds_comm (xs := s.2.tmps) _ _ hd]
theorem finE_split (u : Nat → Value) (e : Ent) (l2 : List Ent) : ∀ (l1 : List Ent) (s : Array Bool × Act), (∀ x ∈ l1, e.i ≠ x.i ∧ e.d ≠ x.d) → finE (l1 ++ e :: l2) u s = finE (l1 ++ l2) u (stepE u s e)
  | [], _, _ => rfl
  | x :: l1, s, h => by
    have hx := h x (by simp)
    show finE (l1 ++ e :: l2) u (stepE u s x) = finE (l1 ++ l2) u (stepE u (stepE u s e) x)
    rw [finE_split u e l2 l1 _ (fun y hy => h y (by simp [hy])), stepE_comm u s e x hx.1 hx.2]
theorem finE_congr (u v : Nat → Value) : ∀ (l : List Ent) (s : Array Bool × Act), (∀ e ∈ l, u e.i = v e.i) → finE l u s = finE l v s
  | [], _, _ => rfl
  | x :: l, s, h => by
    show finE l u (stepE u s x) = finE l v (stepE v s x)
    rw [show stepE u s x = stepE v s x by simp only [stepE, h x (by simp)]]
    exact finE_congr u v l _ fun e he => h e (by simp [he])

section
variable {P : Program} {md : Region.Mode} {ops : Array Oper} {Q : Exit → Act → World → Prop} {S : World → Prop}
structure EntOk (P : Program) (ops : Array Oper) (S : World → Prop) (z : Nat) (a : Act) (w : World) (e : Ent) : Prop where
  op : ops[e.i]? = some e.o
  dst : e.o.dst = some e.d
  ne : (e.i == z) = false
  yields : YE P ops S (fun w' => Below w.heap.size w w' ∧ S w') e.o a e.Φ
  stable : ∀ u a b, e.Φ u a → Below a.heap.size a b → e.Φ u b

theorem wpG_allS {z : Nat} (hs : Region.noSelect ops = true) : ∀ (n fuel : Nat) (es : List Ent) (listed : Array Bool) (a : Act) (w : World), es.length = n → (es.map (·.i)).Nodup → apartE ops es = true → meetsE md ops n (es.map (·.i)) listed = true →
    (∀ e ∈ es, EntOk P ops S z a w e) → S w →
    (∀ (u : Nat → Value) w', Below w.heap.size w w' → S w' → (∀ e ∈ es, e.Φ (u e.i) w') → wpG P md ops Q S z fuel (finE es u (listed, a)).1 (finE es u (listed, a)).2 w') → wpG P md ops Q S z (fuel + n) listed a w
  | 0, fuel, [], listed, a, w, _, _, _, _, _, hS, H => H (fun _ => undef) w (Below.refl _ _) hS (fun e he => by simp at he)
  | 0, _, _ :: _, _, _, _, h, _, _, _, _, _, _ => by simp at h
  | n + 1, fuel, es, listed, a, w, hlen, hnd, hap, hm, hok, hS, H => by
    intro w' hb hS'
    simp only [meetsE, Bool.and_eq_true, List.all_eq_true, Bool.not_eq_true', List.isEmpty_eq_false_iff] at hm
    refine ⟨fun h => absurd h hm.1, fun j hj => ?_⟩
    obtain ⟨hc, hm2⟩ := hm.2 j hj
    obtain ⟨e, he, rfl⟩ := List.mem_map.1 (List.contains_iff_mem.1 hc)
    obtain ⟨l1, l2, rfl⟩ := List.append_of_mem he
    have ho := hok e he
    have hne : e.i ≠ z := by simpa using ho.ne
    have hap' : ∀ x ∈ l1 ++ e :: l2, ∀ y ∈ l1 ++ e :: l2, x.i = y.i ∨ (x.o.apart ops y.o = true ∧ x.d ≠ y.d) := fun x hx y hy => by
      have := List.all_eq_true.1 (List.all_eq_true.1 hap x hx) y hy
      simpa using this
    have hnd' := hnd
    rw [List.map_append, List.map_cons] at hnd'
    obtain ⟨n1, n2, n3⟩ := List.nodup_append.1 hnd'
    obtain ⟨n4, n5⟩ := List.nodup_cons.1 n2
    have hdis : ∀ x ∈ l1 ++ l2, x.i ≠ e.i := fun x hx hxe => by
      have h1 : e.i ∉ l1.map (·.i) ++ l2.map (·.i) := by
        intro h
        rcases List.mem_append.1 h with h | h
        · exact n3 _ h e.i (by simp) rfl
        · exact n4 h
      rw [← List.map_append] at h1
      exact h1 (List.mem_map.2 ⟨x, hx, hxe⟩)
    have hmem : ∀ x ∈ l1 ++ l2, x ∈ l1 ++ e :: l2 := fun x hx => by
      rcases List.mem_append.1 hx with h | h
      · simp [h]
      · simp [h]
    refine (ho.yields).wpOp ho.op ⟨hb, hS'⟩ fun u0 w2 hb2 hS2 hΦ => ⟨fun e => absurd e hne, fun _ => ⟨hS2, ?_⟩⟩
    have hw2 := below_after hb hb2 (Nat.le_refl _)
    rw [ho.dst]
    refine wpG_allS hs n fuel (l1 ++ l2) (listed.setIfInBounds e.i true) (a.put (some e.d) u0) w2 (by simp at hlen ⊢; omega) ?_ ?_ ?_ ?_ hS2 ?_
    · rw [List.map_append]
      exact List.nodup_append.2 ⟨n1, n5, fun x hx y hy => n3 x hx y (by simp [hy])⟩
    · exact List.all_eq_true.2 fun x hx => List.all_eq_true.2 fun y hy => List.all_eq_true.1 (List.all_eq_true.1 hap x (hmem x hx)) y (hmem y hy)
    · have : ((l1 ++ e :: l2).map (·.i)).filter (· != e.i) = (l1 ++ l2).map (·.i) := by
        rw [List.map_append, List.map_cons, List.filter_append, List.filter_cons, List.map_append]
        have h1 : ∀ l : List Ent, (∀ x ∈ l, x.i ≠ e.i) → (l.map (·.i)).filter (· != e.i) = l.map (·.i) := fun l h => List.filter_eq_self.2 fun y hy => by
          obtain ⟨x, hx, rfl⟩ := List.mem_map.1 hy
          simpa using h x hx
        rw [h1 l1 (fun x hx => hdis x (by simp [hx])), h1 l2 (fun x hx => hdis x (by simp [hx]))]
        simp
      rw [← this]
      exact hm2
    · intro x hx
      have hxo := hok x (hmem x hx)
      have hxa := (hap' x (hmem x hx) e he).resolve_left (hdis x hx)
      refine ⟨hxo.op, hxo.dst, hxo.ne, ?_, hxo.stable⟩
      have := (hxo.yields.put hxa.1 (fun cs b => Region.noSelect_spec hs x.i x.o cs b hxo.op) u0).later hw2
      rw [ho.dst] at this
      exact this
    · intro u w3 hb3 hS3 hall
      have h1 := H (fun k => if k = e.i then u0 else u k) w3 (below_after hw2 hb3 (Nat.le_refl _)) hS3 (fun x hx => by
        by_cases hxe : x.i = e.i
        · have : x = e := by
            rcases List.mem_append.1 hx with h | h
            · exact absurd hxe (hdis x (by simp [h]))
            · rcases List.mem_cons.1 h with h | h
              · exact h
              · exact absurd hxe (hdis x (by simp [h]))
          subst this
          simp only [if_true]
          exact hok x he |>.stable _ _ _ hΦ hb3
        · simp only [hxe, if_false]
          refine hall x ?_
          rcases List.mem_append.1 hx with h | h
          · simp [h]
          · rcases List.mem_cons.1 h with h | h
            · exact absurd (by rw [h]) hxe
            · simp [h])
      rw [finE_split _ e l2 l1 _ (fun x hx => ⟨fun h => hdis x (by simp [hx]) h.symm, ((hap' e he x (hmem x (by simp [hx]))).resolve_left (fun h => hdis x (by simp [hx]) h.symm)).2⟩)] at h1
      rw [finE_congr u (fun k => if k = e.i then u0 else u k) (l1 ++ l2) _ (fun x hx => by simp [hdis x hx])]
      have hst : stepE (fun k => if k = e.i then u0 else u k) (listed, a) e = (listed.setIfInBounds e.i true, a.put (some e.d) u0) := by simp [stepE]
      rw [hst] at h1
      exact h1

/-- The numbers of some operations may come up in any order that the region allows, and nothing else ahead of them all. -/
theorem wpG_all {z fuel n : Nat} {listed : Array Bool} {a : Act} {w : World} (es : List Ent) (hs : Region.noSelect ops = true) (hlen : es.length = n + 1) (hnd : (es.map (·.i)).Nodup) (hap : apartE ops es = true) (hm : meetsE md ops (n + 1) (es.map (·.i)) listed = true)
    (hok : AllE (EntOk P ops S z a w) es)
    (H : ∀ (u : Nat → Value) w', Below w.heap.size w w' → S w' → AllE (fun e => e.Φ (u e.i) w') es → wpG P md ops Q S z fuel (finE es u (listed, a)).1 (finE es u (listed, a)).2 w') : wpG P md ops Q S z (fuel + (n + 1)) listed a w := by
  intro w' hb hS
  refine wpG_allS hs (n + 1) fuel es listed a w' hlen hnd hap hm (fun e he => ?_) hS (fun u w2 hb2 hS2 h => H u w2 (below_after hb hb2 (Nat.le_refl _)) hS2 (AllE.of h)) w' (Below.refl _ _) hS
  have := hok.mem e he
  exact ⟨this.op, this.dst, this.ne, this.yields.later hb, this.stable⟩
end
end Go.Proofs.Ytjddcaimjofihaa
