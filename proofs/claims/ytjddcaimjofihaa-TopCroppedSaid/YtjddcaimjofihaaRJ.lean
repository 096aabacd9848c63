/- Regions that draw their order: as in RG, and behind the last operation that waits what is left is met as it comes; no condition. -/
import Derived.Test.YtjddcaimjofihaaRG
import Derived.Test.YtjddcaimjofihaaRH
namespace Go.Proofs.Ytjddcaimjofihaa
open Go.RowKit

section
variable {P : Program} {md : Region.Mode} {ops : Array Oper} {Q : Exit → Act → World → Prop} {S S2 : World → Prop}
/-- What comes up next is met in whatever world that has grown. Behind number z, which waits for the others that were taken, what is left is met as it comes. -/
def wpZ (P : Program) (md : Region.Mode) (ops : Array Oper) (Q : Exit → Act → World → Prop) (S S2 : World → Prop) (z : Nat) : Nat → Array Bool → Act → World → Prop
  | 0, listed, a, w => Region.ready md ops listed = [] ∧ ∀ w', Below w.heap.size w w' → S w' → Q .normal a w'
  | fuel + 1, listed, a, w => ∀ w', Below w.heap.size w w' → S w' → (Region.ready md ops listed = [] → Q .normal a w') ∧
    ∀ i ∈ Region.ready md ops listed, wpOp P ops Q i (fun a' w'' => (i = z → S2 w'' ∧ wpTs P md ops Q S2 [] fuel (listed.setIfInBounds i true) a' w'') ∧ (i ≠ z → S w'' ∧ wpZ P md ops Q S S2 z fuel (listed.setIfInBounds i true) a' w'')) a w'
theorem wpZ_grow {z : Nat} : ∀ {fuel : Nat} {listed : Array Bool} {a : Act} {w w1 : World}, wpZ P md ops Q S S2 z fuel listed a w → Below w.heap.size w w1 → wpZ P md ops Q S S2 z fuel listed a w1
  | 0, _, _, _, _, h, hb => ⟨h.1, fun w' h1 h2 => h.2 w' (hb.trans (h1.mono hb.size)) h2⟩
  | _ + 1, _, _, _, _, h, hb => fun w' h1 h2 => h w' (hb.trans (h1.mono hb.size)) h2

theorem wpAny_of_z {z : Nat} : ∀ (fuel : Nat) (listed : Array Bool) (a : Act) (w : World), S w → wpZ P md ops Q S S2 z fuel listed a w → wpAny P md ops Q fuel listed a w
  | 0, _, _, w, hS, h => ⟨h.1, h.2 w (Below.refl _ _) hS⟩
  | fuel + 1, _, _, w, hS, h => ⟨(h w (Below.refl _ _) hS).1, fun i hi => wpOp_mono (fun a' w' h' => by
      by_cases e : i = z
      · exact wpAny_of_ts _ _ _ _ (h'.1 e).2
      · exact wpAny_of_z fuel _ a' w' (h'.2 e).1 (h'.2 e).2) ((h w (Below.refl _ _) hS).2 i hi)⟩

theorem wpZ_first {z i : Nat} {oi : Oper} {v : Value} (hi : ops[i]? = some oi) (hz : waitsZ md ops z i = true) (hsel : ∀ (j : Nat) (o : Oper) cs b, ops[j]? = some o → o.op ≠ .select cs b) (hQ : ∀ c a w, Q (.panic c) (a.put oi.dst v) w → Q (.panic c) a w) :
    ∀ (fuel : Nat) (listed : Array Bool) (a : Act) (w : World),
      (∀ j oj, ops[j]? = some oj → j ≠ i → listed.getD j true = false → (∀ e ∈ oj.after, Region.binds md e = true → e.on ≠ i) → oi.apart ops oj = true) →
      i ∈ Region.ready md ops listed → YG P ops S oi v a →
      wpZ P md ops Q S S2 z fuel (listed.setIfInBounds i true) (a.put oi.dst v) w → wpZ P md ops Q S S2 z (fuel + 1) listed a w := by
  intro fuel
  induction fuel with
  | zero =>
    intro listed a w _ hr hy H w' hb hS
    refine ⟨fun h => (by rw [h] at hr; cases hr), fun j hj => ?_⟩
    have hne := waitsZ_ne hz hr hj
    by_cases hji : j = i
    · subst hji; exact hy.wpOp hi hS fun w2 hb2 hS2 => ⟨fun e => absurd e hne, fun _ => ⟨hS2, wpZ_grow H (hb.trans (hb2.mono hb.size))⟩⟩
    · have := ready_mono hj hji
      rw [H.1] at this
      cases this
  | succ fuel ih =>
    intro listed a w hfree hr hy H w' hb hS
    refine ⟨fun h => (by rw [h] at hr; cases hr), fun j hj => ?_⟩
    have hne := waitsZ_ne hz hr hj
    by_cases hji : j = i
    · subst hji; exact hy.wpOp hi hS fun w2 hb2 hS2 => ⟨fun e => absurd e hne, fun _ => ⟨hS2, wpZ_grow H (hb.trans (hb2.mono hb.size))⟩⟩
    · have h1 := (H w' hb hS).2 j (ready_mono hj hji)
      obtain ⟨hjun, oj, hoj, hall⟩ := mem_ready.1 hj
      have hnot : ∀ e ∈ oj.after, Region.binds md e = true → e.on ≠ i := fun e he hbd heq => by
        have h1 := hall e he hbd
        have h0 := (mem_ready.1 hr).1
        rw [heq] at h1
        rcases Nat.lt_or_ge i listed.size with h' | h'
        · simp [h'] at h0 h1; rw [h0] at h1; cases h1
        · simp [Array.getElem?_eq_none h'] at h1
      have h2 := wpOp_apart hoj (hfree j oj hoj hji hjun hnot) (fun cs b => hsel i oi cs b hi) (fun cs b => hsel j oj cs b hoj) hQ hy h1
      have hfree' : ∀ k ok, ops[k]? = some ok → k ≠ i → (listed.setIfInBounds j true).getD k true = false → (∀ e ∈ ok.after, Region.binds md e = true → e.on ≠ i) → oi.apart ops ok = true := fun k ok hk hki hun hno => by
        refine hfree k ok hk hki ?_ hno
        by_cases hjk : j = k
        · subst hjk; exact hjun
        · rw [getD_set_ne true hjk] at hun; exact hun
      refine wpOp_mono (fun a' w' h3 => ⟨fun e => absurd e hne, fun _ => ⟨(h3.2.2 hne).1, ih (listed.setIfInBounds j true) a' w' hfree' (ready_mono hr (Ne.symm hji)) h3.1 ?_⟩⟩) h2
      rw [Array.setIfInBounds_comm _ _ hji]
      exact (h3.2.2 hne).2

theorem wpZ_take {i : Nat} {oi : Oper} {z d : Nat} {v : Value} {fuel : Nat} {listed : Array Bool} {a : Act} {w : World} (hi : ops[i]? = some oi) (hd : oi.dst = some d) (hz : waitsZ md ops z i = true)
    (hs : Region.noSelect ops = true) (hf : Region.free md ops listed i = true) (hr : (Region.ready md ops listed).contains i = true)
    (hQ : ∀ c a w, Q (.panic c) (a.put oi.dst v) w → Q (.panic c) a w) (hw : Region.wanted oi (yielded ops a.tmps) = true) (hy : ∀ w, S w → GrowRun P S v w ((execOp a.eval oi).run P w))
    (h : wpZ P md ops Q S S2 z fuel (listed.setIfInBounds i true) { tmps := a.tmps.setIfInBounds d v, defers := a.defers } w) : wpZ P md ops Q S S2 z (fuel + 1) listed a w :=
  wpZ_first hi hz (Region.noSelect_spec hs) hQ fuel listed a w (Region.free_spec hi hf) (by simpa using hr) (.inl ⟨hw, hy⟩) (by rw [hd]; exact h)
/-- Its guard says no. -/
theorem wpZ_skip {i : Nat} {oi : Oper} {z d : Nat} {fuel : Nat} {listed : Array Bool} {a : Act} {w : World} (hi : ops[i]? = some oi) (hd : oi.dst = some d) (hz : waitsZ md ops z i = true)
    (hs : Region.noSelect ops = true) (hf : Region.free md ops listed i = true) (hr : (Region.ready md ops listed).contains i = true)
    (hQ : ∀ c a w, Q (.panic c) (a.put oi.dst undef) w → Q (.panic c) a w) (hw : Region.wanted oi (yielded ops a.tmps) = false)
    (h : wpZ P md ops Q S S2 z fuel (listed.setIfInBounds i true) { tmps := a.tmps.setIfInBounds d undef, defers := a.defers } w) : wpZ P md ops Q S S2 z (fuel + 1) listed a w :=
  wpZ_first hi hz (Region.noSelect_spec hs) hQ fuel listed a w (Region.free_spec hi hf) (by simpa using hr) (.inr ⟨hw, rfl⟩) (by rw [hd]; exact h)
/-- Number i alone may come up. -/
theorem wpZ_only {i : Nat} {oi : Oper} {z fuel : Nat} {listed : Array Bool} {a : Act} {w : World} (hi : ops[i]? = some oi) (hz : (i == z) = false) (hr : Region.ready md ops listed = [i]) (hw : Region.wanted oi (yielded ops a.tmps) = true)
    (h : ∀ w', Below w.heap.size w w' → S w' → oi.wp P a w' (fun a' w'' => S w'' ∧ wpZ P md ops Q S S2 z fuel (listed.setIfInBounds i true) a' w'') Q) : wpZ P md ops Q S S2 z (fuel + 1) listed a w := by
  intro w' hb hS
  rw [hr]
  refine ⟨fun h0 => absurd h0 (by simp), fun j hj => ?_⟩
  obtain rfl := List.mem_singleton.1 hj
  have hne : j ≠ z := by simpa using hz
  unfold wpOp
  simp only [hi, hw, if_true]
  refine .inl ?_
  have h1 := h w' hb hS
  unfold Oper.wp at *
  generalize (execOp a.eval oi).run P w' = r at *
  cases r with
  | ok n w2 =>
    cases n <;> simp only [Oper.upon] at h1 ⊢
    case value u => exact ⟨fun e => absurd e hne, fun _ => h1⟩
    case skip => exact ⟨fun e => absurd e hne, fun _ => h1⟩
    case defer d => exact ⟨fun e => absurd e hne, fun _ => h1⟩
    case enter f args =>
      refine Calls.mono h1 fun e w'' he => ?_
      cases e with
      | returned u => exact ⟨fun e => absurd e hne, fun _ => he⟩
      | panicked c => exact he
      | outgrown => exact he
    case row row args => exact Rows.mono h1 fun u w'' he => ⟨fun e => absurd e hne, fun _ => he⟩
  | halt x w2 =>
    cases x <;> simp only [Oper.upon] at h1 ⊢
    case panic u => exact h1
/-- The last one. -/
theorem wpZ_last {oi : Oper} {z fuel : Nat} {listed : Array Bool} {a : Act} {w : World} (hi : ops[z]? = some oi) (hr : Region.ready md ops listed = [z]) (hw : Region.wanted oi (yielded ops a.tmps) = true)
    (h : ∀ w', Below w.heap.size w w' → S w' → oi.wp P a w' (fun a' w'' => S2 w'' ∧ wpTs P md ops Q S2 [] fuel (listed.setIfInBounds z true) a' w'') Q) : wpZ P md ops Q S S2 z (fuel + 1) listed a w := by
  intro w' hb hS
  rw [hr]
  refine ⟨fun h0 => absurd h0 (by simp), fun j hj => ?_⟩
  obtain rfl := List.mem_singleton.1 hj
  unfold wpOp
  simp only [hi, hw, if_true]
  refine .inl ?_
  have h1 := h w' hb hS
  unfold Oper.wp at *
  generalize (execOp a.eval oi).run P w' = r at *
  cases r with
  | ok n w2 =>
    cases n <;> simp only [Oper.upon] at h1 ⊢
    case value u => exact ⟨fun _ => h1, fun e => absurd rfl e⟩
    case skip => exact ⟨fun _ => h1, fun e => absurd rfl e⟩
    case defer d => exact ⟨fun _ => h1, fun e => absurd rfl e⟩
    case enter f args =>
      refine Calls.mono h1 fun e w'' hx => ?_
      cases e with
      | returned u => exact ⟨fun _ => hx, fun e => absurd rfl e⟩
      | panicked c => exact hx
      | outgrown => exact hx
    case row row args => exact Rows.mono h1 fun u w'' hx => ⟨fun _ => hx, fun e => absurd rfl e⟩
  | halt x w2 =>
    cases x <;> simp only [Oper.upon] at h1 ⊢
    case panic u => exact h1
theorem wpZ_done {z : Nat} {listed : Array Bool} {a : Act} {w : World} (hr : Region.ready md ops listed = []) (h : ∀ w', Below w.heap.size w w' → S w' → Q .normal a w') : ∀ fuel, wpZ P md ops Q S S2 z fuel listed a w
  | 0 => ⟨hr, h⟩
  | _ + 1 => fun w' hb hS => ⟨fun _ => h w' hb hS, by rw [hr]; simp⟩
/-- The beginning. -/
theorem wp_region_z {id : Nat} {a : Act} {w : World} (hm : P.follows .mixedOrders = true) (z : Nat) (S S2 : World → Prop) (hS : S w.drew)
    (h : wpZ P .any ops Q S S2 z ops.size (Array.replicate ops.size false) a w.drew) : (Code.region id ops true).wp P Q a w :=
  wp_region_any hm (wpAny_of_z _ _ _ _ hS h)

/-- One that only reads, whether number z has come up or not. -/
theorem wpZ_both {z i : Nat} {oi : Oper} {v : Value} (hi : ops[i]? = some oi) (hz : i ≠ z) (hsel : ∀ (j : Nat) (o : Oper) cs b, ops[j]? = some o → o.op ≠ .select cs b) (hQ : ∀ c a w, Q (.panic c) (a.put oi.dst v) w → Q (.panic c) a w) :
    ∀ (fuel : Nat) (listed : Array Bool) (a : Act) (w : World),
      (∀ j oj, ops[j]? = some oj → j ≠ i → listed.getD j true = false → (∀ e ∈ oj.after, Region.binds md e = true → e.on ≠ i) → oi.apart ops oj = true) →
      i ∈ Region.ready md ops listed → YieldsIf P ops (fun w => S w ∨ S2 w) oi v a →
      wpZ P md ops Q S S2 z fuel (listed.setIfInBounds i true) (a.put oi.dst v) w → wpZ P md ops Q S S2 z (fuel + 1) listed a w := by
  have hlast : ∀ {a : Act}, YieldsIf P ops (fun w => S w ∨ S2 w) oi v a → YieldsIf P ops S2 oi v a := fun h => h.imp (fun h => ⟨h.1, fun w hw => h.2 w (.inr hw)⟩) id
  intro fuel
  induction fuel with
  | zero =>
    intro listed a w _ hr hy H w' hb hS
    refine ⟨fun h => (by rw [h] at hr; cases hr), fun j hj => ?_⟩
    by_cases hji : j = i
    · subst hji; exact hy.wpOp hi (.inl hS) ⟨fun e => absurd e hz, fun _ => ⟨hS, wpZ_grow H hb⟩⟩
    · have := ready_mono hj hji
      rw [H.1] at this
      cases this
  | succ fuel ih =>
    intro listed a w hfree hr hy H w' hb hS
    refine ⟨fun h => (by rw [h] at hr; cases hr), fun j hj => ?_⟩
    by_cases hji : j = i
    · subst hji; exact hy.wpOp hi (.inl hS) ⟨fun e => absurd e hz, fun _ => ⟨hS, wpZ_grow H hb⟩⟩
    · have h1 := (H w' hb hS).2 j (ready_mono hj hji)
      obtain ⟨hjun, oj, hoj, hall⟩ := mem_ready.1 hj
      have hnot : ∀ e ∈ oj.after, Region.binds md e = true → e.on ≠ i := fun e he hbd heq => by
        have h1 := hall e he hbd
        have h0 := (mem_ready.1 hr).1
        rw [heq] at h1
        rcases Nat.lt_or_ge i listed.size with h' | h'
        · simp [h'] at h0 h1; rw [h0] at h1; cases h1
        · simp [Array.getElem?_eq_none h'] at h1
      have h2 := wpOp_putIf hoj (hfree j oj hoj hji hjun hnot) (fun cs b => hsel i oi cs b hi) (fun cs b => hsel j oj cs b hoj) hQ hy h1
      have hfree' : ∀ k ok, ops[k]? = some ok → k ≠ i → (listed.setIfInBounds j true).getD k true = false → (∀ e ∈ ok.after, Region.binds md e = true → e.on ≠ i) → oi.apart ops ok = true := fun k ok hk hki hun hno => by
        refine hfree k ok hk hki ?_ hno
        by_cases hjk : j = k
        · subst hjk; exact hjun
        · rw [getD_set_ne true hjk] at hun; exact hun
      refine wpOp_mono (fun a' w'' h3 => ⟨fun e => ⟨(h3.2.1 e).1, wpTs_first hi rfl hsel hQ fuel (listed.setIfInBounds j true) a' w'' hfree' (ready_mono hr (Ne.symm hji)) (hlast h3.1) (h3.2.1 e).1 ?_⟩, fun e => ⟨(h3.2.2 e).1, ih (listed.setIfInBounds j true) a' w'' hfree' (ready_mono hr (Ne.symm hji)) h3.1 ?_⟩⟩) h2
      · rw [Array.setIfInBounds_comm _ _ hji]
        exact (h3.2.1 e).2
      · rw [Array.setIfInBounds_comm _ _ hji]
        exact (h3.2.2 e).2
theorem wpZ_load {i : Nat} {oi : Oper} {z d : Nat} {v : Value} {fuel : Nat} {listed : Array Bool} {a : Act} {w : World} (hi : ops[i]? = some oi) (hd : oi.dst = some d) (hz : (i == z) = false)
    (hs : Region.noSelect ops = true) (hf : Region.free md ops listed i = true) (hr : (Region.ready md ops listed).contains i = true)
    (hQ : ∀ c a w, Q (.panic c) (a.put oi.dst v) w → Q (.panic c) a w) (hw : Region.wanted oi (yielded ops a.tmps) = true) (hy : ∀ w, S w ∨ S2 w → (execOp a.eval oi).run P w = .ok (.value v) w)
    (h : wpZ P md ops Q S S2 z fuel (listed.setIfInBounds i true) { tmps := a.tmps.setIfInBounds d v, defers := a.defers } w) : wpZ P md ops Q S S2 z (fuel + 1) listed a w :=
  wpZ_both hi (by simpa using hz) (Region.noSelect_spec hs) hQ fuel listed a w (Region.free_spec hi hf) (by simpa using hr) (.inl ⟨hw, hy⟩) (by rw [hd]; exact h)

/-- The others are met as they come: number i alone may come up. -/
theorem wpAny_only {i : Nat} {oi : Oper} {fuel : Nat} {listed : Array Bool} {a : Act} {w : World} (hi : ops[i]? = some oi) (hr : Region.ready md ops listed = [i]) (hw : Region.wanted oi (yielded ops a.tmps) = true)
    (h : oi.wp P a w (fun a' w' => wpAny P md ops Q fuel (listed.setIfInBounds i true) a' w') Q) : wpAny P md ops Q (fuel + 1) listed a w := by
  refine ⟨fun h0 => absurd (hr.symm.trans h0) (by simp), fun j hj => ?_⟩
  rw [hr] at hj
  obtain rfl := List.mem_singleton.1 hj
  unfold wpOp
  simp only [hi, hw, if_true]
  exact .inl h
end

/-! ### append: where the slice that comes back lies -/
theorem append_where {P : Program} (w : World) {base : Nat} {t ty e : TypeId} {i : TypeInfo} {z : Value} (ht : P.underlying t = some (.slice e)) (hi : P.info? e = some i) (hz : i.zero = some z) (hzs : z.cells.size = i.size) (hsz : 0 < i.size)
    {v : Value} {n : Nat} {xs : List Value} (hown : w.ownsRow base e i.size v n xs) {a : Addr} {m c : Nat} {news : List Value} (hl : news.length = m * i.size) (hnews : ∀ j u, news[j]? = some u → w.cell? (a.add j) = some u) (h1 : ∀ u ∈ news, u.oneCell' = true)
    (h63 : n + m ≤ maxLen) (hbytes : (n + m) * i.bytes ≤ 140737488355328) {v' : Value} {w' : World} (hr : (Builtin.append_ #[t, t] ty #[v, .slice (some a) m c]).run P w = .ok v' w') :
    ∀ k, v'.ownBlock = some k → v.ownBlock = some k ∨ w.heap.size ≤ k := by
  have hmx : n + m ≤ 9223372036854775807 := by simp only [maxLen] at h63; omega
  rcases hown.2 with ⟨rfl, rfl⟩ | ⟨g, cap, cur, rfl, hbg, hg, hnc, hcm, hcs, htake⟩
  · obtain ⟨v2, w2, hr2, ho2, -, -⟩ := run_append_own (P := P) w w.heap.size t ty e i z i.size i.bytes ht hi hz rfl rfl hzs hsz (.slice none 0 0) 0 [] (World.ownsRow_nil w w.heap.size e i.size) a m c news hl hnews h1 h63 hbytes (Nat.le_refl _)
    rw [hr] at hr2
    cases hr2
    exact fun k hk => .inr (ho2.lt k hk).1
  · by_cases hroom : n + m ≤ cap
    · have h2 := run_append_room (P := P) w t ty e i ht hi g n cap cur hg a m c news hl hnews h1 hroom (by rw [hl, hcs, ← Nat.add_mul]; exact Nat.mul_le_mul_right _ hroom)
      rw [hr] at h2
      cases h2
      exact fun k hk => .inl hk
    · have h2 := run_append_grow (P := P) w t ty e i z ht hi hz ⟨g, 0, none⟩ n cap xs hown.1 (hown.cells (g := g) rfl) a m c news hl hnews (by omega) (by omega) (growslice_fits (by omega) hbytes)
      rw [hr] at h2
      cases h2
      exact fun k hk => .inr (by simp [Value.ownBlock] at hk; omega)

/-- append(s, y), the slice s the call's own: with where the new one lies. -/
theorem wp_append2 {P : Program} {o : Oper} {a : Act} {K : Act → World → Prop} {Q : Exit → Act → World → Prop} {w : World} {α : Type} (enc : α → List Value) (s x : Operand) (t : TypeId)
    (ho : o.op = .call { callee := .builtin .append, args := #[s, x], argTypes := #[t, t] }) (base : Nat) (e : TypeId) (z : Value) (sz bytes : Nat)
    (ht : P.underlying t = some (.slice e)) (hinfo : (P.info? e).map (fun i => (i.zero, i.size, i.bytes)) = some (some z, sz, bytes)) (hzs : z.cells.size = sz) (hsz : 0 < sz)
    (henc : ∀ y, (enc y).length = sz) (henc1 : ∀ y, ∀ u ∈ enc y, u.oneCell' = true) (v : Value) (l : List α) (hs : a.eval s = v) (hown : Own base e sz enc w v l)
    (g c : Nat) (y : α) (hx : a.eval x = .slice (some ⟨g, 0, none⟩) 1 c) (hnews : ∀ i u, (enc y)[i]? = some u → w.cell? ⟨g, i, none⟩ = some u)
    (hlen : l.length + 1 ≤ 1000000) (hby : bytes ≤ 1000) (hbase : base ≤ w.heap.size)
    (h : ∀ v' w', Own base e sz enc w' v' (l ++ [y]) → w.grownBy w' v.ownBlock → (∀ k, v'.ownBlock = some k → v.ownBlock = some k ∨ w.heap.size ≤ k) → K (a.put o.dst v') w') : o.wp P a w K Q := by
  obtain ⟨i, hi, hz0, rfl, rfl⟩ := info_parts hinfo
  have hnews' : ∀ j u, (enc y)[j]? = some u → w.cell? ((⟨g, 0, none⟩ : Addr).add j) = some u := by
    intro j u hu
    have := hnews j u hu
    unfold Addr.add
    split
    · next h0 => rw [h0] at this; exact this
    · simpa using this
  have hbb : (l.length + 1) * i.bytes ≤ 140737488355328 := by have := Nat.mul_le_mul hlen hby; omega
  have hll : (enc y).length = 1 * i.size := by rw [henc]; omega
  obtain ⟨v', w', hr, h2, h3, -⟩ := run_append_own (P := P) w base t o.type e i z i.size i.bytes ht hi hz0 rfl rfl hzs hsz v l.length (l.flatMap enc) hown ⟨g, 0, none⟩ 1 c (enc y) hll hnews' (henc1 y) (by unfold maxLen; omega) hbb hbase
  have h4 := append_where (P := P) w ht hi hz0 hzs hsz hown hll hnews' (henc1 y) (by unfold maxLen; omega) hbb hr
  have h5 : Own base e i.size enc w' v' (l ++ [y]) := by
    unfold Own
    rw [List.flatMap_append, List.length_append]
    simpa using h2
  have h6 := h v' w' h5 h3 h4
  unfold Oper.wp execOp
  simp only [ho, resolve, invoke, builtin, Sem.run_bind, Sem.run_pure, Result.andThen_ok, List.map_toArray, List.map_cons, List.map_nil, hs, hx, hr]
  exact h6
theorem wpList_append2 {P : Program} {ops : Array Oper} {rest : List Oper} {o : Oper} {a : Act} {Q : Exit → Act → World → Prop} {w : World} {α : Type} (enc : α → List Value) (hgd : o.guard = none) (s x : Operand) (t : TypeId)
    (ho : o.op = .call { callee := .builtin .append, args := #[s, x], argTypes := #[t, t] }) (base : Nat) (e : TypeId) (z : Value) (sz bytes : Nat)
    (ht : P.underlying t = some (.slice e)) (hinfo : (P.info? e).map (fun i => (i.zero, i.size, i.bytes)) = some (some z, sz, bytes)) (hzs : z.cells.size = sz) (hsz : 0 < sz)
    (henc : ∀ y, (enc y).length = sz) (henc1 : ∀ y, ∀ u ∈ enc y, u.oneCell' = true) (v : Value) (l : List α) (hs : a.eval s = v) (hown : Own base e sz enc w v l)
    (g c : Nat) (y : α) (hx : a.eval x = .slice (some ⟨g, 0, none⟩) 1 c) (hnews : ∀ i u, (enc y)[i]? = some u → w.cell? ⟨g, i, none⟩ = some u)
    (hlen : l.length + 1 ≤ 1000000) (hby : bytes ≤ 1000) (hbase : base ≤ w.heap.size)
    (h : ∀ v' w', Own base e sz enc w' v' (l ++ [y]) → w.grownBy w' v.ownBlock → (∀ k, v'.ownBlock = some k → v.ownBlock = some k ∨ w.heap.size ≤ k) → wpList P ops Q rest (a.put o.dst v') w') : wpList P ops Q (o :: rest) a w :=
  wpList_plain hgd fun _ hK => wp_append2 enc s x t ho base e z sz bytes ht hinfo hzs hsz henc henc1 v l hs hown g c y hx hnews hlen hby hbase fun v' w' h1 h2 h3 => hK _ _ (h v' w' h1 h2 h3)
end Go.Proofs.Ytjddcaimjofihaa
