/- A cellar that comes in reads as a cellar in memory; no condition. -/
import Derived.Test.YtjddcaimjofihaaB0
import Derived.Test.YtjddcaimjofihaaRows
import Derived.WalkKit
import Derived.ProofKit
import Derived.OpenShut
import Derived.ChangeOld
import Derived.Below
import Derived.Deep.Slices
import Derived.Deep.Strs
import Derived.Lib.SmallJoins
namespace Go.Proofs.Ytjddcaimjofihaa
open Go.ChangeShapes Go.WideShapes Go.ChangeAt Go.RowKit Go.Deep
set_option maxRecDepth 100000

theorem cell_lt {w : World} {a : Addr} {v : Value} (h : w.cell? a = some v) : a.block < w.heap.size := by
  rcases Nat.lt_or_ge a.block w.heap.size with hlt | hge
  · exact hlt
  · exfalso
    unfold World.cell? at h
    rw [Array.getElem?_eq_none hge] at h
    simp at h

section
variable {H : Type} {enc : TypeId × Value → H} {P : Program} {W : World}
/-- A slice that is read, as a slice of what its elements are. -/
theorem sl_of_trod {α : Type} [Inhabited α] {sz : Nat} {en : α → List Value} {G : α → Prop} {t e : TypeId} (ht : P.underlying t = some (.slice e)) (hc : P.cellsOf e = sz) (hsz : 0 < sz)
    (elem : ∀ (n : Nat) (cs : List Value) (x : DataW H × List MemPlace), DataW.trod enc P W 0 (fun _ => true) true n e cs = some x → cs.length = sz → ∃ y : α, cs = en y ∧ G y)
    {fuel : Nat} {v : Value} {x : DataW H × List MemPlace} (h : DataW.trod enc P W 0 (fun _ => true) true fuel t [v] = some x) : ∃ l : List α, Sl sz en (Lt W.heap.size) W v l ∧ ∀ y ∈ l, G y := by
  rcases open_slice ht h with ⟨hcs, -⟩ | ⟨a, len, cap, m, n, D, Pl, hcs, -, hl, -, hm, -, hx⟩
  · simp only [List.cons.injEq, and_true] at hcs
    subst hcs
    exact ⟨[], Sl.nil, by simp⟩
  · simp only [List.cons.injEq, and_true] at hcs
    subst hcs
    have hm' : len ≤ m := by rw [hm]; simp [hl]
    have hall : ∀ i, i < len → ∃ y : α, (∀ k c, (en y)[k]? = some c → W.cell? (a.add (i * sz + k)) = some c) ∧ G y ∧ (en y).length = sz := fun i hi => by
      obtain ⟨cs', h1, h2⟩ := hx i (by omega)
      rw [hc] at h1
      obtain ⟨-, hlen, hcell⟩ := World.cells?_some h1
      obtain ⟨y, rfl, hg⟩ := elem n cs' _ h2 hlen
      refine ⟨y, fun k c hk => ?_, hg, hlen⟩
      have hk' : k < sz := by rw [← hlen]; exact (List.getElem?_eq_some_iff.1 hk).1
      rw [← Go.Deep.add_add, hcell k hk', hk]
    obtain ⟨f, hf⟩ := choose_lt hall
    refine ⟨(List.range len).map f, ⟨some a, cap, by simp, by simpa using hl, ?_⟩, fun y hy => ?_⟩
    · rcases Nat.eq_zero_or_pos len with h0 | h0
      · left; subst h0; rfl
      · right
        obtain ⟨g0, -, g2⟩ := hf 0 h0
        have h00 := g0 0 ((en (f 0))[0]'(by omega)) (List.getElem?_eq_getElem _)
        obtain ⟨b, off, spot⟩ := a
        have hs : spot = none := by simpa [Addr.add] using World.cell?_spot h00
        subst hs
        refine ⟨b, off, rfl, ?_, fun j x hj k c hk => ?_⟩
        · have := cell_lt h00
          show b < _
          simpa [Addr.add] using this
        · have hjl : j < len := by have := (List.getElem?_eq_some_iff.1 hj).1; simpa using this
          have hxj : x = f j := by
            rw [List.getElem?_map, List.getElem?_range hjl] at hj
            simpa using hj.symm
          subst hxj
          have := (hf j hjl).1 k c hk
          rw [Addr.add_lit] at this
          rw [← this]
          congr 2
          omega
    · obtain ⟨i, hi, rfl⟩ := List.mem_map.1 hy
      exact (hf i (by simpa using hi)).2.1
end

section
variable {H : Type} {enc : TypeId × Value → H} {W : World}
theorem ints_of_trod {t : TypeId} (ht : Try.prog.underlying t = some (.slice 3)) {fuel : Nat} {v : Value} {x : DataW H × List MemPlace} (h : DataW.trod enc Try.prog W 0 (fun _ => true) true fuel t [v] = some x) : ∃ l : List Int, Ints (Lt W.heap.size) W v l := by
  obtain ⟨l, h1, -⟩ := sl_of_trod (α := Int) (sz := 1) (en := fun n : Int => [Value.int .i64 n]) (G := fun _ => True) ht (by kernel_rfl) (by omega) (fun n cs x hx _ => by
    obtain ⟨y, rfl, -⟩ := DataW.trod_int (k := .i64) (by kernel_rfl) hx
    exact ⟨y, rfl, trivial⟩) h
  exact ⟨l, h1⟩
theorem range_of_trod {n : Nat} {cs : List Value} {x : DataW H × List MemPlace} (h : DataW.trod enc Try.prog W 0 (fun _ => true) true n 66 cs = some x) (hl : cs.length = 2) : ∃ y : Rg, cs = [Value.int .i64 y.lo, Value.int .i64 y.hi] := by
  obtain ⟨y0, y1, m, -, -, h0, h1⟩ := trod_struct2 Try.underlying66 h
  match cs, hl with
  | [a, b], _ =>
    obtain ⟨p, hp, -⟩ := DataW.trod_int (k := .i64) (by kernel_rfl) h0
    obtain ⟨q, hq, -⟩ := DataW.trod_int (k := .i64) (by kernel_rfl) h1
    refine ⟨⟨p, q⟩, ?_⟩
    have e0 : [a] = [Value.int .i64 p] := hp
    have e1 : [b] = [Value.int .i64 q] := hq
    simp only [List.cons.injEq, and_true] at e0 e1
    rw [e0, e1]
theorem trial_of_trod {n : Nat} {cs : List Value} {x : DataW H × List MemPlace} (h : DataW.trod enc Try.prog W 0 (fun _ => true) true n 68 cs = some x) (hl : cs.length = 4) : ∃ y : Tl, cs = [Value.bool y.cask, Value.int .i64 y.num, Value.int .i64 y.s.lo, Value.int .i64 y.s.hi] := by
  obtain ⟨y0, y1, y2, m, -, -, h0, h1, h2⟩ := trod_struct3 Try.underlying68 h
  match cs, hl with
  | [a, b, c, d], _ =>
    obtain ⟨p, hp, -⟩ := DataW.trod_bool (by kernel_rfl) h0
    obtain ⟨q, hq, -⟩ := DataW.trod_int (k := .i64) (by kernel_rfl) h1
    have e2 : DataW.trod enc Try.prog W 0 (fun _ => true) true m 66 [c, d] = some y2 := h2
    obtain ⟨s, hs⟩ := range_of_trod e2 rfl
    refine ⟨⟨p, q, s⟩, ?_⟩
    have e0 : [a] = [Value.bool p] := hp
    have e1 : [b] = [Value.int .i64 q] := hq
    simp only [List.cons.injEq, and_true] at e0 e1 hs
    rw [e0, e1, hs.1, hs.2]
theorem ceV_of_trod {b0 : Nat} {v : Value} {d : DataW H} {p : List MemPlace} (hok : Value.okWide Try.prog W .any b0 26 v) (h : DataW.Trod enc Try.prog W 0 (fun _ => true) true 26 v d p) : ∃ c, CeV (Lt W.heap.size) W v c := by
  obtain ⟨c0, c1, c2, y0, y1, y2, m, rfl, -, -, h0, h1, h2⟩ := Go.Joins.open_agg3 Try.underlying26 (by kernel_rfl) (by kernel_rfl) hok h
  obtain ⟨hs, H1, -⟩ := sl_of_trod (α := Rg) (sz := 2) (en := fun r : Rg => [Value.int .i64 r.lo, Value.int .i64 r.hi]) (G := fun _ => True) (t := 22) (e := 66) (by kernel_rfl) (by kernel_rfl) (by omega) (fun n cs x hx hl => by
    obtain ⟨y, hy⟩ := range_of_trod hx hl
    exact ⟨y, hy, trivial⟩) h0
  obtain ⟨ks, H2, G2⟩ := sl_of_trod (α := Value × List Int) (sz := 1) (en := fun p : Value × List Int => [p.1]) (G := fun p => Ints (Lt W.heap.size) W p.1 p.2) (t := 23) (e := 47) (by kernel_rfl) (by kernel_rfl) (by omega) (fun n cs x hx hl => by
    match cs, hl with
    | [u], _ =>
      obtain ⟨l, hl⟩ := ints_of_trod (t := 47) (by kernel_rfl) hx
      exact ⟨(u, l), rfl, hl⟩) h1
  obtain ⟨ts, H3, -⟩ := sl_of_trod (α := Tl) (sz := 4) (en := fun t : Tl => [Value.bool t.cask, Value.int .i64 t.num, Value.int .i64 t.s.lo, Value.int .i64 t.s.hi]) (G := fun _ => True) (t := 24) (e := 68) (by kernel_rfl) (by kernel_rfl) (by omega) (fun n cs x hx hl => by
    obtain ⟨y, hy⟩ := trial_of_trod hx hl
    exact ⟨y, hy, trivial⟩) h2
  refine ⟨⟨hs, ks.map (·.2), ts⟩, c0, c1, c2, rfl, H1, ⟨ks.map (·.1), by simp, ?_, fun j x l hx hl => ?_⟩, H3⟩
  · obtain ⟨a, cap, rfl, hcap, hor⟩ := H2
    refine ⟨a, cap, by simp, by simpa using hcap, ?_⟩
    rcases hor with rfl | ⟨b, off, rfl, hb, hc⟩
    · left; rfl
    · right
      refine ⟨b, off, rfl, hb, fun j x hj i c hi => ?_⟩
      rw [List.getElem?_map] at hj
      cases e : ks[j]? with
      | none => rw [e] at hj; cases hj
      | some q =>
        rw [e] at hj
        simp only [Option.map_some, Option.some.injEq] at hj
        subst hj
        exact hc j q e i c hi
  · rw [List.getElem?_map] at hx hl
    cases e : ks[j]? with
    | none => rw [e] at hx; cases hx
    | some q =>
      rw [e] at hx hl
      simp only [Option.map_some, Option.some.injEq] at hx hl
      subst hx; subst hl
      exact G2 q (List.mem_of_getElem? e)
end
end Go.Proofs.Ytjddcaimjofihaa
